/- Parts of the proof, one behind the other: Yd, Yg, Ye, Ls, Il, Ir. -/
import Derived.Test.YtebnelihlgdciaaGreatM7
import Derived.BigQuiet
import Derived.Deep.CutBlock
import Derived.Shelf.SlSortCmp.WholeK
import Derived.Ground.SlsfProg
import Derived.Test.YtebnelihlgdciaaGreatProg
import Derived.Shelf.SlSortCmp.NoneTotal

/- bman: Large, Release, Geometry, FreeBlocks, Longest. -/
namespace Go.Proofs.YtebnelihlgdciaaGreat
open Go.RowKit
set_option linter.unusedVariables false

section
variable {P : Program} {C : World → Prop} {ops : Array Oper} {rest : List Oper} {o : Oper} {a : Act} {Q : Act → Prop}
theorem wpQuiet_slice_from {x lo : Operand} {t e : TypeId} {z : Value} {size bytes : Nat} (E : Elem P t e z size bytes) {ad : Option Addr} {n cap : Nat} {k : IntKind} {L : Int} (l : Nat)
    (hL : L = (l : Int)) (hl : l ≤ n) (hn : n ≤ cap)
    (hgd : o.guard = none) (ho : o.op = .slice t x (some lo) none none) (hx : a.eval x = .slice ad n cap) (hlo : a.eval lo = .int k L)
    (hK : wpQuiet P ops C Q rest (a.put o.dst (.slice (if cap = l then ad else ad.map (·.add (l * size))) (n - l) (cap - l)))) :
    wpQuiet P ops C Q (o :: rest) a := by
  subst hL
  have hw : Region.wanted o (yielded ops a.tmps) = true := by simp [Region.wanted, hgd]
  unfold wpQuiet
  rw [if_pos hw]
  refine ⟨_, fun w hC => ?_, hK⟩
  have hr := run_slice_any (w := w) E ad n cap l n (some (.int k l)) none (by
    have : (0 : Int) ≤ (l : Int) ∧ (l : Int) ≤ (n : Int) := by omega
    simp [Instr.sliceBounds, Instr.sliceBound, asIntOf, hl, hn, Nat.le_trans hl hn])
  unfold Oper.quietAt
  simp only [execOp, ho, hx, hlo, Option.map_some, Option.map_none]
  simp [hr, Result.andThen, Oper.quietUpon]
end

theorem takeR_fit {l : List Bool} {z : Nat} (hz : 1 ≤ z) (h : (takeR l z).2.2 = 0) : ∃ a k : Nat, takeR l z = (setTo l a false z, (a : Int), 0) ∧ IsRun (fb l) a k ∧ z ≤ k ∧ a + z ≤ l.length := by
  cases hp : pick z (runsOf l) with
  | none => rw [takeR_none hz hp] at h; simp at h
  | some x =>
    obtain ⟨hr, hk⟩ := pick_run hp
    have := runEnds hr
    exact ⟨x.1, x.2, takeR_some hz hp, hr, hk, by omega⟩

def Bm.large (m : Bm) (n : Int) : BmR :=
  if n < 1 ∨ 256 ≤ n then ⟨m, 0, 1⟩ else
  if (takeR m.free n).2.2 ≠ 0 then ⟨⟨m.dev, m.list, (takeR m.free n).1⟩, 0, (takeR m.free n).2.2⟩ else
  if (putAll m.dev m.list ((takeR m.free n).2.1 + 1) ((hdRun n.toNat n.toNat).drop 1)).err ≠ 0 then
    ⟨⟨(putAll m.dev m.list ((takeR m.free n).2.1 + 1) ((hdRun n.toNat n.toNat).drop 1)).dev, (putAll m.dev m.list ((takeR m.free n).2.1 + 1) ((hdRun n.toNat n.toNat).drop 1)).list, (takeR m.free n).1⟩, 0,
      (putAll m.dev m.list ((takeR m.free n).2.1 + 1) ((hdRun n.toNat n.toNat).drop 1)).err⟩ else
  ⟨⟨(putAll (putAll m.dev m.list ((takeR m.free n).2.1 + 1) ((hdRun n.toNat n.toNat).drop 1)).dev (putAll m.dev m.list ((takeR m.free n).2.1 + 1) ((hdRun n.toNat n.toNat).drop 1)).list (takeR m.free n).2.1 [⟨2, 0, n⟩]).dev,
    (putAll (putAll m.dev m.list ((takeR m.free n).2.1 + 1) ((hdRun n.toNat n.toNat).drop 1)).dev (putAll m.dev m.list ((takeR m.free n).2.1 + 1) ((hdRun n.toNat n.toNat).drop 1)).list (takeR m.free n).2.1 [⟨2, 0, n⟩]).list, (takeR m.free n).1⟩,
    if (putAll (putAll m.dev m.list ((takeR m.free n).2.1 + 1) ((hdRun n.toNat n.toNat).drop 1)).dev (putAll m.dev m.list ((takeR m.free n).2.1 + 1) ((hdRun n.toNat n.toNat).drop 1)).list (takeR m.free n).2.1 [⟨2, 0, n⟩]).err = 0 then (takeR m.free n).2.1 else 0,
    (putAll (putAll m.dev m.list ((takeR m.free n).2.1 + 1) ((hdRun n.toNat n.toNat).drop 1)).dev (putAll m.dev m.list ((takeR m.free n).2.1 + 1) ((hdRun n.toNat n.toNat).drop 1)).list (takeR m.free n).2.1 [⟨2, 0, n⟩]).err⟩

theorem putAll_none (S : Dev) {L : List Hd} {b : Int} (h1 : 1 ≤ b) (h2 : b ≤ (L.length : Int)) : putAll S L b [] = ⟨S, L, 0⟩ := by
  unfold putAll
  rw [if_neg, if_pos (show ([] : List Hd).length = 0 from rfl)]
  rintro (h | h | h | h)
  · omega
  · omega
  · simp at h; omega
  · exact h (fun i hi => absurd hi (Nat.not_lt_zero _))
theorem putTo_inv {S : Dev} (h : S.inv) (L : List Hd) (b : Nat) (l : List Hd) : ∀ i, (putTo S L b l i).dev.inv
  | 0 => h
  | i + 1 => by
    have := putTo_inv h L b l i
    unfold putTo putStep
    split
    · exact this
    · exact Dev.store_inv this _ _ (encN_lt _ _ _ _)
theorem putAll_inv {S : Dev} (h : S.inv) (L : List Hd) (b : Int) (l : List Hd) : (putAll S L b l).dev.inv := by
  unfold putAll
  split
  · exact h
  · split
    · exact h
    · unfold putIn
      split
      · exact putTo_inv h _ _ _ _
      · exact Dev.persist_inv (putTo_inv h _ _ _ _) _ _
theorem putAll_len (S : Dev) (L : List Hd) (b : Int) (l : List Hd) : (putAll S L b l).list.length = L.length := by
  unfold putAll
  split
  · rfl
  · split
    · rfl
    · unfold putIn
      split
      · exact putTo_len _ _ _ _ _
      · exact putTo_len _ _ _ _ _
theorem putAll_ok {S : Dev} {N : Nat} (hw : S.inv) (h : S.ok N) (L : List Hd) (b : Int) (l : List Hd) : (putAll S L b l).dev.ok (N + l.length + 200000) := by
  unfold putAll
  split
  · exact h.mono (by omega)
  · split
    · exact h.mono (by omega)
    · unfold putIn
      have ho := putTo_ok h L b.toNat l l.length
      split
      · exact ho.mono (by omega)
      · exact Dev.persist_ok (putTo_inv hw L b.toNat l l.length).wf ho _ _

set_option maxHeartbeats 4000000 in
set_option maxRecDepth 20000 in
theorem blarge_any {w : World} {X : MF} {n B : Nat} {m : Bm} (h : ManAt w X n B m) (hB : B ≤ 1000) (hn : n < 1000000000000) {N : Nat} (hN : N ≤ 999000000) (ho : m.dev.ok N) (hi : m.dev.inv) (z : Int) :
    Calls Tryz.prog 14 #[.pointer (some ⟨X.m, 0, none⟩), .int .i64 z] w (BmDone w X (n + 1) B (m.large z)) := by
  generalize hr : m.large z = r
  generalize hP : BmDone w X (n + 1) B r = Post
  have HP := Lib.hid hP
  have HV := Lib.hid hr.symm
  have HA := Lib.hid h
  have HLB : Hid (m.list.length = B) := Lib.hid h.tab.len
  have HLF : Hid (m.free.length = B) := Lib.hid h.lenF
  clear h hP hr
  by_cases hz : z < 1 ∨ 256 ≤ z
  · have HE : Hid (r = ⟨m, 0, 1⟩) := Lib.hid (by rw [HV.out]; unfold Bm.large; rw [if_pos hz])
    have hz' : z < 1 ∨ (1 ≤ z ∧ 256 ≤ z) := by omega
    clear hz
    rcases hz' with hz | ⟨hz1, hz⟩
    all_goals
      go_enter Tryz.func14, Tryz.ntmps14
      go_wp2_with fail
      rw [← HP.out, HE.out]
      exact ⟨rfl, HA.out.mono (by omega), Touch.refl _ _⟩
  obtain ⟨k, rfl⟩ := Int.eq_ofNat_of_zero_le (show 0 ≤ z by omega)
  have hk1 : 1 ≤ k := by omega
  have hk2 : k < 256 := by omega
  have q1 : decide ((k : Int) < 1) = false := by simp; omega
  have q2 : decide (256 ≤ (k : Int)) = false := by simp; omega
  have HV2 : Hid (r = if (takeR m.free k).2.2 ≠ 0 then ⟨⟨m.dev, m.list, (takeR m.free k).1⟩, 0, (takeR m.free k).2.2⟩ else
      (fun r1 : PutR => if r1.err ≠ 0 then ⟨⟨r1.dev, r1.list, (takeR m.free k).1⟩, 0, r1.err⟩ else
        (fun r2 : PutR => ⟨⟨r2.dev, r2.list, (takeR m.free k).1⟩, if r2.err = 0 then (takeR m.free k).2.1 else 0, r2.err⟩) (putAll r1.dev r1.list (takeR m.free k).2.1 [⟨2, 0, (k : Int)⟩]))
      (putAll m.dev m.list ((takeR m.free k).2.1 + 1) ((hdRun k k).drop 1))) := Lib.hid (by rw [HV.out]; unfold Bm.large; rw [if_neg hz]; rfl)
  have HFit := Lib.hid (takeR_fit (l := m.free) hk1)
  clear HV hz
  have c1 := HA.out.c1
  go_enter Tryz.func14, Tryz.ntmps14
  go_wp2_with fail
  refine (mtake_any HA.out hB hn k).mono ?_
  rintro e w2 ⟨rfl, ha2, ht2⟩
  generalize takeR m.free k = t at *
  obtain ⟨f2, b2, e2⟩ := t
  dsimp only at ha2 HV2 HFit ⊢
  have HA2 := Lib.hid ha2
  have HT2 := Lib.hid ht2
  clear ha2 ht2 c1
  by_cases he : e2 = 0
  case neg =>
    have HE : Hid (r = ⟨⟨m.dev, m.list, f2⟩, 0, e2⟩) := Lib.hid (by rw [HV2.out, if_pos he])
    have he' : (e2 != 0) = true := by simpa using he
    clear he
    go_wp2_with fail
    rw [← HP.out, HE.out]
    exact ⟨rfl, HA2.out, HT2.out⟩
  subst he
  obtain ⟨a, c, hta, _, _, hfit⟩ := HFit.out rfl
  obtain rfl : b2 = (a : Int) := congrArg (fun t => t.2.1) hta
  have hfit' : a + k ≤ B := by rw [← HLF.out]; exact hfit
  clear hta hfit HFit
  obtain ⟨r1, hr1⟩ : ∃ r1, r1 = putAll m.dev m.list ((a : Int) + 1) ((hdRun k k).drop 1) := ⟨_, rfl⟩
  rw [← hr1] at HV2
  have HR1 := Lib.hid hr1
  have HOk1 : Hid (r1.dev.ok (N + k + 200000)) := Lib.hid (by
    have := putAll_ok hi ho m.list ((a : Int) + 1) ((hdRun k k).drop 1)
    rw [← hr1] at this
    exact this.mono (by rw [List.length_drop, hdRun_len]; omega))
  have HV3 : Hid (r = if r1.err ≠ 0 then ⟨⟨r1.dev, r1.list, f2⟩, 0, r1.err⟩ else
      ⟨⟨(putAll r1.dev r1.list (a : Int) [⟨2, 0, (k : Int)⟩]).dev, (putAll r1.dev r1.list (a : Int) [⟨2, 0, (k : Int)⟩]).list, f2⟩, if (putAll r1.dev r1.list (a : Int) [⟨2, 0, (k : Int)⟩]).err = 0 then (a : Int) else 0, (putAll r1.dev r1.list (a : Int) [⟨2, 0, (k : Int)⟩]).err⟩) := Lib.hid (by rw [HV2.out, if_neg (by simp)])
  clear hr1 HV2
  go_wp2_with fail
  refine (brun_any k (by omega) _).mono ?_
  rintro e w3 ⟨v, rfl, ho3, hb3⟩
  have HA3 := Lib.hid (HA2.out.below hb3)
  have HT3 := Lib.hid (HT2.out.later hb3)
  obtain ⟨g, cc, rfl, hcc, _, hgb⟩ := owned_some ho3 (by omega)
  have HR3 := Lib.hid (owned_row ho3)
  have HGn : Hid (g ∉ X.hot) := Lib.hid (HA2.out.lt (by
    rcases ho3.2 with ⟨hv, _⟩ | ⟨g', _, _, hv, hb', _⟩
    · cases hv
    · cases hv; exact hb'))
  clear ho3 hb3 hgb HA2 HT2
  go_upto_if 32 with fail
  go_cut [] from 11 (fun wc => r1.err = 0 ∧ ManAt wc X (n + 1) B ⟨r1.dev, r1.list, f2⟩ ∧ Touch X.hot w wc ∧ RowAt wc g 58 (hdCs (hdRun k k)))
  case first =>
    by_cases hk : k = 1
    · have q3 : decide (1 < (k : Int)) = false := by simp; omega
      have q3n : decide (1 < k) = false := by simp; omega
      have q3p : ¬ 1 < k := by omega
      have q3i : ¬ 1 < (k : Int) := by omega
      have HE : Hid (r1 = ⟨m.dev, m.list, 0⟩) := Lib.hid (by
        rw [HR1.out, List.drop_of_length_le (by rw [hdRun_len]; omega)]
        exact putAll_none _ (by omega) (by rw [HLB.out]; omega))
      clear hk
      go_wp2_with fail
      go_meet
      case rel => rw [HE.out]; exact ⟨rfl, HA3.out, HT3.out, HR3.out⟩
    · have q3 : 1 < (k : Int) := by omega
      have q3n : 1 < k := by omega
      have c0 := HA3.out.c0
      go_upto_region 8 with fail
      have r0 := fun x => later_cell c0 x
      clear c0
      have hw1 : IntKind.i64.wrap ((a : Int) + 1) = (a : Int) + 1 := IntWalk.i64_in _ (by omega)
      refine wp_region_seg (C := fun w' => ∃ x : Later (w3), w' = x.val) [.fl [0, 1, 2, 3, 4, 5, 6, 7], .sq [8, 9] false] (by kernel_rfl) (by kernel_rfl) (by intro c a d v w h; cases d <;> exact h) ?_
      simp only [segs, picks, List.getElem?_cons_succ, List.getElem?_cons_zero]
      have hC1 := later_drew w3
      refine wpSeg_fl hC1 ?_
      repeat (first | (refine wpQuiet_slice_from elHd (ad := some ⟨g, 0, none⟩) (n := k) (cap := cc) 1 rfl (by omega) hcc rfl rfl rfl rfl ?_) | go_big_quiet_step (fail) | quiet_step (fail))
      refine wpQuiet_nil ?_
      have HCs : Hid (Cells w3.drew (if cc = 1 then some ⟨g, 0, none⟩ else (some (⟨g, 0, none⟩ : Addr)).map (·.add (1 * 3))) (hdCs ((hdRun k k).drop 1))) := Lib.hid (by
        have h1 := (Cells.below HR3.out.cells (later_below hC1) (Nat.le_refl _)).shift (1 * 3) (cc = 1) (fun h => by omega)
        have h2 : (hdCs (hdRun k k)).drop (1 * 3) = hdCs ((hdRun k k).drop 1) := by
          have e : hdRun k k = (hdRun k k).take 1 ++ (hdRun k k).drop 1 := (List.take_append_drop _ _).symm
          have hl : (hdCs ((hdRun k k).take 1)).length = 1 * 3 := by rw [hdCs_length, List.length_take, hdRun_len, Nat.min_eq_left (by omega)]
          conv => lhs; rw [e]
          rw [hdCs_append, ← hl, List.drop_left]
        rw [h2] at h1
        exact h1)
      have HAd : Hid (∀ b o s, (if cc = 1 then some (⟨g, 0, none⟩ : Addr) else (some (⟨g, 0, none⟩ : Addr)).map (·.add (1 * 3))) = some ⟨b, o, s⟩ → b = g) := Lib.hid (by
        intro b o s h
        split at h
        · cases h; rfl
        · simp only [Option.map_some, add_none] at h; cases h; rfl)
      generalize (if cc = 1 then some (⟨g, 0, none⟩ : Addr) else (some (⟨g, 0, none⟩ : Addr)).map (·.add (1 * 3))) = ad at *
      refine wpSeg_last ?_
      go_wp2_with fail
      refine (mput_any (HA3.out.below (later_below hC1)) hB (by omega) ho ad (k - 1) (cc - 1) ((hdRun k k).drop 1) (by rw [List.length_drop, hdRun_len]) HCs.out (fun _ b o s e => by rw [HAd.out b o s e]; exact HGn.out) (by omega) ((a : Int) + 1)).mono ?_
      rintro e w4 ⟨rfl, ha4, ht4⟩
      dsimp only at ha4 ⊢
      rw [← HR1.out] at ha4 ⊢
      have HA4 := Lib.hid ha4
      have HT4 := Lib.hid ((HT3.out.later (later_below hC1)).trans ht4)
      have HR4 := Lib.hid ((HR3.out.keep ((later_below hC1).block g HR3.out.lt)).keep (ht4.block g (Nat.lt_of_lt_of_le HR3.out.lt (later_below hC1).size) HGn.out))
      clear ha4 ht4 hC1 HCs HAd r0
      obtain ⟨e1, he1⟩ : ∃ e1, e1 = r1.err := ⟨_, rfl⟩
      rw [← he1]
      by_cases hz : e1 = 0
      · subst hz
        have HE1 := Lib.hid he1
        clear he1
        go_wp2_with fail
        go_meet
        case rel => exact ⟨HE1.out.symm, HA4.out, HT4.out, HR4.out⟩
      · have hz' : (e1 != 0) = true := by simpa using hz
        have HE : Hid (r = ⟨⟨r1.dev, r1.list, f2⟩, 0, e1⟩) := Lib.hid (by rw [HV3.out, if_pos (by rw [← he1]; exact hz), ← he1])
        clear he1 hz
        go_wp2_with fail
        rw [← HP.out, HE.out]
        exact ⟨rfl, HA4.out, HT4.out⟩
  case rest =>
    obtain ⟨he1, ha4, ht4, hr4⟩ := hcut
    have HV4 : Hid (r = ⟨⟨(putAll r1.dev r1.list (a : Int) [⟨2, 0, (k : Int)⟩]).dev, (putAll r1.dev r1.list (a : Int) [⟨2, 0, (k : Int)⟩]).list, f2⟩, if (putAll r1.dev r1.list (a : Int) [⟨2, 0, (k : Int)⟩]).err = 0 then (a : Int) else 0, (putAll r1.dev r1.list (a : Int) [⟨2, 0, (k : Int)⟩]).err⟩) := Lib.hid (by rw [HV3.out, if_neg (by rw [he1]; simp)])
    have HA4 := Lib.hid ha4
    have HT4 := Lib.hid ht4
    have hg0 : (hdRun k k).getD 0 default = ⟨2, 0, (k : Int)⟩ := by rw [hdRun_getD k k 0 hk1, if_pos rfl]
    have hg := hdCs_at (hdRun k k) 0 (by rw [hdRun_len]; omega)
    rw [hg0] at hg
    have d0 : wc.cell? ⟨g, 0, none⟩ = some (.int .i64 2) := hr4.cell (hg 0 _ rfl)
    have d1 : wc.cell? ⟨g, 1, none⟩ = some (.int .i64 0) := hr4.cell (hg 1 _ rfl)
    have d2 : wc.cell? ⟨g, 2, none⟩ = some (.int .i64 (k : Int)) := hr4.cell (hg 2 _ rfl)
    have c0 := HA4.out.c0
    clear he1 ha4 ht4 hr4 hg0 hg HV3 HA3 HT3 HR3
    go_upto_region 11 with fail
    have r0 := fun x => later_cell d0 x
    have r1' := fun x => later_cell d1 x
    have r2 := fun x => later_cell d2 x
    have r3 := fun x => later_cell c0 x
    clear d0 d1 d2 c0
    have hk0 : 0 < (k : Int) := by omega
    refine wp_region_seg (C := fun w' => ∃ x : Later (wc), w' = x.val) [.fl [0, 1, 2, 3, 4, 5, 6, 7], .sq [8] true, .sq [9, 10] false] (by kernel_rfl) (by kernel_rfl) (by intro c a d v w h; cases d <;> exact h) ?_
    simp only [segs, picks, List.getElem?_cons_succ, List.getElem?_cons_zero]
    have hC1 := later_drew (wc)
    refine wpSeg_fl hC1 ?_
    repeat (first | go_big_quiet_step (fail) | quiet_step (fail))
    refine wpQuiet_nil ?_
    clear r0 r1' r2 r3
    refine wpSeg_sq (fun K hK => ?_)
    go_wp2_with fail
    have hbn := below_alloc wc.drew (.cells #[.int .i64 2, .int .i64 0, .int .i64 (k : Int)] 58)
    have hC2 := later_step hC1 hbn
    have HC2 : Hid (Cells (wc.drew.alloc (.cells #[.int .i64 2, .int .i64 0, .int .i64 (k : Int)] 58)) (some ⟨wc.drew.heap.size, 0, none⟩) (hdCs [⟨2, 0, (k : Int)⟩])) := Lib.hid (by
      rw [hdCs_single]
      exact (RowAt.cells ⟨_, heap_alloc_new _ _, [], rfl⟩))
    clear hbn
    go_wp2_with fail
    refine hK _ _ (fun _ => hC2) ?_
    clear hK K
    refine wpSeg_last ?_
    go_wp2_with fail
    refine (mput_any (HA4.out.below (later_below hC2)) hB (N := N + k + 200000) (by omega) HOk1.out _ 1 1 [⟨2, 0, (k : Int)⟩] rfl HC2.out (fun _ b o s e hm => ?_) (by omega) (a : Int)).mono ?_
    · cases e
      exact HA4.out.lt (by simp) hm
    rintro e w5 ⟨rfl, ha5, ht5⟩
    dsimp only at ha5 ⊢
    generalize putAll r1.dev r1.list (a : Int) [⟨2, 0, (k : Int)⟩] = pr at *
    have HA5 := Lib.hid ha5
    have HT5 := Lib.hid ((HT4.out.later (later_below hC2)).trans ht5)
    clear ha5 ht5 hC1 hC2
    by_cases hz : pr.err = 0
    · have HE : Hid (r = ⟨⟨pr.dev, pr.list, f2⟩, (a : Int), 0⟩) := Lib.hid (by rw [HV4.out, if_pos hz, hz])
      rw [hz]
      go_wp2_with fail
      rw [← HP.out, HE.out]
      exact ⟨rfl, HA5.out, HT5.out⟩
    · have HE : Hid (r = ⟨⟨pr.dev, pr.list, f2⟩, 0, pr.err⟩) := Lib.hid (by rw [HV4.out, if_neg hz])
      have hz' : (pr.err != 0) = true := by simpa using hz
      generalize pr.err = pe at *
      clear hz
      go_wp2_with fail
      rw [← HP.out, HE.out]
      exact ⟨rfl, HA5.out, HT5.out⟩

end Go.Proofs.YtebnelihlgdciaaGreat

/- ref10: Put. -/
namespace Go.Proofs.YtebnelihlgdciaaGreat
open Go.RowKit
set_option linter.unusedVariables false

theorem elRhd : Elem Tryz.prog 33 113 (.agg #[.int .i64 0, .int .i64 0, .int .i64 0]) 3 24 := Elem.mk' Tryz.underlying33 (by kernel_rfl) rfl (by decide)

theorem aggRhd : Agg Tryz.prog 113 #[.int .i64 0, .int .i64 0, .int .i64 0] := ⟨⟨_, Tryz.underlying113, rfl⟩, by kernel_rfl⟩
theorem store_fitN {S : Dev} {N : Nat} (h : S.fit N) (i : Int) (x : Nat) (hx : x < 18446744073709551616) : (S.store i x).fit (N + 1) := Dev.store_fit h i x hx
theorem putTo_fit {S : Dev} {N : Nat} (h : S.fit N) (L : List Hd) (b : Nat) (l : List Hd) : ∀ i, (putTo S L b l i).dev.fit (N + i)
  | 0 => h
  | i + 1 => by
    have := putTo_fit h L b l i
    unfold putTo putStep
    split
    · exact this.mono (by omega)
    · exact Dev.store_fit this _ _ (encN_lt _ _ _ _)
theorem putTo_dl (S : Dev) (L : List Hd) (b : Nat) (l : List Hd) : ∀ i, (putTo S L b l i).dev.dirty.length = S.dirty.length
  | 0 => rfl
  | i + 1 => by
    have := putTo_dl S L b l i
    unfold putTo putStep
    split
    · exact this
    · dsimp only; rw [Dev.store_dl]; exact this
theorem putAll_fit {S : Dev} {N : Nat} (h : S.fit N) (L : List Hd) (b : Int) (l : List Hd) : (putAll S L b l).dev.fit (N + l.length + 200000) := by
  unfold putAll
  split
  · exact h.mono (by omega)
  · split
    · exact h.mono (by omega)
    · unfold putIn
      have ho := putTo_fit h L b.toNat l l.length
      split
      · exact ho.mono (by omega)
      · exact Dev.persist_fit ho _ _
theorem putAll_dl (S : Dev) (L : List Hd) (b : Int) (l : List Hd) : (putAll S L b l).dev.dirty.length = S.dirty.length := by
  unfold putAll
  split
  · rfl
  · split
    · rfl
    · unfold putIn
      split
      · exact putTo_dl _ _ _ _ _
      · dsimp only; rw [Dev.persist_dl]; exact putTo_dl _ _ _ _ _

/-- Three results: a struct in a block, two slots. -/
theorem results_cell_first {P : Program} {fn : Func} {p s u : Tmp} {ty : TypeId} (h : fn.results = #[.cell p ty, .tmp s, .tmp u]) (tmps : Array Value) (w : World) (g : Nat) (t : TypeId) (cs : Array Value) (fr : Nat × Nat) (d : TypeDesc)
    (hp : tmps.getD p undef = .pointer (some ⟨g, 0, none⟩)) (hg : w.heap[g]? = some (.cells cs t fr))
    (hu : P.underlying ty = some d) (hd : (match d with | .struct _ | .array _ _ => true | _ => false) = true) (hi : (P.info? ty).map (·.size) = some cs.size) :
    (results fn tmps).run P w = .ok (.tuple #[.agg cs, tmps.getD s undef, tmps.getD u undef]) w := by
  have hp' : tmps[p]?.getD undef = .pointer (some ⟨g, 0, none⟩) := by simpa using hp
  simp [results, h, hp', asAddr, run_loadVar_row w g t ty cs fr d hg hu hd hi]

theorem infoD (cs : Array Value) (h : cs.size = 8) : (Tryz.prog.info? 32).map (·.size) = some cs.toList.toArray.size := by
  rw [Array.toArray_toList, h]; kernel_rfl
theorem Cells.touched {w w' : World} {a : Option Addr} {vs : List Value} {k : Nat} (h : Cells w a vs) (ht : Touch [k] w w') (hk : ∀ b o s, a = some ⟨b, o, s⟩ → vs ≠ [] → b ≠ k) : Cells w' a vs := by
  rcases h with h | ⟨b, off, rfl, h⟩
  · exact .inl h
  · by_cases hv : vs = []
    · exact .inl hv
    · exact .inr ⟨b, off, rfl, fun i v hi => cell_of_touch ht (by simp; exact hk b off none rfl hv) (h i v hi)⟩
theorem Cells.old {w : World} {a : Option Addr} {vs : List Value} (h : Cells w a vs) : ∀ b o s, a = some ⟨b, o, s⟩ → vs ≠ [] → b < w.heap.size := by
  intro b o s e hv
  subst e
  rcases h with h | ⟨b', off, he, h⟩
  · exact absurd h hv
  · cases he
    cases vs with
    | nil => exact absurd rfl hv
    | cons x xs => exact World.block_lt_of_cell? _ _ (h 0 x rfl)

/-- What the reference's Put leaves. -/
def RPut (w : World) (D : Array Value) (aL : Option Addr) (m B : Nat) (r : PutR) : Ending → World → Prop := fun e w' => ∃ (D' : Array Value) (aL' : Option Addr) (cL' : Nat), e = .returned (.tuple #[.agg D', .slice aL' B cL', .int .i64 r.err]) ∧
  RAt w' (.agg D') m r.dev.ref ∧ Cells w' aL' (hdCs r.list) ∧ (∀ k, RIn (.agg D') k → RIn (.agg D) k ∨ w.heap.size ≤ k) ∧ (aL' = aL ∨ ∃ g, aL' = some ⟨g, 0, none⟩ ∧ w.heap.size ≤ g) ∧ Below w.heap.size w w'

set_option maxHeartbeats 8000000 in
set_option maxRecDepth 100000 in
theorem rput10_any {w : World} {D : Array Value} {m : Nat} {S : Dev} (hm : S.dirty.length = m) (hm0 : 0 < m) (h : RAt w (.agg D) m S.ref) {N : Nat} (hN : N ≤ 100000000) (hf : S.fit N)
    (aL : Option Addr) (B cL : Nat) (L : List Hd) (hLn : L.length = B) (hB : B ≤ 1000) (hcL : Cells w aL (hdCs L))
    (a : Option Addr) (n cap : Nat) (l : List Hd) (hn : l.length = n) (hc : Cells w a (hdCs l)) (hn9 : n ≤ 2 ^ 63 - 1) (b : Int) (hb9 : -9223372036854775808 ≤ b ∧ b ≤ 9223372036854775807) :
    Calls Tryz.prog 87 #[.agg D, .slice aL B cL, .int .i64 b, .slice a n cap] w (RPut w D aL m B (putAll S L b l)) := by
  obtain ⟨hDs, hDo⟩ := h.arr
  have HOld := Lib.hid (h.oldp hm0)
  have HLo := Lib.hid hcL.old
  generalize hr : putAll S L b l = r
  generalize hP : RPut w D aL m B r = Post
  have HR := Lib.hid hr
  have HP := Lib.hid hP
  have HDs := Lib.hid hDs
  have HDo := Lib.hid hDo
  have HM := Lib.hid (Mem.two w D 32 zeroD 32)
  have HRA := Lib.hid (h.below HM.out.below (Nat.le_refl _))
  have HCL := Lib.hid (hcL.below HM.out.below (Nat.le_refl _))
  have HC := Lib.hid (hc.below HM.out.below (Nat.le_refl _))
  have HC0 := Lib.hid hc
  have HLn := Lib.hid hLn
  have HN := Lib.hid hn
  have HF := Lib.hid hf
  have HMl := Lib.hid hm
  clear h hcL hc hr hP hDs hDo hLn hn hf hm
  go_enter Tryz.func87, Tryz.ntmps87
  go_upto_region 1 with fail
  rw [show (#[.slice none 0 0, .slice none 0 0, .slice none 0 0, .slice none 0 0, .slice none 0 0, .int .i64 0, .int .i64 0, .bool false] : Array Value) = zeroD from rfl]
  generalize (w.alloc _).alloc _ = w0 at *
  obtain ⟨q, hq⟩ : ∃ q, q = w.heap.size := ⟨_, rfl⟩
  rw [← hq] at HM ⊢
  have HQ := Lib.hid hq
  clear hq
  have HAp : Hid (Apart (.agg D) [q, q + 1]) := Lib.hid (Apart.of (q := q) (fun b hb => by rw [HQ.out]; exact HOld.out b hb) (by simp))
  have HLq : Hid (∀ b o s, aL = some ⟨b, o, s⟩ → hdCs L ≠ [] → b ≠ q + 1) := Lib.hid (fun b o s e hv => by have := HLo.out b o s e hv; have := HQ.out; omega)
  by_cases h1 : b < 1 ∨ (B : Int) < b ∨ (B : Int) - b < (n : Int)
  · have HE : Hid (r = ⟨S, L, 1⟩) := Lib.hid (by
      rw [← HR.out]; unfold putAll
      rw [if_pos (by rw [HLn.out, HN.out]; rcases h1 with h | h | h; exact .inl h; exact .inr (.inl h); exact .inr (.inr (.inl h)))])
    have hcase : b < 1 ∨ (1 ≤ b ∧ (B : Int) < b) ∨ (1 ≤ b ∧ b ≤ (B : Int) ∧ (B : Int) - b < (n : Int)) := by omega
    have hw1 : 1 ≤ b → IntKind.i64.wrap ((B : Int) - b) = (B : Int) - b := fun _ => IntWalk.i64_in _ (by omega)
    clear h1
    rcases hcase with g1 | ⟨g1, g2⟩ | ⟨g1, g2, g3⟩
    all_goals
      try have hw2 := hw1 g1
      clear hw1
      go_wp2_with (first | (refine wpList_load_box aggRd HM.out 0 rfl HDs.out rfl rfl rfl ?_) | (refine wpList_store_mem aggRd HM.out 1 rfl rfl rfl rfl rfl HDs.out HDs.out.symm HDo.out ?_; intro w9 h9 ht9; have H9 := Lib.hid h9; have HT9 := Lib.hid ht9; clear h9 ht9))
      refine bodyPost_ret (results_cell_first rfl _ _ _ _ _ _ _ rfl (H9.out.exact 1 rfl) Tryz.underlying32 rfl (infoD _ HDs.out)) rfl ?_
      rw [← HP.out, HE.out]
      exact ⟨D, aL, cL, by simp, HRA.out.touched HT9.out HAp.out (by simp), HCL.out.touched HT9.out HLq.out, fun k hk => .inl hk, .inl rfl, H9.out.below⟩
  obtain ⟨j, rfl⟩ := Int.eq_ofNat_of_zero_le (show 0 ≤ b by omega)
  have hj1 : 1 ≤ j := by omega
  have hjn : j + n ≤ B := by omega
  have hw1 : IntKind.i64.wrap ((B : Int) - (j : Int)) = (B : Int) - (j : Int) := IntWalk.i64_in _ (by omega)
  have hn3 : n ≤ 1000 := by omega
  have g1 : decide ((j : Int) < 1) = false := by simp; omega
  have g2 : decide ((B : Int) < (j : Int)) = false := by simp; omega
  have g2n : decide (B < j) = false := by simp; omega
  have g3 : decide ((B : Int) - (j : Int) < (n : Int)) = false := by simp; omega
  clear h1 hn9 hb9
  go_wp2_with fail
  go_loopw [11] (fun i wr => ∃ k : Nat, k ≤ n ∧ i = .int .i64 (k : Int) ∧ allRight l k ∧ Below w0.heap.size w0 wr) (fun i _ => n - (intOf i).toNat)
  case atStart => exact ⟨0, Nat.zero_le _, rfl, fun i hi => absurd hi (Nat.not_lt_zero _), Below.refl _ _⟩
  case round =>
    obtain ⟨k, hk, rfl, har, hb⟩ := hrel
    have HAR := Lib.hid har
    have HB := Lib.hid hb
    clear har hb
    by_cases hlt : k < n
    · have hlt' : (k : Int) < (n : Int) := by omega
      have HAS : Hid (hdRight (l.getD k default).k (l.getD k default).c (l.getD k default).l = true → allRight l (k + 1)) := Lib.hid (fun hr i hi => by
        by_cases e : i = k
        · subst e; exact hr
        · exact HAR.out i (by omega))
      have HNA : Hid (hdRight (l.getD k default).k (l.getD k default).c (l.getD k default).l ≠ true → ¬ allRight l l.length) := Lib.hid (fun hr h => hr (h k (by rw [HN.out]; exact hlt)))
      obtain ⟨x, y, z, he⟩ : ∃ x y z, l.getD k default = ⟨x, y, z⟩ := ⟨_, _, _, rfl⟩
      rw [he] at HAS HNA
      obtain ⟨b1, o1, rfl, d0, d1, d2⟩ := hd_cells (HC.out.below HB.out (Nat.le_refl _)) (by rw [HN.out]; exact hlt) he
      clear he
      go_wp2_with fail
      refine (rhright_any x y z _).mono ?_
      rintro e w1 ⟨rfl, hb1⟩
      have HB1 := Lib.hid (HB.out.trans (hb1.mono HB.out.size))
      clear hb1
      cases hrt : hdRight x y z
      · have HE : Hid (r = ⟨S, L, 1⟩) := Lib.hid (by rw [← HR.out]; unfold putAll; rw [if_pos (.inr (.inr (.inr (HNA.out (by rw [hrt]; simp)))))])
        have HM1 := Lib.hid (HM.out.later HB1.out)
        have HRA1 := Lib.hid (HRA.out.below HB1.out (Nat.le_refl _))
        have HCL1 := Lib.hid (HCL.out.below HB1.out (Nat.le_refl _))
        clear hrt HM HRA HCL
        go_wp2_with (first | (refine wpList_load_box aggRd HM1.out 0 rfl HDs.out rfl rfl rfl ?_) | (refine wpList_store_mem aggRd HM1.out 1 rfl rfl rfl rfl rfl HDs.out HDs.out.symm HDo.out ?_; intro w9 h9 ht9; have H9 := Lib.hid h9; have HT9 := Lib.hid ht9; clear h9 ht9))
        refine bodyPost_ret (results_cell_first rfl _ _ _ _ _ _ _ rfl (H9.out.exact 1 rfl) Tryz.underlying32 rfl (infoD _ HDs.out)) rfl ?_
        rw [← HP.out, HE.out]
        exact ⟨D, aL, cL, by simp, HRA1.out.touched HT9.out HAp.out (by simp), HCL1.out.touched HT9.out HLq.out, fun k hk => .inl hk, .inl rfl, H9.out.below⟩
      · have HAR1 := Lib.hid (HAS.out hrt)
        clear hrt
        go_wp2_with fail
        go_roundw
        case rel => exact ⟨k + 1, by omega, vint (by omega), HAR1.out, HB1.out⟩
        case measure => simp [intOf]; omega
    · obtain rfl : k = n := by omega
      have hlt' : decide ((k : Int) < (k : Int)) = false := by simp
      have HAR2 : Hid (allRight l l.length) := Lib.hid (by rw [HN.out]; exact HAR.out)
      have HM1 := Lib.hid (HM.out.later HB.out)
      have HRA1 := Lib.hid (HRA.out.below HB.out (Nat.le_refl _))
      have HCL1 := Lib.hid (HCL.out.below HB.out (Nat.le_refl _))
      have HC1 := Lib.hid (HC.out.below HB.out (Nat.le_refl _))
      clear HM HRA HCL HC
      by_cases hk0 : k = 0
      · subst hk0
        have HE : Hid (r = ⟨S, L, 0⟩) := Lib.hid (by rw [← HR.out, putAll_in S hj1 (by rw [HLn.out, HN.out]; exact hjn) HAR2.out, if_pos HN.out])
        go_wp2_with (first | (refine wpList_load_box aggRd HM1.out 0 rfl HDs.out rfl rfl rfl ?_) | (refine wpList_store_mem aggRd HM1.out 1 rfl rfl rfl rfl rfl HDs.out HDs.out.symm HDo.out ?_; intro w9 h9 ht9; have H9 := Lib.hid h9; have HT9 := Lib.hid ht9; clear h9 ht9))
        refine bodyPost_ret (results_cell_first rfl _ _ _ _ _ _ _ rfl (H9.out.exact 1 rfl) Tryz.underlying32 rfl (infoD _ HDs.out)) rfl ?_
        rw [← HP.out, HE.out]
        exact ⟨D, aL, cL, by simp, HRA1.out.touched HT9.out HAp.out (by simp), HCL1.out.touched HT9.out HLq.out, fun k hk => .inl hk, .inl rfl, H9.out.below⟩
      have HE : Hid (r = putIn S L j l) := Lib.hid (by rw [← HR.out, putAll_in S hj1 (by rw [HLn.out, HN.out]; exact hjn) HAR2.out, if_neg (by rw [HN.out]; exact hk0)])
      have hk0' : ((k : Int) == 0) = false := by simp; omega
      have hlx := Lib.hid (Mem.alloc HM1.out #[] 113)
      have hb1 := below_alloc wr (.cells #[] 113)
      have HOx := Lib.hid (World.ownsRow_lit (base := wr.heap.size) (e := 113) (size := 3) wr #[] 0 (Nat.le_refl _) (by unfold maxLen; omega) rfl)
      have HCLx := Lib.hid (HCL1.out.below hb1 (Nat.le_refl _))
      have HM1x := Lib.hid (HM1.out.later hb1)
      have HRA1x := Lib.hid (HRA1.out.below hb1 (Nat.le_refl _))
      have HC1x := Lib.hid (HC1.out.below hb1 (Nat.le_refl _))
      have HLl : Hid ((hdCs L).length = B * 3) := Lib.hid (by rw [hdCs_length, HLn.out, Nat.mul_comm])
      have hone : Hid (∀ u ∈ hdCs L, u.oneCell' = true) := Lib.hid (hdCs_one _)
      have hbase := Lib.hid hb1.size
      have hn90 : 0 + B < 1000000000000 := by omega
      clear hb1 hlx
      go_wp2_with (at_builtin; refine wpList_append_cells elRhd HOx.out HCLx.out HLl.out hone.out hn90 (by decide) hbase.out rfl rfl rfl rfl ?_; intro v2 w2 ho2 hg2 hv2; have HO2 := Lib.hid ho2; have HG2 := Lib.hid hg2; have HV2 := Lib.hid hv2; clear ho2 hg2 hv2)
      have h2 := HO2.out
      rw [Nat.zero_add] at h2
      obtain ⟨g, c, rfl, h3, h4, h5, h6⟩ := owned_new h2 (fun e => by have := (HV2.out e).1; simp at this)
      have hbw : Below wr.heap.size wr w2 := below_grownBy (below_alloc wr (.cells #[] 113)) HOx.out HG2.out (Nat.le_refl _) (Nat.le_refl _)
      have HM3 := Lib.hid (HM1.out.row hbw (by simpa using h6) h3)
      have HRA3 := Lib.hid (HRA1.out.below hbw (Nat.le_refl _))
      have HC3 := Lib.hid (HC1.out.below hbw (Nat.le_refl _))
      have HGq : Hid (wr.heap.size ≤ g) := Lib.hid h3
      have HAp3 : Hid (Apart (.agg D) [q, q + 1, g]) := Lib.hid (Apart.of (q := q) (fun b hb => by rw [HQ.out]; exact HOld.out b hb) (by
        have := HM1.out.glt 1 rfl
        simp; omega))
      have HCap : Hid (B ≤ c) := Lib.hid h4
      have HW9 : Hid (w.heap.size ≤ wr.heap.size) := Lib.hid (HM1.out.below.size)
      have HCo := Lib.hid HC1.out.old
      have HWr : Hid (q + 2 ≤ wr.heap.size) := Lib.hid (by have := HM1.out.glt 1 rfl; omega)
      clear h2 h3 h4 h5 h6 hbw HO2 HG2 HV2 HOx HCLx HM1x HRA1x HC1x HLl hone hbase HCL1
      go_wp2_with fail
      go_loopw [13] (fun i wr => ∃ (k2 : Nat) (D2 : Array Value), k2 ≤ k ∧ i = .int .i64 (k2 : Int) ∧ (putTo S L j l k2).err = 0 ∧ Mem w wr [⟨q, 32, D2.toList, true⟩, ⟨q + 1, 32, zeroD.toList, true⟩, ⟨g, 113, hdCs (putTo S L j l k2).list, false⟩] ∧
        RAt wr (.agg D2) m (putTo S L j l k2).dev.ref ∧ Apart (.agg D2) [q, q + 1, g] ∧ (∀ b, RIn (.agg D2) b → RIn (.agg D) b ∨ w.heap.size ≤ b)) (fun i _ => k - (intOf i).toNat)
      case atStart => exact ⟨0, D, Nat.zero_le _, rfl, rfl, HM3.out, HRA3.out, HAp3.out, fun b hb => .inl hb⟩
      case round =>
        obtain ⟨k2, D2, hk2, rfl, he0, hmem, hra, hap, hri⟩ := hrel
        have HTf := Lib.hid (putTo_fit HF.out L j l k2)
        have HTl : Hid ((putTo S L j l k2).dev.dirty.length = m) := Lib.hid (by rw [putTo_dl]; exact HMl.out)
        have HST : Hid (putTo S L j l (k2 + 1) = putStep (putTo S L j l k2) (j + k2) (l.getD k2 default)) := Lib.hid rfl
        have HLk : Hid ((putTo S L j l k2).list.length = B) := Lib.hid (by rw [putTo_len]; exact HLn.out)
        have HFin : Hid (putIn S L j l = if (putTo S L j l k).err ≠ 0 then putTo S L j l k else ⟨((putTo S L j l k).dev.persist (256 + (j : Int)) k).dev, (putTo S L j l k).list, ((putTo S L j l k).dev.persist (256 + (j : Int)) k).err⟩) := Lib.hid (by unfold putIn; rw [HN.out])
        have HStay := Lib.hid (putTo_stays S L j l (k2 + 1))
        generalize hR : putTo S L j l k2 = R at *
        have HRR := Lib.hid hR
        have HE0 := Lib.hid he0
        have HMm := Lib.hid hmem
        have HR2 := Lib.hid hra
        have HA2 := Lib.hid hap
        have HI2 := Lib.hid hri
        obtain ⟨hDs2, hDo2⟩ := hra.arr
        have HDs2 := Lib.hid hDs2
        have HDo2 := Lib.hid hDo2
        have HOld2 := Lib.hid (hra.oldp hm0)
        clear hR he0 hmem hra hap hri hDs2 hDo2 HM3 HRA3 HAp3
        have c0 := HMm.out.cell 1 0 rfl rfl
        clear c0
        by_cases hmk : k2 < k
        · have hmk' : (k2 : Int) < (k : Int) := by omega
          obtain ⟨x, y, z, he⟩ : ∃ x y z, l.getD k2 default = ⟨x, y, z⟩ := ⟨_, _, _, rfl⟩
          rw [he] at HST
          have HXyz := Lib.hid he
          obtain ⟨b1, o1, rfl, d0, d1, d2⟩ := hd_cells (HC0.out.below HMm.out.below (Nat.le_refl _)) (by rw [HN.out]; exact hmk) he
          clear he
          have hw2 : IntKind.i64.wrap (256 + (j : Int)) = 256 + (j : Int) := IntWalk.i64_in _ (by omega)
          have hw3 : IntKind.i64.wrap (256 + (j : Int) + (k2 : Int)) = 256 + (j : Int) + (k2 : Int) := IntWalk.i64_in _ (by omega)
          have hw4 : IntKind.i64.wrap ((j : Int) + (k2 : Int)) = (j : Int) + (k2 : Int) := IntWalk.i64_in _ (by omega)
          have HEnc := Lib.hid (fun W => rencode_any ((j : Int) + (k2 : Int)) x y z (by omega) (by omega) W)
          have hEl := encN_lt ((j : Int) + (k2 : Int)) x y z
          have HPS : Hid (putTo S L j l (k2 + 1) = ⟨R.dev.store (256 + (j : Int) + (k2 : Int)) (encN ((j : Int) + (k2 : Int)) x y z), if R.dev.storeE (256 + (j : Int) + (k2 : Int)) = 0 then R.list.set (j + k2) ⟨x, y, z⟩ else R.list, R.dev.storeE (256 + (j : Int) + (k2 : Int))⟩) := Lib.hid (by
            rw [HST.out, putStep, if_neg (by rw [HE0.out]; simp), show (256 + ((j + k2 : Nat) : Int)) = 256 + (j : Int) + (k2 : Int) by omega, show ((j + k2 : Nat) : Int) = (j : Int) + (k2 : Int) by omega])
          have HSto := Lib.hid (fun W (h : RAt W (.agg D2) m R.dev.ref) => rstore_m HTl.out h (N := N + k2) (by omega) HTf.out (256 + (j : Int) + (k2 : Int)) (encN ((j : Int) + (k2 : Int)) x y z) hEl (by omega))
          generalize encN ((j : Int) + (k2 : Int)) x y z = E at *
          generalize R.dev.store (256 + (j : Int) + (k2 : Int)) E = T1 at *
          generalize R.dev.storeE (256 + (j : Int) + (k2 : Int)) = E1 at *
          clear hEl
          go_upto_region 14 with fail
          go_cut [14, 15] from 109 (fun v14 v15 wc => ∃ (p : Nat) (D3 : Array Value), v14 = .pointer (some ⟨p, 0, none⟩) ∧ v15 = .int .i64 E1 ∧ Mem w wc [⟨q, 32, D2.toList, true⟩, ⟨q + 1, 32, zeroD.toList, true⟩, ⟨g, 113, hdCs R.list, false⟩, ⟨p, 32, D3.toList, true⟩] ∧
            RAt wc (.agg D3) m T1.ref ∧ Apart (.agg D3) [q, q + 1, g, p] ∧ (∀ b, RIn (.agg D3) b → RIn (.agg D) b ∨ w.heap.size ≤ b))
          case first =>
            have hld : ∀ w', (∃ x : Later wr, w' = x.val) → ∀ i v, D2.toList[i]? = some v → w'.cell? ⟨q, 0 + i, none⟩ = some v := by
              rintro _ ⟨x, rfl⟩ i v hi
              rw [Nat.zero_add]
              exact later_cell (HMm.out.cell 0 i rfl hi) x
            have r0 := fun x => later_cell d0 x
            have r1 := fun x => later_cell d1 x
            have r2 := fun x => later_cell d2 x
            clear d0 d1 d2
            refine wp_region_tr (C := fun w' => ∃ x : Later (wr), w' = x.val) (.fl [0, 1, 2, 3, 4, 5, 6, 7, 8, 9, 10, 11] (.br 12 true (.br 13 false (.pu [14, 15, 16] (.sq [17] true (.sq [18, 19] false (.nil)))) 17 true (.sq [13, 14] false (.pu [15, 16] (.sq [18, 19] false (.nil))))) 17 true (.sq [12] true (.sq [13, 14] false (.pu [15, 16] (.sq [18, 19] false (.nil))))))) (by kernel_rfl) (by kernel_rfl) (by intro c a d v w h; cases d <;> exact h) ?_
            simp only [trO, picks, List.getElem?_cons_succ, List.getElem?_cons_zero]
            have hC1 := later_drew (wr)
            refine wpTr_fl hC1 ?_
            repeat (first | (refine wpQuiet_load_arr aggRd D2 hld HDs2.out rfl rfl rfl ?_) | go_big_quiet_step (fail) | quiet_step (fail))
            refine wpQuiet_nil ?_
            clear hld r0 r1 r2
            have HMd := Lib.hid (HMm.out.later (later_below hC1))
            have HRd := Lib.hid (HR2.out.below (later_below hC1) (Nat.le_refl _))
            have HOd : Hid (∀ b, RIn (.agg D2) b → b < wr.drew.heap.size) := Lib.hid (HRd.out.oldp hm0)
            have HBnd : Hid (∀ (W : World), Below wr.drew.heap.size wr.drew W → ∀ k ∈ [q, q + 1, g], k < W.heap.size) := Lib.hid (fun W hW k hk => by
              have h1 := HMd.out.glt 0 rfl
              have h2 := HMd.out.glt 1 rfl
              have h3 := HMd.out.glt 2 rfl
              have := hW.size
              simp only [List.mem_cons, List.not_mem_nil, or_false] at hk
              rcases hk with rfl | rfl | rfl <;> omega)
            generalize wr.drew = wd at *
            refine wpTr_br ?_ ?_
            · refine wpTr_sq (fun K hK => ?_)
              go_wp2_with fail
              refine (HEnc.out _).mono ?_
              rintro e w5 ⟨rfl, hb5⟩
              have hC2 := later_step hC1 hb5
              have HB5 := Lib.hid hb5
              have HM5 := Lib.hid (HMd.out.later hb5)
              have HR5 := Lib.hid (HRd.out.below hb5 (Nat.le_refl _))
              clear hb5
              go_wp2_with fail
              refine hK _ _ (fun _ => hC2) ?_
              clear hK K
              refine wpTr_br ?_ ?_
              · refine wpTr_sq (fun K hK => ?_)
                go_wp2_with fail
                refine (HSto.out _ HR5.out).mono ?_
                rintro e w6 ⟨v', rfl, hra6, hri6, hb6⟩
                obtain ⟨D3, rfl⟩ := hra6.agg
                have HM6 := Lib.hid ((HM5.out.later hb6).alloc zeroD 32)
                have HA6 : Hid (Apart (.agg D3) [q, q + 1, g, w6.heap.size]) := Lib.hid ((HA2.out.new hri6 (HBnd.out _ HB5.out)).more (hra6.oldp hm0))
                have HI6 : Hid (∀ b, RIn (.agg D3) b → RIn (.agg D) b ∨ w.heap.size ≤ b) := Lib.hid (fun b hb => (hri6 b hb).elim (HI2.out b) (fun h => .inr (Nat.le_trans HM5.out.below.size h)))
                have HR6 := Lib.hid (hra6.below (below_alloc w6 (.cells zeroD 32)) (Nat.le_refl _))
                have hC3 := later_step (later_step hC2 hb6) (below_alloc w6 (.cells zeroD 32))
                have HD3 := Lib.hid hra6.arr
                clear hra6 hri6 hb6
                go_wp2_with fail
                refine hK _ _ (fun h => nomatch h) ?_
                clear hK K
                refine wpTr_pu ?_
                repeat (first | go_big_quiet_step (fail) | quiet_step (fail))
                refine wpQuiet_nil ?_
                refine wpTr_sq (fun K hK => ?_)
                go_wp2_with fail
                rw [show (#[.slice none 0 0, .slice none 0 0, .slice none 0 0, .slice none 0 0, .slice none 0 0, .int .i64 0, .int .i64 0, .bool false] : Array Value) = zeroD from rfl]
                go_wp2_with fail
                refine hK _ _ (fun _ => hC3) ?_
                clear hK K
                refine wpTr_last ?_
                go_wp2_with (refine wpList_store_mem aggRd HM6.out 3 rfl rfl rfl rfl rfl HD3.out.1 HD3.out.1.symm HD3.out.2 ?_; intro w9 h9 ht9; have H9 := Lib.hid h9; have HT9 := Lib.hid ht9; clear h9 ht9)
                go_meet
                case rel => exact ⟨_, D3, rfl, rfl, H9.out, HR6.out.touched HT9.out HA6.out (by simp), HA6.out, HI6.out⟩
              · refine wpTr_sq (fun K hK => ?_)
                go_wp2_with fail
                rw [show (#[.slice none 0 0, .slice none 0 0, .slice none 0 0, .slice none 0 0, .slice none 0 0, .int .i64 0, .int .i64 0, .bool false] : Array Value) = zeroD from rfl]
                have hbx := below_alloc w5 (.cells zeroD 32)
                have hC3 := later_step hC2 hbx
                have HM5x := Lib.hid (HM5.out.alloc zeroD 32)
                have HR5x := Lib.hid (HR5.out.below hbx (Nat.le_refl _))
                have HA5x : Hid (Apart (.agg D2) [q, q + 1, g, w5.heap.size]) := Lib.hid (HA2.out.more (fun b hb => Nat.lt_of_lt_of_le (HOd.out b hb) HB5.out.size))
                have HN5x : Hid (∀ k ∈ [q, q + 1, g, w5.heap.size], k < (w5.alloc (.cells zeroD 32)).heap.size) := Lib.hid (fun k hk => HM5x.out.ltg k hk)
                clear hbx
                go_wp2_with fail
                refine hK _ _ (fun _ => hC3) ?_
                clear hK K
                refine wpTr_sq (fun K hK => ?_)
                go_wp2_with fail
                refine (HSto.out _ HR5x.out).mono ?_
                rintro e w6 ⟨v', rfl, hra6, hri6, hb6⟩
                obtain ⟨D3, rfl⟩ := hra6.agg
                have HM6 := Lib.hid (HM5x.out.later hb6)
                have HA6 : Hid (Apart (.agg D3) [q, q + 1, g, w5.heap.size]) := Lib.hid (HA5x.out.new hri6 HN5x.out)
                have HI6 : Hid (∀ b, RIn (.agg D3) b → RIn (.agg D) b ∨ w.heap.size ≤ b) := Lib.hid (fun b hb => (hri6 b hb).elim (HI2.out b) (fun h => .inr (Nat.le_trans HM5x.out.below.size h)))
                have HR6 := Lib.hid hra6
                have HD3 := Lib.hid hra6.arr
                clear hra6 hri6 hb6
                go_wp2_with fail
                refine hK _ _ (fun h => nomatch h) ?_
                clear hK K
                refine wpTr_pu ?_
                repeat (first | go_big_quiet_step (fail) | quiet_step (fail))
                refine wpQuiet_nil ?_
                refine wpTr_last ?_
                go_wp2_with (refine wpList_store_mem aggRd HM6.out 3 rfl rfl rfl rfl rfl HD3.out.1 HD3.out.1.symm HD3.out.2 ?_; intro w9 h9 ht9; have H9 := Lib.hid h9; have HT9 := Lib.hid ht9; clear h9 ht9)
                go_meet
                case rel => exact ⟨_, D3, rfl, rfl, H9.out, HR6.out.touched HT9.out HA6.out (by simp), HA6.out, HI6.out⟩
            · refine wpTr_sq (fun K hK => ?_)
              go_wp2_with fail
              rw [show (#[.slice none 0 0, .slice none 0 0, .slice none 0 0, .slice none 0 0, .slice none 0 0, .int .i64 0, .int .i64 0, .bool false] : Array Value) = zeroD from rfl]
              have hbx := below_alloc wd (.cells zeroD 32)
              have hC2 := later_step hC1 hbx
              have HM4 := Lib.hid (HMd.out.alloc zeroD 32)
              have HR4 := Lib.hid (HRd.out.below hbx (Nat.le_refl _))
              have HA4 : Hid (Apart (.agg D2) [q, q + 1, g, wd.heap.size]) := Lib.hid (HA2.out.more HOd.out)
              clear hbx
              go_wp2_with fail
              refine hK _ _ (fun _ => hC2) ?_
              clear hK K
              refine wpTr_sq (fun K hK => ?_)
              go_wp2_with fail
              refine (HEnc.out _).mono ?_
              rintro e w5 ⟨rfl, hb5⟩
              have hC3 := later_step hC2 hb5
              have HM5 := Lib.hid (HM4.out.later hb5)
              have HR5 := Lib.hid (HR4.out.below hb5 (Nat.le_refl _))
              have HN5 : Hid (∀ k ∈ [q, q + 1, g, wd.heap.size], k < w5.heap.size) := Lib.hid (fun k hk => HM5.out.ltg k hk)
              clear hb5
              go_wp2_with fail
              refine hK _ _ (fun _ => hC3) ?_
              clear hK K
              refine wpTr_sq (fun K hK => ?_)
              go_wp2_with fail
              refine (HSto.out _ HR5.out).mono ?_
              rintro e w6 ⟨v', rfl, hra6, hri6, hb6⟩
              obtain ⟨D3, rfl⟩ := hra6.agg
              have HM6 := Lib.hid (HM5.out.later hb6)
              have HA6 : Hid (Apart (.agg D3) [q, q + 1, g, wd.heap.size]) := Lib.hid (HA4.out.new hri6 HN5.out)
              have HI6 : Hid (∀ b, RIn (.agg D3) b → RIn (.agg D) b ∨ w.heap.size ≤ b) := Lib.hid (fun b hb => (hri6 b hb).elim (HI2.out b) (fun h => .inr (Nat.le_trans HM5.out.below.size h)))
              have HR6 := Lib.hid hra6
              have HD3 := Lib.hid hra6.arr
              clear hra6 hri6 hb6
              go_wp2_with fail
              refine hK _ _ (fun h => nomatch h) ?_
              clear hK K
              refine wpTr_pu ?_
              repeat (first | go_big_quiet_step (fail) | quiet_step (fail))
              refine wpQuiet_nil ?_
              refine wpTr_last ?_
              go_wp2_with (refine wpList_store_mem aggRd HM6.out 3 rfl rfl rfl rfl rfl HD3.out.1 HD3.out.1.symm HD3.out.2 ?_; intro w9 h9 ht9; have H9 := Lib.hid h9; have HT9 := Lib.hid ht9; clear h9 ht9)
              go_meet
              case rel => exact ⟨_, D3, rfl, rfl, H9.out, HR6.out.touched HT9.out HA6.out (by simp), HA6.out, HI6.out⟩
          case rest =>
            obtain ⟨p, D3, rfl, rfl, hm9, hr9, ha9, hi9⟩ := hcut
            have HM9 := Lib.hid hm9
            have HR9 := Lib.hid hr9
            have HA9 := Lib.hid ha9
            have HI9 := Lib.hid hi9
            have HD3 := Lib.hid hr9.arr
            clear hm9 hr9 ha9 hi9 HMm HR2 HA2 d0 d1 d2
            go_upto_region 16 with (first | (refine wpList_load_box aggRd HM9.out 3 rfl HD3.out.1 rfl rfl rfl ?_) | (refine wpList_store_mem aggRd HM9.out 0 rfl rfl rfl rfl rfl HD3.out.1 (by simpa using HDs2.out.trans HD3.out.1.symm) HD3.out.2 ?_; intro w10 h10 ht10; have H10 := Lib.hid h10; have HT10 := Lib.hid ht10; clear h10 ht10))
            have HR10 := Lib.hid (HR9.out.touched HT10.out HA9.out (by simp))
            have HA10 : Hid (Apart (.agg D3) [q, q + 1, g]) := Lib.hid (fun b hb hm => HA9.out b hb (by simp only [List.mem_cons, List.not_mem_nil, or_false] at hm ⊢; rcases hm with h | h | h <;> simp [h]))
            have HM10 : Hid (Mem w w10 [⟨q, 32, D3.toList, true⟩, ⟨q + 1, 32, zeroD.toList, true⟩, ⟨g, 113, hdCs R.list, false⟩]) := Lib.hid (H10.out.upto 3)
            clear H10 HM9 HR9 HA9 HT10
            by_cases hz : E1 = 0
            · subst hz
              have HPT : Hid (putTo S L j l (k2 + 1) = ⟨T1, R.list.set (j + k2) ⟨x, y, z⟩, 0⟩) := Lib.hid (by rw [HPS.out, if_pos rfl])
              obtain ⟨b2, o2, hee, d0, d1, d2⟩ := hd_cells (HC0.out.below HM10.out.below (Nat.le_refl _)) (by rw [HN.out]; exact hmk) HXyz.out
              cases hee
              have hjm : (j : Int) + (k2 : Int) < (B : Int) := by omega
              have hto : ((j : Int) + (k2 : Int)).toNat = j + k2 := by omega
              have HFit : Hid ((j + k2) * 3 + #[Value.int .i64 x, .int .i64 y, .int .i64 z].size ≤ (hdCs R.list).length) := Lib.hid (by rw [hdCs_length, HLk.out]; simp; omega)
              go_wp2_with (refine wpList_store_mem_part aggRhd HM10.out 2 (off := (j + k2) * 3) (cs := #[.int .i64 x, .int .i64 y, .int .i64 z]) rfl rfl rfl rfl rfl rfl HFit.out rfl ?_; intro w11 h11 ht11; have H11 := Lib.hid h11; have HT11 := Lib.hid ht11; clear h11 ht11)
              go_roundw
              case rel =>
                refine ⟨k2 + 1, D3, by omega, vint (by omega), by rw [HPT.out], ?_, ?_, HA10.out, HI9.out⟩
                · rw [HPT.out, ← hdCs_set R.list (j + k2) ⟨x, y, z⟩ (by rw [HLk.out]; omega)]
                  exact H11.out
                · rw [HPT.out]; exact HR10.out.touched HT11.out HA10.out (by simp)
              case measure => simp [intOf]; omega
            · have hz1 : (E1 != 0) = true := by simpa using hz
              have HPT : Hid (r = ⟨T1, R.list, E1⟩) := Lib.hid (by
                have h1 := HPS.out
                rw [if_neg hz] at h1
                have h2 := HStay.out (by rw [h1]; exact hz) k hmk
                rw [HE.out, HFin.out, h2, h1, if_pos hz])
              clear hz
              go_wp2_with (first | (refine wpList_load_box aggRd HM10.out 0 rfl HD3.out.1 rfl rfl rfl ?_) | (refine wpList_store_mem aggRd HM10.out 1 rfl rfl rfl rfl rfl HD3.out.1 HD3.out.1.symm HD3.out.2 ?_; intro w9 h9 ht9; have H9 := Lib.hid h9; have HT9 := Lib.hid ht9; clear h9 ht9))
              refine bodyPost_ret (results_cell_first rfl _ _ _ _ _ _ _ rfl (H9.out.exact 1 rfl) Tryz.underlying32 rfl (infoD _ HD3.out.1)) rfl ?_
              rw [← HP.out, HPT.out]
              exact ⟨D3, some ⟨g, 0, none⟩, c, by simp, HR10.out.touched HT9.out HA10.out (by simp), (H9.out.at 2 rfl).cells, HI9.out, .inr ⟨g, rfl, Nat.le_trans HW9.out HGq.out⟩, H9.out.below⟩
        · obtain rfl : k2 = k := by omega
          have hlt2 : decide ((k2 : Int) < (k2 : Int)) = false := by simp
          have HPF : Hid (r = ⟨(R.dev.persist (256 + (j : Int)) (k2 : Int)).dev, R.list, (R.dev.persist (256 + (j : Int)) (k2 : Int)).err⟩) := Lib.hid (by rw [HE.out, HFin.out, HRR.out, if_neg (by rw [HE0.out]; simp)])
          have hw2 : IntKind.i64.wrap (256 + (j : Int)) = 256 + (j : Int) := IntWalk.i64_in _ (by omega)
          go_wp2_with (refine wpList_load_box aggRd HMm.out 0 rfl HDs2.out rfl rfl rfl ?_)
          refine (rpersist_m HTl.out HR2.out (N := N + k2) (by omega) HTf.out _ _).mono ?_
          rintro e w6 ⟨v', rfl, hra6, hri6, hb6⟩
          obtain ⟨D3, rfl⟩ := hra6.agg
          have HD3 := Lib.hid hra6.arr
          have HM6 := Lib.hid (HMm.out.later hb6)
          have HA6 : Hid (Apart (.agg D3) [q, q + 1, g, w6.heap.size]) := Lib.hid ((HA2.out.new hri6 (fun k hk => HMm.out.ltg k hk)).more (hra6.oldp hm0))
          have HI6 : Hid (∀ b, RIn (.agg D3) b → RIn (.agg D) b ∨ w.heap.size ≤ b) := Lib.hid (fun b hb => (hri6 b hb).elim (HI2.out b) (fun h => .inr (Nat.le_trans HMm.out.below.size h)))
          have HM7 := Lib.hid (HM6.out.alloc zeroD 32)
          have HR7 := Lib.hid (hra6.below (below_alloc w6 (.cells zeroD 32)) (Nat.le_refl _))
          generalize R.dev.persist (256 + (j : Int)) (k2 : Int) = PD at *
          clear hra6 hri6 hb6
          go_upto_region 20 with (rw [show (#[.slice none 0 0, .slice none 0 0, .slice none 0 0, .slice none 0 0, .slice none 0 0, .int .i64 0, .int .i64 0, .bool false] : Array Value) = zeroD from rfl]; refine wpList_store_mem aggRd HM7.out 3 rfl rfl rfl rfl rfl HD3.out.1 HD3.out.1.symm HD3.out.2 ?_; intro w9 h9 ht9; have H8 := Lib.hid h9; have HT8 := Lib.hid ht9; clear h9 ht9)
          have HR8 := Lib.hid (HR7.out.touched HT8.out HA6.out (by simp))
          clear HM7 HR7 HT8 HM6
          go_wp2_with (first | (refine wpList_load_box aggRd H8.out 3 rfl HD3.out.1 rfl rfl rfl ?_) | (refine wpList_store_mem aggRd H8.out 1 rfl rfl rfl rfl rfl HD3.out.1 HD3.out.1.symm HD3.out.2 ?_; intro w10 h9 ht9; have H9 := Lib.hid h9; have HT9 := Lib.hid ht9; clear h9 ht9))
          refine bodyPost_ret (results_cell_first rfl _ _ _ _ _ _ _ rfl (H9.out.exact 1 rfl) Tryz.underlying32 rfl (infoD _ HD3.out.1)) rfl ?_
          rw [← HP.out, HPF.out]
          exact ⟨D3, some ⟨g, 0, none⟩, c, by simp, HR8.out.touched HT9.out HA6.out (by simp), (H9.out.at 2 rfl).cells, HI6.out, .inr ⟨g, rfl, Nat.le_trans HW9.out HGq.out⟩, H9.out.below⟩

end Go.Proofs.YtebnelihlgdciaaGreat

/- bman: Release, Geometry, FreeBlocks, Longest. -/
namespace Go.Proofs.YtebnelihlgdciaaGreat
open Go.RowKit
set_option linter.unusedVariables false

def relN (h : Hd) : Int := if h.k = 1 then 1 else h.l
def Bm.release (m : Bm) (b : Int) : BmR :=
  if (hdGet m.list b).k ≠ 1 ∧ (hdGet m.list b).k ≠ 2 then ⟨m, 0, 42⟩ else
  (fun r1 : PutR => if r1.err ≠ 0 then ⟨⟨r1.dev, r1.list, m.free⟩, 0, r1.err⟩ else
    (fun r2 : PutR => if r2.err ≠ 0 then ⟨⟨r2.dev, r2.list, m.free⟩, 0, r2.err⟩ else ⟨⟨r2.dev, r2.list, (giveR m.free b (relN (hdGet m.list b))).1⟩, 0, (giveR m.free b (relN (hdGet m.list b))).2⟩)
      (putAll r1.dev r1.list (b + 1) (List.replicate (relN (hdGet m.list b) - 1).toNat ⟨0, 0, 0⟩)))
    (putAll m.dev m.list b [⟨0, 0, 0⟩])

def BmDone1 (w : World) (X : MF) (n B : Nat) (r : BmR) : Ending → World → Prop := fun e w' => e = .returned (.int .i64 r.err) ∧ ManAt w' X n B r.bm ∧ Touch X.hot w w'

theorem hdGet_in {l : List Hd} {b : Int} (h : (hdGet l b).k ≠ 0) : 1 ≤ b ∧ b < l.length := by
  unfold hdGet at h
  by_cases c : b < 1 ∨ (l.length : Int) ≤ b
  · rw [if_pos c] at h; exact absurd rfl h
  · omega
theorem hdCs_zeros (n : Nat) : hdCs (List.replicate n ⟨0, 0, 0⟩) = List.replicate (n * 3) (.int .i64 0) := by
  induction n with
  | zero => rfl
  | succ n ih =>
    rw [List.replicate_succ, show (⟨0, 0, 0⟩ : Hd) :: List.replicate n ⟨0, 0, 0⟩ = [⟨0, 0, 0⟩] ++ List.replicate n ⟨0, 0, 0⟩ from rfl, hdCs_append, ih, show (n + 1) * 3 = 3 + n * 3 by omega, ← List.replicate_append_replicate]
    rfl

set_option maxHeartbeats 4000000 in
set_option maxRecDepth 20000 in
theorem brelease_any {w : World} {X : MF} {n B : Nat} {m : Bm} (h : ManAt w X n B m) (hB : B ≤ 1000) (hn : n < 1000000000000) {N : Nat} (hN : N ≤ 999000000) (ho : m.dev.ok N) (hi : m.dev.inv) (hl : ∀ i, (m.list.getD i default).l ≤ 100000) (b : Int) :
    Calls Tryz.prog 20 #[.pointer (some ⟨X.m, 0, none⟩), .int .i64 b] w (BmDone1 w X (n + 1) B (m.release b)) := by
  generalize hr : m.release b = r
  generalize hP : BmDone1 w X (n + 1) B r = Post
  have HP := Lib.hid hP
  have HA := Lib.hid h
  have HLB : Hid (m.list.length = B) := Lib.hid h.tab.len
  have HLF : Hid (m.free.length = B) := Lib.hid h.lenF
  have HV : Hid (r = if (hdGet m.list b).k ≠ 1 ∧ (hdGet m.list b).k ≠ 2 then ⟨m, 0, 42⟩ else
    (fun r1 : PutR => if r1.err ≠ 0 then ⟨⟨r1.dev, r1.list, m.free⟩, 0, r1.err⟩ else
    (fun r2 : PutR => if r2.err ≠ 0 then ⟨⟨r2.dev, r2.list, m.free⟩, 0, r2.err⟩ else ⟨⟨r2.dev, r2.list, (giveR m.free b (relN (hdGet m.list b))).1⟩, 0, (giveR m.free b (relN (hdGet m.list b))).2⟩)
      (putAll r1.dev r1.list (b + 1) (List.replicate (relN (hdGet m.list b) - 1).toNat ⟨0, 0, 0⟩)))
    (putAll m.dev m.list b [⟨0, 0, 0⟩])) := Lib.hid (by rw [← hr]; rfl)
  have HIn := Lib.hid (hdGet_in (l := m.list) (b := b))
  have HZ : Hid ((hdGet m.list b).l ≤ 100000) := Lib.hid (by
    unfold hdGet
    split
    · simp
    · exact hl _)
  have c0 := h.c0
  have HTg := Lib.hid (fun W (h : ManAt W X n B m) => tget_any (h.tab.at (fun e => (MF.notHot (MF.apart h.nd).t).1 e)) b (by rw [h.tab.len]; exact hB))
  clear h hP hr
  obtain ⟨k, c, z, he⟩ : ∃ k c z, hdGet m.list b = ⟨k, c, z⟩ := ⟨_, _, _, rfl⟩
  rw [he] at HV HIn HZ HTg
  unfold Hd.val at HTg
  dsimp only at HV HIn HZ HTg
  clear he
  go_enter Tryz.func20, Tryz.ntmps20
  go_wp2_with fail
  refine (HTg.out _ HA.out).mono ?_
  rintro e w1 ⟨rfl, hb1⟩
  have HA1 := Lib.hid (HA.out.below hb1)
  have HT1 := Lib.hid (Touch.ofBelow (L := X.hot) hb1)
  clear hb1 c0 HTg HA
  have HM := Lib.hid (Mem.one w1 #[.int .i64 k, .int .i64 c, .int .i64 z] 58)
  have HA2 := Lib.hid (HA1.out.below HM.out.below)
  have HT2 := Lib.hid (HT1.out.later HM.out.below)
  clear HA1 HT1
  go_upto_region 2 with fail
  obtain ⟨q, hq⟩ : ∃ q, q = w1.heap.size := ⟨_, rfl⟩
  rw [← hq] at HM ⊢
  generalize w1.alloc _ = w2 at *
  clear hq
  have d0 := HM.out.cell 0 0 rfl rfl
  have d2 := HM.out.cell 0 2 rfl rfl
  by_cases hk : k ≠ 1 ∧ k ≠ 2
  · have HE : Hid (r = ⟨m, 0, 42⟩) := Lib.hid (by rw [HV.out, if_pos hk])
    have q1 : (k == 1) = false := by simpa using hk.1
    have q2 : (k == 2) = false := by simpa using hk.2
    clear hk
    go_wp2_with fail
    rw [← HP.out, HE.out]
    exact ⟨rfl, HA2.out.mono (by omega), HT2.out⟩
  have hb := HIn.out (by omega)
  rw [HLB.out] at hb
  obtain ⟨b, rfl⟩ := Int.eq_ofNat_of_zero_le (show 0 ≤ b by omega)
  obtain ⟨z', hz'⟩ : ∃ z', z' = relN ⟨k, c, z⟩ := ⟨_, rfl⟩
  have hzk : (k = 1 ∧ z' = 1) ∨ (k = 2 ∧ z' = z) := by
    rw [hz']; unfold relN
    by_cases h1 : k = 1
    · exact .inl ⟨h1, by rw [if_pos h1]⟩
    · exact .inr ⟨by omega, by rw [if_neg h1]⟩
  rw [← hz'] at HV
  have HV2 : Hid (r = (fun r1 : PutR => if r1.err ≠ 0 then ⟨⟨r1.dev, r1.list, m.free⟩, 0, r1.err⟩ else
    (fun r2 : PutR => if r2.err ≠ 0 then ⟨⟨r2.dev, r2.list, m.free⟩, 0, r2.err⟩ else ⟨⟨r2.dev, r2.list, (giveR m.free (b : Int) z').1⟩, 0, (giveR m.free (b : Int) z').2⟩)
      (putAll r1.dev r1.list ((b : Int) + 1) (List.replicate (z' - 1).toNat ⟨0, 0, 0⟩)))
    (putAll m.dev m.list (b : Int) [⟨0, 0, 0⟩])) := Lib.hid (by rw [HV.out, if_neg hk])
  have hzz := HZ.out
  have hzm : z' ≤ 100000 := by rcases hzk with ⟨_, h⟩ | ⟨_, h⟩ <;> omega
  have hb1 : 1 ≤ b := by omega
  have hb2 : b < B := by omega
  clear HV HIn hb hk hz'
  go_upto_block 0 with fail
  go_cut [6] from 9 (fun v wc => v = .int .i64 z' ∧ wc = w2)
  case first =>
    rcases hzk with ⟨rfl, rfl⟩ | ⟨rfl, rfl⟩
    · go_wp2_with fail
      go_meet
      case rel => exact ⟨rfl, rfl⟩
    · go_wp2_with fail
      go_meet
      case rel => exact ⟨rfl, rfl⟩
  case rest =>
    obtain ⟨rfl, rfl⟩ := hcut
    clear d0 d2 hzk
    have c0 := HA2.out.c0
    have hbn := below_alloc wc (.cells #[.int .i64 0, .int .i64 0, .int .i64 0] 58)
    have HC2 : Hid (Cells (wc.alloc (.cells #[.int .i64 0, .int .i64 0, .int .i64 0] 58)) (some ⟨wc.heap.size, 0, none⟩) (hdCs [⟨0, 0, 0⟩])) := Lib.hid (by
      rw [hdCs_single]
      exact (RowAt.cells ⟨_, heap_alloc_new _ _, [], rfl⟩))
    have HPut := Lib.hid (mput_any (HA2.out.below hbn) hB (by omega) ho (some ⟨wc.heap.size, 0, none⟩) 1 1 [⟨0, 0, 0⟩] rfl HC2.out (fun _ b o s e hm => by
      cases e
      exact HA2.out.lt (Nat.le_refl _) hm) (by omega) (b : Int))
    have HTa := Lib.hid (HT2.out.later hbn)
    clear hbn HC2
    go_wp2_with fail
    refine HPut.out.mono ?_
    rintro e w3 ⟨rfl, ha3, ht3⟩
    dsimp only at ha3 ⊢
    obtain ⟨r1, hr1⟩ : ∃ r1, r1 = putAll m.dev m.list (b : Int) [⟨0, 0, 0⟩] := ⟨_, rfl⟩
    rw [← hr1] at HV2 ha3 ⊢
    have HLen1 : Hid (r1.list.length = B) := Lib.hid (by rw [hr1, putAll_len]; exact HLB.out)
    have HOk1 : Hid (r1.dev.ok (N + 1 + 200000)) := Lib.hid (by have := putAll_ok hi ho m.list (b : Int) [⟨0, 0, 0⟩]; rw [← hr1] at this; exact this)
    have HV3 : Hid (r = if r1.err ≠ 0 then ⟨⟨r1.dev, r1.list, m.free⟩, 0, r1.err⟩ else
      (fun r2 : PutR => if r2.err ≠ 0 then ⟨⟨r2.dev, r2.list, m.free⟩, 0, r2.err⟩ else ⟨⟨r2.dev, r2.list, (giveR m.free (b : Int) z').1⟩, 0, (giveR m.free (b : Int) z').2⟩)
        (putAll r1.dev r1.list ((b : Int) + 1) (List.replicate (z' - 1).toNat ⟨0, 0, 0⟩))) := Lib.hid HV2.out
    have HA3 := Lib.hid ha3
    have HT3 := Lib.hid (HTa.out.trans ht3)
    clear ha3 ht3 HV2 HPut HTa HT2 HA2 c0 hr1
    obtain ⟨e1, he1⟩ : ∃ e1, e1 = r1.err := ⟨_, rfl⟩
    rw [← he1] at HV3 ⊢
    clear he1
    by_cases hz : e1 = 0
    case neg =>
      have hz' : (e1 != 0) = true := by simpa using hz
      have HE : Hid (r = ⟨⟨r1.dev, r1.list, m.free⟩, 0, e1⟩) := Lib.hid (by rw [HV3.out, if_pos hz])
      clear hz
      go_wp2_with fail
      rw [← HP.out, HE.out]
      exact ⟨rfl, HA3.out.mono (by omega), HT3.out⟩
    subst hz
    obtain ⟨r2, hr2⟩ : ∃ r2, r2 = putAll r1.dev r1.list ((b : Int) + 1) (List.replicate (z' - 1).toNat ⟨0, 0, 0⟩) := ⟨_, rfl⟩
    have HV4 : Hid (r = if r2.err ≠ 0 then ⟨⟨r2.dev, r2.list, m.free⟩, 0, r2.err⟩ else ⟨⟨r2.dev, r2.list, (giveR m.free (b : Int) z').1⟩, 0, (giveR m.free (b : Int) z').2⟩) := Lib.hid (by rw [HV3.out, if_neg (by simp), ← hr2])
    have HR2 := Lib.hid hr2
    clear HV3 hr2
    go_upto_if 35 with fail
    go_cut [] from 9 (fun wd => r2.err = 0 ∧ ManAt wd X n B ⟨r2.dev, r2.list, m.free⟩ ∧ Touch X.hot w wd)
    case first =>
      by_cases hz1 : z' ≤ 1
      · have HE : Hid (r2 = ⟨r1.dev, r1.list, 0⟩) := Lib.hid (by
          rw [HR2.out, show (z' - 1).toNat = 0 by omega]
          exact putAll_none _ (by omega) (by rw [HLen1.out]; omega))
        have q3 : decide (1 < z') = false := by simp; omega
        have q3p : ¬ 1 < z' := by omega
        go_wp2_with fail
        go_meet
        case rel => rw [HE.out]; exact ⟨rfl, HA3.out, HT3.out⟩
      · obtain ⟨y, hy⟩ : ∃ y : Nat, y = (z' - 1).toNat := ⟨_, rfl⟩
        have hy1 : 1 ≤ y := by omega
        have hy9 : y ≤ 100000 := by omega
        have HY : Hid (z' - 1 = (y : Int)) := Lib.hid (by omega)
        rw [← hy] at HR2
        have q3p : 1 < z' := by omega
        clear hy hz1
        have c0 := HA3.out.c0
        go_upto_region 12 with fail
        have r0 := fun x => later_cell c0 x
        clear c0
        have hw1 : IntKind.i64.wrap ((b : Int) + 1) = (b : Int) + 1 := IntWalk.i64_in _ (by omega)
        have hw2 : IntKind.i64.wrap (z' - 1) = (y : Int) := by rw [IntWalk.i64_in _ (by omega)]; exact HY.out
        refine wp_region_seg (C := fun w' => ∃ x : Later (w3), w' = x.val) [.fl [0, 1, 2, 3, 4, 5, 6, 7], .sq [8] true, .sq [9, 10] false] (by kernel_rfl) (by kernel_rfl) (by intro c a d v w h; cases d <;> exact h) ?_
        simp only [segs, picks, List.getElem?_cons_succ, List.getElem?_cons_zero]
        have hC1 := later_drew (w3)
        refine wpSeg_fl hC1 ?_
        repeat (first | go_big_quiet_step (fail) | quiet_step (fail))
        refine wpQuiet_nil ?_
        clear r0
        have HA3d := Lib.hid (HA3.out.below (later_below hC1))
        have HT3d := Lib.hid (HT3.out.later (later_below hC1))
        generalize w3.drew = w3d at *
        refine wpSeg_sq (fun K hK => ?_)
        go_wp2_with (at_make; refine wpList_make_rows elHd w3d.heap.size y (z := .int .i64 0) (by intro i hi; simp at hi; rcases i with _ | _ | _ | i <;> first | rfl | omega) (by omega) (by omega) (by omega) (by decide) (Nat.le_refl _) rfl rfl rfl rfl ?_; intro w4 hown hgrow; have HO4 := Lib.hid hown; have HG4 := Lib.hid hgrow; clear hown hgrow)
        have HB4 := Lib.hid (below_grown HG4.out (Nat.le_refl _))
        have hC2 := later_step hC1 HB4.out
        go_wp2_with fail
        refine hK _ _ (fun _ => hC2) ?_
        clear hK K
        refine wpSeg_last ?_
        go_wp2_with fail
        refine (mput_any (HA3d.out.below HB4.out) hB (N := N + 1 + 200000) (by omega) HOk1.out _ y y (List.replicate y ⟨0, 0, 0⟩) (by simp) (by rw [hdCs_zeros]; exact Cells.owned2 HO4.out) (fun _ b o s e hm => ?_) (by omega) ((b : Int) + 1)).mono ?_
        · cases e
          exact HA3d.out.lt (Nat.le_refl _) hm
        rintro e w5 ⟨rfl, ha5, ht5⟩
        dsimp only at ha5 ⊢
        rw [← HR2.out] at ha5 ⊢
        have HA5 := Lib.hid ha5
        have HT5 := Lib.hid ((HT3d.out.later HB4.out).trans ht5)
        clear ha5 ht5 hC1 hC2
        obtain ⟨e2, he2⟩ : ∃ e2, e2 = r2.err := ⟨_, rfl⟩
        rw [← he2] at HV4 ⊢
        have HE2 := Lib.hid he2
        clear he2
        by_cases hz : e2 = 0
        · subst hz
          go_wp2_with fail
          go_meet
          case rel => exact ⟨HE2.out.symm, HA5.out, HT5.out⟩
        · have hz' : (e2 != 0) = true := by simpa using hz
          have HE : Hid (r = ⟨⟨r2.dev, r2.list, m.free⟩, 0, e2⟩) := Lib.hid (by rw [HV4.out, if_pos hz])
          clear hz
          go_wp2_with fail
          rw [← HP.out, HE.out]
          exact ⟨rfl, HA5.out.mono (by omega), HT5.out⟩
    case rest =>
      obtain ⟨he2, ha5, ht5⟩ := hcut
      have HE : Hid (r = ⟨⟨r2.dev, r2.list, (giveR m.free (b : Int) z').1⟩, 0, (giveR m.free (b : Int) z').2⟩) := Lib.hid (by rw [HV4.out, if_neg (by rw [he2]; simp)])
      have HA5 := Lib.hid ha5
      have HT5 := Lib.hid ht5
      have c1 := HA5.out.c1
      clear he2 ha5 ht5 HV4
      go_wp2_with fail
      refine (mgive_any HA5.out hB hn (b : Int) z').mono ?_
      rintro e w6 ⟨rfl, ha6, ht6⟩
      have HA6 := Lib.hid ha6
      have HT6 := Lib.hid (HT5.out.trans ht6)
      clear ha6 ht6
      go_wp2_with fail
      rw [← HP.out, HE.out]
      exact ⟨rfl, HA6.out, HT6.out⟩

theorem aggGe : Agg Tryz.prog 43 #[.int .i64 0] := ⟨⟨_, Tryz.underlying43, rfl⟩, by kernel_rfl⟩
set_option maxHeartbeats 1000000 in
theorem bgeom_any {w : World} {X : MF} {n B : Nat} {m : Bm} (h : ManAt w X n B m) :
    Calls Tryz.prog 12 #[.pointer (some ⟨X.m, 0, none⟩)] w fun e w' => e = .returned (vgeom (B : Int)) ∧ Below w.heap.size w w' := by
  have HM := Lib.hid (Mem.one w #[.int .i64 0] 43)
  have c2 := (h.below HM.out.below).c2
  clear h
  unfold vgeom
  go_enter Tryz.func12, Tryz.ntmps12
  go_upto_region 1 with fail
  generalize w.alloc _ = w0 at *
  obtain ⟨q, hq⟩ : ∃ q, q = w.heap.size := ⟨_, rfl⟩
  rw [← hq] at HM ⊢
  have HQ := Lib.hid hq
  clear hq
  go_wp2_with (refine wpList_store_mem aggGe HM.out 0 rfl rfl rfl rfl rfl rfl rfl rfl ?_; intro w9 h9 _; have H9 := Lib.hid h9; clear h9)
  refine bodyPost_ret (results_cell_row rfl _ _ _ _ _ _ _ rfl (H9.out.exact 0 rfl) Tryz.underlying43 rfl (by kernel_rfl)) rfl ⟨rfl, H9.out.below⟩

set_option maxHeartbeats 1000000 in
theorem bfree_any {w : World} {X : MF} {n B : Nat} {m : Bm} (h : ManAt w X n B m) (hB : B ≤ 1000) :
    Calls Tryz.prog 48 #[.pointer (some ⟨X.m, 0, none⟩)] w fun e w' => e = .returned (.int .i64 (sumOf (runsOf m.free) : Nat)) ∧ Below w.heap.size w w' := by
  have c1 := h.c1
  have HI := Lib.hid (total_any h.ix (by rw [h.lenF]; omega))
  clear h
  go_enter Tryz.func48, Tryz.ntmps48
  go_wp2_with fail
  refine HI.out.mono ?_
  rintro e w1 ⟨rfl, hb1⟩
  go_wp2_with fail
  go_ret
  exact ⟨rfl, hb1⟩
set_option maxHeartbeats 1000000 in
theorem blongest_any {w : World} {X : MF} {n B : Nat} {m : Bm} (h : ManAt w X n B m) (hB : B ≤ 1000) :
    Calls Tryz.prog 49 #[.pointer (some ⟨X.m, 0, none⟩)] w fun e w' => e = .returned (.int .i64 (longOf (runsOf m.free) : Nat)) ∧ Below w.heap.size w w' := by
  have c1 := h.c1
  have HI := Lib.hid (longest_any h.ix (by rw [h.lenF]; omega))
  clear h
  go_enter Tryz.func49, Tryz.ntmps49
  go_wp2_with fail
  refine HI.out.mono ?_
  rintro e w1 ⟨rfl, hb1⟩
  go_wp2_with fail
  go_ret
  exact ⟨rfl, hb1⟩

end Go.Proofs.YtebnelihlgdciaaGreat

/-
  DERIVED: THE SHELF's CONTRACTS AT THIS DUMP, IN PLAIN WORDS (tools/lay-plain.mjs out of 'TmpShelf.lean', which tools/lay-shelf.mjs wrote): THE SAME DECLARATIONS UNDER THE SAME NAMES: 'import', 'namespace', 'open', 'def', 'theorem' AND NOTHING ELSE: no command of the shelf's: FOR A HAND-IN. Each laying: the table of numbers ('.._ren') and one theorem, a field a fact of the dump's own or the kernel's comparison; each contract: ONE APPLICATION.
-/
namespace Go.Proofs
open Go.Shelf
def Tryz.sortSp_ren : Go.Shelf.Ren := ⟨fun | 6 => 51 | 15 => 85 | 14 => 84 | 28 => 109 | 29 => 110 | 20 => 101 | 21 => 102 | 22 => 103 | 23 => 104 | 24 => 105 | 25 => 106 | 26 => 107 | 27 => 108 | 46 => 116 | 47 => 117 | 48 => 118 | 49 => 119 | 50 => 120 | 57 => 129 | n => n, fun | 22 => 46 | 24 => 56 | 25 => 109 | 3 => 3 | 39 => 147 | 0 => 0 | 53 => 119 | 55 => 77 | 4 => 4 | 46 => 161 | 45 => 160 | 50 => 128 | 5 => 5 | 9 => 9 | 66 => 172 | 70 => 176 | 76 => 187 | 77 => 99 | n => n, fun | n => n⟩
theorem Tryz.sortSp : Go.Proofs.SlLaysF0.n6 Tryz.prog Tryz.sortSp_ren := {
  mixed := by kernel_rfl
  f6 := ⟨Tryz.f51.name, by decide, Tryz.func51.trans (congrArg some (by kernel_rfl))⟩
  f14 := ⟨Tryz.f84.name, by decide, Tryz.func84.trans (congrArg some (by kernel_rfl))⟩
  f15 := Tryz.func85.trans (congrArg some (by kernel_rfl))
  f20 := ⟨Tryz.f101.name, by decide, Tryz.func101.trans (congrArg some (by kernel_rfl))⟩
  f21 := ⟨Tryz.f102.name, by decide, Tryz.func102.trans (congrArg some (by kernel_rfl))⟩
  f22 := ⟨Tryz.f103.name, by decide, Tryz.func103.trans (congrArg some (by kernel_rfl))⟩
  f23 := ⟨Tryz.f104.name, by decide, Tryz.func104.trans (congrArg some (by kernel_rfl))⟩
  f24 := ⟨Tryz.f105.name, by decide, Tryz.func105.trans (congrArg some (by kernel_rfl))⟩
  f25 := ⟨Tryz.f106.name, by decide, Tryz.func106.trans (congrArg some (by kernel_rfl))⟩
  f26 := ⟨Tryz.f107.name, by decide, Tryz.func107.trans (congrArg some (by kernel_rfl))⟩
  f27 := ⟨Tryz.f108.name, by decide, Tryz.func108.trans (congrArg some (by kernel_rfl))⟩
  f28 := Tryz.func109.trans (congrArg some (by kernel_rfl))
  f29 := Tryz.func110.trans (congrArg some (by kernel_rfl))
  f46 := ⟨Tryz.f116.name, by decide, Tryz.func116.trans (congrArg some (by kernel_rfl))⟩
  f47 := Tryz.func117.trans (congrArg some (by kernel_rfl))
  f48 := Tryz.func118.trans (congrArg some (by kernel_rfl))
  f49 := ⟨Tryz.f119.name, by decide, Tryz.func119.trans (congrArg some (by kernel_rfl))⟩
  f50 := ⟨Tryz.f120.name, by decide, Tryz.func120.trans (congrArg some (by kernel_rfl))⟩
  f57 := ⟨Tryz.f129.name, by decide, Tryz.func129.trans (congrArg some (by kernel_rfl))⟩
  t0 := Tryz.underlying0
  a0 := Tryz.isAgg0
  z0 := Tryz.sizeOf0
  v0 := Tryz.zeroValue0
  t3 := Tryz.underlying3
  a3 := Tryz.isAgg3
  z3 := Tryz.sizeOf3
  v3 := Tryz.zeroValue3
  t4 := Tryz.underlying4
  a4 := Tryz.isAgg4
  z4 := Tryz.sizeOf4
  v4 := Tryz.zeroValue4
  t5 := Tryz.underlying5
  a5 := Tryz.isAgg5
  z5 := Tryz.sizeOf5
  v5 := Tryz.zeroValue5
  t9 := Tryz.underlying9
  a9 := Tryz.isAgg9
  z9 := Tryz.sizeOf9
  v9 := Tryz.zeroValue9
  t22 := Tryz.underlying46
  a22 := Tryz.isAgg46
  z22 := Tryz.sizeOf46
  v22 := Tryz.zeroValue46
  t25 := Tryz.underlying109
  a25 := Tryz.isAgg109
  z25 := Tryz.sizeOf109
  v25 := Tryz.zeroValue109
  t39 := Tryz.underlying147
  a39 := Tryz.isAgg147
  z39 := Tryz.sizeOf147
  v39 := Tryz.zeroValue147
  t45 := Tryz.underlying160
  a45 := Tryz.isAgg160
  z45 := Tryz.sizeOf160
  v45 := Tryz.zeroValue160
  t46 := Tryz.underlying161
  a46 := Tryz.isAgg161
  z46 := Tryz.sizeOf161
  v46 := Tryz.zeroValue161
  t50 := Tryz.underlying128
  a50 := Tryz.isAgg128
  z50 := Tryz.sizeOf128
  v50 := Tryz.zeroValue128
  t53 := Tryz.underlying119
  a53 := Tryz.isAgg119
  z53 := Tryz.sizeOf119
  v53 := Tryz.zeroValue119
  t55 := Tryz.underlying77
  a55 := Tryz.isAgg77
  z55 := Tryz.sizeOf77
  v55 := Tryz.zeroValue77
  t66 := Tryz.underlying172
  a66 := Tryz.isAgg172
  z66 := Tryz.sizeOf172
  v66 := Tryz.zeroValue172
  t70 := Tryz.underlying176
  a70 := Tryz.isAgg176
  z70 := Tryz.sizeOf176
  v70 := Tryz.zeroValue176
  t76 := Tryz.underlying187
  a76 := Tryz.isAgg187
  z76 := Tryz.sizeOf187
  v76 := Tryz.zeroValue187
  t77 := Tryz.underlying99
  a77 := Tryz.isAgg99
  z77 := Tryz.sizeOf99
  v77 := Tryz.zeroValue99 }
end Go.Proofs

/- runs: List: all runs, rising. -/
namespace Go.Proofs.YtebnelihlgdciaaGreat
open Go.RowKit Go.Maps Go.Sort Go.Shelf
set_option linter.unusedVariables false

/-- Spans as the sort takes them: numbers that are no wider than a device. -/
abbrev Spb := {x : Sp // x.1 ≤ 1000000000000}
instance : Inhabited Spb := ⟨⟨(0, 0), by decide⟩⟩
def encSp (x : Spb) : List Value := [.int .i64 (x.1.1 : Int), .int .i64 (x.1.2 : Int)]
def cfSp (x y : Spb) : Int := (x.1.1 : Int) - (y.1.1 : Int)

theorem ltSp (x y : Spb) : ltOf cfSp x y = decide (x.1.1 < y.1.1) := by
  unfold ltOf cfSp
  by_cases h : x.1.1 < y.1.1
  · rw [decide_eq_true h]; simp; omega
  · rw [decide_eq_false h]; simp; omega
theorem swoSp : SWO (ltOf cfSp) where
  irrefl x := by rw [ltSp]; simp
  trans x y z h1 h2 := by rw [ltSp] at *; simp at *; omega
  ntrans x y z h1 h2 := by rw [ltSp] at *; simp at *; omega

theorem spCs_at : ∀ (l : List Sp) (i : Nat) (s n : Nat), l[i]? = some (s, n) → (spCs l)[i * 2]? = some (.int .i64 (s : Int)) ∧ (spCs l)[i * 2 + 1]? = some (.int .i64 (n : Int))
  | [], i, s, n, h => by simp at h
  | x :: l, 0, s, n, h => by
    simp at h
    subst h
    exact ⟨rfl, rfl⟩
  | x :: l, i + 1, s, n, h => by
    have ih := spCs_at l i s n (by simpa using h)
    have e : spCs (x :: l) = .int .i64 x.1 :: .int .i64 x.2 :: spCs l := rfl
    rw [e, show (i + 1) * 2 = i * 2 + 1 + 1 by omega]
    simpa using ih

theorem flat_get (xs : List Spb) (t : Nat) (h : t < xs.length * 2) : (spCs (xs.map (·.1)))[t]? = some (flatK encSp 2 xs.toArray)[t]! := by
  have hs : t < xs.toArray.size * 2 := by simpa using h
  rw [get_flatK encSp 2 xs.toArray t hs]
  have hd : t / 2 < xs.length := by omega
  have hx : xs.toArray[t / 2]! = xs[t / 2] := by simp [hd]
  have hl : (xs.map (·.1))[t / 2]? = some (xs[t / 2].1.1, xs[t / 2].1.2) := by simp [hd]
  obtain ⟨h1, h2⟩ := spCs_at _ _ _ _ hl
  rw [hx]
  generalize xs[t / 2] = y at *
  clear hl hx hd
  rcases Nat.mod_two_eq_zero_or_one t with h0 | h0
  · rw [show t = t / 2 * 2 by omega, h1, show t / 2 * 2 % 2 = 0 by omega]
    rfl
  · rw [show t = t / 2 * 2 + 1 by omega, h2, show (t / 2 * 2 + 1) % 2 = 1 by omega]
    rfl

theorem holds_sp {w : World} {g e : Nat} {xs : List Spb} (h : RowAt w g e (spCs (xs.map (·.1)))) : HoldsK encSp 2 w g 0 xs.toArray := by
  intro j hj
  have hj' : j < xs.length * 2 := by simpa using hj
  have := flat_get xs j hj'
  rw [Nat.zero_add]
  exact ⟨h.cell this, h.frozen _⟩
theorem cells_sp {w : World} {g : Nat} {xs : List Spb} (h : HoldsK encSp 2 w g 0 xs.toArray) : Cells w (some ⟨g, 0, none⟩) (spCs (xs.map (·.1))) := by
  refine .inr ⟨g, 0, rfl, fun i v hi => ?_⟩
  have hlt : i < xs.length * 2 := by
    have := (List.getElem?_eq_some_iff.1 hi).1
    rw [spCs_length] at this; simp at this; omega
  have h1 := h i (by simpa using hlt)
  have h2 := flat_get xs i hlt
  rw [hi] at h2
  rw [h1.1]
  simp only [id]
  exact h2.symm

theorem grownBy_sortK {w : World} {g n : Nat} {os : Array Obj} (d : Array Spb) : w.grownBy (sortWorldK encSp 2 w g 0 n d os) (some g) := by
  refine ⟨rfl, rfl, rfl, by simp [sortWorldK, putRowK], fun k hk hne => ?_⟩
  unfold sortWorldK putRowK
  rw [heap_grow_old _ _ (by simpa using hk)]
  have : g ≠ k := fun e => hne (by rw [e])
  simp [putRow, mapBlock, Sort.ahead, Array.getElem?_modify, this]

set_option maxHeartbeats 1000000 in
theorem cmp_any (x y : Spb) (W : World) : Calls Tryz.prog 52 #[.agg (encSp x).toArray, .agg (encSp y).toArray] W fun e w' => e = .returned (.int .i64 (cfSp x y)) ∧ ∃ q os', w' = grow (W.drewN q) os' := by
  obtain ⟨⟨a, b⟩, hx⟩ := x
  obtain ⟨⟨c, d⟩, hy⟩ := y
  unfold encSp cfSp
  dsimp only at hx hy ⊢
  go_enter Tryz.func52, Tryz.ntmps52
  go_wp2_with fail
  go_ret
  exact ⟨rfl, 0, _, by rw [alloc_eq_grow, alloc_eq_grow, grow_grow]; rfl⟩

theorem aggSp (w : World) : (isAgg 56).run Tryz.prog w = .ok true w := Tryz.isAgg56 w
theorem sizeSp (w : World) : (Go.sizeOf 56).run Tryz.prog w = .ok 2 w := Tryz.sizeOf56 w

theorem sort_any (g cap : Nat) (xs : List Spb) (n : Nat) (hn : xs.length = n) (w : World) {e : Nat} (hr : RowAt w g e (spCs (xs.map (·.1)))) (hsz : n ≤ 1000000000000) :
    Calls Tryz.prog 51 #[.slice (some ⟨g, 0, none⟩) n cap, .func (.func 52) #[] #[]] w fun e w' =>
      e = .returned (.tuple #[]) ∧ ∃ ys : List Spb, ys.Perm xs ∧ ys.Pairwise (fun a b => a.1.1 ≤ b.1.1) ∧ Cells w' (some ⟨g, 0, none⟩) (spCs (ys.map (·.1))) ∧ w.grownBy w' (some g) := by
  subst hn
  have eg : ∀ args w, (callFunc 52 args).run Tryz.prog w = .ok (.enter 52 args) w := enters_of Tryz.func52 (by kernel_rfl) rfl
  have hlt : g < w.heap.size := hr.lt
  have hH := holds_sp hr
  have hcon := AnyQ.slices_SortFunc Tryz.sortSp 2 aggSp sizeSp encSp (fun _ => rfl) (fun x v hv => by simp [encSp] at hv; rcases hv with rfl | rfl <;> rfl) cfSp swoSp 52 #[] g 0 cap xs.toArray w eg (fun m os dk hs x y => cmp_any x y _) hH hlt (by simp; omega)
  change Calls Tryz.prog 51 _ _ _ at hcon
  rw [List.size_toArray] at hcon
  refine hcon.mono ?_
  rintro e w' ⟨rfl, d', n, os, hp, hs, rfl⟩
  have hsz' : d'.size = xs.length := by simpa using hp.1
  have hex1 : (d'.extract 0 xs.length).toList = d'.toList := by rw [← hsz']; simp
  refine ⟨rfl, d'.toList, ?_, ?_, ?_, grownBy_sortK d'⟩
  · have := hp.2.2
    rw [hex1] at this
    simpa using this
  · rw [List.pairwise_iff_getElem]
    intro i j hi hj hij
    have h := hs i j (Nat.zero_le _) hij (by simpa [hsz'] using hj)
    rw [ltSp] at h
    have hi' : i < d'.size := by simpa using hi
    have hj' : j < d'.size := by simpa using hj
    simp [hi', hj'] at h
    simpa using h
  · have h1 : HoldsK encSp 2 (sortWorldK encSp 2 w g 0 n d' os) g 0 d' := holdsK_sortWorldK_c encSp 2 w g 0 xs.toArray d' n os hH hlt (by simpa using hsz')
    exact cells_sp (xs := d'.toList) (by simpa using h1)

/-- Sorted spans with the runs' starts are the runs. -/
theorem sorted_runs {l : List Bool} {ys : List Spb} {done : List Sp} (hp : (ys.map (·.1)).Perm done) (hd : done.Perm (runsOf l)) (hs : ys.Pairwise (fun a b => a.1.1 ≤ b.1.1)) : ys.map (·.1) = runsOf l := by
  have hq := hp.trans hd
  have hris := (runsOf_is l).rising
  have hnd : ((runsOf l).map (·.1)).Nodup := by
    unfold List.Nodup
    rw [List.pairwise_map]
    exact hris.imp (fun h => by omega)
  have hnd2 : ((ys.map (·.1)).map (·.1)).Nodup := (hq.map (·.1)).nodup_iff.2 hnd
  refine rising_ext ?_ hris (fun x => hq.mem_iff)
  unfold Rising
  unfold List.Nodup at hnd2
  rw [List.pairwise_map] at hnd2
  have h2 : (ys.map (·.1)).Pairwise (fun a b => a.1 ≤ b.1) := by rw [List.pairwise_map]; exact hs
  exact (List.Pairwise.and h2 hnd2).imp (fun h => by omega)

/-- The list, as spans that the sort takes. -/
theorem as_spb : ∀ (l : List Sp), (∀ x ∈ l, x.1 ≤ 1000000000000) → ∃ xs : List Spb, xs.map (·.1) = l
  | [], _ => ⟨[], rfl⟩
  | x :: l, h => by
    obtain ⟨xs, hxs⟩ := as_spb l (fun y hy => h y (by simp [hy]))
    exact ⟨⟨x, h x (by simp)⟩ :: xs, by simp [hxs]⟩

/-- A list of spans, laid anew. -/
def SpList (w : World) (l : List Sp) : Ending → World → Prop := fun e w' => ∃ (a : Option Addr) (c : Nat), e = .returned (.slice a l.length c) ∧ Cells w' a (spCs l) ∧ Below w.heap.size w w'

theorem elBsp : Elem Tryz.prog 46 56 (.agg #[.int .i64 0, .int .i64 0]) 2 16 := Elem.mk' Tryz.underlying46 (by kernel_rfl) rfl (by decide)

theorem runs_len (f : Nat → Bool) : ∀ L, (runsTo f L).length ≤ L
  | 0 => by simp [runsTo]
  | b + 1 => by
    have ih := runs_len f b
    unfold runsTo
    split
    · split
      · split
        · simp
        · rename_i x hx
          obtain ⟨ys, hy⟩ := List.getLast?_eq_some_iff.1 hx
          rw [hy] at ih ⊢
          simp at ih ⊢; omega
      · simp; omega
    · omega

set_option maxHeartbeats 2000000 in
theorem ilist_any {w : World} {T : Tri} {n : Nat} {l : List Bool} (h : IxAt w T n l) (hl : l.length ≤ 100000000000) :
    Calls Tryz.prog 17 #[.pointer (some ⟨T.p, 0, none⟩)] w (SpList w (runsOf l)) := by
  have HLt := Lib.hid (show T.s < w.heap.size from h.mem T.s (by simp [Tri.list]))
  obtain ⟨M, E, hA, hMO, _⟩ := h
  have e0 : w.cell? ⟨T.p, 0, none⟩ = some (.map (some T.s)) := hA.row.cell rfl
  have HS := Lib.hid hA.byS
  have HMO := Lib.hid hMO
  have HRl := Lib.hid (runs_len (fb l) l.length)
  have HL := Lib.hid hl
  clear hA hMO hl
  obtain ⟨B, hB⟩ : ∃ B, B = w.heap.size + 1 := ⟨_, rfl⟩
  have HBB := Lib.hid hB
  clear hB
  generalize hPo : SpList w (runsOf l) = Post
  have HPo := Lib.hid hPo
  clear hPo
  go_enter Tryz.func17, Tryz.ntmps17
  go_wp2_with (at_range; refine wpList_irange rfl _ 105 rfl 3 Tryz.underlying3 Tryz.underlying105 T.s n M rfl HS.out ?_; intro w0 cnt0 hr0 hg0 hs0)
  have HR0 := Lib.hid hr0
  have HB0 := Lib.hid (grown_none hg0)
  have HS0 := Lib.hid hs0
  clear hr0 hg0 hs0
  go_frame
  go_loopw [3] (fun v wr => ∃ (L : Int → Bool) (cnt : Nat) (done rest : List Sp), wr.ownsRow B 56 2 v done.length (spCs done) ∧ B ≤ wr.heap.size ∧ IRange Tryz.prog 3 wr T.s w.heap.size n M L cnt ∧ Below w.heap.size w wr ∧ Part l M L done rest) (fun _ wr => wr.rangeLeft T.s w.heap.size)
  case atStart => exact ⟨_, _, [], runsOf l, ⟨rfl, .inl ⟨rfl, rfl⟩⟩, by rw [HS0.out, HBB.out]; exact Nat.le_refl _, HR0.out, HB0.out, Part.start HMO.out⟩
  case round =>
    obtain ⟨L, cnt, done, rest, ho, hbs, hr, hb, hp⟩ := hrel
    have HR := Lib.hid hr
    have HB := Lib.hid hb
    have HO := Lib.hid ho
    have HP := Lib.hid hp
    have HBs := Lib.hid hbs
    obtain ⟨a1, c1, rfl, hc1, hm1⟩ := owned_form ho
    clear hr hb hp ho hbs
    go_wp2_with (at_next; refine wpList_inext rfl _ rfl 3 Tryz.underlying3 T.s w.heap.size n M _ _ rfl HR.out ?_ ?_)
    · intro h0
      have hperm := HP.out.finish h0
      have hlen : done.length = (runsOf l).length := hperm.length_eq
      have hbd : ∀ x ∈ done, x.1 ≤ 1000000000000 := fun x hx => by
        have h1 := ((runsOf_is l).mem x.1 x.2).1 (hperm.mem_iff.1 hx)
        have := runEnds h1
        have := HL.out
        omega
      obtain ⟨xs, hxs⟩ := as_spb done hbd
      have hxl : xs.length = done.length := by rw [← hxs]; simp
      have hdl : done.length ≤ 1000000000000 := by rw [hlen]; have := HRl.out; have := HL.out; unfold runsOf; omega
      have HPm := Lib.hid hperm
      have HXs := Lib.hid hxs
      have HLen := Lib.hid hlen
      have HXl := Lib.hid hxl
      clear h0 hperm hlen hbd hxs hxl
      by_cases hd0 : done.length = 0
      · have hnil : done = [] := List.eq_nil_of_length_eq_zero hd0
        have hrn : runsOf l = [] := List.eq_nil_of_length_eq_zero (by rw [← HLen.out]; exact hd0)
        have HRn := Lib.hid hrn
        subst hnil
        clear hrn hd0
        go_wp2_with (go_at_call 51; refine (show Calls Tryz.prog 51 _ _ _ from AnyF.slices_SortFunc_none (P := Tryz.prog) (ρ := Tryz.sortSp_ren) { Tryz.sortSp with } a1 c1 _ _).mono ?_; rintro e w' ⟨rfl, rfl⟩)
        rw [← HPo.out, HRn.out]
        exact ⟨a1, c1, rfl, .inl rfl, HB.out⟩
      · obtain ⟨g, c2, he, _, _, hg1, hg2⟩ := owned_some HO.out (by omega)
        cases he
        have HRow := Lib.hid (show RowAt wr g 56 (spCs (xs.map (·.1))) by rw [HXs.out]; exact owned_row HO.out)
        go_wp2_with (go_at_call 51; refine (sort_any g c1 xs done.length HXl.out _ HRow.out hdl).mono ?_; rintro e w' ⟨rfl, ys, hyp, hys, hyc, hyg⟩; have HYp := Lib.hid hyp; have HYs := Lib.hid hys; have HYc := Lib.hid hyc; have HYg := Lib.hid hyg; clear hyp hys hyc hyg)
        rw [← HPo.out]
        have he : ys.map (·.1) = runsOf l := sorted_runs (done := done) (by rw [← HXs.out]; exact HYp.out.map _) HPm.out HYs.out
        refine ⟨some ⟨g, 0, none⟩, c1, by rw [← HLen.out]; rfl, ?_, ?_⟩
        · rw [← he]; exact HYc.out
        · exact HB.out.trans (grown_one HYg.out (by have := HBB.out; omega) HB.out.size)
    · intro x c w1 cnt1 hwx hwc hL hMx hr1 hlt hg1 hs1 hen
      obtain ⟨s, k, rfl, rfl, _, hp1⟩ := HP.out.step HMO.out hL hMx
      have hP1 := Lib.hid hp1
      have HB1 : Hid (Below w.heap.size w w1) := Lib.hid (HB.out.trans (grown_one hg1 (Nat.le_refl _) HB.out.size))
      have hob : ∀ g, (Value.slice a1 done.length c1).ownBlock = some g → B ≤ g ∧ g < wr.heap.size := fun g hg => HO.out.lt g hg
      have hO1 := HO.out.kept hg1 (by
        cases hb : (Value.slice a1 done.length c1).ownBlock with
        | none => exact .inl rfl
        | some g => exact .inr (fun e => by have := (hob g hb).1; have := HBB.out; cases e; omega))
      have HO1 := Lib.hid hO1
      have HR1 := Lib.hid hr1
      have hdl : done.length < 1000000000000 := by
        have h1 := HP.out.perm.length_eq
        have := HRl.out
        have := HL.out
        unfold runsOf at h1
        simp at h1
        omega
      have HBs1 : Hid (B ≤ w1.heap.size) := Lib.hid (by have := HBs.out; omega)
      have HLt1 := Lib.hid hlt
      have HOb := Lib.hid hob
      have hone : Hid (∀ u ∈ (#[Value.int .i64 (s : Int), Value.int .i64 (k : Int)] : Array Value).toList, u.oneCell' = true) := Lib.hid (by intro u hu; simp at hu; rcases hu with rfl | rfl <;> rfl)
      clear hL hMx hr1 hlt hg1 hs1 hwx hwc hp1 hO1 hob
      go_wp2_with (at_builtin; refine wpList_append_new (us := #[.int .i64 (s : Int), .int .i64 (k : Int)]) elBsp HO1.out rfl hone.out hdl (by decide) HBs1.out rfl rfl rfl (by simp [Act.eval]) ?_; intro g6 c6 w6 ho6 hg6 hc6 hm6 hb6 hl6; have HO6 := Lib.hid ho6; have HG6 := Lib.hid hg6; clear ho6 hg6)
      have hrs : some T.s ≠ (Value.slice a1 done.length c1).ownBlock := fun e => by have := (HOb.out T.s e.symm).1; have := HBB.out; have := HLt.out; omega
      have hrr : some w.heap.size ≠ (Value.slice a1 done.length c1).ownBlock := fun e => by have := (HOb.out w.heap.size e.symm).1; have := HBB.out; omega
      have HR6 := Lib.hid (HR1.out.kept HG6.out hrs hrr)
      have HB6 : Hid (Below w.heap.size w w6) := Lib.hid (below_grownBy HB1.out HO1.out HG6.out (Nat.le_refl _) (by have := HBB.out; omega))
      have hz6 := HG6.out.size
      clear hrs hrr
      go_roundw
      case rel => exact ⟨_, _, done ++ [(s, k)], _, by rw [List.length_append, spCs_append]; exact HO6.out, Nat.le_trans HBs1.out hz6, HR6.out, HB6.out, hP1.out⟩
      case measure => rw [HR6.out.left_eq, HR.out.left_eq]; exact HLt1.out

end Go.Proofs.YtebnelihlgdciaaGreat

/- The reference of layer 11: set, List, Give, Take, Total. -/
namespace Go.Proofs.YtebnelihlgdciaaGreat
open Go.RowKit
set_option linter.unusedVariables false

theorem elBl : Elem Tryz.prog 30 4 (.bool false) 1 1 := Elem.mk' Tryz.underlying30 (by kernel_rfl) rfl (by decide)
theorem elR10 : Elem Tryz.prog 97 139 (.agg #[.int .i64 0, .int .i64 0]) 2 16 := Elem.mk' Tryz.underlying97 (by kernel_rfl) rfl (by decide)
theorem bl_one (bs : List Bool) : ∀ u ∈ bs.map Value.bool, u.oneCell' = true := by
  intro u hu
  simp only [List.mem_map] at hu
  obtain ⟨b, _, rfl⟩ := hu
  rfl

/-- Truths, laid anew. -/
def BlPost (w : World) (l : List Bool) : Ending → World → Prop := fun e w' => ∃ (a : Option Addr) (c : Nat), e = .returned (.slice a l.length c) ∧ Cells w' a (l.map Value.bool) ∧ Below w.heap.size w w' ∧ (∀ b o s, a = some ⟨b, o, s⟩ → w.heap.size ≤ b)

theorem setTo_row {w : World} {g e : Nat} {l : List Bool} {s : Nat} {v : Bool} {k : Nat} (h : RowAt w g e ((setTo l s v k).map Value.bool)) (hk : s + k < l.length) : RowAt (w.setCell ⟨g, s + k, none⟩ (.bool v)) g e ((setTo l s v (k + 1)).map Value.bool) := by
  have := h.set (s + k) (by rw [List.length_map, setTo_length]; exact hk) (.bool v)
  rw [setTo, List.map_set]
  exact this

set_option maxHeartbeats 1000000 in
theorem rset_any (a : Option Addr) (n cap : Nat) (l : List Bool) (hn : l.length = n) (s m : Nat) (v : Bool) (w : World) (hc : Cells w a (l.map Value.bool)) (hs : s + m ≤ n) (hl : n ≤ 100000000000) :
    Calls Tryz.prog 86 #[.slice a n cap, .int .i64 (s : Int), .int .i64 (m : Int), .bool v] w (BlPost w (setTo l s v m)) := by
  have hb := below_alloc w (.cells #[] 4)
  have ho := World.ownsRow_lit (base := w.heap.size) (e := 4) (size := 1) w #[] 0 (Nat.le_refl _) (by unfold maxLen; omega) rfl
  have HC := Lib.hid (hc.below hb (Nat.le_refl _))
  have HL : Hid ((l.map Value.bool).length = n * 1) := Lib.hid (by rw [List.length_map, hn, Nat.mul_one])
  have HO := Lib.hid ho
  have HB := Lib.hid hb
  have HN := Lib.hid hn
  have hone : Hid (∀ u ∈ l.map Value.bool, u.oneCell' = true) := Lib.hid (bl_one _)
  have hbase := Lib.hid hb.size
  have hn9 : 0 + n < 1000000000000 := by omega
  clear hb ho hc hn
  generalize hPo : BlPost w (setTo l s v m) = Post
  have HPo := Lib.hid hPo
  clear hPo
  go_enter Tryz.func86, Tryz.ntmps86
  go_wp2_with (at_builtin; refine wpList_append_cells elBl HO.out HC.out HL.out hone.out hn9 (by decide) hbase.out rfl rfl rfl rfl ?_; intro v2 w2 ho2 hg2 hv2; have HO2 := Lib.hid ho2; have HG2 := Lib.hid hg2; have HV2 := Lib.hid hv2; clear ho2 hg2 hv2)
  have h2 := HO2.out
  rw [Nat.zero_add] at h2
  obtain ⟨g, c, rfl, h3, h4, h5, h6⟩ := owned_new h2 (fun e => by have := (HV2.out e).1; simp at this)
  have HB2 : Hid (Below w.heap.size w w2) := Lib.hid (below_grownBy HB.out HO.out HG2.out (Nat.le_refl _) (Nat.le_refl _))
  have HR2 : Hid (RowAt w2 g 4 (l.map Value.bool)) := Lib.hid (by simpa using h6)
  have HG3 := Lib.hid h3
  clear h2 h3 h5 h6 HG2 HO2 HV2 HO HB HC hbase
  go_wp2_with fail
  go_loopw [10] (fun i wr => ∃ k : Nat, k ≤ m ∧ i = .int .i64 (k : Int) ∧ RowAt wr g 4 ((setTo l s v k).map Value.bool) ∧ Below w.heap.size w wr) (fun i _ => m - (intOf i).toNat)
  case atStart => exact ⟨0, Nat.zero_le _, rfl, HR2.out, HB2.out⟩
  case round =>
    obtain ⟨k, hk, rfl, hr, hb⟩ := hrel
    have HR := Lib.hid hr
    have HB := Lib.hid hb
    clear hr hb
    by_cases hlt : k < m
    · have hlt' : (k : Int) < (m : Int) := by omega
      have hin : s + k < n := by omega
      have hin' : (s : Int) + (k : Int) < (n : Int) := by omega
      have HIn : Hid (s + k < l.length) := Lib.hid (by rw [HN.out]; exact hin)
      obtain ⟨u, hu⟩ : ∃ u, ((setTo l s v k).map Value.bool)[s + k]? = some u := ⟨_, List.getElem?_eq_getElem (by rw [List.length_map, setTo_length]; exact HIn.out)⟩
      have e0 : wr.cell? ⟨g, s + k, none⟩ = some u := HR.out.cell hu
      have e1 : wr.frozen? ⟨g, s + k, none⟩ = false := HR.out.frozen _
      have hto : ((s : Int) + (k : Int)).toNat = s + k := by omega
      clear hu
      go_wp2_with fail
      go_roundw
      case rel => exact ⟨k + 1, by omega, vint (by omega), setTo_row HR.out HIn.out, HB.out.setCell HG3.out _⟩
      case measure => simp [intOf]; omega
    · obtain rfl : k = m := by omega
      have hlt' : decide ((k : Int) < (k : Int)) = false := by simp
      go_wp2_with fail
      rw [← HPo.out]
      exact ⟨some ⟨g, 0, none⟩, c, by rw [setTo_length, HN.out]; rfl, HR.out.cells, HB.out, fun b o s e => by cases e; exact HG3.out⟩

/-- The last run ends where the next block is free. -/
theorem runsTo_last (f : Nat → Bool) : ∀ b, 0 < b → f (b - 1) = true → ∃ ys s n, runsTo f b = ys ++ [(s, n)]
  | 0, h, _ => by omega
  | b + 1, _, hf => by
    have hf' : f b = true := by simpa using hf
    rw [runsTo, if_pos hf']
    by_cases h : 0 < b ∧ f (b - 1) = true
    · rw [if_pos h]
      obtain ⟨ys, s, n, e⟩ := runsTo_last f b h.1 h.2
      rw [e]
      exact ⟨ys, s, n + 1, by simp⟩
    · rw [if_neg h]
      exact ⟨runsTo f b, b, 1, rfl⟩

/-- What a round of List meets. -/
theorem runs_round (f : Nat → Bool) (b : Nat) :
    (f b = false ∧ runsTo f (b + 1) = runsTo f b) ∨
    (f b = true ∧ 0 < b ∧ f (b - 1) = true ∧ ∃ ys s n, runsTo f b = ys ++ [(s, n)] ∧ n ≤ b ∧ runsTo f (b + 1) = ys ++ [(s, n + 1)]) ∨
    (f b = true ∧ (b = 0 ∨ 0 < b ∧ f (b - 1) = false) ∧ runsTo f (b + 1) = runsTo f b ++ [(b, 1)]) := by
  cases hf : f b with
  | false => exact .inl ⟨rfl, by rw [runsTo, if_neg (by simp [hf])]⟩
  | true =>
    right
    by_cases h : 0 < b ∧ f (b - 1) = true
    · obtain ⟨ys, s, n, e⟩ := runsTo_last f b h.1 h.2
      refine .inl ⟨rfl, h.1, h.2, ys, s, n, e, ?_, by rw [runsTo, if_pos hf, if_pos h, e]; simp⟩
      have h1 := sum_runsTo f b
      rw [e, sum_app] at h1
      simp [sumOf] at h1
      omega
    · refine .inr ⟨rfl, ?_, by rw [runsTo, if_pos hf, if_neg h]⟩
      rcases Nat.eq_zero_or_pos b with h0 | h0
      · exact .inl h0
      · exact .inr ⟨h0, by cases hp : f (b - 1) with | false => rfl | true => exact absurd ⟨h0, hp⟩ h⟩

theorem bl_at {w : World} {a : Option Addr} {l : List Bool} (h : Cells w a (l.map Value.bool)) {i : Nat} (hi : i < l.length) :
    ∃ b off, a = some ⟨b, off, none⟩ ∧ ∀ j, j < l.length → w.cell? ⟨b, off + j, none⟩ = some (.bool (fb l j)) := by
  obtain ⟨b, off, h1, _, h2⟩ := h.atMap false hi
  exact ⟨b, off, h1, h2⟩

set_option maxHeartbeats 2000000 in
theorem rlist_any (a : Option Addr) (n cap : Nat) (l : List Bool) (hn : l.length = n) (w : World) (hc : Cells w a (l.map Value.bool)) (hl : n ≤ 100000000000) :
    Calls Tryz.prog 43 #[.slice a n cap] w (SpList w (runsOf l)) := by
  have HN := Lib.hid hn
  have HC := Lib.hid hc
  have HRl := Lib.hid (runs_len (fb l))
  have HRo : Hid (runsOf l = runsTo (fb l) n) := Lib.hid (by rw [← hn]; rfl)
  generalize hPo : SpList w (runsOf l) = Post
  have HPo := Lib.hid hPo
  clear hn hc hPo
  go_enter Tryz.func43, Tryz.ntmps43
  go_wp2_with fail
  go_loopw [3, 4] (fun v i wr => ∃ b : Nat, b ≤ n ∧ i = .int .i64 (b : Int) ∧ wr.ownsRow w.heap.size 139 2 v (runsTo (fb l) b).length (spCs (runsTo (fb l) b)) ∧ Below w.heap.size w wr) (fun _ i _ => n - (intOf i).toNat)
  case atStart => exact ⟨0, Nat.zero_le _, rfl, ⟨rfl, .inl ⟨rfl, rfl⟩⟩, Below.refl _ _⟩
  case round =>
    obtain ⟨b, hbn, rfl, ho, hb⟩ := hrel
    by_cases hlt : b < n
    · have hlt' : (b : Int) < (n : Int) := by omega
      have HB := Lib.hid hb
      obtain ⟨bl, off, rfl, dd⟩ := bl_at (HC.out.below hb (Nat.le_refl _)) (i := b) (by rw [HN.out]; exact hlt)
      have d0 := dd b (by rw [HN.out]; exact hlt)
      have DD := Lib.hid dd
      clear dd
      have hr := runs_round (fb l) b
      have HLb := Lib.hid (HRl.out b)
      rcases hr with ⟨hk, hs⟩ | ⟨hk, h1b, hk2, pl, s, m, hs1, hs2, hs3⟩ | ⟨hk, hp, hs3⟩
      · rw [hk] at d0
        obtain ⟨a1, c1, rfl, hc1, hm1⟩ := owned_form ho
        have HO : Hid (wr.ownsRow w.heap.size 139 2 (.slice a1 (runsTo (fb l) b).length c1) (runsTo (fb l) (b + 1)).length (spCs (runsTo (fb l) (b + 1)))) := Lib.hid (by rw [hs]; exact ho)
        clear ho hs hk HLb hb
        go_wp2_with fail
        exact ⟨⟨b + 1, by omega, vint (by omega), HO.out, HB.out⟩, by simp [intOf]; omega⟩
      · rw [hk] at d0
        have d1 := DD.out (b - 1) (by rw [HN.out]; omega)
        rw [hk2] at d1
        rw [hs1] at ho
        obtain ⟨L, hL⟩ : ∃ L, L = pl.length := ⟨_, rfl⟩
        rw [show (pl ++ [(s, m)]).length = L + 1 by simp [hL]] at ho
        obtain ⟨g, c1, rfl, hc1, hm1, hg1, hg2⟩ := owned_some ho (by omega)
        have hr := owned_row ho
        have hla := spCs_last pl s m
        rw [← hL] at hla
        have e1 : wr.cell? ⟨g, L * 2 + 1, none⟩ = some (.int .i64 (m : Int)) := hr.cell hla.2
        have f1 : wr.frozen? ⟨g, L * 2 + 1, none⟩ = false := hr.frozen _
        have HL := Lib.hid hL
        have HS3 := Lib.hid hs3
        have HO1 := Lib.hid ho
        have hLb : L < 1000000000000 := by have := HLb.out; rw [hs1] at this; simp [← hL] at this; omega
        have hb1 : 0 < (b : Int) := by omega
        have hto : ((b : Int) - 1).toNat = b - 1 := by omega
        have hbm : (b : Int) - 1 < (n : Int) := by omega
        clear ho hs1 hs3 hL hla hr hk hk2 HLb hb h1b
        have hw1 : IntKind.i64.wrap (L : Int) = L := IntWalk.i64_in _ (by omega)
        go_wp2_with fail
        clear hw1
        refine ⟨⟨b + 1, by omega, vint (by omega), ?_, ?_⟩, by simp [intOf]; omega⟩
        · rw [HS3.out, ← show ((m + 1 : Nat) : Int) = (m : Int) + 1 from rfl, ← spCs_bump pl s m (m + 1), show (pl ++ [(s, m + 1)] : List Sp).length = L + 1 by simp [HL.out], ← HL.out]
          exact (HO1.out.stored (L * 2 + 1) _).1
        · exact below_grownBy HB.out HO1.out (HO1.out.stored (L * 2 + 1) _).2 (Nat.le_refl _) (Nat.le_refl _)
      · rw [hk] at d0
        obtain ⟨a1, c1, rfl, hc1, hm1⟩ := owned_form ho
        have HO1 := Lib.hid ho
        have HS3 := Lib.hid hs3
        have hone : Hid (∀ u ∈ (#[Value.int .i64 (b : Int), Value.int .i64 1] : Array Value).toList, u.oneCell' = true) := Lib.hid (by intro u hu; simp at hu; rcases hu with rfl | rfl <;> rfl)
        have hL9 : (runsTo (fb l) b).length < 1000000000000 := by have := HLb.out; omega
        have hbase : Hid (w.heap.size ≤ wr.heap.size) := Lib.hid hb.size
        rcases hp with h0 | ⟨h0, hk2⟩
        · have q1 : decide (0 < (b : Int)) = false := by simp; omega
          have q2 : decide (0 < b) = false := by simp; omega
          clear ho hs3 hk HLb hb h0
          go_wp2_with (at_builtin; refine wpList_append_new (us := #[.int .i64 (b : Int), .int .i64 1]) elR10 HO1.out rfl hone.out hL9 (by decide) hbase.out rfl rfl rfl (by simp [Act.eval]) ?_; intro g6 c6 w6 ho6 hg6 hc6 hm6 hb6 hl6; have HO6 := Lib.hid ho6; have HG6 := Lib.hid hg6; clear ho6 hg6)
          refine ⟨⟨b + 1, by omega, vint (by omega), ?_, below_grownBy HB.out HO1.out HG6.out (Nat.le_refl _) (Nat.le_refl _)⟩, by simp [intOf]; omega⟩
          rw [HS3.out, List.length_append, spCs_append]
          exact HO6.out
        · have d1 := DD.out (b - 1) (by rw [HN.out]; omega)
          rw [hk2] at d1
          have hb1 : 0 < (b : Int) := by omega
          have hto : ((b : Int) - 1).toNat = b - 1 := by omega
          have hbm : (b : Int) - 1 < (n : Int) := by omega
          clear ho hs3 hk hk2 HLb hb h0
          go_wp2_with (at_builtin; refine wpList_append_new (us := #[.int .i64 (b : Int), .int .i64 1]) elR10 HO1.out rfl hone.out hL9 (by decide) hbase.out rfl rfl rfl (by simp [Act.eval]) ?_; intro g6 c6 w6 ho6 hg6 hc6 hm6 hb6 hl6; have HO6 := Lib.hid ho6; have HG6 := Lib.hid hg6; clear ho6 hg6)
          refine ⟨⟨b + 1, by omega, vint (by omega), ?_, below_grownBy HB.out HO1.out HG6.out (Nat.le_refl _) (Nat.le_refl _)⟩, by simp [intOf]; omega⟩
          rw [HS3.out, List.length_append, spCs_append]
          exact HO6.out
    · obtain rfl : b = n := by omega
      obtain ⟨a1, c1, rfl, hc1, hm1⟩ := owned_form ho
      have HO := Lib.hid ho
      have HB := Lib.hid hb
      have hlt' : decide ((b : Int) < (b : Int)) = false := by simp
      clear ho hb
      go_wp2_with fail
      rw [← HPo.out, HRo.out]
      exact ⟨a1, c1, rfl, Cells.owned2 HO.out, HB.out⟩

/-- What the reference's Give leaves. -/
def RGive (w : World) (a0 : Option Addr) (l : List Bool) (r : List Bool × Int) : Ending → World → Prop := fun e w' => ∃ (a : Option Addr) (c : Nat), e = .returned (.tuple #[.slice a l.length c, .int .i64 r.2]) ∧ Cells w' a (r.1.map Value.bool) ∧ Below w.heap.size w w' ∧ (a = a0 ∨ ∀ b o s, a = some ⟨b, o, s⟩ → w.heap.size ≤ b)

set_option maxHeartbeats 1000000 in
theorem rgive_any (a : Option Addr) (n cap : Nat) (l : List Bool) (hn : l.length = n) (s m : Int) (w : World) (hc : Cells w a (l.map Value.bool)) (hl : n ≤ 100000000000) :
    Calls Tryz.prog 58 #[.slice a n cap, .int .i64 s, .int .i64 m] w (RGive w a l (giveR l s m)) := by
  by_cases hbad : s < 1 ∨ m < 1 ∨ (n : Int) ≤ s ∨ (n : Int) - s < m
  · have hR := giveR_arg (l := l) (a := s) (m := m) (by rw [hn]; exact hbad)
    have HP : Hid (RGive w a l (giveR l s m) (.returned (.tuple #[.slice a n cap, .int .i64 1])) w) := Lib.hid (by unfold RGive; rw [hR]; exact ⟨a, cap, by rw [hn], hc, Below.refl _ _, .inl rfl⟩)
    have hcase : s < 1 ∨ (1 ≤ s ∧ m < 1) ∨ (1 ≤ s ∧ 1 ≤ m ∧ (n : Int) ≤ s) ∨ (1 ≤ s ∧ 1 ≤ m ∧ s < (n : Int) ∧ (n : Int) - s < m) := by omega
    generalize RGive w a l (giveR l s m) = Post at *
    clear hR hbad hc hn
    rcases hcase with h1 | ⟨h1, h2⟩ | ⟨h1, h2, h3⟩ | ⟨h1, h2, h3, h4⟩
    all_goals
      go_enter Tryz.func58, Tryz.ntmps58
      go_wp2_with fail
      exact HP.out
  · obtain ⟨s, rfl⟩ := Int.eq_ofNat_of_zero_le (show 0 ≤ s by omega)
    obtain ⟨m, rfl⟩ := Int.eq_ofNat_of_zero_le (show 0 ≤ m by omega)
    have hb : 1 ≤ s ∧ 1 ≤ m ∧ s + m ≤ l.length := by omega
    have HTw : Hid (anyFree l s m = true → RGive w a l (giveR l s m) (.returned (.tuple #[.slice a n cap, .int .i64 41])) w) := Lib.hid (fun hf => by
      unfold RGive; rw [giveR_twice hb hf]; exact ⟨a, cap, by rw [hn], hc, Below.refl _ _, .inl rfl⟩)
    have HOk : Hid (anyFree l s m = false → ∀ a' c' w', Cells w' a' ((setTo l s true m).map Value.bool) → Below w.heap.size w w' → (∀ b o s, a' = some ⟨b, o, s⟩ → w.heap.size ≤ b) → RGive w a l (giveR l s m) (.returned (.tuple #[.slice a' n c', .int .i64 0])) w') := Lib.hid (fun hf a' c' w' h1 h2 h3 => by
      unfold RGive; rw [giveR_ok hb hf]; exact ⟨a', c', by rw [hn], h1, h2, .inr h3⟩)
    obtain ⟨g1, g2, g3⟩ := hb
    rw [hn] at g3
    obtain ⟨bl, off, rfl, dd⟩ := bl_at hc (i := s) (by omega)
    have HC := Lib.hid hc
    have HN := Lib.hid hn
    have DD := Lib.hid dd
    generalize RGive w (some ⟨bl, off, none⟩) l (giveR l s m) = Post at *
    clear hbad hc dd hn
    have q1 : decide ((s : Int) < 1) = false := by simp; omega
    have q2 : decide ((m : Int) < 1) = false := by simp; omega
    have q3 : decide (n ≤ s) = false := by simp; omega
    have q4 : decide ((n : Int) - (s : Int) < (m : Int)) = false := by simp; omega
    go_enter Tryz.func58, Tryz.ntmps58
    go_wp2_with fail
    go_loop [6, 7, 8] (fun _ _ i => ∃ k : Nat, k ≤ m ∧ i = .int .i64 (k : Int) ∧ anyFree l s k = false) (fun _ _ i => m - (intOf i).toNat)
    case atStart => exact ⟨0, Nat.zero_le _, rfl, rfl⟩
    case round =>
      obtain ⟨k, hk, rfl, hf⟩ := hrel
      have HF := Lib.hid hf
      clear hf
      by_cases hlt : k < m
      · have hlt' : (k : Int) < (m : Int) := by omega
        have hin : (s : Int) + (k : Int) < (n : Int) := by omega
        have hto : ((s : Int) + (k : Int)).toNat = s + k := by omega
        have d0 := DD.out (s + k) (by rw [HN.out]; omega)
        cases hfb : fb l (s + k) with
        | true =>
          rw [hfb] at d0
          have HAll : Hid (anyFree l s m = true) := Lib.hid (anyFree_one (b := s + k) (by omega) (by omega) hfb)
          clear hfb
          go_wp2_with fail
          exact HTw.out HAll.out
        | false =>
          rw [hfb] at d0
          have HN1 : Hid (anyFree l s (k + 1) = false) := Lib.hid (by rw [anyFree, HF.out, hfb]; rfl)
          clear hfb
          go_wp2_with fail
          go_round
          case rel => exact ⟨k + 1, by omega, vint (by omega), HN1.out⟩
          case measure => simp [intOf]; omega
      · obtain rfl : k = m := by omega
        have hlt' : decide ((k : Int) < (k : Int)) = false := by simp
        go_wp2_with fail
        refine (rset_any (some ⟨bl, off, none⟩) n cap l HN.out s k true w HC.out (by omega) hl).mono ?_
        rintro e w1 ⟨a', c', rfl, hc1, hb1, hl1⟩
        rw [setTo_length, HN.out]
        have HC1 := Lib.hid hc1
        have HB1 := Lib.hid hb1
        have HL1 := Lib.hid hl1
        clear hc1 hb1 hl1
        go_wp2_with fail
        exact HOk.out HF.out _ _ _ HC1.out HB1.out HL1.out

/-- What the reference's Take leaves. -/
def RTake (w : World) (a0 : Option Addr) (l : List Bool) (r : List Bool × Int × Int) : Ending → World → Prop := fun e w' => ∃ (a : Option Addr) (c : Nat), e = .returned (.tuple #[.slice a l.length c, .int .i64 r.2.1, .int .i64 r.2.2]) ∧ Cells w' a (r.1.map Value.bool) ∧ Below w.heap.size w w' ∧ (a = a0 ∨ ∀ b o s, a = some ⟨b, o, s⟩ → w.heap.size ≤ b)

/-- The best one among the first spans. -/
def BestIx (L : List Sp) (m i : Nat) (v : Int) : Prop := (v = -1 ∧ pick m L = pickGo m none (L.drop i)) ∨ ∃ j x, v = (j : Nat) ∧ L[j]? = some x ∧ pick m L = pickGo m (some x) (L.drop i)

theorem drop_next {L : List Sp} {i : Nat} {x : Sp} (h : L[i]? = some x) : L.drop i = x :: L.drop (i + 1) := by
  obtain ⟨h1, h2⟩ := List.getElem?_eq_some_iff.1 h
  rw [List.drop_eq_getElem_cons h1, h2]

theorem sp_getD {L : List Sp} {i : Nat} {x : Sp} (h : L[i]? = some x) : L.getD i (0, 0) = (x.1, x.2) := by
  rw [List.getD_eq_getElem?_getD, h]; rfl

set_option maxHeartbeats 4000000 in
theorem rtake_any (a : Option Addr) (n cap : Nat) (l : List Bool) (hn : l.length = n) (z : Int) (w : World) (hc : Cells w a (l.map Value.bool)) (hl : n ≤ 100000000000) :
    Calls Tryz.prog 53 #[.slice a n cap, .int .i64 z] w (RTake w a l (takeR l z)) := by
  by_cases hz : z < 1
  · have HP : Hid (RTake w a l (takeR l z) (.returned (.tuple #[.slice a n cap, .int .i64 0, .int .i64 1])) w) := Lib.hid (by unfold RTake; rw [takeR_arg hz]; exact ⟨a, cap, by rw [hn], hc, Below.refl _ _, .inl rfl⟩)
    generalize RTake w a l (takeR l z) = Post at *
    clear hc hn
    go_enter Tryz.func53, Tryz.ntmps53
    go_wp2_with fail
    go_ret3
    exact HP.out
  obtain ⟨m, rfl⟩ := Int.eq_ofNat_of_zero_le (show 0 ≤ z by omega)
  have hm1 : 1 ≤ m := by omega
  have HNone : Hid (pick m (runsOf l) = none → ∀ w', Below w.heap.size w w' → RTake w a l (takeR l m) (.returned (.tuple #[.slice a n cap, .int .i64 0, .int .i64 4])) w') := Lib.hid (fun hp w' hb => by
    unfold RTake; rw [takeR_none hm1 hp]; exact ⟨a, cap, by rw [hn], hc.below hb (Nat.le_refl _), hb, .inl rfl⟩)
  have HSome : Hid (∀ x : Sp, pick m (runsOf l) = some x → ∀ a' c' w', Cells w' a' ((setTo l x.1 false m).map Value.bool) → Below w.heap.size w w' → (∀ b o s, a' = some ⟨b, o, s⟩ → w.heap.size ≤ b) → RTake w a l (takeR l m) (.returned (.tuple #[.slice a' n c', .int .i64 (x.1 : Int), .int .i64 0])) w') := Lib.hid (fun x hp a' c' w' h1 h2 h3 => by
    unfold RTake; rw [takeR_some hm1 hp]; exact ⟨a', c', by rw [hn], h1, h2, .inr h3⟩)
  have HC := Lib.hid hc
  have HN := Lib.hid hn
  have HRl : Hid ((runsOf l).length ≤ n) := Lib.hid (by rw [← hn]; exact runs_len (fb l) l.length)
  generalize RTake w a l (takeR l m) = Post at *
  clear hc hn
  have q1 : decide ((m : Int) < 1) = false := by simp; omega
  go_enter Tryz.func53, Tryz.ntmps53
  go_wp2_with fail
  refine (rlist_any a n cap l HN.out w HC.out hl).mono ?_
  rintro e w1 ⟨al, cl, rfl, hcl, hb1⟩
  have HCl := Lib.hid hcl
  have HB1 := Lib.hid hb1
  clear hcl hb1
  obtain ⟨L, hL⟩ : ∃ L, L = runsOf l := ⟨_, rfl⟩
  rw [← hL] at HCl HRl HNone HSome ⊢
  obtain ⟨N, hN⟩ : ∃ N, N = L.length := ⟨_, rfl⟩
  rw [← hN] at HRl ⊢
  have HLe := Lib.hid hL
  have HNe := Lib.hid hN
  have hNn := HRl.out
  clear hL hN
  go_wp2_with fail
  go_loopw [8, 9] (fun v i wr => ∃ (k : Nat) (b : Int), k ≤ N ∧ i = .int .i64 (k : Int) ∧ v = .int .i64 b ∧ BestIx L m k b ∧ Below w1.heap.size w1 wr) (fun _ i _ => N - (intOf i).toNat)
  case atStart => exact ⟨0, -1, Nat.zero_le _, rfl, rfl, .inl ⟨rfl, rfl⟩, Below.refl _ _⟩
  case round =>
    obtain ⟨k, b, hk, rfl, rfl, hbest, hb⟩ := hrel
    have HB := Lib.hid hb
    have HC2 := Lib.hid (HCl.out.below hb (Nat.le_refl _))
    clear hb
    by_cases hlt : k < N
    · have hlt' : (k : Int) < (N : Int) := by omega
      have hkL : k < L.length := by rw [← HNe.out]; exact hlt
      obtain ⟨x, hx⟩ : ∃ x, L[k]? = some x := ⟨_, List.getElem?_eq_getElem hkL⟩
      obtain ⟨bl, off, rfl, _, d1⟩ := sp_cells HC2.out hkL (sp_getD hx)
      have hdn := drop_next hx
      obtain ⟨s, d⟩ := x
      dsimp only at d1
      by_cases hmd : m ≤ d
      · have hmd' : (m : Int) ≤ (d : Int) := by omega
        rcases hbest with ⟨rfl, hp⟩ | ⟨j, y, rfl, hy, hp⟩
        · have HNew : Hid (BestIx L m (k + 1) (k : Int)) := Lib.hid (.inr ⟨k, (s, d), rfl, hx, by rw [hp, hdn, pickGo, if_pos (by simp [shorter, hmd])]⟩)
          clear hp hdn hx hkL
          go_wp2_with fail
          go_quiet (fail)
          go_wp2_with fail
          go_roundw
          case rel => exact ⟨k + 1, (k : Int), by omega, vint (by omega), rfl, HNew.out, below_drewN HB.out _⟩
          case measure => simp [intOf]; omega
        · have hjL : j < L.length := (List.getElem?_eq_some_iff.1 hy).1
          have hjN : (j : Int) < (N : Int) := by rw [HNe.out]; omega
          obtain ⟨bl', off', he, _, d2⟩ := sp_cells HC2.out hjL (sp_getD hy)
          cases he
          obtain ⟨s2, d2v⟩ := y
          dsimp only at d2
          have q2 : decide ((j : Int) < 0) = false := by simp
          by_cases hsh : d < d2v
          · have hsh' : (d : Int) < (d2v : Int) := by omega
            have HNew : Hid (BestIx L m (k + 1) (k : Int)) := Lib.hid (.inr ⟨k, (s, d), rfl, hx, by rw [hp, hdn, pickGo, if_pos (by simp [shorter, hmd]; omega)]⟩)
            clear hp hdn hx hkL hy hjL
            go_wp2_with fail
            go_quiet (fail)
            go_wp2_with fail
            go_roundw
            case rel => exact ⟨k + 1, (k : Int), by omega, vint (by omega), rfl, HNew.out, below_drewN HB.out _⟩
            case measure => simp [intOf]; omega
          · have hsh' : decide ((d : Int) < (d2v : Int)) = false := by simp; omega
            have hsh2 : decide (d < d2v) = false := by simp; omega
            have HNew : Hid (BestIx L m (k + 1) (j : Int)) := Lib.hid (.inr ⟨j, (s2, d2v), rfl, hy, by rw [hp, hdn, pickGo, if_neg (by simp [shorter, hmd]; omega)]⟩)
            clear hp hdn hx hkL hy hjL hsh
            go_wp2_with fail
            go_quiet (fail)
            go_wp2_with fail
            go_roundw
            case rel => exact ⟨k + 1, (j : Int), by omega, vint (by omega), rfl, HNew.out, below_drewN HB.out _⟩
            case measure => simp [intOf]; omega
      · have hmd' : decide ((m : Int) ≤ (d : Int)) = false := by simp; omega
        have hmd2 : decide (m ≤ d) = false := by simp; omega
        have HNew : Hid (BestIx L m (k + 1) b) := Lib.hid (by
          rcases hbest with ⟨rfl, hp⟩ | ⟨j, y, rfl, hy, hp⟩
          · exact .inl ⟨rfl, by rw [hp, hdn, pickGo, if_neg (by simp [shorter, hmd])]⟩
          · exact .inr ⟨j, y, rfl, hy, by rw [hp, hdn, pickGo, if_neg (by simp [shorter, hmd])]⟩)
        clear hdn hx hkL hbest hmd
        go_wp2_with fail
        go_quiet (fail)
        go_wp2_with fail
        go_roundw
        case rel => exact ⟨k + 1, b, by omega, vint (by omega), rfl, HNew.out, below_drewN HB.out _⟩
        case measure => simp [intOf]; omega
    · obtain rfl : k = N := by omega
      have hlt' : decide ((k : Int) < (k : Int)) = false := by simp
      have hdr : L.drop k = [] := List.drop_of_length_le (by rw [← HNe.out]; exact Nat.le_refl _)
      have HB2 : Hid (Below w.heap.size w wr) := Lib.hid (HB1.out.trans (HB.out.mono HB1.out.size))
      rcases hbest with ⟨rfl, hp⟩ | ⟨j, y, rfl, hy, hp⟩
      · rw [hdr] at hp
        have HPk : Hid (pick m L = none) := Lib.hid hp
        clear hp hdr hlt
        go_wp2_with fail
        go_ret3
        exact HNone.out HPk.out _ HB2.out
      · rw [hdr] at hp
        have HPk : Hid (pick m L = some y) := Lib.hid hp
        have hjL : j < L.length := (List.getElem?_eq_some_iff.1 hy).1
        have hjN : (j : Int) < (k : Int) := by rw [HNe.out]; omega
        obtain ⟨bl, off, rfl, d0, _⟩ := sp_cells HC2.out hjL (sp_getD hy)
        have hrun := pick_run (l := l) (n := m) (x := y) (by rw [← HLe.out]; exact hp)
        have hin := runEnds hrun.1
        have HIn : Hid (y.1 + m ≤ n) := Lib.hid (by have := hrun.2; have := HN.out; omega)
        have q2 : decide ((j : Int) < 0) = false := by simp
        clear hp hdr hlt hy hjL hrun hin
        have HCw := Lib.hid (HC.out.below HB2.out (Nat.le_refl _))
        go_upto_region 12 with fail
        have r0 := fun x => later_cell d0 x
        refine wp_region_seg (C := fun w' => ∃ x : Later (wr), w' = x.val) [.fl [0, 1, 2, 3, 4, 5, 6, 8, 9, 10, 11, 12], .sq [7] true, .fl [13], .sq [14, 15] false] (by kernel_rfl) (by kernel_rfl) (by intro c a d v w h; cases d <;> exact h) ?_
        simp only [segs, picks, List.getElem?_cons_succ, List.getElem?_cons_zero]
        have hC1 := later_drew (wr)
        refine wpSeg_fl hC1 ?_
        repeat (first | go_big_quiet_step (fail) | quiet_step (fail))
        refine wpQuiet_nil ?_
        refine wpSeg_sq (fun K hK => ?_)
        go_wp2_with fail
        refine (rset_any a n cap l HN.out y.1 m false _ (HCw.out.below (later_below hC1) (Nat.le_refl _)) HIn.out hl).mono ?_
        rintro e w3 ⟨a', c', rfl, hc3, hb3, hl3⟩
        rw [setTo_length, HN.out]
        have HC3 := Lib.hid hc3
        have hC2 := later_step hC1 hb3
        have HL3 : Hid (∀ b o s, a' = some ⟨b, o, s⟩ → w.heap.size ≤ b) := Lib.hid (fun b o s e => Nat.le_trans (HB2.out.trans ((later_below hC1).mono HB2.out.size)).size (hl3 b o s e))
        clear hc3 hb3 hl3
        go_wp2_with fail
        refine hK _ _ (fun _ => hC2) ?_
        clear hK K
        refine wpSeg_fl hC2 ?_
        repeat (first | go_big_quiet_step (fail) | quiet_step (fail))
        refine wpQuiet_nil ?_
        refine wpSeg_last ?_
        go_wp2_with fail
        go_ret3
        exact HSome.out y HPk.out _ _ _ HC3.out (HB2.out.trans ((later_below hC2).mono HB2.out.size)) HL3.out

set_option maxHeartbeats 1000000 in
theorem rtotal_any (a : Option Addr) (n cap : Nat) (L : List Sp) (hn : L.length = n) (w : World) (hc : Cells w a (spCs L)) (hs : sumOf L ≤ 100000000000) (hl : n ≤ 100000000000) :
    Calls Tryz.prog 44 #[.slice a n cap] w fun e w' => e = .returned (.tuple #[.int .i64 (sumOf L : Nat), .int .i64 (longOf L : Nat)]) ∧ w' = w := by
  have HN := Lib.hid hn
  have HC := Lib.hid hc
  have HS := Lib.hid hs
  clear hn hc hs
  go_enter Tryz.func44, Tryz.ntmps44
  go_wp2_with fail
  go_loop [4, 5, 6] (fun x y i => ∃ k p q : Nat, k ≤ n ∧ i = .int .i64 (k : Int) ∧ x = .int .i64 (p : Int) ∧ y = .int .i64 (q : Int) ∧ p = sumOf (L.take k) ∧ q = longOf (L.take k)) (fun _ _ i => n - (intOf i).toNat)
  case atStart => exact ⟨0, 0, 0, Nat.zero_le _, rfl, rfl, rfl, by simp [sumOf], by simp [longOf]⟩
  case round =>
    obtain ⟨k, p, q, hk, rfl, rfl, rfl, hp, hq⟩ := hrel
    have HP := Lib.hid hp
    have HQ := Lib.hid hq
    clear hp hq
    by_cases hlt : k < n
    · have hlt' : (k : Int) < (n : Int) := by omega
      have hkL : k < L.length := by rw [HN.out]; exact hlt
      obtain ⟨⟨s, d⟩, hx⟩ : ∃ x, L[k]? = some x := ⟨_, List.getElem?_eq_getElem hkL⟩
      obtain ⟨bl, off, rfl, _, d1⟩ := sp_cells HC.out hkL (sp_getD hx)
      dsimp only at d1
      have htk : L.take (k + 1) = L.take k ++ [(s, d)] := by
        obtain ⟨h1, h2⟩ := List.getElem?_eq_some_iff.1 hx
        rw [List.take_succ_eq_append_getElem hkL, h2]
      have HP1 : Hid (p + d = sumOf (L.take (k + 1))) := Lib.hid (by rw [htk, sum_add, HP.out])
      have HQ1 : Hid (max q d = longOf (L.take (k + 1))) := Lib.hid (by rw [htk, long_add, HQ.out])
      have hbd : p + d ≤ 100000000000 := by
        rw [HP1.out]
        have h2 := congrArg sumOf (List.take_append_drop (k + 1) L)
        rw [sum_app] at h2
        have := HS.out
        omega
      clear hx hkL htk
      by_cases hm : q ≤ d
      · have HM : Hid (max q d = d) := Lib.hid (by omega)
        have hm' : (q : Int) ≤ (d : Int) := by omega
        go_wp2_with fail
        all_goals
          go_round
          case rel => exact ⟨k + 1, p + d, max q d, by omega, vint (by omega), vint (by omega), vint (by omega), HP1.out, HQ1.out⟩
          case measure => simp [intOf]; omega
      · go_wp2_with fail
        all_goals
          go_round
          case rel => exact ⟨k + 1, p + d, max q d, by omega, vint (by omega), vint (by omega), vint (by omega), HP1.out, HQ1.out⟩
          case measure => simp [intOf]; omega
    · obtain rfl : k = n := by omega
      have hlt' : decide ((k : Int) < (k : Int)) = false := by simp
      have htk : L.take k = L := List.take_of_length_le (by rw [HN.out]; exact Nat.le_refl _)
      rw [htk] at HP HQ
      clear hlt htk
      go_wp2_with fail
      go_ret2
      rw [← HP.out, ← HQ.out]
      exact ⟨rfl, rfl⟩

end Go.Proofs.YtebnelihlgdciaaGreat
