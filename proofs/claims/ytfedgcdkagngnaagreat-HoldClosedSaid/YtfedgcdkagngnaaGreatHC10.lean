/- Parts of the proof, one behind the other: Hb, Ha, Wi, Wj, Wk, Wc, Wl, Ws, Zd, Jx, Zi, Zj, Sb, Js, Zh, Zk, Ga, Gb, Wt, Hc, Wp, Wd, Hd, He. -/
import Derived.Test.YtfedgcdkagngnaaGreatHC9
import Derived.RangeFuncNested
import Derived.RangeFuncBound
import Derived.RangeFuncCalls
import Derived.RangeFuncLeaves
import Derived.RangeFuncBox
import Derived.Shelf.Abstract
import Derived.WalkKit
import Derived.OwnWalkIn
import Derived.TacticsInMore
import Derived.LoopNIn
import Derived.LoopIn
import Derived.Maps.AppendAt
import Derived.Lib.SliceRun
import Derived.Deep.DeepCutAuto
import Derived.Deep.CutBlock
import Derived.Deep.Cut
import Derived.Shelf.Strings.Builder1
import Derived.Test.YtfedgcdkagngnaaGreatProg

/- hold: Closed: a range over a function whose rounds may end the function: they don't. -/
namespace Go.Proofs.YtfedgcdkagngnaaGreat
open Go.RowKit Go.Shelf
set_option linter.unusedVariables false

attribute [local go_sem] Oper.semAt_some

theorem Coming.mem {l : List Bool} {pre : List Nat} {i : Nat} (h : Coming l pre (some i)) : i ∈ onesL l := by unfold Coming at h; rw [h]; simp

set_option maxRecDepth 100000 in
set_option maxHeartbeats 2000000 in
theorem sall1m_in {X : SetF} {l : List Bool} (n : Nat) (hn : 1 ≤ n) (lp Bn n₀ : Nat) (J Jx : List {x : Nat // x ∈ onesL l} → World → Prop)
    (hY : ∀ pre (x : {x : Nat // x ∈ onesL l}) W, J pre W → pre.length < (onesL l).length → YieldAt Fence.wide (n - 1) Tryz.prog lp #[.int .i64 (x.val : Int)] W fun e W' =>
      (e = .returned (.bool true) ∧ J (pre ++ [x]) W' ∧ KpB n₀ Bn W W') ∨ (e = .returned (.bool false) ∧ Jx (pre ++ [x]) W'))
    (W : World) (hBn : Boxed W Bn 43 (vset X)) (hS : SetAt W X l) (hX : ∀ k ∈ X.list, k < n₀) (h0 : J [] W) :
    CallsIn Fence.wide n Tryz.prog 179 #[.func (.yield lp) #[] #[], .pointer (some ⟨Bn, 0, none⟩)] W fun e W' => (∃ v, e = .returned v) ∧
      ((∃ ys, True ∧ J ys W') ∨ (∃ pre, True ∧ Jx pre W')) := by
  have HS := Lib.hid hS
  refine callsIn_of_wp Tryz.func179 rfl trivial ?_ rfl
  simp only [Tryz.ntmps179, List.size_toArray, List.length_cons, List.length_nil, Nat.reduceAdd, Nat.reduceSub, Array.replicate_succ, Array.replicate_zero, List.push_toArray, List.append_toArray, List.nil_append, List.cons_append]
  have HN0 := Lib.hid (snext_any hS 0)
  rw [show (0 : Int).toNat = 0 from rfl, nextV_eq] at HN0
  have HC0 := Lib.hid (Coming.start l)
  generalize nextB l 0 = o0 at *
  have hc0 := hBn.cell
  clear hS
  gi_wp2_with (refine ⟨trivial, ?_⟩; gi_at_call 166; refine (callsIn_wide.2 HN0.out).mono ?_; rintro e w1 ⟨rfl, rfl⟩)
  gi_loopw [3, 4] (fun v b wr => ∃ (pre : List {x : Nat // x ∈ onesL l}) (o : Option Nat), v = .int .i64 ((o.getD 0 : Nat) : Int) ∧ b = .bool o.isSome ∧ Hid (Coming l (pre.map Subtype.val) o) ∧ Hid (SetAt wr X l) ∧ Boxed wr Bn 43 (vset X) ∧ J pre wr) (fun v b _ => leftB l.length v b)
  case atStart => exact ⟨[], o0, rfl, rfl, HC0, HS, hBn, h0⟩
  case round =>
    clear HN0 hBn h0 HS HC0 hc0
    obtain ⟨pre, o, rfl, rfl, HC, HS, hBn, hJ⟩ := hrel
    cases o with
    | none =>
      simp only [Option.isSome_none, Option.getD_none]
      gi_wp2
      go_end0
      exact ⟨⟨_, rfl⟩, .inl ⟨pre, trivial, hJ⟩⟩
    | some i =>
      simp only [Option.isSome_some, Option.getD_some]
      obtain ⟨fn, tmps, assign, body, hy, hR⟩ := hY pre ⟨i, HC.out.mem⟩ wr hJ (by have := HC.out.lt; simpa using this)
      gi_wp2
      refine hR.mono ?_
      rintro e W3 (⟨rfl, hJ3, hk3⟩ | ⟨rfl, hJx3⟩)
      · have hBn3 : Boxed W3 Bn 43 (vset X) := hk3.2.trans hBn
        have hc3 := hBn3.cell
        have HS3 := Lib.hid (HS.out.keep (fun k hk => hk3.1.block k (hX k hk)))
        have HN := Lib.hid (snext_any HS3.out ((i : Int) + 1))
        rw [show ((i : Int) + 1).toNat = i + 1 by omega, nextV_eq] at HN
        have HL := Lib.hid (leftB_next HC.out)
        have HC3 : Hid (Coming l ((pre ++ [(⟨i, HC.out.mem⟩ : {x : Nat // x ∈ onesL l})]).map Subtype.val) (nextB l (i + 1))) := Lib.hid (by rw [List.map_append]; exact HC.out.next)
        have hil := HC.out.in_
        have hls := HS.out.small
        clear hk3 hy hR
        generalize nextB l (i + 1) = o at *
        gi_wp2_with (refine ⟨trivial, ?_⟩; gi_at_call 166; refine (callsIn_wide.2 HN.out).mono ?_; rintro e w1 ⟨rfl, rfl⟩)
        go_roundw
        case rel => exact ⟨pre ++ [⟨i, HC.out.mem⟩], o, rfl, rfl, HC3, HS3, hBn3, hJ3⟩
        case measure => exact HL.out
      · gi_wp2
        refine bodyPost_ret (results_none rfl _ _ _) rfl ?_
        exact ⟨⟨_, rfl⟩, .inr ⟨pre ++ [⟨i, HC.out.mem⟩], trivial, hJx3⟩⟩

theorem sallm_stops {X : SetF} {l : List Bool} (n : Nat) (hn : 1 ≤ n) (Bn n₀ : Nat) (w : World) (hn₀ : n₀ ≤ w.heap.size) (hc : Boxed w Bn 43 (vset X)) (hS : SetAt w X l) (hX : ∀ k ∈ X.list, k < n₀) :
    SeqStopsK Fence.wide n Tryz.prog 179 #[.pointer (some ⟨Bn, 0, none⟩)] (fun x : {x : Nat // x ∈ onesL l} => #[Value.int .i64 (x.val : Int)]) (KpB n₀ Bn) (fun _ => True) (fun _ => True) (onesL l).length w := fun lp J Jx W hW _ _ hY h0 =>
  sall1m_in n hn lp Bn n₀ J Jx hY W ((hW.block Bn hc.lt).trans hc) (hS.below hW) hX h0
theorem keeps_below {B : Nat} {W W' : World} (h : Below W.heap.size W W') : KeepsFrom B W W' := ⟨h.size, fun k o _ hk _ => (h.block k (Array.getElem?_eq_some_iff.1 hk).1).trans hk⟩

theorem run_load_one {w : World} {a : Addr} {v : Value} (hg : w.cell? a = some v) : (Sem.load Mode.plain a Sem.pure).run Tryz.prog w = .ok v w := by
  simp [Sem.run, hg]
theorem results_cell_one {fn : Func} {p : Tmp} {v : Value} (h : fn.results = #[.cell p 4]) (tmps : Array Value) (w : World) (g : Nat) (hp : tmps.getD p undef = .pointer (some ⟨g, 0, none⟩)) (hg : w.cell? ⟨g, 0, none⟩ = some v) :
    (results fn tmps).run Tryz.prog w = .ok v w := by
  have hp' : tmps[p]?.getD undef = .pointer (some ⟨g, 0, none⟩) := by simpa using hp
  have hai := Tryz.isAgg4
  simp [results, h, hp', asAddr, loadVar, load, hai, go_sem]
  exact run_load_one hg

set_option maxRecDepth 100000 in
set_option maxHeartbeats 4000000 in
theorem hclosed_any {w : World} {A : AF} {n B : Nat} {m : Al} {X : SetF} {M : List Bool} {hp : Nat} (h : AlAt w A n B m) (hs : SetAt w X M) (hh : w.heap[hp]? = some (.cells #[valloc A, vset X] 185 (0, 0)))
    (hc : ∀ x ∈ onesL M, ∀ y ∈ ptrsD m.bm.dev (x : Int), m.used.getD y false = true → M.getD y false = true) :
    Calls Tryz.prog 56 #[.pointer (some ⟨hp, 0, none⟩)] w (Gives (.bool true) w) := by
  have HP : Hid (∀ w', Below w.heap.size w w' → Gives (.bool true) w (.returned (.bool true)) w') := Lib.hid (fun w' h => ⟨rfl, h⟩)
  generalize Gives (.bool true) w = Post at *
  have hlt : hp < w.heap.size := (Array.getElem?_eq_some_iff.1 hh).1
  have c0 : w.cell? ⟨hp, 0, none⟩ = some (valloc A) := by rw [Lib.cell_of_heap hh]; rfl
  have c1 : w.cell? ⟨hp, 1, none⟩ = some (vset X) := by rw [Lib.cell_of_heap hh]; rfl
  have hb1 := below_alloc w (.cells #[.pointer (some ⟨hp, 0, none⟩)] 97)
  have hb2 := below_alloc (w.alloc (.cells #[.pointer (some ⟨hp, 0, none⟩)] 97)) (.cells #[.bool false] 4)
  have d1 : ((w.alloc (.cells #[.pointer (some ⟨hp, 0, none⟩)] 97)).alloc (.cells #[.bool false] 4)).cell? ⟨hp, 1, none⟩ = some (vset X) := by
    rw [(hb1.trans (hb2.mono hb1.size)).cell (p := ⟨hp, 1, none⟩) hlt]; exact c1
  refine (callsIn_wide (n := 7)).1 ?_
  refine callsIn_of_wp_marks Tryz.func56 rfl trivial ?_ rfl
  simp only [Tryz.ntmps56, List.size_toArray, List.length_cons, List.length_nil, Nat.reduceAdd, Nat.reduceSub, Array.replicate_succ, Array.replicate_zero, List.push_toArray, List.append_toArray, List.nil_append, List.cons_append]
  gi_wp2_with (refine ⟨trivial, ?_⟩; gi_at_call 127; refine (sall_in X _ _).mono ?_; rintro e w' ⟨rfl, rfl⟩)
  have hb3 := below_alloc ((w.alloc (.cells #[.pointer (some ⟨hp, 0, none⟩)] 97)).alloc (.cells #[.bool false] 4)) (.cells #[vset X] 43)
  have hB4 : Below w.heap.size w (((w.alloc (.cells #[.pointer (some ⟨hp, 0, none⟩)] 97)).alloc (.cells #[.bool false] 4)).alloc (.cells #[vset X] 43)) := (hb1.trans (hb2.mono hb1.size)).trans (hb3.mono (hb1.trans (hb2.mono hb1.size)).size)
  have bS := Boxed.new ((w.alloc (.cells #[.pointer (some ⟨hp, 0, none⟩)] 97)).alloc (.cells #[.bool false] 4)) 43 (vset X)
  have bR := (Boxed.new (w.alloc (.cells #[.pointer (some ⟨hp, 0, none⟩)] 97)) 4 (.bool false)).alloc (.cells #[vset X] 43)
  have bH := ((Boxed.new w 97 (.pointer (some ⟨hp, 0, none⟩))).alloc (.cells #[.bool false] 4)).alloc (.cells #[vset X] 43)
  rw [World.size_alloc, World.size_alloc] at bS
  rw [World.size_alloc] at bR
  have HA4 := Lib.hid (h.below hB4)
  have HS4 := Lib.hid (hs.below hB4)
  have f0 := (hB4.cell (p := ⟨hp, 0, none⟩) hlt).trans c0
  have f1 := (hB4.cell (p := ⟨hp, 1, none⟩) hlt).trans c1
  have HB4 := Lib.hid hB4
  have hlt4 : hp < (((w.alloc (.cells #[.pointer (some ⟨hp, 0, none⟩)] 97)).alloc (.cells #[.bool false] 4)).alloc (.cells #[vset X] 43)).heap.size := Nat.lt_of_lt_of_le hlt hB4.size
  have HPo : Hid (∀ (x : Nat) w1 e w2, PtrsPost m.bm.dev (x : Int) w1 e w2 → ∃ av cp ec, e = .returned (.tuple #[.slice av (ptrsD m.bm.dev (x : Int)).length cp, .int .i64 ec]) ∧ Cells w2 av ((ptrsD m.bm.dev (x : Int)).map vi) ∧ Below w1.heap.size w1 w2) := Lib.hid (fun x w1 e w2 hp => by
    obtain ⟨av, cp, ec, e1, _, e2, e3, e4⟩ := hp.out
    exact ⟨av, cp, ec, e1, e2, e4⟩)
  have HPl : Hid (∀ x : Nat, (ptrsD m.bm.dev (x : Int)).length ≤ 64) := Lib.hid (fun x => ptrsD_len h.man.dev.small _)
  have HPe : Hid (∀ x : Nat, ∀ y ∈ ptrsD m.bm.dev (x : Int), y ≤ 1099511627776) := Lib.hid (fun x => ptrsD_le _ _)
  have HCl := Lib.hid hc
  clear hb1 hb2 hb3 hB4 d1 c0 c1 hh h hs hc
  generalize ((w.alloc (.cells #[.pointer (some ⟨hp, 0, none⟩)] 97)).alloc (.cells #[.bool false] 4)).alloc (.cells #[vset X] 43) = w4 at *
  refine wpIn_rangeFunc_ownG rfl (by omega) (gf := 179) (lb := #[.pointer (some ⟨w.heap.size + 1 + 1, 0, none⟩)]) rfl trivial (enters_of Tryz.func179 (by kernel_rfl) rfl)
    (sallm_stops 6 (by omega) (w.heap.size + 1 + 1) w4.heap.size w4 (Nat.le_refl _) bS HS4.out HS4.out.mem) KpB.trans (KpB.book (Nat.le_refl _) bS.lt) (Below.refl _ _) (fun _ => rfl)
    (fun _ W => Below w4.heap.size w4 W) (fun _ _ _ => False) (ownFrom_below (Nat.le_refl _) (Nat.le_refl _)) (fun _ _ _ _ _ hs _ _ => hs) (Below.refl _ _)
    (fun x => { tmps := #[.pointer (some ⟨hp, 0, none⟩), .pointer (some ⟨w.heap.size, 0, none⟩), .pointer (some ⟨w.heap.size + 1, 0, none⟩), .int .i64 (x.val : Int), undef, undef, undef, undef, .pointer (some ⟨hp, 0, none⟩), .pointer (some ⟨hp, 0, none⟩), .pointer (some ⟨hp, 1, none⟩), vset X, .func (.func 179) #[] #[.pointer (some ⟨w.heap.size + 1 + 1, 0, none⟩)], .int .i64 (x.val : Int), undef, undef, undef, undef, undef, undef, undef, undef, undef, undef, undef, undef, undef, undef, undef, undef, undef, undef, undef, undef, undef, undef, undef, undef, undef, undef, undef, undef, undef, undef, undef, undef], defers := [] }) ?assign ?body ?done ?stop
  case assign =>
    intro l x W K hK
    gi_wp2
    exact hK
  case body =>
    rintro l' pre x W hI hlt'
    have bHW : Boxed W w.heap.size 97 (.pointer (some ⟨hp, 0, none⟩)) := (hI.block _ bH.lt).trans bH
    have e0 := bHW.cell
    have g0 := (hI.cell (p := ⟨hp, 0, none⟩) hlt4).trans f0
    have HA := Lib.hid (HA4.out.below hI)
    have HDv := Lib.hid (adev_any HA.out)
    have HPt := Lib.hid (optrs_any HA.out.man.dev (x.val : Int))
    have HPo2 := Lib.hid (HPo.out x.val)
    have HPl2 := Lib.hid (HPl.out x.val)
    have HPe2 := Lib.hid (HPe.out x.val)
    have HCl2 := Lib.hid (HCl.out x.val x.property)
    have HI := Lib.hid hI
    clear hI hlt' bHW
    generalize ptrsD m.bm.dev (x.val : Int) = P at *
    obtain ⟨pl, hpl⟩ : ∃ pl, pl = P.length := ⟨_, rfl⟩
    rw [← hpl] at HPo2 HPl2
    have HPn := Lib.hid hpl
    have hp64 : pl ≤ 64 := HPl2.out
    clear hpl
    gi_wp2_with (first
      | (refine ⟨trivial, ?_⟩; gi_at_call 83; refine (callsIn_wide.2 HDv.out).mono ?_; rintro e w1 ⟨rfl, rfl⟩)
      | (refine ⟨trivial, ?_⟩; gi_at_call 38; refine (callsIn_wide.2 HPt.out).mono ?_; intro e W2 hp2; obtain ⟨av, cp, ec, rfl, hcp, hb2⟩ := HPo2.out _ _ _ hp2; have HCp := Lib.hid hcp; have HB2 := Lib.hid hb2; clear hp2 hcp hb2))
    clear e0 g0
    gi_loopw [26] (fun jv wr => ∃ j : Nat, j ≤ pl ∧ jv = .int .i64 (j : Int) ∧ Hid (Below W2.heap.size W2 wr)) (fun jv _ => pl - (intOf jv).toNat)
    case atStart => exact ⟨0, Nat.zero_le _, rfl, Lib.hid (Below.refl _ _)⟩
    case round =>
      obtain ⟨j, hj, rfl, HB⟩ := hrel
      have HBW := Lib.hid (HB2.out.trans (HB.out.mono HB2.out.size))
      have HI4 := Lib.hid (HI.out.trans (HBW.out.mono HI.out.size))
      by_cases hlj : j < pl
      · have hlj' : (j : Int) < (pl : Int) := by omega
        obtain ⟨b2, o2, rfl, _, hc2⟩ := (HCp.out.below HB.out (Nat.le_refl _)).at (i := j) (by rw [List.length_map, ← HPn.out]; exact hlj)
        obtain ⟨y, hy⟩ : ∃ y, P[j]? = some y := ⟨_, List.getElem?_eq_getElem (by rw [← HPn.out]; exact hlj)⟩
        have cy := hc2 j (vi y) (by rw [List.getElem?_map, hy]; rfl)
        have hym := List.mem_of_getElem? hy
        have hy9 := HPe2.out y hym
        have hcl := HCl2.out y hym
        have e0 := (show Boxed wr w.heap.size 97 (.pointer (some ⟨hp, 0, none⟩)) from (HI4.out.block _ bH.lt).trans bH).cell
        have g0 := (HI4.out.cell (p := ⟨hp, 0, none⟩) hlt4).trans f0
        have g1 := (HI4.out.cell (p := ⟨hp, 1, none⟩) hlt4).trans f1
        have HU := Lib.hid (aused_any (HA4.out.below HI4.out) (y : Int))
        have HH := Lib.hid (shas_any (HS4.out.below HI4.out) (y : Int))
        rw [hasI_nat] at HU HH
        clear hc2 hy hym
        cases hu : m.used.getD y false with
        | false =>
          rw [hu] at HU
          clear hu hcl HH
          gi_wp2_with (refine ⟨trivial, ?_⟩; gi_at_call 39; refine (callsIn_wide.2 HU.out).mono ?_; rintro e w1 ⟨rfl, rfl⟩)
          refine ⟨trivial, ?_⟩
          gi_wp2
          go_roundw
          case rel => exact ⟨j + 1, by omega, vint (by omega), HB⟩
          case measure => simp [intOf]; omega
        | true =>
          rw [hu] at HU
          rw [hcl hu] at HH
          clear hu hcl
          gi_wp2_with (first
            | (refine ⟨trivial, ?_⟩; gi_at_call 39; refine (callsIn_wide.2 HU.out).mono ?_; rintro e w1 ⟨rfl, rfl⟩)
            | (refine ⟨trivial, ?_⟩; gi_at_call 109; refine (callsIn_wide.2 HH.out).mono ?_; rintro e w1 ⟨rfl, rfl⟩))
          go_roundw
          case rel => exact ⟨j + 1, by omega, vint (by omega), HB⟩
          case measure => simp [intOf]; omega
      · obtain rfl : j = pl := by omega
        have hlj' : decide ((j : Int) < (j : Int)) = false := by simp
        gi_wp2
        exact ⟨keeps_below HBW.out, ⟨HBW.out.mono HI.out.size, HBW.out.block _ (Nat.lt_of_lt_of_le bS.lt HI.out.size)⟩, HI4.out⟩
  case done =>
    rintro D ys W hD _ hI hK
    have bRW : Boxed W (w.heap.size + 1) 4 (.bool false) := (hI.block _ bR.lt).trans bR
    have hc := bRW.cell
    have hf := bRW.frozen
    have hne : D ≠ w.heap.size + 1 := fun e => by have := bR.lt; omega
    have hK2 : (W.setCell ⟨w.heap.size + 1, 0, none⟩ (.bool true)).heap[D]? = some (.deferred (some [])) := (Below.heap_setCell _ _ _ _ (fun e => hne e)).trans hK
    have HEnd := Lib.hid (HP.out _ (((HB4.out.trans (hI.mono HB4.out.size)).setCell (p := ⟨w.heap.size + 1, 0, none⟩) (Nat.le_succ _) (.bool true)).trans (belowK_b (w := w4) HB4.out.size (W.setCell ⟨w.heap.size + 1, 0, none⟩ (.bool true)) D _ (.deferred none) hD hK2 rfl rfl)))
    have bRz : Boxed ((W.setCell ⟨w.heap.size + 1, 0, none⟩ (.bool true)).putObj D (.deferred none)) (w.heap.size + 1) 4 (.bool true) := (World.putObj_heap_other (fun e => hne e.symm)).trans (bRW.set (.bool true))
    have hcz := bRz.cell
    gi_wp2
    refine ⟨by simp, .inl ⟨_, _, rfl, run_takeDeferred hK2, ?_⟩⟩
    refine ⟨.bool true, ?_, HEnd.out⟩
    exact results_cell_one rfl _ _ _ rfl hcz
  case stop =>
    rintro D c pre W _ _ h _
    exact h.elim
end Go.Proofs.YtfedgcdkagngnaaGreat

/- Plain: what is held; one more, with all that one comes to from it. -/
namespace Go.Proofs.YtfedgcdkagngnaaGreat
set_option linter.unusedVariables false

section
variable {U : List Bool} {P : Nat → List Nat} {hs hk hs' : List Bool} {at_ : Nat} {open_ : List Nat}

/-- A step of Add. -/
structure Adding (U : List Bool) (P : Nat → List Nat) (hs : List Bool) (at_ : Nat) (hk : List Bool) (open_ : List Nat) : Prop where
  len : hk.length = hs.length
  mono : ∀ x, hs.getD x false = true → hk.getD x false = true
  use : ∀ x, hk.getD x false = true → hs.getD x false = true ∨ Rch (fun x => U.getD x false = true) P [at_] x
  base : U.getD at_ false = true → hk.getD at_ false = true ∨ at_ ∈ open_
  next : ∀ x, hk.getD x false = true → hs.getD x false = false → ∀ y ∈ P x, U.getD y false = true → hk.getD y false = true ∨ y ∈ open_
  opens : ∀ x ∈ open_, U.getD x false = true → Rch (fun x => U.getD x false = true) P [at_] x
theorem Adding.start (U : List Bool) (P : Nat → List Nat) (hs : List Bool) (at_ : Nat) : Adding U P hs at_ hs [at_] :=
  ⟨rfl, fun _ h => h, fun _ h => .inl h, fun _ => .inr (by simp), fun x h h' => (by rw [h] at h'; cases h'), fun x hx hu => .base hx hu⟩
theorem Adding.skip {a : Nat} (h : Adding U P hs at_ hk (open_ ++ [a])) (ha : U.getD a false = false ∨ hk.getD a false = true) : Adding U P hs at_ hk open_ := by
  have go : ∀ x, U.getD x false = true → hk.getD x false = true ∨ x ∈ open_ ++ [a] → hk.getD x false = true ∨ x ∈ open_ := fun x hu hx => by
    rcases hx with c | c
    · exact .inl c
    · rcases List.mem_append.1 c with c | c
      · exact .inr c
      · simp at c; subst c
        rcases ha with ha | ha
        · rw [hu] at ha; cases ha
        · exact .inl ha
  exact ⟨h.len, h.mono, h.use, fun hu => go _ hu (h.base hu), fun x hx hn y hy hu => go y hu (h.next x hx hn y hy hu), fun x hx hu => h.opens x (List.mem_append_left _ hx) hu⟩
theorem Adding.take {a : Nat} (h : Adding U P hs at_ hk (open_ ++ [a])) (hu : U.getD a false = true) (hl : hs.length = U.length) : Adding U P hs at_ (hk.set a true) (open_ ++ P a) := by
  have hlt : a < hk.length := by rw [h.len, hl]; exact getD_true_lt hu
  have hr := h.opens a (by simp) hu
  have go : ∀ x, hk.getD x false = true ∨ x ∈ open_ ++ [a] → (hk.set a true).getD x false = true ∨ x ∈ open_ ++ P a := fun x hx => by
    rcases hx with c | c
    · exact .inl (set_getD_mono c)
    · rcases List.mem_append.1 c with c | c
      · exact .inr (List.mem_append_left _ c)
      · simp at c; subst c
        exact .inl (by rw [getD_set_bool _ _ _ _ hlt, if_pos rfl])
  refine ⟨by simp [h.len], fun x hx => set_getD_mono (h.mono x hx), fun x hx => ?_, fun hu' => go _ (h.base hu'), fun x hx hn y hy hu' => ?_, fun x hx hu' => ?_⟩
  · rw [getD_set_bool _ _ _ _ hlt] at hx
    split at hx
    · next e => subst e; exact .inr hr
    · exact h.use x hx
  · rw [getD_set_bool _ _ _ _ hlt] at hx
    split at hx
    · next e => subst e; exact .inr (List.mem_append_right _ hy)
    · exact go y (h.next x hx hn y hy hu')
  · rcases List.mem_append.1 hx with c | c
    · exact h.opens x (List.mem_append_left _ c) hu'
    · exact .step hr c hu'

/-- What Add makes of it. -/
def Added (U : List Bool) (P : Nat → List Nat) (hs : List Bool) (at_ : Nat) (hs' : List Bool) : Prop := Adding U P hs at_ hs' []
/-- What is held leads to what is held. -/
def ShutBy (U : List Bool) (P : Nat → List Nat) (hs : List Bool) : Prop := ∀ x, hs.getD x false = true → ∀ y ∈ P x, U.getD y false = true → hs.getD y false = true
theorem Added.shut (h : Added U P hs at_ hs') (hc : ∀ x, hs.getD x false = true → ∀ y ∈ P x, U.getD y false = true → hs.getD y false = true ∨ y = at_) : ShutBy U P hs' := by
  intro x hx y hy hu
  cases e : hs.getD x false with
  | false => exact (h.next x hx e y hy hu).elim id (fun c => by simp at c)
  | true =>
    rcases hc x e y hy hu with c | rfl
    · exact h.mono y c
    · exact (h.base hu).elim id (fun c => by simp at c)
theorem Added.used (h : Added U P hs at_ hs') (hc : ∀ x, hs.getD x false = true → U.getD x false = true) : ∀ x, hs'.getD x false = true → U.getD x false = true := fun x hx =>
  (h.use x hx).elim (hc x) (fun r => r.ok')
theorem Added.at (h : Added U P hs at_ hs') (hu : U.getD at_ false = true) : hs'.getD at_ false = true := (h.base hu).elim id (fun c => by simp at c)
end

end Go.Proofs.YtfedgcdkagngnaaGreat

/- mark: Step. -/
namespace Go.Proofs.YtfedgcdkagngnaaGreat
open Go.RowKit
set_option linter.unusedVariables false

section
variable {U : List Bool} {P : Nat → List Nat} {M : Mk}
end
section
variable {w : World} {A : AF} {n B : Nat} {m : Al} {K : MkF} {M : Mk}
end

end Go.Proofs.YtfedgcdkagngnaaGreat

/- bitmap: Clear; stack: Clear; mark: New, Clear, Blacken, Whiten, Greys, List. -/
namespace Go.Proofs.YtfedgcdkagngnaaGreat
open Go.RowKit
set_option linter.unusedVariables false

theorem touch_setCells (b : Nat) : ∀ (vs : List Value) (o : Nat) (w : World), Touch [b] w (w.setCells b o vs)
  | [], _, _ => Touch.refl _ _
  | v :: r, o, w => (Touch.setCell ⟨b, o, none⟩ (by simp) v).trans (touch_setCells b r (o + 1) _)
theorem heap_setCells {b : Nat} {t : TypeId} : ∀ (vs : List Value) (o : Nat) (w : World) (xs : Array Value), w.heap[b]? = some (.cells xs t) → o + vs.length ≤ xs.size →
    ∃ ys : Array Value, (w.setCells b o vs).heap[b]? = some (.cells ys t) ∧ ys.size = xs.size ∧ ∀ j : Nat, ys[j]? = if o ≤ j ∧ j < o + vs.length then vs[j - o]? else xs[j]?
  | [], o, w, xs, h, _ => ⟨xs, h, rfl, fun j => by rw [if_neg (by simp)]⟩
  | v :: r, o, w, xs, h, hl => by
    rw [List.length_cons] at hl
    obtain ⟨ys, h1, h2, h3⟩ := heap_setCells r (o + 1) (w.setCell ⟨b, o, none⟩ v) (xs.setIfInBounds o v) (heap_setCell_same w b o _ _ _ h) (by simp; omega)
    refine ⟨ys, h1, by rw [h2]; simp, fun j => ?_⟩
    rw [h3 j]
    by_cases e : j = o
    · subst e
      rw [if_neg (by omega), if_pos (by simp), Array.getElem?_setIfInBounds_self_of_lt (by omega)]
      simp
    · rw [Array.getElem?_setIfInBounds_ne (fun h => e h.symm)]
      by_cases c : o + 1 ≤ j ∧ j < o + 1 + r.length
      · rw [if_pos c, if_pos (by rw [List.length_cons]; omega), show j - o = (j - (o + 1)) + 1 by omega, List.getElem?_cons_succ]
      · rw [if_neg c, if_neg (by rw [List.length_cons]; omega)]

theorem wpList_clear_row {P : Program} {w : World} {ops : Array Oper} {rest : List Oper} {o : Oper} {a : Act} {Q : Exit → Act → World → Prop} (hgd : o.guard = none) {d : Operand} {dT e : TypeId} {z : Value}
    (ho : o.op = .call { callee := .builtin .clear, args := #[d], argTypes := #[dT] }) (hu : P.underlying dT = some (.slice e)) (hv : ∀ w, (zeroValue e).run P w = .ok z w) (hz : z.cells = #[z]) (h1 : z.oneCell' = true)
    {g n c t : Nat} {vs : List Value} (hd : a.eval d = .slice (some ⟨g, 0, none⟩) n c) (hn : 0 < n) (hr : RowAt w g t vs) (hl : n ≤ vs.length)
    (h : ∀ w', RowAt w' g t (List.replicate n z ++ vs.drop n) → Touch [g] w w' → (∀ xs t' k, w.heap[g]? = some (.cells xs t' k) → ∃ ys, w'.heap[g]? = some (.cells ys t' k) ∧ ys.size = xs.size) → wpList P ops Q rest (a.put o.dst (.tuple #[])) w') : wpList P ops Q (o :: rest) a w := by
  obtain ⟨xs, hg, more, hx⟩ := hr
  have hsz : xs.size = vs.length + more.length := by rw [← Array.length_toList, hx, List.length_append]
  refine wpList_plain hgd fun K hK => ?_
  have hrun := Lib.run_clear_slice (P := P) w dT e o.type z hu hv hz h1 g 0 n c hn (fun j hj => by
    rw [Nat.zero_add]
    have : (w.cell? ⟨g, j, none⟩) = xs[j]? := by simp [World.cell?, hg]
    rw [this, Array.getElem?_eq_getElem (by omega)]; rfl) (fun j hj => (show RowAt w g t vs from ⟨xs, hg, more, hx⟩).frozen _)
  unfold Oper.wp
  simp [execOp, ho, resolve, invoke, builtin, hd, hrun, Result.andThen]
  obtain ⟨ys, h2, h3, h4⟩ := heap_setCells (List.replicate n z) 0 w xs hg (by simp; omega)
  refine hK _ _ (h _ ?_ (touch_setCells _ _ _ _) (fun xs' t' k hx' => by rw [hg] at hx'; cases hx'; exact ⟨ys, h2, h3⟩))
  refine ⟨ys, h2, more, List.ext_getElem? fun j => ?_⟩
  rw [Array.getElem?_toList, h4 j, List.length_replicate]
  by_cases c : j < n
  · rw [if_pos (by omega), List.append_assoc, List.getElem?_append_left (by simpa using c), Nat.sub_zero]
  · rw [if_neg (by omega), List.append_assoc, List.getElem?_append_right (by simp; omega), List.length_replicate, ← Array.getElem?_toList, hx]
    by_cases c2 : j < vs.length
    · rw [List.getElem?_append_left c2, List.getElem?_append_left (by simp; omega), List.getElem?_drop]
      congr 1; omega
    · rw [List.getElem?_append_right (by omega), List.getElem?_append_right (by simp; omega), List.length_drop]
      congr 1; omega
theorem wpList_clear_none {P : Program} {w : World} {ops : Array Oper} {rest : List Oper} {o : Oper} {a : Act} {Q : Exit → Act → World → Prop} (hgd : o.guard = none) {d : Operand} {dT e : TypeId}
    (ho : o.op = .call { callee := .builtin .clear, args := #[d], argTypes := #[dT] }) (hu : P.underlying dT = some (.slice e)) {p : Option Addr} {c : Nat} (hd : a.eval d = .slice p 0 c)
    (h : wpList P ops Q rest (a.put o.dst (.tuple #[])) w) : wpList P ops Q (o :: rest) a w := by
  refine wpList_plain hgd fun K hK => ?_
  have hrun : (Builtin.clear_ #[dT] o.type #[.slice p 0 c]).run P w = .ok (.tuple #[]) w := by
    cases p <;> simp [Builtin.clear_, run_underlying hu]
  unfold Oper.wp
  simp [execOp, ho, resolve, invoke, builtin, hd, hrun, Result.andThen]
  exact hK _ _ h

theorem zero64 : ∀ w : World, (zeroValue 136).run Tryz.prog w = .ok (.int .u64 0) w := fun w => by kernel_rfl
theorem SetIn.mem_u {w : World} {X : SetF} {ws : List Nat} {l : List Bool} (h : SetIn w X ws l) : X.u < w.heap.size := (Array.getElem?_eq_some_iff.1 h.head).1
theorem setV_none (X : SetF) (n : Nat) (l : List Bool) : (setV X n l).setIfInBounds 2 (.int .i64 0) = setV X n (List.replicate l.length false) := by
  simp [setV, List.count_replicate]

set_option maxHeartbeats 1000000 in
set_option maxRecDepth 20000 in
theorem sclear_any {w : World} {X : SetF} {l : List Bool} (h : SetAt w X l) : Calls Tryz.prog 116 #[vset X] w fun e w' => e = .returned (.tuple #[]) ∧ SetAt w' X (List.replicate l.length false) ∧ Touch X.list w w' := by
  obtain ⟨ws, h⟩ := h
  have c0 := h.c0
  have HI := Lib.hid h
  have HP : Hid (∀ w', SetAt w' X (List.replicate l.length false) → Touch X.list w w' → (fun e w' => e = Ending.returned (.tuple #[]) ∧ SetAt w' X (List.replicate l.length false) ∧ Touch X.list w w') (.returned (.tuple #[])) w') := Lib.hid (fun w' h1 h2 => ⟨rfl, h1, h2⟩)
  generalize (fun e w' => e = Ending.returned (.tuple #[]) ∧ SetAt w' X (List.replicate l.length false) ∧ Touch X.list w w') = Post at *
  have hB : BitsOf (List.replicate ws.length 0) (List.replicate l.length false) := by rw [h.bits.len]; exact bits_new _
  have HB := Lib.hid hB
  have hs := h.small
  obtain ⟨k, hk⟩ : ∃ k, k = ws.length := ⟨_, rfl⟩
  rw [← hk] at c0
  have HK := Lib.hid hk
  have hk9 : k ≤ 1000000 := by rw [hk, h.bits.len]; omega
  have hne : X.b ≠ X.u := fun e => h.ne e.symm
  clear h hB hk
  have HEnd : Hid (∀ w1, RowAt w1 X.b 136 ((List.replicate ws.length 0).map vu64) → w1.heap[X.u]? = w.heap[X.u]? → Touch [X.b] w w1 → Post (.returned (.tuple #[])) (w1.setCell ⟨X.u, 2, none⟩ (.int .i64 0))) := Lib.hid (fun w1 hr he ht => by
    refine HP.out _ ⟨List.replicate ws.length 0, HB.out, ?_, hr.keep (Below.heap_setCell _ _ _ _ hne), HI.out.ne, by simpa using HI.out.small⟩ ((ht.wide (by simp [SetF.list])).trans (Touch.setCell _ (by simp [SetF.list]) _))
    rw [heap_setCell_same w1 X.u 2 _ _ _ (he.trans HI.out.head), List.length_replicate, setV_none])
  go_enter Tryz.func116, Tryz.ntmps116
  by_cases h0 : k = 0
  · subst h0
    have c2 := HI.out.c2
    have f2 : w.frozen? ⟨X.u, 2, none⟩ = false := (show RowAt w X.u 222 (setV X ws.length l).toList from ⟨_, HI.out.head, [], by simp⟩).frozen 2
    go_wp2_with (refine wpList_clear_none rfl rfl Tryz.underlying131 rfl ?_)
    go_end0
    refine HEnd.out w ?_ rfl (Touch.refl _ _)
    have hr := HI.out.row
    have : ws = [] := List.length_eq_zero_iff.1 HK.out.symm
    subst this
    exact hr
  · have hk0 : 0 < k := by omega
    go_wp2_with (refine wpList_clear_row (t := 136) rfl rfl Tryz.underlying131 zero64 rfl rfl rfl hk0 HI.out.row (by rw [List.length_map, HK.out]; exact Nat.le_refl _) ?_; intro w1 hr1 ht1 _; have HR1 := Lib.hid hr1; have HT1 := Lib.hid ht1; have he1 : w1.heap[X.u]? = w.heap[X.u]? := ht1.block X.u (HI.out.mem_u) (by simpa using HI.out.ne); have HE1 := Lib.hid he1; have c2 : w1.cell? ⟨X.u, 2, none⟩ = some (.int .i64 (l.count true : Int)) := cell_of_row _ _ 2 _ _ _ (he1.trans HI.out.head); have f2 : w1.frozen? ⟨X.u, 2, none⟩ = false := (show RowAt w1 X.u 222 (setV X ws.length l).toList from ⟨_, he1.trans HI.out.head, [], by simp⟩).frozen 2; clear hr1 ht1 he1)
    go_end0
    refine HEnd.out w1 ?_ HE1.out HT1.out
    have hr := HR1.out
    rw [HK.out, List.drop_of_length_le (by simp), List.append_nil] at hr
    rw [List.map_replicate]
    exact hr

end Go.Proofs.YtfedgcdkagngnaaGreat

/- mark: New, Clear, Blacken, Whiten, Greys, List. -/
namespace Go.Proofs.YtfedgcdkagngnaaGreat
open Go.RowKit
set_option linter.unusedVariables false

section
variable {w : World} {A : AF} {n B : Nat} {m : Al} {K : MkF} {M : Mk}
end

end Go.Proofs.YtfedgcdkagngnaaGreat

/- law22: made. -/
namespace Go.Proofs.YtfedgcdkagngnaaGreat
open Go.RowKit
set_option linter.unusedVariables false

/-- What is done: law20's Op. -/
structure Op20 where
  k : Int
  i : Int
  p : Int
  t : Int
def Op20.cs (o : Op20) : List Value := [.int .i64 o.k, .int .i64 o.i, .int .i64 o.p, .int .i64 o.t]
theorem Op20.len (o : Op20) : o.cs.length = 4 := rfl

theorem four20 (zs : List Int) (h : zs.length = 4) : (Op20.cs ⟨zs.getD 0 0, zs.getD 1 0, zs.getD 2 0, zs.getD 3 0⟩) = zs.map (Value.int .i64) := by
  match zs, h with
  | [a, b, c, d], _ => rfl

theorem dev0_ok {B : Nat} (hB2 : 2 ≤ B) (hB : B ≤ 100) : (dev0 B).ok 201000 := (fmt_formed hB2 hB).ok

theorem Hp.begun {w0 w w1 : World} {A : AF} {n B : Nat} (hB2 : 2 ≤ B) (hB : B ≤ 100) (h : AlAt w1 A n B (al0 B)) (hA : ∀ k ∈ A.list, w0.heap.size ≤ k) (hb0 : Below w.heap.size w w0) (hb : Below w0.heap.size w0 w1) {Q : List Nat} (hQ : ∀ k ∈ Q, k < w0.heap.size) :
    Hp w w1 Q A n B 201000 (al0 B) (.slice none 0 0) [] :=
  ⟨⟨h, OwnI.nil _, fun b hb => (by cases hb)⟩, WOk.begun hB2 hB, dev0_ok hB2 hB, fun k hk => ⟨Nat.le_trans hb0.size (hA k hk), fun hq => (by have := hQ k hq; have := hA k hk; omega)⟩, fun b hb => (by cases hb), fun k hk => Nat.lt_of_lt_of_le (hQ k hk) hb.size, hb0.trans (hb.mono hb0.size)⟩
theorem full_begun (B : Nat) : ∀ a, (al0 B).used.getD a false = true → a ∈ ([] : List Nat) := fun a ha => by
  have : (al0 B).used = List.replicate (512 * B) false := rfl
  rw [this] at ha
  simp only [List.getD_eq_getElem?_getD, List.getElem?_replicate] at ha
  split at ha <;> cases ha
theorem full_made {B : Nat} {m m' : Al} {xs : List Nat} {a : Nat} {p d : Int} (h : ∀ a, m.used.getD a false = true → a ∈ xs) (hm : Made B m m' a p d) (hl : m.used.length = 512 * B) : ∀ x, m'.used.getD x false = true → x ∈ xs ++ [a] := fun x hx => by
  rw [hm.used] at hx
  by_cases e : x = a
  · subst e; simp
  · by_cases ha : a < m.used.length
    · rw [getD_set_bool _ _ _ _ ha, if_neg e] at hx
      exact List.mem_append_left _ (h x hx)
    · rw [List.set_eq_of_length_le (by omega)] at hx
      exact List.mem_append_left _ (h x hx)
theorem lead_used (m : Al) (xs : List Nat) (i p t : Int) : (m.lead xs i p t).used = m.used := by unfold Al.lead; split <;> rfl

end Go.Proofs.YtfedgcdkagngnaaGreat

/- law22: a heap and a marker over it, that a call has made; awake. -/
namespace Go.Proofs.YtfedgcdkagngnaaGreat
open Go.RowKit
set_option linter.unusedVariables false

section
variable {w wr w' : World} {Q Q' : List Nat} {A : AF} {n N N' : Nat} {m m' : Al} {v : Value} {xs : List Nat} {K : MkF} {M M' : Mk}
end

end Go.Proofs.YtfedgcdkagngnaaGreat

/- ref01: Ints, of two that are alike; ref22: find, Reach. -/
namespace Go.Proofs.YtfedgcdkagngnaaGreat
open Go.RowKit Go.Maps
set_option linter.unusedVariables false

end Go.Proofs.YtfedgcdkagngnaaGreat

/- Plain: digits in a base. -/
namespace Go.Proofs.YtfedgcdkagngnaaGreat
open Go.Lib (decDigits itoa nDigits)
set_option linter.unusedVariables false

end Go.Proofs.YtfedgcdkagngnaaGreat

/- The document's Text of a number (ref31). -/
namespace Go.Proofs.YtfedgcdkagngnaaGreat
open Go.RowKit
set_option linter.unusedVariables false
open Go.Lib (decDigits itoa nDigits)

end Go.Proofs.YtfedgcdkagngnaaGreat

/- dump: digits, Number, Hex; the document's Hex. -/
namespace Go.Proofs.YtfedgcdkagngnaaGreat
open Go.RowKit
set_option linter.unusedVariables false
open Go.Lib (decDigits itoa nDigits)

end Go.Proofs.YtfedgcdkagngnaaGreat

/- dump: Number, Hex; the document's Number, Hex. -/
namespace Go.Proofs.YtfedgcdkagngnaaGreat
open Go.RowKit
set_option linter.unusedVariables false
open Go.Lib (decDigits itoa nDigits)

section
variable {P : Program} {w : World} {ops : Array Oper} {rest : List Oper} {o : Oper} {a : Act} {Q : Exit → Act → World → Prop}
end

end Go.Proofs.YtfedgcdkagngnaaGreat

/- laid -/
/-
  DERIVED: THE SHELF's CONTRACTS AT THIS DUMP, IN PLAIN WORDS (tools/lay-plain.mjs out of 'TmpShelf.lean', which tools/lay-shelf.mjs wrote): THE SAME DECLARATIONS UNDER THE SAME NAMES: 'import', 'namespace', 'open', 'def', 'theorem' AND NOTHING ELSE: no command of the shelf's: FOR A HAND-IN. Each laying: the table of numbers ('.._ren') and one theorem, a field a fact of the dump's own or the kernel's comparison; each contract: ONE APPLICATION.
-/
namespace Go.Proofs
open Go.Shelf
end Go.Proofs

/- strings.Builder's contracts, laid at this program. -/
namespace Go.Proofs.YtfedgcdkagngnaaGreat
open Go.RowKit Go.Shelf
set_option linter.unusedVariables false

end Go.Proofs.YtfedgcdkagngnaaGreat

/- strings.Builder: WriteByte, laid at this program; builders while other blocks are made. -/
namespace Go.Proofs.YtfedgcdkagngnaaGreat
open Go.RowKit Go.Shelf
set_option linter.unusedVariables false

end Go.Proofs.YtfedgcdkagngnaaGreat

/- dump: sign, Map; the document's. -/
namespace Go.Proofs.YtfedgcdkagngnaaGreat
open Go.RowKit
set_option linter.unusedVariables false

/-- Is a line's end behind a block? -/
def nlB (wd : Int) (b B : Nat) : Prop := 0 < wd ∧ (b : Int) % wd = 0 ∧ (b : Int) < (B : Int) - 1
instance (wd : Int) (b B : Nat) : Decidable (nlB wd b B) := by unfold nlB; infer_instance
end Go.Proofs.YtfedgcdkagngnaaGreat

/- dump: Object. -/
namespace Go.Proofs.YtfedgcdkagngnaaGreat
open Go.RowKit
set_option linter.unusedVariables false
open Go.Lib (decDigits itoa nDigits)

end Go.Proofs.YtfedgcdkagngnaaGreat

/- ref33: datas, Object. -/
namespace Go.Proofs.YtfedgcdkagngnaaGreat
open Go.RowKit
set_option linter.unusedVariables false
open Go.Lib (decDigits itoa nDigits)

end Go.Proofs.YtfedgcdkagngnaaGreat

/- ref22: Reach. -/
namespace Go.Proofs.YtfedgcdkagngnaaGreat
open Go.RowKit Go.Maps
set_option linter.unusedVariables false

def lenV : Value → Nat
  | .slice _ n _ => n
  | _ => 0
end Go.Proofs.YtfedgcdkagngnaaGreat

/- hold: New, Has, List, Add, Reset. -/
namespace Go.Proofs.YtfedgcdkagngnaaGreat
open Go.RowKit Go.Maps
set_option linter.unusedVariables false

section
variable {P : Program} {w : World} {ops : Array Oper} {rest : List Oper} {o : Oper} {a : Act} {Q : Exit → Act → World → Prop}
theorem wpList_cut_to {x hi : Operand} {t e : TypeId} {z : Value} {size bytes : Nat} (E : Elem P t e z size bytes) {ad : Option Addr} {n cap : Nat} {k : IntKind} {H : Int} (h : Nat)
    (hH : H = (h : Int)) (hh : h ≤ n) (hn : n ≤ cap)
    (hgd : o.guard = none) (ho : o.op = .slice t x none (some hi) none) (hx : a.eval x = .slice ad n cap) (hhi : a.eval hi = .int k H)
    (hK : wpList P ops Q rest (a.put o.dst (.slice ad h cap)) w) :
    wpList P ops Q (o :: rest) a w := by
  refine wpList_plain hgd fun K hK' => ?_
  subst hH
  have hr := run_slice_any (w := w) E ad n cap 0 h none (some (.int k h)) (by
    have : (0 : Int) ≤ (h : Int) ∧ (h : Int) ≤ (cap : Int) := by omega
    simp [Instr.sliceBounds, Instr.sliceBound, asIntOf, Nat.le_trans hh hn])
  have e : (if cap = 0 then ad else ad.map (·.add (0 * size))) = ad := by
    split
    · rfl
    · cases ad <;> simp [Addr.add]
  simp only [e, Nat.sub_zero] at hr
  unfold Oper.wp
  simp only [execOp, ho, hx, hhi, Option.map_some, Option.map_none]
  simp [hr, Result.andThen]
  exact hK' _ _ hK
end

/-- Held: its block, its set. -/
structure HdAt (w : World) (A : AF) (hp : Nat) (X : SetF) (M : List Bool) : Prop where
  head : w.heap[hp]? = some (.cells #[valloc A, vset X] 185 (0, 0))
  set : SetAt w X M
  ne : hp ∉ X.list
  dis : ∀ k ∈ X.list, k ∉ A.list
section
variable {w w' : World} {A : AF} {hp : Nat} {X : SetF} {M M' : List Bool} {n B : Nat} {m : Al}
theorem HdAt.lt (h : HdAt w A hp X M) : hp < w.heap.size := (Array.getElem?_eq_some_iff.1 h.head).1
theorem HdAt.c0 (h : HdAt w A hp X M) : w.cell? ⟨hp, 0, none⟩ = some (valloc A) := by rw [Lib.cell_of_heap h.head]; rfl
theorem HdAt.c1 (h : HdAt w A hp X M) : w.cell? ⟨hp, 1, none⟩ = some (vset X) := by rw [Lib.cell_of_heap h.head]; rfl
theorem HdAt.keep (h : HdAt w A hp X M) (hk : ∀ k, k = hp ∨ k ∈ X.list → w'.heap[k]? = w.heap[k]?) : HdAt w' A hp X M := ⟨(hk hp (.inl rfl)).trans h.head, h.set.keep (fun k h => hk k (.inr h)), h.ne, h.dis⟩
theorem HdAt.mem (h : HdAt w A hp X M) {k : Nat} (hk : k = hp ∨ k ∈ X.list) : k < w.heap.size := hk.elim (fun e => e ▸ h.lt) (fun hk => h.set.mem k hk)
theorem HdAt.later (h : HdAt w A hp X M) (hb : Below w.heap.size w w') : HdAt w' A hp X M := h.keep (fun k hk => hb.block k (h.mem hk))
theorem HdAt.turn (h : HdAt w A hp X M) (hs : SetAt w' X M') (ht : Touch X.list w w') : HdAt w' A hp X M' := ⟨(ht.block hp h.lt h.ne).trans h.head, hs, h.ne, h.dis⟩
theorem HdAt.al (h : HdAt w A hp X M) (ha : AlAt w A n B m) (ht : Touch X.list w w') : AlAt w' A n B m := ha.keep (fun k hk => ht.block k (ha.mem k hk) (fun hm => h.dis k hm hk))
end
theorem fresh_nat {l : List Bool} {x : Nat} (h : x < l.length) : freshI l (x : Int) = !l.getD x false := by
  unfold freshI
  rw [hasI_nat, decide_eq_true (by omega)]; rfl
/-- How many a set holds: off the world. -/
def cntW (X : SetF) (w : World) : Nat := match w.cell? ⟨X.u, 2, none⟩ with
  | some (.int _ c) => c.toNat
  | _ => 0
theorem cntW_is {w : World} {X : SetF} {M : List Bool} (h : SetAt w X M) : cntW X w = M.count true := by
  obtain ⟨ws, h⟩ := h
  have : w.cell? ⟨X.u, 2, none⟩ = some (.int .i64 (M.count true : Int)) := by rw [Lib.cell_of_heap h.head]; rfl
  unfold cntW
  rw [this]; simp

theorem Cells.one_keep {w w' : World} {a : Option Addr} {v : Value} (h : Cells w a [v]) (hk : ∀ x, a = some x → x.block < w.heap.size → w'.heap[x.block]? = w.heap[x.block]?) : Cells w' a [v] := by
  obtain ⟨b, o, rfl, hlt, hc⟩ := h.at (i := 0) (by simp)
  have h1 := hc 0 v rfl
  have h2 := hk _ rfl hlt
  dsimp only at h2
  refine .inr ⟨b, o, rfl, fun i u hi => ?_⟩
  have hi0 : i = 0 := by have := (List.getElem?_eq_some_iff.1 hi).1; simp at this; exact this
  subst hi0
  have hu : u = v := by simpa using hi.symm
  subst hu
  unfold World.cell? at h1 ⊢
  dsimp only at h1 ⊢
  rw [h2]; exact h1
/-- What New gives. -/
def HNewPost (A : AF) (L : Nat) (w : World) : Ending → World → Prop := fun e w' => ∃ (hp : Nat) (X : SetF), e = .returned (.pointer (some ⟨hp, 0, none⟩)) ∧ HdAt w' A hp X (List.replicate L false) ∧ Below w.heap.size w w' ∧ w.heap.size ≤ hp ∧ (∀ k ∈ X.list, w.heap.size ≤ k)

set_option maxHeartbeats 1000000 in
theorem hnew_any {w : World} {A : AF} {n B : Nat} {m : Al} (h : AlAt w A n B m) (h1 : 1 ≤ m.bm.dev.cache.length) (h2 : m.bm.dev.cache.length ≤ 1000000) :
    Calls Tryz.prog 54 #[valloc A] w (HNewPost A m.bm.dev.cache.length w) := by
  have HP : Hid (∀ hp X w', HdAt w' A hp X (List.replicate m.bm.dev.cache.length false) → Below w.heap.size w w' → w.heap.size ≤ hp → (∀ k ∈ X.list, w.heap.size ≤ k) → HNewPost A m.bm.dev.cache.length w (.returned (.pointer (some ⟨hp, 0, none⟩))) w') := Lib.hid (fun hp X w' h1 h2 h3 h4 => ⟨hp, X, rfl, h1, h2, h3, h4⟩)
  generalize HNewPost A m.bm.dev.cache.length w = Post at *
  have HLn := Lib.hid (dlen_any h.man.dev)
  have HDv := Lib.hid (adev_any h)
  have HAm := Lib.hid h.mem
  generalize m.bm.dev.cache.length = L at *
  have HNw := Lib.hid (fun w => snew_any L h1 h2 w)
  clear h
  go_enter Tryz.func54, Tryz.ntmps54
  go_wp2_with fail
  refine HDv.out.mono ?_
  rintro e w1 ⟨rfl, rfl⟩
  go_wp2_with fail
  refine HLn.out.mono ?_
  rintro e w1 ⟨rfl, rfl⟩
  go_wp2_with fail
  refine (HNw.out _).mono ?_
  rintro e w1 ⟨X, rfl, hs1, hb1, hx1⟩
  have hb := below_alloc w1 (.cells #[valloc A, vset X] 185)
  have hn := heap_alloc_new w1 (.cells #[valloc A, vset X] 185)
  have HEnd := Lib.hid (HP.out w1.heap.size X _ ⟨hn, hs1.below hb, fun hm => by have := hs1.mem _ hm; omega, fun k hk hm => by have h1 := hx1 k hk; have h2 := HAm.out k hm; omega⟩ (hb1.trans (hb.mono hb1.size)) hb1.size hx1)
  clear hs1 hb1 hx1 hb hn
  go_wp2_with fail
  exact HEnd.out

set_option maxHeartbeats 1000000 in
theorem hhas_any {w : World} {A : AF} {hp : Nat} {X : SetF} {M : List Bool} (h : HdAt w A hp X M) (x : Nat) :
    Calls Tryz.prog 60 #[.pointer (some ⟨hp, 0, none⟩), .int .i64 (x : Int)] w (Same1 (.bool (M.getD x false)) w) := by
  have HP : Hid (Same1 (.bool (M.getD x false)) w (.returned (.bool (M.getD x false))) w) := Lib.hid ⟨rfl, rfl⟩
  generalize Same1 (.bool (M.getD x false)) w = Post at *
  have c1 := h.c1
  have HS := Lib.hid (shas_any h.set (x : Int))
  rw [hasI_nat] at HS
  generalize M.getD x false = b at *
  clear h
  go_enter Tryz.func60, Tryz.ntmps60
  go_wp2_with fail
  refine HS.out.mono ?_
  rintro e w1 ⟨rfl, rfl⟩
  go_wp2_with fail
  exact HP.out

set_option maxHeartbeats 1000000 in
theorem hlist_any {w : World} {A : AF} {hp : Nat} {X : SetF} {M : List Bool} (h : HdAt w A hp X M) :
    Calls Tryz.prog 57 #[.pointer (some ⟨hp, 0, none⟩)] w (ListPost w (onesL M)) := by
  have HP : Hid (∀ e w', ListPost w (onesL M) e w' → ListPost w (onesL M) e w') := Lib.hid (fun _ _ h => h)
  generalize hPo : ListPost w (onesL M) = Post at *
  have c1 := h.c1
  have HS := Lib.hid (slist_any h.set)
  rw [hPo] at HS
  have HS2 : Hid (∀ e w', Post e w' → ∃ v, e = .returned v) := Lib.hid (fun e w' hp => by subst hPo; obtain ⟨v, e, _⟩ := hp; exact ⟨v, e⟩)
  clear h hPo
  go_enter Tryz.func57, Tryz.ntmps57
  go_wp2_with fail
  refine HS.out.mono ?_
  intro e w1 hp
  obtain ⟨v, rfl⟩ := HS2.out _ _ hp
  have HPp := Lib.hid (HP.out _ _ hp)
  clear hp
  go_wp2_with fail
  exact HPp.out

/-- What Add leaves. -/
def HAddPost (A : AF) (m : Al) (hp : Nat) (X : SetF) (M : List Bool) (x : Nat) (w : World) : Ending → World → Prop := fun e w' => ∃ M', e = .returned (.int .i64 ((M'.count true : Int) - (M.count true : Int))) ∧ Added m.used (fun x : Nat => ptrsD m.bm.dev (x : Int)) M x M' ∧ HdAt w' A hp X M' ∧ Touch X.list w w'

set_option maxHeartbeats 8000000 in
set_option maxRecDepth 100000 in
theorem hadd_any {w : World} {A : AF} {n B : Nat} {m : Al} {hp : Nat} {X : SetF} {M : List Bool} (ha : AlAt w A n B m) (h : HdAt w A hp X M) (hl : M.length = m.used.length) (hU : m.used.length ≤ 100000) (x : Nat) (hx : x ≤ 1099511627776) :
    Calls Tryz.prog 61 #[.pointer (some ⟨hp, 0, none⟩), .int .i64 (x : Int)] w (HAddPost A m hp X M x w) := by
  have HP : Hid (∀ (M' : List Bool) (z : Int) (w' : World), z = (M'.count true : Int) - (M.count true : Int) → Added m.used (fun x : Nat => ptrsD m.bm.dev (x : Int)) M x M' → HdAt w' A hp X M' → Touch X.list w w' → HAddPost A m hp X M x w (.returned (.int .i64 z)) w') := Lib.hid (fun M' z w' h1 h2 h3 h4 => by subst h1; exact ⟨M', rfl, h2, h3, h4⟩)
  generalize HAddPost A m hp X M x w = Post at *
  have HA := Lib.hid (fun w' (ht : Touch X.list w w') => h.al ha ht)
  have HPt := Lib.hid (fun w' (h : AlAt w' A n B m) (x : Nat) => optrs_any h.man.dev (x : Int))
  have HPo : Hid (∀ (x : Nat) w1 e w2, PtrsPost m.bm.dev (x : Int) w1 e w2 → ∃ av cp ec, e = .returned (.tuple #[.slice av (ptrsD m.bm.dev (x : Int)).length cp, .int .i64 ec]) ∧ Cells w2 av ((ptrsD m.bm.dev (x : Int)).map vi) ∧ Below w1.heap.size w1 w2) := Lib.hid (fun x w1 e w2 hp => by
    obtain ⟨av, cp, ec, e1, _, e2, e3, e4⟩ := hp.out
    exact ⟨av, cp, ec, e1, e2, e4⟩)
  have HPl : Hid (∀ x : Nat, (ptrsD m.bm.dev (x : Int)).length ≤ 64) := Lib.hid (fun x => ptrsD_len ha.man.dev.small _)
  have HPe : Hid (∀ x : Nat, ∀ y ∈ ptrsD m.bm.dev (x : Int), y ≤ 1099511627776) := Lib.hid (fun x => ptrsD_le _ _)
  have HUs := Lib.hid (fun w' (h : AlAt w' A n B m) (x : Nat) => aused_any h (x : Int))
  have HLi : Hid (∀ x, hasI m.used ((x : Nat) : Int) = m.used.getD x false) := Lib.hid (fun x => hasI_nat _ x)
  have HDv := Lib.hid (fun w' (h : AlAt w' A n B m) => adev_any h)
  have HSn := Lib.hid (slen_any h.set)
  have HMl := Lib.hid hl
  have HUl := Lib.hid hU
  have HX := Lib.hid hx
  have HAd0 := Lib.hid (Adding.start m.used (fun x : Nat => ptrsD m.bm.dev (x : Int)) M x)
  have hcm : M.count true ≤ 100000 := by have := count_le_len M; omega
  obtain ⟨P, hP⟩ : ∃ P : Nat → List Nat, P = fun x : Nat => ptrsD m.bm.dev (x : Int) := ⟨_, rfl⟩
  have HPx : Hid (∀ x : Nat, ptrsD m.bm.dev (x : Int) = P x) := Lib.hid (fun x => by rw [hP])
  rw [← hP] at HP HAd0
  generalize m.used = U at *
  have c1 := h.c1
  have HH0 := Lib.hid h
  clear h ha hl hU hx hP
  go_enter Tryz.func61, Tryz.ntmps61
  go_wp2_with fail
  refine HSn.out.mono ?_
  rintro e w1 ⟨rfl, rfl⟩
  have hb0 := below_alloc w (.cells #[.int .i64 (x : Int)] 3)
  have HO0 : Hid (OwnI (w.alloc (.cells #[.int .i64 (x : Int)] 3)) (.slice (some ⟨w.heap.size, 0, none⟩) 1 1) [x]) := Lib.hid (.inl ⟨rfl, .inr ⟨w.heap.size, 1, #[vi x], rfl, Nat.zero_le _, heap_alloc_new w _, Nat.le_refl _, (by unfold maxLen; omega), rfl, rfl⟩⟩)
  have HR0 : Hid (∀ b, rowOf (.slice (some ⟨w.heap.size, 0, none⟩) 1 1) = some b → w.heap.size ≤ b) := Lib.hid (fun b hb => by
    have e : w.heap.size = b := by simpa [rowOf] using hb
    omega)
  have HH1 := Lib.hid (HH0.out.later hb0)
  have HT0 : Hid (Touch X.list w (w.alloc (.cells #[.int .i64 (x : Int)] 3))) := Lib.hid (Touch.ofBelow hb0)
  have HLe0 : Hid (∀ y ∈ [x], y ≤ 1099511627776) := Lib.hid (by intro y hy; simp at hy; subst hy; exact HX.out)
  clear hb0 c1
  go_upto_block 0 with fail
  generalize w.alloc _ = w0 at *
  go_wp2_with fail
  go_loopw [6] (fun ov wr => ∃ (O : List Nat) (a : Option Addr) (c l : Nat) (Mk : List Bool), ov = .slice a l c ∧ l ≤ 1 + 64 * Mk.count true ∧ Mk.count true ≤ 100000 ∧ Hid (l = O.length) ∧ Hid (OwnI wr (.slice a l c) O) ∧ Hid (∀ b, rowOf (.slice a l c) = some b → w.heap.size ≤ b) ∧ Hid (HdAt wr A hp X Mk) ∧ Hid (Adding U P M x Mk O) ∧ Hid (Touch X.list w wr) ∧ Hid (∀ y ∈ O, y ≤ 1099511627776)) (fun ov wr => 100 * (U.length - cntW X wr) + lenV ov)
  case atStart => exact ⟨[x], _, 1, 1, M, rfl, by omega, hcm, Lib.hid rfl, HO0, HR0, HH1, HAd0, HT0, HLe0⟩
  case round =>
    clear HO0 HR0 HH1 HAd0 HT0 HLe0
    obtain ⟨O, a, c, l, Mk, rfl, hl1, hck, HL, HO, HR, HH, HAd, HT, HLe⟩ := hrel
    have c0 := HH.out.c0
    have c1 := HH.out.c1
    by_cases h0 : l = 0
    · subst h0
      have HOn : Hid (O = []) := Lib.hid (List.length_eq_zero_iff.1 HL.out.symm)
      have HSn2 := Lib.hid (slen_any HH.out.set)
      rw [HOn.out] at HAd
      go_wp2_with fail
      refine HSn2.out.mono ?_
      rintro e w3 ⟨rfl, rfl⟩
      go_wp2_with fail
      exact HP.out Mk _ _ rfl HAd.out HH.out HT.out
    · obtain ⟨n1, rfl⟩ : ∃ n1, l = n1 + 1 := ⟨l - 1, by omega⟩
      have hn1 : n1 < O.length := by rw [← HL.out]; omega
      obtain ⟨y, hy⟩ : ∃ y, O[n1]? = some y := ⟨_, List.getElem?_eq_getElem hn1⟩
      have HOy : Hid (O = O.take n1 ++ [y]) := Lib.hid (by
        have e1 := List.take_succ_eq_append_getElem hn1
        rw [(List.getElem?_eq_some_iff.1 hy).2, HL.out, List.take_length] at e1
        exact e1)
      obtain ⟨a', c', e', hcc, hlc, _⟩ := HO.out.cells
      rw [← HL.out] at e' hlc
      cases e'
      obtain ⟨b1, o1, rfl, _, hc1⟩ := hcc.at (i := n1) (by rw [List.length_map]; exact hn1)
      have cy := hc1 n1 (vi y) (by rw [List.getElem?_map, hy]; rfl)
      have hy9 := HLe.out y (List.mem_of_getElem? hy)
      have hn64 : n1 ≤ 6400001 := by omega
      have hpos : (0 : Int) < ((n1 + 1 : Nat) : Int) := by omega
      have HOc := Lib.hid (HO.out.cutN HL.out (n := n1) (by omega))
      have HRc : Hid (∀ b, rowOf (.slice (some ⟨b1, o1, none⟩) n1 c) = some b → w.heap.size ≤ b) := Lib.hid (fun b hb => HR.out b (by rw [rowOf_cut _ (n1 + 1) n1]; exact hb))
      have HLc : Hid (n1 = (O.take n1).length) := Lib.hid (by rw [List.length_take]; omega)
      have HLe2 : Hid (∀ z ∈ O.take n1, z ≤ 1099511627776) := Lib.hid (fun z hz => HLe.out z (List.mem_of_mem_take hz))
      have HAd2 : Hid (Adding U P M x Mk (O.take n1 ++ [y])) := Lib.hid (by rw [← HOy.out]; exact HAd.out)
      have HU1 := Lib.hid (HUs.out wr (HA.out wr HT.out) y)
      rw [HLi.out y] at HU1
      have HCw := Lib.hid (cntW_is HH.out.set)
      generalize O.take n1 = O1 at *
      clear hcc hc1 hy hn1 HO HR HL HLe HAd
      cases hu : U.getD y false with
      | false =>
        rw [hu] at HU1
        have HAs := Lib.hid (HAd2.out.skip (.inl hu))
        clear hu
        go_wp2_with (refine wpList_cut_to elBI n1 rfl (by omega) hlc rfl rfl rfl rfl ?_)
        refine HU1.out.mono ?_
        rintro e w3 ⟨rfl, rfl⟩
        go_wp2_with fail
        exact ⟨⟨O1, _, c, n1, Mk, rfl, by omega, hck, HLc, HOc, HRc, HH, HAs, HT, HLe2⟩, by simp [lenV]⟩
      | true =>
        have hyl := getD_true_lt hu
        have hyl2 : y < Mk.length := by rw [HAd2.out.len, HMl.out]; exact hyl
        have HSa := Lib.hid (sadd_any HH.out.set (y : Int))
        rw [fresh_nat hyl2] at HSa
        rw [hu] at HU1
        cases hk : Mk.getD y false with
        | true =>
          have HAs := Lib.hid (HAd2.out.skip (.inr hk))
          have he : addI Mk (y : Int) = Mk := by unfold addI; rw [fresh_nat hyl2, hk]; rfl
          rw [he, hk, Bool.not_true] at HSa
          clear hu hk he hyl hyl2
          go_wp2_with (refine wpList_cut_to elBI n1 rfl (by omega) hlc rfl rfl rfl rfl ?_)
          refine HU1.out.mono ?_
          rintro e w3 ⟨rfl, rfl⟩
          go_wp2_with fail
          refine HSa.out.mono ?_
          rintro e w4 ⟨rfl, hs4, ht4⟩
          have HH4 := Lib.hid (HH.out.turn hs4 ht4)
          have HT4 := Lib.hid (HT.out.trans ht4)
          have HO4 := Lib.hid (HOc.out.keep (fun b hb => ht4.block b (HOc.out.lt b hb) (fun hm => by have h1 := HRc.out b hb; have h2 := HH0.out.set.mem b hm; omega)))
          have HCw4 := Lib.hid (cntW_is hs4)
          clear hs4 ht4
          go_wp2_with fail
          exact ⟨⟨O1, _, c, n1, Mk, rfl, by omega, hck, HLc, HO4, HRc, HH4, HAs, HT4, HLe2⟩, by rw [HCw.out, HCw4.out]; simp [lenV]⟩
        | false =>
          have HAs := Lib.hid (HAd2.out.take hu HMl.out)
          have he : addI Mk (y : Int) = Mk.set y true := by unfold addI; rw [fresh_nat hyl2, hk]; simp
          rw [he, hk, Bool.not_false] at HSa
          have hct := count_set_true hyl2 hk
          have hct2 : (Mk.set y true).count true ≤ U.length := by
            have := count_le_len (Mk.set y true)
            rw [List.length_set, HAd2.out.len, HMl.out] at this
            exact this
          have hUl := HUl.out
          have HPo2 := Lib.hid (HPo.out y)
          have HPl2 := Lib.hid (HPl.out y)
          have HPe2 := Lib.hid (HPe.out y)
          rw [HPx.out y] at HPo2 HPl2 HPe2
          clear hu hk he hyl hyl2
          generalize Mk.set y true = Mn at *
          generalize P y = Py at *
          go_wp2_with (refine wpList_cut_to elBI n1 rfl (by omega) hlc rfl rfl rfl rfl ?_)
          refine HU1.out.mono ?_
          rintro e w3 ⟨rfl, rfl⟩
          go_wp2_with fail
          refine HSa.out.mono ?_
          rintro e w4 ⟨rfl, hs4, ht4⟩
          have HH4 := Lib.hid (HH.out.turn hs4 ht4)
          have HT4 := Lib.hid (HT.out.trans ht4)
          have HO4 := Lib.hid (HOc.out.keep (fun b hb => ht4.block b (HOc.out.lt b hb) (fun hm => by have h1 := HRc.out b hb; have h2 := HH0.out.set.mem b hm; omega)))
          have HCw4 := Lib.hid (cntW_is hs4)
          have d0 := HH4.out.c0
          have HDv4 := Lib.hid (HDv.out w4 (HA.out w4 HT4.out))
          have HPt4 := Lib.hid (HPt.out w4 (HA.out w4 HT4.out) y)
          clear hs4 ht4 c0 c1 cy
          go_wp2_with fail
          refine HDv4.out.mono ?_
          rintro e w5 ⟨rfl, rfl⟩
          go_wp2_with fail
          refine HPt4.out.mono ?_
          intro e w5 hp5
          obtain ⟨av, cp, ec, rfl, hcp, hb5⟩ := HPo2.out _ _ _ hp5
          have HCp := Lib.hid hcp
          have HB5 := Lib.hid hb5
          have HO5 := Lib.hid (HO4.out.keep (fun b hb => hb5.block b (HO4.out.lt b hb)))
          have HH5 := Lib.hid (HH4.out.later hb5)
          have HT5 := Lib.hid (HT4.out.later hb5)
          obtain ⟨pl, hpl⟩ : ∃ pl, pl = Py.length := ⟨_, rfl⟩
          rw [← hpl] at HPl2 ⊢
          have HPn := Lib.hid hpl
          have hp64 : pl ≤ 64 := HPl2.out
          have hql : O1.length + pl ≤ 1000000000000 := by rw [← HLc.out]; omega
          clear hp5 hcp hb5 hpl d0
          go_wp2_with (at_builtin; refine wpList_append_newI (ys := Py) (m := pl) HO5.out (Below.refl _ _) HRc.out HT5.out.size HCp.out HPn.out.symm hql rfl rfl rfl rfl ?_; intro v8 w8 ho8 hb8 hr8; have HO8 := Lib.hid ho8; have HBn8 := Lib.hid hb8; have HR8 := Lib.hid hr8; clear ho8 hb8 hr8; obtain ⟨a8, c8, e8, _⟩ := HO8.out.cells; obtain ⟨l8, hl8⟩ : ∃ l8, l8 = (O1 ++ Py).length := ⟨_, rfl⟩; rw [← hl8] at e8; have HL8 := Lib.hid hl8; have HLq : Hid (l8 = n1 + pl) := Lib.hid (by rw [hl8, List.length_append, ← HLc.out, ← HPn.out]); clear hl8; subst e8)
          have HH8 := Lib.hid (HH5.out.keep (fun k hk => HBn8.out.block k (HH0.out.mem hk)))
          have HT8 : Hid (Touch X.list w w8) := Lib.hid ⟨HBn8.out.os.trans HT5.out.os, HBn8.out.tape.trans HT5.out.tape, HBn8.out.output.trans HT5.out.output, Nat.le_trans HT5.out.size HBn8.out.size, fun k hk hn => (HBn8.out.block k hk).trans (HT5.out.block k hk hn)⟩
          have HLe8 : Hid (∀ z ∈ O1 ++ Py, z ≤ 1099511627776) := Lib.hid (fun z hz => (List.mem_append.1 hz).elim (HLe2.out z) (HPe2.out z))
          have HCw8 := Lib.hid (cntW_is HH8.out.set)
          have hlq := HLq.out
          exact ⟨⟨O1 ++ Py, a8, c8, l8, Mn, rfl, by omega, by omega, HL8, HO8, HR8, HH8, HAs, HT8, HLe8⟩, by rw [HCw.out, HCw8.out]; simp [lenV]; omega⟩

set_option maxHeartbeats 2000000 in
set_option maxRecDepth 100000 in
theorem hreset_any {w : World} {A : AF} {n B : Nat} {m : Al} {hp : Nat} {X : SetF} {M : List Bool} (ha : AlAt w A n B m) (h : HdAt w A hp X M) (hl : M.length = m.used.length) (hU : m.used.length ≤ 100000) (x : Nat) (hx : x ≤ 1099511627776) (al : Option Addr) (cl : Nat) (hc : Cells w al ([x].map vi)) (hn : ∀ z, al = some z → z.block ∉ X.list) :
    Calls Tryz.prog 55 #[.pointer (some ⟨hp, 0, none⟩), .slice al 1 cl] w fun e w' => e = .returned (.tuple #[]) ∧ ∃ M', Added m.used (fun x : Nat => ptrsD m.bm.dev (x : Int)) (List.replicate m.used.length false) x M' ∧ HdAt w' A hp X M' ∧ Touch X.list w w' := by
  have HP : Hid (∀ (M' : List Bool) (w' : World), Added m.used (fun x : Nat => ptrsD m.bm.dev (x : Int)) (List.replicate m.used.length false) x M' → HdAt w' A hp X M' → Touch X.list w w' → (fun e w' => e = Ending.returned (.tuple #[]) ∧ ∃ M', Added m.used (fun x : Nat => ptrsD m.bm.dev (x : Int)) (List.replicate m.used.length false) x M' ∧ HdAt w' A hp X M' ∧ Touch X.list w w') (.returned (.tuple #[])) w') := Lib.hid (fun M' w' h1 h2 h3 => ⟨rfl, M', h1, h2, h3⟩)
  generalize (fun e w' => e = Ending.returned (.tuple #[]) ∧ ∃ M', Added m.used (fun x : Nat => ptrsD m.bm.dev (x : Int)) (List.replicate m.used.length false) x M' ∧ HdAt w' A hp X M' ∧ Touch X.list w w') = Post at *
  have HA := Lib.hid (fun w' (ht : Touch X.list w w') => h.al ha ht)
  have HCl := Lib.hid (sclear_any h.set)
  rw [hl] at HCl
  have HH0 := Lib.hid h
  have HC := Lib.hid hc
  have HNx := Lib.hid hn
  have HU := Lib.hid hU
  have HX := Lib.hid hx
  have c1 := h.c1
  clear ha h hl hU hx hc hn
  go_enter Tryz.func55, Tryz.ntmps55
  go_wp2_with fail
  refine HCl.out.mono ?_
  rintro e w1 ⟨rfl, hs1, ht1⟩
  have HH1 := Lib.hid (HH0.out.turn hs1 ht1)
  have HT1 := Lib.hid ht1
  clear hs1 ht1 c1
  go_wp2_with fail
  go_loopw [13] (fun iv wr => ∃ (k : Nat) (Mk : List Bool), k ≤ 1 ∧ iv = .int .i64 (k : Int) ∧ Hid (HdAt wr A hp X Mk) ∧ Hid (Touch X.list w wr) ∧ Hid (k = 0 → Mk = List.replicate m.used.length false) ∧ Hid (k = 1 → Added m.used (fun x : Nat => ptrsD m.bm.dev (x : Int)) (List.replicate m.used.length false) x Mk)) (fun iv _ => 1 - (intOf iv).toNat)
  case atStart => exact ⟨0, _, by omega, rfl, HH1, HT1, Lib.hid (fun _ => rfl), Lib.hid (fun h => by omega)⟩
  case round =>
    clear HH1 HT1
    obtain ⟨k, Mk, hk, rfl, HH, HT, HZ, HD⟩ := hrel
    by_cases h0 : k = 0
    · subst h0
      have hz := HZ.out rfl
      subst hz
      have HCw : Hid (Cells wr al ([x].map vi)) := Lib.hid (Cells.one_keep HC.out (fun z hz hzl => HT.out.block z.block hzl (HNx.out z hz)))
      obtain ⟨b1, o1, rfl, _, hc1⟩ := HCw.out.at (i := 0) (by simp)
      have cx : wr.cell? ⟨b1, o1, none⟩ = some (vi x) := hc1 0 (vi x) rfl
      have HAd := Lib.hid (hadd_any (HA.out wr HT.out) HH.out (by simp) HU.out x HX.out)
      clear hc1
      go_wp2_with fail
      refine HAd.out.mono ?_
      rintro e w3 ⟨M3, rfl, ha3, hh3, ht3⟩
      have HA3 := Lib.hid ha3
      have HH3 := Lib.hid hh3
      have HT3 := Lib.hid (HT.out.trans ht3)
      clear ha3 hh3 ht3
      go_wp2_with fail
      exact ⟨⟨1, M3, Nat.le_refl _, rfl, HH3, HT3, Lib.hid (fun h => by omega), Lib.hid (fun _ => HA3.out)⟩, by simp [intOf]⟩
    · obtain rfl : k = 1 := by omega
      have HEnd := Lib.hid (HP.out Mk _ (HD.out rfl) HH.out HT.out)
      go_wp2_with fail
      go_end0
      exact HEnd.out
end Go.Proofs.YtfedgcdkagngnaaGreat

/- Plain: what a pointer's change does to where objects lead. -/
namespace Go.Proofs.YtfedgcdkagngnaaGreat
open Go.RowKit
set_option linter.unusedVariables false

section
variable {B : Nat} {m : Al} {xs : List Nat}
theorem ptrsO_is {y : Nat} {o : Odec} (ho : placedN m.bm.dev m.bm.list (y : Int) = some o) : ptrsO m y = ptrL m.bm.dev (y : Int) o.p.toNat := by
  obtain ⟨h1, h2, _⟩ := placed_head ho
  unfold ptrsO ptrsD
  rw [h1, if_pos h2]
theorem peek_nat (l : List Nat) (a i : Nat) : peek l ((a : Int) + 1 + (i : Int)) = l.getD (a + 1 + i) 0 := by
  rw [show (a : Int) + 1 + (i : Int) = ((a + 1 + i : Nat) : Int) by push_cast; rfl, peek_in]
/-- All words of an object but the one that is changed. -/
theorem lead_ptrs (h : WOk B m xs) (hB : B ≤ 200) (i p t : Int) :
    (∀ y ∈ xs, y ≠ pickN xs i → ptrsO (m.lead xs i p t) y = ptrsO m y) ∧ (∀ z ∈ ptrsO (m.lead xs i p t) (pickN xs i), z ∈ ptrsO m (pickN xs i) ∨ z = pickN xs t) := by
  rcases lead_is h hB i p t with e | ⟨x, o, k, hx, x0, ho, rfl, hk, e⟩
  · rw [e]; exact ⟨fun _ _ _ => rfl, fun z hz => .inl hz⟩
  · have hxm : x ∈ xs := hx ▸ pickN_mem (by rw [← hx]; exact x0)
    have hu := h.us _ hxm
    obtain ⟨s1, s2, s3, s4, s5⟩ := placed_size ho
    have hs := objSize_is s1
    have hvt : pickN xs t < 512 * B ∨ pickN xs t = 0 := by
      by_cases c : pickN xs t = 0
      · exact .inr c
      · exact .inl (h.lt (pickN_mem c)).2
    have hv : pickN xs t < 18446744073709551616 := by omega
    obtain ⟨_, _, a3, a4⟩ := h.ok.store hB hu ho (j := x + 1 + k) (v := pickN xs t) (by omega) (by omega) hv
    rw [e, ← hx]
    refine ⟨fun y hy hyx => ?_, fun z hz => ?_⟩
    · have huy := h.us y hy
      obtain ⟨oy, hoy⟩ := Option.isSome_iff_exists.1 (h.ok.placed y huy)
      obtain ⟨q1, q2, q3, q4, q5⟩ := placed_size hoy
      have hq := objSize_is q1
      have hoy' : placedN (⟨⟨m.bm.dev.store ((x + 1 + k : Nat) : Int) (pickN xs t), m.bm.list, m.bm.free⟩, m.used, m.fl⟩ : Al).bm.dev m.bm.list (y : Int) = some oy := (a4 y huy).trans hoy
      rw [ptrsO_is (m := ⟨⟨m.bm.dev.store ((x + 1 + k : Nat) : Int) (pickN xs t), m.bm.list, m.bm.free⟩, m.used, m.fl⟩) hoy', ptrsO_is hoy]
      unfold ptrL
      refine List.map_congr_left (fun j hj => ?_)
      have hj := List.mem_range.1 hj
      rw [peek_nat, peek_nat]
      dsimp only
      rw [a3]
      have hne : ¬ (x + 1 + k = y + 1 + j) := by
        have r1 := placed_room ho
        have r2 := placed_room hoy
        have f1 := room_fits (p := o.p) (d := o.d) s1
        have f2 := room_fits (p := oy.p) (d := oy.d) q1
        rcases Nat.lt_or_gt_of_ne hyx with c | c
        · have := r2.apart r1 c
          omega
        · have := r1.apart r2 c
          omega
      rw [List.getD_eq_getElem?_getD, List.getD_eq_getElem?_getD, List.getElem?_set_ne hne]
    · have hox' : placedN (⟨⟨m.bm.dev.store ((x + 1 + k : Nat) : Int) (pickN xs t), m.bm.list, m.bm.free⟩, m.used, m.fl⟩ : Al).bm.dev m.bm.list (x : Int) = some o := (a4 x hu).trans ho
      rw [ptrsO_is (m := ⟨⟨m.bm.dev.store ((x + 1 + k : Nat) : Int) (pickN xs t), m.bm.list, m.bm.free⟩, m.used, m.fl⟩) hox'] at hz
      rw [ptrsO_is ho]
      unfold ptrL at hz ⊢
      obtain ⟨j, hj, rfl⟩ := List.mem_map.1 hz
      have hj' := List.mem_range.1 hj
      rw [peek_nat]
      dsimp only
      rw [a3]
      by_cases c : x + 1 + k = x + 1 + j
      · right
        have hlt : x + 1 + j < m.bm.dev.cache.length := by
          have := (placed_room ho).pos
          rw [h.ok.bm.lenL] at this
          have f1 := room_fits (p := o.p) (d := o.d) s1
          rw [h.ok.len]; omega
        rw [c, List.getD_eq_getElem?_getD, List.getElem?_set_self hlt]
        show capP (pickN xs t) = pickN xs t
        unfold capP
        rw [if_neg (by omega)]
      · left
        rw [List.getD_eq_getElem?_getD, List.getElem?_set_ne c, ← List.getD_eq_getElem?_getD]
        exact List.mem_map.2 ⟨j, hj, by rw [peek_nat]⟩

end

section
variable {w wr w' : World} {Q : List Nat} {A : AF} {n N N' : Nat} {m m' : Al} {v : Value} {xs : List Nat} {K : MkF} {M : Mk}
end

end Go.Proofs.YtfedgcdkagngnaaGreat

/- law32: Made. -/
namespace Go.Proofs.YtfedgcdkagngnaaGreat
open Go.RowKit
set_option linter.unusedVariables false

end Go.Proofs.YtfedgcdkagngnaaGreat

/- law20: awake. -/
namespace Go.Proofs.YtfedgcdkagngnaaGreat
open Go.RowKit Go.Maps
set_option linter.unusedVariables false

theorem putStep_far {r : PutR} {b x : Nat} {h : Hd} (hx : x ≠ b) : (putStep r b h).list.getD x default = r.list.getD x default := by
  unfold putStep
  split
  · rfl
  · dsimp only
    split
    · rw [List.getD_eq_getElem?_getD, List.getElem?_set_ne (fun e => hx e.symm), ← List.getD_eq_getElem?_getD]
    · rfl
theorem putAll_far {S : Dev} {L : List Hd} {b : Int} {h : Hd} {x : Nat} (hx : x ≠ b.toNat) : (putAll S L b [h]).list.getD x default = L.getD x default := by
  have key : (putTo S L b.toNat [h] 1).list.getD x default = L.getD x default := by
    show (putStep ⟨S, L, 0⟩ (b.toNat + 0) ([h].getD 0 default)).list.getD x default = _
    rw [putStep_far (by omega)]
  unfold putAll
  split
  · rfl
  · split
    · rfl
    · unfold putIn
      split
      · exact key
      · exact key
theorem small_far (m : Bm) (k : Int) : ∃ b : Nat, ∀ x, x ≠ b → (m.small k).bm.list.getD x default = m.list.getD x default := by
  unfold Bm.small
  split
  · exact ⟨0, fun _ _ => rfl⟩
  · split
    · exact ⟨0, fun _ _ => rfl⟩
    · exact ⟨(takeR m.free 1).2.1.toNat, fun x hx => putAll_far hx⟩
theorem takeA_bm (m : Al) (bm : Bm) (f : FL) (mu k : Nat) : (m.take bm f mu k).al.bm = bm := by unfold Al.take; split <;> rfl
theorem steal_bm (m : Al) (bm : Bm) (mu k : Nat) : (m.steal bm mu k).al.bm = bm := by
  unfold Al.steal
  split
  · exact takeA_bm _ _ _ _ _
  · rfl
theorem roomS_bm (m : Al) (mu k : Nat) : (m.roomS mu k).al.bm = m.bm ∨ (m.roomS mu k).al.bm = (m.bm.small k).bm := by
  unfold Al.roomS
  split
  · exact .inl (takeA_bm _ _ _ _ _)
  · split
    · exact .inr (takeA_bm _ _ _ _ _)
    · split
      · exact .inr rfl
      · exact .inr (steal_bm _ _ _ _)
theorem made_list (m : Al) (a p d : Int) : (m.made a p d).al.bm.list = m.bm.list := by unfold Al.made; split <;> rfl
theorem alloc_far {m : Al} {p d : Int} (hs : small (objSize p d)) : ∃ b : Nat, ∀ x, x ≠ b → (m.alloc 0 p d).al.bm.list.getD x default = m.bm.list.getD x default := by
  have key : ∃ b : Nat, ∀ x, x ≠ b → (m.room 0 (objSize p d)).al.bm.list.getD x default = m.bm.list.getD x default := by
    unfold Al.room
    rw [if_pos hs]
    rcases roomS_bm m 0 (ofN (objSize p d)) with e | e
    · rw [e]; exact ⟨0, fun _ _ => rfl⟩
    · rw [e]; exact small_far _ _
  unfold Al.alloc
  split
  · exact ⟨0, fun _ _ => rfl⟩
  · split
    · exact ⟨0, fun _ _ => rfl⟩
    · split
      · exact key
      · rw [made_list]; exact key
/-- Three blocks: behind one small object there is room for another. -/
theorem roomy2 {p d : Int} {n : Nat} {m : Al} (hm : m = ((al0 3).alloc 0 p d).al) (hs : small (objSize p d)) (hb : BmOk 3 m.bm) (hn : small n) : ¬ NoRoom m n := by
  obtain ⟨b, hf⟩ := alloc_far (m := al0 3) hs
  rw [← hm] at hf
  have h0 : ∀ x : Nat, x < 3 → ((al0 3).bm.list.getD x default).k = 0 := fun x hx => by
    rw [al0_list (by omega) (by omega), List.getD_eq_getElem?_getD, List.getElem?_replicate, if_pos hx]; rfl
  by_cases c : b = 1
  · exact roomy hb (b := 2) (by omega) (by omega) (by rw [hf 2 (by omega)]; exact h0 2 (by omega)) hn
  · exact roomy hb (b := 1) (by omega) (by omega) (by rw [hf 1 (by omega)]; exact h0 1 (by omega)) hn
section
variable {w wr w' : World} {Q : List Nat} {A : AF} {n B N : Nat} {m : Al} {v : Value} {xs : List Nat}
theorem Hp.make2 (h : Hp w wr Q A n B N m v xs) (hB2 : 2 ≤ B) (hB : B ≤ 200) (hn : n < 900000000000) (hN : N ≤ 900000000) (p d : Int) :
    Calls Tryz.prog 76 #[vworld A v, .int .i64 p, .int .i64 d] wr fun e w' => HpMade w wr Q A n B N m v xs (clampI p 8) (clampI d 12) e w' ∧ ∃ v', e = .returned (.tuple #[vworld A v', .bool true]) ∧ ∃ xs' R, Hp w w' Q (A.re R) (n + 6) B (N + 600000) (m.alloc 0 (clampI p 8) (clampI d 12)).al v' xs' ∧ Off Q wr w' ∧ ((∃ a, Made B m (m.alloc 0 (clampI p 8) (clampI d 12)).al a (clampI p 8) (clampI d 12) ∧ xs' = xs ++ [a]) ∨ NoRoom m (objSize (clampI p 8) (clampI d 12))) := by
  have hl := h.ok.len
  refine (wmake_any h.at_ h.ok.ok hB2 hB hn hN h.steps (by omega) p d).mono ?_
  rintro e w' ⟨m', v', xs', rfl, hg, hm, hv, ha⟩
  have hs : m'.bm.dev.ok (N + 600000) := by rw [ha]; exact alloc_okN h.ok.ok.bm.clean.inv h.steps (by rw [h.ok.ok.bm.lenL]; omega) _ _ _
  have hok : WOk B m' xs' := by
    rcases hm with ⟨a, hm, rfl⟩ | ⟨rfl, rfl, _⟩
    · exact h.ok.made hm
    · exact h.ok
  obtain ⟨R, h1, h2⟩ := h.go hg hok hs hv
  refine ⟨⟨m', v', xs', R, rfl, h1, h2, hm⟩, v', rfl, xs', R, ha ▸ h1, h2, ?_⟩
  rcases hm with ⟨a, hm, e⟩ | ⟨_, _, _, hno⟩
  · exact .inl ⟨a, ha ▸ hm, e⟩
  · exact .inr hno
end
/-- One pointer of an object is turned: where it leads then. -/
theorem lead_first {B : Nat} {m : Al} {xs : List Nat} (h : WOk B m xs) (hB : B ≤ 200) {a y : Nat} {i t d : Int} (ha : pickN xs i = a) (ha0 : a ≠ 0) (hy : pickN xs t = y) (ho : placedN m.bm.dev m.bm.list (a : Int) = some ⟨1, d, 0⟩) : ptrsO (m.lead xs i 0 t) a = [y] := by
  have hax : a ∈ xs := by rw [← ha]; exact pickN_mem (by rw [ha]; exact ha0)
  have hal := h.lt hax
  have hu := h.us a hax
  have hy9 : y ≤ 512 * B := by
    by_cases c : y = 0
    · omega
    · have := (h.lt (x := y) (by rw [← hy]; exact pickN_mem (by rw [hy]; exact c))).2; omega
  obtain ⟨h1, h2, _⟩ := placed_head ho
  have hpl : placeN m.bm.dev (a : Int) 0 false = ⟨(a : Int) + (1 + 0), 0⟩ := by
    unfold placeN
    rw [h1]
    dsimp only
    rw [if_neg (by simp), if_neg (by simp), if_pos (by omega)]
  have e1 : m.lead xs i 0 t = ⟨⟨m.bm.dev.store ((a + 1 : Nat) : Int) y, m.bm.list, m.bm.free⟩, m.used, m.fl⟩ := by
    unfold Al.lead
    rw [ha, hy, if_neg ha0]
    unfold Dev.setPtr
    rw [hpl]
    dsimp only
    rw [if_neg (by simp), if_neg (by omega), show (a : Int) + (1 + 0) = ((a + 1 : Nat) : Int) by push_cast; omega, Int.toNat_natCast]
  obtain ⟨s1, _, _, s4, _⟩ := placed_size ho
  have hs : (objSize 1 d : Int) = 1 + 1 + d := objSize_is s1
  dsimp only at s4
  obtain ⟨_, _, a3, a4⟩ := h.ok.store hB hu ho (j := a + 1) (v := y) (by omega) (by show a + 1 < a + objSize 1 d; omega) (by omega)
  rw [e1]
  have ho' : placedN (⟨⟨m.bm.dev.store ((a + 1 : Nat) : Int) y, m.bm.list, m.bm.free⟩, m.used, m.fl⟩ : Al).bm.dev m.bm.list (a : Int) = some ⟨1, d, 0⟩ := (a4 a hu).trans ho
  rw [ptrsO_is (m := ⟨⟨m.bm.dev.store ((a + 1 : Nat) : Int) y, m.bm.list, m.bm.free⟩, m.used, m.fl⟩) ho']
  have hlt : a + 1 < m.bm.dev.cache.length := by
    have := (placed_room ho).pos
    rw [h.ok.bm.lenL] at this
    have f1 := room_fits (p := 1) (d := d) s1
    rw [h.ok.len]; omega
  show [capP (peek (m.bm.dev.store ((a + 1 : Nat) : Int) y).cache ((a : Int) + 1 + ((0 : Nat) : Int)))] = [y]
  rw [peek_nat, a3, List.getD_eq_getElem?_getD, List.getElem?_set_self (by simpa using hlt)]
  show [capP y] = [y]
  unfold capP
  rw [if_neg (by omega)]
/-- Two objects, one of which leads to the other: both are held. -/
theorem added_two {U M' : List Bool} {P : Nat → List Nat} {a b L : Nat} (hab : a ≠ b) (ha : U.getD a false = true) (hb : U.getD b false = true) (hpa : P a = [b]) (hpb : P b = []) (h : Added U P (List.replicate L false) a M') : M'.count true = 2 := by
  have hz : ∀ x : Nat, (List.replicate L false).getD x false = false := fun x => by rw [List.getD_eq_getElem?_getD, List.getElem?_replicate]; split <;> rfl
  have hin : ∀ x, Rch (fun x => U.getD x false = true) P [a] x → x = a ∨ x = b := by
    intro x hx
    induction hx with
    | base h _ => left; simpa using h
    | step _ hm _ ih =>
      rcases ih with rfl | rfl
      · rw [hpa] at hm; right; simpa using hm
      · rw [hpb] at hm; cases hm
  have hma := h.at ha
  have hmb : M'.getD b false = true := (h.next a hma (hz a) b (by rw [hpa]; simp) hb).elim id (fun c => by simp at c)
  rw [count_in (xs := [a, b]) (by simp [hab]) (fun x hx => by
    rcases h.use x hx with c | c
    · rw [hz] at c; cases c
    · have := hin x c; simpa using this)]
  have e : [a, b].filter (fun x => M'.getD x false) = [a, b] := List.filter_eq_self.2 (by
    intro x hx
    simp at hx
    rcases hx with rfl | rfl
    · exact hma
    · exact hmb)
  rw [e]; rfl

set_option maxHeartbeats 8000000 in
set_option maxRecDepth 100000 in
theorem awake20_any (w : World) : Calls Tryz.prog 51 #[] w (Gives (.bool true) w) := by
  have HP : Hid (∀ w', Below w.heap.size w w' → Gives (.bool true) w (.returned (.bool true)) w') := Lib.hid (fun w' h => ⟨rfl, h⟩)
  generalize Gives (.bool true) w = Post at *
  go_enter Tryz.func51, Tryz.ntmps51
  go_wp2_with fail
  refine (begun20_any 3 (by omega) (by omega) _).mono ?_
  rintro e w1 ⟨A, n, rfl, ha, hn, hA, hb⟩
  have hh := Hp.begun (w := w) (by omega) (by omega) ha hA (Below.refl _ _) hb (Q := []) (by simp)
  obtain ⟨q, hq⟩ : ∃ q, q = w1.heap.size := ⟨_, rfl⟩
  have HH : Hid (Hp w (w1.alloc (.cells #[valloc A, vdev A.X.F, .slice none 0 0] 28)) [q] A n 3 201000 (al0 3) (.slice none 0 0) []) := Lib.hid (hh.more (fun k hk => by
    simp only [List.mem_cons, List.not_mem_nil, or_false] at hk
    subst hk
    exact .inr ⟨by rw [hq]; exact Nat.le_refl _, by simp [hq]⟩) (below_alloc _ _))
  have HMr := Lib.hid (Mem.one w1 #[valloc A, vdev A.X.F, .slice none 0 0] 28).r
  have HQ : Hid (w.heap.size ≤ q) := Lib.hid (by rw [hq]; exact hb.size)
  rw [← hq] at HMr
  clear ha hA hb hh
  go_upto_region 2 with fail
  rw [← hq]
  generalize w1.alloc _ = w2 at *
  clear hq
  go_wp2_with (refine wpList_load_r aggW HMr.out 0 rfl rfl rfl rfl rfl ?_)
  refine (HH.out.make2 (by omega) (by omega) (by omega) (by omega) 1 0).mono ?_
  rintro e w3 ⟨_, v1, rfl, xs1, R1, hh1, hk1, hmd⟩
  rcases hmd with ⟨a, hmd, rfl⟩ | hno
  case inr => exact absurd hno (roomy0 (by omega) (by omega) (by have := clamp_size 1 0; show 1 ≤ _ ∧ _ ≤ 256; omega))
  rw [List.nil_append] at hh1
  have HRm := Lib.hid (roomy2 (n := objSize (clampI 0 8) (clampI 2 12)) rfl (by have := clamp_size 1 0; show 1 ≤ _ ∧ _ ≤ 256; omega) hh1.ok.ok.bm (by have := clamp_size 0 2; show 1 ≤ _ ∧ _ ≤ 256; omega))
  have HPa := Lib.hid hmd.placed
  have HUsA : Hid (∀ x, ((al0 3).alloc 0 (clampI 1 8) (clampI 0 12)).al.used.getD x false = true → x ∈ [a]) := Lib.hid (fun x hx => by
    have := full_made (full_begun 3) hmd rfl x hx
    rwa [List.nil_append] at this)
  generalize ((al0 3).alloc 0 (clampI 1 8) (clampI 0 12)).al = m1 at *
  obtain ⟨sa, sc, rfl, _⟩ := hh1.at_.own.cells
  have HH3 := Lib.hid hh1
  have HMr3 := Lib.hid (HMr.out.off hk1 (by simp))
  clear hh1 hk1 hmd
  simp only [List.length_singleton] at HH3 ⊢
  go_wp2_with (first
    | (refine wpList_load_r aggW HM4.out 0 rfl rfl rfl rfl rfl ?_)
    | (refine wpList_store_r aggW HMr3.out 0 rfl rfl rfl rfl rfl rfl rfl rfl ?_; intro w4 h4 ht4; have HM4 := Lib.hid h4; have HT4 := Lib.hid ht4; clear h4 ht4))
  have HH4 := Lib.hid (HH3.out.own (HT4.out.wide (by simp)) (by intro k hk; simp at hk; subst hk; exact HQ.out))
  refine (HH4.out.make (by omega) (by omega) (by omega) (by omega) 0 2).mono ?_
  rintro e w5 ⟨m2, v2, xs2, R2, rfl, hh2, hk2, hmd2⟩
  rcases hmd2 with ⟨b, hmd2, rfl⟩ | ⟨_, _, _, hno⟩
  case inr => exact absurd hno HRm.out
  rw [show [a] ++ [b] = [a, b] from rfl] at hh2
  obtain ⟨sa2, sc2, rfl, _⟩ := hh2.at_.own.cells
  have HH5 := Lib.hid hh2
  have HM5 := Lib.hid (HM4.out.off hk2 (by simp))
  have HPb := Lib.hid hmd2.placed
  have hua := HH4.out.ok.us a (by simp)
  have HPa2 : Hid (placedN m2.bm.dev m2.bm.list (a : Int) = some ⟨1, 0, 0⟩) := Lib.hid ((hmd2.others HH4.out.ok.ok hua).2.trans HPa.out)
  have HAB : Hid (a ≠ b) := Lib.hid (fun e => by have := hmd2.new; rw [← e, hua] at this; cases this)
  clear hh2 hk2 hmd2 hua HMr3 HH3 HT4 HM4 HH4 HRm HPa HUsA
  simp only [List.length_cons, List.length_nil] at HH5 ⊢
  go_wp2_with (first
    | (refine wpList_load_r aggW HM6.out 0 rfl rfl rfl rfl rfl ?_)
    | (refine wpList_store_r aggW HM5.out 0 rfl rfl rfl rfl rfl rfl rfl rfl ?_; intro w6 h6 ht6; have HM6 := Lib.hid h6; have HT6 := Lib.hid ht6; clear h6 ht6))
  have HH6 := Lib.hid (HH5.out.own (HT6.out.wide (by simp)) (by intro k hk; simp at hk; subst hk; exact HQ.out))
  have hpa : pickN [a, b] 0 = a := by unfold pickN; simp
  have hpb : pickN [a, b] 1 = b := by unfold pickN; simp
  have ha0 := (HH6.out.ok.lt (x := a) (by simp))
  have hb0 := (HH6.out.ok.lt (x := b) (by simp))
  have HL1 := Lib.hid (lead_first HH6.out.ok (by omega) hpa (by omega) hpb HPa2.out)
  have HL2 : Hid (ptrsO (m2.lead [a, b] 0 0 1) b = []) := Lib.hid (by
    rw [(lead_ptrs HH6.out.ok (by omega) 0 0 1).1 b (by simp) (by rw [hpa]; exact fun e => HAB.out e.symm), ptrsO_is HPb.out]
    rfl)
  refine (HH6.out.lead (by omega) (by omega) 0 0 1).mono ?_
  rintro e w7 ⟨R7, rfl, hh7, hk7⟩
  have HH7 := Lib.hid hh7
  have HM7 := Lib.hid (HM6.out.off hk7 (by simp))
  clear hh7 hk7 HH5 HH6 HM5 HM6 HT6 HPa2 HPb
  generalize m2.lead [a, b] 0 0 1 = m3 at *
  have hua := HH7.out.ok.us a (by simp)
  have hub := HH7.out.ok.us b (by simp)
  have hul := HH7.out.ok.ok.lenU
  have hcl := HH7.out.ok.ok.len
  have HNw := Lib.hid (hnew_any HH7.out.at_.al (by rw [hcl]; omega) (by rw [hcl]; omega))
  have c0 := HM7.out.cell 0 0 rfl rfl
  have HCn := Lib.hid (fun M' (h : Added m3.used (fun x : Nat => ptrsD m3.bm.dev (x : Int)) (List.replicate m3.bm.dev.cache.length false) a M') => added_two HAB.out hua hub HL1.out HL2.out h)
  have HLu : Hid ((List.replicate m3.bm.dev.cache.length false).length = m3.used.length) := Lib.hid (by rw [List.length_replicate, hul, hcl])
  have HUl : Hid (m3.used.length ≤ 100000) := Lib.hid (by rw [hul]; omega)
  have HA9 : Hid (a ≤ 1099511627776) := Lib.hid (by omega)
  clear hua hub hul hcl ha0 hb0
  go_wp2_with fail
  refine HNw.out.mono ?_
  rintro e w8 ⟨hp, X, rfl, hd8, hb8, _, hx8⟩
  have HXl : Hid (∀ k ∈ X.list, w.heap.size ≤ k) := Lib.hid (fun k hk => Nat.le_trans HH7.out.below.size (hx8 k hk))
  have HD8 := Lib.hid hd8
  have HH8 := Lib.hid (HH7.out.later hb8)
  have HM8 := Lib.hid (HM7.out.later hb8)
  have d2 := HM8.out.cell 0 2 rfl rfl
  clear hd8 hb8 hx8 c0 HNw
  go_upto_region 8 with fail
  go_wp2_with (refine wpList_unguard rfl ?_; refine wpList_load_r aggW HM8.out 0 rfl rfl rfl rfl rfl ?_)
  refine (wpick_any _ _ _ [a, b] HH8.out.at_.own (by simp) 0).mono ?_
  rintro e w9 ⟨rfl, hb9⟩
  rw [show pickN [a, b] 0 = a by unfold pickN; simp]
  have HH9 := Lib.hid (HH8.out.later hb9)
  have HD9 := Lib.hid (HD8.out.later hb9)
  have HAd := Lib.hid (hadd_any HH9.out.at_.al HD9.out HLu.out HUl.out a HA9.out)
  clear hb9 d2 HH8 HM8
  go_wp2_with fail
  refine HAd.out.mono ?_
  rintro e w10 ⟨M', rfl, had, _, ht10⟩
  rw [HCn.out M' had, show ((List.replicate m3.bm.dev.cache.length false).count true) = 0 from List.count_eq_zero.2 (by simp)]
  have HB10 := Lib.hid (HH9.out.below.trans (ht10.below HH9.out.below.size HXl.out))
  clear had ht10
  go_wp2_with fail
  exact HP.out _ HB10.out
end Go.Proofs.YtfedgcdkagngnaaGreat

/- law20: do, of kinds below 2. -/
namespace Go.Proofs.YtfedgcdkagngnaaGreat
open Go.RowKit Go.Maps
set_option linter.unusedVariables false

/-- Three results: a struct in a block of its own, and two slots. -/
theorem results_cell_row3 {P : Program} {fn : Func} {p u z : Tmp} {ty : TypeId} (h : fn.results = #[.cell p ty, .tmp u, .tmp z]) (tmps : Array Value) (w : World) (g : Nat) (t : TypeId) (cs : Array Value) (fr : Nat × Nat) (d : TypeDesc)
    (hp : tmps.getD p undef = .pointer (some ⟨g, 0, none⟩)) (hg : w.heap[g]? = some (.cells cs t fr))
    (hu : P.underlying ty = some d) (hd : (match d with | .struct _ | .array _ _ => true | _ => false) = true) (hi : (P.info? ty).map (·.size) = some cs.size) :
    (results fn tmps).run P w = .ok (.tuple #[.agg cs, tmps.getD u undef, tmps.getD z undef]) w := by
  have hp' : tmps[p]?.getD undef = .pointer (some ⟨g, 0, none⟩) := by simpa using hp
  simp [results, h, hp', asAddr, run_loadVar_row w g t ty cs fr d hg hu hd hi]

theorem Off.trans {Q : List Nat} {w w1 w2 : World} (h : Off Q w w1) (h' : Off Q w1 w2) : Off Q w w2 := by
  obtain ⟨L, h1, h2⟩ := h
  obtain ⟨L', h3, h4⟩ := h'
  refine ⟨L ++ L', (h1.wide (fun k hk => List.mem_append_left _ hk)).trans (h3.wide (fun k hk => List.mem_append_right _ hk)), fun k hk hm => ?_⟩
  rcases List.mem_append.1 hm with c | c
  · exact h2 k hk c
  · exact h4 k hk c

/-- What such a step leaves. -/
def Did20 (w wr : World) (Q : List Nat) (A : AF) (n N : Nat) : Ending → World → Prop := fun e w' => ∃ (m' : Al) (v' : Value) (xs' R : List Nat),
  e = .returned (.tuple #[vworld A v', .slice none 0 0, .bool true]) ∧ Hp w w' Q (A.re R) (n + 6) 4 (N + 600000) m' v' xs' ∧ Off Q wr w' ∧ (∀ a, m'.used.getD a false = true → a ∈ xs')

set_option maxHeartbeats 8000000 in
set_option maxRecDepth 100000 in
theorem ddo20_any {w wr : World} {Q : List Nat} {A : AF} {n N : Nat} {m : Al} {v : Value} {xs : List Nat} (h : Hp w wr Q A n 4 N m v xs) (hQ : ∀ k ∈ Q, w.heap.size ≤ k) (hn : n < 900000000000) (hN : N ≤ 900000000)
    (hf : ∀ a, m.used.getD a false = true → a ∈ xs) (ok oi op ot : Int) (hk : ok < 2) :
    Calls Tryz.prog 53 #[vworld A v, .pointer none, .slice none 0 0, .agg #[.int .i64 ok, .int .i64 oi, .int .i64 op, .int .i64 ot]] wr (Did20 w wr Q A n N) := by
  obtain ⟨q, hq⟩ : ∃ q, q = wr.heap.size := ⟨_, rfl⟩
  have HP : Hid (∀ (m' : Al) (v' : Value) (xs' R : List Nat) w', Hp w w' (Q ++ [q, q + 1, q + 2]) (A.re R) (n + 6) 4 (N + 600000) m' v' xs' → Off Q wr w' → (∀ a, m'.used.getD a false = true → a ∈ xs') → Did20 w wr Q A n N (.returned (.tuple #[vworld A v', .slice none 0 0, .bool true])) w') :=
    Lib.hid (fun m' v' xs' R w' h1 h2 h3 => ⟨m', v', xs', R, rfl, h1.less (fun k hk => List.mem_append_left _ hk), h2, h3⟩)
  generalize Did20 w wr Q A n N = Post at *
  obtain ⟨sa, sc, rfl, _⟩ := h.at_.own.cells
  have hb1 := below_alloc wr (.cells #[valloc A, vdev A.X.F, .slice sa xs.length sc] 28)
  have hb2 := below_alloc (wr.alloc (.cells #[valloc A, vdev A.X.F, .slice sa xs.length sc] 28)) (.cells #[.int .i64 ok, .int .i64 oi, .int .i64 op, .int .i64 ot] 75)
  have hb3 := below_alloc ((wr.alloc (.cells #[valloc A, vdev A.X.F, .slice sa xs.length sc] 28)).alloc (.cells #[.int .i64 ok, .int .i64 oi, .int .i64 op, .int .i64 ot] 75)) (.cells zeroW 28)
  have hm0 := (((⟨by simp, by simp, by simp, Nat.le_refl _⟩ : MemR wr.heap.size wr []).alloc #[valloc A, vdev A.X.F, .slice sa xs.length sc] 28).alloc #[.int .i64 ok, .int .i64 oi, .int .i64 op, .int .i64 ot] 75).alloc zeroW 28
  have hbb := hb1.trans ((hb2.trans (hb3.mono hb2.size)).mono hb1.size)
  have HH := Lib.hid (h.more (Q' := Q ++ [q, q + 1, q + 2]) (fun k hk => by
    rcases List.mem_append.1 hk with c | c
    · exact .inl c
    · refine .inr ?_
      simp only [List.mem_cons, List.not_mem_nil, or_false] at c
      simp only [World.alloc, Array.size_push]
      omega) hbb)
  have HMr : Hid (MemR wr.heap.size (((wr.alloc (.cells #[valloc A, vdev A.X.F, .slice sa xs.length sc] 28)).alloc (.cells #[.int .i64 ok, .int .i64 oi, .int .i64 op, .int .i64 ot] 75)).alloc (.cells zeroW 28)) [⟨q, 28, [valloc A, vdev A.X.F, .slice sa xs.length sc], true⟩, ⟨q + 1, 75, [.int .i64 ok, .int .i64 oi, .int .i64 op, .int .i64 ot], true⟩, ⟨q + 2, 28, zeroW.toList, true⟩]) := Lib.hid (by
    have e1 : wr.heap.size = q := hq.symm
    simp only [World.alloc, Array.size_push, e1, List.nil_append, List.cons_append, Nat.add_assoc] at hm0 ⊢
    exact hm0)
  have HOf : Hid (Off Q wr (((wr.alloc (.cells #[valloc A, vdev A.X.F, .slice sa xs.length sc] 28)).alloc (.cells #[.int .i64 ok, .int .i64 oi, .int .i64 op, .int .i64 ot] 75)).alloc (.cells zeroW 28))) := Lib.hid (Off.ofBelow hbb)
  have HQ1 : Hid (∀ k ∈ Q ++ [q, q + 1, q + 2], w.heap.size ≤ k) := Lib.hid (fun k hk => by
    have := h.below.size
    rcases List.mem_append.1 hk with c | c
    · exact hQ k c
    · simp only [List.mem_cons, List.not_mem_nil, or_false] at c
      omega)
  have HQ2 : Hid (∀ k ∈ Q, k ∉ [q + 2]) := Lib.hid (fun k hk hm => by
    have := h.qlt k hk
    simp at hm
    omega)
  have HFu := Lib.hid hf
  clear hb1 hb2 hb3 hbb hm0 h hQ hf
  obtain ⟨l, hl⟩ : ∃ l, l = xs.length := ⟨_, rfl⟩
  rw [← hl] at HH HMr HOf ⊢
  clear hl
  go_enter Tryz.func53, Tryz.ntmps53
  go_upto_region 1 with fail
  rw [show (#[.pointer none, .pointer none, .slice none 0 0] : Array Value) = zeroW from rfl, ← hq]
  generalize ((wr.alloc _).alloc _).alloc _ = w0 at *
  clear hq
  have d0 := HMr.out.cell 1 0 rfl rfl
  have d1 := HMr.out.cell 1 1 rfl rfl
  have d2 := HMr.out.cell 1 2 rfl rfl
  have d3 := HMr.out.cell 1 3 rfl rfl
  by_cases h0 : ok = 0
  · subst h0
    go_wp2_with (refine wpList_load_r aggW HMr.out 0 rfl rfl rfl rfl rfl ?_)
    refine (HH.out.make (by omega) (by omega) hn hN op ot).mono ?_
    rintro e w2 ⟨m', v', xs', R', rfl, hh, hk, hmd⟩
    have HFu2 : Hid (∀ a, m'.used.getD a false = true → a ∈ xs') := Lib.hid (by
      rcases hmd with ⟨a, hmd, rfl⟩ | ⟨rfl, rfl, _⟩
      · exact full_made HFu.out hmd HH.out.ok.ok.lenU
      · exact HFu.out)
    obtain ⟨sa', sc', rfl, _⟩ := hh.at_.own.cells
    have HMr2 := Lib.hid (((HMr.out.off hk (by simp)).alloc #[valloc A, vdev A.X.F, .slice sa' xs'.length sc'] 28))
    have HH2 := Lib.hid (hh.later (below_alloc w2 (.cells #[valloc A, vdev A.X.F, .slice sa' xs'.length sc'] 28)))
    have HOf2 := Lib.hid ((HOf.out.trans (hk.less (fun k hk => List.mem_append_left _ hk))).trans (Off.ofBelow (below_alloc w2 (.cells #[valloc A, vdev A.X.F, .slice sa' xs'.length sc'] 28))))
    obtain ⟨l', hl'⟩ : ∃ l', l' = xs'.length := ⟨_, rfl⟩
    rw [← hl'] at HH2 HMr2 HOf2 ⊢
    clear hh hk hmd d0 d1 d2 d3 hl' HH HMr HOf HFu
    go_upto_region 5 with fail
    generalize w2.alloc _ = w3 at *
    simp only [List.cons_append, List.nil_append] at HMr2
    go_wp2_with (first
      | (refine wpList_load_r aggW HMr2.out 3 rfl rfl rfl rfl rfl ?_)
      | (refine wpList_store_r aggW HMr2.out 2 rfl rfl rfl rfl rfl rfl rfl rfl ?_; intro w6 h6 ht6; have H6 := Lib.hid h6; have HT6 := Lib.hid ht6; clear h6 ht6))
    refine bodyPost_ret (results_cell_row3 (p := 8) (u := 9) (z := 10) rfl _ _ _ _ _ _ _ rfl (H6.out.exact 2 rfl) Tryz.underlying28 rfl (by kernel_rfl)) rfl ?_
    exact HP.out m' _ xs' R' w6 (HH2.out.own (HT6.out.wide (by simp)) HQ1.out) (HOf2.out.trans ⟨_, HT6.out, HQ2.out⟩) HFu2.out
  · have h0' : (ok == 0) = false := by simpa using h0
    by_cases h1 : ok = 1
    · subst h1
      go_wp2_with (refine wpList_load_r aggW HMr.out 0 rfl rfl rfl rfl rfl ?_)
      refine (HH.out.lead (by omega) hN oi op ot).mono ?_
      rintro e w2 ⟨R', rfl, hh, hk⟩
      have HFu2 : Hid (∀ a, (m.lead xs oi op ot).used.getD a false = true → a ∈ xs) := Lib.hid (by rw [lead_used]; exact HFu.out)
      have HMr2 := Lib.hid (HMr.out.off hk (by simp))
      have HH2 := Lib.hid (hh.mono (n' := n + 6) (N' := N + 600000) (by omega) (by omega))
      have HOf2 := Lib.hid (HOf.out.trans (hk.less (fun k hk => List.mem_append_left _ hk)))
      clear hh hk d0 d1 d2 d3 HH HMr HOf HFu
      go_wp2_with (first
        | (refine wpList_load_r aggW HMr2.out 0 rfl rfl rfl rfl rfl ?_)
        | (refine wpList_store_r aggW HMr2.out 2 rfl rfl rfl rfl rfl rfl rfl rfl ?_; intro w6 h6 ht6; have H6 := Lib.hid h6; have HT6 := Lib.hid ht6; clear h6 ht6))
      refine bodyPost_ret (results_cell_row3 (p := 8) (u := 9) (z := 10) rfl _ _ _ _ _ _ _ rfl (H6.out.exact 2 rfl) Tryz.underlying28 rfl (by kernel_rfl)) rfl ?_
      exact HP.out _ _ xs R' w6 (HH2.out.own (HT6.out.wide (by simp)) HQ1.out) (HOf2.out.trans ⟨_, HT6.out, HQ2.out⟩) HFu2.out
    · have h1' : (ok == 1) = false := by simpa using h1
      have h2' : (ok == 2) = false := by simp; omega
      have h3' : (ok == 3) = false := by simp; omega
      have h4' : (ok == 4) = false := by simp; omega
      have HH2 := Lib.hid (HH.out.mono (n' := n + 6) (N' := N + 600000) (by omega) (by omega))
      clear d1 d2 d3 HH
      go_wp2_with (first
        | (refine wpList_load_r aggW HMr.out 0 rfl rfl rfl rfl rfl ?_)
        | (refine wpList_store_r aggW HMr.out 2 rfl rfl rfl rfl rfl rfl rfl rfl ?_; intro w6 h6 ht6; have H6 := Lib.hid h6; have HT6 := Lib.hid ht6; clear h6 ht6))
      refine bodyPost_ret (results_cell_row3 (p := 8) (u := 9) (z := 10) rfl _ _ _ _ _ _ _ rfl (H6.out.exact 2 rfl) Tryz.underlying28 rfl (by kernel_rfl)) rfl ?_
      exact HP.out m _ xs A.R w6 (HH2.out.own (HT6.out.wide (by simp)) HQ1.out) (HOf.out.trans ⟨_, HT6.out, HQ2.out⟩) HFu.out
end Go.Proofs.YtfedgcdkagngnaaGreat
