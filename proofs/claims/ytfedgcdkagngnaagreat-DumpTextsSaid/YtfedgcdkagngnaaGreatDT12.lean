/- Parts of the proof, one behind the other: Gr, Gs, Gn, M, Gc, Gd, Zo, Wc, Wd, Ge. -/
import Derived.Test.YtfedgcdkagngnaaGreatDT11
import Derived.OrdersIn
import Derived.RangeFuncNested

/- The reference's block's line. -/
namespace Go.Proofs.YtfedgcdkagngnaaGreat
open Go.RowKit
set_option linter.unusedVariables false
open Go.Lib (itoa)

set_option maxHeartbeats 4000000 in
set_option maxRecDepth 20000 in
theorem rblock_any (b : Nat) (hb : b ≤ 100000) (h : Hd) (hl : h.low) (w : World) :
    Calls Tryz.prog 64 #[.int .i64 (b : Int), h.val] w (Gives (strV (itoa (b : Int) ++ [32] ++ blkT h)) w) := by
  have HP : Hid (∀ w' s, s = strV (itoa (b : Int) ++ [32] ++ blkT h) → Below w.heap.size w w' → Gives (strV (itoa (b : Int) ++ [32] ++ blkT h)) w (.returned s) w') := Lib.hid (fun w' s e h => by subst e; exact ⟨rfl, h⟩)
  have HN := Lib.hid (fun w => rnumber_any (b : Int) (by constructor <;> omega) w)
  have HLb : Hid ((itoa (b : Int)).length ≤ 20) := Lib.hid (itoa_len (by omega))
  generalize Gives (strV (itoa (b : Int) ++ [32] ++ blkT h)) w = Post at *
  obtain ⟨kk, cc, ll⟩ := h
  unfold Hd.low at hl
  dsimp only at hl
  unfold Hd.val
  dsimp only
  have HB0 := Lib.hid (below_alloc w (.cells #[.int .i64 kk, .int .i64 cc, .int .i64 ll] 109))
  have HMm := Lib.hid (Mem.one w #[.int .i64 kk, .int .i64 cc, .int .i64 ll] 109)
  go_enter Tryz.func64, Tryz.ntmps64
  go_upto_region 1 with fail
  generalize w.alloc _ = w0 at *
  obtain ⟨q, hq⟩ : ∃ q, q = w.heap.size := ⟨_, rfl⟩
  rw [← hq] at HMm ⊢
  have HQ := Lib.hid hq
  clear hq
  have d0 := HMm.out.cell 0 0 rfl rfl
  have d1 := HMm.out.cell 0 1 rfl rfl
  have d2 := HMm.out.cell 0 2 rfl rfl
  by_cases h1 : kk = 1
  · subst h1
    have hcw := clsWords_le cc
    have HN2 := Lib.hid (fun w => rnumber_any ((clsWords cc : Nat) : Int) (by constructor <;> omega) w)
    have HL2 : Hid ((itoa ((clsWords cc : Nat) : Int)).length ≤ 20) := Lib.hid (itoa_len (by omega))
    have HX : Hid (Value.string (bstr (itoa (b : Int)) ++ { data := #[32, 115, 109, 97, 108, 108, 32] } ++ bstr (itoa ((clsWords cc : Nat) : Int))) = strV (itoa (b : Int) ++ [32] ++ blkT ⟨1, cc, ll⟩)) := Lib.hid (by rw [show itoa (b : Int) ++ [32] ++ blkT ⟨1, cc, ll⟩ = itoa (b : Int) ++ [32, 115, 109, 97, 108, 108, 32] ++ itoa ((clsWords cc : Nat) : Int) by rw [show blkT ⟨1, cc, ll⟩ = [115, 109, 97, 108, 108, 32] ++ itoa ((clsWords cc : Nat) : Int) from rfl]; simp, show strV (itoa (b : Int) ++ [32, 115, 109, 97, 108, 108, 32] ++ itoa ((clsWords cc : Nat) : Int)) = Value.string (bstr (itoa (b : Int) ++ [32, 115, 109, 97, 108, 108, 32] ++ itoa ((clsWords cc : Nat) : Int))) from rfl, ← bstr_append, ← bstr_append]; rfl)
    have HCw := Lib.hid (fun w => rcwords_any cc w)
    generalize itoa ((clsWords cc : Nat) : Int) = T2 at *
    generalize clsWords cc = cw at *
    generalize itoa (b : Int) = T at *
    have hl1 : (bstr T).size ≤ 20 := by rw [bstr_size]; exact HLb.out
    have hl2 : (bstr T2).size ≤ 20 := by rw [bstr_size]; exact HL2.out
    have r1 := fun x => later_cell d1 x
    have r2 := fun x => later_cell d2 x
    go_upto_region 4 with fail
    refine wp_region_seg (C := fun w' => ∃ x : Later (w0), w' = x.val) [.fl [0, 3, 4], .sq [1] true, .fl [2], .sq [5] true, .sq [6] true, .sq [7, 8] false] (by kernel_rfl) (by kernel_rfl) (by intro c a d v w h; cases d <;> exact h) ?_
    simp only [segs, picks, List.getElem?_cons_succ, List.getElem?_cons_zero]
    have hC1 := later_drew (w0)
    refine wpSeg_fl hC1 ?_
    repeat (first | go_big_quiet_step (fail) | quiet_step (fail))
    refine wpQuiet_nil ?_
    have HB1 := Lib.hid (HB0.out.trans ((later_below hC1).mono HB0.out.size))
    clear r1 r2 d0 d1 d2 HB0
    generalize w0.drew = w1 at *
    refine wpSeg_sq (fun K hK => ?_)
    go_wp2_with fail
    refine (HN.out _).mono ?_
    rintro e w2 ⟨rfl, hb2⟩
    have HB2 := Lib.hid (HB1.out.trans (hb2.mono HB1.out.size))
    have hC2 := later_step hC1 hb2
    clear hb2
    go_wp2_with fail
    refine hK _ _ (fun _ => hC2) ?_
    clear hK K
    refine wpSeg_fl hC2 ?_
    repeat (first | go_big_quiet_step (fail) | quiet_step (fail))
    refine wpQuiet_nil ?_
    refine wpSeg_sq (fun K hK => ?_)
    go_wp2_with fail
    refine (HCw.out _).mono ?_
    rintro e w3 ⟨rfl, hb3⟩
    have HB3 := Lib.hid (HB2.out.trans (hb3.mono HB2.out.size))
    have hC3 := later_step hC2 hb3
    clear hb3
    go_wp2_with fail
    refine hK _ _ (fun _ => hC3) ?_
    clear hK K
    refine wpSeg_sq (fun K hK => ?_)
    go_wp2_with fail
    refine (HN2.out _).mono ?_
    rintro e w4 ⟨rfl, hb4⟩
    have HB4 := Lib.hid (HB3.out.trans (hb4.mono HB3.out.size))
    have hC4 := later_step hC3 hb4
    clear hb4
    go_wp2_with fail
    refine hK _ _ (fun _ => hC4) ?_
    clear hK K
    refine wpSeg_last ?_
    go_wp2_with fail
    exact HP.out _ _ HX.out HB4.out
  have h1' : (kk == 1) = false := by simpa using h1
  by_cases h2 : kk = 2
  · subst h2
    obtain ⟨lN, rfl⟩ := Int.eq_ofNat_of_zero_le hl.1
    have hll := hl.2
    have HN2 := Lib.hid (fun w => rnumber_any (lN : Int) (by constructor <;> omega) w)
    have HL2 : Hid ((itoa (lN : Int)).length ≤ 20) := Lib.hid (itoa_len (by omega))
    have HX : Hid (Value.string (bstr (itoa (b : Int)) ++ { data := #[32, 108, 97, 114, 103, 101, 32] } ++ bstr (itoa (lN : Int))) = strV (itoa (b : Int) ++ [32] ++ blkT ⟨2, cc, (lN : Int)⟩)) := Lib.hid (by rw [show itoa (b : Int) ++ [32] ++ blkT ⟨2, cc, (lN : Int)⟩ = itoa (b : Int) ++ [32, 108, 97, 114, 103, 101, 32] ++ itoa (lN : Int) by rw [show blkT ⟨2, cc, (lN : Int)⟩ = [108, 97, 114, 103, 101, 32] ++ itoa (lN : Int) from rfl]; simp, show strV (itoa (b : Int) ++ [32, 108, 97, 114, 103, 101, 32] ++ itoa (lN : Int)) = Value.string (bstr (itoa (b : Int) ++ [32, 108, 97, 114, 103, 101, 32] ++ itoa (lN : Int))) from rfl, ← bstr_append, ← bstr_append]; rfl)
    generalize itoa (lN : Int) = T2 at *
    generalize itoa (b : Int) = T at *
    have hl1 : (bstr T).size ≤ 20 := by rw [bstr_size]; exact HLb.out
    have hl2 : (bstr T2).size ≤ 20 := by rw [bstr_size]; exact HL2.out
    have r1 := fun x => later_cell d1 x
    have r2 := fun x => later_cell d2 x
    go_upto_region 6 with fail
    refine wp_region_seg (C := fun w' => ∃ x : Later (w0), w' = x.val) [.fl [0, 3, 4], .sq [1] true, .fl [2], .sq [5] true, .sq [6, 7] false] (by kernel_rfl) (by kernel_rfl) (by intro c a d v w h; cases d <;> exact h) ?_
    simp only [segs, picks, List.getElem?_cons_succ, List.getElem?_cons_zero]
    have hC1 := later_drew (w0)
    refine wpSeg_fl hC1 ?_
    repeat (first | go_big_quiet_step (fail) | quiet_step (fail))
    refine wpQuiet_nil ?_
    have HB1 := Lib.hid (HB0.out.trans ((later_below hC1).mono HB0.out.size))
    clear r1 r2 d0 d1 d2 HB0
    generalize w0.drew = w1 at *
    refine wpSeg_sq (fun K hK => ?_)
    go_wp2_with fail
    refine (HN.out _).mono ?_
    rintro e w2 ⟨rfl, hb2⟩
    have HB2 := Lib.hid (HB1.out.trans (hb2.mono HB1.out.size))
    have hC2 := later_step hC1 hb2
    clear hb2
    go_wp2_with fail
    refine hK _ _ (fun _ => hC2) ?_
    clear hK K
    refine wpSeg_fl hC2 ?_
    repeat (first | go_big_quiet_step (fail) | quiet_step (fail))
    refine wpQuiet_nil ?_
    refine wpSeg_sq (fun K hK => ?_)
    go_wp2_with fail
    refine (HN2.out _).mono ?_
    rintro e w4 ⟨rfl, hb4⟩
    have HB4 := Lib.hid (HB2.out.trans (hb4.mono HB2.out.size))
    have hC4 := later_step hC2 hb4
    clear hb4
    go_wp2_with fail
    refine hK _ _ (fun _ => hC4) ?_
    clear hK K
    refine wpSeg_last ?_
    go_wp2_with fail
    exact HP.out _ _ HX.out HB4.out
  have h2' : (kk == 2) = false := by simpa using h2
  by_cases h3 : kk = 3
  · subst h3
    obtain ⟨lN, rfl⟩ := Int.eq_ofNat_of_zero_le hl.1
    have hll := hl.2
    have HN2 := Lib.hid (fun w => rnumber_any (lN : Int) (by constructor <;> omega) w)
    have HL2 : Hid ((itoa (lN : Int)).length ≤ 20) := Lib.hid (itoa_len (by omega))
    have HX : Hid (Value.string (bstr (itoa (b : Int)) ++ { data := #[32, 99, 111, 110, 116, 32] } ++ bstr (itoa (lN : Int))) = strV (itoa (b : Int) ++ [32] ++ blkT ⟨3, cc, (lN : Int)⟩)) := Lib.hid (by rw [show itoa (b : Int) ++ [32] ++ blkT ⟨3, cc, (lN : Int)⟩ = itoa (b : Int) ++ [32, 99, 111, 110, 116, 32] ++ itoa (lN : Int) by rw [show blkT ⟨3, cc, (lN : Int)⟩ = [99, 111, 110, 116, 32] ++ itoa (lN : Int) from rfl]; simp, show strV (itoa (b : Int) ++ [32, 99, 111, 110, 116, 32] ++ itoa (lN : Int)) = Value.string (bstr (itoa (b : Int) ++ [32, 99, 111, 110, 116, 32] ++ itoa (lN : Int))) from rfl, ← bstr_append, ← bstr_append]; rfl)
    generalize itoa (lN : Int) = T2 at *
    generalize itoa (b : Int) = T at *
    have hl1 : (bstr T).size ≤ 20 := by rw [bstr_size]; exact HLb.out
    have hl2 : (bstr T2).size ≤ 20 := by rw [bstr_size]; exact HL2.out
    have r1 := fun x => later_cell d1 x
    have r2 := fun x => later_cell d2 x
    go_upto_region 8 with fail
    refine wp_region_seg (C := fun w' => ∃ x : Later (w0), w' = x.val) [.fl [0, 3, 4], .sq [1] true, .fl [2], .sq [5] true, .sq [6, 7] false] (by kernel_rfl) (by kernel_rfl) (by intro c a d v w h; cases d <;> exact h) ?_
    simp only [segs, picks, List.getElem?_cons_succ, List.getElem?_cons_zero]
    have hC1 := later_drew (w0)
    refine wpSeg_fl hC1 ?_
    repeat (first | go_big_quiet_step (fail) | quiet_step (fail))
    refine wpQuiet_nil ?_
    have HB1 := Lib.hid (HB0.out.trans ((later_below hC1).mono HB0.out.size))
    clear r1 r2 d0 d1 d2 HB0
    generalize w0.drew = w1 at *
    refine wpSeg_sq (fun K hK => ?_)
    go_wp2_with fail
    refine (HN.out _).mono ?_
    rintro e w2 ⟨rfl, hb2⟩
    have HB2 := Lib.hid (HB1.out.trans (hb2.mono HB1.out.size))
    have hC2 := later_step hC1 hb2
    clear hb2
    go_wp2_with fail
    refine hK _ _ (fun _ => hC2) ?_
    clear hK K
    refine wpSeg_fl hC2 ?_
    repeat (first | go_big_quiet_step (fail) | quiet_step (fail))
    refine wpQuiet_nil ?_
    refine wpSeg_sq (fun K hK => ?_)
    go_wp2_with fail
    refine (HN2.out _).mono ?_
    rintro e w4 ⟨rfl, hb4⟩
    have HB4 := Lib.hid (HB2.out.trans (hb4.mono HB2.out.size))
    have hC4 := later_step hC2 hb4
    clear hb4
    go_wp2_with fail
    refine hK _ _ (fun _ => hC4) ?_
    clear hK K
    refine wpSeg_last ?_
    go_wp2_with fail
    exact HP.out _ _ HX.out HB4.out
  · have h3' : (kk == 3) = false := by simpa using h3
    have HX : Hid (Value.string (bstr (itoa (b : Int)) ++ { data := #[32, 102, 114, 101, 101] }) = strV (itoa (b : Int) ++ [32] ++ blkT ⟨kk, cc, ll⟩)) := Lib.hid (by rw [show blkT ⟨kk, cc, ll⟩ = [102, 114, 101, 101] by unfold blkT; simp [h1, h2, h3], List.append_assoc, show strV (itoa (b : Int) ++ ([32] ++ [102, 114, 101, 101])) = Value.string (bstr (itoa (b : Int) ++ [32, 102, 114, 101, 101])) from rfl, ← bstr_append]; rfl)
    generalize itoa (b : Int) = T at *
    have hl1 : (bstr T).size ≤ 20 := by rw [bstr_size]; exact HLb.out
    clear d1 d2
    go_wp2_with fail
    refine (HN.out _).mono ?_
    rintro e w1 ⟨rfl, hb1⟩
    have HB1 := Lib.hid (HB0.out.trans (hb1.mono HB0.out.size))
    clear hb1
    go_wp2_with fail
    exact HP.out _ _ HX.out HB1.out
end Go.Proofs.YtfedgcdkagngnaaGreat

/- Regions that draw their order inside a round of a range over a function. -/
namespace Go.Proofs.YtfedgcdkagngnaaGreat
open Go.RowKit
set_option linter.unusedVariables false

def isDefer : Op → Bool
  | .defer _ => true
  | _ => false
section
variable {P : Program} {ops : Array Oper} {md : Region.Mode} {C : World → Prop} {Q : Exit → Act → World → Prop}

theorem wpOp_in {i l₀ n : Nat} {K : Act → World → Prop} {a : Act} {w : World} (hd : ∀ o, ops[i]? = some o → isDefer o.op = false) (hL : ¬ LetsOut Q) (h : wpOp P ops Q i K a w) : wpOpIn (Fence.wide.inRound l₀) n P ops Q i K a w := by
  unfold wpOp at h
  unfold wpOpIn
  cases ho : ops[i]? with
  | none => rw [ho] at h; exact h
  | some o =>
    rw [ho] at h
    have hdo : ∀ c, o.op ≠ .defer c := fun c e => by have := hd o ho; rw [e] at this; cases this
    simp only at h ⊢
    split at h
    · rename_i hw
      rw [if_pos hw]
      rcases h with h | h
      · refine ⟨fun f _ => trivial, ?_⟩
        rw [Oper.semAt_eq _ _ _ hdo]
        unfold Oper.wp at h
        generalize (execOp a.eval o).run P w = r at *
        cases r with
        | ok x w' =>
          cases x <;> simp only [Oper.upon, Oper.uponIn] at h ⊢
          case value => exact h
          case skip => exact h
          case defer => exact h
          case enter f args => exact ⟨fun hh => (by cases hh), callsIn_wide.2 h⟩
          case row r args => exact ⟨fun hh => (by cases hh), fun c cs _ => let ⟨v, w', r, s⟩ := h c cs; ⟨v, w', r, stepsIn_wide.2 s⟩⟩
        | halt x w' => cases x <;> simp only [Oper.upon, Oper.uponIn] at h ⊢; exact h
      · exact absurd h.2 hL
    · rename_i hw
      rw [if_neg hw]
      exact ⟨fun f _ => trivial, h⟩
theorem wpAny_in {l₀ n : Nat} (hd : ∀ (i : Nat) o, ops[i]? = some o → isDefer o.op = false) (hL : ¬ LetsOut Q) : ∀ (fuel : Nat) (listed : Array Bool) (a : Act) (w : World), wpAny P md ops Q fuel listed a w → wpAnyIn (Fence.wide.inRound l₀) n P md ops Q fuel listed a w
  | 0, _, _, _, h => h
  | fuel + 1, _, _, _, h => ⟨h.1, fun i hi => wpOp_in (hd i) hL (wpOp_mono (fun a' w' h' => wpAny_in hd hL fuel _ a' w' h') (h.2 i hi))⟩

/-- One walk serves every order, inside a round too. -/
theorem wpIn_region_seg {l₀ n id : Nat} {a : Act} {w : World} {l : List Oper} (is : List Seg) (hm : P.follows .mixedOrders = true) (hB : segB .any l.toArray is = true)
    (hQ : ∀ c a d v w, Q (.panic c) (a.put d v) w → Q (.panic c) a w) (hL : ¬ LetsOut Q) (hd : (l.all fun o => !isDefer o.op) = true)
    (h : wpSeg P l.toArray C Q (segs l is) a w.drew) : (Code.region id l.toArray true).wpIn (Fence.wide.inRound l₀) n P Q a w := by
  simp only [segB, Bool.and_eq_true, beq_iff_eq] at hB
  refine wpIn_region_any hm (wpAny_in (fun i o ho => ?_) hL _ _ _ _ (wpAny_of_F (C := C) (loose := looseOf .any l.toArray) _ _ _ _ ?_))
  · have hi : l[i]? = some o := by simpa using ho
    have := List.all_eq_true.1 hd o (List.mem_of_getElem? hi)
    simpa using this
  · have := seg_ok (md := .any) (C := C) hB.1.1 hQ is (Array.replicate l.toArray.size false) a w.drew (shut_none _) hB.2 h
    rw [hB.1.2] at this
    exact this
end
end Go.Proofs.YtfedgcdkagngnaaGreat

/- Regions that draw their order, as a tree in which up to three operations may come next. -/
namespace Go.Proofs.YtfedgcdkagngnaaGreat
open Go.RowKit
set_option linter.unusedVariables false

inductive T3 where
  | nil
  | fl (ks : List Nat) (t : T3)
  | pu (ks : List Nat) (t : T3)
  | sq (ks : List Nat) (lo : Bool) (t : T3)
  | br (k1 : Nat) (lo1 : Bool) (t1 : T3) (k2 : Nat) (lo2 : Bool) (t2 : T3)
  | br3 (k1 : Nat) (lo1 : Bool) (t1 : T3) (k2 : Nat) (lo2 : Bool) (t2 : T3) (k3 : Nat) (lo3 : Bool) (t3 : T3)
inductive T3O where
  | nil
  | fl (os : List Oper) (t : T3O)
  | pu (os : List Oper) (t : T3O)
  | sq (os : List Oper) (lo : Bool) (t : T3O)
  | br (os1 : List Oper) (lo1 : Bool) (t1 : T3O) (os2 : List Oper) (lo2 : Bool) (t2 : T3O)
  | br3 (os1 : List Oper) (lo1 : Bool) (t1 : T3O) (os2 : List Oper) (lo2 : Bool) (t2 : T3O) (os3 : List Oper) (lo3 : Bool) (t3 : T3O)

section
variable {P : Program} {ops : Array Oper} {md : Region.Mode} {C : World → Prop} {Q : Exit → Act → World → Prop}

def t3Len : T3 → Nat
  | .nil => 0
  | .fl ks t => t3Len t + ks.length
  | .pu ks t => t3Len t + ks.length
  | .sq ks _ t => t3Len t + ks.length
  | .br _ _ t1 _ _ _ => t3Len t1 + 1
  | .br3 _ _ t1 _ _ _ _ _ _ => t3Len t1 + 1
def t3L (md : Region.Mode) (ops : Array Oper) : T3 → Array Bool → Bool
  | .nil, listed => (Region.ready md ops listed).isEmpty
  | .fl ks t, listed => let x := flL md ops ks listed; x.1 && t3L md ops t x.2
  | .pu ks t, listed => let x := puL md ops ks listed; x.1 && t3L md ops t x.2
  | .sq ks lo t, listed => let x := sqL md ops lo ks listed; x.1 && t3L md ops t x.2
  | .br k1 lo1 t1 k2 lo2 t2, listed => Region.ready md ops listed == [k1, k2] && (!looseL md ops k1 || lo1) && (!looseL md ops k2 || lo2) && t3Len t1 == t3Len t2 && (ops[k1]?).isSome && (ops[k2]?).isSome &&
      t3L md ops t1 (listed.setIfInBounds k1 true) && t3L md ops t2 (listed.setIfInBounds k2 true)
  | .br3 k1 lo1 t1 k2 lo2 t2 k3 lo3 t3, listed => Region.ready md ops listed == [k1, k2, k3] && (!looseL md ops k1 || lo1) && (!looseL md ops k2 || lo2) && (!looseL md ops k3 || lo3) && t3Len t1 == t3Len t2 && t3Len t1 == t3Len t3 &&
      (ops[k1]?).isSome && (ops[k2]?).isSome && (ops[k3]?).isSome && t3L md ops t1 (listed.setIfInBounds k1 true) && t3L md ops t2 (listed.setIfInBounds k2 true) && t3L md ops t3 (listed.setIfInBounds k3 true)
def t3B (md : Region.Mode) (ops : Array Oper) (t : T3) : Bool := Region.noSelect ops && t3Len t == ops.size && t3L md ops t (Array.replicate ops.size false)

def t3O (l : List Oper) : T3 → T3O
  | .nil => .nil
  | .fl ks t => .fl (picks l ks) (t3O l t)
  | .pu ks t => .pu (picks l ks) (t3O l t)
  | .sq ks lo t => .sq (picks l ks) lo (t3O l t)
  | .br k1 lo1 t1 k2 lo2 t2 => .br (picks l [k1]) lo1 (t3O l t1) (picks l [k2]) lo2 (t3O l t2)
  | .br3 k1 lo1 t1 k2 lo2 t2 k3 lo3 t3 => .br3 (picks l [k1]) lo1 (t3O l t1) (picks l [k2]) lo2 (t3O l t2) (picks l [k3]) lo3 (t3O l t3)

/-- The walk. -/
def wpT3 (P : Program) (ops : Array Oper) (C : World → Prop) (Q : Exit → Act → World → Prop) : T3O → Act → World → Prop
  | .nil, a, w => Q .normal a w
  | .fl os t, a, w => C w ∧ wpQuiet P ops C (fun a' => wpT3 P ops C Q t a' w) os a
  | .pu os t, a, w => wpQuiet P ops (fun _ => True) (fun a' => wpT3 P ops C Q t a' w) os a
  | .sq os lo t, a, w => wpList P ops (Exit.then (fun a' w' => (lo = true → C w') ∧ wpT3 P ops C Q t a' w') Q) os a w
  | .br os1 lo1 t1 os2 lo2 t2, a, w => wpList P ops (Exit.then (fun a' w' => (lo1 = true → C w') ∧ wpT3 P ops C Q t1 a' w') Q) os1 a w ∧ wpList P ops (Exit.then (fun a' w' => (lo2 = true → C w') ∧ wpT3 P ops C Q t2 a' w') Q) os2 a w
  | .br3 os1 lo1 t1 os2 lo2 t2 os3 lo3 t3, a, w => wpList P ops (Exit.then (fun a' w' => (lo1 = true → C w') ∧ wpT3 P ops C Q t1 a' w') Q) os1 a w ∧ wpList P ops (Exit.then (fun a' w' => (lo2 = true → C w') ∧ wpT3 P ops C Q t2 a' w') Q) os2 a w ∧
      wpList P ops (Exit.then (fun a' w' => (lo3 = true → C w') ∧ wpT3 P ops C Q t3 a' w') Q) os3 a w

theorem t3_ok (hs : Region.noSelect ops = true) (hQ : ∀ c a d v w, Q (.panic c) (a.put d v) w → Q (.panic c) a w) : ∀ (t : T3) (listed : Array Bool) (a : Act) (w : World), Shut md ops listed →
    t3L md ops t listed = true → wpT3 P ops C Q (t3O ops.toList t) a w → wpAnyF P md ops Q C (looseL md ops) (t3Len t) listed a w := by
  intro t
  induction t with
  | nil =>
    intro listed a w _ hB h
    exact ⟨by simpa [t3L] using hB, by simpa [wpT3, t3O] using h⟩
  | fl ks t ih =>
    intro listed a w hsh hB h
    simp only [t3L, Bool.and_eq_true] at hB
    simp only [t3O, wpT3] at h
    exact flL_ok hs hQ h.1 ks listed a hsh hB.1 (fun a' hsh' hR => ih _ a' w hsh' hB.2 hR) h.2
  | pu ks t ih =>
    intro listed a w hsh hB h
    simp only [t3L, Bool.and_eq_true] at hB
    simp only [t3O, wpT3] at h
    exact puL_ok hs hQ ks listed a hsh hB.1 (fun a' hsh' hR => ih _ a' w hsh' hB.2 hR) h
  | sq ks lo t ih =>
    intro listed a w hsh hB h
    simp only [t3L, Bool.and_eq_true] at hB
    simp only [t3O, wpT3] at h
    exact sqL_ok ks listed a w hsh hB.1 (fun a' w' hsh' _ hR => ih _ a' w' hsh' hB.2 hR) h
  | br k1 lo1 t1 k2 lo2 t2 ih1 ih2 =>
    intro listed a w hsh hB h
    simp only [t3L, Bool.and_eq_true, beq_iff_eq] at hB
    obtain ⟨⟨⟨⟨⟨⟨⟨hr, hl1⟩, hl2⟩, hlen⟩, ho1⟩, ho2⟩, hB1⟩, hB2⟩ := hB
    obtain ⟨o1, ho1⟩ := Option.isSome_iff_exists.1 ho1
    obtain ⟨o2, ho2⟩ := Option.isSome_iff_exists.1 ho2
    simp only [t3O, wpT3] at h
    have e1 : picks ops.toList [k1] = [o1] := by simp [picks, ho1]
    have e2 : picks ops.toList [k2] = [o2] := by simp [picks, ho2]
    rw [e1, e2] at h
    refine ⟨fun h' => (by rw [hr] at h'; cases h'), fun i hi => ?_⟩
    have hri := hi
    rw [hr] at hi
    simp only [List.mem_cons, List.not_mem_nil, or_false] at hi
    rcases hi with rfl | rfl
    · exact oneL_ok ho1 (fun hl => by simpa [hl] using hl1) (fun a' w' _ hR => ih1 _ a' w' (hsh.set hri) hB1 hR) h.1
    · exact oneL_ok ho2 (fun hl => by simpa [hl] using hl2) (fun a' w' _ hR => by have := ih2 _ a' w' (hsh.set hri) hB2 hR; rw [← hlen] at this; exact this) h.2
  | br3 k1 lo1 t1 k2 lo2 t2 k3 lo3 t3 ih1 ih2 ih3 =>
    intro listed a w hsh hB h
    simp only [t3L, Bool.and_eq_true, beq_iff_eq] at hB
    obtain ⟨⟨⟨⟨⟨⟨⟨⟨⟨⟨⟨hr, hl1⟩, hl2⟩, hl3⟩, hlen⟩, hlen3⟩, ho1⟩, ho2⟩, ho3⟩, hB1⟩, hB2⟩, hB3⟩ := hB
    obtain ⟨o1, ho1⟩ := Option.isSome_iff_exists.1 ho1
    obtain ⟨o2, ho2⟩ := Option.isSome_iff_exists.1 ho2
    obtain ⟨o3, ho3⟩ := Option.isSome_iff_exists.1 ho3
    simp only [t3O, wpT3] at h
    have e1 : picks ops.toList [k1] = [o1] := by simp [picks, ho1]
    have e2 : picks ops.toList [k2] = [o2] := by simp [picks, ho2]
    have e3 : picks ops.toList [k3] = [o3] := by simp [picks, ho3]
    rw [e1, e2, e3] at h
    refine ⟨fun h' => (by rw [hr] at h'; cases h'), fun i hi => ?_⟩
    have hri := hi
    rw [hr] at hi
    simp only [List.mem_cons, List.not_mem_nil, or_false] at hi
    rcases hi with rfl | rfl | rfl
    · exact oneL_ok ho1 (fun hl => by simpa [hl] using hl1) (fun a' w' _ hR => ih1 _ a' w' (hsh.set hri) hB1 hR) h.1
    · exact oneL_ok ho2 (fun hl => by simpa [hl] using hl2) (fun a' w' _ hR => by have := ih2 _ a' w' (hsh.set hri) hB2 hR; rw [← hlen] at this; exact this) h.2.1
    · exact oneL_ok ho3 (fun hl => by simpa [hl] using hl3) (fun a' w' _ hR => by have := ih3 _ a' w' (hsh.set hri) hB3 hR; rw [← hlen3] at this; exact this) h.2.2

theorem wp_region_t3 {id : Nat} {a : Act} {w : World} {l : List Oper} (t : T3) (hm : P.follows .mixedOrders = true) (hB : t3B .any l.toArray t = true)
    (hQ : ∀ c a d v w, Q (.panic c) (a.put d v) w → Q (.panic c) a w)
    (h : wpT3 P l.toArray C Q (t3O l t) a w.drew) : (Code.region id l.toArray true).wp P Q a w := by
  simp only [t3B, Bool.and_eq_true, beq_iff_eq] at hB
  refine wp_region_any hm (wpAny_of_F (C := C) (loose := looseL .any l.toArray) _ _ _ _ ?_)
  have := t3_ok (md := .any) (C := C) hB.1.1 hQ t (Array.replicate l.toArray.size false) a w.drew (shut_none _) hB.2 h
  rw [hB.1.2] at this
  exact this

theorem wpT3_fl {os : List Oper} {t : T3O} {a : Act} {w : World} (hC : C w) (h : wpQuiet P ops C (fun a' => wpT3 P ops C Q t a' w) os a) : wpT3 P ops C Q (.fl os t) a w := ⟨hC, h⟩
theorem wpT3_sq {os : List Oper} {lo : Bool} {t : T3O} {a : Act} {w : World}
    (h : ∀ K : Act → World → Prop, (∀ a' w', (lo = true → C w') → wpT3 P ops C Q t a' w' → K a' w') → wpList P ops (Exit.then K Q) os a w) : wpT3 P ops C Q (.sq os lo t) a w :=
  h _ (fun _ _ h1 h2 => ⟨h1, h2⟩)
theorem wpT3_br {os1 os2 : List Oper} {lo1 lo2 : Bool} {t1 t2 : T3O} {a : Act} {w : World} (h1 : wpT3 P ops C Q (.sq os1 lo1 t1) a w) (h2 : wpT3 P ops C Q (.sq os2 lo2 t2) a w) : wpT3 P ops C Q (.br os1 lo1 t1 os2 lo2 t2) a w := ⟨h1, h2⟩
theorem wpT3_br3 {os1 os2 os3 : List Oper} {lo1 lo2 lo3 : Bool} {t1 t2 t3 : T3O} {a : Act} {w : World} (h1 : wpT3 P ops C Q (.sq os1 lo1 t1) a w) (h2 : wpT3 P ops C Q (.sq os2 lo2 t2) a w) (h3 : wpT3 P ops C Q (.sq os3 lo3 t3) a w) : wpT3 P ops C Q (.br3 os1 lo1 t1 os2 lo2 t2 os3 lo3 t3) a w := ⟨h1, h2, h3⟩
/-- The last segment. -/
theorem wpT3_last {os : List Oper} {a : Act} {w : World} (h : wpList P ops Q os a w) : wpT3 P ops C Q (.sq os false .nil) a w := by
  unfold wpT3
  have e : (fun a' w' => (false = true → C w') ∧ wpT3 P ops C Q .nil a' w') = Q .normal := by
    funext a' w'
    simp [wpT3]
  rw [e, exit_then_self]
  exact h
end

end Go.Proofs.YtfedgcdkagngnaaGreat

/- The references of layers 4, 6, 8: Need, Cells, Size, Class, Blocks. -/
namespace Go.Proofs.YtfedgcdkagngnaaGreat
open Go.RowKit
set_option linter.unusedVariables false

end Go.Proofs.YtfedgcdkagngnaaGreat

/- ref07.Whole; ref16.Placed. -/
namespace Go.Proofs.YtfedgcdkagngnaaGreat
open Go.RowKit
set_option linter.unusedVariables false

end Go.Proofs.YtfedgcdkagngnaaGreat

/- ref33: Sign, Map. -/
namespace Go.Proofs.YtfedgcdkagngnaaGreat
open Go.RowKit
set_option linter.unusedVariables false

end Go.Proofs.YtfedgcdkagngnaaGreat

/- law33: awake. -/
namespace Go.Proofs.YtfedgcdkagngnaaGreat
open Go.RowKit
set_option linter.unusedVariables false

theorem map_free (B : Nat) : ∀ i, mapTo (List.replicate B (⟨0, 0, 0⟩ : Hd)) B 0 i = List.replicate i 46
  | 0 => rfl
  | i + 1 => by
    unfold mapTo
    rw [map_free B i, free_small, if_neg (by unfold nlB; omega)]
    show _ ++ [(46 : UInt8)] = _
    rw [List.replicate_succ']
theorem map_three : mapTo (al0 3).bm.list 3 0 (3 - 1) = [46, 46] := by rw [al0_list (by omega) (by omega), map_free]; rfl

set_option maxHeartbeats 2000000 in
theorem awake33_any (w : World) : Calls Tryz.prog 14 #[] w (Gives (.bool true) w) := by
  have HP : Hid (∀ w', Below w.heap.size w w' → Gives (.bool true) w (.returned (.bool true)) w') := Lib.hid (fun w' h => ⟨rfl, h⟩)
  generalize Gives (.bool true) w = Post at *
  go_enter Tryz.func14, Tryz.ntmps14
  go_wp2_with fail
  refine (begun20_any 3 (by omega) (by omega) _).mono ?_
  rintro e w1 ⟨A, n, rfl, ha, hn, hA, hb⟩
  have hbx := below_alloc w1 (Obj.cells #[valloc A, vdev A.X.F, .slice none 0 0] 28)
  have HA := Lib.hid (ha.below hbx)
  have HB := Lib.hid (hb.trans (hbx.mono hb.size))
  have HF : Hid (∀ b : Nat, (hdGet (al0 3).bm.list (b : Int)).fine) := Lib.hid (fun b => by rw [al0_list (by omega) (by omega), free_small]; intro h; cases h)
  have c0 : (w1.alloc (Obj.cells #[valloc A, vdev A.X.F, .slice none 0 0] 28)).cell? ⟨w1.heap.size, 0, none⟩ = some (valloc A) := cell_alloc_new _ _ _ 0 _ rfl
  clear ha hA hb hbx
  go_upto_region 2 with fail
  generalize w1.alloc _ = w2 at *
  have HMp := Lib.hid (dmap_any HA.out (by omega) (by omega) 0 HF.out)
  rw [map_three] at HMp
  go_wp2_with fail
  refine HMp.out.mono ?_
  rintro e w3 ⟨rfl, hb3⟩
  have HB3 := Lib.hid (HB.out.trans (hb3.mono HB.out.size))
  have hcmp : ((bstr [46, 46]).toList == [46, 46]) = true := by rw [bstr_toList]; rfl
  clear hb3 c0
  go_wp2_with fail
  exact HP.out _ HB3.out

end Go.Proofs.YtfedgcdkagngnaaGreat

/- law22: made. -/
namespace Go.Proofs.YtfedgcdkagngnaaGreat
open Go.RowKit
set_option linter.unusedVariables false

/-- What is done: law20's Op. -/
structure Op20 where
  k : Int
  i : Int
  p : Int
  t : Int
def Op20.cs (o : Op20) : List Value := [.int .i64 o.k, .int .i64 o.i, .int .i64 o.p, .int .i64 o.t]
theorem Op20.len (o : Op20) : o.cs.length = 4 := rfl

theorem four20 (zs : List Int) (h : zs.length = 4) : (Op20.cs ⟨zs.getD 0 0, zs.getD 1 0, zs.getD 2 0, zs.getD 3 0⟩) = zs.map (Value.int .i64) := by
  match zs, h with
  | [a, b, c, d], _ => rfl

/-- A heap that a call has made. -/
def Made20 (w : World) (B : Nat) (full : Bool) : Ending → World → Prop := fun e w' => ∃ (A : AF) (n : Nat) (m : Al) (v : Value) (xs : List Nat),
  e = .returned (.tuple #[vworld A v, .bool true]) ∧ Hp w w' [] A n B 25000000 m v xs ∧ n ≤ 2000000 ∧ (full = true → ∀ a, m.used.getD a false = true → a ∈ xs)

theorem dev0_ok {B : Nat} (hB2 : 2 ≤ B) (hB : B ≤ 100) : (dev0 B).ok 201000 := (fmt_formed hB2 hB).ok

theorem Hp.begun {w0 w w1 : World} {A : AF} {n B : Nat} (hB2 : 2 ≤ B) (hB : B ≤ 100) (h : AlAt w1 A n B (al0 B)) (hA : ∀ k ∈ A.list, w0.heap.size ≤ k) (hb0 : Below w.heap.size w w0) (hb : Below w0.heap.size w0 w1) {Q : List Nat} (hQ : ∀ k ∈ Q, k < w0.heap.size) :
    Hp w w1 Q A n B 201000 (al0 B) (.slice none 0 0) [] :=
  ⟨⟨h, OwnI.nil _, fun b hb => (by cases hb)⟩, WOk.begun hB2 hB, dev0_ok hB2 hB, fun k hk => ⟨Nat.le_trans hb0.size (hA k hk), fun hq => (by have := hQ k hq; have := hA k hk; omega)⟩, fun b hb => (by cases hb), fun k hk => Nat.lt_of_lt_of_le (hQ k hk) hb.size, hb0.trans (hb.mono hb0.size)⟩
end Go.Proofs.YtfedgcdkagngnaaGreat

/- law32: Made. -/
namespace Go.Proofs.YtfedgcdkagngnaaGreat
open Go.RowKit
set_option linter.unusedVariables false

set_option maxHeartbeats 8000000 in
set_option maxRecDepth 100000 in
theorem made32_any (a : Option Addr) (mm cap : Nat) (s : List Op20) (hm : s.length = mm) (w : World) (hcs : Cells w a (recs Op20.cs s)) (hmm : mm ≤ maxLen) :
    Calls Tryz.prog 15 #[.slice a mm cap] w (Made20 w 6 false) := by
  unfold maxLen at hmm
  have HM := Lib.hid hm
  have HCS := Lib.hid hcs
  clear hm hcs
  have HP : Hid (∀ (A : AF) (n : Nat) (m : Al) (v : Value) (xs : List Nat) w', Hp w w' [] A n 6 25000000 m v xs → n ≤ 2000000 → Made20 w 6 false (.returned (.tuple #[vworld A v, .bool true])) w') := Lib.hid (fun A n m v xs w' h1 h2 => ⟨A, n, m, v, xs, rfl, h1, h2, fun h => by cases h⟩)
  generalize Made20 w 6 false = Post at *
  have HB0 := Lib.hid (below_alloc w (.cells zeroW 28))
  have HR0 : Hid (RowX (w.alloc (.cells zeroW 28)) ⟨w.heap.size, 28, zeroW.toList, true⟩) := Lib.hid ⟨_, heap_alloc_new _ _, [], by simp, by simp⟩
  obtain ⟨q, hq⟩ : ∃ q, q = w.heap.size := ⟨_, rfl⟩
  go_enter Tryz.func15, Tryz.ntmps15
  go_upto_region 1 with fail
  rw [show (#[.pointer none, .pointer none, .slice none 0 0] : Array Value) = zeroW from rfl]
  have HQ0 : Hid ((w.alloc (.cells zeroW 28)).heap.size = q + 1) := Lib.hid (by simp [hq])
  rw [← hq] at HR0 ⊢
  have HQ := Lib.hid hq
  generalize w.alloc _ = w0 at *
  clear hq
  go_wp2_with fail
  refine (begun20_any 6 (by omega) (by omega) _).mono ?_
  rintro e w1 ⟨A, n, rfl, ha, hn, hA, hb⟩
  have hh := Hp.begun (by omega) (by omega) ha hA HB0.out hb (Q := [q]) (by intro k hk; simp at hk; have := HQ0.out; omega)
  obtain ⟨p, hp⟩ : ∃ p, p = w1.heap.size := ⟨_, rfl⟩
  have HH : Hid (Hp w (w1.alloc (.cells #[valloc A, vdev A.X.F, .slice none 0 0] 28)) [q, p] A n 6 201000 (al0 6) (.slice none 0 0) []) := Lib.hid (hh.more (fun k hk => by
    simp only [List.mem_cons, List.not_mem_nil, or_false] at hk
    rcases hk with rfl | rfl
    · exact .inl (by simp)
    · exact .inr (by simp [hp])) (below_alloc _ _))
  have HR1 : Hid (MemR w.heap.size (w1.alloc (.cells #[valloc A, vdev A.X.F, .slice none 0 0] 28)) [⟨q, 28, zeroW.toList, true⟩, ⟨p, 28, [valloc A, vdev A.X.F, .slice none 0 0], true⟩]) := Lib.hid (by
    have h0 : MemR w.heap.size w1 [⟨q, 28, zeroW.toList, true⟩] := ⟨by
      intro x hx
      simp at hx; subst hx
      exact HR0.out.keep (hb.block q (by have := HQ0.out; omega)), by intro x hx; simp at hx; subst hx; have := HQ.out; exact Nat.le_of_eq this.symm, by simp, hh.below.size⟩
    have := h0.alloc #[valloc A, vdev A.X.F, .slice none 0 0] 28
    rw [← hp] at this
    exact this)
  have HN := Lib.hid hn
  clear ha hA hb hh hn HR0 HB0
  go_upto_region 2 with fail
  rw [← hp]
  generalize w1.alloc _ = w2 at *
  clear hp HQ0
  go_wp2_with fail
  go_loopw [5, 6] (fun f i wr => ∃ (k : Nat) (R : List Nat) (m : Al) (v : Value) (xs : List Nat), k ≤ mm ∧ k ≤ 40 ∧ f = .bool true ∧ i = .int .i64 (k : Int) ∧ Hid (Hp w wr [q, p] (A.re R) (n + 6 * k) 6 (201000 + 600000 * k) m v xs) ∧ Hid (MemR w.heap.size wr [⟨q, 28, zeroW.toList, true⟩, ⟨p, 28, [valloc A, vdev A.X.F, v], true⟩])) (fun _ i _ => 40 - (intOf i).toNat)
  case atStart => exact ⟨0, A.R, _, _, _, Nat.zero_le _, Nat.zero_le _, rfl, rfl, HH, HR1⟩
  case round =>
    clear HH HR1
    obtain ⟨k, R, m, v, xs, hkm, hk40, rfl, rfl, HH, HMr⟩ := hrel
    have HQb : Hid (∀ k ∈ [q, p], w.heap.size ≤ k) := Lib.hid (by
      intro k hk
      simp only [List.mem_cons, List.not_mem_nil, or_false] at hk
      rcases hk with rfl | rfl
      · exact HMr.out.gbase 0 rfl
      · exact HMr.out.gbase 1 rfl)
    by_cases hlt : k < mm ∧ k < 40
    · obtain ⟨h1, h2⟩ := hlt
      have h1' : (k : Int) < (mm : Int) := by omega
      have h2' : (k : Int) < 40 := by omega
      have hkl : k < s.length := by rw [HM.out]; exact h1
      obtain ⟨b1, o1, rfl, hbl, hcell⟩ := recs_cells Op20.len (by decide) (⟨0, 0, 0, 0⟩ : Op20) (HCS.out.below HH.out.below (Nat.le_refl _)) hkl
      generalize s.getD k ⟨0, 0, 0, 0⟩ = o at *
      obtain ⟨ok, oi, op, ot⟩ := o
      have e0 : wr.cell? ⟨b1, o1 + k * 4, none⟩ = some (.int .i64 ok) := hcell 0 _ rfl
      have e1 : wr.cell? ⟨b1, o1 + k * 4 + 1, none⟩ = some (.int .i64 oi) := hcell 1 _ rfl
      have e2 : wr.cell? ⟨b1, o1 + k * 4 + 2, none⟩ = some (.int .i64 op) := hcell 2 _ rfl
      have e3 : wr.cell? ⟨b1, o1 + k * 4 + 3, none⟩ = some (.int .i64 ot) := hcell 3 _ rfl
      have HHa := Lib.hid (HH.out.later (below_alloc wr (.cells #[.int .i64 ok, .int .i64 oi, .int .i64 op, .int .i64 ot] 75)))
      have HMra := Lib.hid (HMr.out.later (below_alloc wr (.cells #[.int .i64 ok, .int .i64 oi, .int .i64 op, .int .i64 ot] 75)))
      have HMa := Lib.hid (Mem.one wr #[.int .i64 ok, .int .i64 oi, .int .i64 op, .int .i64 ot] 75)
      clear hcell hkl
      go_upto_region 6 with fail
      generalize wr.alloc _ = wa at *
      have d0 := HMa.out.cell 0 0 rfl rfl
      have d1 := HMa.out.cell 0 1 rfl rfl
      have d2 := HMa.out.cell 0 2 rfl rfl
      have d3 := HMa.out.cell 0 3 rfl rfl
      have hN := HN.out
      by_cases h0 : ok = 0
      · subst h0
        go_wp2_with (refine wpList_load_r aggW HMra.out 1 rfl rfl rfl rfl rfl ?_)
        refine (HHa.out.make (by omega) (by omega) (by omega) (by omega) op ot).mono ?_
        rintro e w2' ⟨m', v', xs', R', rfl, hh, hk, hmd⟩
        have HH2 : Hid (Hp w w2' [q, p] (A.re R') (n + 6 * (k + 1)) 6 (201000 + 600000 * (k + 1)) m' v' xs') := Lib.hid (hh.mono (by omega) (by omega))
        have HMr2 := Lib.hid (HMra.out.off hk (by simp))
        obtain ⟨sa', sc', rfl, _⟩ := hh.at_.own.cells
        obtain ⟨l', hl'⟩ : ∃ l', l' = xs'.length := ⟨_, rfl⟩
        rw [← hl'] at HH2 ⊢
        clear hh hk hmd d0 d1 d2 d3 hl'
        go_wp2_with (refine wpList_store_r aggW HMr2.out 1 rfl rfl rfl rfl rfl rfl rfl rfl ?_; intro w6 h6 ht6; have H6 := Lib.hid h6; have HT6 := Lib.hid ht6; clear h6 ht6)
        have HH6 := Lib.hid (HH2.out.own (HT6.out.wide (by simp)) HQb.out)
        refine ⟨⟨k + 1, R', m', _, xs', by omega, by omega, rfl, vint (by omega), HH6, H6⟩, ?_⟩
        simp [intOf]; omega
      · have h0' : (ok == 0) = false := by simpa using h0
        by_cases h1k : ok = 1
        · subst h1k
          go_wp2_with (refine wpList_load_r aggW HMra.out 1 rfl rfl rfl rfl rfl ?_)
          refine (HHa.out.lead (by omega) (by omega) oi op ot).mono ?_
          rintro e w2' ⟨R', rfl, hh, hk⟩
          have HH2 : Hid (Hp w w2' [q, p] (A.re R') (n + 6 * (k + 1)) 6 (201000 + 600000 * (k + 1)) (m.lead xs oi op ot) v xs) := Lib.hid (hh.mono (by omega) (by omega))
          have HMr2 := Lib.hid (HMra.out.off hk (by simp))
          clear hh hk d0 d1 d2 d3
          go_wp2_with fail
          refine ⟨⟨k + 1, R', _, _, xs, by omega, by omega, rfl, vint (by omega), HH2, HMr2⟩, ?_⟩
          simp [intOf]; omega
        · have h1' : (ok == 1) = false := by simpa using h1k
          by_cases h2k : ok = 2
          · subst h2k
            obtain ⟨t1, ht1⟩ : ∃ t1, t1 = max ot 0 := ⟨_, rfl⟩
            obtain ⟨t2, ht2⟩ : ∃ t2, t2 = min t1 12 := ⟨_, rfl⟩
            have hsz : objSize 0 (t2 * 100) ≠ 0 ∧ objSize 0 (t2 * 100) ≤ 1201 := by unfold objSize; split <;> omega
            have ht3 : 0 ≤ t2 ∧ t2 ≤ 12 := by omega
            have HAl := Lib.hid (HHa.out.alloc (by omega) (by omega) (by omega) (by omega) 0 (t2 * 100) hsz.1 (by omega))
            have HT1 := Lib.hid ht1.symm
            have HT2 := Lib.hid ht2.symm
            have c0 := HMra.out.cell 1 0 rfl rfl
            clear hsz ht1 ht2
            go_wp2_with fail
            rw [HT1.out, HT2.out, Int.mul_comm]
            refine HAl.out.mono ?_
            rintro e w2' ⟨m', R', ra, re, rfl, hh, hk, _⟩
            have HH2 : Hid (Hp w w2' [q, p] (A.re R') (n + 6 * (k + 1)) 6 (201000 + 600000 * (k + 1)) m' v xs) := Lib.hid (hh.mono (by omega) (by omega))
            have HMr2 := Lib.hid (HMra.out.off hk (by simp))
            clear hh hk d0 d1 d2 d3 c0
            go_wp2_with fail
            refine ⟨⟨k + 1, R', _, _, xs, by omega, by omega, rfl, vint (by omega), HH2, HMr2⟩, ?_⟩
            simp [intOf]; omega
          · have h2' : (ok == 2) = false := by simpa using h2k
            go_wp2_with fail
            refine ⟨⟨k + 1, R, _, _, xs, by omega, by omega, rfl, vint (by omega), Lib.hid (HHa.out.mono (by omega) (by omega)), HMra⟩, ?_⟩
            simp [intOf]; omega
    · have hor : (k : Int) = (mm : Int) ∨ ((k : Int) < (mm : Int) ∧ (k : Int) = 40) := by omega
      obtain ⟨sa, sc, rfl, _⟩ := HH.out.at_.own.cells
      have hN := HN.out
      have HEnd : Hid (∀ w6, Touch [q] wr w6 → Post (.returned (.tuple #[vworld A (.slice sa xs.length sc), .bool true])) w6) := Lib.hid (fun w6 ht => HP.out (A.re R) _ m _ xs w6 (((HH.out.own (ht.wide (by simp)) HQb.out).less (by simp)).mono (Nat.le_refl (n + 6 * k)) (by omega)) (by omega))
      obtain ⟨l, hl⟩ : ∃ l, l = xs.length := ⟨_, rfl⟩
      rw [← hl] at HMr HEnd
      clear hlt hl
      rcases hor with h1 | ⟨h1, h2⟩
      · obtain rfl : k = mm := by omega
        have hlt' : decide ((k : Int) < (k : Int)) = false := by simp
        clear h1
        go_wp2_with (first
          | (refine wpList_load_r aggW HMr.out 1 rfl rfl rfl rfl rfl ?_)
          | (refine wpList_store_r aggW HMr.out 0 rfl rfl rfl rfl rfl rfl rfl rfl ?_; intro w6 h6 ht6; have H6 := Lib.hid h6; have HT6 := Lib.hid ht6; clear h6 ht6))
        refine bodyPost_ret (results_cell_row2 (p := 2) (u := 3) rfl _ _ _ _ _ _ _ rfl (H6.out.exact 0 rfl) Tryz.underlying28 rfl (by kernel_rfl)) rfl ?_
        exact HEnd.out _ HT6.out
      · obtain rfl : k = 40 := by omega
        clear h2
        go_wp2_with (first
          | (refine wpList_load_r aggW HMr.out 1 rfl rfl rfl rfl rfl ?_)
          | (refine wpList_store_r aggW HMr.out 0 rfl rfl rfl rfl rfl rfl rfl rfl ?_; intro w6 h6 ht6; have H6 := Lib.hid h6; have HT6 := Lib.hid ht6; clear h6 ht6))
        refine bodyPost_ret (results_cell_row2 (p := 2) (u := 3) rfl _ _ _ _ _ _ _ rfl (H6.out.exact 0 rfl) Tryz.underlying28 rfl (by kernel_rfl)) rfl ?_
        exact HEnd.out _ HT6.out

end Go.Proofs.YtfedgcdkagngnaaGreat

/- law33: DumpObjects. -/
namespace Go.Proofs.YtfedgcdkagngnaaGreat
open Go.RowKit
set_option linter.unusedVariables false

theorem Cells.owned3 {w : World} {base e size n n' cap : Nat} {a : Option Addr} {xs : List Value} (h : w.ownsRow base e size (.slice a n' cap) n xs) : Cells w a xs := by
  rcases h.2 with ⟨h0, h1⟩ | ⟨g, c, cur, hv, hb, hg, _, _, _, h4⟩
  · subst h1
    exact .inl (List.length_eq_zero_iff.1 (by rw [h.1, Nat.zero_mul]))
  · simp at hv
    obtain ⟨rfl, _⟩ := hv
    refine .inr ⟨g, 0, rfl, fun i v hi => ?_⟩
    have hr : RowAt w g e xs := ⟨cur, hg, cur.toList.drop (n * size), by rw [← h4, List.take_append_drop]⟩
    rw [Nat.zero_add]
    exact hr.cell hi
theorem owned_lt {w : World} {base e size n n' c : Nat} {a : Option Addr} {xs : List Value} (h : w.ownsRow base e size (.slice a n' c) n xs) (x : Addr) (hx : a = some x) : x.block < w.heap.size := by
  rcases h.2 with ⟨h0, _⟩ | ⟨g, cap, cur, hv, hb, hg, _⟩
  · simp at h0; rw [h0.1] at hx; cases hx
  · simp at hv; rw [hv.1] at hx; cases hx; exact (Array.getElem?_eq_some_iff.1 hg).1

end Go.Proofs.YtfedgcdkagngnaaGreat
