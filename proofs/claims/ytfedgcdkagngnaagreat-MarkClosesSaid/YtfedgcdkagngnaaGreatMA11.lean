/- Parts of the proof, one behind the other: Wk, Wc, Wl, Wp, Wq, Arr, Ri, Ws, Zd, Jx, Zi, Zj, Sb, Js, Zh, Zk, Ga, Gb. -/
import Derived.Test.YtfedgcdkagngnaaGreatMA10
import Derived.Deep.DeepCutAuto
import Derived.Deep.CutBlock
import Derived.OpenShut
import Derived.Lib.SmallJoins
import Derived.WalkKit
import Derived.Deep.Cut
import Derived.Shelf.Strings.Builder1
import Derived.Test.YtfedgcdkagngnaaGreatProg

/- mark: New, Clear, Blacken, Whiten, Greys, List. -/
namespace Go.Proofs.YtfedgcdkagngnaaGreat
open Go.RowKit
set_option linter.unusedVariables false

section
variable {w : World} {A : AF} {n B : Nat} {m : Al} {K : MkF} {M : Mk}
set_option maxHeartbeats 1000000 in
theorem mblacken_any (h : MA w A n B m K M) (a : Nat) : Calls Tryz.prog 42 #[vmark K, .int .i64 (a : Int)] w fun e w' => e = .returned (.tuple #[]) ∧ MAGo w w' A n B m K (M.blacken a) := by
  have HP : Hid (∀ w', MAGo w w' A n B m K (M.blacken a) → (fun e w' => e = Ending.returned (.tuple #[]) ∧ MAGo w w' A n B m K (M.blacken a)) (.returned (.tuple #[])) w') := Lib.hid (fun w' h => ⟨rfl, h⟩)
  generalize (fun e w' => e = Ending.returned (.tuple #[]) ∧ MAGo w w' A n B m K (M.blacken a)) = Post at *
  have HM := Lib.hid h
  have c1 := h.mr.c1
  have HKl := Lib.hid h.mr.mem
  clear h
  go_enter Tryz.func42, Tryz.ntmps42
  go_wp2_with fail
  refine (sadd_any HM.out.mr.sx (a : Int)).mono ?_
  rintro e w1 ⟨rfl, hs1, ht1⟩
  rw [addI_set] at hs1
  have hg1 : MAGo w w1 A n B m K { M with ms := M.ms.set a true } := HM.out.goX hs1 ht1 (by simp)
  obtain ⟨v1, hm1, ht1', hv1⟩ := hg1
  have HM1 := Lib.hid hm1
  have HT1 := Lib.hid ht1'
  have HV1 := Lib.hid hv1
  have c2 := hm1.mr.c2
  change w1.cell? ⟨K.p, 2, none⟩ = some (vset K.Y) at c2
  have HA2 := Lib.hid (sadd_any hm1.mr.sy (a : Int))
  change Hid (Calls Tryz.prog _ #[.pointer (some ⟨K.Y.u, 0, none⟩), .int .i64 (a : Int)] w1 _) at HA2
  rw [show ({ M with ms := M.ms.set a true } : Mk).sc = M.sc from rfl, addI_set] at HA2
  generalize freshI M.ms (a : Int) = f1 at *
  generalize freshI M.sc (a : Int) = f2 at *
  clear hs1 ht1 hm1 ht1' hv1 c1
  go_wp2_with fail
  refine HA2.out.mono ?_
  rintro e w2 ⟨rfl, hs2, ht2⟩
  have HG2 : Hid (MAGo w w2 A n B m K (M.blacken a)) := Lib.hid (MAGo.trans HKl.out HT1.out HV1.out (HM1.out.goY hs2 ht2 (by simp)))
  clear hs2 ht2
  go_wp2_with fail
  go_end0
  exact HP.out _ HG2.out

set_option maxHeartbeats 1000000 in
theorem mgreys_any (h : MkAt w A K M) : Calls Tryz.prog 41 #[vmark K] w fun e w' => e = .returned (.int .i64 ((M.ms.count true : Int) - (M.sc.count true : Int))) ∧ Below w.heap.size w w' := by
  have HP : Hid (∀ x w', x = (M.ms.count true : Int) - (M.sc.count true : Int) → Below w.heap.size w w' → (fun e w' => e = Ending.returned (.int .i64 ((M.ms.count true : Int) - (M.sc.count true : Int))) ∧ Below w.heap.size w w') (.returned (.int .i64 x)) w') := Lib.hid (fun x w' h1 h2 => by subst h1; exact ⟨rfl, h2⟩)
  generalize (fun e w' => e = Ending.returned (.int .i64 ((M.ms.count true : Int) - (M.sc.count true : Int))) ∧ Below w.heap.size w w') = Post at *
  have HM := Lib.hid h
  have c1 := h.c1
  have c2 := h.c2
  have r1 := fun x => later_cell c1 x
  have r2 := fun x => later_cell c2 x
  have hl1 : M.ms.count true ≤ 1000000 := Nat.le_trans (count_le_len _) h.sx.small
  have hl2 : M.sc.count true ≤ 1000000 := Nat.le_trans (count_le_len _) h.sy.small
  clear h c1 c2
  go_enter Tryz.func41, Tryz.ntmps41
  go_upto_region 1 with fail
  refine wp_region_seg (C := fun w' => ∃ x : Later (w), w' = x.val) [.fl [0, 1, 2, 3, 5, 6, 7, 8], .sq [4] true, .sq [9, 10, 11] false] (by kernel_rfl) (by kernel_rfl) (by intro c a d v w h; cases d <;> exact h) ?_
  simp only [segs, picks, List.getElem?_cons_succ, List.getElem?_cons_zero]
  have hC1 := later_drew (w)
  refine wpSeg_fl hC1 ?_
  repeat (first | go_big_quiet_step (fail) | quiet_step (fail))
  refine wpQuiet_nil ?_
  have HB1 := Lib.hid (later_below hC1)
  have HM1 := Lib.hid (HM.out.below HB1.out)
  generalize w.drew = w1 at *
  clear r1 r2
  have HX := Lib.hid (slen_any HM1.out.sx)
  have HY := Lib.hid (slen_any HM1.out.sy)
  generalize M.ms.count true = k1 at *
  generalize M.sc.count true = k2 at *
  refine wpSeg_sq (fun K hK => ?_)
  go_wp2_with fail
  refine HX.out.mono ?_
  rintro e w2 ⟨rfl, rfl⟩
  go_wp2_with fail
  refine hK _ _ (fun _ => hC1) ?_
  clear hK K
  refine wpSeg_last ?_
  go_wp2_with fail
  refine HY.out.mono ?_
  rintro e w2 ⟨rfl, rfl⟩
  go_wp2_with fail
  exact HP.out _ _ rfl HB1.out

set_option maxHeartbeats 1000000 in
theorem mlist_any (h : MkAt w A K M) : Calls Tryz.prog 45 #[vmark K] w (ListPost w (onesL M.ms)) := by
  have c1 := h.c1
  have HS := Lib.hid h.sx
  have HP : Hid (∀ e w', ListPost w (onesL M.ms) e w' → ListPost w (onesL M.ms) e w') := Lib.hid (fun _ _ h => h)
  generalize hP : ListPost w (onesL M.ms) = Post at *
  clear h
  go_enter Tryz.func45, Tryz.ntmps45
  go_wp2_with fail
  refine (slist_any HS.out).mono ?_
  rw [hP]
  rintro e w1 hp
  have HPp := Lib.hid hp
  rw [← hP] at hp
  obtain ⟨v, rfl, _⟩ := hp
  clear hP
  go_wp2_with fail
  exact HPp.out

set_option maxHeartbeats 2000000 in
set_option maxRecDepth 20000 in
theorem mclear_any (h : MA w A n B m K M) (hw : M.st.length ≤ 900000) : Calls Tryz.prog 48 #[vmark K] w fun e w' => e = .returned (.tuple #[]) ∧ MAGo w w' A n B m K M.clear := by
  have HP : Hid (∀ w', MAGo w w' A n B m K M.clear → (fun e w' => e = Ending.returned (.tuple #[]) ∧ MAGo w w' A n B m K M.clear) (.returned (.tuple #[])) w') := Lib.hid (fun w' h => ⟨rfl, h⟩)
  have HCl : Hid (M.clear = { M with ms := List.replicate M.ms.length false, sc := List.replicate M.sc.length false, st := [], miss := 0, again := false, cur := M.ms.length }) := Lib.hid rfl
  generalize (fun e w' => e = Ending.returned (.tuple #[]) ∧ MAGo w w' A n B m K M.clear) = Post at *
  have HM := Lib.hid h
  have c1 := h.mr.c1
  have HKl := Lib.hid h.mr.mem
  clear h
  go_enter Tryz.func48, Tryz.ntmps48
  go_wp2_with fail
  refine (sclear_any HM.out.mr.sx).mono ?_
  rintro e w1 ⟨rfl, hs1, ht1⟩
  have hg1 : MAGo w w1 A n B m K { M with ms := List.replicate M.ms.length false } := HM.out.goX hs1 ht1 (by simp)
  obtain ⟨v1, hm1, ht1', hv1⟩ := hg1
  have HM1 := Lib.hid hm1
  have HT1 := Lib.hid ht1'
  have HV1 := Lib.hid hv1
  have c2 := hm1.mr.c2
  change w1.cell? ⟨K.p, 2, none⟩ = some (vset K.Y) at c2
  have HA2 := Lib.hid (sclear_any hm1.mr.sy)
  change Hid (Calls Tryz.prog _ #[.pointer (some ⟨K.Y.u, 0, none⟩)] w1 _) at HA2
  rw [show ({ M with ms := List.replicate M.ms.length false } : Mk).sc = M.sc from rfl] at HA2
  clear hs1 ht1 hm1 ht1' hv1 c1
  go_wp2_with fail
  refine HA2.out.mono ?_
  rintro e w2 ⟨rfl, hs2, ht2⟩
  have hg2 : MAGo w w2 A n B m K { M with ms := List.replicate M.ms.length false, sc := List.replicate M.sc.length false } := MAGo.trans HKl.out HT1.out HV1.out (HM1.out.goY hs2 ht2 (by simp))
  obtain ⟨v2, hm2, ht2', hv2⟩ := hg2
  have HM2 := Lib.hid hm2
  have HT2 := Lib.hid ht2'
  have HV2 := Lib.hid hv2
  have c3 := hm2.mr.c3
  change w2.cell? ⟨K.p, 3, none⟩ = some (.pointer (some ⟨K.s, 0, none⟩)) at c3
  have HA3 := Lib.hid (stkclear_any hm2.mr.st (by rw [List.length_reverse]; exact Nat.le_trans hw (by omega)))
  change Hid (Calls Tryz.prog _ #[.pointer (some ⟨K.s, 0, none⟩)] w2 _) at HA3
  clear hs2 ht2 hm2 ht2' hv2 c2 HA2
  go_wp2_with fail
  refine HA3.out.mono ?_
  rintro e w3 ⟨rfl, hp3⟩
  have hg3 : MAGo w w3 A n B m K { M with ms := List.replicate M.ms.length false, sc := List.replicate M.sc.length false, st := [], miss := 0 } := MAGo.trans HKl.out HT2.out HV2.out (HM2.out.go (HM2.out.mr.setStk (l := []) (miss := 0) hp3) rfl rfl)
  obtain ⟨v3, hm3, ht3', hv3⟩ := hg3
  have HM3 := Lib.hid hm3
  have HT3 := Lib.hid ht3'
  have HV3 := Lib.hid hv3
  have d1 := hm3.mr.c1
  change w3.cell? ⟨K.p, 1, none⟩ = some (vset K.X) at d1
  have HLim := Lib.hid (slimit_any hm3.mr.sx)
  change Hid (Calls Tryz.prog _ #[.pointer (some ⟨K.X.u, 0, none⟩)] w3 _) at HLim
  rw [show ({ M with ms := List.replicate M.ms.length false, sc := List.replicate M.sc.length false, st := [], miss := 0 } : Mk).ms = List.replicate M.ms.length false from rfl, List.length_replicate] at HLim
  obtain ⟨hh1, hh2⟩ := hm3.mr.setHead 4 (.bool false) (M' := { M with ms := List.replicate M.ms.length false, sc := List.replicate M.sc.length false, st := [], miss := 0, again := false }) rfl rfl rfl rfl rfl rfl
  obtain ⟨hi1, hi2⟩ := hh1.setHead 5 (.int .i64 (M.ms.length : Int)) (M' := M.clear) rfl rfl rfl rfl rfl rfl
  have d4 := hm3.mr.c4
  have f4 := hm3.mr.row.frozen 4
  change w3.cell? ⟨K.p, 4, none⟩ = _ at d4
  change w3.frozen? ⟨K.p, 4, none⟩ = _ at f4
  have d5 := hh1.c5
  have f5 := hh1.row.frozen 5
  change (w3.setCell ⟨K.p, 4, none⟩ (.bool false)).cell? ⟨K.p, 5, none⟩ = _ at d5
  change (w3.setCell ⟨K.p, 4, none⟩ (.bool false)).frozen? ⟨K.p, 5, none⟩ = _ at f5
  have HG4 : Hid (MAGo w _ A n B m K M.clear) := Lib.hid (MAGo.trans HKl.out HT3.out HV3.out (HM3.out.go (.ofAt hi1 (hh2.trans hi2)) rfl rfl))
  clear hh1 hh2 hi1 hi2 hp3 hm3 ht3' hv3 c3 HA3
  go_wp2_with fail
  refine HLim.out.mono ?_
  rintro e w4 ⟨rfl, rfl⟩
  go_wp2_with fail
  go_end0
  exact HP.out _ HG4.out
end

/-- What mark.New leaves. -/
def MNewPost (w : World) (A : AF) (n B : Nat) (m : Al) (most : Nat) : Ending → World → Prop := fun e w' => ∃ K : MkF, e = .returned (vmark K) ∧ MA w' A n B m K (Mk.new m.used.length most) ∧ Below w.heap.size w w' ∧ ∀ k ∈ K.list, w.heap.size ≤ k

set_option maxHeartbeats 2000000 in
set_option maxRecDepth 20000 in
theorem mnew_any {w : World} {A : AF} {n B : Nat} {m : Al} (h : AlAt w A n B m) (h1 : 1 ≤ m.used.length) (most : Int) (hm : most ≤ 1000000) :
    Calls Tryz.prog 33 #[valloc A, .int .i64 most] w (MNewPost w A n B m most.toNat) := by
  have HP : Hid (∀ (K : MkF) w', MA w' A n B m K (Mk.new m.used.length most.toNat) → Below w.heap.size w w' → (∀ k ∈ K.list, w.heap.size ≤ k) → MNewPost w A n B m most.toNat (.returned (vmark K)) w') := Lib.hid (fun K w' a b c => ⟨K, rfl, a, b, c⟩)
  generalize MNewPost w A n B m most.toNat = Post at *
  have HA := Lib.hid h
  have hs := h.set.small
  obtain ⟨l, hl⟩ : ∃ l, l = m.used.length := ⟨_, rfl⟩
  have hcl : m.bm.dev.cache.length = l := by rw [hl]; exact h.lenU.symm
  have HLen := Lib.hid (dlen_any h.man.dev)
  rw [hcl] at HLen
  rw [← hl] at HP h1 hs
  have HL := Lib.hid hl
  clear h hl hcl
  go_enter Tryz.func33, Tryz.ntmps33
  go_wp2_with fail
  refine (adev_any HA.out).mono ?_
  rintro e w0 ⟨rfl, rfl⟩
  go_wp2_with fail
  refine HLen.out.mono ?_
  rintro e w0 ⟨rfl, rfl⟩
  go_wp2_with fail
  refine (snew_any l h1 hs _).mono ?_
  rintro e w1 ⟨X, rfl, hX, hb1, hlo1⟩
  have HX := Lib.hid hX
  have HB1 := Lib.hid hb1
  have HLo1 := Lib.hid hlo1
  clear hX hb1 hlo1
  go_wp2_with fail
  refine (snew_any l h1 hs _).mono ?_
  rintro e w2 ⟨Y, rfl, hY, hb2, hlo2⟩
  have HY := Lib.hid hY
  have HB2 := Lib.hid hb2
  have HLo2 := Lib.hid hlo2
  clear hY hb2 hlo2
  go_wp2_with fail
  refine (stknew_any most hm _).mono ?_
  rintro e w3 ⟨s, rfl, hS, hb3, hlo3⟩
  have HS := Lib.hid hS
  have HB3 := Lib.hid hb3
  have HLo3 := Lib.hid hlo3
  clear hS hb3 hlo3
  have HBl := Lib.hid (below_alloc w3 (.cells #[valloc A, vset X, vset Y, .pointer (some ⟨s, 0, none⟩), .bool false, .int .i64 (l : Int)] 167))
  have HNew := Lib.hid (heap_alloc_new w3 (.cells #[valloc A, vset X, vset Y, .pointer (some ⟨s, 0, none⟩), .bool false, .int .i64 (l : Int)] 167))
  go_wp2_with fail
  generalize w3.alloc _ = w4 at *
  have b1 := HB1.out.size
  have b2 := HB2.out.size
  have b3 := HB3.out.size
  have x1 := HX.out.mem
  have y1 := HY.out.mem
  have s1 := HS.out.mem s (by simp [stkL])
  have hX4 := ((HX.out.below HB2.out).below HB3.out).below HBl.out
  have hY4 := (HY.out.below HB3.out).below HBl.out
  have hS4 := HS.out.below HBl.out
  have hA4 := (((HA.out.below HB1.out).below HB2.out).below HB3.out).below HBl.out
  have xl := HLo1.out
  have yl := HLo2.out
  have xne : X.u ≠ X.b := by obtain ⟨_, h⟩ := HX.out; exact h.ne
  have yne : Y.u ≠ Y.b := by obtain ⟨_, h⟩ := HY.out; exact h.ne
  have hlo3 := HLo3.out
  simp only [SetF.list, List.mem_cons, List.not_mem_nil, or_false, forall_eq_or_imp, forall_eq] at x1 y1 xl yl
  have hnd : (MkF.mk w3.heap.size X Y s (.slice none 0 0)).fix.Nodup := by
    simp only [MkF.fix, SetF.list, List.cons_append, List.nil_append, List.nodup_cons, List.mem_cons, List.not_mem_nil, or_false, not_or, List.nodup_nil, and_true, not_false_eq_true]
    refine ⟨⟨?_, ?_, ?_, ?_, ?_⟩, ⟨?_, ?_, ?_, ?_⟩, ⟨?_, ?_, ?_⟩, ⟨?_, ?_⟩, ?_⟩ <;> omega
  have hKl : ∀ k ∈ (MkF.mk w3.heap.size X Y s (.slice none 0 0)).list, w.heap.size ≤ k := by
    intro k hk
    simp only [MkF.list, MkF.fix, SetF.list, rowOf, Option.toList_none, List.append_nil, List.cons_append, List.nil_append, List.mem_cons, List.not_mem_nil, or_false] at hk
    rcases hk with h | h | h | h | h | h <;> subst h <;> omega
  refine HP.out ⟨w3.heap.size, X, Y, s, .slice none 0 0⟩ w4 ⟨hA4, ⟨HNew.out, hX4, hY4, hS4, hnd, fun b hb => by cases hb⟩, fun k hk hm' => ?_, by rw [HL.out]; simp [Mk.new], by rw [HL.out]; simp [Mk.new]⟩ ((HB1.out.trans (HB2.out.mono b1)).trans ((HB3.out.mono (Nat.le_trans b1 b2)).trans (HBl.out.mono (Nat.le_trans (Nat.le_trans b1 b2) b3)))) hKl
  have := HA.out.mem k hk
  have := hKl k hm'
  omega

end Go.Proofs.YtfedgcdkagngnaaGreat

/- law22: made. -/
namespace Go.Proofs.YtfedgcdkagngnaaGreat
open Go.RowKit
set_option linter.unusedVariables false

/-- What is done: law20's Op. -/
structure Op20 where
  k : Int
  i : Int
  p : Int
  t : Int
def Op20.cs (o : Op20) : List Value := [.int .i64 o.k, .int .i64 o.i, .int .i64 o.p, .int .i64 o.t]
theorem Op20.len (o : Op20) : o.cs.length = 4 := rfl

theorem four20 (zs : List Int) (h : zs.length = 4) : (Op20.cs ⟨zs.getD 0 0, zs.getD 1 0, zs.getD 2 0, zs.getD 3 0⟩) = zs.map (Value.int .i64) := by
  match zs, h with
  | [a, b, c, d], _ => rfl

/-- A heap that a call has made, of all its objects. -/
def Made22 (w : World) (s : List Op20) : Ending → World → Prop := fun e w' => ∃ (A : AF) (n : Nat) (m : Al) (v : Value) (xs : List Nat),
  e = .returned (.tuple #[vworld A v, .bool true]) ∧ Hp w w' [] A n 4 25000000 m v xs ∧ n ≤ 2000000 ∧ (∀ a, m.used.getD a false = true → a ∈ xs) ∧ xs.length ≤ s.length ∧ (∀ o r, s = o :: r → o.k = 0 → xs ≠ [])
/-- How many objects so many ops made. -/
structure Count22 (s : List Op20) (m : Al) (xs : List Nat) (k : Nat) : Prop where
  le : xs.length ≤ k
  one : 1 ≤ k → (s.getD 0 ⟨0, 0, 0, 0⟩).k = 0 → xs ≠ []
  new : k = 0 → m = al0 4
theorem Count22.start (s : List Op20) : Count22 s (al0 4) [] 0 := ⟨Nat.le_refl _, fun h => by omega, fun _ => rfl⟩
theorem Count22.stay {s : List Op20} {m m' : Al} {xs : List Nat} {k : Nat} (h : Count22 s m xs k) (h0 : k = 0 → (s.getD 0 ⟨0, 0, 0, 0⟩).k ≠ 0) : Count22 s m' xs (k + 1) :=
  ⟨Nat.le_succ_of_le h.le, fun _ hk => (by
    by_cases c : k = 0
    · exact absurd hk (h0 c)
    · exact h.one (by omega) hk), fun e => by omega⟩
theorem Count22.made {s : List Op20} {m m' : Al} {xs : List Nat} {k a : Nat} (h : Count22 s m xs k) : Count22 s m' (xs ++ [a]) (k + 1) :=
  ⟨by have := h.le; simp; omega, fun _ _ => by simp, fun e => by omega⟩
theorem Count22.full {s : List Op20} {m : Al} {xs : List Nat} {k : Nat} (h : Count22 s m xs k) {p d : Int} (hn : NoRoom m (objSize (clampI p 8) (clampI d 12))) : Count22 s m xs (k + 1) :=
  ⟨Nat.le_succ_of_le h.le, fun _ hk => (by
    by_cases c : k = 0
    · rw [h.new c] at hn
      have := clamp_size p d
      exact absurd hn (roomy0 (by omega) (by omega) (show 1 ≤ _ ∧ _ ≤ 256 by omega))
    · exact h.one (by omega) hk), fun e => by omega⟩

theorem dev0_ok {B : Nat} (hB2 : 2 ≤ B) (hB : B ≤ 100) : (dev0 B).ok 201000 := (fmt_formed hB2 hB).ok

theorem Hp.begun {w0 w w1 : World} {A : AF} {n B : Nat} (hB2 : 2 ≤ B) (hB : B ≤ 100) (h : AlAt w1 A n B (al0 B)) (hA : ∀ k ∈ A.list, w0.heap.size ≤ k) (hb0 : Below w.heap.size w w0) (hb : Below w0.heap.size w0 w1) {Q : List Nat} (hQ : ∀ k ∈ Q, k < w0.heap.size) :
    Hp w w1 Q A n B 201000 (al0 B) (.slice none 0 0) [] :=
  ⟨⟨h, OwnI.nil _, fun b hb => (by cases hb)⟩, WOk.begun hB2 hB, dev0_ok hB2 hB, fun k hk => ⟨Nat.le_trans hb0.size (hA k hk), fun hq => (by have := hQ k hq; have := hA k hk; omega)⟩, fun b hb => (by cases hb), fun k hk => Nat.lt_of_lt_of_le (hQ k hk) hb.size, hb0.trans (hb.mono hb0.size)⟩
theorem full_begun (B : Nat) : ∀ a, (al0 B).used.getD a false = true → a ∈ ([] : List Nat) := fun a ha => by
  have : (al0 B).used = List.replicate (512 * B) false := rfl
  rw [this] at ha
  simp only [List.getD_eq_getElem?_getD, List.getElem?_replicate] at ha
  split at ha <;> cases ha
theorem full_made {B : Nat} {m m' : Al} {xs : List Nat} {a : Nat} {p d : Int} (h : ∀ a, m.used.getD a false = true → a ∈ xs) (hm : Made B m m' a p d) (hl : m.used.length = 512 * B) : ∀ x, m'.used.getD x false = true → x ∈ xs ++ [a] := fun x hx => by
  rw [hm.used] at hx
  by_cases e : x = a
  · subst e; simp
  · by_cases ha : a < m.used.length
    · rw [getD_set_bool _ _ _ _ ha, if_neg e] at hx
      exact List.mem_append_left _ (h x hx)
    · rw [List.set_eq_of_length_le (by omega)] at hx
      exact List.mem_append_left _ (h x hx)
theorem lead_used (m : Al) (xs : List Nat) (i p t : Int) : (m.lead xs i p t).used = m.used := by unfold Al.lead; split <;> rfl

set_option maxHeartbeats 8000000 in
set_option maxRecDepth 100000 in
theorem made22_any (a : Option Addr) (mm cap : Nat) (s : List Op20) (hm : s.length = mm) (w : World) (hcs : Cells w a (recs Op20.cs s)) (hmm : mm ≤ maxLen) :
    Calls Tryz.prog 32 #[.slice a mm cap] w (Made22 w s) := by
  unfold maxLen at hmm
  have HM := Lib.hid hm
  have HCS := Lib.hid hcs
  clear hm hcs
  have HP : Hid (∀ (A : AF) (n : Nat) (m : Al) (v : Value) (xs : List Nat) w', Hp w w' [] A n 4 25000000 m v xs → n ≤ 2000000 → (∀ a, m.used.getD a false = true → a ∈ xs) → xs.length ≤ mm → (1 ≤ mm → (s.getD 0 ⟨0, 0, 0, 0⟩).k = 0 → xs ≠ []) → Made22 w s (.returned (.tuple #[vworld A v, .bool true])) w') := Lib.hid (fun A n m v xs w' h1 h2 h3 h4 h5 => ⟨A, n, m, v, xs, rfl, h1, h2, h3, by rw [HM.out]; exact h4, fun o r hs hk => h5 (by rw [← HM.out, hs]; simp) (by rw [hs]; exact hk)⟩)
  generalize Made22 w s = Post at *
  have HB0 := Lib.hid (below_alloc w (.cells zeroW 28))
  have HR0 : Hid (RowX (w.alloc (.cells zeroW 28)) ⟨w.heap.size, 28, zeroW.toList, true⟩) := Lib.hid ⟨_, heap_alloc_new _ _, [], by simp, by simp⟩
  obtain ⟨q, hq⟩ : ∃ q, q = w.heap.size := ⟨_, rfl⟩
  go_enter Tryz.func32, Tryz.ntmps32
  go_upto_region 1 with fail
  rw [show (#[.pointer none, .pointer none, .slice none 0 0] : Array Value) = zeroW from rfl]
  have HQ0 : Hid ((w.alloc (.cells zeroW 28)).heap.size = q + 1) := Lib.hid (by simp [hq])
  rw [← hq] at HR0 ⊢
  have HQ := Lib.hid hq
  generalize w.alloc _ = w0 at *
  clear hq
  go_wp2_with fail
  refine (begun20_any 4 (by omega) (by omega) _).mono ?_
  rintro e w1 ⟨A, n, rfl, ha, hn, hA, hb⟩
  have hh := Hp.begun (by omega) (by omega) ha hA HB0.out hb (Q := [q]) (by intro k hk; simp at hk; have := HQ0.out; omega)
  obtain ⟨p, hp⟩ : ∃ p, p = w1.heap.size := ⟨_, rfl⟩
  have HH : Hid (Hp w (w1.alloc (.cells #[valloc A, vdev A.X.F, .slice none 0 0] 28)) [q, p] A n 4 201000 (al0 4) (.slice none 0 0) []) := Lib.hid (hh.more (fun k hk => by
    simp only [List.mem_cons, List.not_mem_nil, or_false] at hk
    rcases hk with rfl | rfl
    · exact .inl (by simp)
    · exact .inr (by simp [hp])) (below_alloc _ _))
  have HR1 : Hid (MemR w.heap.size (w1.alloc (.cells #[valloc A, vdev A.X.F, .slice none 0 0] 28)) [⟨q, 28, zeroW.toList, true⟩, ⟨p, 28, [valloc A, vdev A.X.F, .slice none 0 0], true⟩]) := Lib.hid (by
    have h0 : MemR w.heap.size w1 [⟨q, 28, zeroW.toList, true⟩] := ⟨by
      intro x hx
      simp at hx; subst hx
      exact HR0.out.keep (hb.block q (by have := HQ0.out; omega)), by intro x hx; simp at hx; subst hx; have := HQ.out; exact Nat.le_of_eq this.symm, by simp, hh.below.size⟩
    have := h0.alloc #[valloc A, vdev A.X.F, .slice none 0 0] 28
    rw [← hp] at this
    exact this)
  have HN := Lib.hid hn
  clear ha hA hb hh hn HR0 HB0
  go_upto_region 2 with fail
  rw [← hp]
  generalize w1.alloc _ = w2 at *
  clear hp HQ0
  go_wp2_with fail
  go_loopw [5, 6] (fun f i wr => ∃ (k : Nat) (R : List Nat) (m : Al) (v : Value) (xs : List Nat), k ≤ mm ∧ k ≤ 40 ∧ f = .bool true ∧ i = .int .i64 (k : Int) ∧ Hid (Hp w wr [q, p] (A.re R) (n + 6 * k) 4 (201000 + 600000 * k) m v xs) ∧ Hid (MemR w.heap.size wr [⟨q, 28, zeroW.toList, true⟩, ⟨p, 28, [valloc A, vdev A.X.F, v], true⟩]) ∧ Hid (∀ a, m.used.getD a false = true → a ∈ xs) ∧ Hid (Count22 s m xs k)) (fun _ i _ => 40 - (intOf i).toNat)
  case atStart => exact ⟨0, A.R, _, _, _, Nat.zero_le _, Nat.zero_le _, rfl, rfl, HH, HR1, Lib.hid (full_begun 4), Lib.hid (Count22.start s)⟩
  case round =>
    clear HH HR1
    obtain ⟨k, R, m, v, xs, hkm, hk40, rfl, rfl, HH, HMr, HFu, HCt⟩ := hrel
    have HQb : Hid (∀ k ∈ [q, p], w.heap.size ≤ k) := Lib.hid (by
      intro k hk
      simp only [List.mem_cons, List.not_mem_nil, or_false] at hk
      rcases hk with rfl | rfl
      · exact HMr.out.gbase 0 rfl
      · exact HMr.out.gbase 1 rfl)
    by_cases hlt : k < mm ∧ k < 40
    · obtain ⟨h1, h2⟩ := hlt
      have h1' : (k : Int) < (mm : Int) := by omega
      have h2' : (k : Int) < 40 := by omega
      have hkl : k < s.length := by rw [HM.out]; exact h1
      obtain ⟨b1, o1, rfl, hbl, hcell⟩ := recs_cells Op20.len (by decide) (⟨0, 0, 0, 0⟩ : Op20) (HCS.out.below HH.out.below (Nat.le_refl _)) hkl
      have HK0 : Hid (k = 0 → s.getD 0 ⟨0, 0, 0, 0⟩ = s.getD k ⟨0, 0, 0, 0⟩) := Lib.hid (fun e => by rw [e])
      generalize s.getD k ⟨0, 0, 0, 0⟩ = o at *
      obtain ⟨ok, oi, op, ot⟩ := o
      have e0 : wr.cell? ⟨b1, o1 + k * 4, none⟩ = some (.int .i64 ok) := hcell 0 _ rfl
      have e1 : wr.cell? ⟨b1, o1 + k * 4 + 1, none⟩ = some (.int .i64 oi) := hcell 1 _ rfl
      have e2 : wr.cell? ⟨b1, o1 + k * 4 + 2, none⟩ = some (.int .i64 op) := hcell 2 _ rfl
      have e3 : wr.cell? ⟨b1, o1 + k * 4 + 3, none⟩ = some (.int .i64 ot) := hcell 3 _ rfl
      have HHa := Lib.hid (HH.out.later (below_alloc wr (.cells #[.int .i64 ok, .int .i64 oi, .int .i64 op, .int .i64 ot] 75)))
      have HMra := Lib.hid (HMr.out.later (below_alloc wr (.cells #[.int .i64 ok, .int .i64 oi, .int .i64 op, .int .i64 ot] 75)))
      have HMa := Lib.hid (Mem.one wr #[.int .i64 ok, .int .i64 oi, .int .i64 op, .int .i64 ot] 75)
      clear hcell hkl
      go_upto_region 6 with fail
      generalize wr.alloc _ = wa at *
      have d0 := HMa.out.cell 0 0 rfl rfl
      have d1 := HMa.out.cell 0 1 rfl rfl
      have d2 := HMa.out.cell 0 2 rfl rfl
      have d3 := HMa.out.cell 0 3 rfl rfl
      have hN := HN.out
      by_cases h0 : ok = 0
      · subst h0
        go_wp2_with (refine wpList_load_r aggW HMra.out 1 rfl rfl rfl rfl rfl ?_)
        refine (HHa.out.make (by omega) (by omega) (by omega) (by omega) op ot).mono ?_
        rintro e w2' ⟨m', v', xs', R', rfl, hh, hk, hmd⟩
        have HH2 : Hid (Hp w w2' [q, p] (A.re R') (n + 6 * (k + 1)) 4 (201000 + 600000 * (k + 1)) m' v' xs') := Lib.hid (hh.mono (by omega) (by omega))
        have HMr2 := Lib.hid (HMra.out.off hk (by simp))
        have HFu2 : Hid (∀ a, m'.used.getD a false = true → a ∈ xs') := Lib.hid (by
          rcases hmd with ⟨a, hmd, rfl⟩ | ⟨rfl, rfl, _⟩
          · exact full_made HFu.out hmd HHa.out.ok.ok.lenU
          · exact HFu.out)
        have HCt2 : Hid (Count22 s m' xs' (k + 1)) := Lib.hid (by
          rcases hmd with ⟨a, hmd, rfl⟩ | ⟨rfl, rfl, _, hn⟩
          · exact HCt.out.made
          · exact HCt.out.full hn)
        obtain ⟨sa', sc', rfl, _⟩ := hh.at_.own.cells
        obtain ⟨l', hl'⟩ : ∃ l', l' = xs'.length := ⟨_, rfl⟩
        rw [← hl'] at HH2 ⊢
        clear hh hk hmd d0 d1 d2 d3 hl'
        go_wp2_with (refine wpList_store_r aggW HMr2.out 1 rfl rfl rfl rfl rfl rfl rfl rfl ?_; intro w6 h6 ht6; have H6 := Lib.hid h6; have HT6 := Lib.hid ht6; clear h6 ht6)
        have HH6 := Lib.hid (HH2.out.own (HT6.out.wide (by simp)) HQb.out)
        refine ⟨⟨k + 1, R', m', _, xs', by omega, by omega, rfl, vint (by omega), HH6, H6, HFu2, HCt2⟩, ?_⟩
        simp [intOf]; omega
      · have h0' : (ok == 0) = false := by simpa using h0
        by_cases h1k : ok = 1
        · subst h1k
          go_wp2_with (refine wpList_load_r aggW HMra.out 1 rfl rfl rfl rfl rfl ?_)
          refine (HHa.out.lead (by omega) (by omega) oi op ot).mono ?_
          rintro e w2' ⟨R', rfl, hh, hk⟩
          have HH2 : Hid (Hp w w2' [q, p] (A.re R') (n + 6 * (k + 1)) 4 (201000 + 600000 * (k + 1)) (m.lead xs oi op ot) v xs) := Lib.hid (hh.mono (by omega) (by omega))
          have HMr2 := Lib.hid (HMra.out.off hk (by simp))
          have HCtS : Hid (Count22 s (m.lead xs oi op ot) xs (k + 1)) := Lib.hid (HCt.out.stay (fun e => by rw [HK0.out e]; exact (by decide : (1 : Int) ≠ 0)))
          have HFu2 : Hid (∀ a, (m.lead xs oi op ot).used.getD a false = true → a ∈ xs) := Lib.hid (by rw [lead_used]; exact HFu.out)
          clear hh hk d0 d1 d2 d3
          go_wp2_with fail
          refine ⟨⟨k + 1, R', _, _, xs, by omega, by omega, rfl, vint (by omega), HH2, HMr2, HFu2, HCtS⟩, ?_⟩
          simp [intOf]; omega
        · have h1' : (ok == 1) = false := by simpa using h1k
          go_wp2_with fail
          refine ⟨⟨k + 1, R, _, _, xs, by omega, by omega, rfl, vint (by omega), Lib.hid (HHa.out.mono (by omega) (by omega)), HMra, HFu, Lib.hid (HCt.out.stay (fun e => by rw [HK0.out e]; exact h0))⟩, ?_⟩
          simp [intOf]; omega
    · have hor : (k : Int) = (mm : Int) ∨ ((k : Int) < (mm : Int) ∧ (k : Int) = 40) := by omega
      obtain ⟨sa, sc, rfl, _⟩ := HH.out.at_.own.cells
      have hN := HN.out
      have HEnd : Hid (∀ w6, Touch [q] wr w6 → Post (.returned (.tuple #[vworld A (.slice sa xs.length sc), .bool true])) w6) := Lib.hid (fun w6 ht => HP.out (A.re R) _ m _ xs w6 (((HH.out.own (ht.wide (by simp)) HQb.out).less (by simp)).mono (Nat.le_refl (n + 6 * k)) (by omega)) (by omega) HFu.out (Nat.le_trans HCt.out.le hkm) (fun h1 h2 => HCt.out.one (by rcases hor with h | h <;> omega) h2))
      obtain ⟨l, hl⟩ : ∃ l, l = xs.length := ⟨_, rfl⟩
      rw [← hl] at HMr HEnd
      clear hlt hl
      rcases hor with h1 | ⟨h1, h2⟩
      · obtain rfl : k = mm := by omega
        have hlt' : decide ((k : Int) < (k : Int)) = false := by simp
        clear h1
        go_wp2_with (first
          | (refine wpList_load_r aggW HMr.out 1 rfl rfl rfl rfl rfl ?_)
          | (refine wpList_store_r aggW HMr.out 0 rfl rfl rfl rfl rfl rfl rfl rfl ?_; intro w6 h6 ht6; have H6 := Lib.hid h6; have HT6 := Lib.hid ht6; clear h6 ht6))
        refine bodyPost_ret (results_cell_row2 (p := 2) (u := 3) rfl _ _ _ _ _ _ _ rfl (H6.out.exact 0 rfl) Tryz.underlying28 rfl (by kernel_rfl)) rfl ?_
        exact HEnd.out _ HT6.out
      · obtain rfl : k = 40 := by omega
        clear h2
        go_wp2_with (first
          | (refine wpList_load_r aggW HMr.out 1 rfl rfl rfl rfl rfl ?_)
          | (refine wpList_store_r aggW HMr.out 0 rfl rfl rfl rfl rfl rfl rfl rfl ?_; intro w6 h6 ht6; have H6 := Lib.hid h6; have HT6 := Lib.hid ht6; clear h6 ht6))
        refine bodyPost_ret (results_cell_row2 (p := 2) (u := 3) rfl _ _ _ _ _ _ _ rfl (H6.out.exact 0 rfl) Tryz.underlying28 rfl (by kernel_rfl)) rfl ?_
        exact HEnd.out _ HT6.out

end Go.Proofs.YtfedgcdkagngnaaGreat

/- law22: a heap and a marker over it, that a call has made; awake. -/
namespace Go.Proofs.YtfedgcdkagngnaaGreat
open Go.RowKit
set_option linter.unusedVariables false

/-- A heap and a marker, in memory; Q: other blocks of the call's own. -/
structure HMk (w wr : World) (Q : List Nat) (A : AF) (n N : Nat) (m : Al) (v : Value) (xs : List Nat) (K : MkF) (M : Mk) : Prop where
  hp : Hp w wr (Q ++ K.list) A n 4 N m v xs
  mr : MkAt wr A K M
  lo : ∀ k ∈ Q ++ K.list, w.heap.size ≤ k
  qk : ∀ k ∈ Q, k ∉ K.list
  lm : M.ms.length = m.used.length
  ls : M.sc.length = m.used.length
section
variable {w wr w' : World} {Q Q' : List Nat} {A : AF} {n N N' : Nat} {m m' : Al} {v : Value} {xs : List Nat} {K : MkF} {M M' : Mk}
theorem HMk.ma (h : HMk w wr Q A n N m v xs K M) : MA wr A n 4 m K M := ⟨h.hp.at_.al, h.mr, fun k hk hm => (h.hp.new k hk).2 (List.mem_append_right _ hm), h.lm, h.ls⟩
theorem HMk.later (h : HMk w wr Q A n N m v xs K M) (hb : Below wr.heap.size wr w') : HMk w w' Q A n N m v xs K M := ⟨h.hp.later hb, h.mr.below hb, h.lo, h.qk, h.lm, h.ls⟩
/-- What the marker's calls leave. -/
theorem HMk.go (h : HMk w wr Q A n N m v xs K M) (hg : MAGo wr w' A n 4 m K M') : ∃ v', HMk w w' Q A n N m v xs (K.re v') M' ∧ Off Q wr w' := by
  obtain ⟨v', h1, h2, h3⟩ := hg
  have hm' := h1.mr.mem
  have hp' := h.hp.own (h2.wide (fun b hb => List.mem_append_right _ hb)) h.lo
  have hsz := h.hp.below.size
  have key : ∀ k ∈ (K.re v').list, k ∈ K.list ∨ wr.heap.size ≤ k := fun k hk => by
    rcases MkF.list_re hk with c | c
    · exact .inl (by simp [MkF.list, c])
    · rcases h3 k c with c | c
      · exact .inl (by simp [MkF.list, c])
      · exact .inr c
  refine ⟨v', ⟨⟨hp'.at_, hp'.ok, hp'.steps, fun k hk => ⟨(hp'.new k hk).1, fun hq => ?_⟩, fun b hb => ⟨(hp'.newv b hb).1, fun hq => ?_⟩, fun k hk => ?_, hp'.below⟩, h1.mr, fun k hk => ?_, fun k hk hm => ?_, h1.lm, h1.ls⟩, ⟨K.list, h2, h.qk⟩⟩
  · rcases List.mem_append.1 hq with c | c
    · exact (h.hp.new k hk).2 (List.mem_append_left _ c)
    · exact h1.ap k hk c
  · rcases List.mem_append.1 hq with c | c
    · exact (h.hp.newv b hb).2 (List.mem_append_left _ c)
    · rcases key b c with c | c
      · exact (h.hp.newv b hb).2 (List.mem_append_right _ c)
      · have := h.hp.at_.own.lt b hb; omega
  · rcases List.mem_append.1 hk with c | c
    · exact hp'.qlt k (List.mem_append_left _ c)
    · exact hm' k c
  · rcases List.mem_append.1 hk with c | c
    · exact h.lo k (List.mem_append_left _ c)
    · rcases key k c with c | c
      · exact h.lo k (List.mem_append_right _ c)
      · omega
  · rcases key k hm with c | c
    · exact h.qk k hk c
    · have := h.hp.qlt k (List.mem_append_left _ hk); omega
/-- Steps in the caller's own blocks. -/
theorem HMk.own (h : HMk w wr Q A n N m v xs K M) (ht : Touch Q wr w') : HMk w w' Q A n N m v xs K M :=
  ⟨h.hp.own (ht.wide (fun b hb => List.mem_append_left _ hb)) h.lo, h.mr.keep (fun k hk => ht.block k (h.mr.mem k hk) (fun hq => h.qk k hq hk)), h.lo, h.qk, h.lm, h.ls⟩
/-- More blocks of the caller's. -/
theorem HMk.more (h : HMk w wr Q A n N m v xs K M) (hQ : ∀ k ∈ Q', k ∈ Q ∨ (wr.heap.size ≤ k ∧ k < w'.heap.size)) (hb : Below wr.heap.size wr w') : HMk w w' Q' A n N m v xs K M := by
  have hs := h.hp.below.size
  refine ⟨h.hp.more (fun k hk => ?_) hb, h.mr.below hb, fun k hk => ?_, fun k hk hm => ?_, h.lm, h.ls⟩
  · rcases List.mem_append.1 hk with c | c
    · exact (hQ k c).imp (fun c => List.mem_append_left _ c) id
    · exact .inl (List.mem_append_right _ c)
  · rcases List.mem_append.1 hk with c | c
    · rcases hQ k c with c | c
      · exact h.lo k (List.mem_append_left _ c)
      · omega
    · exact h.lo k (List.mem_append_right _ c)
  · rcases hQ k hk with c | c
    · exact h.qk k c hm
    · have := h.mr.mem k hm; omega
theorem HMk.less (h : HMk w wr Q A n N m v xs K M) (hQ : ∀ k ∈ Q', k ∈ Q) : HMk w wr Q' A n N m v xs K M := by
  refine ⟨h.hp.less (fun k hk => ?_), h.mr, fun k hk => ?_, fun k hk => h.qk k (hQ k hk), h.lm, h.ls⟩
  · rcases List.mem_append.1 hk with c | c
    · exact List.mem_append_left _ (hQ k c)
    · exact List.mem_append_right _ c
  · rcases List.mem_append.1 hk with c | c
    · exact h.lo k (List.mem_append_left _ (hQ k c))
    · exact h.lo k (List.mem_append_right _ c)
theorem HMk.new (h : Hp w wr Q A n 4 N m v xs) (hq : ∀ k ∈ Q, w.heap.size ≤ k) (hb : Below wr.heap.size wr w') (hm : MA w' A n 4 m K M) (hk : ∀ k ∈ K.list, wr.heap.size ≤ k) : HMk w w' Q A n N m v xs K M := by
  have hs := h.below.size
  refine ⟨h.more (fun k hk' => ?_) hb, hm.mr, fun k hk' => ?_, fun k hk' hm' => ?_, hm.lm, hm.ls⟩
  · rcases List.mem_append.1 hk' with c | c
    · exact .inl c
    · exact .inr ⟨hk k c, hm.mr.mem k c⟩
  · rcases List.mem_append.1 hk' with c | c
    · exact hq k c
    · exact Nat.le_trans hs (hk k c)
  · have := h.qlt k hk'
    have := hk k hm'
    omega
theorem HMk.below (h : HMk w wr Q A n N m v xs K M) : Below w.heap.size w wr := h.hp.below
theorem HMk.ulen (h : HMk w wr Q A n N m v xs K M) : m.used.length = 2048 := h.hp.ok.ok.lenU
theorem HMk.xlen (h : HMk w wr Q A n N m v xs K M) : xs.length ≤ 2048 := h.hp.ok.len
end

theorem Mk.shades_id {U : List Bool} {M : Mk} : ∀ {l : List Nat}, (∀ y ∈ l, M.fresh U y = false) → M.shades U l = M
  | [], _ => rfl
  | a :: l, h => by
    rw [Mk.shades_cons]
    have : M.shade U a = M := by unfold Mk.shade; rw [h a (by simp)]; rfl
    rw [this]
    exact Mk.shades_id (fun y hy => h y (by simp [hy]))
/-- One object: it is shaded, and black behind a step. -/
theorem awake_marks {U : List Bool} (P : Nat → List Nat) {a : Nat} (ha : U.getD a false = true) (hf : ∀ x, U.getD x false = true → x = a) :
    (Mk.new U.length 1).fresh U a = true ∧ (((Mk.new U.length 1).shade U a).step U P).1 = true ∧ ((((Mk.new U.length 1).shade U a).step U P).2.step U P).1 = false ∧ (((Mk.new U.length 1).shade U a).step U P).2.most = 1 := by
  have hfr : (Mk.new U.length 1).fresh U a = true := by unfold Mk.fresh; rw [ha, Mk.new_ms]; rfl
  have e1 : (Mk.new U.length 1).shade U a = { (Mk.new U.length 1).mark a with st := [a] } := by
    unfold Mk.shade
    rw [if_pos hfr]
    unfold Mk.push
    rw [if_pos (by show (0 : Nat) < 1; omega)]
    rfl
  have hok := (MkOk.new U 1).shade a
  have hms : ((Mk.new U.length 1).shade U a).ms.getD a false = true := by rw [(MkOk.new U 1).shade_mk, ha]; simp
  have hsc : ((Mk.new U.length 1).shade U a).sc.getD a false = false := by rw [Mk.shade_sc, Mk.new_sc]
  have hag : ((Mk.new U.length 1).shade U a).again = false := by rw [e1]; rfl
  have hst : ((Mk.new U.length 1).shade U a).st = [a] := by rw [e1]
  have hmo : ((Mk.new U.length 1).shade U a).most = 1 := by rw [e1]; rfl
  generalize (Mk.new U.length 1).shade U a = M at *
  have hc1 : M.colour a = 1 := (M.colour_grey a).2 ⟨hms, hsc⟩
  have hstep : M.step U P = (true, ({ M with st := [] } : Mk).scan U P a) := by
    unfold Mk.step
    have : M.top M.st = some (a, []) := by rw [hst]; unfold Mk.top; rw [if_pos hc1]
    rw [this]
  have hcov : M.Cover := fun x hx => by
    have h1 := hf x (hok.mu x ((M.colour_grey x).1 hx).1)
    subst h1
    exact .inl (by rw [hst]; simp)
  have hs := Mk.stepped (P := P) hok hcov
  rw [hstep] at hs
  rw [hstep]
  refine ⟨hfr, rfl, ?_, hs.most.trans hmo⟩
  have hok2 := Stepped.ok hok hs
  have hcov2 := Stepped.cover hok hs
  dsimp only at hok2 hcov2 hs ⊢
  have e2 : ({ M with st := [] } : Mk).scan U P a = { M with st := [], sc := M.sc.set a true } := by
    unfold Mk.scan
    refine Mk.shades_id (fun y hy => ?_)
    unfold Mk.fresh
    cases hu : U.getD y false with
    | false => rfl
    | true =>
      have := hf y hu
      subst this
      show (true && !(M.ms.getD y false)) = false
      rw [hms]; rfl
  refine Mk.step_end hok2 hcov2 (fun x hx => ?_) (by rw [e2]; exact hag)
  have hx1 := (Mk.colour_grey _ x).1 hx
  have h1 := hf x (hok2.mu x hx1.1)
  subst h1
  have h2 := hx1.2
  rw [e2] at h2
  dsimp only at h2
  rw [getD_set_bool _ _ _ _ (by rw [hok.ls]; exact getD_true_lt ha), if_pos rfl] at h2
  cases h2

set_option maxHeartbeats 4000000 in
set_option maxRecDepth 100000 in
theorem awake22_any (w : World) : Calls Tryz.prog 31 #[] w (Gives (.bool true) w) := by
  have HP : Hid (∀ w', Below w.heap.size w w' → Gives (.bool true) w (.returned (.bool true)) w') := Lib.hid (fun w' h => ⟨rfl, h⟩)
  generalize Gives (.bool true) w = Post at *
  have HB0 := Lib.hid (below_alloc w (.cells #[.int .i64 0, .int .i64 0, .int .i64 0, .int .i64 0] 75))
  have HC0 : Hid (Cells (w.alloc (.cells #[.int .i64 0, .int .i64 0, .int .i64 0, .int .i64 0] 75)) (some ⟨w.heap.size, 0, none⟩) (recs Op20.cs [⟨0, 0, 0, 0⟩])) :=
    Lib.hid (show RowAt (w.alloc (.cells #[.int .i64 0, .int .i64 0, .int .i64 0, .int .i64 0] 75)) w.heap.size 75 [.int .i64 0, .int .i64 0, .int .i64 0, .int .i64 0] from ⟨_, heap_alloc_new _ _, [], rfl⟩).cells
  go_enter Tryz.func31, Tryz.ntmps31
  go_wp2_with fail
  refine (made22_any _ 1 1 [⟨0, 0, 0, 0⟩] rfl _ HC0.out (by unfold maxLen; omega)).mono ?_
  rintro e w1 ⟨A, n, m, v, xs, rfl, hh, hn, hf, hl, h1⟩
  have hx1 : ∃ a, xs = [a] := by
    have h2 := h1 _ _ rfl rfl
    match xs, hl, h2 with
    | [a], _, _ => exact ⟨a, rfl⟩
    | _ :: _ :: _, h, _ => simp at h
  obtain ⟨a, rfl⟩ := hx1
  obtain ⟨sa, sc, rfl, hcs, _⟩ := hh.at_.own.cells
  have ha := hh.ok.us a (by simp)
  have HMar := Lib.hid (awake_marks (ptrsO m) ha (fun x hx => by simpa using hf x hx))
  have hb := below_alloc w1 (Obj.cells #[valloc A, vdev A.X.F, .slice sa [a].length sc] 28)
  have HAl := Lib.hid (hh.at_.al.below hb)
  have HBw := Lib.hid (HB0.out.trans (hh.below.mono HB0.out.size))
  have hul := hh.ok.ok.lenU
  have HCx : Hid (Cells w1 sa ([a].map vi)) := Lib.hid hcs
  have HMb := Lib.hid (Mem.one w1 #[valloc A, vdev A.X.F, .slice sa [a].length sc] 28)
  have HUl : Hid (m.used.length = 2048) := Lib.hid hul
  clear hh hn hf hl h1 hcs ha hb hul HC0 HB0
  simp only [List.length_singleton] at HMb HAl ⊢
  go_upto_region 2 with fail
  generalize hg : w1.alloc _ = w2 at *
  have HBx := Lib.hid (show Below w1.heap.size w1 w2 by rw [← hg]; exact below_alloc _ _)
  obtain ⟨q, hq⟩ : ∃ q, q = w1.heap.size := ⟨_, rfl⟩
  rw [← hq] at HMb ⊢
  clear hg hq
  have c0 := HMb.out.cell 0 0 rfl rfl
  have c2 := HMb.out.cell 0 2 rfl rfl
  have HCx2 := Lib.hid (HCx.out.below HBx.out (Nat.le_refl _))
  go_wp2_with fail
  refine (mnew_any HAl.out (by rw [HUl.out]; omega) 1 (by omega)).mono ?_
  rintro e w3 ⟨K, rfl, hm3, hb3, hk3⟩
  have HM3 := Lib.hid hm3
  have HMb3 := Lib.hid (HMb.out.later hb3)
  have HKlo := Lib.hid hk3
  have HW3 := Lib.hid hb3
  obtain ⟨b, o, rfl, _, hcx⟩ := (HCx2.out.below hb3 (Nat.le_refl _)).at (i := 0) (by simp)
  have cx : w3.cell? ⟨b, o, none⟩ = some (.int .i64 (a : Int)) := hcx 0 _ rfl
  have d2 := HMb3.out.cell 0 2 rfl rfl
  have HSh := Lib.hid (mshade_any hm3 ⟨Nat.zero_le _, Nat.zero_le _⟩ a)
  rw [show Int.toNat 1 = 1 from rfl] at *
  clear hm3 hb3 hk3 hcx c0 c2
  go_wp2_with fail
  refine HSh.out.mono ?_
  rintro e w4 ⟨rfl, hg4⟩
  rw [HMar.out.1]
  obtain ⟨v4, hm4, ht4, hv4⟩ := hg4
  have HM4 := Lib.hid hm4
  have HT4 := Lib.hid ht4
  have HV4 := Lib.hid hv4
  have HSm : Hid (((Mk.new m.used.length 1).shade m.used a).miss ≤ 1 ∧ ((Mk.new m.used.length 1).shade m.used a).st.length ≤ 1) := Lib.hid (Mk.shade_small (c := 0) (d := 0) ⟨Nat.le_refl _, Nat.le_refl _⟩ a)
  have HFt : Hid (((Mk.new m.used.length 1).shade m.used a).Fits 1) := Lib.hid ((Mk.Fits.new _ _).shade a)
  have HMost : Hid (((Mk.new m.used.length 1).shade m.used a).most = 1) := Lib.hid (Mk.shade_most _ _ _)
  generalize (Mk.new m.used.length 1).shade m.used a = M4 at *
  have HSt := Lib.hid (mstep_any hm4 ⟨Nat.le_trans HSm.out.1 (by omega), Nat.le_trans HSm.out.2 (by omega)⟩)
  change Hid (Calls Tryz.prog 36 #[.pointer (some ⟨K.p, 0, none⟩)] w4 _) at HSt
  have HPl : Hid (∀ x, (ptrsO m x).length ≤ 64) := Lib.hid (fun x => ptrsD_len HAl.out.man.dev.small _)
  clear hm4 ht4 hv4 HSh
  go_wp2_with fail
  refine HSt.out.mono ?_
  rintro e w5 ⟨rfl, hg5⟩
  rw [HMar.out.2.1]
  obtain ⟨v5, hm5, ht5, hv5⟩ := hg5
  have hfit := HFt.out.step (U := m.used) (P := ptrsO m) HPl.out
  have hmost := HMar.out.2.2.2
  have HM5 := Lib.hid hm5
  have HT5 := Lib.hid ht5
  have HV5 := Lib.hid hv5
  have HSt2 := Lib.hid (mstep_any hm5 ⟨Nat.le_trans hfit.miss (by omega), Nat.le_trans hfit.st (by rw [hmost]; omega)⟩)
  change Hid (Calls Tryz.prog 36 #[.pointer (some ⟨K.p, 0, none⟩)] w5 _) at HSt2
  clear hm5 ht5 hv5 HSt hfit hmost
  go_wp2_with fail
  refine HSt2.out.mono ?_
  rintro e w6 ⟨rfl, hg6⟩
  rw [HMar.out.2.2.1]
  obtain ⟨v6, hm6, ht6, hv6⟩ := hg6
  have HT6 := Lib.hid ht6
  clear hm6 ht6 hv6
  go_wp2_with fail
  refine HP.out _ ?_
  have hlo : ∀ k ∈ K.list, w.heap.size ≤ k := fun k hk => Nat.le_trans (Nat.le_trans HBw.out.size HBx.out.size) (HKlo.out k hk)
  have hb2 : Below w.heap.size w w2 := HBw.out.trans (HBx.out.mono HBw.out.size)
  have hb3 : Below w.heap.size w w3 := hb2.trans (HW3.out.mono hb2.size)
  have hK3 := HM3.out.mr.mem
  have hl4 : ∀ k ∈ (K.re v4).list, w.heap.size ≤ k := fun k hk => by
    rcases MkF.list_re hk with c | c
    · exact hlo k (by simp [MkF.list, c])
    · rcases HV4.out k c with c | c
      · exact hlo k (by simp [MkF.list, c])
      · exact Nat.le_trans hb3.size c
  have hl5 : ∀ k ∈ (K.re v5).list, w.heap.size ≤ k := fun k hk => by
    rcases MkF.list_re hk with c | c
    · exact hlo k (by simp [MkF.list, c])
    · rcases HV5.out k c with c | c
      · exact hl4 k (by simp only [MkF.list, MkF.re, List.mem_append, Option.mem_toList]; exact .inr c)
      · exact Nat.le_trans hb3.size (Nat.le_trans HT4.out.size c)
  have q4 := below_touched hb3 HT4.out hlo (Nat.le_refl _)
  have q5 := below_touched q4 HT5.out hl4 (Nat.le_refl _)
  exact below_touched q5 HT6.out hl5 (Nat.le_refl _)

end Go.Proofs.YtfedgcdkagngnaaGreat

/- Plain: what a pointer's change does to where objects lead. -/
namespace Go.Proofs.YtfedgcdkagngnaaGreat
open Go.RowKit
set_option linter.unusedVariables false

section
variable {B : Nat} {m : Al} {xs : List Nat}
theorem ptrsO_is {y : Nat} {o : Odec} (ho : placedN m.bm.dev m.bm.list (y : Int) = some o) : ptrsO m y = ptrL m.bm.dev (y : Int) o.p.toNat := by
  obtain ⟨h1, h2, _⟩ := placed_head ho
  unfold ptrsO ptrsD
  rw [h1, if_pos h2]
theorem peek_nat (l : List Nat) (a i : Nat) : peek l ((a : Int) + 1 + (i : Int)) = l.getD (a + 1 + i) 0 := by
  rw [show (a : Int) + 1 + (i : Int) = ((a + 1 + i : Nat) : Int) by push_cast; rfl, peek_in]
/-- All words of an object but the one that is changed. -/
theorem lead_ptrs (h : WOk B m xs) (hB : B ≤ 200) (i p t : Int) :
    (∀ y ∈ xs, y ≠ pickN xs i → ptrsO (m.lead xs i p t) y = ptrsO m y) ∧ (∀ z ∈ ptrsO (m.lead xs i p t) (pickN xs i), z ∈ ptrsO m (pickN xs i) ∨ z = pickN xs t) := by
  rcases lead_is h hB i p t with e | ⟨x, o, k, hx, x0, ho, rfl, hk, e⟩
  · rw [e]; exact ⟨fun _ _ _ => rfl, fun z hz => .inl hz⟩
  · have hxm : x ∈ xs := hx ▸ pickN_mem (by rw [← hx]; exact x0)
    have hu := h.us _ hxm
    obtain ⟨s1, s2, s3, s4, s5⟩ := placed_size ho
    have hs := objSize_is s1
    have hvt : pickN xs t < 512 * B ∨ pickN xs t = 0 := by
      by_cases c : pickN xs t = 0
      · exact .inr c
      · exact .inl (h.lt (pickN_mem c)).2
    have hv : pickN xs t < 18446744073709551616 := by omega
    obtain ⟨_, _, a3, a4⟩ := h.ok.store hB hu ho (j := x + 1 + k) (v := pickN xs t) (by omega) (by omega) hv
    rw [e, ← hx]
    refine ⟨fun y hy hyx => ?_, fun z hz => ?_⟩
    · have huy := h.us y hy
      obtain ⟨oy, hoy⟩ := Option.isSome_iff_exists.1 (h.ok.placed y huy)
      obtain ⟨q1, q2, q3, q4, q5⟩ := placed_size hoy
      have hq := objSize_is q1
      have hoy' : placedN (⟨⟨m.bm.dev.store ((x + 1 + k : Nat) : Int) (pickN xs t), m.bm.list, m.bm.free⟩, m.used, m.fl⟩ : Al).bm.dev m.bm.list (y : Int) = some oy := (a4 y huy).trans hoy
      rw [ptrsO_is (m := ⟨⟨m.bm.dev.store ((x + 1 + k : Nat) : Int) (pickN xs t), m.bm.list, m.bm.free⟩, m.used, m.fl⟩) hoy', ptrsO_is hoy]
      unfold ptrL
      refine List.map_congr_left (fun j hj => ?_)
      have hj := List.mem_range.1 hj
      rw [peek_nat, peek_nat]
      dsimp only
      rw [a3]
      have hne : ¬ (x + 1 + k = y + 1 + j) := by
        have r1 := placed_room ho
        have r2 := placed_room hoy
        have f1 := room_fits (p := o.p) (d := o.d) s1
        have f2 := room_fits (p := oy.p) (d := oy.d) q1
        rcases Nat.lt_or_gt_of_ne hyx with c | c
        · have := r2.apart r1 c
          omega
        · have := r1.apart r2 c
          omega
      rw [List.getD_eq_getElem?_getD, List.getD_eq_getElem?_getD, List.getElem?_set_ne hne]
    · have hox' : placedN (⟨⟨m.bm.dev.store ((x + 1 + k : Nat) : Int) (pickN xs t), m.bm.list, m.bm.free⟩, m.used, m.fl⟩ : Al).bm.dev m.bm.list (x : Int) = some o := (a4 x hu).trans ho
      rw [ptrsO_is (m := ⟨⟨m.bm.dev.store ((x + 1 + k : Nat) : Int) (pickN xs t), m.bm.list, m.bm.free⟩, m.used, m.fl⟩) hox'] at hz
      rw [ptrsO_is ho]
      unfold ptrL at hz ⊢
      obtain ⟨j, hj, rfl⟩ := List.mem_map.1 hz
      have hj' := List.mem_range.1 hj
      rw [peek_nat]
      dsimp only
      rw [a3]
      by_cases c : x + 1 + k = x + 1 + j
      · right
        have hlt : x + 1 + j < m.bm.dev.cache.length := by
          have := (placed_room ho).pos
          rw [h.ok.bm.lenL] at this
          have f1 := room_fits (p := o.p) (d := o.d) s1
          rw [h.ok.len]; omega
        rw [c, List.getD_eq_getElem?_getD, List.getElem?_set_self hlt]
        show capP (pickN xs t) = pickN xs t
        unfold capP
        rw [if_neg (by omega)]
      · left
        rw [List.getD_eq_getElem?_getD, List.getElem?_set_ne c, ← List.getD_eq_getElem?_getD]
        exact List.mem_map.2 ⟨j, hj, by rw [peek_nat]⟩

/-- A pointer leads elsewhere: to what is shaded. -/
theorem Mk.Barred.lead {M : Mk} (h : WOk B m xs) (hB : B ≤ 200) (hok : MkOk m.used M) (hf : ∀ x, m.used.getD x false = true → x ∈ xs) {i p t : Int} (hb : M.Barred m.used (ptrsO m) []) (ht : m.used.getD (pickN xs t) false = true → M.ms.getD (pickN xs t) false = true) :
    M.Barred (m.lead xs i p t).used (ptrsO (m.lead xs i p t)) [] := by
  obtain ⟨h1, h2⟩ := lead_ptrs h hB i p t
  rw [lead_used]
  intro x hx hG y hy hu
  have hxs := hf x (hok.mu x (hok.sm x hx))
  by_cases e : x = pickN xs i
  · subst e
    rcases h2 y hy with c | rfl
    · exact hb _ hx hG y c hu
    · exact ht hu
  · rw [h1 x hxs e] at hy
    exact hb x hx hG y hy hu
end

section
variable {w wr w' : World} {Q : List Nat} {A : AF} {n N N' : Nat} {m m' : Al} {v : Value} {xs : List Nat} {K : MkF} {M : Mk}
theorem MkAt.re (h : MkAt wr A K M) (R : List Nat) : MkAt wr (A.re R) K M := ⟨h.head, h.sx, h.sy, h.st, h.nd, h.nv⟩
/-- The device is changed. -/
theorem HMk.led (h : HMk w wr Q A n N m v xs K M) (hg : AlGo wr w' A n 4 m') (hok : WOk 4 m' xs) (hs : m'.bm.dev.ok N') (hu : m'.used = m.used) : ∃ R, HMk w w' Q (A.re R) n N' m' v xs K M ∧ Off Q wr w' := by
  obtain ⟨R, h1, h2⟩ := h.hp.go (h.hp.at_.al' hg) hok hs (fun b hb => .inl hb)
  exact ⟨R, ⟨h1, (h.mr.keep (fun k hk => h2.block (List.mem_append_right _ hk) (h.mr.mem k hk))).re R, h.lo, h.qk, h.lm.trans (by rw [hu]), h.ls.trans (by rw [hu])⟩, h2.less (fun k hk => List.mem_append_left _ hk)⟩
/-- SetPtr of an object that was picked. -/
theorem HMk.setPtr (h : HMk w wr Q A n N m v xs K M) (hN : N ≤ 900000000) (i p t : Int) (hi : pickN xs i ≠ 0) :
    Calls Tryz.prog 35 #[vdev A.X.F, .int .i64 ((pickN xs i : Nat) : Int), .int .i64 p, .int .i64 ((pickN xs t : Nat) : Int)] wr fun e w' => ∃ er, e = .returned (.int .i64 er) ∧ ∃ R, HMk w w' Q (A.re R) n (N + 1) (m.lead xs i p t) v xs K M ∧ Off Q wr w' := by
  have hx : pickN xs t ≤ 1000000 := by
    by_cases c : pickN xs t = 0
    · omega
    · have := (h.hp.ok.lt (pickN_mem c)).2; omega
  have he : m.lead xs i p t = ⟨⟨(m.bm.dev.setPtr (pickN xs i : Nat) p (pickN xs t : Nat)).dev, m.bm.list, m.bm.free⟩, m.used, m.fl⟩ := by unfold Al.lead; rw [if_neg hi]
  refine (osetPtr_any h.hp.at_.al.man.dev (N := N) (by omega) h.hp.steps _ _ _ (by omega)).mono ?_
  rintro e w4 ⟨rfl, hd4, ht4⟩
  obtain ⟨hm4, ht4'⟩ := h.hp.at_.al.man.setDev hd4 ht4
  have hg : AlGo wr w4 A n 4 (m.lead xs i p t) := by
    rw [he]
    exact h.hp.at_.al.setMan (Nat.le_refl _) hm4 ht4' (setPtr_clen _ _ _ _)
  exact ⟨_, rfl, h.led hg (h.hp.ok.lead (by omega) i p t) (lead_okN h.hp.steps i p t) (lead_used _ _ _ _ _)⟩
end

end Go.Proofs.YtfedgcdkagngnaaGreat

/- law22: MarkBarred. -/
namespace Go.Proofs.YtfedgcdkagngnaaGreat
open Go.RowKit Go.Maps
set_option linter.unusedVariables false

theorem wf_i8s {x : Int} (h : (Lit.int .i8 x).wf = true) : -128 ≤ x ∧ x ≤ 127 := by
  simp [Lit.wf, IntKind.min, IntKind.max, IntKind.bits, IntKind.signed] at h
  omega
theorem Cells.own22 {w wr : World} {Q : List Nat} {A : AF} {n N : Nat} {m : Al} {sa : Option Addr} {l sc : Nat} {xs : List Nat} {K : MkF} {M : Mk} (h : HMk w wr Q A n N m (.slice sa l sc) xs K M) : Cells wr sa (xs.map vi) := by
  obtain ⟨a', c', e', hc', _⟩ := h.hp.at_.own.cells
  injection e' with e1 _ _
  subst e1
  exact hc'

theorem Mk.colour_two (M : Mk) (x : Nat) : M.colour x ≤ 2 := by
  unfold Mk.colour
  split
  · omega
  · split <;> omega

/-- What is kept on the way. -/
structure Bar22 (m : Al) (M : Mk) (c : Nat) : Prop where
  ok : MkOk m.used M
  cover : M.Cover
  bar : M.Barred m.used (ptrsO m) []
  fits : M.Fits c
section
variable {m : Al} {M : Mk} {c : Nat}
theorem Bar22.new (m : Al) (most : Nat) : Bar22 m (Mk.new m.used.length most) 0 := ⟨MkOk.new _ _, Mk.Cover.new _ _, fun x hx => (by rw [Mk.new_sc] at hx; cases hx), Mk.Fits.new _ _⟩
theorem Bar22.shade (h : Bar22 m M c) (a : Nat) : Bar22 m (M.shade m.used a) (c + 1) := ⟨h.ok.shade a, h.cover.shade h.ok a, h.bar.shade h.ok a, h.fits.shade a⟩
theorem Bar22.step (h : Bar22 m M c) (hs : m.bm.dev.cache.length ≤ 1000000) : Bar22 m (M.step m.used (ptrsO m)).2 (c + 64) := by
  have s := Mk.stepped (P := ptrsO m) h.ok h.cover
  exact ⟨s.ok h.ok, s.cover h.ok, h.bar.step h.ok s, h.fits.step (fun a => ptrsD_len hs _)⟩
end

set_option maxHeartbeats 8000000 in
set_option maxRecDepth 100000 in
theorem markBarred_any (a : Option Addr) (mm cap : Nat) (s : List Op20) (hm : s.length = mm) (a2 : Option Addr) (tn cap2 : Nat) (t : List Op20) (ht : t.length = tn) (a3 : Option Addr) (zn cap3 : Nat) (z : List Int) (hz : z.length = zn) (most : Int) (hmo1 : -128 ≤ most) (hmo : most ≤ 127) (w : World)
    (hcs : Cells w a (recs Op20.cs s)) (hct : Cells w a2 (recs Op20.cs t)) (hcz : Cells w a3 (z.map (Value.int .i64))) (hmm : mm ≤ maxLen) (htn : tn ≤ maxLen) (hzn : zn ≤ maxLen) :
    Calls Tryz.prog 5 #[.agg #[.slice a mm cap, .slice a2 tn cap2], .int .i8 most, .slice a3 zn cap3] w (Gives (.bool true) w) := by
  unfold maxLen at htn hzn
  have HM := Lib.hid hm
  have HCS := Lib.hid hcs
  have HCT := Lib.hid hct
  have HT := Lib.hid ht
  have HMM := Lib.hid hmm
  have HCZ := Lib.hid hcz
  have HZ := Lib.hid hz
  clear hm hcs hct ht hmm hcz hz
  have HP : Hid (∀ w', Below w.heap.size w w' → Gives (.bool true) w (.returned (.bool true)) w') := Lib.hid (fun w' h => ⟨rfl, h⟩)
  generalize Gives (.bool true) w = Post at *
  have HBx := Lib.hid (below_alloc w (.cells #[.slice a mm cap, .slice a2 tn cap2] 69))
  have HRx : Hid (MemR w.heap.size (w.alloc (.cells #[.slice a mm cap, .slice a2 tn cap2] 69)) [⟨w.heap.size, 69, [.slice a mm cap, .slice a2 tn cap2], true⟩]) := Lib.hid (Mem.one w #[.slice a mm cap, .slice a2 tn cap2] 69).r
  go_enter Tryz.func5, Tryz.ntmps5
  go_upto_region 1 with fail
  obtain ⟨xb, hxb⟩ : ∃ xb, xb = w.heap.size := ⟨_, rfl⟩
  rw [← hxb] at HRx ⊢
  clear hxb
  generalize w.alloc _ = w0 at *
  go_wp2_with fail
  refine (awake22_any _).mono ?_
  rintro e w1 ⟨rfl, hb1⟩
  have HB1 := Lib.hid (HBx.out.trans (hb1.mono HBx.out.size))
  have HRx1 := Lib.hid (HRx.out.later hb1)
  have d0 := HRx1.out.cell 0 0 rfl rfl
  have d1 := HRx1.out.cell 0 1 rfl rfl
  clear hb1 HRx HBx
  go_wp2_with fail
  refine (made22_any a mm cap s HM.out w1 (HCS.out.below HB1.out (Nat.le_refl _)) HMM.out).mono ?_
  rintro e w2 ⟨A, n, m, v, xs, rfl, hh, hn, hf, _, _⟩
  obtain ⟨sa, sc, rfl, _⟩ := hh.at_.own.cells
  have HFu := Lib.hid hf
  have HMb := Lib.hid (Mem.one w2 #[valloc A, vdev A.X.F, .slice sa xs.length sc] 28)
  have HHp : Hid (Hp w1 (w2.alloc (.cells #[valloc A, vdev A.X.F, .slice sa xs.length sc] 28)) [w2.heap.size] A n 4 25000000 m (.slice sa xs.length sc) xs) := Lib.hid (hh.more (fun k hk => by simp at hk; subst hk; exact .inr ⟨Nat.le_refl _, by simp⟩) (below_alloc _ _))
  have hq2 : Hid (w1.heap.size ≤ w2.heap.size) := Lib.hid hh.below.size
  obtain ⟨l, hl⟩ : ∃ l, l = xs.length := ⟨_, rfl⟩
  rw [← hl] at HMb HHp ⊢
  have HL := Lib.hid hl
  have hl2 : l ≤ 2048 := by rw [hl]; exact hh.ok.len
  clear hh hn hf hl HRx1 d0 d1
  go_upto_region 5 with fail
  generalize w2.alloc _ = w3 at *
  obtain ⟨q, hq⟩ : ∃ q, q = w2.heap.size := ⟨_, rfl⟩
  rw [← hq] at HMb HHp hq2 ⊢
  have HQ := Lib.hid hq
  clear hq
  have c0 := HMb.out.cell 0 0 rfl rfl
  go_wp2_with fail
  refine (mnew_any HHp.out.at_.al (by rw [HHp.out.ok.ok.lenU]; omega) most (by omega)).mono ?_
  rintro e w4 ⟨K, rfl, hm4, hb4, hk4⟩
  have HH4 : Hid (HMk w1 w4 [q] A n 25000000 m (.slice sa l sc) xs K (Mk.new m.used.length most.toNat)) := Lib.hid (HMk.new HHp.out (by intro k hk; simp at hk; subst hk; exact hq2.out) hb4 hm4 hk4)
  have HMb4 := Lib.hid (HMb.out.r.later hb4)
  have HBa0 := Lib.hid (Bar22.new m most.toNat)
  have HMs0 : Hid ((Mk.new m.used.length most.toNat).most ≤ 127) := Lib.hid (show most.toNat ≤ 127 by omega)
  clear hm4 hb4 hk4 c0 hq2 HMb HHp
  go_upto_block 0 with fail
  go_cut [] (fun wc => ∃ (v' : Value) (M : Mk), Hid (HMk w1 wc [q] A n 25000000 m (.slice sa l sc) xs (K.re v') M) ∧ Hid (MemR w2.heap.size wc [⟨q, 28, [valloc A, vdev A.X.F, .slice sa l sc], true⟩]) ∧ Hid (Bar22 m M 10) ∧ Hid (M.most ≤ 127))
  case first =>
    go_wp2_with fail
    go_loopw [11] (fun i wr => ∃ (k : Nat) (v' : Value) (M : Mk), k ≤ zn ∧ k ≤ 10 ∧ i = .int .i64 (k : Int) ∧ Hid (HMk w1 wr [q] A n 25000000 m (.slice sa l sc) xs (K.re v') M) ∧ Hid (MemR w2.heap.size wr [⟨q, 28, [valloc A, vdev A.X.F, .slice sa l sc], true⟩]) ∧ Hid (Bar22 m M k) ∧ Hid (M.most ≤ 127)) (fun i _ => 10 - (intOf i).toNat)
    case atStart => exact ⟨0, K.v, _, Nat.zero_le _, Nat.zero_le _, rfl, HH4, HMb4, HBa0, HMs0⟩
    case round =>
      clear HH4 HMb4 HBa0 HMs0
      obtain ⟨k, v', M, hkt, hk10, rfl, HH, HMr, HBa, HMs⟩ := hrel
      by_cases hlt : k < zn ∧ k < 10
      · obtain ⟨h1, h2⟩ := hlt
        have h1' : (k : Int) < (zn : Int) := by omega
        have h2' : (k : Int) < 10 := by omega
        have hcz := HCZ.out.below (HB1.out.trans (HH.out.below.mono HB1.out.size)) (Nat.le_refl _)
        obtain ⟨b1, o1, rfl, _, hcx⟩ := hcz.at (i := k) (by rw [List.length_map, HZ.out]; exact h1)
        obtain ⟨zi, hzi⟩ : ∃ zi, z[k]? = some zi := ⟨_, List.getElem?_eq_getElem (by rw [HZ.out]; exact h1)⟩
        have cz := hcx k (.int .i64 zi) (by rw [List.getElem?_map, hzi]; rfl)
        have c0 := HMr.out.cell 0 0 rfl rfl
        have c1 := HMr.out.cell 0 1 rfl rfl
        have c2 := HMr.out.cell 0 2 rfl rfl
        have r0 := fun x => later_cell c0 x
        have r1 := fun x => later_cell c1 x
        have r2 := fun x => later_cell c2 x
        have r3 := fun x => later_cell cz x
        clear hcz hcx hzi
        go_upto_region 13 with fail
        refine wp_region_seg (C := fun w' => ∃ x : Later (wr), w' = x.val) [.fl [0, 1, 2, 3, 4, 5], .sq [6] true, .sq [7] false] (by kernel_rfl) (by kernel_rfl) (by intro c a d v w h; cases d <;> exact h) ?_
        simp only [segs, picks, List.getElem?_cons_succ, List.getElem?_cons_zero]
        have hC1 := later_drew (wr)
        refine wpSeg_fl hC1 ?_
        repeat (first | go_big_quiet_step (fail) | quiet_step (fail))
        refine wpQuiet_nil ?_
        have HH6 := Lib.hid (HH.out.later (later_below hC1))
        have HMr6 := Lib.hid (HMr.out.later (later_below hC1))
        clear r0 r1 r2 r3 c0 c1 c2 cz HH HMr
        generalize wr.drew = w6 at *
        refine wpSeg_sq (fun K hK => ?_)
        go_wp2_with fail
        refine (wpick_any _ _ _ xs HH6.out.hp.at_.own (by have := HH6.out.xlen; omega) zi).mono ?_
        rintro e w7 ⟨rfl, hb7⟩
        have HH7 := Lib.hid (HH6.out.later hb7)
        have HMr7 := Lib.hid (HMr6.out.later hb7)
        have hC2 := later_step hC1 hb7
        generalize pickN xs zi = x at *
        clear hb7 HH6 HMr6
        go_wp2_with fail
        refine hK _ _ (fun _ => hC2) ?_
        clear hK K
        have HSh := Lib.hid (mshade_any HH7.out.ma (show M.miss ≤ 900000 ∧ M.st.length ≤ 900000 by have h1 := HBa.out.fits.miss; have h2 := HBa.out.fits.st; have h3 := HMs.out; omega) x)
        change Hid (Calls Tryz.prog 34 #[.pointer (some ⟨K.p, 0, none⟩), .int .i64 (x : Int)] w7 _) at HSh
        generalize hfx : M.fresh m.used x = fx at *
        unfold ShadePost at HSh
        rw [hfx] at HSh
        clear hfx
        refine wpSeg_last ?_
        go_wp2_with fail
        refine HSh.out.mono ?_
        rintro e w8 ⟨rfl, hg8⟩
        obtain ⟨v2, hh8, ho8⟩ := HH7.out.go hg8
        have HH8 := Lib.hid hh8
        have HMr8 := Lib.hid (HMr7.out.off ho8 (by simp))
        have HMs8 : Hid ((M.shade m.used x).most ≤ 127) := Lib.hid (by rw [Mk.shade_most]; exact HMs.out)
        clear hg8 hh8 ho8
        go_wp2_with fail
        refine ⟨⟨k + 1, v2, _, by omega, by omega, vint (by omega), HH8, HMr8, Lib.hid (HBa.out.shade x), HMs8⟩, ?_⟩
        simp [intOf]; omega
      · have hor : (k : Int) = (zn : Int) ∨ ((k : Int) < (zn : Int) ∧ (k : Int) = 10) := by omega
        have HTail : Hid (∃ (v' : Value) (M : Mk), Hid (HMk w1 wr [q] A n 25000000 m (.slice sa l sc) xs (K.re v') M) ∧ Hid (MemR w2.heap.size wr [⟨q, 28, [valloc A, vdev A.X.F, .slice sa l sc], true⟩]) ∧ Hid (Bar22 m M 10) ∧ Hid (M.most ≤ 127)) := Lib.hid ⟨v', M, HH, HMr, Lib.hid ⟨HBa.out.ok, HBa.out.cover, HBa.out.bar, HBa.out.fits.mono hk10⟩, HMs⟩
        clear HH HMr HBa HMs hlt
        rcases hor with h1 | ⟨h1, h2⟩
        · have hlt' : decide ((k : Int) < (zn : Int)) = false := by simp; omega
          go_wp2_with fail
          go_meet
          exact HTail.out
        · have hlt' : decide ((k : Int) < 10) = false := by simp; omega
          go_wp2_with fail
          go_meet
          exact HTail.out
  case rest =>
    clear HH4 HMb4 HBa0 HMs0
    obtain ⟨v0, M0, HH0, HMr0, HBa0, HMs0⟩ := hcut
    go_wp2_with fail
    have HUs0 : Hid (m.used = m.used) := Lib.hid rfl
    go_loopw [12] (fun i wr => ∃ (k : Nat) (R : List Nat) (m' : Al) (v' : Value) (M : Mk), k ≤ tn ∧ k ≤ 30 ∧ i = .int .i64 (k : Int) ∧ Hid (HMk w1 wr [q] (A.re R) n (25000000 + k) m' (.slice sa l sc) xs (K.re v') M) ∧ Hid (MemR w2.heap.size wr [⟨q, 28, [valloc A, vdev A.X.F, .slice sa l sc], true⟩]) ∧ Hid (Bar22 m' M (10 + 65 * k)) ∧ Hid (M.most ≤ 127) ∧ Hid (m'.used = m.used)) (fun i _ => 30 - (intOf i).toNat)
    case atStart => exact ⟨0, A.R, m, v0, M0, Nat.zero_le _, Nat.zero_le _, rfl, HH0, HMr0, HBa0, HMs0, HUs0⟩
    case round =>
      clear HH0 HMr0 HBa0 HMs0 HUs0
      obtain ⟨k, R, m', v', M, hkt, hk30, rfl, HH, HMr, HBa, HMs, HUs⟩ := hrel
      by_cases hlt : k < tn ∧ k < 30
      · obtain ⟨h1, h2⟩ := hlt
        have h1' : (k : Int) < (tn : Int) := by omega
        have h2' : (k : Int) < 30 := by omega
        have hkl : k < t.length := by rw [HT.out]; exact h1
        obtain ⟨b1, o1, rfl, hbl, hcell⟩ := recs_cells Op20.len (by decide) (⟨0, 0, 0, 0⟩ : Op20) (HCT.out.below (HB1.out.trans (HH.out.below.mono HB1.out.size)) (Nat.le_refl _)) hkl
        generalize t.getD k ⟨0, 0, 0, 0⟩ = o at *
        obtain ⟨ok, oi, op, ot⟩ := o
        have e0 : wr.cell? ⟨b1, o1 + k * 4, none⟩ = some (.int .i64 ok) := hcell 0 _ rfl
        have e1 : wr.cell? ⟨b1, o1 + k * 4 + 1, none⟩ = some (.int .i64 oi) := hcell 1 _ rfl
        have e2 : wr.cell? ⟨b1, o1 + k * 4 + 2, none⟩ = some (.int .i64 op) := hcell 2 _ rfl
        have e3 : wr.cell? ⟨b1, o1 + k * 4 + 3, none⟩ = some (.int .i64 ot) := hcell 3 _ rfl
        have hba := below_alloc wr (.cells #[.int .i64 ok, .int .i64 oi, .int .i64 op, .int .i64 ot] 75)
        obtain ⟨g, hg⟩ : ∃ g, g = wr.heap.size := ⟨_, rfl⟩
        have HH5 : Hid (HMk w1 (wr.alloc (.cells #[.int .i64 ok, .int .i64 oi, .int .i64 op, .int .i64 ot] 75)) [q, g] (A.re R) n (25000000 + k) m' (.slice sa l sc) xs (K.re v') M) := Lib.hid (HH.out.more (fun k hk => by
          simp only [List.mem_cons, List.not_mem_nil, or_false] at hk
          rcases hk with rfl | rfl
          · exact .inl (by simp)
          · exact .inr (by simp [hg])) hba)
        have HMr5 : Hid (MemR w2.heap.size (wr.alloc (.cells #[.int .i64 ok, .int .i64 oi, .int .i64 op, .int .i64 ot] 75)) [⟨q, 28, [valloc A, vdev A.X.F, .slice sa l sc], true⟩, ⟨g, 75, [.int .i64 ok, .int .i64 oi, .int .i64 op, .int .i64 ot], true⟩]) := Lib.hid (by
          have := HMr.out.alloc #[.int .i64 ok, .int .i64 oi, .int .i64 op, .int .i64 ot] 75
          rw [← hg] at this
          exact this)
        clear hcell hkl hbl hba HH HMr
        go_upto_region 18 with fail
        rw [← hg]
        generalize wr.alloc _ = w5 at *
        clear hg
        have c0 := HMr5.out.cell 0 0 rfl rfl
        have c1 := HMr5.out.cell 0 1 rfl rfl
        have c2 := HMr5.out.cell 0 2 rfl rfl
        have f1 := HMr5.out.cell 1 1 rfl rfl
        go_wp2_with fail
        refine (wpick_any _ _ _ xs HH5.out.hp.at_.own (by have := HH5.out.xlen; omega) oi).mono ?_
        rintro e w6 ⟨rfl, hb6⟩
        have HH6 := Lib.hid (HH5.out.later hb6)
        have HMr6 := Lib.hid (HMr5.out.later hb6)
        obtain ⟨x, hx⟩ : ∃ x, x = pickN xs oi := ⟨_, rfl⟩
        have HXe := Lib.hid hx
        rw [← hx]
        clear hb6 hx HH5 HMr5 c0 c1 c2 f1
        go_upto_if 76 with fail
        go_cut [] (fun wc => ∃ (R2 : List Nat) (m2 : Al) (v2 : Value) (M2 : Mk), Hid (HMk w1 wc [q, g] (A.re R2) n (25000000 + k + 1) m2 (.slice sa l sc) xs (K.re v2) M2) ∧ Hid (MemR w2.heap.size wc [⟨q, 28, [valloc A, vdev A.X.F, .slice sa l sc], true⟩, ⟨g, 75, [.int .i64 ok, .int .i64 oi, .int .i64 op, .int .i64 ot], true⟩]) ∧ Hid (Bar22 m2 M2 (10 + 65 * k + 1)) ∧ Hid (M2.most ≤ 127) ∧ Hid (m2.used = m.used))
        case first =>
          by_cases hx0 : x = 0
          · have hxf : decide ((0 : Int) < (x : Int)) = false := by simp; omega
            go_wp2_with fail
            go_meet
            exact ⟨R, m', v', M, Lib.hid ⟨HH6.out.hp.mono (Nat.le_refl _) (Nat.le_succ _), HH6.out.mr, HH6.out.lo, HH6.out.qk, HH6.out.lm, HH6.out.ls⟩, HMr6, Lib.hid ⟨HBa.out.ok, HBa.out.cover, HBa.out.bar, HBa.out.fits.mono (Nat.le_succ _)⟩, HMs, HUs⟩
          · have hxt : decide ((0 : Int) < (x : Int)) = true := by simp; omega
            have c0 := HMr6.out.cell 0 0 rfl rfl
            have c1 := HMr6.out.cell 0 1 rfl rfl
            have c2 := HMr6.out.cell 0 2 rfl rfl
            have f3 := HMr6.out.cell 1 3 rfl rfl
            go_wp2_with fail
            refine (wpick_any _ _ _ xs HH6.out.hp.at_.own (by have := HH6.out.xlen; omega) ot).mono ?_
            rintro e w7 ⟨rfl, hb7⟩
            have HH7 := Lib.hid (HH6.out.later hb7)
            have HMr7 := Lib.hid (HMr6.out.later hb7)
            obtain ⟨y, hy⟩ : ∃ y, y = pickN xs ot := ⟨_, rfl⟩
            have HYe := Lib.hid hy
            rw [← hy]
            have HSh := Lib.hid (mshade_any HH7.out.ma (show M.miss ≤ 900000 ∧ M.st.length ≤ 900000 by have h1 := HBa.out.fits.miss; have h2 := HBa.out.fits.st; have h3 := HMs.out; omega) y)
            change Hid (Calls Tryz.prog 34 #[.pointer (some ⟨K.p, 0, none⟩), .int .i64 (y : Int)] w7 _) at HSh
            unfold ShadePost at HSh
            generalize M.fresh m'.used y = fx at *
            clear hb7 hy HH6 HMr6 c0 c1 c2 f3
            go_wp2_with fail
            refine HSh.out.mono ?_
            rintro e w8 ⟨rfl, hg8⟩
            obtain ⟨v2, hh8, ho8⟩ := HH7.out.go hg8
            have HH8 := Lib.hid hh8
            have HMr8 := Lib.hid (HMr7.out.off ho8 (by simp))
            have HSp := Lib.hid (hh8.setPtr (by omega) oi op ot (by rw [← HXe.out]; exact hx0))
            rw [← HXe.out, ← HYe.out] at HSp
            have c1 := HMr8.out.cell 0 1 rfl rfl
            have f2 := HMr8.out.cell 1 2 rfl rfl
            have HBa8 : Hid (Bar22 (m'.lead xs oi op ot) (M.shade m'.used y) (10 + 65 * k + 1)) := Lib.hid (by
              have hs := HBa.out.shade y
              refine ⟨by rw [lead_used]; exact hs.ok, hs.cover, ?_, hs.fits⟩
              refine Mk.Barred.lead hh8.hp.ok (by omega) hs.ok (fun z hz => HFu.out z (by rw [← HUs.out]; exact hz)) hs.bar (fun hu => ?_)
              rw [← HYe.out] at hu ⊢
              rw [HBa.out.ok.shade_mk, hu]; simp)
            have HMs8 : Hid ((M.shade m'.used y).most ≤ 127) := Lib.hid (by rw [Mk.shade_most]; exact HMs.out)
            have HUs8 : Hid ((m'.lead xs oi op ot).used = m.used) := Lib.hid (by rw [lead_used]; exact HUs.out)
            clear hg8 hh8 ho8 HH7 HMr7 HSh
            go_wp2_with fail
            refine HSp.out.mono ?_
            rintro e w9 ⟨er, rfl, R9, hh9, ho9⟩
            have HH9 := Lib.hid hh9
            have HMr9 := Lib.hid (HMr8.out.off ho9 (by simp))
            clear hh9 ho9
            go_wp2_with fail
            go_meet
            exact ⟨R9, _, v2, _, HH9, HMr9, HBa8, HMs8, HUs8⟩
        case rest =>
          clear HH6 HMr6 HBa HMs HUs
          obtain ⟨R2, m2, v2, M2, HH7, HMr7, HBa7, HMs7, HUs7⟩ := hcut
          have HSt := Lib.hid (mstep_any HH7.out.ma (show M2.miss ≤ 800000 ∧ M2.st.length ≤ 800000 by have h1 := HBa7.out.fits.miss; have h2 := HBa7.out.fits.st; have h3 := HMs7.out; omega))
          change Hid (Calls Tryz.prog 36 #[.pointer (some ⟨K.p, 0, none⟩)] wc _) at HSt
          unfold StepPost at HSt
          have HBa8 := Lib.hid (HBa7.out.step HH7.out.hp.at_.al.man.dev.small)
          have HMs8 : Hid ((M2.step m2.used (ptrsO m2)).2.most ≤ 127) := Lib.hid (by rw [(Mk.stepped (P := ptrsO m2) HBa7.out.ok HBa7.out.cover).most]; exact HMs7.out)
          have HGo : Hid (∀ w9, MAGo wc w9 (A.re R2) n 4 m2 (K.re v2) (M2.step m2.used (ptrsO m2)).2 → ∃ v3, HMk w1 w9 [q, g] (A.re R2) n (25000000 + k + 1) m2 (.slice sa l sc) xs (K.re v3) (M2.step m2.used (ptrsO m2)).2 ∧ Off [q, g] wc w9) := Lib.hid (fun w9 hg => HH7.out.go hg)
          generalize (M2.step m2.used (ptrsO m2)).1 = sb at *
          generalize (M2.step m2.used (ptrsO m2)).2 = M3 at *
          go_wp2_with fail
          refine HSt.out.mono ?_
          rintro e w9 ⟨rfl, hg9⟩
          obtain ⟨v3, hh9, ho9⟩ := HGo.out w9 hg9
          have HH9 := Lib.hid hh9
          have HMr9 := Lib.hid (HMr7.out.off ho9 (by simp))
          clear hg9 hh9 ho9 HH7 HMr7 HSt HGo HBa7 HMs7
          go_wp2_with fail
          go_loopw [16] (fun i wr => ∃ j : Nat, j ≤ l ∧ i = .int .i64 (j : Int) ∧ Hid (Below w9.heap.size w9 wr)) (fun i _ => l - (intOf i).toNat)
          case atStart => exact ⟨0, Nat.zero_le _, rfl, Lib.hid (Below.refl _ _)⟩
          case round =>
            obtain ⟨j, hjl, rfl, HBj⟩ := hrel
            have HHj := Lib.hid (HH9.out.later HBj.out)
            have HMrj := Lib.hid (HMr9.out.later HBj.out)
            have d2 := HMrj.out.cell 0 2 rfl rfl
            by_cases hjlt : j < l
            · have hjlt' : (j : Int) < (l : Int) := by omega
              have c0 := HMrj.out.cell 0 0 rfl rfl
              have c1 := HMrj.out.cell 0 1 rfl rfl
              have hcs8 := Cells.own22 HHj.out
              obtain ⟨b3, o3, rfl, _, hcx3⟩ := hcs8.at (i := j) (by rw [List.length_map, ← HL.out]; exact hjlt)
              obtain ⟨y, hy⟩ : ∃ y, xs[j]? = some y := ⟨_, List.getElem?_eq_getElem (by rw [← HL.out]; exact hjlt)⟩
              have cy := hcx3 j (vi y) (by rw [List.getElem?_map, hy]; rfl)
              have HCo := Lib.hid (mcolour_any HHj.out.mr y)
              change Hid (Calls Tryz.prog 37 #[.pointer (some ⟨K.p, 0, none⟩), .int .i64 (y : Int)] _ _) at HCo
              have hc3 := M3.colour_two y
              clear hcs8 hcx3 hy
              by_cases hc2 : M3.colour y = 2
              · rw [hc2] at HCo
                have HBk : Hid (∀ z ∈ ptrsO m2 y, m2.used.getD z false = true → M3.colour z ≠ 0) := Lib.hid (fun z hz hu h0 => by
                  have h1 := HBa8.out.bar y ((M3.colour_black y).1 hc2) (by simp) z hz hu
                  have h2 := (M3.colour_white z HBa8.out.ok).1 h0
                  rw [h1] at h2; cases h2)
                have HPt := Lib.hid (fun w' (h : AlAt w' (A.re R2) n 4 m2) => optrs_any h.man.dev (y : Int))
                have HLn : Hid ((ptrsO m2 y).length ≤ 64) := Lib.hid (ptrsD_len HH9.out.hp.at_.al.man.dev.small _)
                have HLe : Hid (∀ x ∈ ptrsO m2 y, x ≤ 1099511627776) := Lib.hid (ptrsD_le _ _)
                have HPo : Hid (∀ w1 e w2, PtrsPost m2.bm.dev (y : Int) w1 e w2 → ∃ av cp ec, e = .returned (.tuple #[.slice av (ptrsO m2 y).length cp, .int .i64 ec]) ∧ Cells w2 av ((ptrsO m2 y).map vi) ∧ Below w1.heap.size w1 w2) := Lib.hid (fun w1 e w2 hp => by
                  obtain ⟨av, cp, ec, e1, _, e2, _, e4⟩ := hp.out
                  exact ⟨av, cp, ec, e1, e2, e4⟩)
                generalize ptrsO m2 y = P at *
                clear hc2 hc3
                go_wp2_with fail
                refine HCo.out.mono ?_
                rintro e wj ⟨rfl, rfl⟩
                have r0 := fun x => later_cell c0 x
                have r1 := fun x => later_cell c1 x
                have r2 := fun x => later_cell d2 x
                have r3 := fun x => later_cell cy x
                go_upto_region 28 with fail
                refine wp_region_seg (C := fun w' => ∃ x : Later (wr), w' = x.val) [.fl [0, 1, 2, 3, 4, 5, 6], .sq [7, 8] false, .fl [9, 10, 11], .sq [12] false] (by kernel_rfl) (by kernel_rfl) (by intro c a d v w h; cases d <;> exact h) ?_
                simp only [segs, picks, List.getElem?_cons_succ, List.getElem?_cons_zero]
                have hC1 := later_drew (wr)
                refine wpSeg_fl hC1 ?_
                repeat (first | go_big_quiet_step (fail) | quiet_step (fail))
                refine wpQuiet_nil ?_
                have HHk := Lib.hid (HHj.out.later (later_below hC1))
                have HMrk := Lib.hid (HMrj.out.later (later_below hC1))
                have HBk1 := Lib.hid (HBj.out.trans ((later_below hC1).mono HBj.out.size))
                clear r0 r1 r2 r3 c0 c1 d2 cy HHj HMrj HBj
                generalize wr.drew = w10 at *
                refine wpSeg_sq (fun K hK => ?_)
                go_wp2_with fail
                refine (HPt.out _ HHk.out.hp.at_.al).mono ?_
                intro e w11 hp
                obtain ⟨av, cp, ec, rfl, hcs, hb11⟩ := HPo.out _ _ _ hp
                have HCl := Lib.hid hcs
                have HHl := Lib.hid (HHk.out.later hb11)
                have HMrl := Lib.hid (HMrk.out.later hb11)
                have HBl := Lib.hid (HBk1.out.trans (hb11.mono HBk1.out.size))
                have hC2 := later_step hC1 hb11
                clear hp hcs hb11 HPo HPt HHk HMrk HBk1
                go_wp2_with fail
                refine hK _ _ (fun h => nomatch h) ?_
                clear hK K
                refine wpSeg_fl hC2 ?_
                repeat (first | go_big_quiet_step (fail) | quiet_step (fail))
                refine wpQuiet_nil ?_
                obtain ⟨pl, hpl⟩ : ∃ pl, pl = P.length := ⟨_, rfl⟩
                rw [← hpl]
                have HPl := Lib.hid hpl
                have hp64 : pl ≤ 64 := by rw [hpl]; exact HLn.out
                clear hpl hC1 hC2
                refine wpSeg_last ?_
                go_wp2_with fail
                go_loopw [19] (fun i wr => ∃ d : Nat, d ≤ pl ∧ i = .int .i64 (d : Int) ∧ Hid (Below w11.heap.size w11 wr)) (fun i _ => pl - (intOf i).toNat)
                case atStart => exact ⟨0, Nat.zero_le _, rfl, Lib.hid (Below.refl _ _)⟩
                case round =>
                  obtain ⟨d, hdl, rfl, HBd⟩ := hrel
                  have HHd := Lib.hid (HHl.out.later HBd.out)
                  have HMrd := Lib.hid (HMrl.out.later HBd.out)
                  by_cases hdlt : d < pl
                  · have hdlt' : (d : Int) < (pl : Int) := by omega
                    have hcd := HCl.out.below HBd.out (Nat.le_refl _)
                    obtain ⟨b5, o5, rfl, _, hcx5⟩ := hcd.at (i := d) (by rw [List.length_map, ← HPl.out]; exact hdlt)
                    obtain ⟨zz, hzz⟩ : ∃ zz, P[d]? = some zz := ⟨_, List.getElem?_eq_getElem (by rw [← HPl.out]; exact hdlt)⟩
                    have cz := hcx5 d (vi zz) (by rw [List.getElem?_map, hzz]; rfl)
                    have hzm : zz ∈ P := List.mem_of_getElem? hzz
                    have hz9 := HLe.out zz hzm
                    have HZb := Lib.hid (HBk.out zz hzm)
                    have c0 := HMrd.out.cell 0 0 rfl rfl
                    have r0 := fun x => later_cell c0 x
                    have r1 := fun x => later_cell cz x
                    clear hcd hcx5 hzz hzm
                    go_upto_region 32 with fail
                    refine wp_region_seg (C := fun w' => ∃ x : Later (wr), w' = x.val) [.fl [0, 1, 2, 3, 4, 5], .sq [6, 7] false, .fl [8, 9, 10, 11, 12], .sq [13, 14, 15] false] (by kernel_rfl) (by kernel_rfl) (by intro c a d v w h; cases d <;> exact h) ?_
                    simp only [segs, picks, List.getElem?_cons_succ, List.getElem?_cons_zero]
                    have hC1 := later_drew (wr)
                    refine wpSeg_fl hC1 ?_
                    repeat (first | go_big_quiet_step (fail) | quiet_step (fail))
                    refine wpQuiet_nil ?_
                    have HHe := Lib.hid (HHd.out.later (later_below hC1))
                    have HBe := Lib.hid (HBd.out.trans ((later_below hC1).mono HBd.out.size))
                    clear r0 c0 cz HHd HMrd HBd
                    generalize wr.drew = w12 at *
                    have HU := Lib.hid (aused_any HHe.out.hp.at_.al (zz : Int))
                    rw [hasI_nat] at HU
                    have HCz := Lib.hid (mcolour_any HHe.out.mr zz)
                    change Hid (Calls Tryz.prog 37 #[.pointer (some ⟨K.p, 0, none⟩), .int .i64 (zz : Int)] _ _) at HCz
                    have hz2 := M3.colour_two zz
                    generalize M3.colour zz = cl at *
                    generalize m2.used.getD zz false = ub at *
                    cases ub with
                    | false =>
                      clear HZb HCz
                      refine wpSeg_sq (fun K hK => ?_)
                      go_wp2_with fail
                      refine HU.out.mono ?_
                      rintro e w13 ⟨rfl, rfl⟩
                      go_wp2_with fail
                      refine hK _ _ (fun h => nomatch h) ?_
                      clear hK K
                      refine wpSeg_fl hC1 ?_
                      repeat (first | go_big_quiet_step (fail) | quiet_step (fail))
                      refine wpQuiet_nil ?_
                      refine wpSeg_last ?_
                      go_wp2_with fail
                      exact ⟨⟨d + 1, by omega, vint (by omega), HBe⟩, by simp [intOf]; omega⟩
                    | true =>
                      have hcz : (((cl : Nat) : Int) == 0) = false := by have := HZb.out rfl; simp; omega
                      clear HZb
                      refine wpSeg_sq (fun K hK => ?_)
                      go_wp2_with fail
                      refine HU.out.mono ?_
                      rintro e w13 ⟨rfl, rfl⟩
                      go_wp2_with fail
                      refine hK _ _ (fun h => nomatch h) ?_
                      clear hK K
                      refine wpSeg_fl hC1 ?_
                      repeat (first | go_big_quiet_step (fail) | quiet_step (fail))
                      refine wpQuiet_nil ?_
                      refine wpSeg_last ?_
                      go_wp2_with fail
                      refine HCz.out.mono ?_
                      rintro e w13 ⟨rfl, rfl⟩
                      go_wp2_with fail
                      exact ⟨⟨d + 1, by omega, vint (by omega), HBe⟩, by simp [intOf]; omega⟩
                  · obtain rfl : d = pl := by omega
                    have hdf : decide ((d : Int) < (d : Int)) = false := by simp
                    have HBz := Lib.hid (HBl.out.trans (HBd.out.mono HBl.out.size))
                    go_wp2_with fail
                    exact ⟨⟨j + 1, by omega, vint (by omega), HBz⟩, by simp [intOf]; omega⟩
              · have hcb : (((M3.colour y : Nat) : Int) != 2) = true := by simp; omega
                generalize M3.colour y = cl at *
                clear hc2 hc3
                go_wp2_with fail
                refine HCo.out.mono ?_
                rintro e wj ⟨rfl, rfl⟩
                go_wp2_with fail
                exact ⟨⟨j + 1, by omega, vint (by omega), HBj⟩, by simp [intOf]; omega⟩
            · obtain rfl : j = l := by omega
              have hjf : decide ((j : Int) < (j : Int)) = false := by simp
              have HH10 := Lib.hid (HHj.out.less (Q' := [q]) (by simp))
              have HMr10 := Lib.hid (MemR.front (L := [⟨q, 28, [valloc A, vdev A.X.F, .slice sa j sc], true⟩]) (E := [⟨g, 75, [.int .i64 ok, .int .i64 oi, .int .i64 op, .int .i64 ot], true⟩]) HMrj.out)
              clear HHj HMrj
              go_wp2_with fail
              refine ⟨⟨k + 1, R2, m2, v3, M3, by omega, by omega, vint (by omega), Lib.hid (by rw [← Nat.add_assoc]; exact HH10.out), HMr10, Lib.hid (by rw [show 10 + 65 * (k + 1) = 10 + 65 * k + 1 + 64 by omega]; exact HBa8.out), HMs8, HUs7⟩, ?_⟩
              simp [intOf]; omega
      · have HEnd := Lib.hid (HP.out wr (HB1.out.trans (HH.out.below.mono HB1.out.size)))
        have hor : (k : Int) = (tn : Int) ∨ ((k : Int) < (tn : Int) ∧ (k : Int) = 30) := by omega
        clear hlt HH HMr HBa HMs HUs
        rcases hor with h1 | ⟨h1, h2⟩
        · have hlt' : decide ((k : Int) < (tn : Int)) = false := by simp; omega
          go_wp2_with fail
          exact HEnd.out
        · have hlt' : decide ((k : Int) < 30) = false := by simp; omega
          go_wp2_with fail
          exact HEnd.out
end Go.Proofs.YtfedgcdkagngnaaGreat

/- What the reading of an array that came in by value says of its elements, each of one cell. -/
namespace Go.Proofs.YtfedgcdkagngnaaGreat
open Go.RowKit Go.ChangeShapes Go.WideShapes
set_option linter.unusedVariables false

section
variable {H : Type} {enc : TypeId × Value → H} {P : Program} {w : World} {base b0 : Nat} {r : Reach} {spare : Nat → Bool} {held : Bool}

theorem open_arr {t e : TypeId} {n : Nat} {v : Value} {d : DataW H} {p : List MemPlace} (hs : P.underlying t = some (.array n e)) (hone : P.cellsOf e = 1) (hC : P.cellsOf t = n)
    (hv : Value.okWide P w r b0 t v) (h : DataW.Trod enc P w base spare held t v d p) :
    ∃ (cs : Array Value) (m : Nat), v = .agg cs ∧ cs.size = n ∧ ∀ (i : Nat) (u : Value), cs[i]? = some u → ∃ y, DataW.trod enc P w base spare held m e [u] = some y := by
  simp only [Value.okWide, hs] at hv
  obtain ⟨cs, rfl, hsz, _⟩ := hv
  obtain ⟨fuel, hf⟩ := h
  obtain ⟨xs, m, _, _, _, hl, hel⟩ := DataW.trod_array hs hf
  refine ⟨cs, m, rfl, hsz.trans hC, fun i u hi => ?_⟩
  have hin : i < n := by have := (Array.getElem?_eq_some_iff.1 hi).1; omega
  have h1 := hel i hin
  have e1 : (((Value.agg cs).cells.toList.drop (i * P.cellsOf e)).take (P.cellsOf e)) = [u] := by
    rw [hone, Nat.mul_one]
    show (cs.toList.drop i).take 1 = [u]
    have hlt : i < cs.toList.length := by simpa using (Array.getElem?_eq_some_iff.1 hi).1
    rw [List.drop_eq_getElem_cons hlt]
    simp
    exact (Array.getElem?_eq_some_iff.1 hi).2
  rw [e1] at h1
  exact ⟨xs[i]'(by omega), by rw [h1]; exact List.getElem?_eq_getElem (by omega)⟩

theorem open_arr2 {t e : TypeId} {v : Value} {d : DataW H} {p : List MemPlace} (hs : P.underlying t = some (.array 2 e)) (hone : P.cellsOf e = 1) (hC : P.cellsOf t = 2)
    (hv : Value.okWide P w r b0 t v) (h : DataW.Trod enc P w base spare held t v d p) :
    ∃ (c0 c1 : Value) (m : Nat) (y0 y1 : DataW H × List MemPlace), v = .agg #[c0, c1] ∧ DataW.trod enc P w base spare held m e [c0] = some y0 ∧ DataW.trod enc P w base spare held m e [c1] = some y1 := by
  obtain ⟨cs, m, rfl, hsz, he⟩ := open_arr hs hone hC hv h
  obtain ⟨l⟩ := cs
  match l, hsz with
  | [c0, c1], _ =>
    obtain ⟨y0, h0⟩ := he 0 c0 rfl
    obtain ⟨y1, h1⟩ := he 1 c1 rfl
    exact ⟨c0, c1, m, y0, y1, rfl, h0, h1⟩
end

end Go.Proofs.YtfedgcdkagngnaaGreat

/- Slices of structs whose fields are all ints: what the reading of such an argument says. -/
namespace Go.Proofs.YtfedgcdkagngnaaGreat
open Go.RowKit Go.ChangeShapes Go.WideShapes Go.Deep
set_option linter.unusedVariables false

theorem wf_bounds {x : Int} (h : (Lit.int .i64 x).wf = true) : -9223372036854775808 ≤ x ∧ x ≤ 9223372036854775807 := by
  simp [Lit.wf, IntKind.min, IntKind.max, IntKind.bits, IntKind.signed] at h
  omega

/-- A list out of what each place holds. -/
theorem list_of {α : Type} (P : Nat → α → Prop) : ∀ n, (∀ i, i < n → ∃ x, P i x) → ∃ l : List α, l.length = n ∧ ∀ i x, l[i]? = some x → P i x
  | 0, _ => ⟨[], rfl, by simp⟩
  | n + 1, h => by
    obtain ⟨l, hl, hp⟩ := list_of P n (fun i hi => h i (by omega))
    obtain ⟨x, hx⟩ := h n (by omega)
    refine ⟨l ++ [x], by simp [hl], fun i y hy => ?_⟩
    by_cases hi : i < l.length
    · rw [List.getElem?_append_left hi] at hy; exact hp i y hy
    · rw [List.getElem?_append_right (by omega)] at hy
      have h0 : i - l.length = 0 := by
        have := (List.getElem?_eq_some_iff.1 hy).1; simp at this; omega
      rw [h0] at hy
      simp at hy
      subst hy
      rw [show i = n by omega]; exact hx

section
variable {H : Type} {enc : TypeId × Value → H} {P : Program} {w : World} {base : Nat} {spare : Nat → Bool} {held : Bool}

theorem ints_struct {e T : TypeId} {fs : Array Field} {n fuel : Nat} {us : List Value} {z : DataW H × List MemPlace} (he : P.underlying e = some (.struct fs)) (hT : P.underlying T = some (.int .i64)) (hc : P.cellsOf T = 1)
    (hF : ((List.range n).all fun j => match fs[j]? with | some f => f.type == T && f.offset == j | none => false) = true) (hlen : us.length = n) (hz : DataW.trod enc P w base spare held fuel e us = some z) :
    ∃ zs : List Int, zs.length = n ∧ us = zs.map (Value.int .i64) ∧ ∀ x ∈ zs, -9223372036854775808 ≤ x ∧ x ≤ 9223372036854775807 := by
  obtain ⟨ys, n', _, _, _, hyl, hf⟩ := DataW.trod_struct he hz
  have each : ∀ j, j < n → ∃ x : Int, us[j]? = some (.int .i64 x) ∧ (-9223372036854775808 ≤ x ∧ x ≤ 9223372036854775807) := by
    intro j hj
    have h1 := List.all_eq_true.1 hF j (List.mem_range.2 hj)
    cases hfj : fs[j]? with
    | none => rw [hfj] at h1; cases h1
    | some f =>
      rw [hfj] at h1
      simp only [Bool.and_eq_true, beq_iff_eq] at h1
      have h2 := hf j f hfj
      rw [h1.1, h1.2, hc] at h2
      have hjs : j < ys.length := by rw [hyl]; exact (Array.getElem?_eq_some_iff.1 hfj).1
      rw [List.getElem?_eq_getElem hjs] at h2
      have hju : j < us.length := by omega
      have h3 : (us.drop j).take 1 = [us[j]] := by rw [List.drop_eq_getElem_cons hju]; rfl
      rw [h3] at h2
      obtain ⟨x, hx, _, hw⟩ := DataW.trod_int hT h2
      have hx' : us[j] = .int .i64 x := by simpa using hx
      exact ⟨x, by rw [List.getElem?_eq_getElem hju, hx'], wf_bounds hw⟩
  obtain ⟨zs, hl, hp⟩ := list_of (fun j x => us[j]? = some (.int .i64 x) ∧ (-9223372036854775808 ≤ x ∧ x ≤ 9223372036854775807)) n each
  refine ⟨zs, hl, ?_, fun x hx => ?_⟩
  · apply List.ext_getElem?
    intro i
    by_cases hi : i < zs.length
    · rw [(hp i _ (List.getElem?_eq_getElem hi)).1, List.getElem?_map, List.getElem?_eq_getElem hi]; rfl
    · rw [List.getElem?_eq_none (by omega), List.getElem?_eq_none (by simp; omega)]
  · obtain ⟨i, hi, rfl⟩ := List.mem_iff_getElem.1 hx
    exact (hp i _ (List.getElem?_eq_getElem hi)).2

theorem recs_ints_read {α : Type} {f : α → List Value} {n : Nat} (hfl : ∀ x, (f x).length = n) (hn : 0 < n) (d : α) (mk : List Int → α) (hmk : ∀ zs : List Int, zs.length = n → f (mk zs) = zs.map (Value.int .i64))
    {t e T : TypeId} {fs : Array Field} {fuel : Nat} {v : Value} {y : DataW H × List MemPlace} (ht : P.underlying t = some (.slice e)) (he : P.underlying e = some (.struct fs)) (hT : P.underlying T = some (.int .i64)) (hC : P.cellsOf e = n) (hc : P.cellsOf T = 1)
    (hF : ((List.range n).all fun j => match fs[j]? with | some f => f.type == T && f.offset == j | none => false) = true) (h : DataW.trod enc P w base spare held fuel t [v] = some y) :
    ∃ (a : Option Addr) (len cap : Nat) (l : List α), v = .slice a len cap ∧ l.length = len ∧ Cells w a (recs f l) ∧ (∀ o ∈ l, ∃ zs : List Int, o = mk zs ∧ zs.length = n ∧ ∀ x ∈ zs, -9223372036854775808 ≤ x ∧ x ≤ 9223372036854775807) ∧ len ≤ maxLen := by
  obtain ⟨a, len, cap, m, rfl, hl, hm, hcs⟩ := elems_read ht hC hn h
  rcases hcs with rfl | ⟨b, off, rfl, hcs⟩
  · exact ⟨a, 0, cap, [], rfl, rfl, Cells.nil _ _, by simp, Nat.zero_le _⟩
  · have each : ∀ i, i < len → ∃ x : α, (∀ r u, (f x)[r]? = some u → w.cell? ⟨b, off + i * n + r, none⟩ = some u) ∧ ∃ zs : List Int, x = mk zs ∧ zs.length = n ∧ ∀ x ∈ zs, -9223372036854775808 ≤ x ∧ x ≤ 9223372036854775807 := by
      intro i hi
      obtain ⟨us, z, hlen, hat, hz⟩ := hcs i hi
      obtain ⟨zs, h1, h2, h3⟩ := ints_struct he hT hc hF hlen hz
      exact ⟨mk zs, fun r u hr => by rw [hmk zs h1, ← h2] at hr; exact hat r u hr, zs, rfl, h1, h3⟩
    obtain ⟨l, hll, hcl, hok⟩ := recs_of hfl hn d each
    exact ⟨_, len, cap, l, rfl, hll, hcl, hok, by omega⟩
end

end Go.Proofs.YtfedgcdkagngnaaGreat

/- ref01: Ints, of two that are alike; ref22: find, Reach. -/
namespace Go.Proofs.YtfedgcdkagngnaaGreat
open Go.RowKit Go.Maps
set_option linter.unusedVariables false

set_option maxHeartbeats 1000000 in
theorem rints_same {w : World} (a b : Option Addr) (n ca cb : Nat) (xs : List Nat) (hn : xs.length = n) (ha : Cells w a (xs.map vi)) (hb : Cells w b (xs.map vi)) (hl : n ≤ 1000000000) :
    Calls Tryz.prog 47 #[.slice a n ca, .slice b n cb] w (Gives (.bool true) w) := by
  have HP : Hid (∀ w', Below w.heap.size w w' → Gives (.bool true) w (.returned (.bool true)) w') := Lib.hid (fun w' h => ⟨rfl, h⟩)
  generalize Gives (.bool true) w = Post at *
  have HA := Lib.hid ha
  have HB := Lib.hid hb
  have HN := Lib.hid hn
  clear ha hb hn
  go_enter Tryz.func47, Tryz.ntmps47
  go_wp2_with fail
  go_loopw [4, 5] (fun f i wr => ∃ k : Nat, k ≤ n ∧ f = .bool false ∧ i = .int .i64 (k : Int) ∧ Hid (Below w.heap.size w wr)) (fun _ i _ => n - (intOf i).toNat)
  case atStart => exact ⟨0, Nat.zero_le _, rfl, rfl, Lib.hid (Below.refl _ _)⟩
  case round =>
    obtain ⟨k, hk, rfl, rfl, HBl⟩ := hrel
    by_cases hlt : k < n
    · have hlt' : (k : Int) < (n : Int) := by omega
      obtain ⟨b1, o1, rfl, _, hc1⟩ := (HA.out.below HBl.out (Nat.le_refl _)).at (i := k) (by rw [List.length_map, HN.out]; exact hlt)
      obtain ⟨b2, o2, rfl, _, hc2⟩ := (HB.out.below HBl.out (Nat.le_refl _)).at (i := k) (by rw [List.length_map, HN.out]; exact hlt)
      obtain ⟨x, hx⟩ : ∃ x, xs[k]? = some x := ⟨_, List.getElem?_eq_getElem (by rw [HN.out]; exact hlt)⟩
      have c1 := hc1 k (vi x) (by rw [List.getElem?_map, hx]; rfl)
      have c2 := hc2 k (vi x) (by rw [List.getElem?_map, hx]; rfl)
      have r1 := fun x => later_cell c1 x
      have r2 := fun x => later_cell c2 x
      clear hc1 hc2 hx c1 c2
      go_upto_region 6 with fail
      refine wp_region_later (by kernel_rfl) (by kernel_rfl) ?_
      repeat (quiet_step (fail))
      refine wpQuiet_nil ?_
      rintro w1 ⟨x1, hx1⟩
      have HB1 := Lib.hid (HBl.out.trans ((show Below wr.heap.size wr w1 by rw [hx1]; exact x1.below).mono HBl.out.size))
      clear hx1 r1 r2
      go_wp2_with fail
      exact ⟨⟨k + 1, by omega, rfl, vint (by omega), HB1⟩, by simp [intOf]; omega⟩
    · obtain rfl : k = n := by omega
      have hf : decide ((k : Int) < (k : Int)) = false := by simp
      go_wp2_with fail
      exact HP.out _ HBl.out

theorem contains_take_succ (xs : List Nat) (y k x : Nat) (hx : xs[k]? = some x) : (xs.take (k + 1)).contains y = ((xs.take k).contains y || (x == y)) := by
  have h1 := (List.getElem?_eq_some_iff.1 hx).1
  rw [List.take_succ_eq_append_getElem h1]
  have h2 : xs[k] = x := (List.getElem?_eq_some_iff.1 hx).2
  rw [h2]
  rw [Bool.eq_iff_iff]
  simp
  constructor
  · rintro (h | h)
    · exact .inl h
    · exact .inr h.symm
  · rintro (h | h)
    · exact .inl h
    · exact .inr h.symm
set_option maxHeartbeats 1000000 in
theorem rfind22_any {w : World} (a : Option Addr) (n ca : Nat) (xs : List Nat) (hn : xs.length = n) (ha : Cells w a (xs.map vi)) (hl : n ≤ 1000000000) (y : Nat) :
    Calls Tryz.prog 115 #[.slice a n ca, .int .i64 (y : Int)] w (Same1 (.bool (xs.contains y)) w) := by
  have HP : Hid (∀ f w', f = xs.contains y → w = w' → Same1 (.bool (xs.contains y)) w (.returned (.bool f)) w') := Lib.hid (fun f w' h1 h2 => by subst h1; exact ⟨rfl, h2⟩)
  generalize Same1 (.bool (xs.contains y)) w = Post at *
  have HA := Lib.hid ha
  have HN := Lib.hid hn
  clear ha hn
  go_enter Tryz.func115, Tryz.ntmps115
  go_wp2_with fail
  go_loopw [4, 5] (fun f i wr => ∃ k : Nat, k ≤ n ∧ f = .bool false ∧ i = .int .i64 (k : Int) ∧ Hid ((xs.take k).contains y = false) ∧ w = wr) (fun _ i _ => n - (intOf i).toNat)
  case atStart => exact ⟨0, Nat.zero_le _, rfl, rfl, Lib.hid (by simp), rfl⟩
  case round =>
    obtain ⟨k, hk, rfl, rfl, HNo, rfl⟩ := hrel
    by_cases hlt : k < n
    · have hlt' : (k : Int) < (n : Int) := by omega
      obtain ⟨b1, o1, rfl, _, hc1⟩ := HA.out.at (i := k) (by rw [List.length_map, HN.out]; exact hlt)
      obtain ⟨x, hx⟩ : ∃ x, xs[k]? = some x := ⟨_, List.getElem?_eq_getElem (by rw [HN.out]; exact hlt)⟩
      have c1 := hc1 k (vi x) (by rw [List.getElem?_map, hx]; rfl)
      have HT := Lib.hid (contains_take_succ xs y k x hx)
      have HMm := Lib.hid (List.mem_of_getElem? hx)
      clear hc1 hx
      by_cases e : x = y
      · subst e
        have HE : Hid (true = xs.contains x) := Lib.hid (List.contains_iff_mem.2 HMm.out).symm
        go_wp2_with fail
        exact HP.out _ _ HE.out rfl
      · have he : (((x : Nat) : Int) == ((y : Nat) : Int)) = false := by simp; omega
        have HT2 : Hid ((xs.take (k + 1)).contains y = false) := Lib.hid (by rw [HT.out, HNo.out]; simp [e])
        go_wp2_with fail
        exact ⟨⟨k + 1, by omega, rfl, vint (by omega), HT2, trivial⟩, by simp [intOf]; omega⟩
    · obtain rfl : k = n := by omega
      have hf : decide ((k : Int) < (k : Int)) = false := by simp
      have HE : Hid (false = xs.contains y) := Lib.hid (by have := HNo.out; rw [← HN.out, List.take_length] at this; exact this.symm)
      go_wp2_with fail
      exact HP.out _ _ HE.out rfl
end Go.Proofs.YtfedgcdkagngnaaGreat

/- Plain: digits in a base. -/
namespace Go.Proofs.YtfedgcdkagngnaaGreat
open Go.Lib (decDigits itoa nDigits)
set_option linter.unusedVariables false

end Go.Proofs.YtfedgcdkagngnaaGreat

/- The document's Text of a number (ref31). -/
namespace Go.Proofs.YtfedgcdkagngnaaGreat
open Go.RowKit
set_option linter.unusedVariables false
open Go.Lib (decDigits itoa nDigits)

end Go.Proofs.YtfedgcdkagngnaaGreat

/- dump: digits, Number, Hex; the document's Hex. -/
namespace Go.Proofs.YtfedgcdkagngnaaGreat
open Go.RowKit
set_option linter.unusedVariables false
open Go.Lib (decDigits itoa nDigits)

end Go.Proofs.YtfedgcdkagngnaaGreat

/- dump: Number, Hex; the document's Number, Hex. -/
namespace Go.Proofs.YtfedgcdkagngnaaGreat
open Go.RowKit
set_option linter.unusedVariables false
open Go.Lib (decDigits itoa nDigits)

section
variable {P : Program} {w : World} {ops : Array Oper} {rest : List Oper} {o : Oper} {a : Act} {Q : Exit → Act → World → Prop}
end

end Go.Proofs.YtfedgcdkagngnaaGreat

/- laid -/
/-
  DERIVED: THE SHELF's CONTRACTS AT THIS DUMP, IN PLAIN WORDS (tools/lay-plain.mjs out of 'TmpShelf.lean', which tools/lay-shelf.mjs wrote): THE SAME DECLARATIONS UNDER THE SAME NAMES: 'import', 'namespace', 'open', 'def', 'theorem' AND NOTHING ELSE: no command of the shelf's: FOR A HAND-IN. Each laying: the table of numbers ('.._ren') and one theorem, a field a fact of the dump's own or the kernel's comparison; each contract: ONE APPLICATION.
-/
namespace Go.Proofs
open Go.Shelf
end Go.Proofs

/- strings.Builder's contracts, laid at this program. -/
namespace Go.Proofs.YtfedgcdkagngnaaGreat
open Go.RowKit Go.Shelf
set_option linter.unusedVariables false

end Go.Proofs.YtfedgcdkagngnaaGreat

/- strings.Builder: WriteByte, laid at this program; builders while other blocks are made. -/
namespace Go.Proofs.YtfedgcdkagngnaaGreat
open Go.RowKit Go.Shelf
set_option linter.unusedVariables false

end Go.Proofs.YtfedgcdkagngnaaGreat

/- dump: sign, Map; the document's. -/
namespace Go.Proofs.YtfedgcdkagngnaaGreat
open Go.RowKit
set_option linter.unusedVariables false

/-- Is a line's end behind a block? -/
def nlB (wd : Int) (b B : Nat) : Prop := 0 < wd ∧ (b : Int) % wd = 0 ∧ (b : Int) < (B : Int) - 1
instance (wd : Int) (b B : Nat) : Decidable (nlB wd b B) := by unfold nlB; infer_instance
end Go.Proofs.YtfedgcdkagngnaaGreat

/- dump: Object. -/
namespace Go.Proofs.YtfedgcdkagngnaaGreat
open Go.RowKit
set_option linter.unusedVariables false
open Go.Lib (decDigits itoa nDigits)

end Go.Proofs.YtfedgcdkagngnaaGreat

/- ref33: datas, Object. -/
namespace Go.Proofs.YtfedgcdkagngnaaGreat
open Go.RowKit
set_option linter.unusedVariables false
open Go.Lib (decDigits itoa nDigits)

end Go.Proofs.YtfedgcdkagngnaaGreat
