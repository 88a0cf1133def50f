/- Parts of the proof, one behind the other: Tb, Tc, Td, Te, Wp, Tf. -/
import Derived.Test.YtfedgcdkagngnaaGreatDS12

namespace Go.Proofs.YtfedgcdkagngnaaGreat
set_option linter.unusedVariables false

def CntOk (U : List Bool) (l : List Nat) (C : Int → Option Int) : Prop := ∀ y : Nat, U.getD y false = true → (C (y : Int)).getD 0 = ((l.count y : Nat) : Int)
theorem CntOk.nil (U : List Bool) : CntOk U [] (fun _ => none) := fun y _ => rfl
theorem CntOk.one {U : List Bool} {l : List Nat} {C : Int → Option Int} (h : CntOk U l C) {x : Nat} (hx : U.getD x false = true) : CntOk U (l ++ [x]) (fun z => if z = (x : Int) then some ((C (x : Int)).getD 0 + 1) else C z) := by
  intro y hy
  dsimp only
  by_cases e : y = x
  · subst e
    rw [if_pos rfl, h y hy, List.count_append]; simp
  · rw [if_neg (by omega), h y hy, List.count_append]
    have : List.count y [x] = 0 := List.count_eq_zero.2 (by simpa using e)
    rw [this]; rfl
theorem CntOk.skip {U : List Bool} {l : List Nat} {C : Int → Option Int} (h : CntOk U l C) {x : Nat} (hx : U.getD x false = false) : CntOk U (l ++ [x]) C := by
  intro y hy
  rw [h y hy, List.count_append]
  have : List.count y [x] = 0 := List.count_eq_zero.2 (by simp; intro e; subst e; rw [hx] at hy; cases hy)
  rw [this]; rfl
def degOf (P : Nat → List Nat) (xs : List Nat) (y : Nat) : Nat := (xs.flatMap P).count y
theorem flat_take (P : Nat → List Nat) (xs : List Nat) (k x : Nat) (hx : xs[k]? = some x) : (xs.take (k + 1)).flatMap P = (xs.take k).flatMap P ++ P x := by
  have h1 := (List.getElem?_eq_some_iff.1 hx).1
  rw [List.take_succ_eq_append_getElem h1, (List.getElem?_eq_some_iff.1 hx).2, List.flatMap_append]
  simp
theorem take_one {l : List Nat} {k x : Nat} (hx : l[k]? = some x) : l.take (k + 1) = l.take k ++ [x] := by
  have h1 := (List.getElem?_eq_some_iff.1 hx).1
  rw [List.take_succ_eq_append_getElem h1, (List.getElem?_eq_some_iff.1 hx).2]

theorem takeNew_take (ok : Nat → Bool) (seen l : List Nat) (k x : Nat) (hx : l[k]? = some x) :
    takeNew ok seen (l.take (k + 1)) = if ok x && !(takeNew ok seen (l.take k)).1.contains x then ((takeNew ok seen (l.take k)).1 ++ [x], (takeNew ok seen (l.take k)).2 ++ [x]) else takeNew ok seen (l.take k) := by
  rw [take_one hx, takeNew_append, takeNew_one]
  split
  · rfl
  · simp
theorem takeNew_ok (ok : Nat → Bool) (l seen : List Nat) (h : ∀ x ∈ seen, ok x = true) : ∀ x ∈ (takeNew ok seen l).1, ok x = true := by
  intro x hx
  rw [takeNew_fst] at hx
  rcases List.mem_append.1 hx with c | c
  · exact h x c
  · exact (takeNew_in ok l seen x c).1
structure LvOk (ok : Nat → Bool) (s : List Nat × List Nat) : Prop where
  nd : s.1.Nodup
  ok : ∀ x ∈ s.1, ok x = true
  sub : ∀ x ∈ s.2, x ∈ s.1
theorem LvOk.first (ok : Nat → Bool) (l : List Nat) : LvOk ok (takeNew ok [] l) :=
  ⟨takeNew_nodup ok l [] List.nodup_nil, takeNew_ok ok l [] (by simp), fun x hx => by rw [takeNew_fst]; exact List.mem_append_right _ hx⟩
theorem LvOk.next {ok : Nat → Bool} {s : List Nat × List Nat} (h : LvOk ok s) (l : List Nat) : LvOk ok (takeNew ok s.1 l) :=
  ⟨takeNew_nodup ok l _ h.nd, takeNew_ok ok l _ h.ok, fun x hx => by rw [takeNew_fst]; exact List.mem_append_right _ hx⟩
theorem LvOk.levels {ok : Nat → Bool} {P : Nat → List Nat} {s : List Nat × List Nat} (h : LvOk ok s) : ∀ n, LvOk ok (levels ok P n s)
  | 0 => h
  | n + 1 => (LvOk.levels h n).next _
theorem LvOk.len {U : List Bool} {s : List Nat × List Nat} (h : LvOk (fun x => U.getD x false) s) : s.1.length ≤ U.length := nodup_len _ _ (fun x hx => getD_true_lt (h.ok x hx)) (nodup_count h.nd)
theorem takeNew_len (ok : Nat → Bool) (seen l : List Nat) : (takeNew ok seen l).1.length = seen.length + (takeNew ok seen l).2.length := by rw [takeNew_fst, List.length_append]
theorem takeNew_le (ok : Nat → Bool) : ∀ (l seen : List Nat), (takeNew ok seen l).2.length ≤ l.length
  | [], seen => by simp [takeNew]
  | x :: l, seen => by
    rw [takeNew_cons]
    split
    · have := takeNew_le ok l (seen ++ [x]); simp; omega
    · have := takeNew_le ok l seen; simp; omega
def LvEnd (ok : Nat → Bool) (P : Nat → List Nat) (s : List Nat × List Nat) (K : Nat) : Prop := (∀ t, t < K → (levels ok P t s).2 ≠ []) ∧ (levels ok P K s).2 = []
theorem LvEnd.one {ok : Nat → Bool} {P : Nat → List Nat} {s : List Nat × List Nat} {n k : Nat} (h : LvEnd ok P s n) (h' : LvEnd ok P s k) : n = k := by
  rcases Nat.lt_trichotomy n k with c | c | c
  · exact absurd h.2 (h'.1 n c)
  · exact c
  · exact absurd h'.2 (h.1 k c)
end Go.Proofs.YtfedgcdkagngnaaGreat

namespace Go.Proofs.YtfedgcdkagngnaaGreat
open Go.RowKit Go.Maps
set_option linter.unusedVariables false

set_option maxHeartbeats 1000000 in
theorem rhas32_any {w : World} (a : Option Addr) (n ca : Nat) (xs : List Nat) (hn : xs.length = n) (ha : Cells w a (xs.map vi)) (hl : n ≤ 1000000000) (y : Nat) :
    Calls Tryz.prog 101 #[.slice a n ca, .int .i64 (y : Int)] w (Same1 (.bool (xs.contains y)) w) := by
  have HP : Hid (∀ f w', f = xs.contains y → w = w' → Same1 (.bool (xs.contains y)) w (.returned (.bool f)) w') := Lib.hid (fun f w' h1 h2 => by subst h1; exact ⟨rfl, h2⟩)
  generalize Same1 (.bool (xs.contains y)) w = Post at *
  have HA := Lib.hid ha
  have HN := Lib.hid hn
  clear ha hn
  go_enter Tryz.func101, Tryz.ntmps101
  go_wp2_with fail
  go_loopw [4, 5] (fun f i wr => ∃ k : Nat, k ≤ n ∧ f = .bool false ∧ i = .int .i64 (k : Int) ∧ Hid ((xs.take k).contains y = false) ∧ w = wr) (fun _ i _ => n - (intOf i).toNat)
  case atStart => exact ⟨0, Nat.zero_le _, rfl, rfl, Lib.hid (by simp), rfl⟩
  case round =>
    obtain ⟨k, hk, rfl, rfl, HNo, rfl⟩ := hrel
    by_cases hlt : k < n
    · have hlt' : (k : Int) < (n : Int) := by omega
      obtain ⟨b1, o1, rfl, _, hc1⟩ := HA.out.at (i := k) (by rw [List.length_map, HN.out]; exact hlt)
      obtain ⟨x, hx⟩ : ∃ x, xs[k]? = some x := ⟨_, List.getElem?_eq_getElem (by rw [HN.out]; exact hlt)⟩
      have c1 := hc1 k (vi x) (by rw [List.getElem?_map, hx]; rfl)
      have HT := Lib.hid (contains_take_succ xs y k x hx)
      have HMm := Lib.hid (List.mem_of_getElem? hx)
      clear hc1 hx
      by_cases e : x = y
      · subst e
        have HE : Hid (true = xs.contains x) := Lib.hid (List.contains_iff_mem.2 HMm.out).symm
        go_wp2_with fail
        exact HP.out _ _ HE.out rfl
      · have he : (((x : Nat) : Int) == ((y : Nat) : Int)) = false := by simp; omega
        have HT2 : Hid ((xs.take (k + 1)).contains y = false) := Lib.hid (by rw [HT.out, HNo.out]; simp [e])
        go_wp2_with fail
        exact ⟨⟨k + 1, by omega, rfl, vint (by omega), HT2, trivial⟩, by simp [intOf]; omega⟩
    · obtain rfl : k = n := by omega
      have hf : decide ((k : Int) < (k : Int)) = false := by simp
      have HE : Hid (false = xs.contains y) := Lib.hid (by have := HNo.out; rw [← HN.out, List.take_length] at this; exact this.symm)
      go_wp2_with fail
      exact HP.out _ _ HE.out rfl

def dgA (P : Nat → List Nat) (us : List Nat) (y i : Nat) : Nat := ((us.take i).flatMap P).count y
theorem dgA_succ (P : Nat → List Nat) (us : List Nat) (y i x : Nat) (hx : us[i]? = some x) : dgA P us y (i + 1) = dgA P us y i + (P x).count y := by
  unfold dgA; rw [flat_take P us i x hx, List.count_append]
theorem count_take_one (l : List Nat) (y k x : Nat) (hx : l[k]? = some x) : (l.take (k + 1)).count y = (l.take k).count y + if x = y then 1 else 0 := by
  rw [take_one hx, List.count_append]
  congr 1
  by_cases e : x = y
  · subst e; simp
  · rw [if_neg e]; exact List.count_eq_zero.2 (by simp; exact fun h => e h.symm)
theorem flat_len {P : Nat → List Nat} {n : Nat} (h : ∀ x, (P x).length ≤ n) : ∀ l : List Nat, (l.flatMap P).length ≤ n * l.length
  | [] => by simp
  | x :: l => by rw [List.flatMap_cons, List.length_append, List.length_cons, Nat.mul_succ]; have := flat_len h l; have := h x; omega

set_option maxHeartbeats 4000000 in
set_option maxRecDepth 100000 in
theorem rdegree_any {w : World} {v : Value} {S : Dev} {mm : Nat} (hm : S.dirty.length = mm) (h : RAt w v mm S.ref) {N : Nat} (hf : S.fit N) (hS : S.cache.length ≤ 1000000)
    (au : Option Addr) (un cu : Nat) (us : List Nat) (hun : us.length = un) (hcu : Cells w au (us.map vi)) (hul : un ≤ 100000) (y : Nat) :
    Calls Tryz.prog 27 #[v, .slice au un cu, .int .i64 (y : Int)] w (Gives (.int .i64 ((degOf (fun x : Nat => ptrsD S (x : Int)) us y : Nat) : Int)) w) := by
  have HP : Hid (∀ z w', z = ((degOf (fun x : Nat => ptrsD S (x : Int)) us y : Nat) : Int) → Below w.heap.size w w' → Gives (.int .i64 ((degOf (fun x : Nat => ptrsD S (x : Int)) us y : Nat) : Int)) w (.returned (.int .i64 z)) w') := Lib.hid (fun z w' h1 h2 => by subst h1; exact ⟨rfl, h2⟩)
  generalize Gives (.int .i64 ((degOf (fun x : Nat => ptrsD S (x : Int)) us y : Nat) : Int)) w = Post at *
  have HPt := Lib.hid (fun w' (h : RAt w' v mm S.ref) (x : Nat) => rptrs22_any hm h hf (x : Int))
  have HPl : Hid (∀ x : Nat, (ptrsD S (x : Int)).length ≤ 64) := Lib.hid (fun x => ptrsD_len hS _)
  obtain ⟨D, rfl⟩ := h.agg
  obtain ⟨hD8, hD1⟩ := h.arr
  have HM := Lib.hid (Mem.one w D 34)
  have HR0 := Lib.hid (h.below HM.out.below (Nat.le_refl _))
  have HCu0 := Lib.hid (hcu.below HM.out.below (Nat.le_refl _))
  have HUn := Lib.hid hun
  have HDb : Hid (∀ i, i ≤ un → dgA (fun x : Nat => ptrsD S (x : Int)) us y i ≤ 6400000) := Lib.hid (fun i hi => by
    have h1 : dgA (fun x : Nat => ptrsD S (x : Int)) us y i ≤ ((us.take i).flatMap (fun x : Nat => ptrsD S (x : Int))).length := List.count_le_length
    have h2 := flat_len (P := fun x : Nat => ptrsD S (x : Int)) (n := 64) (fun x => HPl.out x) (us.take i)
    have h3 : (us.take i).length ≤ i := by rw [List.length_take]; omega
    omega)
  have HDz : Hid (dgA (fun x : Nat => ptrsD S (x : Int)) us y 0 = 0) := Lib.hid (by simp [dgA])
  have HDe : Hid (degOf (fun x : Nat => ptrsD S (x : Int)) us y = dgA (fun x : Nat => ptrsD S (x : Int)) us y un) := Lib.hid (by unfold dgA; rw [← hun, List.take_length]; rfl)
  have HDs : Hid (∀ i x : Nat, us[i]? = some x → dgA (fun x : Nat => ptrsD S (x : Int)) us y (i + 1) = dgA (fun x : Nat => ptrsD S (x : Int)) us y i + (ptrsD S (x : Int)).count y) := Lib.hid (fun i x hx => dgA_succ _ us y i x hx)
  rw [HDe.out] at HP
  generalize dgA (fun x : Nat => ptrsD S (x : Int)) us y = dg at *
  clear h hf hm hun hcu hS HDe
  go_enter Tryz.func27, Tryz.ntmps27
  go_upto_region 1 with fail
  generalize w.alloc _ = w0 at *
  obtain ⟨q, hq⟩ : ∃ q, q = w.heap.size := ⟨_, rfl⟩
  rw [← hq] at HM ⊢
  clear hq
  go_wp2_with fail
  go_loopw [7, 8] (fun nv iv wr => ∃ i : Nat, i ≤ un ∧ nv = .int .i64 ((dg i : Nat) : Int) ∧ iv = .int .i64 (i : Int) ∧ Hid (Below w0.heap.size w0 wr)) (fun _ iv _ => un - (intOf iv).toNat)
  case atStart => exact ⟨0, Nat.zero_le _, by rw [HDz.out]; rfl, rfl, Lib.hid (Below.refl _ _)⟩
  case round =>
    obtain ⟨i, hi, rfl, rfl, HB⟩ := hrel
    have hdi := HDb.out i hi
    by_cases hlt : i < un
    · have hlt' : (i : Int) < (un : Int) := by omega
      have HMr := Lib.hid (HM.out.later HB.out)
      have HRr := Lib.hid (HR0.out.below HB.out (Nat.le_refl _))
      obtain ⟨b1, o1, e1, _, hc1⟩ := (HCu0.out.below HB.out (Nat.le_refl _)).at (i := i) (by rw [List.length_map, HUn.out]; exact hlt)
      subst e1
      obtain ⟨x, hx⟩ : ∃ x, us[i]? = some x := ⟨_, List.getElem?_eq_getElem (by rw [HUn.out]; exact hlt)⟩
      have cx := hc1 i (vi x) (by rw [List.getElem?_map, hx]; rfl)
      have HSc := Lib.hid (HDs.out i x hx)
      have HPx := Lib.hid (HPl.out x)
      have HPt2 := Lib.hid (fun w' h => HPt.out w' h x)
      have hld : ∀ w', (∃ x : Later wr, w' = x.val) → ∀ i v, D.toList[i]? = some v → w'.cell? ⟨q, 0 + i, none⟩ = some v := by
        rintro _ ⟨x, rfl⟩ i v hi
        rw [Nat.zero_add]
        exact later_cell (HMr.out.cell 0 i rfl hi) x
      have r1 := fun x => later_cell cx x
      generalize ptrsD S (x : Int) = P at *
      clear hc1 hx
      go_upto_region 5 with fail
      refine wp_region_seg (C := fun w' => ∃ x : Later (wr), w' = x.val) [.fl [0, 1, 2, 3, 4], .sq [5, 6] false] (by kernel_rfl) (by kernel_rfl) (by intro c a d v w h; cases d <;> exact h) ?_
      simp only [segs, picks, List.getElem?_cons_succ, List.getElem?_cons_zero]
      have hC1 := later_drew (wr)
      refine wpSeg_fl hC1 ?_
      repeat (first | (refine wpQuiet_load_arr aggRd D hld hD8 rfl rfl rfl ?_) | go_big_quiet_step (fail) | quiet_step (fail))
      refine wpQuiet_nil ?_
      have HB6 := Lib.hid (HB.out.trans ((later_below hC1).mono HB.out.size))
      have HR6 := Lib.hid (HRr.out.below (later_below hC1) (Nat.le_refl _))
      clear r1 hld cx hC1 HB HRr HMr
      generalize wr.drew = w6 at *
      refine wpSeg_last ?_
      go_wp2_with fail
      refine (HPt2.out _ HR6.out).mono ?_
      rintro e w7 ⟨ap, cp, rfl, hcp, hb7⟩
      have HB7 := Lib.hid (HB6.out.trans (hb7.mono HB6.out.size))
      have HCp := Lib.hid hcp
      obtain ⟨pl, hpl⟩ : ∃ pl, pl = P.length := ⟨_, rfl⟩
      rw [← hpl] at HPx ⊢
      have HPn := Lib.hid hpl
      have hp64 : pl ≤ 64 := HPx.out
      clear hcp hb7 hpl HB6 HR6
      go_wp2_with fail
      go_loopw [7, 10] (fun nv kv wr => ∃ k : Nat, k ≤ pl ∧ nv = .int .i64 ((dg i + (P.take k).count y : Nat) : Int) ∧ kv = .int .i64 (k : Int) ∧ Hid (Below w7.heap.size w7 wr)) (fun _ kv _ => pl - (intOf kv).toNat)
      case atStart => exact ⟨0, Nat.zero_le _, rfl, rfl, Lib.hid (Below.refl _ _)⟩
      case round =>
        obtain ⟨k, hk, rfl, rfl, HBk⟩ := hrel
        have hck : (P.take k).count y ≤ k := Nat.le_trans List.count_le_length (by rw [List.length_take]; omega)
        by_cases hlt : k < pl
        · have hlt' : (k : Int) < (pl : Int) := by omega
          obtain ⟨b2, o2, e2, _, hc2⟩ := (HCp.out.below HBk.out (Nat.le_refl _)).at (i := k) (by rw [List.length_map, ← HPn.out]; exact hlt)
          subst e2
          obtain ⟨z, hz⟩ : ∃ z, P[k]? = some z := ⟨_, List.getElem?_eq_getElem (by rw [← HPn.out]; exact hlt)⟩
          have cz := hc2 k (vi z) (by rw [List.getElem?_map, hz]; rfl)
          have HCt := Lib.hid (count_take_one P y k z hz)
          generalize (P.take k).count y = ct at *
          generalize hdd : dg i = di at *
          clear hc2 hz hdd
          by_cases e : z = y
          · subst e
            rw [if_pos rfl] at HCt
            go_wp2_with fail
            refine ⟨⟨k + 1, by omega, ?_, vint (by omega), HBk⟩, by simp [intOf]; omega⟩
            rw [HCt.out]; exact vint (by push_cast; omega)
          · have he : (((z : Nat) : Int) == ((y : Nat) : Int)) = false := by simp; omega
            rw [if_neg e] at HCt
            go_wp2_with fail
            refine ⟨⟨k + 1, by omega, ?_, vint (by omega), HBk⟩, by simp [intOf]; omega⟩
            rw [HCt.out]; exact vint (by push_cast; omega)
        · obtain rfl : k = pl := by omega
          have hlt' : decide ((k : Int) < (k : Int)) = false := by simp
          have HTk : Hid (P.take k = P) := Lib.hid (by rw [HPn.out, List.take_length])
          have HBz := Lib.hid (HB7.out.trans (HBk.out.mono HB7.out.size))
          rw [HTk.out] at hck ⊢
          go_wp2_with fail
          refine ⟨⟨i + 1, by omega, ?_, vint (by omega), HBz⟩, by simp [intOf]; omega⟩
          rw [HSc.out]
    · obtain rfl : i = un := by omega
      have hlt' : decide ((i : Int) < (i : Int)) = false := by simp
      have HBz := Lib.hid (HM.out.below.trans (HB.out.mono HM.out.below.size))
      go_wp2_with fail
      exact HP.out _ _ rfl HBz.out

theorem Rows2.symm {B : Nat} {v u : Value} (h : Rows2 B v u) : Rows2 B u v := ⟨h.two, h.one, fun b b' h1 h2 e => h.ne b' b h2 h1 e.symm⟩
theorem Rows2.app {B : Nat} {w wa w2 : World} {v u v2 : Value} {L : List Nat} (hr : Rows2 B v u) (hu : OwnI w u L) (hb : Below w.heap.size w wa) (hB : B ≤ w.heap.size) (g : wa.grownBy w2 (rowOf v)) (h2 : ∀ b, rowOf v2 = some b → rowOf v = some b ∨ b = wa.heap.size) :
    OwnI w2 u L ∧ Rows2 B v2 u ∧ Below B w w2 := by
  have hs := hb.size
  refine ⟨hu.keep (fun b hb' => (g.block b (Nat.lt_of_lt_of_le (hu.lt b hb') hs) (fun e => hr.ne b b e.symm hb' rfl)).trans (hb.block b (hu.lt b hb'))), ⟨fun b hb' => ?_, hr.two, fun b b' h1 h3 e => ?_⟩, ⟨g.os.trans hb.os, g.tape.trans hb.tape, g.output.trans hb.output, Nat.le_trans hs g.size, fun k hk => (g.block k (by omega) (fun e => ?_)).trans (hb.block k (by omega))⟩⟩
  · rcases h2 b hb' with c | c
    · exact hr.one b c
    · omega
  · rcases h2 b h1 with c | c
    · exact hr.ne b b' c h3 e
    · have := hu.lt b' h3; omega
  · have := hr.one k e.symm; omega
theorem Cells.blk {w w' : World} {a : Option Addr} {vs : List Value} (h : Cells w a vs) (hk : ∀ x, a = some x → w'.heap[x.block]? = w.heap[x.block]?) : Cells w' a vs := by
  rcases h with h | ⟨b, off, rfl, h⟩
  · exact .inl h
  · refine .inr ⟨b, off, rfl, fun i v hi => ?_⟩
    have h1 := h i v hi
    have h2 := hk _ rfl
    dsimp only at h2
    unfold World.cell? at h1 ⊢
    dsimp only at h1 ⊢
    rw [h2]; exact h1
theorem OwnI.addr {w : World} {a : Option Addr} {l c : Nat} {xs : List Nat} (h : OwnI w (.slice a l c) xs) (hne : xs ≠ []) : ∀ x, a = some x → rowOf (.slice a l c) = some x.block := by
  rintro x rfl
  obtain ⟨a', c', e, _, h1, _⟩ := h.cells
  injection e with _ _ e3
  have : 0 < xs.length := List.length_pos_iff.2 hne
  show (if c = 0 then none else some x.block) = some x.block
  rw [if_neg (by omega)]

structure DLv (B : Nat) (w0 w : World) (a8 : Option Addr) (lv : List Nat) (v7 v10 : Value) (S N : List Nat) : Prop where
  lo : Below B w0 w
  hB : B ≤ w0.heap.size
  own7 : OwnI w v7 S
  own10 : OwnI w v10 N
  rows : Rows2 B v7 v10
  cells : Cells w a8 (lv.map vi)
  away : lv ≠ [] → ∀ x, a8 = some x → x.block < w.heap.size ∧ rowOf v7 ≠ some x.block ∧ rowOf v10 ≠ some x.block
section
variable {B : Nat} {w0 w w' wa w2 : World} {a8 : Option Addr} {lv : List Nat} {v7 v10 v2 : Value} {S N : List Nat} {x : Nat}
theorem DLv.bs (h : DLv B w0 w a8 lv v7 v10 S N) : B ≤ w.heap.size := Nat.le_trans h.hB h.lo.size
theorem DLv.later (h : DLv B w0 w a8 lv v7 v10 S N) (hb : Below w.heap.size w w') : DLv B w0 w' a8 lv v7 v10 S N :=
  ⟨h.lo.trans (hb.mono h.bs), h.hB, h.own7.keep (fun b hb' => hb.block b (h.own7.lt b hb')), h.own10.keep (fun b hb' => hb.block b (h.own10.lt b hb')), h.rows, h.cells.below hb (Nat.le_refl _), fun hn x hx => (h.away hn x hx).imp (fun c => Nat.lt_of_lt_of_le c hb.size) id⟩
theorem DLv.lvl (h : DLv B w0 w a8 lv v7 v10 S N) (hb : Below w.heap.size w wa) {v : Value} (hv : v = v7 ∨ v = v10) (g : wa.grownBy w2 (rowOf v)) (hs : wa.heap.size ≤ w2.heap.size) (h2 : ∀ b, rowOf v2 = some b → rowOf v = some b ∨ b = wa.heap.size) :
    Cells w2 a8 (lv.map vi) ∧ (lv ≠ [] → ∀ x, a8 = some x → x.block < w2.heap.size ∧ rowOf v2 ≠ some x.block) := by
  by_cases hn : lv = []
  · subst hn; exact ⟨.inl rfl, fun h => absurd rfl h⟩
  · have key : ∀ x, a8 = some x → x.block < w.heap.size ∧ rowOf v ≠ some x.block := fun x hx => by
      obtain ⟨h1, h3, h4⟩ := h.away hn x hx
      rcases hv with rfl | rfl
      · exact ⟨h1, h3⟩
      · exact ⟨h1, h4⟩
    have := hb.size
    refine ⟨h.cells.blk (fun x hx => ?_), fun _ x hx => ?_⟩
    · obtain ⟨h1, h3⟩ := key x hx
      exact (g.block x.block (by omega) (fun e => h3 e.symm)).trans (hb.block _ h1)
    · obtain ⟨h1, h3⟩ := key x hx
      refine ⟨by omega, fun e => ?_⟩
      rcases h2 _ e with c | c
      · exact h3 c
      · omega
theorem DLv.app7 (h : DLv B w0 w a8 lv v7 v10 S N) (hb : Below w.heap.size w wa) (ho : OwnI w2 v2 (S ++ [x])) (g : wa.grownBy w2 (rowOf v7)) (h2 : ∀ b, rowOf v2 = some b → rowOf v7 = some b ∨ b = wa.heap.size) : DLv B w0 w2 a8 lv v2 v10 (S ++ [x]) N := by
  obtain ⟨h3, h4, h5⟩ := h.rows.app h.own10 hb h.bs g h2
  obtain ⟨h6, h7⟩ := h.lvl hb (.inl rfl) g g.size h2
  exact ⟨h.lo.trans h5, h.hB, ho, h3, h4, h6, fun hn y hy => ⟨(h7 hn y hy).1, (h7 hn y hy).2, (h.away hn y hy).2.2⟩⟩
theorem DLv.app10 (h : DLv B w0 w a8 lv v7 v10 S N) (hb : Below w.heap.size w wa) (ho : OwnI w2 v2 (N ++ [x])) (g : wa.grownBy w2 (rowOf v10)) (h2 : ∀ b, rowOf v2 = some b → rowOf v10 = some b ∨ b = wa.heap.size) : DLv B w0 w2 a8 lv v7 v2 S (N ++ [x]) := by
  obtain ⟨h3, h4, h5⟩ := h.rows.symm.app h.own7 hb h.bs g h2
  obtain ⟨h6, h7⟩ := h.lvl hb (.inr rfl) g g.size h2
  exact ⟨h.lo.trans h5, h.hB, h3, ho, h4.symm, h6, fun hn y hy => ⟨(h7 hn y hy).1, (h.away hn y hy).2.1, (h7 hn y hy).2⟩⟩
end

def lvIn (ok : Nat → Bool) (P : Nat → List Nat) (fr : List Nat) : Nat → List Nat
  | 0 => fr
  | t + 1 => (levels ok P t (takeNew ok [] fr)).2.flatMap P
def lvS (ok : Nat → Bool) (P : Nat → List Nat) (fr : List Nat) : Nat → List Nat
  | 0 => []
  | t + 1 => (levels ok P t (takeNew ok [] fr)).1
theorem lv_round (ok : Nat → Bool) (P : Nat → List Nat) (fr : List Nat) (t : Nat) : levels ok P t (takeNew ok [] fr) = takeNew ok (lvS ok P fr t) (lvIn ok P fr t) := by
  cases t with
  | zero => rfl
  | succ t => rfl
theorem lv_ge {ok : Nat → Bool} {P : Nat → List Nat} {fr : List Nat} : ∀ t, (∀ j, j < t → (levels ok P j (takeNew ok [] fr)).2 ≠ []) → t ≤ (lvS ok P fr t).length
  | 0, _ => Nat.zero_le _
  | t + 1, h => by
    have h1 := lv_ge t (fun j hj => h j (by omega))
    have h2 : 0 < (levels ok P t (takeNew ok [] fr)).2.length := List.length_pos_iff.2 (h t (Nat.lt_succ_self t))
    show t + 1 ≤ (levels ok P t (takeNew ok [] fr)).1.length
    rw [lv_round] at h2 ⊢
    rw [takeNew_len]; omega
theorem lvS_len {U : List Bool} {P : Nat → List Nat} {fr : List Nat} (t : Nat) : (lvS (fun x => U.getD x false) P fr t).length ≤ U.length := by
  cases t with
  | zero => simp [lvS]
  | succ t => exact ((LvOk.first _ fr).levels t).len
def DepthPost (U : List Bool) (P : Nat → List Nat) (fr : List Nat) (w : World) : Ending → World → Prop := fun e w' => ∃ K, LvEnd (fun x => U.getD x false) P (takeNew (fun x => U.getD x false) [] fr) K ∧ e = .returned (.int .i64 ((K - 1 : Nat) : Int)) ∧ Below w.heap.size w w'

set_option maxHeartbeats 8000000 in
set_option maxRecDepth 100000 in
theorem rdepth_any {w : World} {v : Value} {S : Dev} {mm : Nat} (hm : S.dirty.length = mm) (h : RAt w v mm S.ref) {N : Nat} (hf : S.fit N) (hS : S.cache.length ≤ 1000000) (U : List Bool) (hU : U.length ≤ 100000)
    (au : Option Addr) (un cu : Nat) (us : List Nat) (hun : us.length = un) (hcu : Cells w au (us.map vi)) (hul : un ≤ 100000) (hus : ∀ x, us.contains x = U.getD x false)
    (af : Option Addr) (fn cf : Nat) (fs : List Nat) (hfn : fs.length = fn) (hcf : Cells w af (fs.map vi)) (hfb : fs ≠ [] → ∀ x, af = some x → x.block < w.heap.size) (hfl : fn ≤ 20) :
    Calls Tryz.prog 30 #[v, .slice au un cu, .slice af fn cf] w (DepthPost U (fun x : Nat => ptrsD S (x : Int)) fs w) := by
  have HP : Hid (∀ (K : Nat) (z : Int) (w' : World), LvEnd (fun x => U.getD x false) (fun x : Nat => ptrsD S (x : Int)) (takeNew (fun x => U.getD x false) [] fs) K → z = ((K - 1 : Nat) : Int) → Below w.heap.size w w' → DepthPost U (fun x : Nat => ptrsD S (x : Int)) fs w (.returned (.int .i64 z)) w') := Lib.hid (fun K z w' h1 h2 h3 => by subst h2; exact ⟨K, h1, rfl, h3⟩)
  generalize DepthPost U (fun x : Nat => ptrsD S (x : Int)) fs w = Post at *
  have HPt := Lib.hid (fun w' (h : RAt w' v mm S.ref) (x : Nat) => rptrs22_any hm h hf (x : Int))
  have HPl : Hid (∀ x : Nat, (ptrsD S (x : Int)).length ≤ 64) := Lib.hid (fun x => ptrsD_len hS _)
  obtain ⟨D, rfl⟩ := h.agg
  obtain ⟨hD8, hD1⟩ := h.arr
  have HM := Lib.hid (Mem.one w D 34)
  have HR0 := Lib.hid (h.below HM.out.below (Nat.le_refl _))
  have HCu0 := Lib.hid (hcu.below HM.out.below (Nat.le_refl _))
  have HUn := Lib.hid hun
  have HUs := Lib.hid hus
  obtain ⟨ok, hok⟩ : ∃ ok : Nat → Bool, ok = fun x => U.getD x false := ⟨_, rfl⟩
  have HOk : Hid (∀ x, us.contains x = ok x) := Lib.hid (fun x => by rw [hok]; exact hus x)
  have HSl : Hid (∀ t, (lvS ok (fun x : Nat => ptrsD S (x : Int)) fs t).length ≤ 100000) := Lib.hid (fun t => by rw [hok]; exact Nat.le_trans (lvS_len t) hU)
  have HLl : Hid (∀ t, (levels ok (fun x : Nat => ptrsD S (x : Int)) t (takeNew ok [] fs)).1.length ≤ 100000) := Lib.hid (fun t => HSl.out (t + 1))
  have HL2 : Hid (∀ t, (levels ok (fun x : Nat => ptrsD S (x : Int)) t (takeNew ok [] fs)).2.length ≤ 100000) := Lib.hid (fun t => by
    have h1 := HLl.out t
    rw [lv_round, takeNew_len] at h1
    rw [lv_round]; omega)
  have HIl : Hid (∀ t, (lvIn ok (fun x : Nat => ptrsD S (x : Int)) fs t).length ≤ 6400000) := Lib.hid (fun t => by
    cases t with
    | zero => show fs.length ≤ _; omega
    | succ t =>
      have h1 := flat_len (P := fun x : Nat => ptrsD S (x : Int)) (n := 64) (fun x => HPl.out x) (levels ok (fun x : Nat => ptrsD S (x : Int)) t (takeNew ok [] fs)).2
      have h2 := HL2.out t
      show (List.flatMap _ _).length ≤ _
      omega)
  rw [← hok] at HP
  have HGe : Hid (∀ t, (∀ j, j < t → (levels ok (fun x : Nat => ptrsD S (x : Int)) j (takeNew ok [] fs)).2 ≠ []) → t ≤ 100000) := Lib.hid (fun t ht => Nat.le_trans (lv_ge t ht) (HSl.out t))
  have HD0 : Hid (∀ w0 : World, w0 = w.alloc (.cells D 34) → DLv w0.heap.size w0 w0 af (lvIn ok (fun x : Nat => ptrsD S (x : Int)) fs 0) (.slice none 0 0) (.slice none 0 0) (lvS ok (fun x : Nat => ptrsD S (x : Int)) fs 0) []) := Lib.hid (fun w0 e => by
    subst e
    refine ⟨Below.refl _ _, Nat.le_refl _, OwnI.nil _, OwnI.nil _, ⟨fun b hb => (by cases hb), fun b hb => (by cases hb), fun b b' hb => (by cases hb)⟩, hcf.below HM.out.below (Nat.le_refl _), fun hn x hx => ⟨Nat.lt_of_lt_of_le (hfb hn x hx) HM.out.below.size, fun e => (by cases e), fun e => (by cases e)⟩⟩)
  have HFn : Hid (fn = (lvIn ok (fun x : Nat => ptrsD S (x : Int)) fs 0).length) := Lib.hid hfn.symm
  have HRd : Hid (∀ t, levels ok (fun x : Nat => ptrsD S (x : Int)) t (takeNew ok [] fs) = takeNew ok (lvS ok (fun x : Nat => ptrsD S (x : Int)) fs t) (lvIn ok (fun x : Nat => ptrsD S (x : Int)) fs t)) := Lib.hid (lv_round ok _ fs)
  have HNx1 : Hid (∀ t, lvS ok (fun x : Nat => ptrsD S (x : Int)) fs (t + 1) = (levels ok (fun x : Nat => ptrsD S (x : Int)) t (takeNew ok [] fs)).1) := Lib.hid (fun t => rfl)
  have HNx2 : Hid (∀ t, lvIn ok (fun x : Nat => ptrsD S (x : Int)) fs (t + 1) = (levels ok (fun x : Nat => ptrsD S (x : Int)) t (takeNew ok [] fs)).2.flatMap (fun x : Nat => ptrsD S (x : Int))) := Lib.hid (fun t => rfl)
  have HEnd : Hid (∀ t, (∀ j, j < t → (levels ok (fun x : Nat => ptrsD S (x : Int)) j (takeNew ok [] fs)).2 ≠ []) → (levels ok (fun x : Nat => ptrsD S (x : Int)) t (takeNew ok [] fs)).2 = [] → LvEnd ok (fun x : Nat => ptrsD S (x : Int)) (takeNew ok [] fs) t) := Lib.hid (fun t h1 h2 => ⟨h1, h2⟩)
  obtain ⟨P, hP⟩ : ∃ P : Nat → List Nat, P = fun x : Nat => ptrsD S (x : Int) := ⟨_, rfl⟩
  rw [← hP] at HSl HLl HL2 HIl HP HGe HD0 HFn HRd HNx1 HNx2 HEnd
  have HPt2 : Hid (∀ w', RAt w' (.agg D) mm S.ref → ∀ x : Nat, Calls Tryz.prog 40 #[.agg D, .int .i64 (x : Int)] w' fun e w'' => ∃ av c, e = .returned (.slice av (P x).length c) ∧ Cells w'' av ((P x).map vi) ∧ Below w'.heap.size w' w'') := Lib.hid (fun w' hr x => by subst hP; exact HPt.out w' hr x)
  have HPl2 : Hid (∀ x : Nat, (P x).length ≤ 64) := Lib.hid (fun x => by subst hP; exact HPl.out x)
  generalize lvS ok P fs = sS at *
  generalize lvIn ok P fs = sI at *
  generalize levels ok P = sL at *
  have hcfb := hfb
  clear h hf hm hun hcu hS hus hU hfb hcfb hcf hfn HPt HPl hP hok HUs
  go_enter Tryz.func30, Tryz.ntmps30
  go_upto_region 1 with fail
  have HDl := Lib.hid (HD0.out _ rfl)
  clear HD0
  generalize w.alloc _ = w0 at *
  obtain ⟨q, hq⟩ : ∃ q, q = w.heap.size := ⟨_, rfl⟩
  rw [← hq] at HM ⊢
  clear hq
  go_wp2_with fail
  go_loopw [7, 8, 9] (fun sv lv nv wr => ∃ (t : Nat) (a7 : Option Addr) (c7 l7 : Nat) (a8 : Option Addr) (c8 l8 : Nat), t ≤ 100000 ∧ sv = .slice a7 l7 c7 ∧ lv = .slice a8 l8 c8 ∧ nv = .int .i64 ((t : Int) - 1) ∧ Hid (l7 = (sS t).length) ∧ Hid (l8 = (sI t).length) ∧ Hid (DLv w0.heap.size w0 wr a8 (sI t) (.slice a7 l7 c7) (.slice none 0 0) (sS t) []) ∧ Hid (∀ j, j < t → (sL j (takeNew ok [] fs)).2 ≠ [])) (fun _ _ nv _ => 100001 - (intOf nv + 1).toNat)
  case atStart => exact ⟨0, none, 0, 0, af, cf, fn, Nat.zero_le _, rfl, rfl, rfl, Lib.hid (by have := HDl.out.own7.cells; obtain ⟨a', c', e, _⟩ := this; injection e), HFn, HDl, Lib.hid (fun j hj => absurd hj (Nat.not_lt_zero j))⟩
  case round =>
    clear HDl HFn
    obtain ⟨t, a7, c7, l7, a8, c8, l8, ht, rfl, rfl, rfl, HL7, HL8, HDl, HNe⟩ := hrel
    have hl8 : l8 ≤ 6400000 := by rw [HL8.out]; exact HIl.out t
    have HT0 : Hid (takeNew ok (sS t) ((sI t).take 0) = (sS t, [])) := Lib.hid (by rw [List.take_zero]; rfl)
    have HTs : Hid (∀ i x, (sI t)[i]? = some x → takeNew ok (sS t) ((sI t).take (i + 1)) = if ok x && !(takeNew ok (sS t) ((sI t).take i)).1.contains x then ((takeNew ok (sS t) ((sI t).take i)).1 ++ [x], (takeNew ok (sS t) ((sI t).take i)).2 ++ [x]) else takeNew ok (sS t) ((sI t).take i)) := Lib.hid (fun i x hx => takeNew_take ok (sS t) (sI t) i x hx)
    have HTe : Hid (takeNew ok (sS t) ((sI t).take l8) = sL t (takeNew ok [] fs)) := Lib.hid (by rw [HL8.out, List.take_length, HRd.out t])
    have HTl : Hid (∀ i, (takeNew ok (sS t) ((sI t).take i)).2.length ≤ i) := Lib.hid (fun i => Nat.le_trans (takeNew_le ok _ _) (by rw [List.length_take]; omega))
    have HTq : Hid (∀ i, (takeNew ok (sS t) ((sI t).take i)).1.length ≤ 100000 + i) := Lib.hid (fun i => by rw [takeNew_len]; have h1 := HTl.out i; have h2 := HSl.out t; omega)
    generalize (fun i => takeNew ok (sS t) ((sI t).take i)) = tk0 at *
    obtain ⟨tk, htk⟩ : ∃ tk : Nat → List Nat × List Nat, tk = fun i => takeNew ok (sS t) ((sI t).take i) := ⟨_, rfl⟩
    have HK0 : Hid (tk 0 = (sS t, [])) := Lib.hid (by rw [htk]; exact HT0.out)
    have HKs : Hid (∀ i x, (sI t)[i]? = some x → tk (i + 1) = if ok x && !(tk i).1.contains x then ((tk i).1 ++ [x], (tk i).2 ++ [x]) else tk i) := Lib.hid (by rw [htk]; exact HTs.out)
    have HKe : Hid (tk l8 = sL t (takeNew ok [] fs)) := Lib.hid (by rw [htk]; exact HTe.out)
    have HKl : Hid (∀ i, (tk i).2.length ≤ i) := Lib.hid (by rw [htk]; exact HTl.out)
    have HKq : Hid (∀ i, (tk i).1.length ≤ 100000 + i) := Lib.hid (by rw [htk]; exact HTq.out)
    clear htk HT0 HTs HTe HTl HTq
    go_wp2_with fail
    go_loopw [7, 10, 12] (fun sv nv iv wr => ∃ (i : Nat) (a7 : Option Addr) (c7 l7 : Nat) (a10 : Option Addr) (c10 l10 : Nat), i ≤ l8 ∧ sv = .slice a7 l7 c7 ∧ nv = .slice a10 l10 c10 ∧ iv = .int .i64 (i : Int) ∧ Hid (l7 = (tk i).1.length) ∧ Hid (l10 = (tk i).2.length) ∧ Hid (DLv w0.heap.size w0 wr a8 (sI t) (.slice a7 l7 c7) (.slice a10 l10 c10) (tk i).1 (tk i).2)) (fun _ _ iv _ => l8 - (intOf iv).toNat)
    case atStart => exact ⟨0, a7, c7, l7, none, 0, 0, Nat.zero_le _, rfl, rfl, rfl, Lib.hid (by rw [HK0.out]; exact HL7.out), Lib.hid (by rw [HK0.out]; rfl), Lib.hid (by rw [HK0.out]; exact HDl.out)⟩
    case round =>
      clear HDl HL7
      obtain ⟨i, a7, c7, l7, a10, c10, l10, hi, rfl, rfl, rfl, HL7, HL10, HDl⟩ := hrel
      have hl7 : l7 ≤ 6500000 := by rw [HL7.out]; have := HKq.out i; omega
      have hl10 : l10 ≤ 6400000 := by rw [HL10.out]; have := HKl.out i; omega
      by_cases hlt : i < l8
      · have hlt' : (i : Int) < (l8 : Int) := by omega
        obtain ⟨b1, o1, e1, _, hc1⟩ := HDl.out.cells.at (i := i) (by rw [List.length_map, ← HL8.out]; exact hlt)
        subst e1
        obtain ⟨x, hx⟩ : ∃ x, (sI t)[i]? = some x := ⟨_, List.getElem?_eq_getElem (by rw [← HL8.out]; exact hlt)⟩
        have cx := hc1 i (vi x) (by rw [List.getElem?_map, hx]; rfl)
        have HKx := Lib.hid (HKs.out i x hx)
        have HXi := Lib.hid hx
        have HF1 := Lib.hid (rhas32_any au un cu us HUn.out (HCu0.out.below HDl.out.lo (Nat.le_refl _)) (by omega) x)
        have HF2 := Lib.hid (rhas32_any a7 l7 c7 (tk i).1 HL7.out.symm HDl.out.own7.at_cells (by omega) x)
        rw [HOk.out x] at HF1
        clear hc1 hx
        cases hb1 : ok x with
        | false =>
          rw [hb1] at HF1 HKx
          rw [Bool.false_and, if_neg (by decide)] at HKx
          clear hb1 HF2
          go_wp2_with fail
          refine HF1.out.mono ?_
          rintro e w3 ⟨rfl, rfl⟩
          go_wp2_with fail
          exact ⟨⟨i + 1, a7, c7, l7, a10, c10, l10, by omega, rfl, rfl, vint (by omega), Lib.hid (by rw [HKx.out]; exact HL7.out), Lib.hid (by rw [HKx.out]; exact HL10.out), Lib.hid (by rw [HKx.out]; exact HDl.out)⟩, by simp [intOf]; omega⟩
        | true =>
          cases hb2 : (tk i).1.contains x with
          | true =>
            rw [hb1] at HF1
            rw [hb1, hb2] at HKx
            rw [hb2] at HF2
            rw [if_neg (by decide)] at HKx
            clear hb1 hb2
            go_wp2_with fail
            refine HF1.out.mono ?_
            rintro e w3 ⟨rfl, rfl⟩
            go_wp2_with fail
            refine HF2.out.mono ?_
            rintro e w3 ⟨rfl, rfl⟩
            go_wp2_with fail
            exact ⟨⟨i + 1, a7, c7, l7, a10, c10, l10, by omega, rfl, rfl, vint (by omega), Lib.hid (by rw [HKx.out]; exact HL7.out), Lib.hid (by rw [HKx.out]; exact HL10.out), Lib.hid (by rw [HKx.out]; exact HDl.out)⟩, by simp [intOf]; omega⟩
          | false =>
            rw [hb1] at HF1
            rw [hb1, hb2] at HKx
            rw [hb2] at HF2
            rw [if_pos (by decide)] at HKx
            have hq7 : (tk i).1.length + 1 ≤ 1000000000000 := by rw [← HL7.out]; omega
            have hq10 : (tk i).2.length + 1 ≤ 1000000000000 := by rw [← HL10.out]; omega
            have HO7 := Lib.hid HDl.out.own7
            generalize tk i = ti at *
            obtain ⟨S7, N7⟩ := ti
            dsimp only at HL7 HL10 HDl HKx HF2 hq7 hq10 HO7
            clear hb1 hb2
            go_wp2_with fail
            refine HF1.out.mono ?_
            rintro e w3 ⟨rfl, rfl⟩
            go_wp2_with fail
            refine HF2.out.mono ?_
            rintro e w3 ⟨rfl, rfl⟩
            go_upto_region 11 with (at_builtin; refine wpList_append_ownI (ys := [x]) (m := 1) (HO7.out.keep (fun b hb => (below_alloc _ _).block b (HO7.out.lt b hb))) (RowAt.cells ⟨_, heap_alloc_new _ _, [], rfl⟩) rfl hq7 rfl rfl rfl rfl ?_; intro v4 w4 ho4 hg4 hr4; have HO4 := Lib.hid ho4; have HG4 := Lib.hid hg4; have HR4 := Lib.hid hr4; clear ho4 hg4 hr4; obtain ⟨a4, c4, e4, _⟩ := HO4.out.cells; obtain ⟨l4, hl4⟩ : ∃ l4, l4 = (S7 ++ [x]).length := ⟨_, rfl⟩; rw [← hl4] at e4; have HL4 := Lib.hid hl4; clear hl4; subst e4)
            have HD4 := Lib.hid (HDl.out.app7 (below_alloc _ _) HO4.out HG4.out HR4.out)
            have HO10 := Lib.hid HD4.out.own10
            obtain ⟨b2, o2, e2, _, hc2⟩ := HD4.out.cells.at (i := i) (by rw [List.length_map, ← HL8.out]; exact hlt)
            cases e2
            have cx2 := hc2 i (vi x) (by rw [List.getElem?_map, HXi.out]; rfl)
            clear hc2 cx
            go_wp2_with (at_builtin; refine wpList_append_ownI (ys := [x]) (m := 1) (HO10.out.keep (fun b hb => (below_alloc _ _).block b (HO10.out.lt b hb))) (RowAt.cells ⟨_, heap_alloc_new _ _, [], rfl⟩) rfl hq10 rfl rfl rfl rfl ?_; intro v5 w5 ho5 hg5 hr5; have HO5 := Lib.hid ho5; have HG5 := Lib.hid hg5; have HR5 := Lib.hid hr5; clear ho5 hg5 hr5; obtain ⟨a5, c5, e5, _⟩ := HO5.out.cells; obtain ⟨l5, hl5⟩ : ∃ l5, l5 = (N7 ++ [x]).length := ⟨_, rfl⟩; rw [← hl5] at e5; have HL5 := Lib.hid hl5; clear hl5; subst e5)
            have HD5 := Lib.hid (HD4.out.app10 (below_alloc _ _) HO5.out HG5.out HR5.out)
            exact ⟨⟨i + 1, a4, c4, l4, a5, c5, l5, by omega, rfl, rfl, vint (by omega), Lib.hid (by rw [HKx.out]; exact HL4.out), Lib.hid (by rw [HKx.out]; exact HL5.out), Lib.hid (by rw [HKx.out]; exact HD5.out)⟩, by simp [intOf]; omega⟩
      · obtain rfl : i = l8 := by omega
        have hlt' : decide ((i : Int) < (i : Int)) = false := by simp
        rw [HKe.out] at HL7 HL10 HDl
        by_cases h0 : l10 = 0
        · subst h0
          have HE := Lib.hid (HEnd.out t HNe.out (List.length_eq_zero_iff.1 HL10.out.symm))
          have HBz := Lib.hid (HM.out.below.trans (HDl.out.lo.mono HM.out.below.size))
          go_wp2_with fail
          exact HP.out t _ _ HE.out (by omega) HBz.out
        · have h0' : decide (l10 = 0) = false := by simp; omega
          have h0c : (((l10 : Nat) : Int) == 0) = false := by simp; omega
          have HNe2 : Hid (∀ j, j < t + 1 → (sL j (takeNew ok [] fs)).2 ≠ []) := Lib.hid (fun j hj => by
            rcases Nat.lt_or_ge j t with c | c
            · exact HNe.out j c
            · have : j = t := by omega
              subst this
              intro e
              rw [e] at HL10
              exact h0 HL10.out)
          have ht1 := HGe.out (t + 1) HNe2.out
          have HN1 := Lib.hid (HNx1.out t)
          have HN2 := Lib.hid (HNx2.out t)
          have hl10b : l10 ≤ 100000 := by rw [HL10.out]; exact HL2.out t
          generalize sL t (takeNew ok [] fs) = st at *
          obtain ⟨S7, N7⟩ := st
          dsimp only at HL7 HL10 HDl HN1 HN2
          have HFl : Hid (∀ k, ((N7.take k).flatMap P).length ≤ 64 * k) := Lib.hid (fun k => by
            have h1 := flat_len (P := P) (n := 64) HPl2.out (N7.take k)
            have h2 : (N7.take k).length ≤ k := by rw [List.length_take]; omega
            omega)
          go_wp2_with fail
          go_loopw [11, 13] (fun xv kv wy => ∃ (k : Nat) (a11 : Option Addr) (c11 l11 : Nat), k ≤ l10 ∧ xv = .slice a11 l11 c11 ∧ kv = .int .i64 (k : Int) ∧ Hid (l11 = ((N7.take k).flatMap P).length) ∧ Hid (OwnI wy (.slice a11 l11 c11) ((N7.take k).flatMap P)) ∧ Hid (∀ b, rowOf (.slice a11 l11 c11) = some b → wr.heap.size ≤ b) ∧ Hid (Below wr.heap.size wr wy)) (fun _ kv _ => l10 - (intOf kv).toNat)
          case atStart => exact ⟨0, none, 0, 0, Nat.zero_le _, rfl, rfl, Lib.hid rfl, Lib.hid (OwnI.nil _), Lib.hid (fun b hb => by cases hb), Lib.hid (Below.refl _ _)⟩
          case round =>
            obtain ⟨k, a11, c11, l11, hk, rfl, rfl, HL11, HO11, HR11, HB⟩ := hrel
            have HDk := Lib.hid (HDl.out.later HB.out)
            by_cases hlt : k < l10
            · have hlt' : (k : Int) < (l10 : Int) := by omega
              have HMr := Lib.hid (HM.out.later HDk.out.lo)
              have HRr := Lib.hid (HR0.out.below HDk.out.lo (Nat.le_refl _))
              obtain ⟨b1, o1, e1, _, hc1⟩ := HDk.out.own10.at_cells.at (i := k) (by rw [List.length_map, ← HL10.out]; exact hlt)
              subst e1
              obtain ⟨x, hx⟩ : ∃ x, N7[k]? = some x := ⟨_, List.getElem?_eq_getElem (by rw [← HL10.out]; exact hlt)⟩
              have cx := hc1 k (vi x) (by rw [List.getElem?_map, hx]; rfl)
              have HFt := Lib.hid (flat_take P N7 k x hx)
              have HPx := Lib.hid (HPt2.out)
              have HPxl := Lib.hid (HPl2.out x)
              have hl11 : l11 ≤ 6400000 := by rw [HL11.out]; have := HFl.out k; omega
              have hld : ∀ w', (∃ x : Later wr, w' = x.val) → ∀ i v, D.toList[i]? = some v → w'.cell? ⟨q, 0 + i, none⟩ = some v := by
                rintro _ ⟨x, rfl⟩ i v hi
                rw [Nat.zero_add]
                exact later_cell (HMr.out.cell 0 i rfl hi) x
              have r1 := fun x => later_cell cx x
              generalize (N7.take k).flatMap P = F at *
              clear hc1 hx
              go_upto_region 17 with fail
              refine wp_region_seg (C := fun w' => ∃ x : Later (wr), w' = x.val) [.fl [0, 1, 2, 3, 4, 5], .sq [6] true, .sq [7, 8] false] (by kernel_rfl) (by kernel_rfl) (by intro c a d v w h; cases d <;> exact h) ?_
              simp only [segs, picks, List.getElem?_cons_succ, List.getElem?_cons_zero]
              have hC1 := later_drew (wr)
              refine wpSeg_fl hC1 ?_
              repeat (first | (refine wpQuiet_load_arr aggRd D hld hD8 rfl rfl rfl ?_) | go_big_quiet_step (fail) | quiet_step (fail))
              refine wpQuiet_nil ?_
              have HB6 := Lib.hid (HB.out.trans ((later_below hC1).mono HB.out.size))
              have HR6 := Lib.hid (HRr.out.below (later_below hC1) (Nat.le_refl _))
              have HO6 := Lib.hid (HO11.out.keep (fun b hb => (later_below hC1).block b (HO11.out.lt b hb)))
              clear r1 hld cx HRr HMr HDk HO11
              generalize wr.drew = w6 at *
              refine wpSeg_sq (fun K hK => ?_)
              go_wp2_with fail
              refine (HPx.out _ HR6.out x).mono ?_
              rintro e w7 ⟨ap, cp, rfl, hcp, hb7⟩
              have HB7 := Lib.hid (HB6.out.trans (hb7.mono HB6.out.size))
              have HCp := Lib.hid hcp
              have HO7 := Lib.hid (HO6.out.keep (fun b hb => hb7.block b (HO6.out.lt b hb)))
              have hC2 := later_step hC1 hb7
              generalize hPx : P x = Px at *
              obtain ⟨pl, hpl⟩ : ∃ pl, pl = Px.length := ⟨_, rfl⟩
              rw [← hpl] at HPxl ⊢
              have HPn := Lib.hid hpl
              have hp64 : pl ≤ 64 := HPxl.out
              have hql : F.length + pl ≤ 1000000000000 := by rw [← HL11.out]; omega
              clear hcp hb7 hpl HB6 HR6 HO6
              go_wp2_with fail
              refine hK _ _ (fun _ => hC2) ?_
              clear hK K
              refine wpSeg_last ?_
              go_wp2_with (at_builtin; refine wpList_append_newI (ys := Px) (m := pl) HO7.out (Below.refl _ _) HR11.out HB7.out.size HCp.out HPn.out.symm hql rfl rfl rfl rfl ?_; intro v8 w8 ho8 hb8 hr8; have HO8 := Lib.hid ho8; have HBn8 := Lib.hid hb8; have HR8 := Lib.hid hr8; clear ho8 hb8 hr8; obtain ⟨a12, c12, e8, _⟩ := HO8.out.cells; obtain ⟨l12, hl12⟩ : ∃ l12, l12 = (F ++ Px).length := ⟨_, rfl⟩; rw [← hl12] at e8; have HL12 := Lib.hid hl12; clear hl12; subst e8)
              exact ⟨⟨k + 1, a12, c12, l12, by omega, rfl, vint (by omega), Lib.hid (by rw [HFt.out]; exact HL12.out), Lib.hid (by rw [HFt.out]; exact HO8.out), HR8, Lib.hid (HB7.out.trans HBn8.out)⟩, by simp [intOf]; omega⟩
            · obtain rfl : k = l10 := by omega
              have hlt' : decide ((k : Int) < (k : Int)) = false := by simp
              have HTk : Hid (N7.take k = N7) := Lib.hid (by rw [HL10.out, List.take_length])
              rw [HTk.out] at HL11 HO11
              have HNew : Hid (DLv w0.heap.size w0 wr a11 (sI (t + 1)) (.slice a7 l7 c7) (.slice none 0 0) (sS (t + 1)) []) := Lib.hid (by
                rw [HN1.out, HN2.out]
                refine ⟨HDk.out.lo, HDk.out.hB, HDk.out.own7, OwnI.nil _, ⟨HDk.out.rows.one, fun b hb => (by cases hb), fun b b' _ hb => (by cases hb)⟩, HO11.out.at_cells, fun hn x hx => ?_⟩
                have h1 := HO11.out.addr hn x hx
                refine ⟨HO11.out.lt _ h1, fun e => ?_, fun e => (by cases e)⟩
                have h2 := HR11.out _ h1
                have h3 := HDl.out.own7.lt _ e
                omega)
              have HL1 : Hid (l7 = (sS (t + 1)).length) := Lib.hid (by rw [HN1.out]; exact HL7.out)
              have HL2' : Hid (l11 = (sI (t + 1)).length) := Lib.hid (by rw [HN2.out]; exact HL11.out)
              clear HDl HDk HO11 HB
              go_wp2_with fail
              exact ⟨⟨t + 1, a7, c7, l7, a11, c11, l11, ht1, rfl, rfl, vint (by push_cast; omega), HL1, HL2', HNew, HNe2⟩, by simp [intOf]; omega⟩
end Go.Proofs.YtfedgcdkagngnaaGreat

namespace Go.Proofs.YtfedgcdkagngnaaGreat
open Go.RowKit Go.Maps
set_option linter.unusedVariables false

structure Bits (U M : List Bool) (S : List Nat) : Prop where
  len : M.length = U.length
  is : ∀ x : Nat, M.getD x false = S.contains x
section
variable {U M : List Bool} {S : List Nat} {y : Nat}
theorem Bits.start (U : List Bool) : Bits U (List.replicate U.length false) [] := ⟨by simp, fun x => by rw [List.getD_eq_getElem?_getD, List.getElem?_replicate]; split <;> rfl⟩
theorem Bits.fresh (h : Bits U M S) (hu : U.getD y false = true) : freshI M (y : Int) = !S.contains y := by
  have h1 := getD_true_lt hu
  unfold freshI
  rw [hasI_nat, h.is, decide_eq_true (by rw [h.len]; omega)]; rfl
theorem Bits.same (h : Bits U M S) (hu : U.getD y false = true) (hc : S.contains y = true) : addI M (y : Int) = M := by
  unfold addI; rw [h.fresh hu, hc]; rfl
theorem Bits.add (h : Bits U M S) (hu : U.getD y false = true) (hc : S.contains y = false) : Bits U (addI M (y : Int)) (S ++ [y]) := by
  have h1 := getD_true_lt hu
  unfold addI
  rw [h.fresh hu, hc, if_pos (by decide), Int.toNat_natCast]
  refine ⟨by rw [List.length_set, h.len], fun x => ?_⟩
  rw [getD_set_bool _ _ _ _ (by rw [h.len]; exact h1)]
  rw [Bool.eq_iff_iff]
  by_cases e : x = y
  · subst e; simp
  · have e2 : ¬ y = x := fun h => e h.symm
    simp only [e, e2, if_false]
    rw [h.is]; simp [e]
end

structure SDp (q B : Nat) (w0 w : World) (X : SetF) (M : List Bool) (v : Value) (L : List Nat) (vo : Value) (O : List Nat) (ap : Option Addr) (Q : List Nat) : Prop where
  set : SetAt w X M
  own : OwnI w v L
  row : ∀ b, rowOf v = some b → B ≤ b
  oth : OwnI w vo O
  rowo : ∀ b, rowOf vo = some b → b ∉ X.list ∧ b < B
  cells : Cells w ap (Q.map vi)
  away : Q ≠ [] → ∀ x, ap = some x → x.block < w.heap.size ∧ x.block ∉ X.list ∧ rowOf v ≠ some x.block
  lo : Below q w0 w
  hX : ∀ k ∈ X.list, q ≤ k ∧ k < B
  hB : B ≤ w.heap.size
  hq : q ≤ B
section
variable {q B : Nat} {w0 w w' wa w2 : World} {X : SetF} {M M' : List Bool} {v v2 vo : Value} {L L' O Q : List Nat} {ap : Option Addr}
theorem SDp.later (h : SDp q B w0 w X M v L vo O ap Q) (hb : Below w.heap.size w w') : SDp q B w0 w' X M v L vo O ap Q :=
  ⟨h.set.keep (fun k hk => hb.block k (h.set.mem k hk)), h.own.keep (fun b hb' => hb.block b (h.own.lt b hb')), h.row, h.oth.keep (fun b hb' => hb.block b (h.oth.lt b hb')), h.rowo, h.cells.below hb (Nat.le_refl _), fun hn x hx => ⟨Nat.lt_of_lt_of_le (h.away hn x hx).1 hb.size, (h.away hn x hx).2⟩, h.lo.trans (hb.mono (Nat.le_trans h.hq h.hB)), h.hX, Nat.le_trans h.hB hb.size, h.hq⟩
theorem SDp.reads (h : SDp q B w0 w X M v L vo O ap Q) (hk : Q ≠ [] → ∀ x, ap = some x → w'.heap[x.block]? = w.heap[x.block]?) : Cells w' ap (Q.map vi) := by
  by_cases hn : Q = []
  · subst hn; exact .inl rfl
  · exact h.cells.blk (hk hn)
theorem SDp.add (h : SDp q B w0 w X M v L vo O ap Q) (hs : SetAt w' X M') (ht : Touch X.list w w') : SDp q B w0 w' X M' v L vo O ap Q :=
  ⟨hs, h.own.keep (fun b hb => ht.block b (h.own.lt b hb) (fun hm => by have h1 := h.row b hb; have h2 := (h.hX b hm).2; omega)), h.row, h.oth.keep (fun b hb => ht.block b (h.oth.lt b hb) (h.rowo b hb).1), h.rowo, h.reads (fun hn x hx => ht.block _ (h.away hn x hx).1 (h.away hn x hx).2.1), fun hn x hx => ⟨Nat.lt_of_lt_of_le (h.away hn x hx).1 ht.size, (h.away hn x hx).2⟩, h.lo.trans (ht.below (Nat.le_trans h.hq h.hB) (fun k hk => (h.hX k hk).1)), h.hX, Nat.le_trans h.hB ht.size, h.hq⟩
theorem SDp.grow (h : SDp q B w0 w X M v L vo O ap Q) (hb : Below w.heap.size w wa) (ho : OwnI w2 v2 L') (g : wa.grownBy w2 (rowOf v)) (hr : ∀ b, rowOf v2 = some b → rowOf v = some b ∨ b = wa.heap.size) : SDp q B w0 w2 X M v2 L' vo O ap Q := by
  have hs := hb.size
  have hs2 := g.size
  have hB := h.hB
  have key : ∀ k, k < w.heap.size → rowOf v ≠ some k → w2.heap[k]? = w.heap[k]? := fun k hk hn => (g.block k (by omega) (fun e => hn e.symm)).trans (hb.block k hk)
  refine ⟨h.set.keep (fun k hk => key k (h.set.mem k hk) (fun e => by have h1 := h.row k e; have h2 := (h.hX k hk).2; omega)), ho, fun b hb' => ?_, h.oth.keep (fun b hb' => key b (h.oth.lt b hb') (fun e => by have h1 := h.row b e; have h2 := (h.rowo b hb').2; omega)), h.rowo, h.reads (fun hn x hx => key _ (h.away hn x hx).1 (h.away hn x hx).2.2), fun hn x hx => ⟨by have := (h.away hn x hx).1; omega, (h.away hn x hx).2.1, fun e => ?_⟩, ⟨g.os.trans (hb.os.trans h.lo.os), g.tape.trans (hb.tape.trans h.lo.tape), g.output.trans (hb.output.trans h.lo.output), by have := h.lo.size; omega, fun k hk => ?_⟩, h.hX, by omega, h.hq⟩
  · rcases hr b hb' with c | c
    · exact h.row b c
    · omega
  · rcases hr _ e with c | c
    · exact (h.away hn x hx).2.2 c
    · have := (h.away hn x hx).1; omega
  · have hq := h.hq
    exact (key k (by omega) (fun e => by have := h.row k e; omega)).trans (h.lo.block k hk)
theorem SDp.turn (h : SDp q B w0 w X M v L vo O ap Q) : SDp q w.heap.size w0 w X M (.slice none 0 0) [] v L none [] :=
  ⟨h.set, OwnI.nil _, fun b hb => (by cases hb), h.own, fun b hb => ⟨fun hm => by have h1 := h.row b hb; have h2 := (h.hX b hm).2; omega, h.own.lt b hb⟩, .inl rfl, fun hn => absurd rfl hn, h.lo, fun k hk => ⟨(h.hX k hk).1, Nat.lt_of_lt_of_le (h.hX k hk).2 h.hB⟩, Nat.le_refl _, Nat.le_trans h.hq h.hB⟩
theorem SDp.drop (h : SDp q B w0 w X M v L vo O ap Q) : SDp q B w0 w X M v L (.slice none 0 0) [] none [] :=
  ⟨h.set, h.own, h.row, OwnI.nil _, fun b hb => (by cases hb), .inl rfl, fun hn => absurd rfl hn, h.lo, h.hX, h.hB, h.hq⟩
theorem SDp.stop (h : SDp q B w0 w X M v L vo O ap Q) : SDp q B w0 w X M v L vo O none [] :=
  ⟨h.set, h.own, h.row, h.oth, h.rowo, .inl rfl, fun hn => absurd rfl hn, h.lo, h.hX, h.hB, h.hq⟩
theorem SDp.read (h : SDp q B w0 w X M v L vo O none []) (hb : Below w.heap.size w w') (hc : Cells w' ap (Q.map vi)) (hn : ∀ x, ap = some x → w.heap.size ≤ x.block) : SDp q B w0 w' X M v L vo O ap Q := by
  have h1 := h.later hb
  refine ⟨h1.set, h1.own, h1.row, h1.oth, h1.rowo, hc, fun hq x hx => ?_, h1.lo, h1.hX, h1.hB, h1.hq⟩
  obtain ⟨b, o, e, hlt, _⟩ := hc.at (i := 0) (by rw [List.length_map]; exact List.length_pos_iff.2 hq)
  rw [hx] at e
  have hxb := hn x hx
  injection e with e
  subst e
  refine ⟨hlt, fun hm => ?_, fun e2 => ?_⟩
  · have h2 := (h.hX _ hm).2; have h3 := h.hB; dsimp only at hxb h2; omega
  · have h2 := h.own.lt _ e2; dsimp only at hxb h2; omega
end
theorem takeNew_snoc (ok : Nat → Bool) (seen l : List Nat) (y : Nat) : takeNew ok seen (l ++ [y]) = if ok y && !(takeNew ok seen l).1.contains y then ((takeNew ok seen l).1 ++ [y], (takeNew ok seen l).2 ++ [y]) else takeNew ok seen l := by
  rw [takeNew_append, takeNew_one]
  split
  · rfl
  · simp

set_option maxHeartbeats 8000000 in
set_option maxRecDepth 100000 in
theorem sdepth_any {w : World} {A : AF} {n B : Nat} {m : Al} (h : AlAt w A n B m) (hLc : m.used.length = m.bm.dev.cache.length) (hU : m.used.length ≤ 100000) (hU1 : 1 ≤ m.used.length)
    (af : Option Addr) (fn cf : Nat) (fs : List Nat) (hfn : fs.length = fn) (hcf : Cells w af (fs.map vi)) (hfl : fn ≤ 20) (hfx : ∀ x ∈ fs, x ≤ 1099511627776) :
    Calls Tryz.prog 29 #[valloc A, .slice af fn cf] w (DepthPost m.used (fun x : Nat => ptrsD m.bm.dev (x : Int)) fs w) := by
  have HP : Hid (∀ (K : Nat) (z : Int) (w' : World), LvEnd (fun x => m.used.getD x false) (fun x : Nat => ptrsD m.bm.dev (x : Int)) (takeNew (fun x => m.used.getD x false) [] fs) K → z = ((K - 1 : Nat) : Int) → Below w.heap.size w w' → DepthPost m.used (fun x : Nat => ptrsD m.bm.dev (x : Int)) fs w (.returned (.int .i64 z)) w') := Lib.hid (fun K z w' h1 h2 h3 => by subst h2; exact ⟨K, h1, rfl, h3⟩)
  generalize DepthPost m.used (fun x : Nat => ptrsD m.bm.dev (x : Int)) fs w = Post at *
  obtain ⟨q, hq⟩ : ∃ q, q = w.heap.size := ⟨_, rfl⟩
  have HA := Lib.hid (fun w' (hb : Below q w w') => h.below (by rw [← hq]; exact hb))
  have HPt := Lib.hid (fun w' (h : AlAt w' A n B m) (x : Nat) => optrs_any h.man.dev (x : Int))
  have HPo : Hid (∀ (x : Nat) w1 e w2, PtrsPost m.bm.dev (x : Int) w1 e w2 → ∃ av cp ec, e = .returned (.tuple #[.slice av (ptrsD m.bm.dev (x : Int)).length cp, .int .i64 ec]) ∧ Cells w2 av ((ptrsD m.bm.dev (x : Int)).map vi) ∧ Below w1.heap.size w1 w2 ∧ ∀ x, av = some x → w1.heap.size ≤ x.block) := Lib.hid (fun x w1 e w2 hp => by
    obtain ⟨av, cp, ec, e1, _, e2, e3, e4⟩ := hp.out
    exact ⟨av, cp, ec, e1, e2, e4, e3⟩)
  have HPl : Hid (∀ x : Nat, (ptrsD m.bm.dev (x : Int)).length ≤ 64) := Lib.hid (fun x => ptrsD_len h.man.dev.small _)
  have HPe : Hid (∀ x : Nat, ∀ y ∈ ptrsD m.bm.dev (x : Int), y ≤ 1099511627776) := Lib.hid (fun x => ptrsD_le _ _)
  have HSl : Hid (∀ t, (lvS (fun x => m.used.getD x false) (fun x : Nat => ptrsD m.bm.dev (x : Int)) fs t).length ≤ 100000) := Lib.hid (fun t => Nat.le_trans (lvS_len t) hU)
  have HUs := Lib.hid (fun w' (h : AlAt w' A n B m) (x : Nat) => aused_any h (x : Int))
  have HLn := Lib.hid (dlen_any h.man.dev)
  have HDv := Lib.hid (adev_any h)
  have HNw := Lib.hid (fun w => snew_any m.bm.dev.cache.length (by omega) (by omega) w)
  rw [← hLc] at HNw HLn
  have hUl : m.used.length ≤ 100000 := hU
  have HLi : Hid (∀ x, hasI m.used ((x : Nat) : Int) = m.used.getD x false) := Lib.hid (fun x => hasI_nat _ x)
  obtain ⟨U, hUU⟩ : ∃ U, U = m.used := ⟨_, rfl⟩
  rw [← hUU] at HP HSl HUs HLn HNw hUl HLi
  have HQ := Lib.hid hq
  have HCf := Lib.hid hcf
  have HFn := Lib.hid hfn
  have HFx := Lib.hid hfx
  clear h hLc hU hU1 hcf hfn hfx hUU
  have HFlat : Hid (∀ l : List Nat, (l.flatMap (fun x : Nat => ptrsD m.bm.dev (x : Int))).length ≤ 64 * l.length) := Lib.hid (flat_len (fun x => HPl.out x))
  have HGe : Hid (∀ t, (∀ j, j < t → (levels (fun x => U.getD x false) (fun x : Nat => ptrsD m.bm.dev (x : Int)) j (takeNew (fun x => U.getD x false) [] fs)).2 ≠ []) → t ≤ 100000) := Lib.hid (fun t ht => Nat.le_trans (lv_ge t ht) (HSl.out t))
  have HL1 : Hid (∀ t, (levels (fun x => U.getD x false) (fun x : Nat => ptrsD m.bm.dev (x : Int)) t (takeNew (fun x => U.getD x false) [] fs)).1.length ≤ 100000) := Lib.hid (fun t => HSl.out (t + 1))
  have HL2 : Hid (∀ t, (levels (fun x => U.getD x false) (fun x : Nat => ptrsD m.bm.dev (x : Int)) t (takeNew (fun x => U.getD x false) [] fs)).2.length ≤ 100000) := Lib.hid (fun t => by
    have h1 := HL1.out t
    rw [lv_round, takeNew_len] at h1
    rw [lv_round]; omega)
  have HL0 : Hid (levels (fun x => U.getD x false) (fun x : Nat => ptrsD m.bm.dev (x : Int)) 0 (takeNew (fun x => U.getD x false) [] fs) = takeNew (fun x => U.getD x false) [] fs) := Lib.hid rfl
  have HLs : Hid (∀ t, levels (fun x => U.getD x false) (fun x : Nat => ptrsD m.bm.dev (x : Int)) (t + 1) (takeNew (fun x => U.getD x false) [] fs) = takeNew (fun x => U.getD x false) (levels (fun x => U.getD x false) (fun x : Nat => ptrsD m.bm.dev (x : Int)) t (takeNew (fun x => U.getD x false) [] fs)).1 ((levels (fun x => U.getD x false) (fun x : Nat => ptrsD m.bm.dev (x : Int)) t (takeNew (fun x => U.getD x false) [] fs)).2.flatMap (fun x : Nat => ptrsD m.bm.dev (x : Int)))) := Lib.hid (fun t => rfl)
  have HEnd : Hid (∀ t, (∀ j, j < t → (levels (fun x => U.getD x false) (fun x : Nat => ptrsD m.bm.dev (x : Int)) j (takeNew (fun x => U.getD x false) [] fs)).2 ≠ []) → (levels (fun x => U.getD x false) (fun x : Nat => ptrsD m.bm.dev (x : Int)) t (takeNew (fun x => U.getD x false) [] fs)).2 = [] → LvEnd (fun x => U.getD x false) (fun x : Nat => ptrsD m.bm.dev (x : Int)) (takeNew (fun x => U.getD x false) [] fs) t) := Lib.hid (fun t h1 h2 => ⟨h1, h2⟩)
  obtain ⟨P, hP⟩ : ∃ P : Nat → List Nat, P = fun x : Nat => ptrsD m.bm.dev (x : Int) := ⟨_, rfl⟩
  have HPx : Hid (∀ x : Nat, ptrsD m.bm.dev (x : Int) = P x) := Lib.hid (fun x => by rw [hP])
  rw [← hP] at HP HGe HL0 HLs HEnd HL1 HL2 HFlat
  clear HSl hP
  generalize levels (fun x => U.getD x false) P = sL at *
  go_enter Tryz.func29, Tryz.ntmps29
  go_wp2_with fail
  refine HDv.out.mono ?_
  rintro e w1 ⟨rfl, rfl⟩
  go_wp2_with fail
  refine HLn.out.mono ?_
  rintro e w1 ⟨rfl, rfl⟩
  go_wp2_with fail
  refine (HNw.out _).mono ?_
  rintro e w1 ⟨X, rfl, hs1, hb1, hx1⟩
  have HSd : Hid (SDp q w1.heap.size w w1 X (List.replicate U.length false) (.slice none 0 0) [] (.slice none 0 0) [] none []) := Lib.hid ⟨hs1, OwnI.nil _, fun b hb => (by cases hb), OwnI.nil _, fun b hb => (by cases hb), .inl rfl, fun hn => absurd rfl hn, by rw [HQ.out]; exact hb1, fun k hk => ⟨by rw [HQ.out]; exact hx1 k hk, hs1.mem k hk⟩, Nat.le_refl _, by rw [HQ.out]; exact hb1.size⟩
  have HBt := Lib.hid (Bits.start U)
  clear hs1 hb1 hx1 HNw HLn HDv
  go_wp2_with fail
  have HK0 : Hid (takeNew (fun x => U.getD x false) [] (fs.take 0) = ([], [])) := Lib.hid (by rw [List.take_zero]; rfl)
  have HKs : Hid (∀ i x, fs[i]? = some x → takeNew (fun x => U.getD x false) [] (fs.take (i + 1)) = if (U.getD x false) && !(takeNew (fun x => U.getD x false) [] (fs.take i)).1.contains x then ((takeNew (fun x => U.getD x false) [] (fs.take i)).1 ++ [x], (takeNew (fun x => U.getD x false) [] (fs.take i)).2 ++ [x]) else takeNew (fun x => U.getD x false) [] (fs.take i)) := Lib.hid (fun i x hx => takeNew_take _ [] fs i x hx)
  have HKl : Hid (∀ i, (takeNew (fun x => U.getD x false) [] (fs.take i)).2.length ≤ i) := Lib.hid (fun i => Nat.le_trans (takeNew_le _ _ _) (by rw [List.length_take]; omega))
  have HKe : Hid (takeNew (fun x => U.getD x false) [] (fs.take fn) = sL 0 (takeNew (fun x => U.getD x false) [] fs)) := Lib.hid (by rw [← HFn.out, List.take_length, HL0.out])
  obtain ⟨tk, htk⟩ : ∃ tk : Nat → List Nat × List Nat, tk = fun i => takeNew (fun x => U.getD x false) [] (fs.take i) := ⟨_, rfl⟩
  have HJ0 : Hid (tk 0 = ([], [])) := Lib.hid (by rw [htk]; exact HK0.out)
  have HJs : Hid (∀ i x, fs[i]? = some x → tk (i + 1) = if (U.getD x false) && !(tk i).1.contains x then ((tk i).1 ++ [x], (tk i).2 ++ [x]) else tk i) := Lib.hid (by rw [htk]; exact HKs.out)
  have HJl : Hid (∀ i, (tk i).2.length ≤ i) := Lib.hid (by rw [htk]; exact HKl.out)
  have HJe : Hid (tk fn = sL 0 (takeNew (fun x => U.getD x false) [] fs)) := Lib.hid (by rw [htk]; exact HKe.out)
  clear htk HK0 HKs HKl HKe HL0
  go_loopw [6, 23] (fun ov iv wr => ∃ (i : Nat) (a : Option Addr) (c l : Nat) (M : List Bool), i ≤ fn ∧ ov = .slice a l c ∧ iv = .int .i64 (i : Int) ∧ Hid (l = (tk i).2.length) ∧ Hid (SDp q w1.heap.size w wr X M (.slice a l c) (tk i).2 (.slice none 0 0) [] none []) ∧ Hid (Bits U M (tk i).1)) (fun _ iv _ => fn - (intOf iv).toNat)
  case atStart => exact ⟨0, none, 0, 0, _, Nat.zero_le _, rfl, rfl, Lib.hid (by rw [HJ0.out]; rfl), Lib.hid (by rw [HJ0.out]; exact HSd.out), Lib.hid (by rw [HJ0.out]; exact HBt.out)⟩
  case round =>
    clear HSd HBt
    obtain ⟨i, a, c, l, M, hi, rfl, rfl, HL, HSd, HBt⟩ := hrel
    have hli : l ≤ i := by rw [HL.out]; exact HJl.out i
    by_cases hlt : i < fn
    · have hlt' : (i : Int) < (fn : Int) := by omega
      obtain ⟨b1, o1, e1, _, hc1⟩ := (HCf.out.below HSd.out.lo (by rw [HQ.out]; exact Nat.le_refl _)).at (i := i) (by rw [List.length_map, HFn.out]; exact hlt)
      subst e1
      obtain ⟨y, hy⟩ : ∃ y, fs[i]? = some y := ⟨_, List.getElem?_eq_getElem (by rw [HFn.out]; exact hlt)⟩
      have cy := hc1 i (vi y) (by rw [List.getElem?_map, hy]; rfl)
      have hy9 := HFx.out y (List.mem_of_getElem? hy)
      have HKx := Lib.hid (HJs.out i y hy)
      have HU1 := Lib.hid (HUs.out wr (HA.out wr HSd.out.lo) y)
      rw [HLi.out y] at HU1
      have HAd := Lib.hid (sadd_any HSd.out.set (y : Int))
      clear hc1 hy
      cases hb1 : U.getD y false with
      | false =>
        rw [hb1] at HU1 HKx
        rw [Bool.false_and, if_neg (by decide)] at HKx
        clear hb1 HAd
        go_wp2_with fail
        refine HU1.out.mono ?_
        rintro e w3 ⟨rfl, rfl⟩
        go_wp2_with fail
        exact ⟨⟨i + 1, a, c, l, M, by omega, rfl, vint (by omega), Lib.hid (by rw [HKx.out]; exact HL.out), Lib.hid (by rw [HKx.out]; exact HSd.out), Lib.hid (by rw [HKx.out]; exact HBt.out)⟩, by simp [intOf]; omega⟩
      | true =>
        rw [HBt.out.fresh hb1] at HAd
        cases hb2 : (tk i).1.contains y with
        | true =>
          rw [HBt.out.same hb1 hb2, hb2, Bool.not_true] at HAd
          rw [hb1] at HU1
          rw [hb1, hb2, if_neg (by decide)] at HKx
          clear hb1 hb2
          go_wp2_with fail
          refine HU1.out.mono ?_
          rintro e w3 ⟨rfl, rfl⟩
          go_wp2_with fail
          refine HAd.out.mono ?_
          rintro e w4 ⟨rfl, hs4, ht4⟩
          have HSd4 := Lib.hid (HSd.out.add hs4 ht4)
          clear hs4 ht4
          go_wp2_with fail
          exact ⟨⟨i + 1, a, c, l, M, by omega, rfl, vint (by omega), Lib.hid (by rw [HKx.out]; exact HL.out), Lib.hid (by rw [HKx.out]; exact HSd4.out), Lib.hid (by rw [HKx.out]; exact HBt.out)⟩, by simp [intOf]; omega⟩
        | false =>
          have HBt5 := Lib.hid (HBt.out.add hb1 hb2)
          rw [hb2, Bool.not_false] at HAd
          rw [hb1] at HU1
          rw [hb1, hb2, if_pos (by decide)] at HKx
          have hq10 : (tk i).2.length + 1 ≤ 1000000000000 := by rw [← HL.out]; omega
          generalize tk i = ti at *
          obtain ⟨S7, N7⟩ := ti
          dsimp only at HL HSd HBt HBt5 HKx hq10
          clear hb1 hb2
          go_wp2_with fail
          refine HU1.out.mono ?_
          rintro e w3 ⟨rfl, rfl⟩
          go_wp2_with fail
          refine HAd.out.mono ?_
          rintro e w3 ⟨rfl, hs3, ht3⟩
          have HSd3 := Lib.hid (HSd.out.add hs3 ht3)
          have HO3 := Lib.hid HSd3.out.own
          clear hs3 ht3
          go_wp2_with (at_builtin; refine wpList_append_ownI (ys := [y]) (m := 1) (HO3.out.keep (fun b hb => (below_alloc _ _).block b (HO3.out.lt b hb))) (RowAt.cells ⟨_, heap_alloc_new _ _, [], rfl⟩) rfl hq10 rfl rfl rfl rfl ?_; intro v4 w4 ho4 hg4 hr4; have HO4 := Lib.hid ho4; have HG4 := Lib.hid hg4; have HR4 := Lib.hid hr4; clear ho4 hg4 hr4; obtain ⟨a4, c4, e4, _⟩ := HO4.out.cells; obtain ⟨l4, hl4⟩ : ∃ l4, l4 = (N7 ++ [y]).length := ⟨_, rfl⟩; rw [← hl4] at e4; have HL4 := Lib.hid hl4; clear hl4; subst e4)
          have HSd6 := Lib.hid (HSd3.out.grow (below_alloc _ _) HO4.out HG4.out HR4.out)
          exact ⟨⟨i + 1, a4, c4, l4, _, by omega, rfl, vint (by omega), Lib.hid (by rw [HKx.out]; exact HL4.out), Lib.hid (by rw [HKx.out]; exact HSd6.out), Lib.hid (by rw [HKx.out]; exact HBt5.out)⟩, by simp [intOf]; omega⟩
    · obtain rfl : i = fn := by omega
      have hlt' : decide ((i : Int) < (i : Int)) = false := by simp
      rw [HJe.out] at HL HSd HBt
      have HNe0 : Hid (∀ j, j < 0 → (sL j (takeNew (fun x => U.getD x false) [] fs)).2 ≠ []) := Lib.hid (fun j hj => absurd hj (Nat.not_lt_zero j))
      have hl9 : l ≤ 100000 := by omega
      clear HJ0 HJs HJl HJe
      go_wp2_with fail
      go_loopw [6, 9] (fun ov nv wr => ∃ (r z : Nat) (a : Option Addr) (c l : Nat) (M : List Bool) (B1 : Nat), r ≤ 100000 ∧ z = (if l = 0 then r - 1 else r) ∧ ov = .slice a l c ∧ nv = .int .i64 (z : Int) ∧ l ≤ 100000 ∧ Hid (l = (sL r (takeNew (fun x => U.getD x false) [] fs)).2.length) ∧ Hid (SDp q B1 w wr X M (.slice a l c) (sL r (takeNew (fun x => U.getD x false) [] fs)).2 (.slice none 0 0) [] none []) ∧ Hid (Bits U M (sL r (takeNew (fun x => U.getD x false) [] fs)).1) ∧ Hid (∀ j, j < r → (sL j (takeNew (fun x => U.getD x false) [] fs)).2 ≠ [])) (fun ov nv _ => 2 * (100001 - (intOf nv).toNat) + min (lenV ov) 1)
      case atStart => exact ⟨0, 0, a, c, l, M, _, Nat.zero_le _, by split <;> rfl, rfl, rfl, hl9, HL, HSd, HBt, HNe0⟩
      case round =>
        clear HL HSd HBt hli hl9 HNe0
        obtain ⟨r, z, a, c, l, M, B1, hr, hz, rfl, rfl, hl9, HL, HSd, HBt, HNe⟩ := hrel
        by_cases h0 : l = 0
        · subst h0
          rw [if_pos rfl] at hz
          have HE := Lib.hid (HEnd.out r HNe.out (List.length_eq_zero_iff.1 HL.out.symm))
          have HBz := Lib.hid HSd.out.lo
          have HZ := Lib.hid hz
          clear hz
          go_wp2_with fail
          exact HP.out r _ _ HE.out (by rw [HZ.out]) (by rw [← HQ.out]; exact HBz.out)
        · rw [if_neg h0] at hz
          subst hz
          have h0' : decide (0 < l) = true := by simp; omega
          have h0i : (0 : Int) < (l : Int) := by omega
          have HNe2 : Hid (∀ j, j < z + 1 → (sL j (takeNew (fun x => U.getD x false) [] fs)).2 ≠ []) := Lib.hid (fun j hj => by
            rcases Nat.lt_or_ge j z with c | c
            · exact HNe.out j c
            · have : j = z := by omega
              subst this
              intro e
              rw [e] at HL
              exact h0 HL.out)
          have hr1 := HGe.out (z + 1) HNe2.out
          have HLs1 := Lib.hid (HLs.out z)
          have HLl2 : (sL (z + 1) (takeNew (fun x => U.getD x false) [] fs)).2.length ≤ 100000 := HL2.out (z + 1)
          obtain ⟨sN, hsN⟩ : ∃ sN, sN = sL (z + 1) (takeNew (fun x => U.getD x false) [] fs) := ⟨_, rfl⟩
          rw [← hsN] at HLs1 HLl2
          have HSN := Lib.hid hsN
          have HLl3 := Lib.hid HLl2
          have HSd0 := Lib.hid HSd.out.turn
          generalize sL z (takeNew (fun x => U.getD x false) [] fs) = st at *
          obtain ⟨S0, N0⟩ := st
          dsimp only at HL HSd0 HBt HLs1
          clear HSd hsN HLl2
          have HT0 : Hid (takeNew (fun x => U.getD x false) S0 ((N0.take 0).flatMap P) = (S0, [])) := Lib.hid (by rw [List.take_zero]; rfl)
          have HTe : Hid (takeNew (fun x => U.getD x false) S0 ((N0.take l).flatMap P) = sN) := Lib.hid (by rw [HL.out, List.take_length, HLs1.out])
          have HTl : Hid (∀ F : List Nat, (takeNew (fun x => U.getD x false) S0 F).2.length ≤ F.length) := Lib.hid (fun F => takeNew_le _ _ _)
          have HFt : Hid (∀ k x, N0[k]? = some x → (N0.take (k + 1)).flatMap P = (N0.take k).flatMap P ++ P x) := Lib.hid (fun k x hx => flat_take P N0 k x hx)
          have HFl : Hid (∀ k, ((N0.take k).flatMap P).length ≤ 64 * k) := Lib.hid (fun k => by
            have h1 := HFlat.out (N0.take k)
            have h2 : (N0.take k).length ≤ k := by rw [List.length_take]; omega
            omega)
          go_wp2_with fail
          go_loopw [10, 45] (fun xv kv wr => ∃ (k : Nat) (a10 : Option Addr) (c10 l10 : Nat) (M : List Bool) (B1 : Nat), k ≤ l ∧ xv = .slice a10 l10 c10 ∧ kv = .int .i64 (k : Int) ∧ Hid (l10 = (takeNew (fun x => U.getD x false) S0 ((N0.take k).flatMap P)).2.length) ∧ Hid (SDp q B1 w wr X M (.slice a10 l10 c10) (takeNew (fun x => U.getD x false) S0 ((N0.take k).flatMap P)).2 (.slice a l c) N0 none []) ∧ Hid (Bits U M (takeNew (fun x => U.getD x false) S0 ((N0.take k).flatMap P)).1)) (fun _ kv _ => l - (intOf kv).toNat)
          case atStart => exact ⟨0, none, 0, 0, M, _, Nat.zero_le _, rfl, rfl, Lib.hid (by rw [HT0.out]; rfl), Lib.hid (by rw [HT0.out]; exact HSd0.out), Lib.hid (by rw [HT0.out]; exact HBt.out)⟩
          case round =>
            clear HSd0 HBt
            obtain ⟨k, a10, c10, l10, M, B1, hk, rfl, rfl, HL10, HSd, HBt⟩ := hrel
            by_cases hlt : k < l
            · have hlt' : (k : Int) < (l : Int) := by omega
              obtain ⟨b1, o1, e1, _, hc1⟩ := HSd.out.oth.at_cells.at (i := k) (by rw [List.length_map, ← HL.out]; exact hlt)
              subst e1
              obtain ⟨x, hx⟩ : ∃ x, N0[k]? = some x := ⟨_, List.getElem?_eq_getElem (by rw [← HL.out]; exact hlt)⟩
              have cx := hc1 k (vi x) (by rw [List.getElem?_map, hx]; rfl)
              have HFx2 := Lib.hid (HFt.out k x hx)
              have HFk := Lib.hid (HFl.out k)
              have HDv := Lib.hid (adev_any (HA.out wr HSd.out.lo))
              have HPt2 := Lib.hid (HPt.out wr (HA.out wr HSd.out.lo) x)
              have HPo2 := Lib.hid (HPo.out x)
              have HPl2 := Lib.hid (HPl.out x)
              have HPe2 := Lib.hid (HPe.out x)
              rw [HPx.out x] at HPo2 HPl2 HPe2
              generalize P x = Px at *
              generalize (N0.take k).flatMap P = F at *
              clear hc1 hx
              go_wp2_with fail
              refine HDv.out.mono ?_
              rintro e w2 ⟨rfl, rfl⟩
              go_wp2_with fail
              refine HPt2.out.mono ?_
              intro e w2 hp2
              obtain ⟨ap, cp, ec, rfl, hcp, hb2, hnw⟩ := HPo2.out _ _ _ hp2
              have HSd2 := Lib.hid (HSd.out.read hb2 hcp hnw)
              obtain ⟨pl, hpl⟩ : ∃ pl, pl = Px.length := ⟨_, rfl⟩
              rw [← hpl] at HPl2 ⊢
              have HPn := Lib.hid hpl
              have hp64 : pl ≤ 64 := HPl2.out
              have HG0 : Hid (takeNew (fun x => U.getD x false) S0 (F ++ Px.take 0) = takeNew (fun x => U.getD x false) S0 F) := Lib.hid (by rw [List.take_zero, List.append_nil])
              have HGe2 : Hid (takeNew (fun x => U.getD x false) S0 (F ++ Px.take pl) = takeNew (fun x => U.getD x false) S0 (F ++ Px)) := Lib.hid (by rw [HPn.out, List.take_length])
              have HGs : Hid (∀ j y, Px[j]? = some y → takeNew (fun x => U.getD x false) S0 (F ++ Px.take (j + 1)) = if (U.getD y false) && !(takeNew (fun x => U.getD x false) S0 (F ++ Px.take j)).1.contains y then ((takeNew (fun x => U.getD x false) S0 (F ++ Px.take j)).1 ++ [y], (takeNew (fun x => U.getD x false) S0 (F ++ Px.take j)).2 ++ [y]) else takeNew (fun x => U.getD x false) S0 (F ++ Px.take j)) := Lib.hid (fun j y hy => by rw [take_one hy, ← List.append_assoc]; exact takeNew_snoc _ S0 (F ++ Px.take j) y)
              have HGl : Hid (∀ j, (takeNew (fun x => U.getD x false) S0 (F ++ Px.take j)).2.length ≤ 7000000) := Lib.hid (fun j => by
                have h1 := HTl.out (F ++ Px.take j)
                have h2 := HFk.out
                have h3 : (Px.take j).length ≤ pl := by rw [List.length_take, ← HPn.out]; omega
                rw [List.length_append] at h1
                omega)
              obtain ⟨tp, htp⟩ : ∃ tp : Nat → List Nat × List Nat, tp = fun j => takeNew (fun x => U.getD x false) S0 (F ++ Px.take j) := ⟨_, rfl⟩
              have HM0 : Hid (tp 0 = takeNew (fun x => U.getD x false) S0 F) := Lib.hid (by rw [htp]; exact HG0.out)
              have HMe : Hid (tp pl = takeNew (fun x => U.getD x false) S0 (F ++ Px)) := Lib.hid (by rw [htp]; exact HGe2.out)
              have HMs : Hid (∀ j y, Px[j]? = some y → tp (j + 1) = if (U.getD y false) && !(tp j).1.contains y then ((tp j).1 ++ [y], (tp j).2 ++ [y]) else tp j) := Lib.hid (by rw [htp]; exact HGs.out)
              have HMl : Hid (∀ j, (tp j).2.length ≤ 7000000) := Lib.hid (by rw [htp]; exact HGl.out)
              clear htp HG0 HGe2 HGs HGl hp2 hcp hb2 hnw hpl HSd
              rw [← HM0.out] at HL10 HSd2 HBt
              go_wp2_with fail
              go_loopw [10, 58] (fun xv jv wr => ∃ (j : Nat) (a10 : Option Addr) (c10 l10 : Nat) (M : List Bool), j ≤ pl ∧ xv = .slice a10 l10 c10 ∧ jv = .int .i64 (j : Int) ∧ Hid (l10 = (tp j).2.length) ∧ Hid (SDp q B1 w wr X M (.slice a10 l10 c10) (tp j).2 (.slice (some ⟨b1, o1, none⟩) l c) N0 ap Px) ∧ Hid (Bits U M (tp j).1)) (fun _ jv _ => pl - (intOf jv).toNat)
              case atStart => exact ⟨0, a10, c10, l10, M, Nat.zero_le _, rfl, rfl, HL10, HSd2, HBt⟩
              case round =>
                clear HSd2 HBt HL10
                obtain ⟨j, a10, c10, l10, M, hj, rfl, rfl, HL10, HSd, HBt⟩ := hrel
                have hl10 : l10 ≤ 7000000 := by rw [HL10.out]; exact HMl.out j
                by_cases hlt : j < pl
                · have hlt' : (j : Int) < (pl : Int) := by omega
                  obtain ⟨b2, o2, e2, _, hc2⟩ := HSd.out.cells.at (i := j) (by rw [List.length_map, ← HPn.out]; exact hlt)
                  subst e2
                  obtain ⟨y, hy⟩ : ∃ y, Px[j]? = some y := ⟨_, List.getElem?_eq_getElem (by rw [← HPn.out]; exact hlt)⟩
                  have cy := hc2 j (vi y) (by rw [List.getElem?_map, hy]; rfl)
                  have hy9 := HPe2.out y (List.mem_of_getElem? hy)
                  have HKx := Lib.hid (HMs.out j y hy)
                  have HU1 := Lib.hid (HUs.out wr (HA.out wr HSd.out.lo) y)
                  rw [HLi.out y] at HU1
                  have HAd := Lib.hid (sadd_any HSd.out.set (y : Int))
                  clear hc2 hy
                  cases hb1 : U.getD y false with
                  | false =>
                    rw [hb1] at HU1 HKx
                    rw [Bool.false_and, if_neg (by decide)] at HKx
                    clear hb1 HAd
                    go_wp2_with fail
                    refine HU1.out.mono ?_
                    rintro e w3 ⟨rfl, rfl⟩
                    go_wp2_with fail
                    exact ⟨⟨j + 1, a10, c10, l10, M, by omega, rfl, vint (by omega), Lib.hid (by rw [HKx.out]; exact HL10.out), Lib.hid (by rw [HKx.out]; exact HSd.out), Lib.hid (by rw [HKx.out]; exact HBt.out)⟩, by simp [intOf]; omega⟩
                  | true =>
                    rw [HBt.out.fresh hb1] at HAd
                    cases hb2 : (tp j).1.contains y with
                    | true =>
                      rw [HBt.out.same hb1 hb2, hb2, Bool.not_true] at HAd
                      rw [hb1] at HU1
                      rw [hb1, hb2, if_neg (by decide)] at HKx
                      clear hb1 hb2
                      go_wp2_with fail
                      refine HU1.out.mono ?_
                      rintro e w3 ⟨rfl, rfl⟩
                      go_wp2_with fail
                      refine HAd.out.mono ?_
                      rintro e w4 ⟨rfl, hs4, ht4⟩
                      have HSd4 := Lib.hid (HSd.out.add hs4 ht4)
                      clear hs4 ht4
                      go_wp2_with fail
                      exact ⟨⟨j + 1, a10, c10, l10, M, by omega, rfl, vint (by omega), Lib.hid (by rw [HKx.out]; exact HL10.out), Lib.hid (by rw [HKx.out]; exact HSd4.out), Lib.hid (by rw [HKx.out]; exact HBt.out)⟩, by simp [intOf]; omega⟩
                    | false =>
                      have HBt5 := Lib.hid (HBt.out.add hb1 hb2)
                      rw [hb2, Bool.not_false] at HAd
                      rw [hb1] at HU1
                      rw [hb1, hb2, if_pos (by decide)] at HKx
                      have hq10 : (tp j).2.length + 1 ≤ 1000000000000 := by rw [← HL10.out]; omega
                      generalize tp j = ti at *
                      obtain ⟨S7, N7⟩ := ti
                      dsimp only at HL10 HSd HBt HBt5 HKx hq10
                      clear hb1 hb2
                      go_wp2_with fail
                      refine HU1.out.mono ?_
                      rintro e w3 ⟨rfl, rfl⟩
                      go_wp2_with fail
                      refine HAd.out.mono ?_
                      rintro e w3 ⟨rfl, hs3, ht3⟩
                      have HSd3 := Lib.hid (HSd.out.add hs3 ht3)
                      have HO3 := Lib.hid HSd3.out.own
                      clear hs3 ht3
                      go_wp2_with (at_builtin; refine wpList_append_ownI (ys := [y]) (m := 1) (HO3.out.keep (fun b hb => (below_alloc _ _).block b (HO3.out.lt b hb))) (RowAt.cells ⟨_, heap_alloc_new _ _, [], rfl⟩) rfl hq10 rfl rfl rfl rfl ?_; intro v4 w4 ho4 hg4 hr4; have HO4 := Lib.hid ho4; have HG4 := Lib.hid hg4; have HR4 := Lib.hid hr4; clear ho4 hg4 hr4; obtain ⟨a4, c4, e4, _⟩ := HO4.out.cells; obtain ⟨l4, hl4⟩ : ∃ l4, l4 = (N7 ++ [y]).length := ⟨_, rfl⟩; rw [← hl4] at e4; have HL4 := Lib.hid hl4; clear hl4; subst e4)
                      have HSd6 := Lib.hid (HSd3.out.grow (below_alloc _ _) HO4.out HG4.out HR4.out)
                      exact ⟨⟨j + 1, a4, c4, l4, _, by omega, rfl, vint (by omega), Lib.hid (by rw [HKx.out]; exact HL4.out), Lib.hid (by rw [HKx.out]; exact HSd6.out), Lib.hid (by rw [HKx.out]; exact HBt5.out)⟩, by simp [intOf]; omega⟩
                · obtain rfl : j = pl := by omega
                  have hlt' : decide ((j : Int) < (j : Int)) = false := by simp
                  rw [HMe.out, ← HFx2.out] at HL10 HSd HBt
                  have HSd9 := Lib.hid HSd.out.stop
                  clear HSd
                  go_wp2_with fail
                  exact ⟨⟨k + 1, a10, c10, l10, M, B1, by omega, rfl, vint (by omega), HL10, HSd9, HBt⟩, by simp [intOf]; omega⟩
            · obtain rfl : k = l := by omega
              have hlt' : decide ((k : Int) < (k : Int)) = false := by simp
              rw [HTe.out, HSN.out] at HL10 HSd HBt
              have hl10 : l10 ≤ 100000 := by rw [HL10.out, ← HSN.out]; exact HLl3.out
              have HSd9 := Lib.hid HSd.out.drop
              clear HSd
              by_cases h1 : l10 = 0
              · subst h1
                go_wp2_with fail
                exact ⟨⟨z + 1, z, a10, c10, 0, M, B1, hr1, by rw [if_pos rfl]; rfl, rfl, rfl, hl10, HL10, HSd9, HBt, HNe2⟩, by simp [lenV, intOf]; omega⟩
              · have h1' : decide (0 < l10) = true := by simp; omega
                have h1i : (0 : Int) < (l10 : Int) := by omega
                go_wp2_with fail
                exact ⟨⟨z + 1, z + 1, a10, c10, l10, M, B1, hr1, by rw [if_neg h1], rfl, vint (by omega), hl10, HL10, HSd9, HBt, HNe2⟩, by simp [lenV, intOf]; omega⟩
end Go.Proofs.YtfedgcdkagngnaaGreat

namespace Go.Proofs.YtfedgcdkagngnaaGreat
open Go.RowKit Go.Maps
set_option linter.unusedVariables false

theorem OwnI.put {w : World} {g o l c : Nat} {s : Option (Nat × Nat)} {xs : List Nat} (h : OwnI w (.slice (some ⟨g, o, none⟩) l c) xs) {d : Nat} (hd : d < xs.length) (y : Nat) :
    o = 0 ∧ rowOf (.slice (some ⟨g, o, none⟩) l c) = some g ∧ OwnI (w.setCell ⟨g, d, none⟩ (vi y)) (.slice (some ⟨g, 0, none⟩) l c) (xs.set d y) ∧ w.frozen? ⟨g, d, none⟩ = false := by
  rcases h with h | ⟨p, _, rfl⟩
  · rcases h.2 with ⟨e, h0⟩ | ⟨g', cap, cur, e, hb, hg, h1, h2, h3, h4⟩
    · cases e
    · injection e with e1 e2 e3
      injection e1 with e1
      injection e1 with e4 e5
      subst e4 e5 e3 e2
      refine ⟨rfl, ?_, .inl ⟨by simp, .inr ⟨g, c, cur.setIfInBounds d (vi y), by rw [List.length_set], Nat.zero_le _, ?_, by rw [List.length_set]; exact h1, h2, by rw [Array.size_setIfInBounds]; exact h3, ?_⟩⟩, ?_⟩
      · show (if c = 0 then none else some g) = some g
        rw [if_neg (by omega)]
      · simp [World.setCell, Array.getElem?_modify, hg]
      · rw [Array.toList_setIfInBounds, List.length_set, List.take_set, h4, List.map_set]
      · simp [World.frozen?, hg]
  · simp at hd

def DegPost (m : Al) (w : World) : Ending → World → Prop := fun e w' => ∃ a c, e = .returned (.slice a (tallyL (degOf (fun x : Nat => ptrsD m.bm.dev (x : Int)) (onesL m.used)) (onesL m.used)).length c) ∧ Cells w' a ((tallyL (degOf (fun x : Nat => ptrsD m.bm.dev (x : Int)) (onesL m.used)) (onesL m.used)).map vi) ∧ Below w.heap.size w w'

set_option maxHeartbeats 8000000 in
set_option maxRecDepth 100000 in
theorem sdegrees_any {w : World} {A : AF} {n B : Nat} {m : Al} (h : AlAt w A n B m) (hU : m.used.length ≤ 100000) :
    Calls Tryz.prog 26 #[valloc A] w (DegPost m w) := by
  have hmm := @run_makeMap Tryz.prog
  have HP : Hid (∀ (a : Option Addr) (l c : Nat) (w' : World), l = (tallyL (degOf (fun x : Nat => ptrsD m.bm.dev (x : Int)) (onesL m.used)) (onesL m.used)).length → Cells w' a ((tallyL (degOf (fun x : Nat => ptrsD m.bm.dev (x : Int)) (onesL m.used)) (onesL m.used)).map vi) → Below w.heap.size w w' → DegPost m w (.returned (.slice a l c)) w') := Lib.hid (fun a l c w' h1 h2 h3 => by subst h1; exact ⟨a, c, rfl, h2, h3⟩)
  generalize DegPost m w = Post at *
  obtain ⟨mp, hmp⟩ : ∃ mp, mp = w.heap.size := ⟨_, rfl⟩
  have HA := Lib.hid (fun w' (hb : Below mp w w') => h.below (by rw [← hmp]; exact hb))
  have HOb := Lib.hid (fun w' (h : AlAt w' A n B m) => aobjects_any h)
  have HPt := Lib.hid (fun w' (h : AlAt w' A n B m) (x : Nat) => optrs_any h.man.dev (x : Int))
  have HPo : Hid (∀ (x : Nat) w1 e w2, PtrsPost m.bm.dev (x : Int) w1 e w2 → ∃ av cp ec, e = .returned (.tuple #[.slice av (ptrsD m.bm.dev (x : Int)).length cp, .int .i64 ec]) ∧ Cells w2 av ((ptrsD m.bm.dev (x : Int)).map vi) ∧ Below w1.heap.size w1 w2 ∧ ∀ x, av = some x → w1.heap.size ≤ x.block) := Lib.hid (fun x w1 e w2 hp => by
    obtain ⟨av, cp, ec, e1, _, e2, e3, e4⟩ := hp.out
    exact ⟨av, cp, ec, e1, e2, e4, e3⟩)
  have HPl : Hid (∀ x : Nat, (ptrsD m.bm.dev (x : Int)).length ≤ 64) := Lib.hid (fun x => ptrsD_len h.man.dev.small _)
  have HPe : Hid (∀ x : Nat, ∀ y ∈ ptrsD m.bm.dev (x : Int), y ≤ 1099511627776) := Lib.hid (fun x => ptrsD_le _ _)
  have HUs := Lib.hid (fun w' (h : AlAt w' A n B m) (x : Nat) => aused_any h (x : Int))
  have HLi : Hid (∀ x, hasI m.used ((x : Nat) : Int) = m.used.getD x false) := Lib.hid (fun x => hasI_nat _ x)
  have HUu : Hid (∀ x ∈ onesL m.used, m.used.getD x false = true) := Lib.hid (fun x hx => mem_onesL.1 hx)
  have HUe : Hid (∀ x ∈ onesL m.used, x ≤ 1099511627776) := Lib.hid (fun x hx => by have := getD_true_lt (mem_onesL.1 hx); omega)
  have HUl : Hid ((onesL m.used).length ≤ 100000) := Lib.hid (by rw [onesL_length]; have := count_le_len m.used; omega)
  generalize onesL m.used = us at *
  generalize m.used = U at *
  have HFl := Lib.hid (flat_len (P := fun x : Nat => ptrsD m.bm.dev (x : Int)) (n := 64) (fun x => HPl.out x))
  obtain ⟨P, hP⟩ : ∃ P : Nat → List Nat, P = fun x : Nat => ptrsD m.bm.dev (x : Int) := ⟨_, rfl⟩
  have HPx : Hid (∀ x : Nat, ptrsD m.bm.dev (x : Int) = P x) := Lib.hid (fun x => by rw [hP])
  rw [← hP] at HP HFl
  have HQ := Lib.hid hmp
  have HB0 := Lib.hid (below_alloc w (.map #[] 0))
  have HI0 : Hid (IMap Tryz.prog 3 (w.alloc (.map #[] 0)) mp 0 (fun _ => none)) := Lib.hid (by rw [hmp]; exact IMap.made w Tryz.prog 3)
  have HSz0 : Hid (mp < (w.alloc (.map #[] 0)).heap.size) := Lib.hid (by rw [hmp]; simp)
  clear h hU hP
  go_enter Tryz.func26, Tryz.ntmps26
  go_upto_region 2 with fail
  rw [← hmp] at HB0 ⊢
  clear hmp
  generalize w.alloc _ = w0 at *
  have HOb1 := Lib.hid (HOb.out w0 (HA.out w0 HB0.out))
  go_wp2_with fail
  refine HOb1.out.mono ?_
  intro e w1 hp1
  obtain ⟨a15, c15, rfl, hc1, hb1, hn1⟩ := hp1.own
  have HC1 := Lib.hid hc1
  have HB1 := Lib.hid (HB0.out.trans (hb1.mono (Nat.le_of_lt HSz0.out)))
  have HI1 := Lib.hid (HI0.out.block (hb1.block mp HSz0.out))
  have HN1 : Hid (∀ x, a15 = some x → x.block ≠ mp) := Lib.hid (fun x hx => by
    obtain ⟨xb, xo, xs⟩ := x
    have h1 := hn1 xb xo xs hx
    have h2 := HSz0.out
    dsimp only
    omega)
  have HSz1 : Hid (mp < w1.heap.size) := Lib.hid (Nat.lt_of_lt_of_le HSz0.out hb1.size)
  obtain ⟨ul, hul⟩ : ∃ ul, ul = us.length := ⟨_, rfl⟩
  rw [← hul] at HUl ⊢
  have HUn := Lib.hid hul
  have hul9 := HUl.out
  clear hp1 hc1 hb1 hn1 hul HI0 HB0 HOb1
  have HCo0 : Hid (CntOk U ((us.take 0).flatMap P) (fun _ => none)) := Lib.hid (by rw [List.take_zero]; exact CntOk.nil U)
  go_wp2_with fail
  go_loopw [17] (fun iv wr => ∃ (i k : Nat) (C : Int → Option Int), i ≤ ul ∧ iv = .int .i64 (i : Int) ∧ k ≤ i * 64 ∧ Hid (IMap Tryz.prog 3 wr mp k C) ∧ Hid (CntOk U ((us.take i).flatMap P) C) ∧ Hid (Touch [mp] w1 wr)) (fun iv _ => ul - (intOf iv).toNat)
  case atStart => exact ⟨0, 0, _, Nat.zero_le _, rfl, Nat.zero_le _, HI1, HCo0, Lib.hid (Touch.refl _ _)⟩
  case round =>
    clear HI1 HCo0
    obtain ⟨i, k, C, hi, rfl, hk, HI, HCo, HT⟩ := hrel
    have HBr := Lib.hid (HB1.out.trans (HT.out.below (Nat.le_of_lt HSz1.out) (fun k hk => by simp at hk; omega)))
    by_cases hlt : i < ul
    · have hlt' : (i : Int) < (ul : Int) := by omega
      obtain ⟨b1, o1, e1, _, hc1⟩ := (HC1.out.touchNe HT.out HN1.out).at (i := i) (by rw [List.length_map, ← HUn.out]; exact hlt)
      subst e1
      obtain ⟨x, hx⟩ : ∃ x, us[i]? = some x := ⟨_, List.getElem?_eq_getElem (by rw [← HUn.out]; exact hlt)⟩
      have cx := hc1 i (vi x) (by rw [List.getElem?_map, hx]; rfl)
      have HFt := Lib.hid (flat_take P us i x hx)
      have HFk : Hid (((us.take i).flatMap P).length ≤ 6400000) := Lib.hid (by
        have h1 := HFl.out (us.take i)
        have h2 : (us.take i).length ≤ i := by rw [List.length_take]; omega
        omega)
      have HDv := Lib.hid (adev_any (HA.out wr HBr.out))
      have HPt2 := Lib.hid (HPt.out wr (HA.out wr HBr.out) x)
      have HPo2 := Lib.hid (HPo.out x)
      have HPl2 := Lib.hid (HPl.out x)
      have HPe2 := Lib.hid (HPe.out x)
      rw [HPx.out x] at HPo2 HPl2 HPe2
      generalize P x = Px at *
      generalize (us.take i).flatMap P = F at *
      clear hc1 hx
      go_wp2_with fail
      refine HDv.out.mono ?_
      rintro e w2 ⟨rfl, rfl⟩
      go_wp2_with fail
      refine HPt2.out.mono ?_
      intro e w2 hp2
      obtain ⟨ap, cp, ec, rfl, hcp, hb2, hnw⟩ := HPo2.out _ _ _ hp2
      have HSw : Hid (mp < wr.heap.size) := Lib.hid (Nat.lt_of_lt_of_le HSz1.out HT.out.size)
      have HCp := Lib.hid hcp
      have HNp : Hid (∀ x, ap = some x → x.block ≠ mp) := Lib.hid (fun x hx => by have h1 := hnw x hx; have h2 := HSw.out; omega)
      have HI2 := Lib.hid (HI.out.block (hb2.block mp HSw.out))
      have HT2 := Lib.hid (HT.out.later hb2)
      have HSw2 : Hid (mp < w2.heap.size) := Lib.hid (Nat.lt_of_lt_of_le HSw.out hb2.size)
      obtain ⟨pl, hpl⟩ : ∃ pl, pl = Px.length := ⟨_, rfl⟩
      rw [← hpl] at HPl2 ⊢
      have HPn := Lib.hid hpl
      have hp64 : pl ≤ 64 := HPl2.out
      have HCo2 : Hid (CntOk U (F ++ Px.take 0) C) := Lib.hid (by rw [List.take_zero, List.append_nil]; exact HCo.out)
      clear hp2 hcp hb2 hnw hpl HI HT HCo
      go_wp2_with fail
      go_loopw [30] (fun jv wr => ∃ (j k : Nat) (C : Int → Option Int), j ≤ pl ∧ jv = .int .i64 (j : Int) ∧ k ≤ i * 64 + j ∧ Hid (IMap Tryz.prog 3 wr mp k C) ∧ Hid (CntOk U (F ++ Px.take j) C) ∧ Hid (Touch [mp] w2 wr)) (fun jv _ => pl - (intOf jv).toNat)
      case atStart => exact ⟨0, k, C, Nat.zero_le _, rfl, hk, HI2, HCo2, Lib.hid (Touch.refl _ _)⟩
      case round =>
        clear HI2 HCo2
        obtain ⟨j, k, C, hj, rfl, hk, HI, HCo, HT⟩ := hrel
        have HT1 := Lib.hid (HT2.out.trans HT.out)
        have HBr := Lib.hid (HB1.out.trans (HT1.out.below (Nat.le_of_lt HSz1.out) (fun k hk => by simp at hk; omega)))
        by_cases hlt : j < pl
        · have hlt' : (j : Int) < (pl : Int) := by omega
          obtain ⟨b2, o2, e2, _, hc2⟩ := (HCp.out.touchNe HT.out HNp.out).at (i := j) (by rw [List.length_map, ← HPn.out]; exact hlt)
          subst e2
          obtain ⟨y, hy⟩ : ∃ y, Px[j]? = some y := ⟨_, List.getElem?_eq_getElem (by rw [← HPn.out]; exact hlt)⟩
          have cy := hc2 j (vi y) (by rw [List.getElem?_map, hy]; rfl)
          have hy9 := HPe2.out y (List.mem_of_getElem? hy)
          have HTk := Lib.hid (take_one hy)
          have HU1 := Lib.hid (HUs.out wr (HA.out wr HBr.out) y)
          rw [HLi.out y] at HU1
          clear hc2 hy
          cases hb1 : U.getD y false with
          | false =>
            have HCn : Hid (CntOk U (F ++ Px.take (j + 1)) C) := Lib.hid (by rw [HTk.out, ← List.append_assoc]; exact HCo.out.skip hb1)
            rw [hb1] at HU1
            clear hb1
            go_wp2_with fail
            refine HU1.out.mono ?_
            rintro e w3 ⟨rfl, rfl⟩
            go_wp2_with fail
            exact ⟨⟨j + 1, k, C, by omega, vint (by omega), by omega, HI, HCn, HT⟩, by simp [intOf]; omega⟩
          | true =>
            have HCn : Hid (CntOk U (F ++ Px.take (j + 1)) (fun z => if z = (y : Int) then some ((C (y : Int)).getD 0 + 1) else C z)) := Lib.hid (by rw [HTk.out, ← List.append_assoc]; exact HCo.out.one hb1)
            have HCy := Lib.hid (HCo.out y hb1)
            have hct : (F ++ Px.take j).count y ≤ 7000000 := by
              have h1 : (F ++ Px.take j).count y ≤ (F ++ Px.take j).length := List.count_le_length
              have h2 := HFk.out
              have h3 : (Px.take j).length ≤ pl := by rw [List.length_take, ← HPn.out]; omega
              rw [List.length_append] at h1
              omega
            rw [HCy.out] at HCn
            generalize (F ++ Px.take j).count y = ct at *
            have HWy : Hid ((Lit.int .i64 (y : Int)).wf = true) := Lib.hid (by simp [Lit.wf, IntKind.min, IntKind.max, IntKind.bits, IntKind.signed]; omega)
            have HWc : Hid ((Lit.int .i64 ((ct : Int) + 1)).wf = true) := Lib.hid (by simp [Lit.wf, IntKind.min, IntKind.max, IntKind.bits, IntKind.signed]; omega)
            rw [hb1] at HU1
            clear hb1
            go_wp2_with fail
            refine HU1.out.mono ?_
            rintro e w3 ⟨rfl, rfl⟩
            go_wp2_with (first
              | (refine wpList_ilook rfl _ _ 84 rfl 3 Tryz.underlying3 Tryz.underlying84 (by kernel_rfl) mp k C rfl HI.out (y : Int) rfl HWy.out ?_; rw [HCy.out])
              | (refine wpList_istore rfl _ _ _ 84 rfl 3 Tryz.underlying3 Tryz.underlying84 mp k C rfl HI.out (by unfold maxLen; omega) (y : Int) ((ct : Int) + 1) rfl HWy.out rfl HWc.out ?_; intro w4 hi4 hg4; have HI4 := Lib.hid hi4; have HT4 := Lib.hid (HT.out.trans (grown_touch hg4 (by simp))); clear hi4 hg4))
            exact ⟨⟨j + 1, k + 1, _, by omega, vint (by omega), by omega, HI4, HCn, HT4⟩, by simp [intOf]; omega⟩
        · obtain rfl : j = pl := by omega
          have hlt' : decide ((j : Int) < (j : Int)) = false := by simp
          have HCn : Hid (CntOk U ((us.take (i + 1)).flatMap P) C) := Lib.hid (by rw [HFt.out]; have := HCo.out; rw [HPn.out, List.take_length] at this; exact this)
          go_wp2_with fail
          exact ⟨⟨i + 1, k, C, by omega, vint (by omega), by omega, HI, HCn, HT1⟩, by simp [intOf]; omega⟩
    · obtain rfl : i = ul := by omega
      have hlt' : decide ((i : Int) < (i : Int)) = false := by simp
      have HTk : Hid (us.take i = us) := Lib.hid (by rw [HUn.out, List.take_length])
      rw [HTk.out] at HCo
      have HOb2 := Lib.hid (HOb.out wr (HA.out wr HBr.out))
      have HDg : Hid (∀ x ∈ us, (C (x : Int)).getD 0 = ((degOf P us x : Nat) : Int)) := Lib.hid (fun x hx => HCo.out x (HUu.out x hx))
      have HDl : Hid (∀ x, degOf P us x ≤ 6400000) := Lib.hid (fun x => by
        have h1 : degOf P us x ≤ (us.flatMap P).length := List.count_le_length
        have h2 := HFl.out us
        rw [← HUn.out] at h2
        omega)
      generalize degOf P us = deg at *
      have HSw : Hid (mp < wr.heap.size) := Lib.hid (Nat.lt_of_lt_of_le HSz1.out HT.out.size)
      clear HCo HC1 HN1 HTk HT hk
      go_wp2_with fail
      refine HOb2.out.mono ?_
      intro e w2 hp2
      obtain ⟨a44, c44, e44, hc2, hb2, _⟩ := hp2.own
      rw [← HUn.out] at e44
      subst e44
      have HC2 := Lib.hid hc2
      have HI2 := Lib.hid (HI.out.block (hb2.block mp HSw.out))
      have HB2 := Lib.hid (HBr.out.trans (hb2.mono (Nat.le_of_lt HSw.out)))
      have HSw2 : Hid (mp < w2.heap.size) := Lib.hid (Nat.lt_of_lt_of_le HSw.out hb2.size)
      have HTl : Hid (∀ j, (tallyL deg (us.take j)).length ≤ 6400001) := Lib.hid (fun j => by
        rw [tallyL_length]
        rcases topL_is deg (us.take j) with e | ⟨x, _, e⟩
        · omega
        · rw [e]; have := HDl.out x; omega)
      clear hp2 hc2 hb2 HI HBr HOb2
      go_wp2_with fail
      go_loopw [10, 46] (fun ov iv wr => ∃ (j : Nat) (a : Option Addr) (c l : Nat), j ≤ i ∧ ov = .slice a l c ∧ iv = .int .i64 (j : Int) ∧ Hid (l = (tallyL deg (us.take j)).length) ∧ Hid (OwnI wr (.slice a l c) (tallyL deg (us.take j))) ∧ Hid (∀ b, rowOf (.slice a l c) = some b → w2.heap.size ≤ b) ∧ Hid (Below w2.heap.size w2 wr)) (fun _ iv _ => i - (intOf iv).toNat)
      case atStart => exact ⟨0, none, 0, 0, Nat.zero_le _, rfl, rfl, Lib.hid (by rw [List.take_zero]; rfl), Lib.hid (by rw [List.take_zero]; exact OwnI.nil _), Lib.hid (fun b hb => by cases hb), Lib.hid (Below.refl _ _)⟩
      case round =>
        obtain ⟨j, a, c, l, hj, rfl, rfl, HL, HO, HR, HB⟩ := hrel
        have hl9 : l ≤ 6400001 := by rw [HL.out]; exact HTl.out j
        by_cases hlt : j < i
        · have hlt' : (j : Int) < (i : Int) := by omega
          obtain ⟨b1, o1, e1, _, hc1⟩ := (HC2.out.below HB.out (Nat.le_refl _)).at (i := j) (by rw [List.length_map, ← HUn.out]; exact hlt)
          subst e1
          obtain ⟨x, hx⟩ : ∃ x, us[j]? = some x := ⟨_, List.getElem?_eq_getElem (by rw [← HUn.out]; exact hlt)⟩
          have cx := hc1 j (vi x) (by rw [List.getElem?_map, hx]; rfl)
          have hx9 := HUe.out x (List.mem_of_getElem? hx)
          have HCy := Lib.hid (HDg.out x (List.mem_of_getElem? hx))
          have hd9 := HDl.out x
          have HTs : Hid (tallyL deg (us.take (j + 1)) = (padL (tallyL deg (us.take j)) (deg x + 1)).set (deg x) ((padL (tallyL deg (us.take j)) (deg x + 1)).getD (deg x) 0 + 1)) := Lib.hid (by rw [take_one hx]; exact tallyL_snoc deg (us.take j) x)
          have HTn : Hid (∀ q, (tallyL deg (us.take j)).getD q 0 ≤ 100000) := Lib.hid (fun q => by
            by_cases c : q < topL deg (us.take j)
            · rw [tallyL_getD deg _ c]
              have h1 : tallyN deg (us.take j) q ≤ (us.take j).length := List.length_filter_le _ _
              have h2 : (us.take j).length ≤ j := by rw [List.length_take]; omega
              omega
            · rw [List.getD_eq_getElem?_getD, List.getElem?_eq_none (by rw [tallyL_length]; omega)]; simp)
          have HWy : Hid ((Lit.int .i64 (x : Int)).wf = true) := Lib.hid (by simp [Lit.wf, IntKind.min, IntKind.max, IntKind.bits, IntKind.signed]; omega)
          generalize tallyL deg (us.take j) = T at *
          generalize deg x = d at *
          have HO2 : Hid (OwnI wr (.slice a l c) (padL T l)) := Lib.hid (by rw [HL.out, padL_self, ← HL.out]; exact HO.out)
          have hll : T.length ≤ l := by rw [HL.out]; exact Nat.le_refl _
          have HLe : Hid (l = T.length ∨ l ≤ d + 1) := Lib.hid (.inl HL.out)
          clear hc1 hx HO HL
          go_wp2_with fail
          go_loopw [10] (fun ov wr => ∃ (a : Option Addr) (c l : Nat), ov = .slice a l c ∧ l ≤ 7000000 ∧ T.length ≤ l ∧ Hid (l = T.length ∨ l ≤ d + 1) ∧ Hid (OwnI wr (.slice a l c) (padL T l)) ∧ Hid (∀ b, rowOf (.slice a l c) = some b → w2.heap.size ≤ b) ∧ Hid (Below w2.heap.size w2 wr)) (fun ov _ => d + 2 - lenV ov)
          case atStart => exact ⟨a, c, l, rfl, by omega, hll, HLe, HO2, HR, HB⟩
          case round =>
            clear HO2 HR HB HLe hll hl9
            obtain ⟨a, c, l, rfl, hl9, hll, HLe, HO, HR, HB⟩ := hrel
            have HIr := Lib.hid (HI2.out.block (HB.out.block mp HSw2.out))
            by_cases hle : l ≤ d
            · have hle' : (l : Int) ≤ (d : Int) := by omega
              have hq : (padL T l).length + 1 ≤ 1000000000000 := by rw [padL_length]; omega
              have HSp : Hid (padL T l ++ [0] = padL T (l + 1)) := Lib.hid (padL_step (n := l + 1) (Nat.lt_succ_self _) hll)
              have HSz : Hid ((padL T l ++ [0]).length = l + 1) := Lib.hid (by rw [List.length_append, padL_length]; simp; omega)
              go_wp2_with (first
                | (refine wpList_ilook rfl _ _ 84 rfl 3 Tryz.underlying3 Tryz.underlying84 (by kernel_rfl) mp _ C rfl HIr.out (x : Int) rfl HWy.out ?_; rw [HCy.out])
                | (at_builtin; refine wpList_append_newI (ys := [0]) (m := 1) (B := _) HO.out (below_alloc _ _) HR.out (Nat.le_trans HB.out.size (below_alloc _ _).size) (RowAt.cells ⟨_, heap_alloc_new _ _, [], rfl⟩) rfl hq rfl rfl rfl rfl ?_; intro v4 w4 ho4 hb4 hr4; have HO4 := Lib.hid ho4; have HBn4 := Lib.hid hb4; have HR4 := Lib.hid hr4; clear ho4 hb4 hr4; obtain ⟨a4, c4, e4, _⟩ := HO4.out.cells; obtain ⟨l4, hl4⟩ : ∃ l4, l4 = (padL T l ++ [0]).length := ⟨_, rfl⟩; rw [← hl4] at e4; have HL4 := Lib.hid hl4; clear hl4; subst e4))
              have HB4 := Lib.hid ((HB.out.trans ((below_alloc wr (.cells #[.int .i64 ((0 : Nat) : Int)] 3)).mono HB.out.size)).trans HBn4.out)
              have hl4 : l4 = l + 1 := by rw [HL4.out, HSz.out]
              subst hl4
              exact ⟨⟨a4, c4, l + 1, rfl, by omega, by omega, Lib.hid (.inr (by omega)), Lib.hid (by rw [← HSp.out]; exact HO4.out), HR4, HB4⟩, by simp [lenV]; omega⟩
            · have hle' : decide ((l : Int) ≤ (d : Int)) = false := by simp; omega
              have hle2 : (d : Int) < (l : Int) := by omega
              have HPd : Hid (padL T l = padL T (d + 1)) := Lib.hid (by
                rcases HLe.out with e | e
                · rw [padL_short (by omega), padL_short (by omega)]
                · rw [show l = d + 1 by omega])
              have HPn : Hid ((padL T (d + 1)).length = l) := Lib.hid (by rw [← HPd.out, padL_length]; omega)
              rw [HPd.out] at HO
              have HGd : Hid ((padL T (d + 1))[d]? = some ((padL T (d + 1)).getD d 0)) := Lib.hid (by
                rw [List.getD_eq_getElem?_getD, List.getElem?_eq_getElem (by rw [HPn.out]; omega)]; rfl)
              have hv9 : (padL T (d + 1)).getD d 0 ≤ 100000 := by rw [padL_getD]; exact HTn.out d
              obtain ⟨b3, o3, e3, _, hc3⟩ := HO.out.at_cells.at (i := d) (by rw [List.length_map, HPn.out]; omega)
              subst e3
              have cd := hc3 d (vi ((padL T (d + 1)).getD d 0)) (by rw [List.getElem?_map, HGd.out]; rfl)
              obtain ⟨e0, hrow, ho4, fd⟩ := HO.out.put (s := none) (d := d) (by rw [HPn.out]; omega) ((padL T (d + 1)).getD d 0 + 1)
              subst e0
              rw [← HTs.out] at ho4
              rw [Nat.zero_add] at cd
              have HO4 := Lib.hid ho4
              have HR4 : Hid (∀ b, rowOf (.slice (some ⟨b3, 0, none⟩) l c) = some b → w2.heap.size ≤ b) := HR
              have HB4 : Hid (Below w2.heap.size w2 (wr.setCell ⟨b3, d, none⟩ (vi ((padL T (d + 1)).getD d 0 + 1)))) := Lib.hid (HB.out.setCell (p := ⟨b3, d, none⟩) (HR.out b3 hrow) _)
              have HLf : Hid (l = (tallyL deg (us.take (j + 1))).length) := Lib.hid (by rw [HTs.out, List.length_set, HPn.out])
              generalize (padL T (d + 1)).getD d 0 = vd at *
              clear hc3 ho4 hrow
              go_wp2_with (refine wpList_ilook rfl _ _ 84 rfl 3 Tryz.underlying3 Tryz.underlying84 (by kernel_rfl) mp _ C rfl HIr.out (x : Int) rfl HWy.out ?_; rw [HCy.out])
              exact ⟨⟨j + 1, _, c, l, by omega, rfl, vint (by omega), HLf, HO4, HR4, HB4⟩, by simp [intOf]; omega⟩
        · obtain rfl : j = i := by omega
          have hlt' : decide ((j : Int) < (j : Int)) = false := by simp
          have HTk : Hid (us.take j = us) := Lib.hid (by rw [HUn.out, List.take_length])
          rw [HTk.out] at HL HO
          have HBz := Lib.hid (HB2.out.trans (HB.out.mono (Nat.le_of_lt HSw2.out)))
          go_wp2_with fail
          exact HP.out _ _ _ _ HL.out HO.out.at_cells (by rw [← HQ.out]; exact HBz.out)
end Go.Proofs.YtfedgcdkagngnaaGreat

namespace Go.Proofs.YtfedgcdkagngnaaGreat
open Go.RowKit
set_option linter.unusedVariables false

section
variable {B : Nat} {m : Al} {xs : List Nat}
theorem ptrsO_is {y : Nat} {o : Odec} (ho : placedN m.bm.dev m.bm.list (y : Int) = some o) : ptrsO m y = ptrL m.bm.dev (y : Int) o.p.toNat := by
  obtain ⟨h1, h2, _⟩ := placed_head ho
  unfold ptrsO ptrsD
  rw [h1, if_pos h2]
theorem peek_nat (l : List Nat) (a i : Nat) : peek l ((a : Int) + 1 + (i : Int)) = l.getD (a + 1 + i) 0 := by
  rw [show (a : Int) + 1 + (i : Int) = ((a + 1 + i : Nat) : Int) by push_cast; rfl, peek_in]
end

section
variable {w wr w' : World} {Q : List Nat} {A : AF} {n N N' : Nat} {m m' : Al} {v : Value} {xs : List Nat} {K : MkF} {M : Mk}
end

end Go.Proofs.YtfedgcdkagngnaaGreat

namespace Go.Proofs.YtfedgcdkagngnaaGreat
open Go.RowKit Go.Maps
set_option linter.unusedVariables false

theorem lead_one {B : Nat} {m : Al} {a : Nat} (h : WOk B m [a]) (hB : B ≤ 200) (ho : placedN m.bm.dev m.bm.list (a : Int) = some ⟨1, 0, 0⟩) : ptrsO (m.lead [a] 0 0 0) a = [a] := by
  have hp0 : pickN [a] 0 = a := by unfold pickN; simp
  have ha := h.lt (x := a) (by simp)
  have hu := h.us a (by simp)
  obtain ⟨h1, h2, _⟩ := placed_head ho
  have hpl : placeN m.bm.dev (a : Int) 0 false = ⟨(a : Int) + (1 + 0), 0⟩ := by
    unfold placeN
    rw [h1]
    dsimp only
    rw [if_neg (by simp), if_neg (by simp), if_pos (by omega)]
  have e1 : m.lead [a] 0 0 0 = ⟨⟨m.bm.dev.store ((a + 1 : Nat) : Int) a, m.bm.list, m.bm.free⟩, m.used, m.fl⟩ := by
    unfold Al.lead
    rw [hp0, if_neg (by omega)]
    unfold Dev.setPtr
    rw [hpl]
    dsimp only
    rw [if_neg (by simp), if_neg (by omega), show (a : Int) + (1 + 0) = ((a + 1 : Nat) : Int) by push_cast; omega, Int.toNat_natCast]
  obtain ⟨s1, _, _, _, _⟩ := placed_size ho
  have hs : (objSize 1 0 : Int) = 1 + 1 + 0 := objSize_is s1
  obtain ⟨_, _, a3, a4⟩ := h.ok.store hB hu ho (j := a + 1) (v := a) (by omega) (by show a + 1 < a + objSize 1 0; omega) (by omega)
  rw [e1]
  have ho' : placedN (⟨⟨m.bm.dev.store ((a + 1 : Nat) : Int) a, m.bm.list, m.bm.free⟩, m.used, m.fl⟩ : Al).bm.dev m.bm.list (a : Int) = some ⟨1, 0, 0⟩ := (a4 a hu).trans ho
  rw [ptrsO_is (m := ⟨⟨m.bm.dev.store ((a + 1 : Nat) : Int) a, m.bm.list, m.bm.free⟩, m.used, m.fl⟩) ho']
  have hlt : a + 1 < m.bm.dev.cache.length := by
    have := (placed_room ho).pos
    rw [h.ok.bm.lenL] at this
    have f1 := room_fits (p := 1) (d := 0) s1
    rw [h.ok.len]; omega
  show [capP (peek (m.bm.dev.store ((a + 1 : Nat) : Int) a).cache ((a : Int) + 1 + ((0 : Nat) : Int)))] = [a]
  rw [peek_nat, a3, List.getD_eq_getElem?_getD, List.getElem?_set_self (by simpa using hlt)]
  show [capP a] = [a]
  unfold capP
  rw [if_neg (by omega)]
theorem list_one {l : List Nat} {a : Nat} (hn : l.Nodup) (h : ∀ x, x ∈ l ↔ x = a) : l = [a] := by
  match l, hn, h with
  | [], _, h => exact absurd ((h a).2 rfl) (by simp)
  | [b], _, h => rw [(h b).1 (by simp)]
  | b :: c :: t, hn, h =>
    have h1 := (h b).1 (by simp)
    have h2 := (h c).1 (by simp)
    subst h1 h2
    simp at hn
theorem onesL_nodup (l : List Bool) : (onesL l).Nodup := List.Nodup.sublist List.filter_sublist List.nodup_range
theorem tally_one {deg : Nat → Nat} {a : Nat} (h : deg a = 1) : tallyL deg [a] = [0, 1] := by
  have h1 : topL deg [a] = 2 := by unfold topL; simp [h]
  unfold tallyL
  rw [h1]
  show [tallyN deg [a] 0, tallyN deg [a] 1] = [0, 1]
  unfold tallyN
  simp [h]
theorem depth_one {ok : Nat → Bool} {P : Nat → List Nat} {a K : Nat} (ha : ok a = true) (hp : P a = [a]) (h : LvEnd ok P (takeNew ok [] [a]) K) : K - 1 = 0 := by
  have e0 : takeNew ok [] [a] = ([a], [a]) := by rw [takeNew_one, ha]; rfl
  have e1 : levels ok P 1 (takeNew ok [] [a]) = ([a], []) := by
    rw [levels_succ, show levels ok P 0 (takeNew ok [] [a]) = takeNew ok [] [a] from rfl, e0]
    show takeNew ok [a] ([a].flatMap P) = _
    rw [show [a].flatMap P = [a] by simp [hp], takeNew_one, ha]
    simp
  have h1 : LvEnd ok P (takeNew ok [] [a]) 1 := ⟨fun t ht => (by
    have : t = 0 := by omega
    subst this
    show (takeNew ok [] [a]).2 ≠ []
    rw [e0]; simp), by rw [e1]⟩
  rw [h.one h1]

set_option maxHeartbeats 8000000 in
set_option maxRecDepth 100000 in
theorem awake32_any (w : World) : Calls Tryz.prog 24 #[] w (Gives (.bool true) w) := by
  have HP : Hid (∀ w', Below w.heap.size w w' → Gives (.bool true) w (.returned (.bool true)) w') := Lib.hid (fun w' h => ⟨rfl, h⟩)
  generalize Gives (.bool true) w = Post at *
  go_enter Tryz.func24, Tryz.ntmps24
  go_wp2_with fail
  refine (begun20_any 3 (by omega) (by omega) _).mono ?_
  rintro e w1 ⟨A, n, rfl, ha, hn, hA, hb⟩
  have hh := Hp.begun (w := w) (by omega) (by omega) ha hA (Below.refl _ _) hb (Q := []) (by simp)
  obtain ⟨q, hq⟩ : ∃ q, q = w1.heap.size := ⟨_, rfl⟩
  have HH : Hid (Hp w (w1.alloc (.cells #[valloc A, vdev A.X.F, .slice none 0 0] 28)) [q] A n 3 201000 (al0 3) (.slice none 0 0) []) := Lib.hid (hh.more (fun k hk => by
    simp only [List.mem_cons, List.not_mem_nil, or_false] at hk
    subst hk
    exact .inr ⟨by rw [hq]; exact Nat.le_refl _, by simp [hq]⟩) (below_alloc _ _))
  have HMr := Lib.hid (Mem.one w1 #[valloc A, vdev A.X.F, .slice none 0 0] 28).r
  have HQ : Hid (w.heap.size ≤ q) := Lib.hid (by rw [hq]; exact hb.size)
  rw [← hq] at HMr
  clear ha hA hb hh
  go_upto_region 2 with fail
  rw [← hq]
  generalize w1.alloc _ = w2 at *
  clear hq
  go_wp2_with (refine wpList_load_r aggW HMr.out 0 rfl rfl rfl rfl rfl ?_)
  refine (HH.out.make (by omega) (by omega) (by omega) (by omega) 1 0).mono ?_
  rintro e w3 ⟨m1, v1, xs1, R1, rfl, hh1, hk1, hmd⟩
  rcases hmd with ⟨a, hmd, rfl⟩ | ⟨_, _, _, hno⟩
  case inr => exact absurd hno (roomy0 (by omega) (by omega) (by have := clamp_size 1 0; show 1 ≤ _ ∧ _ ≤ 256; omega))
  rw [List.nil_append] at hh1
  obtain ⟨sa, sc, rfl, _⟩ := hh1.at_.own.cells
  have HH3 := Lib.hid hh1
  have HMr3 := Lib.hid (HMr.out.off hk1 (by simp))
  have HPl := Lib.hid (lead_one hh1.ok (by omega) hmd.placed)
  have HUs : Hid (∀ x, m1.used.getD x false = true → x ∈ [a]) := Lib.hid (fun x hx => by
    have := full_made (full_begun 3) hmd rfl x hx
    rwa [List.nil_append] at this)
  have HUa := Lib.hid (hh1.ok.us a (by simp))
  have ha9 := (hh1.ok.lt (x := a) (by simp)).2
  clear hh1 hk1 hmd
  simp only [List.length_singleton] at HH3 ⊢
  go_wp2_with (first
    | (refine wpList_load_r aggW HM4.out 0 rfl rfl rfl rfl rfl ?_)
    | (refine wpList_store_r aggW HMr3.out 0 rfl rfl rfl rfl rfl rfl rfl rfl ?_; intro w4 h4 ht4; have HM4 := Lib.hid h4; have HT4 := Lib.hid ht4; clear h4 ht4))
  have HH4 := Lib.hid (HH3.out.own (HT4.out.wide (by simp)) (by intro k hk; simp at hk; subst hk; exact HQ.out))
  refine (HH4.out.lead (by omega) (by omega) 0 0 0).mono ?_
  rintro e w5 ⟨R5, rfl, hh5, hk5⟩
  have HH5 := Lib.hid hh5
  have HM5 := Lib.hid (HM4.out.off hk5 (by simp))
  have HUl : Hid ((m1.lead [a] 0 0 0).used = m1.used) := Lib.hid (lead_used _ _ _ _ _)
  clear hh5 hk5 HH4 HH3 HM4 HT4 HMr3
  generalize m1.lead [a] 0 0 0 = m2 at *
  rw [← HUl.out] at HUs HUa
  have HOn : Hid (onesL m2.used = [a]) := Lib.hid (list_one (onesL_nodup _) (fun x => ⟨fun h => by simpa using HUs.out x (mem_onesL.1 h), fun e => by subst e; exact mem_onesL.2 HUa.out⟩))
  have hdeg : degOf (fun x : Nat => ptrsD m2.bm.dev (x : Int)) [a] a = 1 := by
    unfold degOf
    rw [List.flatMap_cons, List.flatMap_nil, List.append_nil, show ptrsD m2.bm.dev (a : Int) = [a] from HPl.out]; simp
  have HTy : Hid (tallyL (degOf (fun x : Nat => ptrsD m2.bm.dev (x : Int)) (onesL m2.used)) (onesL m2.used) = [0, 1]) := Lib.hid (by rw [HOn.out]; exact tally_one hdeg)
  have hul := HH5.out.ok.ok.lenU
  have hcl := HH5.out.ok.ok.len
  have HDg := Lib.hid (sdegrees_any HH5.out.at_.al (by rw [hul]; omega))
  unfold DegPost at HDg
  rw [HTy.out] at HDg
  have c0 := HM5.out.cell 0 0 rfl rfl
  clear hdeg HTy
  go_wp2_with fail
  refine HDg.out.mono ?_
  rintro e w6 ⟨al, cl, rfl, hcl6, hb6⟩
  have HC6 := Lib.hid hcl6
  have HH6 := Lib.hid (HH5.out.later hb6)
  have HM6 := Lib.hid (HM5.out.later hb6)
  obtain ⟨b1, o1, rfl, _, hc1⟩ := hcl6.at (i := 0) (by simp)
  have d0 : w6.cell? ⟨b1, o1, none⟩ = some (.int .i64 0) := hc1 0 _ rfl
  have d1 : w6.cell? ⟨b1, o1 + 1, none⟩ = some (.int .i64 1) := hc1 1 _ rfl
  have e0 := HM6.out.cell 0 0 rfl rfl
  have e1 := HM6.out.cell 0 1 rfl rfl
  have e2 := HM6.out.cell 0 2 rfl rfl
  have r0 := fun x => later_cell e0 x
  have r1 := fun x => later_cell e1 x
  have r2 := fun x => later_cell e2 x
  clear hb6 hcl6 hc1 HH5 HM5 HDg c0
  simp only [List.length_cons, List.length_nil]
  go_upto_region 7 with fail
  have HB6 := Lib.hid HH6.out.below
  have HLc : Hid (m2.used.length = m2.bm.dev.cache.length) := Lib.hid (by rw [hul, hcl])
  have HLu : Hid (m2.used.length = 1536) := Lib.hid (by rw [hul])
  have HK := Lib.hid (fun K (h : LvEnd (fun x => m2.used.getD x false) (fun x : Nat => ptrsD m2.bm.dev (x : Int)) (takeNew (fun x => m2.used.getD x false) [] [a]) K) => depth_one HUa.out HPl.out h)
  clear hul hcl e0 e1 e2
  refine wp_region_seg (C := fun w' => ∃ x : Later (w6), w' = x.val) [.sq [0, 1, 2, 3, 4, 5, 6, 7, 8, 9, 10, 11, 12, 13, 14, 15] false, .fl [16, 17, 18], .sq [19] true, .sq [20] true, .sq [21, 22, 23, 24] false] (by kernel_rfl) (by kernel_rfl) (by intro c a d v w h; cases d <;> exact h) ?_
  simp only [segs, picks, List.getElem?_cons_succ, List.getElem?_cons_zero]
  have hC1 := later_drew (w6)
  refine wpSeg_sq (fun K hK => ?_)
  go_wp2_with fail
  go_wp2_with fail
  refine hK _ _ (fun h => nomatch h) ?_
  clear hK K
  refine wpSeg_fl hC1 ?_
  repeat (first | go_big_quiet_step (fail) | quiet_step (fail))
  refine wpQuiet_nil ?_
  have HH7 := Lib.hid (HH6.out.later (later_below hC1))
  clear r0 r1 r2 d0 d1 HH6 HM6
  generalize w6.drew = w7 at *
  refine wpSeg_sq (fun K hK => ?_)
  go_wp2_with fail
  refine (wpick_any _ _ _ [a] HH7.out.at_.own (by simp) 0).mono ?_
  rintro e w8 ⟨rfl, hb8⟩
  rw [show pickN [a] 0 = a by unfold pickN; simp]
  have HH8 := Lib.hid (HH7.out.later hb8)
  have hC2 := later_step hC1 hb8
  clear hb8 HH7
  go_wp2_with fail
  refine hK _ _ (fun _ => hC2) ?_
  clear hK K
  have hC3 := later_step hC2 (below_alloc w8 (.cells #[.int .i64 (a : Int)] 3))
  have HH9 := Lib.hid (HH8.out.later (below_alloc w8 (.cells #[.int .i64 (a : Int)] 3)))
  have HC9 : Hid (Cells (w8.alloc (.cells #[.int .i64 (a : Int)] 3)) (some ⟨w8.heap.size, 0, none⟩) ([a].map vi)) := Lib.hid (RowAt.cells (show RowAt (w8.alloc (.cells #[.int .i64 (a : Int)] 3)) w8.heap.size 3 [vi a] from ⟨_, heap_alloc_new _ _, [], rfl⟩))
  refine wpSeg_sq (fun K hK => ?_)
  go_wp2_with fail
  go_wp2_with fail
  refine hK _ _ (fun _ => hC3) ?_
  clear hK K
  generalize w8.alloc _ = w9 at *
  generalize w8.heap.size = g9 at *
  have HDp := Lib.hid (sdepth_any HH9.out.at_.al HLc.out (by rw [HLu.out]; omega) (by rw [HLu.out]; omega) (some ⟨g9, 0, none⟩) 1 1 [a] rfl HC9.out (by omega) (by intro x hx; simp at hx; subst hx; omega))
  refine wpSeg_last ?_
  go_wp2_with fail
  refine HDp.out.mono ?_
  rintro e w10 ⟨K, hk, rfl, hb10⟩
  have HB10 := Lib.hid (HH9.out.below.trans (hb10.mono HH9.out.below.size))
  rw [HK.out K hk]
  clear hk hb10
  go_wp2_with fail
  exact HP.out _ HB10.out

end Go.Proofs.YtfedgcdkagngnaaGreat
