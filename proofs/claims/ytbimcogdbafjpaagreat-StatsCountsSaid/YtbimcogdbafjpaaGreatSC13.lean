/- Parts of the proof, one behind the other: Td, Te, Wp, Tf, Tp, Ri. -/
import Derived.Test.YtbimcogdbafjpaaGreatSC12
set_option linter.unusedVariables false
namespace Go.Proofs.YtbimcogdbafjpaaGreat
open Go.RowKit Go.Maps
structure Bits (U M : List Bool) (S : List Nat) : Prop where
 len : M.length = U.length
 is : ∀ x : Nat, M.getD x false = S.contains x
section
variable {U M : List Bool} {S : List Nat} {y : Nat}
theorem Bits.start (U : List Bool) : Bits U (List.replicate U.length false) [] := ⟨by simp, fun x => by rw [List.getD_eq_getElem?_getD, List.getElem?_replicate]; split <;> rfl⟩
theorem Bits.fresh (h : Bits U M S) (hu : U.getD y false = true) : freshI M (y : Int) = !S.contains y := by
 have h1 := getD_true_lt hu
 unfold freshI
 rw [hasI_nat, h.is, decide_eq_true (by rw [h.len]; omega)]; rfl
theorem Bits.same (h : Bits U M S) (hu : U.getD y false = true) (hc : S.contains y = true) : addI M (y : Int) = M := by
 unfold addI; rw [h.fresh hu, hc]; rfl
theorem Bits.add (h : Bits U M S) (hu : U.getD y false = true) (hc : S.contains y = false) : Bits U (addI M (y : Int)) (S ++ [y]) := by
 have h1 := getD_true_lt hu
 unfold addI
 rw [h.fresh hu, hc, if_pos (by decide), Int.toNat_natCast]
 refine ⟨by rw [List.length_set, h.len], fun x => ?_⟩
 rw [getD_set_bool _ _ _ _ (by rw [h.len]; exact h1)]
 rw [Bool.eq_iff_iff]
 by_cases e : x = y
 ·subst e; simp
 ·have e2 : ¬ y = x := fun h => e h.symm
  simp only [e, e2, if_false]
  rw [h.is]; simp [e]
end
structure SDp (q B : Nat) (w0 w : World) (X : SetF) (M : List Bool) (v : Value) (L : List Nat) (vo : Value) (O : List Nat) (ap : Option Addr) (Q : List Nat) : Prop where
 set : SetAt w X M
 own : OwnI w v L
 row : ∀ b, rowOf v = some b → B ≤ b
 oth : OwnI w vo O
 rowo : ∀ b, rowOf vo = some b → b ∉ X.list ∧ b < B
 cells : Cells w ap (Q.map vi)
 away : Q ≠ [] → ∀ x, ap = some x → x.block < w.heap.size ∧ x.block ∉ X.list ∧ rowOf v ≠ some x.block
 lo : Below q w0 w
 hX : ∀ k ∈ X.list, q ≤ k ∧ k < B
 hB : B ≤ w.heap.size
 hq : q ≤ B
section
variable {q B : Nat} {w0 w w' wa w2 : World} {X : SetF} {M M' : List Bool} {v v2 vo : Value} {L L' O Q : List Nat} {ap : Option Addr}
theorem SDp.later (h : SDp q B w0 w X M v L vo O ap Q) (hb : Below w.heap.size w w') : SDp q B w0 w' X M v L vo O ap Q :=
 ⟨h.set.keep (fun k hk => hb.block k (h.set.mem k hk)), h.own.keep (fun b hb' => hb.block b (h.own.lt b hb')), h.row, h.oth.keep (fun b hb' => hb.block b (h.oth.lt b hb')), h.rowo, h.cells.below hb (Nat.le_refl _), fun hn x hx => ⟨Nat.lt_of_lt_of_le (h.away hn x hx).1 hb.size, (h.away hn x hx).2⟩, h.lo.trans (hb.mono (Nat.le_trans h.hq h.hB)), h.hX, Nat.le_trans h.hB hb.size, h.hq⟩
theorem SDp.reads (h : SDp q B w0 w X M v L vo O ap Q) (hk : Q ≠ [] → ∀ x, ap = some x → w'.heap[x.block]? = w.heap[x.block]?) : Cells w' ap (Q.map vi) := by
 by_cases hn : Q = []
 ·subst hn; exact .inl rfl
 ·exact h.cells.blk (hk hn)
theorem SDp.add (h : SDp q B w0 w X M v L vo O ap Q) (hs : SetAt w' X M') (ht : Touch X.list w w') : SDp q B w0 w' X M' v L vo O ap Q :=
 ⟨hs, h.own.keep (fun b hb => ht.block b (h.own.lt b hb) (fun hm => by have h1 := h.row b hb; have h2 := (h.hX b hm).2; omega)), h.row, h.oth.keep (fun b hb => ht.block b (h.oth.lt b hb) (h.rowo b hb).1), h.rowo, h.reads (fun hn x hx => ht.block _ (h.away hn x hx).1 (h.away hn x hx).2.1), fun hn x hx => ⟨Nat.lt_of_lt_of_le (h.away hn x hx).1 ht.size, (h.away hn x hx).2⟩, h.lo.trans (ht.below (Nat.le_trans h.hq h.hB) (fun k hk => (h.hX k hk).1)), h.hX, Nat.le_trans h.hB ht.size, h.hq⟩
theorem SDp.grow (h : SDp q B w0 w X M v L vo O ap Q) (hb : Below w.heap.size w wa) (ho : OwnI w2 v2 L') (g : wa.grownBy w2 (rowOf v)) (hr : ∀ b, rowOf v2 = some b → rowOf v = some b ∨ b = wa.heap.size) : SDp q B w0 w2 X M v2 L' vo O ap Q := by
 have hs := hb.size
 have hs2 := g.size
 have hB := h.hB
 have key : ∀ k, k < w.heap.size → rowOf v ≠ some k → w2.heap[k]? = w.heap[k]? := fun k hk hn => (g.block k (by omega) (fun e => hn e.symm)).trans (hb.block k hk)
 refine ⟨h.set.keep (fun k hk => key k (h.set.mem k hk) (fun e => by have h1 := h.row k e; have h2 := (h.hX k hk).2; omega)), ho, fun b hb' => ?_, h.oth.keep (fun b hb' => key b (h.oth.lt b hb') (fun e => by have h1 := h.row b e; have h2 := (h.rowo b hb').2; omega)), h.rowo, h.reads (fun hn x hx => key _ (h.away hn x hx).1 (h.away hn x hx).2.2), fun hn x hx => ⟨by have := (h.away hn x hx).1; omega, (h.away hn x hx).2.1, fun e => ?_⟩, ⟨g.os.trans (hb.os.trans h.lo.os), g.tape.trans (hb.tape.trans h.lo.tape), g.output.trans (hb.output.trans h.lo.output), by have := h.lo.size; omega, fun k hk => ?_⟩, h.hX, by omega, h.hq⟩
 ·rcases hr b hb' with c | c
  ·exact h.row b c
  ·omega
 ·rcases hr _ e with c | c
  ·exact (h.away hn x hx).2.2 c
  ·have := (h.away hn x hx).1; omega
 ·have hq := h.hq
  exact (key k (by omega) (fun e => by have := h.row k e; omega)).trans (h.lo.block k hk)
theorem SDp.turn (h : SDp q B w0 w X M v L vo O ap Q) : SDp q w.heap.size w0 w X M (.slice none 0 0) [] v L none [] :=
 ⟨h.set, OwnI.nil _, fun b hb => (by cases hb), h.own, fun b hb => ⟨fun hm => by have h1 := h.row b hb; have h2 := (h.hX b hm).2; omega, h.own.lt b hb⟩, .inl rfl, fun hn => absurd rfl hn, h.lo, fun k hk => ⟨(h.hX k hk).1, Nat.lt_of_lt_of_le (h.hX k hk).2 h.hB⟩, Nat.le_refl _, Nat.le_trans h.hq h.hB⟩
theorem SDp.drop (h : SDp q B w0 w X M v L vo O ap Q) : SDp q B w0 w X M v L (.slice none 0 0) [] none [] :=
 ⟨h.set, h.own, h.row, OwnI.nil _, fun b hb => (by cases hb), .inl rfl, fun hn => absurd rfl hn, h.lo, h.hX, h.hB, h.hq⟩
theorem SDp.stop (h : SDp q B w0 w X M v L vo O ap Q) : SDp q B w0 w X M v L vo O none [] :=
 ⟨h.set, h.own, h.row, h.oth, h.rowo, .inl rfl, fun hn => absurd rfl hn, h.lo, h.hX, h.hB, h.hq⟩
theorem SDp.read (h : SDp q B w0 w X M v L vo O none []) (hb : Below w.heap.size w w') (hc : Cells w' ap (Q.map vi)) (hn : ∀ x, ap = some x → w.heap.size ≤ x.block) : SDp q B w0 w' X M v L vo O ap Q := by
 have h1 := h.later hb
 refine ⟨h1.set, h1.own, h1.row, h1.oth, h1.rowo, hc, fun hq x hx => ?_, h1.lo, h1.hX, h1.hB, h1.hq⟩
 obtain ⟨b, o, e, hlt, _⟩ := hc.at (i := 0) (by rw [List.length_map]; exact List.length_pos_iff.2 hq)
 rw [hx] at e
 have hxb := hn x hx
 injection e with e
 subst e
 refine ⟨hlt, fun hm => ?_, fun e2 => ?_⟩
 ·have h2 := (h.hX _ hm).2; have h3 := h.hB; dsimp only at hxb h2; omega
 ·have h2 := h.own.lt _ e2; dsimp only at hxb h2; omega
end
theorem takeNew_snoc (ok : Nat → Bool) (seen l : List Nat) (y : Nat) : takeNew ok seen (l ++ [y]) = if ok y && !(takeNew ok seen l).1.contains y then ((takeNew ok seen l).1 ++ [y], (takeNew ok seen l).2 ++ [y]) else takeNew ok seen l := by
 rw [takeNew_append, takeNew_one]
 split
 ·rfl
 ·simp
set_option maxHeartbeats 8000000 in
set_option maxRecDepth 100000 in
theorem sdepth_any {w : World} {A : AF} {n B : Nat} {m : Al} (h : AlAt w A n B m) (hLc : m.used.length = m.bm.dev.cache.length) (hU : m.used.length ≤ 100000) (hU1 : 1 ≤ m.used.length)
  (af : Option Addr) (fn cf : Nat) (fs : List Nat) (hfn : fs.length = fn) (hcf : Cells w af (fs.map vi)) (hfl : fn ≤ 20) (hfx : ∀ x ∈ fs, x ≤ 1099511627776) :
  Calls Tryz.prog 114 #[valloc A, .slice af fn cf] w (DepthPost m.used (fun x : Nat => ptrsD m.bm.dev (x : Int)) fs w) := by
 have HP : Hid (∀ (K : Nat) (z : Int) (w' : World), LvEnd (fun x => m.used.getD x false) (fun x : Nat => ptrsD m.bm.dev (x : Int)) (takeNew (fun x => m.used.getD x false) [] fs) K → z = ((K - 1 : Nat) : Int) → Below w.heap.size w w' → DepthPost m.used (fun x : Nat => ptrsD m.bm.dev (x : Int)) fs w (.returned (.int .i64 z)) w') := LH (fun K z w' h1 h2 h3 => by subst h2; exact ⟨K, h1, rfl, h3⟩)
 generalize DepthPost m.used (fun x : Nat => ptrsD m.bm.dev (x : Int)) fs w = Post at *
 obtain ⟨q, hq⟩ : ∃ q, q = w.heap.size := ⟨_, rfl⟩
 have HA := LH (fun w' (hb : Below q w w') => h.below (by rw [← hq]; exact hb))
 have HPt := LH (fun w' (h : AlAt w' A n B m) (x : Nat) => optrs_any h.man.dev (x : Int))
 have HPo : Hid (∀ (x : Nat) w1 e w2, PtrsPost m.bm.dev (x : Int) w1 e w2 → ∃ av cp ec, e = .returned (.tuple #[.slice av (ptrsD m.bm.dev (x : Int)).length cp, .int .i64 ec]) ∧ Cells w2 av ((ptrsD m.bm.dev (x : Int)).map vi) ∧ Below w1.heap.size w1 w2 ∧ ∀ x, av = some x → w1.heap.size ≤ x.block) := LH (fun x w1 e w2 hp => by
  obtain ⟨av, cp, ec, e1, _, e2, e3, e4⟩ := hp.out
  exact ⟨av, cp, ec, e1, e2, e4, e3⟩)
 have HPl : Hid (∀ x : Nat, (ptrsD m.bm.dev (x : Int)).length ≤ 64) := LH (fun x => ptrsD_len h.man.dev.small _)
 have HPe : Hid (∀ x : Nat, ∀ y ∈ ptrsD m.bm.dev (x : Int), y ≤ 1099511627776) := LH (fun x => ptrsD_le _ _)
 have HSl : Hid (∀ t, (lvS (fun x => m.used.getD x false) (fun x : Nat => ptrsD m.bm.dev (x : Int)) fs t).length ≤ 100000) := LH (fun t => Nat.le_trans (lvS_len t) hU)
 have HUs := LH (fun w' (h : AlAt w' A n B m) (x : Nat) => aused_any h (x : Int))
 have HLn := LH (dlen_any h.man.dev)
 have HDv := LH (adev_any h)
 have HNw := LH (fun w => snew_any m.bm.dev.cache.length (by omega) (by omega) w)
 rw [← hLc] at HNw HLn
 have hUl : m.used.length ≤ 100000 := hU
 have HLi : Hid (∀ x, hasI m.used ((x : Nat) : Int) = m.used.getD x false) := LH (fun x => hasI_nat _ x)
 obtain ⟨U, hUU⟩ : ∃ U, U = m.used := ⟨_, rfl⟩
 rw [← hUU] at HP HSl HUs HLn HNw hUl HLi
 have HQ := LH hq
 have HCf := LH hcf
 have HFn := LH hfn
 have HFx := LH hfx
 clear h hLc hU hU1 hcf hfn hfx hUU
 have HFlat : Hid (∀ l : List Nat, (l.flatMap (fun x : Nat => ptrsD m.bm.dev (x : Int))).length ≤ 64 * l.length) := LH (flat_len (fun x => HPl.out x))
 have HGe : Hid (∀ t, (∀ j, j < t → (levels (fun x => U.getD x false) (fun x : Nat => ptrsD m.bm.dev (x : Int)) j (takeNew (fun x => U.getD x false) [] fs)).2 ≠ []) → t ≤ 100000) := LH (fun t ht => Nat.le_trans (lv_ge t ht) (HSl.out t))
 have HL1 : Hid (∀ t, (levels (fun x => U.getD x false) (fun x : Nat => ptrsD m.bm.dev (x : Int)) t (takeNew (fun x => U.getD x false) [] fs)).1.length ≤ 100000) := LH (fun t => HSl.out (t + 1))
 have HL2 : Hid (∀ t, (levels (fun x => U.getD x false) (fun x : Nat => ptrsD m.bm.dev (x : Int)) t (takeNew (fun x => U.getD x false) [] fs)).2.length ≤ 100000) := LH (fun t => by
  have h1 := HL1.out t
  rw [lv_round, takeNew_len] at h1
  rw [lv_round]; omega)
 have HL0 : Hid (levels (fun x => U.getD x false) (fun x : Nat => ptrsD m.bm.dev (x : Int)) 0 (takeNew (fun x => U.getD x false) [] fs) = takeNew (fun x => U.getD x false) [] fs) := LH rfl
 have HLs : Hid (∀ t, levels (fun x => U.getD x false) (fun x : Nat => ptrsD m.bm.dev (x : Int)) (t + 1) (takeNew (fun x => U.getD x false) [] fs) = takeNew (fun x => U.getD x false) (levels (fun x => U.getD x false) (fun x : Nat => ptrsD m.bm.dev (x : Int)) t (takeNew (fun x => U.getD x false) [] fs)).1 ((levels (fun x => U.getD x false) (fun x : Nat => ptrsD m.bm.dev (x : Int)) t (takeNew (fun x => U.getD x false) [] fs)).2.flatMap (fun x : Nat => ptrsD m.bm.dev (x : Int)))) := LH (fun t => rfl)
 have HEnd : Hid (∀ t, (∀ j, j < t → (levels (fun x => U.getD x false) (fun x : Nat => ptrsD m.bm.dev (x : Int)) j (takeNew (fun x => U.getD x false) [] fs)).2 ≠ []) → (levels (fun x => U.getD x false) (fun x : Nat => ptrsD m.bm.dev (x : Int)) t (takeNew (fun x => U.getD x false) [] fs)).2 = [] → LvEnd (fun x => U.getD x false) (fun x : Nat => ptrsD m.bm.dev (x : Int)) (takeNew (fun x => U.getD x false) [] fs) t) := LH (fun t h1 h2 => ⟨h1, h2⟩)
 obtain ⟨P, hP⟩ : ∃ P : Nat → List Nat, P = fun x : Nat => ptrsD m.bm.dev (x : Int) := ⟨_, rfl⟩
 have HPx : Hid (∀ x : Nat, ptrsD m.bm.dev (x : Int) = P x) := LH (fun x => by rw [hP])
 rw [← hP] at HP HGe HL0 HLs HEnd HL1 HL2 HFlat
 clear HSl hP
 generalize levels (fun x => U.getD x false) P = sL at *
 go_enter Tryz.func114, Tryz.ntmps114
 go_wp2_with fail
 refine HDv.out.mono ?_
 rintro e w1 ⟨rfl, rfl⟩
 go_wp2_with fail
 refine HLn.out.mono ?_
 rintro e w1 ⟨rfl, rfl⟩
 go_wp2_with fail
 refine (HNw.out _).mono ?_
 rintro e w1 ⟨X, rfl, hs1, hb1, hx1⟩
 have HSd : Hid (SDp q w1.heap.size w w1 X (List.replicate U.length false) (.slice none 0 0) [] (.slice none 0 0) [] none []) := LH ⟨hs1, OwnI.nil _, fun b hb => (by cases hb), OwnI.nil _, fun b hb => (by cases hb), .inl rfl, fun hn => absurd rfl hn, by rw [HQ.out]; exact hb1, fun k hk => ⟨by rw [HQ.out]; exact hx1 k hk, hs1.mem k hk⟩, Nat.le_refl _, by rw [HQ.out]; exact hb1.size⟩
 have HBt := LH (Bits.start U)
 clear hs1 hb1 hx1 HNw HLn HDv
 go_wp2_with fail
 have HK0 : Hid (takeNew (fun x => U.getD x false) [] (fs.take 0) = ([], [])) := LH (by rw [List.take_zero]; rfl)
 have HKs : Hid (∀ i x, fs[i]? = some x → takeNew (fun x => U.getD x false) [] (fs.take (i + 1)) = if (U.getD x false) && !(takeNew (fun x => U.getD x false) [] (fs.take i)).1.contains x then ((takeNew (fun x => U.getD x false) [] (fs.take i)).1 ++ [x], (takeNew (fun x => U.getD x false) [] (fs.take i)).2 ++ [x]) else takeNew (fun x => U.getD x false) [] (fs.take i)) := LH (fun i x hx => takeNew_take _ [] fs i x hx)
 have HKl : Hid (∀ i, (takeNew (fun x => U.getD x false) [] (fs.take i)).2.length ≤ i) := LH (fun i => Nat.le_trans (takeNew_le _ _ _) (by rw [List.length_take]; omega))
 have HKe : Hid (takeNew (fun x => U.getD x false) [] (fs.take fn) = sL 0 (takeNew (fun x => U.getD x false) [] fs)) := LH (by rw [← HFn.out, List.take_length, HL0.out])
 obtain ⟨tk, htk⟩ : ∃ tk : Nat → List Nat × List Nat, tk = fun i => takeNew (fun x => U.getD x false) [] (fs.take i) := ⟨_, rfl⟩
 have HJ0 : Hid (tk 0 = ([], [])) := LH (by rw [htk]; exact HK0.out)
 have HJs : Hid (∀ i x, fs[i]? = some x → tk (i + 1) = if (U.getD x false) && !(tk i).1.contains x then ((tk i).1 ++ [x], (tk i).2 ++ [x]) else tk i) := LH (by rw [htk]; exact HKs.out)
 have HJl : Hid (∀ i, (tk i).2.length ≤ i) := LH (by rw [htk]; exact HKl.out)
 have HJe : Hid (tk fn = sL 0 (takeNew (fun x => U.getD x false) [] fs)) := LH (by rw [htk]; exact HKe.out)
 clear htk HK0 HKs HKl HKe HL0
 go_loopw [6, 23] (fun ov iv wr => ∃ (i : Nat) (a : Option Addr) (c l : Nat) (M : List Bool), i ≤ fn ∧ ov = .slice a l c ∧ iv = .int .i64 (i : Int) ∧ Hid (l = (tk i).2.length) ∧ Hid (SDp q w1.heap.size w wr X M (.slice a l c) (tk i).2 (.slice none 0 0) [] none []) ∧ Hid (Bits U M (tk i).1)) (fun _ iv _ => fn - (intOf iv).toNat)
 case atStart => exact ⟨0, none, 0, 0, _, Nat.zero_le _, rfl, rfl, LH (by rw [HJ0.out]; rfl), LH (by rw [HJ0.out]; exact HSd.out), LH (by rw [HJ0.out]; exact HBt.out)⟩
 case round =>
  clear HSd HBt
  obtain ⟨i, a, c, l, M, hi, rfl, rfl, HL, HSd, HBt⟩ := hrel
  have hli : l ≤ i := by rw [HL.out]; exact HJl.out i
  by_cases hlt : i < fn
  ·have hlt' : (i : Int) < (fn : Int) := by omega
   obtain ⟨b1, o1, e1, _, hc1⟩ := (HCf.out.below HSd.out.lo (by rw [HQ.out]; exact Nat.le_refl _)).at (i := i) (by rw [List.length_map, HFn.out]; exact hlt)
   subst e1
   obtain ⟨y, hy⟩ : ∃ y, fs[i]? = some y := ⟨_, List.getElem?_eq_getElem (by rw [HFn.out]; exact hlt)⟩
   have cy := hc1 i (vi y) (by rw [List.getElem?_map, hy]; rfl)
   have hy9 := HFx.out y (List.mem_of_getElem? hy)
   have HKx := LH (HJs.out i y hy)
   have HU1 := LH (HUs.out wr (HA.out wr HSd.out.lo) y)
   rw [HLi.out y] at HU1
   have HAd := LH (sadd_any HSd.out.set (y : Int))
   clear hc1 hy
   cases hb1 : U.getD y false with
   | false =>
    rw [hb1] at HU1 HKx
    rw [Bool.false_and, if_neg (by decide)] at HKx
    clear hb1 HAd
    go_wp2_with fail
    refine HU1.out.mono ?_
    rintro e w3 ⟨rfl, rfl⟩
    go_wp2_with fail
    exact ⟨⟨i + 1, a, c, l, M, by omega, rfl, vint (by omega), LH (by rw [HKx.out]; exact HL.out), LH (by rw [HKx.out]; exact HSd.out), LH (by rw [HKx.out]; exact HBt.out)⟩, by simp [intOf]; omega⟩
   | true =>
    rw [HBt.out.fresh hb1] at HAd
    cases hb2 : (tk i).1.contains y with
    | true =>
     rw [HBt.out.same hb1 hb2, hb2, Bool.not_true] at HAd
     rw [hb1] at HU1
     rw [hb1, hb2, if_neg (by decide)] at HKx
     clear hb1 hb2
     go_wp2_with fail
     refine HU1.out.mono ?_
     rintro e w3 ⟨rfl, rfl⟩
     go_wp2_with fail
     refine HAd.out.mono ?_
     rintro e w4 ⟨rfl, hs4, ht4⟩
     have HSd4 := LH (HSd.out.add hs4 ht4)
     clear hs4 ht4
     go_wp2_with fail
     exact ⟨⟨i + 1, a, c, l, M, by omega, rfl, vint (by omega), LH (by rw [HKx.out]; exact HL.out), LH (by rw [HKx.out]; exact HSd4.out), LH (by rw [HKx.out]; exact HBt.out)⟩, by simp [intOf]; omega⟩
    | false =>
     have HBt5 := LH (HBt.out.add hb1 hb2)
     rw [hb2, Bool.not_false] at HAd
     rw [hb1] at HU1
     rw [hb1, hb2, if_pos (by decide)] at HKx
     have hq10 : (tk i).2.length + 1 ≤ 1000000000000 := by rw [← HL.out]; omega
     generalize tk i = ti at *
     obtain ⟨S7, N7⟩ := ti
     dsimp only at HL HSd HBt HBt5 HKx hq10
     clear hb1 hb2
     go_wp2_with fail
     refine HU1.out.mono ?_
     rintro e w3 ⟨rfl, rfl⟩
     go_wp2_with fail
     refine HAd.out.mono ?_
     rintro e w3 ⟨rfl, hs3, ht3⟩
     have HSd3 := LH (HSd.out.add hs3 ht3)
     have HO3 := LH HSd3.out.own
     clear hs3 ht3
     go_wp2_with (at_builtin; refine wpList_append_ownI (ys := [y]) (m := 1) (HO3.out.keep (fun b hb => (below_alloc _ _).block b (HO3.out.lt b hb))) (RowAt.cells ⟨_, heap_alloc_new _ _, [], rfl⟩) rfl hq10 rfl rfl rfl rfl ?_; intro v4 w4 ho4 hg4 hr4; have HO4 := LH ho4; have HG4 := LH hg4; have HR4 := LH hr4; clear ho4 hg4 hr4; obtain ⟨a4, c4, e4, _⟩ := HO4.out.cells; obtain ⟨l4, hl4⟩ : ∃ l4, l4 = (N7 ++ [y]).length := ⟨_, rfl⟩; rw [← hl4] at e4; have HL4 := LH hl4; clear hl4; subst e4)
     have HSd6 := LH (HSd3.out.grow (below_alloc _ _) HO4.out HG4.out HR4.out)
     exact ⟨⟨i + 1, a4, c4, l4, _, by omega, rfl, vint (by omega), LH (by rw [HKx.out]; exact HL4.out), LH (by rw [HKx.out]; exact HSd6.out), LH (by rw [HKx.out]; exact HBt5.out)⟩, by simp [intOf]; omega⟩
  ·obtain rfl : i = fn := by omega
   have hlt' : decide ((i : Int) < (i : Int)) = false := by simp
   rw [HJe.out] at HL HSd HBt
   have HNe0 : Hid (∀ j, j < 0 → (sL j (takeNew (fun x => U.getD x false) [] fs)).2 ≠ []) := LH (fun j hj => absurd hj (Nat.not_lt_zero j))
   have hl9 : l ≤ 100000 := by omega
   clear HJ0 HJs HJl HJe
   go_wp2_with fail
   go_loopw [6, 9] (fun ov nv wr => ∃ (r z : Nat) (a : Option Addr) (c l : Nat) (M : List Bool) (B1 : Nat), r ≤ 100000 ∧ z = (if l = 0 then r - 1 else r) ∧ ov = .slice a l c ∧ nv = .int .i64 (z : Int) ∧ l ≤ 100000 ∧ Hid (l = (sL r (takeNew (fun x => U.getD x false) [] fs)).2.length) ∧ Hid (SDp q B1 w wr X M (.slice a l c) (sL r (takeNew (fun x => U.getD x false) [] fs)).2 (.slice none 0 0) [] none []) ∧ Hid (Bits U M (sL r (takeNew (fun x => U.getD x false) [] fs)).1) ∧ Hid (∀ j, j < r → (sL j (takeNew (fun x => U.getD x false) [] fs)).2 ≠ [])) (fun ov nv _ => 2 * (100001 - (intOf nv).toNat) + min (lenV ov) 1)
   case atStart => exact ⟨0, 0, a, c, l, M, _, Nat.zero_le _, by split <;> rfl, rfl, rfl, hl9, HL, HSd, HBt, HNe0⟩
   case round =>
    clear HL HSd HBt hli hl9 HNe0
    obtain ⟨r, z, a, c, l, M, B1, hr, hz, rfl, rfl, hl9, HL, HSd, HBt, HNe⟩ := hrel
    by_cases h0 : l = 0
    ·subst h0
     rw [if_pos rfl] at hz
     have HE := LH (HEnd.out r HNe.out (List.length_eq_zero_iff.1 HL.out.symm))
     have HBz := LH HSd.out.lo
     have HZ := LH hz
     clear hz
     go_wp2_with fail
     exact HP.out r _ _ HE.out (by rw [HZ.out]) (by rw [← HQ.out]; exact HBz.out)
    ·rw [if_neg h0] at hz
     subst hz
     have h0' : decide (0 < l) = true := by simp; omega
     have h0i : (0 : Int) < (l : Int) := by omega
     have HNe2 : Hid (∀ j, j < z + 1 → (sL j (takeNew (fun x => U.getD x false) [] fs)).2 ≠ []) := LH (fun j hj => by
      rcases Nat.lt_or_ge j z with c | c
      ·exact HNe.out j c
      ·have : j = z := by omega
       subst this
       intro e
       rw [e] at HL
       exact h0 HL.out)
     have hr1 := HGe.out (z + 1) HNe2.out
     have HLs1 := LH (HLs.out z)
     have HLl2 : (sL (z + 1) (takeNew (fun x => U.getD x false) [] fs)).2.length ≤ 100000 := HL2.out (z + 1)
     obtain ⟨sN, hsN⟩ : ∃ sN, sN = sL (z + 1) (takeNew (fun x => U.getD x false) [] fs) := ⟨_, rfl⟩
     rw [← hsN] at HLs1 HLl2
     have HSN := LH hsN
     have HLl3 := LH HLl2
     have HSd0 := LH HSd.out.turn
     generalize sL z (takeNew (fun x => U.getD x false) [] fs) = st at *
     obtain ⟨S0, N0⟩ := st
     dsimp only at HL HSd0 HBt HLs1
     clear HSd hsN HLl2
     have HT0 : Hid (takeNew (fun x => U.getD x false) S0 ((N0.take 0).flatMap P) = (S0, [])) := LH (by rw [List.take_zero]; rfl)
     have HTe : Hid (takeNew (fun x => U.getD x false) S0 ((N0.take l).flatMap P) = sN) := LH (by rw [HL.out, List.take_length, HLs1.out])
     have HTl : Hid (∀ F : List Nat, (takeNew (fun x => U.getD x false) S0 F).2.length ≤ F.length) := LH (fun F => takeNew_le _ _ _)
     have HFt : Hid (∀ k x, N0[k]? = some x → (N0.take (k + 1)).flatMap P = (N0.take k).flatMap P ++ P x) := LH (fun k x hx => flat_take P N0 k x hx)
     have HFl : Hid (∀ k, ((N0.take k).flatMap P).length ≤ 64 * k) := LH (fun k => by
      have h1 := HFlat.out (N0.take k)
      have h2 : (N0.take k).length ≤ k := by rw [List.length_take]; omega
      omega)
     go_wp2_with fail
     go_loopw [10, 45] (fun xv kv wr => ∃ (k : Nat) (a10 : Option Addr) (c10 l10 : Nat) (M : List Bool) (B1 : Nat), k ≤ l ∧ xv = .slice a10 l10 c10 ∧ kv = .int .i64 (k : Int) ∧ Hid (l10 = (takeNew (fun x => U.getD x false) S0 ((N0.take k).flatMap P)).2.length) ∧ Hid (SDp q B1 w wr X M (.slice a10 l10 c10) (takeNew (fun x => U.getD x false) S0 ((N0.take k).flatMap P)).2 (.slice a l c) N0 none []) ∧ Hid (Bits U M (takeNew (fun x => U.getD x false) S0 ((N0.take k).flatMap P)).1)) (fun _ kv _ => l - (intOf kv).toNat)
     case atStart => exact ⟨0, none, 0, 0, M, _, Nat.zero_le _, rfl, rfl, LH (by rw [HT0.out]; rfl), LH (by rw [HT0.out]; exact HSd0.out), LH (by rw [HT0.out]; exact HBt.out)⟩
     case round =>
      clear HSd0 HBt
      obtain ⟨k, a10, c10, l10, M, B1, hk, rfl, rfl, HL10, HSd, HBt⟩ := hrel
      by_cases hlt : k < l
      ·have hlt' : (k : Int) < (l : Int) := by omega
       obtain ⟨b1, o1, e1, _, hc1⟩ := HSd.out.oth.at_cells.at (i := k) (by rw [List.length_map, ← HL.out]; exact hlt)
       subst e1
       obtain ⟨x, hx⟩ : ∃ x, N0[k]? = some x := ⟨_, List.getElem?_eq_getElem (by rw [← HL.out]; exact hlt)⟩
       have cx := hc1 k (vi x) (by rw [List.getElem?_map, hx]; rfl)
       have HFx2 := LH (HFt.out k x hx)
       have HFk := LH (HFl.out k)
       have HDv := LH (adev_any (HA.out wr HSd.out.lo))
       have HPt2 := LH (HPt.out wr (HA.out wr HSd.out.lo) x)
       have HPo2 := LH (HPo.out x)
       have HPl2 := LH (HPl.out x)
       have HPe2 := LH (HPe.out x)
       rw [HPx.out x] at HPo2 HPl2 HPe2
       generalize P x = Px at *
       generalize (N0.take k).flatMap P = F at *
       clear hc1 hx
       go_wp2_with fail
       refine HDv.out.mono ?_
       rintro e w2 ⟨rfl, rfl⟩
       go_wp2_with fail
       refine HPt2.out.mono ?_
       intro e w2 hp2
       obtain ⟨ap, cp, ec, rfl, hcp, hb2, hnw⟩ := HPo2.out _ _ _ hp2
       have HSd2 := LH (HSd.out.read hb2 hcp hnw)
       obtain ⟨pl, hpl⟩ : ∃ pl, pl = Px.length := ⟨_, rfl⟩
       rw [← hpl] at HPl2 ⊢
       have HPn := LH hpl
       have hp64 : pl ≤ 64 := HPl2.out
       have HG0 : Hid (takeNew (fun x => U.getD x false) S0 (F ++ Px.take 0) = takeNew (fun x => U.getD x false) S0 F) := LH (by rw [List.take_zero, List.append_nil])
       have HGe2 : Hid (takeNew (fun x => U.getD x false) S0 (F ++ Px.take pl) = takeNew (fun x => U.getD x false) S0 (F ++ Px)) := LH (by rw [HPn.out, List.take_length])
       have HGs : Hid (∀ j y, Px[j]? = some y → takeNew (fun x => U.getD x false) S0 (F ++ Px.take (j + 1)) = if (U.getD y false) && !(takeNew (fun x => U.getD x false) S0 (F ++ Px.take j)).1.contains y then ((takeNew (fun x => U.getD x false) S0 (F ++ Px.take j)).1 ++ [y], (takeNew (fun x => U.getD x false) S0 (F ++ Px.take j)).2 ++ [y]) else takeNew (fun x => U.getD x false) S0 (F ++ Px.take j)) := LH (fun j y hy => by rw [take_one hy, ← List.append_assoc]; exact takeNew_snoc _ S0 (F ++ Px.take j) y)
       have HGl : Hid (∀ j, (takeNew (fun x => U.getD x false) S0 (F ++ Px.take j)).2.length ≤ 7000000) := LH (fun j => by
        have h1 := HTl.out (F ++ Px.take j)
        have h2 := HFk.out
        have h3 : (Px.take j).length ≤ pl := by rw [List.length_take, ← HPn.out]; omega
        rw [List.length_append] at h1
        omega)
       obtain ⟨tp, htp⟩ : ∃ tp : Nat → List Nat × List Nat, tp = fun j => takeNew (fun x => U.getD x false) S0 (F ++ Px.take j) := ⟨_, rfl⟩
       have HM0 : Hid (tp 0 = takeNew (fun x => U.getD x false) S0 F) := LH (by rw [htp]; exact HG0.out)
       have HMe : Hid (tp pl = takeNew (fun x => U.getD x false) S0 (F ++ Px)) := LH (by rw [htp]; exact HGe2.out)
       have HMs : Hid (∀ j y, Px[j]? = some y → tp (j + 1) = if (U.getD y false) && !(tp j).1.contains y then ((tp j).1 ++ [y], (tp j).2 ++ [y]) else tp j) := LH (by rw [htp]; exact HGs.out)
       have HMl : Hid (∀ j, (tp j).2.length ≤ 7000000) := LH (by rw [htp]; exact HGl.out)
       clear htp HG0 HGe2 HGs HGl hp2 hcp hb2 hnw hpl HSd
       rw [← HM0.out] at HL10 HSd2 HBt
       go_wp2_with fail
       go_loopw [10, 58] (fun xv jv wr => ∃ (j : Nat) (a10 : Option Addr) (c10 l10 : Nat) (M : List Bool), j ≤ pl ∧ xv = .slice a10 l10 c10 ∧ jv = .int .i64 (j : Int) ∧ Hid (l10 = (tp j).2.length) ∧ Hid (SDp q B1 w wr X M (.slice a10 l10 c10) (tp j).2 (.slice (some ⟨b1, o1, none⟩) l c) N0 ap Px) ∧ Hid (Bits U M (tp j).1)) (fun _ jv _ => pl - (intOf jv).toNat)
       case atStart => exact ⟨0, a10, c10, l10, M, Nat.zero_le _, rfl, rfl, HL10, HSd2, HBt⟩
       case round =>
        clear HSd2 HBt HL10
        obtain ⟨j, a10, c10, l10, M, hj, rfl, rfl, HL10, HSd, HBt⟩ := hrel
        have hl10 : l10 ≤ 7000000 := by rw [HL10.out]; exact HMl.out j
        by_cases hlt : j < pl
        ·have hlt' : (j : Int) < (pl : Int) := by omega
         obtain ⟨b2, o2, e2, _, hc2⟩ := HSd.out.cells.at (i := j) (by rw [List.length_map, ← HPn.out]; exact hlt)
         subst e2
         obtain ⟨y, hy⟩ : ∃ y, Px[j]? = some y := ⟨_, List.getElem?_eq_getElem (by rw [← HPn.out]; exact hlt)⟩
         have cy := hc2 j (vi y) (by rw [List.getElem?_map, hy]; rfl)
         have hy9 := HPe2.out y (List.mem_of_getElem? hy)
         have HKx := LH (HMs.out j y hy)
         have HU1 := LH (HUs.out wr (HA.out wr HSd.out.lo) y)
         rw [HLi.out y] at HU1
         have HAd := LH (sadd_any HSd.out.set (y : Int))
         clear hc2 hy
         cases hb1 : U.getD y false with
         | false =>
          rw [hb1] at HU1 HKx
          rw [Bool.false_and, if_neg (by decide)] at HKx
          clear hb1 HAd
          go_wp2_with fail
          refine HU1.out.mono ?_
          rintro e w3 ⟨rfl, rfl⟩
          go_wp2_with fail
          exact ⟨⟨j + 1, a10, c10, l10, M, by omega, rfl, vint (by omega), LH (by rw [HKx.out]; exact HL10.out), LH (by rw [HKx.out]; exact HSd.out), LH (by rw [HKx.out]; exact HBt.out)⟩, by simp [intOf]; omega⟩
         | true =>
          rw [HBt.out.fresh hb1] at HAd
          cases hb2 : (tp j).1.contains y with
          | true =>
           rw [HBt.out.same hb1 hb2, hb2, Bool.not_true] at HAd
           rw [hb1] at HU1
           rw [hb1, hb2, if_neg (by decide)] at HKx
           clear hb1 hb2
           go_wp2_with fail
           refine HU1.out.mono ?_
           rintro e w3 ⟨rfl, rfl⟩
           go_wp2_with fail
           refine HAd.out.mono ?_
           rintro e w4 ⟨rfl, hs4, ht4⟩
           have HSd4 := LH (HSd.out.add hs4 ht4)
           clear hs4 ht4
           go_wp2_with fail
           exact ⟨⟨j + 1, a10, c10, l10, M, by omega, rfl, vint (by omega), LH (by rw [HKx.out]; exact HL10.out), LH (by rw [HKx.out]; exact HSd4.out), LH (by rw [HKx.out]; exact HBt.out)⟩, by simp [intOf]; omega⟩
          | false =>
           have HBt5 := LH (HBt.out.add hb1 hb2)
           rw [hb2, Bool.not_false] at HAd
           rw [hb1] at HU1
           rw [hb1, hb2, if_pos (by decide)] at HKx
           have hq10 : (tp j).2.length + 1 ≤ 1000000000000 := by rw [← HL10.out]; omega
           generalize tp j = ti at *
           obtain ⟨S7, N7⟩ := ti
           dsimp only at HL10 HSd HBt HBt5 HKx hq10
           clear hb1 hb2
           go_wp2_with fail
           refine HU1.out.mono ?_
           rintro e w3 ⟨rfl, rfl⟩
           go_wp2_with fail
           refine HAd.out.mono ?_
           rintro e w3 ⟨rfl, hs3, ht3⟩
           have HSd3 := LH (HSd.out.add hs3 ht3)
           have HO3 := LH HSd3.out.own
           clear hs3 ht3
           go_wp2_with (at_builtin; refine wpList_append_ownI (ys := [y]) (m := 1) (HO3.out.keep (fun b hb => (below_alloc _ _).block b (HO3.out.lt b hb))) (RowAt.cells ⟨_, heap_alloc_new _ _, [], rfl⟩) rfl hq10 rfl rfl rfl rfl ?_; intro v4 w4 ho4 hg4 hr4; have HO4 := LH ho4; have HG4 := LH hg4; have HR4 := LH hr4; clear ho4 hg4 hr4; obtain ⟨a4, c4, e4, _⟩ := HO4.out.cells; obtain ⟨l4, hl4⟩ : ∃ l4, l4 = (N7 ++ [y]).length := ⟨_, rfl⟩; rw [← hl4] at e4; have HL4 := LH hl4; clear hl4; subst e4)
           have HSd6 := LH (HSd3.out.grow (below_alloc _ _) HO4.out HG4.out HR4.out)
           exact ⟨⟨j + 1, a4, c4, l4, _, by omega, rfl, vint (by omega), LH (by rw [HKx.out]; exact HL4.out), LH (by rw [HKx.out]; exact HSd6.out), LH (by rw [HKx.out]; exact HBt5.out)⟩, by simp [intOf]; omega⟩
        ·obtain rfl : j = pl := by omega
         have hlt' : decide ((j : Int) < (j : Int)) = false := by simp
         rw [HMe.out, ← HFx2.out] at HL10 HSd HBt
         have HSd9 := LH HSd.out.stop
         clear HSd
         go_wp2_with fail
         exact ⟨⟨k + 1, a10, c10, l10, M, B1, by omega, rfl, vint (by omega), HL10, HSd9, HBt⟩, by simp [intOf]; omega⟩
      ·obtain rfl : k = l := by omega
       have hlt' : decide ((k : Int) < (k : Int)) = false := by simp
       rw [HTe.out, HSN.out] at HL10 HSd HBt
       have hl10 : l10 ≤ 100000 := by rw [HL10.out, ← HSN.out]; exact HLl3.out
       have HSd9 := LH HSd.out.drop
       clear HSd
       by_cases h1 : l10 = 0
       ·subst h1
        go_wp2_with fail
        exact ⟨⟨z + 1, z, a10, c10, 0, M, B1, hr1, by rw [if_pos rfl]; rfl, rfl, rfl, hl10, HL10, HSd9, HBt, HNe2⟩, by simp [lenV, intOf]; omega⟩
       ·have h1' : decide (0 < l10) = true := by simp; omega
        have h1i : (0 : Int) < (l10 : Int) := by omega
        go_wp2_with fail
        exact ⟨⟨z + 1, z + 1, a10, c10, l10, M, B1, hr1, by rw [if_neg h1], rfl, vint (by omega), hl10, HL10, HSd9, HBt, HNe2⟩, by simp [lenV, intOf]; omega⟩
theorem OwnI.put {w : World} {g o l c : Nat} {s : Option (Nat × Nat)} {xs : List Nat} (h : OwnI w (.slice (some ⟨g, o, none⟩) l c) xs) {d : Nat} (hd : d < xs.length) (y : Nat) :
  o = 0 ∧ rowOf (.slice (some ⟨g, o, none⟩) l c) = some g ∧ OwnI (w.setCell ⟨g, d, none⟩ (vi y)) (.slice (some ⟨g, 0, none⟩) l c) (xs.set d y) ∧ w.frozen? ⟨g, d, none⟩ = false := by
 rcases h with h | ⟨p, _, rfl⟩
 ·rcases h.2 with ⟨e, h0⟩ | ⟨g', cap, cur, e, hb, hg, h1, h2, h3, h4⟩
  ·cases e
  ·injection e with e1 e2 e3
   injection e1 with e1
   injection e1 with e4 e5
   subst e4 e5 e3 e2
   refine ⟨rfl, ?_, .inl ⟨by simp, .inr ⟨g, c, cur.setIfInBounds d (vi y), by rw [List.length_set], Nat.zero_le _, ?_, by rw [List.length_set]; exact h1, h2, by rw [Array.size_setIfInBounds]; exact h3, ?_⟩⟩, ?_⟩
   ·show (if c = 0 then none else some g) = some g
    rw [if_neg (by omega)]
   ·simp [World.setCell, Array.getElem?_modify, hg]
   ·rw [Array.toList_setIfInBounds, List.length_set, List.take_set, h4, List.map_set]
   ·simp [World.frozen?, hg]
 ·simp at hd
def DegPost (m : Al) (w : World) : Ending → World → Prop := fun e w' => ∃ a c, e = .returned (.slice a (tallyL (degOf (fun x : Nat => ptrsD m.bm.dev (x : Int)) (onesL m.used)) (onesL m.used)).length c) ∧ Cells w' a ((tallyL (degOf (fun x : Nat => ptrsD m.bm.dev (x : Int)) (onesL m.used)) (onesL m.used)).map vi) ∧ Below w.heap.size w w'
set_option maxHeartbeats 8000000 in
set_option maxRecDepth 100000 in
theorem sdegrees_any {w : World} {A : AF} {n B : Nat} {m : Al} (h : AlAt w A n B m) (hU : m.used.length ≤ 100000) :
  Calls Tryz.prog 113 #[valloc A] w (DegPost m w) := by
 have hmm := @run_makeMap Tryz.prog
 have HP : Hid (∀ (a : Option Addr) (l c : Nat) (w' : World), l = (tallyL (degOf (fun x : Nat => ptrsD m.bm.dev (x : Int)) (onesL m.used)) (onesL m.used)).length → Cells w' a ((tallyL (degOf (fun x : Nat => ptrsD m.bm.dev (x : Int)) (onesL m.used)) (onesL m.used)).map vi) → Below w.heap.size w w' → DegPost m w (.returned (.slice a l c)) w') := LH (fun a l c w' h1 h2 h3 => by subst h1; exact ⟨a, c, rfl, h2, h3⟩)
 generalize DegPost m w = Post at *
 obtain ⟨mp, hmp⟩ : ∃ mp, mp = w.heap.size := ⟨_, rfl⟩
 have HA := LH (fun w' (hb : Below mp w w') => h.below (by rw [← hmp]; exact hb))
 have HOb := LH (fun w' (h : AlAt w' A n B m) => aobjects_any h)
 have HPt := LH (fun w' (h : AlAt w' A n B m) (x : Nat) => optrs_any h.man.dev (x : Int))
 have HPo : Hid (∀ (x : Nat) w1 e w2, PtrsPost m.bm.dev (x : Int) w1 e w2 → ∃ av cp ec, e = .returned (.tuple #[.slice av (ptrsD m.bm.dev (x : Int)).length cp, .int .i64 ec]) ∧ Cells w2 av ((ptrsD m.bm.dev (x : Int)).map vi) ∧ Below w1.heap.size w1 w2 ∧ ∀ x, av = some x → w1.heap.size ≤ x.block) := LH (fun x w1 e w2 hp => by
  obtain ⟨av, cp, ec, e1, _, e2, e3, e4⟩ := hp.out
  exact ⟨av, cp, ec, e1, e2, e4, e3⟩)
 have HPl : Hid (∀ x : Nat, (ptrsD m.bm.dev (x : Int)).length ≤ 64) := LH (fun x => ptrsD_len h.man.dev.small _)
 have HPe : Hid (∀ x : Nat, ∀ y ∈ ptrsD m.bm.dev (x : Int), y ≤ 1099511627776) := LH (fun x => ptrsD_le _ _)
 have HUs := LH (fun w' (h : AlAt w' A n B m) (x : Nat) => aused_any h (x : Int))
 have HLi : Hid (∀ x, hasI m.used ((x : Nat) : Int) = m.used.getD x false) := LH (fun x => hasI_nat _ x)
 have HUu : Hid (∀ x ∈ onesL m.used, m.used.getD x false = true) := LH (fun x hx => mem_onesL.1 hx)
 have HUe : Hid (∀ x ∈ onesL m.used, x ≤ 1099511627776) := LH (fun x hx => by have := getD_true_lt (mem_onesL.1 hx); omega)
 have HUl : Hid ((onesL m.used).length ≤ 100000) := LH (by rw [onesL_length]; have := count_le_len m.used; omega)
 generalize onesL m.used = us at *
 generalize m.used = U at *
 have HFl := LH (flat_len (P := fun x : Nat => ptrsD m.bm.dev (x : Int)) (n := 64) (fun x => HPl.out x))
 obtain ⟨P, hP⟩ : ∃ P : Nat → List Nat, P = fun x : Nat => ptrsD m.bm.dev (x : Int) := ⟨_, rfl⟩
 have HPx : Hid (∀ x : Nat, ptrsD m.bm.dev (x : Int) = P x) := LH (fun x => by rw [hP])
 rw [← hP] at HP HFl
 have HQ := LH hmp
 have HB0 := LH (below_alloc w (.map #[] 0))
 have HI0 : Hid (IMap Tryz.prog 3 (w.alloc (.map #[] 0)) mp 0 (fun _ => none)) := LH (by rw [hmp]; exact IMap.made w Tryz.prog 3)
 have HSz0 : Hid (mp < (w.alloc (.map #[] 0)).heap.size) := LH (by rw [hmp]; simp)
 clear h hU hP
 go_enter Tryz.func113, Tryz.ntmps113
 go_upto_region 2 with fail
 rw [← hmp] at HB0 ⊢
 clear hmp
 generalize w.alloc _ = w0 at *
 have HOb1 := LH (HOb.out w0 (HA.out w0 HB0.out))
 go_wp2_with fail
 refine HOb1.out.mono ?_
 intro e w1 hp1
 obtain ⟨a15, c15, rfl, hc1, hb1, hn1⟩ := hp1.own
 have HC1 := LH hc1
 have HB1 := LH (HB0.out.trans (hb1.mono (Nat.le_of_lt HSz0.out)))
 have HI1 := LH (HI0.out.block (hb1.block mp HSz0.out))
 have HN1 : Hid (∀ x, a15 = some x → x.block ≠ mp) := LH (fun x hx => by
  obtain ⟨xb, xo, xs⟩ := x
  have h1 := hn1 xb xo xs hx
  have h2 := HSz0.out
  dsimp only
  omega)
 have HSz1 : Hid (mp < w1.heap.size) := LH (Nat.lt_of_lt_of_le HSz0.out hb1.size)
 obtain ⟨ul, hul⟩ : ∃ ul, ul = us.length := ⟨_, rfl⟩
 rw [← hul] at HUl ⊢
 have HUn := LH hul
 have hul9 := HUl.out
 clear hp1 hc1 hb1 hn1 hul HI0 HB0 HOb1
 have HCo0 : Hid (CntOk U ((us.take 0).flatMap P) (fun _ => none)) := LH (by rw [List.take_zero]; exact CntOk.nil U)
 go_wp2_with fail
 go_loopw [17] (fun iv wr => ∃ (i k : Nat) (C : Int → Option Int), i ≤ ul ∧ iv = .int .i64 (i : Int) ∧ k ≤ i * 64 ∧ Hid (IMap Tryz.prog 3 wr mp k C) ∧ Hid (CntOk U ((us.take i).flatMap P) C) ∧ Hid (Touch [mp] w1 wr)) (fun iv _ => ul - (intOf iv).toNat)
 case atStart => exact ⟨0, 0, _, Nat.zero_le _, rfl, Nat.zero_le _, HI1, HCo0, LH (Touch.refl _ _)⟩
 case round =>
  clear HI1 HCo0
  obtain ⟨i, k, C, hi, rfl, hk, HI, HCo, HT⟩ := hrel
  have HBr := LH (HB1.out.trans (HT.out.below (Nat.le_of_lt HSz1.out) (fun k hk => by simp at hk; omega)))
  by_cases hlt : i < ul
  ·have hlt' : (i : Int) < (ul : Int) := by omega
   obtain ⟨b1, o1, e1, _, hc1⟩ := (HC1.out.touchNe HT.out HN1.out).at (i := i) (by rw [List.length_map, ← HUn.out]; exact hlt)
   subst e1
   obtain ⟨x, hx⟩ : ∃ x, us[i]? = some x := ⟨_, List.getElem?_eq_getElem (by rw [← HUn.out]; exact hlt)⟩
   have cx := hc1 i (vi x) (by rw [List.getElem?_map, hx]; rfl)
   have HFt := LH (flat_take P us i x hx)
   have HFk : Hid (((us.take i).flatMap P).length ≤ 6400000) := LH (by
    have h1 := HFl.out (us.take i)
    have h2 : (us.take i).length ≤ i := by rw [List.length_take]; omega
    omega)
   have HDv := LH (adev_any (HA.out wr HBr.out))
   have HPt2 := LH (HPt.out wr (HA.out wr HBr.out) x)
   have HPo2 := LH (HPo.out x)
   have HPl2 := LH (HPl.out x)
   have HPe2 := LH (HPe.out x)
   rw [HPx.out x] at HPo2 HPl2 HPe2
   generalize P x = Px at *
   generalize (us.take i).flatMap P = F at *
   clear hc1 hx
   go_wp2_with fail
   refine HDv.out.mono ?_
   rintro e w2 ⟨rfl, rfl⟩
   go_wp2_with fail
   refine HPt2.out.mono ?_
   intro e w2 hp2
   obtain ⟨ap, cp, ec, rfl, hcp, hb2, hnw⟩ := HPo2.out _ _ _ hp2
   have HSw : Hid (mp < wr.heap.size) := LH (Nat.lt_of_lt_of_le HSz1.out HT.out.size)
   have HCp := LH hcp
   have HNp : Hid (∀ x, ap = some x → x.block ≠ mp) := LH (fun x hx => by have h1 := hnw x hx; have h2 := HSw.out; omega)
   have HI2 := LH (HI.out.block (hb2.block mp HSw.out))
   have HT2 := LH (HT.out.later hb2)
   have HSw2 : Hid (mp < w2.heap.size) := LH (Nat.lt_of_lt_of_le HSw.out hb2.size)
   obtain ⟨pl, hpl⟩ : ∃ pl, pl = Px.length := ⟨_, rfl⟩
   rw [← hpl] at HPl2 ⊢
   have HPn := LH hpl
   have hp64 : pl ≤ 64 := HPl2.out
   have HCo2 : Hid (CntOk U (F ++ Px.take 0) C) := LH (by rw [List.take_zero, List.append_nil]; exact HCo.out)
   clear hp2 hcp hb2 hnw hpl HI HT HCo
   go_wp2_with fail
   go_loopw [30] (fun jv wr => ∃ (j k : Nat) (C : Int → Option Int), j ≤ pl ∧ jv = .int .i64 (j : Int) ∧ k ≤ i * 64 + j ∧ Hid (IMap Tryz.prog 3 wr mp k C) ∧ Hid (CntOk U (F ++ Px.take j) C) ∧ Hid (Touch [mp] w2 wr)) (fun jv _ => pl - (intOf jv).toNat)
   case atStart => exact ⟨0, k, C, Nat.zero_le _, rfl, hk, HI2, HCo2, LH (Touch.refl _ _)⟩
   case round =>
    clear HI2 HCo2
    obtain ⟨j, k, C, hj, rfl, hk, HI, HCo, HT⟩ := hrel
    have HT1 := LH (HT2.out.trans HT.out)
    have HBr := LH (HB1.out.trans (HT1.out.below (Nat.le_of_lt HSz1.out) (fun k hk => by simp at hk; omega)))
    by_cases hlt : j < pl
    ·have hlt' : (j : Int) < (pl : Int) := by omega
     obtain ⟨b2, o2, e2, _, hc2⟩ := (HCp.out.touchNe HT.out HNp.out).at (i := j) (by rw [List.length_map, ← HPn.out]; exact hlt)
     subst e2
     obtain ⟨y, hy⟩ : ∃ y, Px[j]? = some y := ⟨_, List.getElem?_eq_getElem (by rw [← HPn.out]; exact hlt)⟩
     have cy := hc2 j (vi y) (by rw [List.getElem?_map, hy]; rfl)
     have hy9 := HPe2.out y (List.mem_of_getElem? hy)
     have HTk := LH (take_one hy)
     have HU1 := LH (HUs.out wr (HA.out wr HBr.out) y)
     rw [HLi.out y] at HU1
     clear hc2 hy
     cases hb1 : U.getD y false with
     | false =>
      have HCn : Hid (CntOk U (F ++ Px.take (j + 1)) C) := LH (by rw [HTk.out, ← List.append_assoc]; exact HCo.out.skip hb1)
      rw [hb1] at HU1
      clear hb1
      go_wp2_with fail
      refine HU1.out.mono ?_
      rintro e w3 ⟨rfl, rfl⟩
      go_wp2_with fail
      exact ⟨⟨j + 1, k, C, by omega, vint (by omega), by omega, HI, HCn, HT⟩, by simp [intOf]; omega⟩
     | true =>
      have HCn : Hid (CntOk U (F ++ Px.take (j + 1)) (fun z => if z = (y : Int) then some ((C (y : Int)).getD 0 + 1) else C z)) := LH (by rw [HTk.out, ← List.append_assoc]; exact HCo.out.one hb1)
      have HCy := LH (HCo.out y hb1)
      have hct : (F ++ Px.take j).count y ≤ 7000000 := by
       have h1 : (F ++ Px.take j).count y ≤ (F ++ Px.take j).length := List.count_le_length
       have h2 := HFk.out
       have h3 : (Px.take j).length ≤ pl := by rw [List.length_take, ← HPn.out]; omega
       rw [List.length_append] at h1
       omega
      rw [HCy.out] at HCn
      generalize (F ++ Px.take j).count y = ct at *
      have HWy : Hid ((Lit.int .i64 (y : Int)).wf = true) := LH (by simp [Lit.wf, IntKind.min, IntKind.max, IntKind.bits, IntKind.signed]; omega)
      have HWc : Hid ((Lit.int .i64 ((ct : Int) + 1)).wf = true) := LH (by simp [Lit.wf, IntKind.min, IntKind.max, IntKind.bits, IntKind.signed]; omega)
      rw [hb1] at HU1
      clear hb1
      go_wp2_with fail
      refine HU1.out.mono ?_
      rintro e w3 ⟨rfl, rfl⟩
      go_wp2_with (first
       | (refine wpList_ilook rfl _ _ 260 rfl 3 Tryz.underlying3 Tryz.underlying260 (by kernel_rfl) mp k C rfl HI.out (y : Int) rfl HWy.out ?_; rw [HCy.out])
       | (refine wpList_istore rfl _ _ _ 260 rfl 3 Tryz.underlying3 Tryz.underlying260 mp k C rfl HI.out (by unfold maxLen; omega) (y : Int) ((ct : Int) + 1) rfl HWy.out rfl HWc.out ?_; intro w4 hi4 hg4; have HI4 := LH hi4; have HT4 := LH (HT.out.trans (grown_touch hg4 (by simp))); clear hi4 hg4))
      exact ⟨⟨j + 1, k + 1, _, by omega, vint (by omega), by omega, HI4, HCn, HT4⟩, by simp [intOf]; omega⟩
    ·obtain rfl : j = pl := by omega
     have hlt' : decide ((j : Int) < (j : Int)) = false := by simp
     have HCn : Hid (CntOk U ((us.take (i + 1)).flatMap P) C) := LH (by rw [HFt.out]; have := HCo.out; rw [HPn.out, List.take_length] at this; exact this)
     go_wp2_with fail
     exact ⟨⟨i + 1, k, C, by omega, vint (by omega), by omega, HI, HCn, HT1⟩, by simp [intOf]; omega⟩
  ·obtain rfl : i = ul := by omega
   have hlt' : decide ((i : Int) < (i : Int)) = false := by simp
   have HTk : Hid (us.take i = us) := LH (by rw [HUn.out, List.take_length])
   rw [HTk.out] at HCo
   have HOb2 := LH (HOb.out wr (HA.out wr HBr.out))
   have HDg : Hid (∀ x ∈ us, (C (x : Int)).getD 0 = ((degOf P us x : Nat) : Int)) := LH (fun x hx => HCo.out x (HUu.out x hx))
   have HDl : Hid (∀ x, degOf P us x ≤ 6400000) := LH (fun x => by
    have h1 : degOf P us x ≤ (us.flatMap P).length := List.count_le_length
    have h2 := HFl.out us
    rw [← HUn.out] at h2
    omega)
   generalize degOf P us = deg at *
   have HSw : Hid (mp < wr.heap.size) := LH (Nat.lt_of_lt_of_le HSz1.out HT.out.size)
   clear HCo HC1 HN1 HTk HT hk
   go_wp2_with fail
   refine HOb2.out.mono ?_
   intro e w2 hp2
   obtain ⟨a44, c44, e44, hc2, hb2, _⟩ := hp2.own
   rw [← HUn.out] at e44
   subst e44
   have HC2 := LH hc2
   have HI2 := LH (HI.out.block (hb2.block mp HSw.out))
   have HB2 := LH (HBr.out.trans (hb2.mono (Nat.le_of_lt HSw.out)))
   have HSw2 : Hid (mp < w2.heap.size) := LH (Nat.lt_of_lt_of_le HSw.out hb2.size)
   have HTl : Hid (∀ j, (tallyL deg (us.take j)).length ≤ 6400001) := LH (fun j => by
    rw [tallyL_length]
    rcases topL_is deg (us.take j) with e | ⟨x, _, e⟩
    ·omega
    ·rw [e]; have := HDl.out x; omega)
   clear hp2 hc2 hb2 HI HBr HOb2
   go_wp2_with fail
   go_loopw [10, 46] (fun ov iv wr => ∃ (j : Nat) (a : Option Addr) (c l : Nat), j ≤ i ∧ ov = .slice a l c ∧ iv = .int .i64 (j : Int) ∧ Hid (l = (tallyL deg (us.take j)).length) ∧ Hid (OwnI wr (.slice a l c) (tallyL deg (us.take j))) ∧ Hid (∀ b, rowOf (.slice a l c) = some b → w2.heap.size ≤ b) ∧ Hid (Below w2.heap.size w2 wr)) (fun _ iv _ => i - (intOf iv).toNat)
   case atStart => exact ⟨0, none, 0, 0, Nat.zero_le _, rfl, rfl, LH (by rw [List.take_zero]; rfl), LH (by rw [List.take_zero]; exact OwnI.nil _), LH (fun b hb => by cases hb), LH (Below.refl _ _)⟩
   case round =>
    obtain ⟨j, a, c, l, hj, rfl, rfl, HL, HO, HR, HB⟩ := hrel
    have hl9 : l ≤ 6400001 := by rw [HL.out]; exact HTl.out j
    by_cases hlt : j < i
    ·have hlt' : (j : Int) < (i : Int) := by omega
     obtain ⟨b1, o1, e1, _, hc1⟩ := (HC2.out.below HB.out (Nat.le_refl _)).at (i := j) (by rw [List.length_map, ← HUn.out]; exact hlt)
     subst e1
     obtain ⟨x, hx⟩ : ∃ x, us[j]? = some x := ⟨_, List.getElem?_eq_getElem (by rw [← HUn.out]; exact hlt)⟩
     have cx := hc1 j (vi x) (by rw [List.getElem?_map, hx]; rfl)
     have hx9 := HUe.out x (List.mem_of_getElem? hx)
     have HCy := LH (HDg.out x (List.mem_of_getElem? hx))
     have hd9 := HDl.out x
     have HTs : Hid (tallyL deg (us.take (j + 1)) = (padL (tallyL deg (us.take j)) (deg x + 1)).set (deg x) ((padL (tallyL deg (us.take j)) (deg x + 1)).getD (deg x) 0 + 1)) := LH (by rw [take_one hx]; exact tallyL_snoc deg (us.take j) x)
     have HTn : Hid (∀ q, (tallyL deg (us.take j)).getD q 0 ≤ 100000) := LH (fun q => by
      by_cases c : q < topL deg (us.take j)
      ·rw [tallyL_getD deg _ c]
       have h1 : tallyN deg (us.take j) q ≤ (us.take j).length := List.length_filter_le _ _
       have h2 : (us.take j).length ≤ j := by rw [List.length_take]; omega
       omega
      ·rw [List.getD_eq_getElem?_getD, List.getElem?_eq_none (by rw [tallyL_length]; omega)]; simp)
     have HWy : Hid ((Lit.int .i64 (x : Int)).wf = true) := LH (by simp [Lit.wf, IntKind.min, IntKind.max, IntKind.bits, IntKind.signed]; omega)
     generalize tallyL deg (us.take j) = T at *
     generalize deg x = d at *
     have HO2 : Hid (OwnI wr (.slice a l c) (padL T l)) := LH (by rw [HL.out, padL_self, ← HL.out]; exact HO.out)
     have hll : T.length ≤ l := by rw [HL.out]; exact Nat.le_refl _
     have HLe : Hid (l = T.length ∨ l ≤ d + 1) := LH (.inl HL.out)
     clear hc1 hx HO HL
     go_wp2_with fail
     go_loopw [10] (fun ov wr => ∃ (a : Option Addr) (c l : Nat), ov = .slice a l c ∧ l ≤ 7000000 ∧ T.length ≤ l ∧ Hid (l = T.length ∨ l ≤ d + 1) ∧ Hid (OwnI wr (.slice a l c) (padL T l)) ∧ Hid (∀ b, rowOf (.slice a l c) = some b → w2.heap.size ≤ b) ∧ Hid (Below w2.heap.size w2 wr)) (fun ov _ => d + 2 - lenV ov)
     case atStart => exact ⟨a, c, l, rfl, by omega, hll, HLe, HO2, HR, HB⟩
     case round =>
      clear HO2 HR HB HLe hll hl9
      obtain ⟨a, c, l, rfl, hl9, hll, HLe, HO, HR, HB⟩ := hrel
      have HIr := LH (HI2.out.block (HB.out.block mp HSw2.out))
      by_cases hle : l ≤ d
      ·have hle' : (l : Int) ≤ (d : Int) := by omega
       have hq : (padL T l).length + 1 ≤ 1000000000000 := by rw [padL_length]; omega
       have HSp : Hid (padL T l ++ [0] = padL T (l + 1)) := LH (padL_step (n := l + 1) (Nat.lt_succ_self _) hll)
       have HSz : Hid ((padL T l ++ [0]).length = l + 1) := LH (by rw [List.length_append, padL_length]; simp; omega)
       go_wp2_with (first
        | (refine wpList_ilook rfl _ _ 260 rfl 3 Tryz.underlying3 Tryz.underlying260 (by kernel_rfl) mp _ C rfl HIr.out (x : Int) rfl HWy.out ?_; rw [HCy.out])
        | (at_builtin; refine wpList_append_newI (ys := [0]) (m := 1) (B := _) HO.out (below_alloc _ _) HR.out (Nat.le_trans HB.out.size (below_alloc _ _).size) (RowAt.cells ⟨_, heap_alloc_new _ _, [], rfl⟩) rfl hq rfl rfl rfl rfl ?_; intro v4 w4 ho4 hb4 hr4; have HO4 := LH ho4; have HBn4 := LH hb4; have HR4 := LH hr4; clear ho4 hb4 hr4; obtain ⟨a4, c4, e4, _⟩ := HO4.out.cells; obtain ⟨l4, hl4⟩ : ∃ l4, l4 = (padL T l ++ [0]).length := ⟨_, rfl⟩; rw [← hl4] at e4; have HL4 := LH hl4; clear hl4; subst e4))
       have HB4 := LH ((HB.out.trans ((below_alloc wr (.cells #[.int .i64 ((0 : Nat) : Int)] 3)).mono HB.out.size)).trans HBn4.out)
       have hl4 : l4 = l + 1 := by rw [HL4.out, HSz.out]
       subst hl4
       exact ⟨⟨a4, c4, l + 1, rfl, by omega, by omega, LH (.inr (by omega)), LH (by rw [← HSp.out]; exact HO4.out), HR4, HB4⟩, by simp [lenV]; omega⟩
      ·have hle' : decide ((l : Int) ≤ (d : Int)) = false := by simp; omega
       have hle2 : (d : Int) < (l : Int) := by omega
       have HPd : Hid (padL T l = padL T (d + 1)) := LH (by
        rcases HLe.out with e | e
        ·rw [padL_short (by omega), padL_short (by omega)]
        ·rw [show l = d + 1 by omega])
       have HPn : Hid ((padL T (d + 1)).length = l) := LH (by rw [← HPd.out, padL_length]; omega)
       rw [HPd.out] at HO
       have HGd : Hid ((padL T (d + 1))[d]? = some ((padL T (d + 1)).getD d 0)) := LH (by
        rw [List.getD_eq_getElem?_getD, List.getElem?_eq_getElem (by rw [HPn.out]; omega)]; rfl)
       have hv9 : (padL T (d + 1)).getD d 0 ≤ 100000 := by rw [padL_getD]; exact HTn.out d
       obtain ⟨b3, o3, e3, _, hc3⟩ := HO.out.at_cells.at (i := d) (by rw [List.length_map, HPn.out]; omega)
       subst e3
       have cd := hc3 d (vi ((padL T (d + 1)).getD d 0)) (by rw [List.getElem?_map, HGd.out]; rfl)
       obtain ⟨e0, hrow, ho4, fd⟩ := HO.out.put (s := none) (d := d) (by rw [HPn.out]; omega) ((padL T (d + 1)).getD d 0 + 1)
       subst e0
       rw [← HTs.out] at ho4
       rw [Nat.zero_add] at cd
       have HO4 := LH ho4
       have HR4 : Hid (∀ b, rowOf (.slice (some ⟨b3, 0, none⟩) l c) = some b → w2.heap.size ≤ b) := HR
       have HB4 : Hid (Below w2.heap.size w2 (wr.setCell ⟨b3, d, none⟩ (vi ((padL T (d + 1)).getD d 0 + 1)))) := LH (HB.out.setCell (p := ⟨b3, d, none⟩) (HR.out b3 hrow) _)
       have HLf : Hid (l = (tallyL deg (us.take (j + 1))).length) := LH (by rw [HTs.out, List.length_set, HPn.out])
       generalize (padL T (d + 1)).getD d 0 = vd at *
       clear hc3 ho4 hrow
       go_wp2_with (refine wpList_ilook rfl _ _ 260 rfl 3 Tryz.underlying3 Tryz.underlying260 (by kernel_rfl) mp _ C rfl HIr.out (x : Int) rfl HWy.out ?_; rw [HCy.out])
       exact ⟨⟨j + 1, _, c, l, by omega, rfl, vint (by omega), HLf, HO4, HR4, HB4⟩, by simp [intOf]; omega⟩
    ·obtain rfl : j = i := by omega
     have hlt' : decide ((j : Int) < (j : Int)) = false := by simp
     have HTk : Hid (us.take j = us) := LH (by rw [HUn.out, List.take_length])
     rw [HTk.out] at HL HO
     have HBz := LH (HB2.out.trans (HB.out.mono (Nat.le_of_lt HSw2.out)))
     go_wp2_with fail
     exact HP.out _ _ _ _ HL.out HO.out.at_cells (by rw [← HQ.out]; exact HBz.out)
end Go.Proofs.YtbimcogdbafjpaaGreat
namespace Go.Proofs.YtbimcogdbafjpaaGreat
open Go.RowKit
section
variable {B : Nat} {m : Al} {xs : List Nat}
theorem ptrsO_is {y : Nat} {o : Odec} (ho : placedN m.bm.dev m.bm.list (y : Int) = some o) : ptrsO m y = ptrL m.bm.dev (y : Int) o.p.toNat := by
 obtain ⟨h1, h2, _⟩ := placed_head ho
 unfold ptrsO ptrsD
 rw [h1, if_pos h2]
theorem peek_nat (l : List Nat) (a i : Nat) : peek l ((a : Int) + 1 + (i : Int)) = l.getD (a + 1 + i) 0 := by
 rw [show (a : Int) + 1 + (i : Int) = ((a + 1 + i : Nat) : Int) by push_cast; rfl, peek_in]
end
section
variable {w wr w' : World} {Q : List Nat} {A : AF} {n N N' : Nat} {m m' : Al} {v : Value} {xs : List Nat} {K : MkF} {M : Mk}
end
end Go.Proofs.YtbimcogdbafjpaaGreat
namespace Go.Proofs.YtbimcogdbafjpaaGreat
open Go.RowKit Go.Maps
theorem lead_one {B : Nat} {m : Al} {a : Nat} (h : WOk B m [a]) (hB : B ≤ 200) (ho : placedN m.bm.dev m.bm.list (a : Int) = some ⟨1, 0, 0⟩) : ptrsO (m.lead [a] 0 0 0) a = [a] := by
 have hp0 : pickN [a] 0 = a := by unfold pickN; simp
 have ha := h.lt (x := a) (by simp)
 have hu := h.us a (by simp)
 obtain ⟨h1, h2, _⟩ := placed_head ho
 have hpl : placeN m.bm.dev (a : Int) 0 false = ⟨(a : Int) + (1 + 0), 0⟩ := by
  unfold placeN
  rw [h1]
  dsimp only
  rw [if_neg (by simp), if_neg (by simp), if_pos (by omega)]
 have e1 : m.lead [a] 0 0 0 = ⟨⟨m.bm.dev.store ((a + 1 : Nat) : Int) a, m.bm.list, m.bm.free⟩, m.used, m.fl⟩ := by
  unfold Al.lead
  rw [hp0, if_neg (by omega)]
  unfold Dev.setPtr
  rw [hpl]
  dsimp only
  rw [if_neg (by simp), if_neg (by omega), show (a : Int) + (1 + 0) = ((a + 1 : Nat) : Int) by push_cast; omega, Int.toNat_natCast]
 obtain ⟨s1, _, _, _, _⟩ := placed_size ho
 have hs : (objSize 1 0 : Int) = 1 + 1 + 0 := objSize_is s1
 obtain ⟨_, _, a3, a4⟩ := h.ok.store hB hu ho (j := a + 1) (v := a) (by omega) (by show a + 1 < a + objSize 1 0; omega) (by omega)
 rw [e1]
 have ho' : placedN (⟨⟨m.bm.dev.store ((a + 1 : Nat) : Int) a, m.bm.list, m.bm.free⟩, m.used, m.fl⟩ : Al).bm.dev m.bm.list (a : Int) = some ⟨1, 0, 0⟩ := (a4 a hu).trans ho
 rw [ptrsO_is (m := ⟨⟨m.bm.dev.store ((a + 1 : Nat) : Int) a, m.bm.list, m.bm.free⟩, m.used, m.fl⟩) ho']
 have hlt : a + 1 < m.bm.dev.cache.length := by
  have := (placed_room ho).pos
  rw [h.ok.bm.lenL] at this
  have f1 := room_fits (p := 1) (d := 0) s1
  rw [h.ok.len]; omega
 show [capP (peek (m.bm.dev.store ((a + 1 : Nat) : Int) a).cache ((a : Int) + 1 + ((0 : Nat) : Int)))] = [a]
 rw [peek_nat, a3, List.getD_eq_getElem?_getD, List.getElem?_set_self (by simpa using hlt)]
 show [capP a] = [a]
 unfold capP
 rw [if_neg (by omega)]
theorem list_one {l : List Nat} {a : Nat} (hn : l.Nodup) (h : ∀ x, x ∈ l ↔ x = a) : l = [a] := by
 match l, hn, h with
 | [], _, h => exact absurd ((h a).2 rfl) (by simp)
 | [b], _, h => rw [(h b).1 (by simp)]
 | b :: c :: t, hn, h =>
  have h1 := (h b).1 (by simp)
  have h2 := (h c).1 (by simp)
  subst h1 h2
  simp at hn
theorem onesL_nodup (l : List Bool) : (onesL l).Nodup := List.Nodup.sublist List.filter_sublist List.nodup_range
theorem tally_one {deg : Nat → Nat} {a : Nat} (h : deg a = 1) : tallyL deg [a] = [0, 1] := by
 have h1 : topL deg [a] = 2 := by unfold topL; simp [h]
 unfold tallyL
 rw [h1]
 show [tallyN deg [a] 0, tallyN deg [a] 1] = [0, 1]
 unfold tallyN
 simp [h]
theorem depth_one {ok : Nat → Bool} {P : Nat → List Nat} {a K : Nat} (ha : ok a = true) (hp : P a = [a]) (h : LvEnd ok P (takeNew ok [] [a]) K) : K - 1 = 0 := by
 have e0 : takeNew ok [] [a] = ([a], [a]) := by rw [takeNew_one, ha]; rfl
 have e1 : levels ok P 1 (takeNew ok [] [a]) = ([a], []) := by
  rw [levels_succ, show levels ok P 0 (takeNew ok [] [a]) = takeNew ok [] [a] from rfl, e0]
  show takeNew ok [a] ([a].flatMap P) = _
  rw [show [a].flatMap P = [a] by simp [hp], takeNew_one, ha]
  simp
 have h1 : LvEnd ok P (takeNew ok [] [a]) 1 := ⟨fun t ht => (by
  have : t = 0 := by omega
  subst this
  show (takeNew ok [] [a]).2 ≠ []
  rw [e0]; simp), by rw [e1]⟩
 rw [h.one h1]
set_option maxHeartbeats 8000000 in
set_option maxRecDepth 100000 in
theorem awake32_any (w : World) : Calls Tryz.prog 25 #[] w (Gives (.bool true) w) := by
 have HP : Hid (∀ w', Below w.heap.size w w' → Gives (.bool true) w (.returned (.bool true)) w') := LH (fun w' h => ⟨rfl, h⟩)
 generalize Gives (.bool true) w = Post at *
 go_enter Tryz.func25, Tryz.ntmps25
 go_wp2_with fail
 refine (begun20_any 3 (by omega) (by omega) _).mono ?_
 rintro e w1 ⟨A, n, rfl, ha, hn, hA, hb⟩
 have hh := Hp.begun (w := w) (by omega) (by omega) ha hA (Below.refl _ _) hb (Q := []) (by simp)
 obtain ⟨q, hq⟩ : ∃ q, q = w1.heap.size := ⟨_, rfl⟩
 have HH : Hid (Hp w (w1.alloc (.cells #[valloc A, vdev A.X.F, .slice none 0 0] 74)) [q] A n 3 201000 (al0 3) (.slice none 0 0) []) := LH (hh.more (fun k hk => by
  simp only [List.mem_cons, List.not_mem_nil, or_false] at hk
  subst hk
  exact .inr ⟨by rw [hq]; exact Nat.le_refl _, by simp [hq]⟩) (below_alloc _ _))
 have HMr := LH (Mem.one w1 #[valloc A, vdev A.X.F, .slice none 0 0] 74).r
 have HQ : Hid (w.heap.size ≤ q) := LH (by rw [hq]; exact hb.size)
 rw [← hq] at HMr
 clear ha hA hb hh
 go_upto_region 2 with fail
 rw [← hq]
 generalize w1.alloc _ = w2 at *
 clear hq
 go_wp2_with (refine wpList_load_r aggW HMr.out 0 rfl rfl rfl rfl rfl ?_)
 refine (HH.out.make (by omega) (by omega) (by omega) (by omega) 1 0).mono ?_
 rintro e w3 ⟨m1, v1, xs1, R1, rfl, hh1, hk1, hmd⟩
 rcases hmd with ⟨a, hmd, rfl⟩ | ⟨_, _, _, hno⟩
 case inr => exact absurd hno (roomy0 (by omega) (by omega) (by have := clamp_size 1 0; show 1 ≤ _ ∧ _ ≤ 256; omega))
 rw [List.nil_append] at hh1
 obtain ⟨sa, sc, rfl, _⟩ := hh1.at_.own.cells
 have HH3 := LH hh1
 have HMr3 := LH (HMr.out.off hk1 (by simp))
 have HPl := LH (lead_one hh1.ok (by omega) hmd.placed)
 have HUs : Hid (∀ x, m1.used.getD x false = true → x ∈ [a]) := LH (fun x hx => by
  have := full_made (full_begun 3) hmd rfl x hx
  rwa [List.nil_append] at this)
 have HUa := LH (hh1.ok.us a (by simp))
 have ha9 := (hh1.ok.lt (x := a) (by simp)).2
 clear hh1 hk1 hmd
 simp only [List.length_singleton] at HH3 ⊢
 go_wp2_with (first
  | (refine wpList_load_r aggW HM4.out 0 rfl rfl rfl rfl rfl ?_)
  | (refine wpList_store_r aggW HMr3.out 0 rfl rfl rfl rfl rfl rfl rfl rfl ?_; intro w4 h4 ht4; have HM4 := LH h4; have HT4 := LH ht4; clear h4 ht4))
 have HH4 := LH (HH3.out.own (HT4.out.wide (by simp)) (by intro k hk; simp at hk; subst hk; exact HQ.out))
 refine (HH4.out.lead (by omega) (by omega) 0 0 0).mono ?_
 rintro e w5 ⟨R5, rfl, hh5, hk5⟩
 have HH5 := LH hh5
 have HM5 := LH (HM4.out.off hk5 (by simp))
 have HUl : Hid ((m1.lead [a] 0 0 0).used = m1.used) := LH (lead_used _ _ _ _ _)
 clear hh5 hk5 HH4 HH3 HM4 HT4 HMr3
 generalize m1.lead [a] 0 0 0 = m2 at *
 rw [← HUl.out] at HUs HUa
 have HOn : Hid (onesL m2.used = [a]) := LH (list_one (onesL_nodup _) (fun x => ⟨fun h => by simpa using HUs.out x (mem_onesL.1 h), fun e => by subst e; exact mem_onesL.2 HUa.out⟩))
 have hdeg : degOf (fun x : Nat => ptrsD m2.bm.dev (x : Int)) [a] a = 1 := by
  unfold degOf
  rw [List.flatMap_cons, List.flatMap_nil, List.append_nil, show ptrsD m2.bm.dev (a : Int) = [a] from HPl.out]; simp
 have HTy : Hid (tallyL (degOf (fun x : Nat => ptrsD m2.bm.dev (x : Int)) (onesL m2.used)) (onesL m2.used) = [0, 1]) := LH (by rw [HOn.out]; exact tally_one hdeg)
 have hul := HH5.out.ok.ok.lenU
 have hcl := HH5.out.ok.ok.len
 have HDg := LH (sdegrees_any HH5.out.at_.al (by rw [hul]; omega))
 unfold DegPost at HDg
 rw [HTy.out] at HDg
 have c0 := HM5.out.cell 0 0 rfl rfl
 clear hdeg HTy
 go_wp2_with fail
 refine HDg.out.mono ?_
 rintro e w6 ⟨al, cl, rfl, hcl6, hb6⟩
 have HC6 := LH hcl6
 have HH6 := LH (HH5.out.later hb6)
 have HM6 := LH (HM5.out.later hb6)
 obtain ⟨b1, o1, rfl, _, hc1⟩ := hcl6.at (i := 0) (by simp)
 have d0 : w6.cell? ⟨b1, o1, none⟩ = some (.int .i64 0) := hc1 0 _ rfl
 have d1 : w6.cell? ⟨b1, o1 + 1, none⟩ = some (.int .i64 1) := hc1 1 _ rfl
 have e0 := HM6.out.cell 0 0 rfl rfl
 have e1 := HM6.out.cell 0 1 rfl rfl
 have e2 := HM6.out.cell 0 2 rfl rfl
 have r0 := fun x => later_cell e0 x
 have r1 := fun x => later_cell e1 x
 have r2 := fun x => later_cell e2 x
 clear hb6 hcl6 hc1 HH5 HM5 HDg c0
 simp only [List.length_cons, List.length_nil]
 go_upto_region 7 with fail
 have HB6 := LH HH6.out.below
 have HLc : Hid (m2.used.length = m2.bm.dev.cache.length) := LH (by rw [hul, hcl])
 have HLu : Hid (m2.used.length = 1536) := LH (by rw [hul])
 have HK := LH (fun K (h : LvEnd (fun x => m2.used.getD x false) (fun x : Nat => ptrsD m2.bm.dev (x : Int)) (takeNew (fun x => m2.used.getD x false) [] [a]) K) => depth_one HUa.out HPl.out h)
 clear hul hcl e0 e1 e2
 refine wp_region_seg (C := fun w' => ∃ x : Later (w6), w' = x.val) [.sq [0, 1, 2, 3, 4, 5, 6, 7, 8, 9, 10, 11, 12, 13, 14, 15] false, .fl [16, 17, 18], .sq [19] true, .sq [20] true, .sq [21, 22, 23, 24] false] (by kernel_rfl) (by kernel_rfl) (by intro c a d v w h; cases d <;> exact h) ?_
 simp only [segs, picks, List.getElem?_cons_succ, List.getElem?_cons_zero]
 have hC1 := later_drew (w6)
 refine wpSeg_sq (fun K hK => ?_)
 go_wp2_with fail
 go_wp2_with fail
 refine hK _ _ (fun h => nomatch h) ?_
 clear hK K
 refine wpSeg_fl hC1 ?_
 repeat (first | go_big_quiet_step (fail) | quiet_step (fail))
 refine wpQuiet_nil ?_
 have HH7 := LH (HH6.out.later (later_below hC1))
 clear r0 r1 r2 d0 d1 HH6 HM6
 generalize w6.drew = w7 at *
 refine wpSeg_sq (fun K hK => ?_)
 go_wp2_with fail
 refine (wpick_any _ _ _ [a] HH7.out.at_.own (by simp) 0).mono ?_
 rintro e w8 ⟨rfl, hb8⟩
 rw [show pickN [a] 0 = a by unfold pickN; simp]
 have HH8 := LH (HH7.out.later hb8)
 have hC2 := later_step hC1 hb8
 clear hb8 HH7
 go_wp2_with fail
 refine hK _ _ (fun _ => hC2) ?_
 clear hK K
 have hC3 := later_step hC2 (below_alloc w8 (.cells #[.int .i64 (a : Int)] 3))
 have HH9 := LH (HH8.out.later (below_alloc w8 (.cells #[.int .i64 (a : Int)] 3)))
 have HC9 : Hid (Cells (w8.alloc (.cells #[.int .i64 (a : Int)] 3)) (some ⟨w8.heap.size, 0, none⟩) ([a].map vi)) := LH (RowAt.cells (show RowAt (w8.alloc (.cells #[.int .i64 (a : Int)] 3)) w8.heap.size 3 [vi a] from ⟨_, heap_alloc_new _ _, [], rfl⟩))
 refine wpSeg_sq (fun K hK => ?_)
 go_wp2_with fail
 go_wp2_with fail
 refine hK _ _ (fun _ => hC3) ?_
 clear hK K
 generalize w8.alloc _ = w9 at *
 generalize w8.heap.size = g9 at *
 have HDp := LH (sdepth_any HH9.out.at_.al HLc.out (by rw [HLu.out]; omega) (by rw [HLu.out]; omega) (some ⟨g9, 0, none⟩) 1 1 [a] rfl HC9.out (by omega) (by intro x hx; simp at hx; subst hx; omega))
 refine wpSeg_last ?_
 go_wp2_with fail
 refine HDp.out.mono ?_
 rintro e w10 ⟨K, hk, rfl, hb10⟩
 have HB10 := LH (HH9.out.below.trans (hb10.mono HH9.out.below.size))
 rw [HK.out K hk]
 clear hk hb10
 go_wp2_with fail
 exact HP.out _ HB10.out
theorem ListPost.own4 {w w' : World} {xs : List Nat} {e : Ending} (h : ListPost w xs e w') : ∃ a c, e = .returned (.slice a xs.length c) ∧ Cells w' a (xs.map vi) ∧ Below w.heap.size w w' ∧ (∀ x, a = some x → w.heap.size ≤ x.block) ∧ (∀ x, a = some x → x.block < w'.heap.size) := by
 obtain ⟨v, rfl, ho, _, hb⟩ := h
 obtain ⟨a, c, rfl, _⟩ := owned_form ho
 exact ⟨a, c, rfl, Cells.owned ho, hb, owned_addr ho, owned_lt ho⟩
theorem szN_now (S : Dev) (a : Nat) : szN (nowD S) a = szN S a := rfl
theorem isK_now (S : Dev) (k a : Nat) : isK (nowD S) k a = isK S k a := rfl
theorem cntO_now (S : Dev) (k : Nat) : ∀ l, cntO (nowD S) k l = cntO S k l
 | [] => rfl
 | a :: l => by show cntO (nowD S) k l + _ = cntO S k l + _; rw [cntO_now S k l, isK_now]
theorem wrdO_now (S : Dev) (k : Nat) : ∀ l, wrdO (nowD S) k l = wrdO S k l
 | [] => rfl
 | a :: l => by show wrdO (nowD S) k l + _ = wrdO S k l + _; rw [wrdO_now S k l, isK_now, szN_now]
theorem larO_now (S : Dev) : ∀ l, larO (nowD S) l = larO S l
 | [] => rfl
 | a :: l => by simp only [larO]; rw [larO_now S l, szN_now]
theorem rowsR_now (S : Dev) (L : List Hd) (us : List Nat) : ∀ n, rowsR (nowD S) L us n = rowsR S L us n
 | 0 => rfl
 | n + 1 => by
  unfold rowsR
  rw [rowsR_now S L us n]
  unfold rowR
  rw [cntO_now, wrdO_now]
theorem infoRr : (Tryz.prog.info? 3).isSome = true := by kernel_rfl
theorem cellsI : Tryz.prog.cellsOf 3 = 1 := by kernel_rfl
theorem gsRr : Tryz.prog.eqGuardType Tryz.prog.depth 86 = false := by kernel_rfl
theorem equalRr (w : World) (a b c d e : Int) : (Op.equalIn 10000 86 (.agg #[.int .i64 a, .int .i64 b, .int .i64 c, .int .i64 d, .int .i64 e]) (.agg #[.int .i64 a, .int .i64 b, .int .i64 c, .int .i64 d, .int .i64 e])).run Tryz.prog w = .ok true w := by
 obtain ⟨i, hi⟩ := Option.isSome_iff_exists.1 infoRr
 rw [show (10000 : Nat) = 9999 + 1 from rfl, run_equalIn_array w 9999 _ _ Tryz.underlying86 hi, cellsI, show (9999 : Nat) = 9998 + 1 from rfl]
 obtain ⟨b', hb, hiff⟩ := run_eqItems_ints Tryz.underlying3 9998 w [a, b, c, d, e] [a, b, c, d, e] (List.range 5) (fun i hi => by simp at hi; simp; omega)
 have hb2 : b' = true := hiff.2 (fun _ _ => rfl)
 subst hb2
 exact hb
set_option maxHeartbeats 16000000 in
set_option maxRecDepth 100000 in
theorem statsCounts_any (a : Option Addr) (mm cap : Nat) (s : List Op20) (hm : s.length = mm) (w : World) (hcs : Cells w a (recs Op20.cs s)) (hmm : mm ≤ maxLen) :
  Calls Tryz.prog 4 #[.slice a mm cap] w (Gives (.bool true) w) := by
 have HM := LH hm
 have HCS := LH hcs
 have HMM := LH hmm
 clear hm hcs hmm
 have HP : Hid (∀ w', Below w.heap.size w w' → Gives (.bool true) w (.returned (.bool true)) w') := LH (fun w' h => ⟨rfl, h⟩)
 generalize Gives (.bool true) w = Post at *
 go_enter Tryz.func4, Tryz.ntmps4
 go_wp2_with fail
 refine (awake32_any _).mono ?_
 rintro e w1 ⟨rfl, hb1⟩
 have HB1 := LH hb1
 clear hb1
 go_wp2_with fail
 refine (made32_any a mm cap s HM.out w1 (HCS.out.below HB1.out (Nat.le_refl _)) HMM.out).mono ?_
 rintro e w2 ⟨A, n, m, v, xs, rfl, hh, hn, _⟩
 obtain ⟨sa, sc, rfl, _⟩ := hh.at_.own.cells
 obtain ⟨l, hl⟩ : ∃ l, l = xs.length := ⟨_, rfl⟩
 have HB2 := LH (HB1.out.trans (hh.below.mono HB1.out.size))
 have HMb := LH (Mem.one w2 #[valloc A, vdev A.X.F, .slice sa l sc] 74)
 rw [← hl] at hh ⊢
 have HHp := LH (hh.later HMb.out.below)
 have HSz2 : Hid (w1.heap.size ≤ w2.heap.size) := LH hh.below.size
 have HOk := LH hh.ok.ok
 have HWf := LH hh.at_.al.man.dev.wf
 have HLu : Hid (m.used.length = 3072) := LH (by rw [hh.ok.ok.lenU])
 have HLc : Hid (m.bm.dev.cache.length = 3072) := LH hh.ok.ok.len
 have HLn : Hid (m.bm.list.length = 6) := LH hh.ok.ok.bm.lenL
 clear hl hh hn
 go_upto_region 4 with fail
 generalize w2.alloc _ = w3 at *
 obtain ⟨q, hq⟩ : ∃ q, q = w2.heap.size := ⟨_, rfl⟩
 rw [← hq] at HMb ⊢
 clear hq
 have HNow := LH (fun w' (h : DevAt w' A.X.F m.bm.dev) => wnow_any h (valloc A) (.slice sa l sc) (by rw [HLc.out]; omega))
 have HObj := LH (fun w' (h : AlAt w' A n 6 m) => aobjects_any h)
 have HAll := LH (fun w' (h : AlAt w' A n 6 m) => tall_any h.man.tab (by omega))
 have HRf := LH (fun w' gl kl (h : Cells w' (some ⟨gl, 0, none⟩) (hdCs m.bm.list)) => refs_any (some ⟨gl, 0, none⟩) 6 kl m.bm.list HLn.out w' h (by omega))
 have HUl : Hid ((onesL m.used).length ≤ 3072) := LH (by rw [onesL_length]; have := count_le_len m.used; have := HLu.out; omega)
 obtain ⟨us, hus⟩ : ∃ us, us = onesL m.used := ⟨_, rfl⟩
 have HUs := LH hus
 rw [← hus] at HObj HUl
 obtain ⟨ul, hul⟩ : ∃ ul, ul = us.length := ⟨_, rfl⟩
 have HUn := LH hul
 rw [← hul] at HUl
 clear hus hul
 go_upto_region 6 with fail
 go_cut [5, 6, 7] (fun dv lv uv wc => ∃ (qd : Nat) (D : Array Value) (ar : Option Addr) (cr : Nat) (au : Option Addr) (cu : Nat), dv = .pointer (some ⟨qd, 0, none⟩) ∧ lv = .slice ar 6 cr ∧ uv = .slice au ul cu ∧ Hid (Mem w2 wc [⟨q, 74, [valloc A, vdev A.X.F, .slice sa l sc], true⟩, ⟨qd, 59, D.toList, true⟩]) ∧ Hid (RAt wc (.agg D) m.bm.dev.dirty.length (nowD m.bm.dev).ref) ∧ Hid (Cells wc ar (hdCs m.bm.list)) ∧ Hid (Cells wc au (us.map vi)) ∧ Hid (Hp w1 wc [] A n 6 25000000 m (.slice sa l sc) xs))
 case first =>
  have c0 := HMb.out.cell 0 0 rfl rfl
  have c1 := HMb.out.cell 0 1 rfl rfl
  have c2 := HMb.out.cell 0 2 rfl rfl
  have c3 := HHp.out.at_.al.c0
  have c4 := HHp.out.at_.al.man.c0
  have r0 := fun x => later_cell c0 x
  have r1 := fun x => later_cell c1 x
  have r2 := fun x => later_cell c2 x
  have r3 := fun x => later_cell c3 x
  have r4 := fun x => later_cell c4 x
  clear c0 c1 c2 c3 c4
  refine wp_region_tr (C := fun w' => ∃ x : Later (w3), w' = x.val) (.fl [0, 2, 3, 4, 5, 6, 7, 8, 9, 12, 13] (.br 1 true (.br 10 true (.br 11 true (.br 14 false (.sq [15] true (.sq [16, 17, 18] false (.nil))) 15 true (.sq [14, 16, 17, 18] false (.nil))) 15 true (.sq [11] true (.sq [14, 16, 17, 18] false (.nil)))) 15 true (.sq [10] true (.sq [11] true (.sq [14, 16, 17, 18] false (.nil))))) 15 true (.sq [1] true (.sq [10] true (.sq [11] true (.sq [14, 16, 17, 18] false (.nil))))))) (by kernel_rfl) (by kernel_rfl) (by intro c a d v w h; cases d <;> exact h) ?_
  simp only [trO, picks, List.getElem?_cons_succ, List.getElem?_cons_zero]
  have hC4 := later_drew (w3)
  refine wpTr_fl hC4 ?_
  repeat (first | go_big_quiet_step (fail) | quiet_step (fail))
  refine wpQuiet_nil ?_
  clear r0 r1 r2 r3 r4
  have HM4 := LH (HMb.out.later (later_below hC4))
  have HH4 := LH (HHp.out.later (later_below hC4))
  generalize w3.drew = w4 at *
  have HS4 : Hid (w1.heap.size ≤ w4.heap.size) := LH HH4.out.below.size
  refine wpTr_br ?_ ?_
  ·refine wpTr_sq (fun K hK => ?_)
   go_wp2_with fail
   refine (HNow.out _ HH4.out.at_.al.man.dev).mono ?_
   rintro e w5 ⟨dv, rfl, hr, hlo, hb⟩
   obtain ⟨D, rfl⟩ := hr.agg
   obtain ⟨hD8, hD1⟩ := hr.arr
   have HRhi := LH hr.old
   have HRlo := LH hlo
   have HM5 := LH (HM4.out.later hb)
   have HH5 := LH (HH4.out.later hb)
   have HS5 : Hid (w4.heap.size ≤ w5.heap.size) := LH hb.size
   have HR5 := LH hr
   have hC5 := later_step hC4 hb
   clear hb hr hlo
   go_wp2_with fail
   refine hK _ _ (fun _ => hC5) ?_
   clear hK K
   refine wpTr_br ?_ ?_
   ·refine wpTr_sq (fun K hK => ?_)
    go_wp2_with fail
    refine (HAll.out _ HH5.out.at_.al).mono ?_
    rintro e w6 ⟨gl, kl, rfl, _, _, hrow, hb⟩
    have HM6 := LH (HM5.out.later hb)
    have HH6 := LH (HH5.out.later hb)
    have HR6 := LH (HR5.out.below hb (Nat.le_refl _))
    have HS6 : Hid (w5.heap.size ≤ w6.heap.size) := LH hb.size
    have HL6 := LH hrow.cells
    have hC6 := later_step hC5 hb
    clear hb hrow
    go_wp2_with fail
    refine hK _ _ (fun _ => hC6) ?_
    clear hK K
    refine wpTr_br ?_ ?_
    ·refine wpTr_sq (fun K hK => ?_)
     go_wp2_with fail
     refine (HRf.out _ _ _ HL6.out).mono ?_
     rintro e w7 ⟨vr, rfl, ho, hb⟩
     obtain ⟨ar, cr, rfl, _, _⟩ := owned_form ho
     have HFlo := LH (owned_addr ho)
     have HFhi := LH (owned_lt ho)
     have HM7 := LH (HM6.out.later hb)
     have HH7 := LH (HH6.out.later hb)
     have HR7 := LH (HR6.out.below hb (Nat.le_refl _))
     have HL7 := LH (HL6.out.below hb (Nat.le_refl _))
     have HS7 : Hid (w6.heap.size ≤ w7.heap.size) := LH hb.size
     have HF7 := LH (Cells.owned3 ho)
     have hC7 := later_step hC6 hb
     clear hb ho
     go_wp2_with fail
     refine hK _ _ (fun _ => hC7) ?_
     clear hK K
     refine wpTr_br ?_ ?_
     ·refine wpTr_sq (fun K hK => ?_)
      go_wp2_with fail
      refine (HObj.out _ HH7.out.at_.al).mono ?_
      intro e w8 hp6
      obtain ⟨au, cu, e6, hcu6, hb, hcl6, hch6⟩ := hp6.own4
      rw [← HUn.out] at e6
      subst e6
      have HOlo := LH hcl6
      have HOhi := LH hch6
      have HM8 := LH (HM7.out.later hb)
      have HH8 := LH (HH7.out.later hb)
      have HR8 := LH (HR7.out.below hb (Nat.le_refl _))
      have HF8 := LH (HF7.out.below hb (Nat.le_refl _))
      have HS8 : Hid (w7.heap.size ≤ w8.heap.size) := LH hb.size
      have HO8 := LH hcu6
      have hC8 := later_step hC7 hb
      clear hb hp6 hcu6 hcl6 hch6
      go_wp2_with fail
      refine hK _ _ (fun h => nomatch h) ?_
      clear hK K
      refine wpTr_sq (fun K hK => ?_)
      go_wp2_with fail
      have hb := below_alloc w8 (.cells zeroD 59)
      have HM9 := LH (HM8.out.alloc zeroD 59)
      have HH9 : Hid (Hp w1 (w8.alloc (.cells zeroD 59)) [w8.heap.size] A n 6 25000000 m (.slice sa l sc) xs) := LH (HH8.out.more (fun k hk => by simp at hk; subst hk; exact .inr ⟨Nat.le_refl _, by simp⟩) hb)
      have HR9 := LH (HR8.out.below hb (Nat.le_refl _))
      have HF9 := LH (HF8.out.below hb (Nat.le_refl _))
      have HO9 := LH (HO8.out.below hb (Nat.le_refl _))
      have HS9 : Hid (w8.heap.size < (w8.alloc (.cells zeroD 59)).heap.size) := LH (by simp)
      have hC9 := later_step hC8 hb
      clear hb
      go_wp2_with fail
      refine hK _ _ (fun _ => hC9) ?_
      clear hK K
      rw [show (#[.slice none 0 0, .slice none 0 0, .slice none 0 0, .slice none 0 0, .slice none 0 0, .int .i64 0, .int .i64 0, .bool false] : Array Value) = zeroD from rfl]
      obtain ⟨qd, hqd⟩ : ∃ qd, qd = w8.heap.size := ⟨_, rfl⟩
      have HQd := LH hqd
      generalize w8.alloc _ = w9 at *
      rw [← hqd] at HM9 HH9 ⊢
      clear hqd
      refine wpTr_last ?_
      go_wp2_with (refine wpList_store_mem aggRd HM9.out 1 rfl rfl rfl rfl rfl hD8 hD8.symm hD1 ?_; intro w9 h9 ht9; have H9 := LH h9; have HT9 := LH ht9; clear h9 ht9)
      go_meet
      exact ⟨qd, D, ar, cr, au, cu, rfl, rfl, rfl, H9, LH (HR9.out.touch HT9.out (HRhi.out.imp id (fun h b hb hm => by simp at hm; have h1 := h b hb; have h2 := HRlo.out b hb; have h5 := HS5.out; have h6 := HS6.out; have h7 := HS7.out; have h8 := HS8.out; have h9 := HS9.out; have hq := HQd.out; omega))), LH (HF9.out.touchNe HT9.out (fun x hx e => by have h1 := HFhi.out x hx; have h2 := HFlo.out x hx; have h5 := HS5.out; have h6 := HS6.out; have h7 := HS7.out; have h8 := HS8.out; have h9 := HS9.out; have hq := HQd.out; omega)), LH (HO9.out.touchNe HT9.out (fun x hx e => by have h1 := HOhi.out x hx; have h2 := HOlo.out x hx; have h5 := HS5.out; have h6 := HS6.out; have h7 := HS7.out; have h8 := HS8.out; have h9 := HS9.out; have hq := HQd.out; omega)), LH ((HH9.out.own (HT9.out.wide (by simp)) (fun k hk => by simp at hk; subst hk; have h0 := HS4.out; have h5 := HS5.out; have h6 := HS6.out; have h7 := HS7.out; have h8 := HS8.out; have h9 := HS9.out; have hq := HQd.out; omega)).less (by simp))⟩
     ·refine wpTr_sq (fun K hK => ?_)
      go_wp2_with fail
      have hb := below_alloc w7 (.cells zeroD 59)
      have HM8 := LH (HM7.out.alloc zeroD 59)
      have HH8 : Hid (Hp w1 (w7.alloc (.cells zeroD 59)) [w7.heap.size] A n 6 25000000 m (.slice sa l sc) xs) := LH (HH7.out.more (fun k hk => by simp at hk; subst hk; exact .inr ⟨Nat.le_refl _, by simp⟩) hb)
      have HR8 := LH (HR7.out.below hb (Nat.le_refl _))
      have HF8 := LH (HF7.out.below hb (Nat.le_refl _))
      have HS8 : Hid (w7.heap.size < (w7.alloc (.cells zeroD 59)).heap.size) := LH (by simp)
      have hC8 := later_step hC7 hb
      clear hb
      go_wp2_with fail
      refine hK _ _ (fun _ => hC8) ?_
      clear hK K
      rw [show (#[.slice none 0 0, .slice none 0 0, .slice none 0 0, .slice none 0 0, .slice none 0 0, .int .i64 0, .int .i64 0, .bool false] : Array Value) = zeroD from rfl]
      obtain ⟨qd, hqd⟩ : ∃ qd, qd = w7.heap.size := ⟨_, rfl⟩
      have HQd := LH hqd
      generalize w7.alloc _ = w8 at *
      rw [← hqd] at HM8 HH8 ⊢
      clear hqd
      refine wpTr_last ?_
      go_wp2_with fail
      refine (HObj.out _ HH8.out.at_.al).mono ?_
      intro e w9 hp6
      obtain ⟨au, cu, e6, hcu6, hb, hcl6, hch6⟩ := hp6.own4
      rw [← HUn.out] at e6
      subst e6
      have HOlo := LH hcl6
      have HOhi := LH hch6
      have HM9 := LH (HM8.out.later hb)
      have HH9 := LH (HH8.out.later hb)
      have HR9 := LH (HR8.out.below hb (Nat.le_refl _))
      have HF9 := LH (HF8.out.below hb (Nat.le_refl _))
      have HS9 : Hid (w8.heap.size ≤ w9.heap.size) := LH hb.size
      have HO9 := LH hcu6
      clear hb hp6 hcu6 hcl6 hch6
      go_wp2_with (refine wpList_store_mem aggRd HM9.out 1 rfl rfl rfl rfl rfl hD8 hD8.symm hD1 ?_; intro w9 h9 ht9; have H9 := LH h9; have HT9 := LH ht9; clear h9 ht9)
      go_meet
      exact ⟨qd, D, ar, cr, au, cu, rfl, rfl, rfl, H9, LH (HR9.out.touch HT9.out (HRhi.out.imp id (fun h b hb hm => by simp at hm; have h1 := h b hb; have h2 := HRlo.out b hb; have h5 := HS5.out; have h6 := HS6.out; have h7 := HS7.out; have h8 := HS8.out; have h9 := HS9.out; have hq := HQd.out; omega))), LH (HF9.out.touchNe HT9.out (fun x hx e => by have h1 := HFhi.out x hx; have h2 := HFlo.out x hx; have h5 := HS5.out; have h6 := HS6.out; have h7 := HS7.out; have h8 := HS8.out; have h9 := HS9.out; have hq := HQd.out; omega)), LH (HO9.out.touchNe HT9.out (fun x hx e => by have h1 := HOhi.out x hx; have h2 := HOlo.out x hx; have h5 := HS5.out; have h6 := HS6.out; have h7 := HS7.out; have h8 := HS8.out; have h9 := HS9.out; have hq := HQd.out; omega)), LH ((HH9.out.own (HT9.out.wide (by simp)) (fun k hk => by simp at hk; subst hk; have h0 := HS4.out; have h5 := HS5.out; have h6 := HS6.out; have h7 := HS7.out; have h8 := HS8.out; have h9 := HS9.out; have hq := HQd.out; omega)).less (by simp))⟩
    ·refine wpTr_sq (fun K hK => ?_)
     go_wp2_with fail
     have hb := below_alloc w6 (.cells zeroD 59)
     have HM7 := LH (HM6.out.alloc zeroD 59)
     have HH7 : Hid (Hp w1 (w6.alloc (.cells zeroD 59)) [w6.heap.size] A n 6 25000000 m (.slice sa l sc) xs) := LH (HH6.out.more (fun k hk => by simp at hk; subst hk; exact .inr ⟨Nat.le_refl _, by simp⟩) hb)
     have HR7 := LH (HR6.out.below hb (Nat.le_refl _))
     have HL7 := LH (HL6.out.below hb (Nat.le_refl _))
     have HS7 : Hid (w6.heap.size < (w6.alloc (.cells zeroD 59)).heap.size) := LH (by simp)
     have hC7 := later_step hC6 hb
     clear hb
     go_wp2_with fail
     refine hK _ _ (fun _ => hC7) ?_
     clear hK K
     rw [show (#[.slice none 0 0, .slice none 0 0, .slice none 0 0, .slice none 0 0, .slice none 0 0, .int .i64 0, .int .i64 0, .bool false] : Array Value) = zeroD from rfl]
     obtain ⟨qd, hqd⟩ : ∃ qd, qd = w6.heap.size := ⟨_, rfl⟩
     have HQd := LH hqd
     generalize w6.alloc _ = w7 at *
     rw [← hqd] at HM7 HH7 ⊢
     clear hqd
     refine wpTr_sq (fun K hK => ?_)
     go_wp2_with fail
     refine (HRf.out _ _ _ HL7.out).mono ?_
     rintro e w8 ⟨vr, rfl, ho, hb⟩
     obtain ⟨ar, cr, rfl, _, _⟩ := owned_form ho
     have HFlo := LH (owned_addr ho)
     have HFhi := LH (owned_lt ho)
     have HM8 := LH (HM7.out.later hb)
     have HH8 := LH (HH7.out.later hb)
     have HR8 := LH (HR7.out.below hb (Nat.le_refl _))
     have HL8 := LH (HL7.out.below hb (Nat.le_refl _))
     have HS8 : Hid (w7.heap.size ≤ w8.heap.size) := LH hb.size
     have HF8 := LH (Cells.owned3 ho)
     have hC8 := later_step hC7 hb
     clear hb ho
     go_wp2_with fail
     refine hK _ _ (fun _ => hC8) ?_
     clear hK K
     refine wpTr_last ?_
     go_wp2_with fail
     refine (HObj.out _ HH8.out.at_.al).mono ?_
     intro e w9 hp6
     obtain ⟨au, cu, e6, hcu6, hb, hcl6, hch6⟩ := hp6.own4
     rw [← HUn.out] at e6
     subst e6
     have HOlo := LH hcl6
     have HOhi := LH hch6
     have HM9 := LH (HM8.out.later hb)
     have HH9 := LH (HH8.out.later hb)
     have HR9 := LH (HR8.out.below hb (Nat.le_refl _))
     have HF9 := LH (HF8.out.below hb (Nat.le_refl _))
     have HS9 : Hid (w8.heap.size ≤ w9.heap.size) := LH hb.size
     have HO9 := LH hcu6
     clear hb hp6 hcu6 hcl6 hch6
     go_wp2_with (refine wpList_store_mem aggRd HM9.out 1 rfl rfl rfl rfl rfl hD8 hD8.symm hD1 ?_; intro w9 h9 ht9; have H9 := LH h9; have HT9 := LH ht9; clear h9 ht9)
     go_meet
     exact ⟨qd, D, ar, cr, au, cu, rfl, rfl, rfl, H9, LH (HR9.out.touch HT9.out (HRhi.out.imp id (fun h b hb hm => by simp at hm; have h1 := h b hb; have h2 := HRlo.out b hb; have h5 := HS5.out; have h6 := HS6.out; have h7 := HS7.out; have h8 := HS8.out; have h9 := HS9.out; have hq := HQd.out; omega))), LH (HF9.out.touchNe HT9.out (fun x hx e => by have h1 := HFhi.out x hx; have h2 := HFlo.out x hx; have h5 := HS5.out; have h6 := HS6.out; have h7 := HS7.out; have h8 := HS8.out; have h9 := HS9.out; have hq := HQd.out; omega)), LH (HO9.out.touchNe HT9.out (fun x hx e => by have h1 := HOhi.out x hx; have h2 := HOlo.out x hx; have h5 := HS5.out; have h6 := HS6.out; have h7 := HS7.out; have h8 := HS8.out; have h9 := HS9.out; have hq := HQd.out; omega)), LH ((HH9.out.own (HT9.out.wide (by simp)) (fun k hk => by simp at hk; subst hk; have h0 := HS4.out; have h5 := HS5.out; have h6 := HS6.out; have h7 := HS7.out; have h8 := HS8.out; have h9 := HS9.out; have hq := HQd.out; omega)).less (by simp))⟩
   ·refine wpTr_sq (fun K hK => ?_)
    go_wp2_with fail
    have hb := below_alloc w5 (.cells zeroD 59)
    have HM6 := LH (HM5.out.alloc zeroD 59)
    have HH6 : Hid (Hp w1 (w5.alloc (.cells zeroD 59)) [w5.heap.size] A n 6 25000000 m (.slice sa l sc) xs) := LH (HH5.out.more (fun k hk => by simp at hk; subst hk; exact .inr ⟨Nat.le_refl _, by simp⟩) hb)
    have HR6 := LH (HR5.out.below hb (Nat.le_refl _))
    have HS6 : Hid (w5.heap.size < (w5.alloc (.cells zeroD 59)).heap.size) := LH (by simp)
    have hC6 := later_step hC5 hb
    clear hb
    go_wp2_with fail
    refine hK _ _ (fun _ => hC6) ?_
    clear hK K
    rw [show (#[.slice none 0 0, .slice none 0 0, .slice none 0 0, .slice none 0 0, .slice none 0 0, .int .i64 0, .int .i64 0, .bool false] : Array Value) = zeroD from rfl]
    obtain ⟨qd, hqd⟩ : ∃ qd, qd = w5.heap.size := ⟨_, rfl⟩
    have HQd := LH hqd
    generalize w5.alloc _ = w6 at *
    rw [← hqd] at HM6 HH6 ⊢
    clear hqd
    refine wpTr_sq (fun K hK => ?_)
    go_wp2_with fail
    refine (HAll.out _ HH6.out.at_.al).mono ?_
    rintro e w7 ⟨gl, kl, rfl, _, _, hrow, hb⟩
    have HM7 := LH (HM6.out.later hb)
    have HH7 := LH (HH6.out.later hb)
    have HR7 := LH (HR6.out.below hb (Nat.le_refl _))
    have HS7 : Hid (w6.heap.size ≤ w7.heap.size) := LH hb.size
    have HL7 := LH hrow.cells
    have hC7 := later_step hC6 hb
    clear hb hrow
    go_wp2_with fail
    refine hK _ _ (fun _ => hC7) ?_
    clear hK K
    refine wpTr_sq (fun K hK => ?_)
    go_wp2_with fail
    refine (HRf.out _ _ _ HL7.out).mono ?_
    rintro e w8 ⟨vr, rfl, ho, hb⟩
    obtain ⟨ar, cr, rfl, _, _⟩ := owned_form ho
    have HFlo := LH (owned_addr ho)
    have HFhi := LH (owned_lt ho)
    have HM8 := LH (HM7.out.later hb)
    have HH8 := LH (HH7.out.later hb)
    have HR8 := LH (HR7.out.below hb (Nat.le_refl _))
    have HL8 := LH (HL7.out.below hb (Nat.le_refl _))
    have HS8 : Hid (w7.heap.size ≤ w8.heap.size) := LH hb.size
    have HF8 := LH (Cells.owned3 ho)
    have hC8 := later_step hC7 hb
    clear hb ho
    go_wp2_with fail
    refine hK _ _ (fun _ => hC8) ?_
    clear hK K
    refine wpTr_last ?_
    go_wp2_with fail
    refine (HObj.out _ HH8.out.at_.al).mono ?_
    intro e w9 hp6
    obtain ⟨au, cu, e6, hcu6, hb, hcl6, hch6⟩ := hp6.own4
    rw [← HUn.out] at e6
    subst e6
    have HOlo := LH hcl6
    have HOhi := LH hch6
    have HM9 := LH (HM8.out.later hb)
    have HH9 := LH (HH8.out.later hb)
    have HR9 := LH (HR8.out.below hb (Nat.le_refl _))
    have HF9 := LH (HF8.out.below hb (Nat.le_refl _))
    have HS9 : Hid (w8.heap.size ≤ w9.heap.size) := LH hb.size
    have HO9 := LH hcu6
    clear hb hp6 hcu6 hcl6 hch6
    go_wp2_with (refine wpList_store_mem aggRd HM9.out 1 rfl rfl rfl rfl rfl hD8 hD8.symm hD1 ?_; intro w9 h9 ht9; have H9 := LH h9; have HT9 := LH ht9; clear h9 ht9)
    go_meet
    exact ⟨qd, D, ar, cr, au, cu, rfl, rfl, rfl, H9, LH (HR9.out.touch HT9.out (HRhi.out.imp id (fun h b hb hm => by simp at hm; have h1 := h b hb; have h2 := HRlo.out b hb; have h5 := HS5.out; have h6 := HS6.out; have h7 := HS7.out; have h8 := HS8.out; have h9 := HS9.out; have hq := HQd.out; omega))), LH (HF9.out.touchNe HT9.out (fun x hx e => by have h1 := HFhi.out x hx; have h2 := HFlo.out x hx; have h5 := HS5.out; have h6 := HS6.out; have h7 := HS7.out; have h8 := HS8.out; have h9 := HS9.out; have hq := HQd.out; omega)), LH (HO9.out.touchNe HT9.out (fun x hx e => by have h1 := HOhi.out x hx; have h2 := HOlo.out x hx; have h5 := HS5.out; have h6 := HS6.out; have h7 := HS7.out; have h8 := HS8.out; have h9 := HS9.out; have hq := HQd.out; omega)), LH ((HH9.out.own (HT9.out.wide (by simp)) (fun k hk => by simp at hk; subst hk; have h0 := HS4.out; have h5 := HS5.out; have h6 := HS6.out; have h7 := HS7.out; have h8 := HS8.out; have h9 := HS9.out; have hq := HQd.out; omega)).less (by simp))⟩
  ·refine wpTr_sq (fun K hK => ?_)
   go_wp2_with fail
   have hb := below_alloc w4 (.cells zeroD 59)
   have HM5 := LH (HM4.out.alloc zeroD 59)
   have HH5 : Hid (Hp w1 (w4.alloc (.cells zeroD 59)) [w4.heap.size] A n 6 25000000 m (.slice sa l sc) xs) := LH (HH4.out.more (fun k hk => by simp at hk; subst hk; exact .inr ⟨Nat.le_refl _, by simp⟩) hb)
   have HS5 : Hid (w4.heap.size < (w4.alloc (.cells zeroD 59)).heap.size) := LH (by simp)
   have hC5 := later_step hC4 hb
   clear hb
   go_wp2_with fail
   refine hK _ _ (fun _ => hC5) ?_
   clear hK K
   rw [show (#[.slice none 0 0, .slice none 0 0, .slice none 0 0, .slice none 0 0, .slice none 0 0, .int .i64 0, .int .i64 0, .bool false] : Array Value) = zeroD from rfl]
   obtain ⟨qd, hqd⟩ : ∃ qd, qd = w4.heap.size := ⟨_, rfl⟩
   have HQd := LH hqd
   generalize w4.alloc _ = w5 at *
   rw [← hqd] at HM5 HH5 ⊢
   clear hqd
   refine wpTr_sq (fun K hK => ?_)
   go_wp2_with fail
   refine (HNow.out _ HH5.out.at_.al.man.dev).mono ?_
   rintro e w6 ⟨dv, rfl, hr, hlo, hb⟩
   obtain ⟨D, rfl⟩ := hr.agg
   obtain ⟨hD8, hD1⟩ := hr.arr
   have HRhi := LH hr.old
   have HRlo := LH hlo
   have HM6 := LH (HM5.out.later hb)
   have HH6 := LH (HH5.out.later hb)
   have HS6 : Hid (w5.heap.size ≤ w6.heap.size) := LH hb.size
   have HR6 := LH hr
   have hC6 := later_step hC5 hb
   clear hb hr hlo
   go_wp2_with fail
   refine hK _ _ (fun _ => hC6) ?_
   clear hK K
   refine wpTr_sq (fun K hK => ?_)
   go_wp2_with fail
   refine (HAll.out _ HH6.out.at_.al).mono ?_
   rintro e w7 ⟨gl, kl, rfl, _, _, hrow, hb⟩
   have HM7 := LH (HM6.out.later hb)
   have HH7 := LH (HH6.out.later hb)
   have HR7 := LH (HR6.out.below hb (Nat.le_refl _))
   have HS7 : Hid (w6.heap.size ≤ w7.heap.size) := LH hb.size
   have HL7 := LH hrow.cells
   have hC7 := later_step hC6 hb
   clear hb hrow
   go_wp2_with fail
   refine hK _ _ (fun _ => hC7) ?_
   clear hK K
   refine wpTr_sq (fun K hK => ?_)
   go_wp2_with fail
   refine (HRf.out _ _ _ HL7.out).mono ?_
   rintro e w8 ⟨vr, rfl, ho, hb⟩
   obtain ⟨ar, cr, rfl, _, _⟩ := owned_form ho
   have HFlo := LH (owned_addr ho)
   have HFhi := LH (owned_lt ho)
   have HM8 := LH (HM7.out.later hb)
   have HH8 := LH (HH7.out.later hb)
   have HR8 := LH (HR7.out.below hb (Nat.le_refl _))
   have HL8 := LH (HL7.out.below hb (Nat.le_refl _))
   have HS8 : Hid (w7.heap.size ≤ w8.heap.size) := LH hb.size
   have HF8 := LH (Cells.owned3 ho)
   have hC8 := later_step hC7 hb
   clear hb ho
   go_wp2_with fail
   refine hK _ _ (fun _ => hC8) ?_
   clear hK K
   refine wpTr_last ?_
   go_wp2_with fail
   refine (HObj.out _ HH8.out.at_.al).mono ?_
   intro e w9 hp6
   obtain ⟨au, cu, e6, hcu6, hb, hcl6, hch6⟩ := hp6.own4
   rw [← HUn.out] at e6
   subst e6
   have HOlo := LH hcl6
   have HOhi := LH hch6
   have HM9 := LH (HM8.out.later hb)
   have HH9 := LH (HH8.out.later hb)
   have HR9 := LH (HR8.out.below hb (Nat.le_refl _))
   have HF9 := LH (HF8.out.below hb (Nat.le_refl _))
   have HS9 : Hid (w8.heap.size ≤ w9.heap.size) := LH hb.size
   have HO9 := LH hcu6
   clear hb hp6 hcu6 hcl6 hch6
   go_wp2_with (refine wpList_store_mem aggRd HM9.out 1 rfl rfl rfl rfl rfl hD8 hD8.symm hD1 ?_; intro w9 h9 ht9; have H9 := LH h9; have HT9 := LH ht9; clear h9 ht9)
   go_meet
   exact ⟨qd, D, ar, cr, au, cu, rfl, rfl, rfl, H9, LH (HR9.out.touch HT9.out (HRhi.out.imp id (fun h b hb hm => by simp at hm; have h1 := h b hb; have h2 := HRlo.out b hb; have h5 := HS5.out; have h6 := HS6.out; have h7 := HS7.out; have h8 := HS8.out; have h9 := HS9.out; have hq := HQd.out; omega))), LH (HF9.out.touchNe HT9.out (fun x hx e => by have h1 := HFhi.out x hx; have h2 := HFlo.out x hx; have h5 := HS5.out; have h6 := HS6.out; have h7 := HS7.out; have h8 := HS8.out; have h9 := HS9.out; have hq := HQd.out; omega)), LH (HO9.out.touchNe HT9.out (fun x hx e => by have h1 := HOhi.out x hx; have h2 := HOlo.out x hx; have h5 := HS5.out; have h6 := HS6.out; have h7 := HS7.out; have h8 := HS8.out; have h9 := HS9.out; have hq := HQd.out; omega)), LH ((HH9.out.own (HT9.out.wide (by simp)) (fun k hk => by simp at hk; subst hk; have h0 := HS4.out; have h5 := HS5.out; have h6 := HS6.out; have h7 := HS7.out; have h8 := HS8.out; have h9 := HS9.out; have hq := HQd.out; omega)).less (by simp))⟩
 case rest =>
  obtain ⟨qd, D, ar, cr, au, cu, rfl, rfl, rfl, HM4, HRA4, HCr4, HCu4, HH4⟩ := hcut
  obtain ⟨hD8, hD1⟩ := HRA4.out.arr
  clear HMb HHp HNow HObj HAll HRf
  generalize wc = w4 at *
  have hul9 := HUl.out
  have HFit := LH (nowD_fit HWf.out 0)
  have KR := LH (fun w' (h : AlAt w' A n 6 m) => srows_any h HOk.out (by omega) (by omega))
  have KL := LH (fun w' (h : AlAt w' A n 6 m) => slarge_any h HOk.out (by omega))
  have KH := LH (fun w' (h : AlAt w' A n 6 m) => shundredths_any h HOk.out (by omega) (by omega))
  have hRe : rowsR (nowD m.bm.dev) m.bm.list us 32 = rowsTo m 6 32 := by rw [rowsR_now, HUs.out]; exact rowsR_is HOk.out 32
  have HRs := LH (rows_small HOk.out (by omega) (by omega))
  have RR : Hid (∀ w', RAt w' (.agg D) m.bm.dev.dirty.length (nowD m.bm.dev).ref → Cells w' ar (hdCs m.bm.list) → Cells w' au (us.map vi) → Calls Tryz.prog 30 #[.agg D, .slice ar 6 cr, .slice au ul cu] w' (RowsPost 86 (rowsTo m 6 32) w')) := LH (fun w' hr hc hu => by
   have := rrows32_any (S := nowD m.bm.dev) (by simp [nowD, freshDev]) hr HFit.out ar 6 cr m.bm.list HLn.out hc (by omega) (by omega) au ul cu us HUn.out.symm hu (by omega)
   rw [hRe] at this
   exact this)
  have RL : Hid (∀ w', RAt w' (.agg D) m.bm.dev.dirty.length (nowD m.bm.dev).ref → Cells w' au (us.map vi) → Calls Tryz.prog 34 #[.agg D, .slice au ul cu] w' (LarPost (larO m.bm.dev us) w')) := LH (fun w' hr hu => by
   have := rlarge32_any (S := nowD m.bm.dev) (by simp [nowD, freshDev]) hr HFit.out au ul cu us HUn.out.symm hu (by omega)
   rw [larO_now] at this
   exact this)
  have RH : Hid (∀ w', RAt w' (.agg D) m.bm.dev.dirty.length (nowD m.bm.dev).ref → Cells w' ar (hdCs m.bm.list) → Cells w' au (us.map vi) → Calls Tryz.prog 36 #[.agg D, .slice ar 6 cr, .slice au ul cu] w' (Gives (.int .i64 (hunZ (sumB5 (rowsTo m 6 32) + (larO m.bm.dev us).2.1) (sumW5 (rowsTo m 6 32) + (larO m.bm.dev us).2.2))) w')) := LH (fun w' hr hc hu => by
   have := rhundredths32_any (S := nowD m.bm.dev) (by simp [nowD, freshDev]) hr HFit.out ar 6 cr m.bm.list HLn.out hc (by omega) (by omega) au ul cu us HUn.out.symm hu (by omega) (by rw [hRe]; exact HRs.out)
   rw [hRe, larO_now] at this
   exact this)
  rw [← HUs.out] at KL KH
  generalize hunZ (sumB5 (rowsTo m 6 32) + (larO m.bm.dev us).2.1) (sumW5 (rowsTo m 6 32) + (larO m.bm.dev us).2.2) = hz at *
  generalize larO m.bm.dev us = La at *
  obtain ⟨lx, ly, lz⟩ := La
  unfold LarPost at KL RL
  dsimp only at KL RL
  have HRl : Hid ((rowsTo m 6 32).length ≤ 32) := LH (rowsTo_len m 6 32)
  unfold RowsPost at KR RR
  generalize rowsTo m 6 32 = R at *
  obtain ⟨rl, hrl⟩ : ∃ rl, rl = R.length := ⟨_, rfl⟩
  rw [← hrl] at KR RR HRl
  have hrl9 := HRl.out
  have HLr := LH hrl
  clear hRe hrl HFit
  have hld : ∀ w', (∃ x : Later w4, w' = x.val) → ∀ i v, D.toList[i]? = some v → w'.cell? ⟨qd, 0 + i, none⟩ = some v := by
   rintro _ ⟨x, rfl⟩ i v hi
   rw [Nat.zero_add]
   exact later_cell (HM4.out.cell 1 i rfl hi) x
  have r0 := fun x => later_cell (HM4.out.cell 0 0 rfl rfl) x
  go_upto_region 7 with fail
  refine wp_region_seg (C := fun w' => ∃ x : Later (w4), w' = x.val) [.fl [0, 1, 3, 4, 5], .sq [2] true, .sq [6, 7, 8] false] (by kernel_rfl) (by kernel_rfl) (by intro c a d v w h; cases d <;> exact h) ?_
  simp only [segs, picks, List.getElem?_cons_succ, List.getElem?_cons_zero]
  have hC1 := later_drew (w4)
  refine wpSeg_fl hC1 ?_
  repeat (first | (refine wpQuiet_load_arr aggRd D hld hD8 rfl rfl rfl ?_) | go_big_quiet_step (fail) | quiet_step (fail))
  refine wpQuiet_nil ?_
  have HM5 := LH (HM4.out.later (later_below hC1))
  have HH5 := LH (HH4.out.later (later_below hC1))
  have HRA5 := LH (HRA4.out.below (later_below hC1) (Nat.le_refl _))
  have HCr5 := LH (HCr4.out.below (later_below hC1) (Nat.le_refl _))
  have HCu5 := LH (HCu4.out.below (later_below hC1) (Nat.le_refl _))
  clear r0 hld HM4 HH4 HRA4 HCr4 HCu4
  generalize w4.drew = w5 at *
  refine wpSeg_sq (fun K hK => ?_)
  go_wp2_with fail
  refine (KR.out _ HH5.out.at_.al).mono ?_
  rintro e w6 ⟨v8, rfl, ho8, hb6⟩
  obtain ⟨a8, c8, rfl, _, _⟩ := owned_form ho8
  have HC86 := LH (Cells.owned3 ho8)
  have HM6 := LH (HM5.out.later hb6)
  have HH6 := LH (HH5.out.later hb6)
  have HRA6 := LH (HRA5.out.below hb6 (Nat.le_refl _))
  have HCr6 := LH (HCr5.out.below hb6 (Nat.le_refl _))
  have HCu6 := LH (HCu5.out.below hb6 (Nat.le_refl _))
  have hC2 := later_step hC1 hb6
  clear ho8 hb6 HM5 HH5 HRA5 HCr5 HCu5
  go_wp2_with fail
  refine hK _ _ (fun _ => hC2) ?_
  clear hK K
  refine wpSeg_last ?_
  go_wp2_with fail
  refine (RR.out _ HRA6.out HCr6.out HCu6.out).mono ?_
  rintro e w7 ⟨v9, rfl, ho9, hb7⟩
  obtain ⟨a9, c9, rfl, _, _⟩ := owned_form ho9
  have HC9 := LH (Cells.owned3 ho9)
  have HC8 := LH (HC86.out.below hb7 (Nat.le_refl _))
  have HM7 := LH (HM6.out.later hb7)
  have HH7 := LH (HH6.out.later hb7)
  have HRA7 := LH (HRA6.out.below hb7 (Nat.le_refl _))
  have HCr7 := LH (HCr6.out.below hb7 (Nat.le_refl _))
  have HCu7 := LH (HCu6.out.below hb7 (Nat.le_refl _))
  clear ho9 hb7 hC1 hC2 HM6 HH6 HRA6 HCr6 HCu6 HC86 KR RR
  go_upto_block 0 with fail
  go_cut [] (fun wc => Hid (Below w7.heap.size w7 wc))
  case first =>
   go_wp2_with fail
   go_loopw [10] (fun iv wr => ∃ i : Nat, i ≤ rl ∧ iv = .int .i64 (i : Int) ∧ Hid (Below w7.heap.size w7 wr)) (fun iv _ => rl - (intOf iv).toNat)
   case atStart => exact ⟨0, Nat.zero_le _, rfl, LH (Below.refl _ _)⟩
   case round =>
    obtain ⟨i, hi, rfl, HB⟩ := hrel
    by_cases hlt : i < rl
    case neg =>
     obtain rfl : i = rl := by omega
     have hlt' : decide ((i : Int) < (i : Int)) = false := by simp
     go_wp2_with fail
     go_meet
     exact HB
    have hlt' : (i : Int) < (rl : Int) := by omega
    obtain ⟨r, hr⟩ : ∃ r, R[i]? = some r := ⟨_, List.getElem?_eq_getElem (by rw [← HLr.out]; exact hlt)⟩
    obtain ⟨s1, s2, s3, s4⟩ := HRs.out r (List.mem_of_getElem? hr)
    obtain ⟨b8, o8, rfl, h8⟩ := row_cells (HC8.out.below HB.out (Nat.le_refl _)) hr
    obtain ⟨b9, o9, rfl, h9⟩ := row_cells (HC9.out.below HB.out (Nat.le_refl _)) hr
    have KF := LH (fun w => sfill_any r s1 (by omega) (by omega) w)
    have RF := LH (fun w => rfill32_any r s1 (by omega) (by omega) w)
    generalize filK r = fr at *
    obtain ⟨rk, rb, ro, rf, rx⟩ := r
    unfold Rw.cs at h8 h9
    unfold rwV at KF RF
    dsimp only at h8 h9 KF RF
    have e0 := h8 0 _ rfl
    have e1 := h8 1 _ rfl
    have e2 := h8 2 _ rfl
    have e3 := h8 3 _ rfl
    have e4 := h8 4 _ rfl
    have g0 := h9 0 _ rfl
    have g1 := h9 1 _ rfl
    have g2 := h9 2 _ rfl
    have g3 := h9 3 _ rfl
    have g4 := h9 4 _ rfl
    rw [Nat.add_zero] at e0 g0
    have HMx := LH (Mem.one wr #[.int .i64 (rk : Int), .int .i64 (rb : Int), .int .i64 (ro : Int), .int .i64 (rf : Int), .int .i64 (rx : Int)] 84)
    have hba := below_alloc wr (.cells #[.int .i64 (rk : Int), .int .i64 (rb : Int), .int .i64 (ro : Int), .int .i64 (rf : Int), .int .i64 (rx : Int)] 84)
    have G0 := LH (hba.cell (World.block_lt_of_cell? _ _ g0) |>.trans g0)
    have G1 := LH (hba.cell (World.block_lt_of_cell? _ _ g1) |>.trans g1)
    have G2 := LH (hba.cell (World.block_lt_of_cell? _ _ g2) |>.trans g2)
    have G3 := LH (hba.cell (World.block_lt_of_cell? _ _ g3) |>.trans g3)
    have G4 := LH (hba.cell (World.block_lt_of_cell? _ _ g4) |>.trans g4)
    have HBa := LH (HB.out.trans (HMx.out.below.mono HB.out.size))
    clear hr h8 h9 g0 g1 g2 g3 g4 hba s1 s2 s3 s4
    go_upto_region 14 with fail
    generalize wr.alloc _ = wa at *
    clear e0 e1 e2 e3 e4
    have heq := fun w' => equalRr w' (rk : Int) (rb : Int) (ro : Int) (rf : Int) (rx : Int)
    have hgd := gsRr
    have r0 := fun x => later_cell (HMx.out.cell 0 0 rfl rfl) x
    have r1 := fun x => later_cell (HMx.out.cell 0 1 rfl rfl) x
    have r2 := fun x => later_cell (HMx.out.cell 0 2 rfl rfl) x
    have r3 := fun x => later_cell (HMx.out.cell 0 3 rfl rfl) x
    have r4 := fun x => later_cell (HMx.out.cell 0 4 rfl rfl) x
    have q0 := fun x => later_cell G0.out x
    have q1 := fun x => later_cell G1.out x
    have q2 := fun x => later_cell G2.out x
    have q3 := fun x => later_cell G3.out x
    have q4 := fun x => later_cell G4.out x
    refine wp_region_seg (C := fun w' => ∃ x : Later (wa), w' = x.val) [.fl [0, 1, 2, 3, 4, 5, 6, 7, 8, 9, 10, 11, 12, 13, 14], .sq [15, 16] false, .fl [17, 19, 20, 21, 22], .sq [18] true, .sq [23, 24, 25] false] (by kernel_rfl) (by kernel_rfl) (by intro c a d v w h; cases d <;> exact h) ?_
    simp only [segs, picks, List.getElem?_cons_succ, List.getElem?_cons_zero]
    have hC1 := later_drew (wa)
    refine wpSeg_fl hC1 ?_
    repeat (first | go_big_quiet_step (fail) | quiet_step (fail))
    refine wpQuiet_nil ?_
    have HB9 := LH (HBa.out.trans ((later_below hC1).mono HBa.out.size))
    refine wpSeg_sq (fun K hK => ?_)
    go_wp2_with fail
    go_wp2_with fail
    refine hK _ _ (fun h => nomatch h) ?_
    clear hK K
    clear heq hgd
    refine wpSeg_fl hC1 ?_
    repeat (first | go_big_quiet_step (fail) | quiet_step (fail))
    refine wpQuiet_nil ?_
    clear r0 r1 r2 r3 r4 q0 q1 q2 q3 q4
    refine wpSeg_sq (fun K hK => ?_)
    go_wp2_with fail
    refine (KF.out _).mono ?_
    rintro e wb ⟨rfl, hb⟩
    have HBb := LH (HB9.out.trans (hb.mono HB9.out.size))
    have hC2 := later_step hC1 hb
    clear hb
    go_wp2_with fail
    refine hK _ _ (fun _ => hC2) ?_
    clear hK K
    refine wpSeg_last ?_
    go_wp2_with fail
    refine (RF.out _).mono ?_
    rintro e wd ⟨rfl, hb⟩
    have HBd := LH (HBb.out.trans (hb.mono HBb.out.size))
    clear hb
    go_wp2_with fail
    refine ⟨⟨i + 1, by omega, vint (by omega), HBd⟩, ?_⟩
    simp [intOf]; omega
  case rest =>
   have HB8 : Hid (Below w7.heap.size w7 wc) := hcut
   clear hcut
   generalize wc = w8 at *
   have HM8 := LH (HM7.out.later HB8.out)
   have HH8 := LH (HH7.out.later HB8.out)
   have HRA8 := LH (HRA7.out.below HB8.out (Nat.le_refl _))
   have HCr8 := LH (HCr7.out.below HB8.out (Nat.le_refl _))
   have HCu8 := LH (HCu7.out.below HB8.out (Nat.le_refl _))
   have c0 := HM8.out.cell 0 0 rfl rfl
   have hDl : D.toList.length = zeroD.size := by rw [Array.length_toList, hD8]; rfl
   clear HM7 HH7 HRA7 HCr7 HCu7 HB8 HC8 HC9 HRs HLr HRl
   go_wp2_with fail
   refine (KL.out _ HH8.out.at_.al).mono ?_
   rintro e w9 ⟨rfl, hb9⟩
   have HM9 := LH (HM8.out.later hb9)
   have HH9 := LH (HH8.out.later hb9)
   have HRA9 := LH (HRA8.out.below hb9 (Nat.le_refl _))
   have HCr9 := LH (HCr8.out.below hb9 (Nat.le_refl _))
   have HCu9 := LH (HCu8.out.below hb9 (Nat.le_refl _))
   clear hb9 c0 HM8 HH8 HRA8 HCr8 HCu8
   go_wp2_with (refine wpList_load_mem aggRd HM9.out 1 rfl rfl rfl rfl hDl ?_)
   refine (RL.out _ HRA9.out HCu9.out).mono ?_
   rintro e wa ⟨rfl, hba⟩
   have HMa := LH (HM9.out.later hba)
   have HHa := LH (HH9.out.later hba)
   have HRAa := LH (HRA9.out.below hba (Nat.le_refl _))
   have HCra := LH (HCr9.out.below hba (Nat.le_refl _))
   have HCua := LH (HCu9.out.below hba (Nat.le_refl _))
   clear hba HM9 HH9 HRA9 HCr9 HCu9 KL RL
   have hld : ∀ w', (∃ x : Later wa, w' = x.val) → ∀ i v, D.toList[i]? = some v → w'.cell? ⟨qd, 0 + i, none⟩ = some v := by
    rintro _ ⟨x, rfl⟩ i v hi
    rw [Nat.zero_add]
    exact later_cell (HMa.out.cell 1 i rfl hi) x
   have r0 := fun x => later_cell (HMa.out.cell 0 0 rfl rfl) x
   go_upto_region 18 with fail
   refine wp_region_seg (C := fun w' => ∃ x : Later (wa), w' = x.val) [.fl [0, 1], .sq [2, 3] false, .fl [4, 5], .sq [6, 7, 8] false, .fl [9, 10], .sq [11, 12, 13] false, .fl [14, 15, 17, 18, 19], .sq [16] true, .sq [20, 21, 22, 23] false] (by kernel_rfl) (by kernel_rfl) (by intro c a d v w h; cases d <;> exact h) ?_
   simp only [segs, picks, List.getElem?_cons_succ, List.getElem?_cons_zero]
   have hC1 := later_drew (wa)
   refine wpSeg_fl hC1 ?_
   repeat (first | go_big_quiet_step (fail) | quiet_step (fail))
   refine wpQuiet_nil ?_
   refine wpSeg_sq (fun K hK => ?_)
   go_wp2_with fail
   go_wp2_with fail
   refine hK _ _ (fun h => nomatch h) ?_
   clear hK K
   refine wpSeg_fl hC1 ?_
   repeat (first | go_big_quiet_step (fail) | quiet_step (fail))
   refine wpQuiet_nil ?_
   refine wpSeg_sq (fun K hK => ?_)
   go_wp2_with fail
   go_wp2_with fail
   refine hK _ _ (fun h => nomatch h) ?_
   clear hK K
   refine wpSeg_fl hC1 ?_
   repeat (first | go_big_quiet_step (fail) | quiet_step (fail))
   refine wpQuiet_nil ?_
   refine wpSeg_sq (fun K hK => ?_)
   go_wp2_with fail
   go_wp2_with fail
   refine hK _ _ (fun h => nomatch h) ?_
   clear hK K
   refine wpSeg_fl hC1 ?_
   repeat (first | (refine wpQuiet_load_arrw aggRd D hld hD8 (by simp [Region.wanted, yielded]) rfl rfl ?_) | go_big_quiet_step (fail) | quiet_step (fail))
   refine wpQuiet_nil ?_
   have HHb := LH (HHa.out.later (later_below hC1))
   have HRAb := LH (HRAa.out.below (later_below hC1) (Nat.le_refl _))
   have HCrb := LH (HCra.out.below (later_below hC1) (Nat.le_refl _))
   have HCub := LH (HCua.out.below (later_below hC1) (Nat.le_refl _))
   clear r0 hld HMa HHa HRAa HCra HCua
   generalize wa.drew = wb at *
   refine wpSeg_sq (fun K hK => ?_)
   go_wp2_with fail
   refine (KH.out _ HHb.out.at_.al).mono ?_
   rintro e wd ⟨rfl, hbd⟩
   have HHd := LH (HHb.out.later hbd)
   have HRAd := LH (HRAb.out.below hbd (Nat.le_refl _))
   have HCrd := LH (HCrb.out.below hbd (Nat.le_refl _))
   have HCud := LH (HCub.out.below hbd (Nat.le_refl _))
   have hC2 := later_step hC1 hbd
   clear hbd
   go_wp2_with fail
   refine hK _ _ (fun _ => hC2) ?_
   clear hK K
   refine wpSeg_last ?_
   go_wp2_with fail
   refine (RH.out _ HRAd.out HCrd.out HCud.out).mono ?_
   rintro e we ⟨rfl, hbe⟩
   have HFin := LH (HP.out _ (HB1.out.trans ((HHd.out.later hbe).below.mono HB1.out.size)))
   clear hbe
   go_wp2_with fail
   exact HFin.out
end Go.Proofs.YtbimcogdbafjpaaGreat
namespace Go.Proofs.YtbimcogdbafjpaaGreat
open Go.RowKit Go.ChangeShapes Go.WideShapes Go.Deep
theorem wf_bounds {x : Int} (h : (Lit.int .i64 x).wf = true) : -9223372036854775808 ≤ x ∧ x ≤ 9223372036854775807 := by
 simp [Lit.wf, IntKind.min, IntKind.max, IntKind.bits, IntKind.signed] at h
 omega
theorem list_of {α : Type} (P : Nat → α → Prop) : ∀ n, (∀ i, i < n → ∃ x, P i x) → ∃ l : List α, l.length = n ∧ ∀ i x, l[i]? = some x → P i x
 | 0, _ => ⟨[], rfl, by simp⟩
 | n + 1, h => by
  obtain ⟨l, hl, hp⟩ := list_of P n (fun i hi => h i (by omega))
  obtain ⟨x, hx⟩ := h n (by omega)
  refine ⟨l ++ [x], by simp [hl], fun i y hy => ?_⟩
  by_cases hi : i < l.length
  ·rw [List.getElem?_append_left hi] at hy; exact hp i y hy
  ·rw [List.getElem?_append_right (by omega)] at hy
   have h0 : i - l.length = 0 := by
    have := (List.getElem?_eq_some_iff.1 hy).1; simp at this; omega
   rw [h0] at hy
   simp at hy
   subst hy
   rw [show i = n by omega]; exact hx
section
variable {H : Type} {enc : TypeId × Value → H} {P : Program} {w : World} {base : Nat} {spare : Nat → Bool} {held : Bool}
theorem ints_struct {e T : TypeId} {fs : Array Field} {n fuel : Nat} {us : List Value} {z : DataW H × List MemPlace} (he : P.underlying e = some (.struct fs)) (hT : P.underlying T = some (.int .i64)) (hc : P.cellsOf T = 1)
  (hF : ((List.range n).all fun j => match fs[j]? with | some f => f.type == T && f.offset == j | none => false) = true) (hlen : us.length = n) (hz : DataW.trod enc P w base spare held fuel e us = some z) :
  ∃ zs : List Int, zs.length = n ∧ us = zs.map (Value.int .i64) ∧ ∀ x ∈ zs, -9223372036854775808 ≤ x ∧ x ≤ 9223372036854775807 := by
 obtain ⟨ys, n', _, _, _, hyl, hf⟩ := DataW.trod_struct he hz
 have each : ∀ j, j < n → ∃ x : Int, us[j]? = some (.int .i64 x) ∧ (-9223372036854775808 ≤ x ∧ x ≤ 9223372036854775807) := by
  intro j hj
  have h1 := List.all_eq_true.1 hF j (List.mem_range.2 hj)
  cases hfj : fs[j]? with
  | none => rw [hfj] at h1; cases h1
  | some f =>
   rw [hfj] at h1
   simp only [Bool.and_eq_true, beq_iff_eq] at h1
   have h2 := hf j f hfj
   rw [h1.1, h1.2, hc] at h2
   have hjs : j < ys.length := by rw [hyl]; exact (Array.getElem?_eq_some_iff.1 hfj).1
   rw [List.getElem?_eq_getElem hjs] at h2
   have hju : j < us.length := by omega
   have h3 : (us.drop j).take 1 = [us[j]] := by rw [List.drop_eq_getElem_cons hju]; rfl
   rw [h3] at h2
   obtain ⟨x, hx, _, hw⟩ := DataW.trod_int hT h2
   have hx' : us[j] = .int .i64 x := by simpa using hx
   exact ⟨x, by rw [List.getElem?_eq_getElem hju, hx'], wf_bounds hw⟩
 obtain ⟨zs, hl, hp⟩ := list_of (fun j x => us[j]? = some (.int .i64 x) ∧ (-9223372036854775808 ≤ x ∧ x ≤ 9223372036854775807)) n each
 refine ⟨zs, hl, ?_, fun x hx => ?_⟩
 ·apply List.ext_getElem?
  intro i
  by_cases hi : i < zs.length
  ·rw [(hp i _ (List.getElem?_eq_getElem hi)).1, List.getElem?_map, List.getElem?_eq_getElem hi]; rfl
  ·rw [List.getElem?_eq_none (by omega), List.getElem?_eq_none (by simp; omega)]
 ·obtain ⟨i, hi, rfl⟩ := List.mem_iff_getElem.1 hx
  exact (hp i _ (List.getElem?_eq_getElem hi)).2
theorem recs_ints_read {α : Type} {f : α → List Value} {n : Nat} (hfl : ∀ x, (f x).length = n) (hn : 0 < n) (d : α) (mk : List Int → α) (hmk : ∀ zs : List Int, zs.length = n → f (mk zs) = zs.map (Value.int .i64))
  {t e T : TypeId} {fs : Array Field} {fuel : Nat} {v : Value} {y : DataW H × List MemPlace} (ht : P.underlying t = some (.slice e)) (he : P.underlying e = some (.struct fs)) (hT : P.underlying T = some (.int .i64)) (hC : P.cellsOf e = n) (hc : P.cellsOf T = 1)
  (hF : ((List.range n).all fun j => match fs[j]? with | some f => f.type == T && f.offset == j | none => false) = true) (h : DataW.trod enc P w base spare held fuel t [v] = some y) :
  ∃ (a : Option Addr) (len cap : Nat) (l : List α), v = .slice a len cap ∧ l.length = len ∧ Cells w a (recs f l) ∧ (∀ o ∈ l, ∃ zs : List Int, o = mk zs ∧ zs.length = n ∧ ∀ x ∈ zs, -9223372036854775808 ≤ x ∧ x ≤ 9223372036854775807) ∧ len ≤ maxLen := by
 obtain ⟨a, len, cap, m, rfl, hl, hm, hcs⟩ := elems_read ht hC hn h
 rcases hcs with rfl | ⟨b, off, rfl, hcs⟩
 ·exact ⟨a, 0, cap, [], rfl, rfl, Cells.nil _ _, by simp, Nat.zero_le _⟩
 ·have each : ∀ i, i < len → ∃ x : α, (∀ r u, (f x)[r]? = some u → w.cell? ⟨b, off + i * n + r, none⟩ = some u) ∧ ∃ zs : List Int, x = mk zs ∧ zs.length = n ∧ ∀ x ∈ zs, -9223372036854775808 ≤ x ∧ x ≤ 9223372036854775807 := by
   intro i hi
   obtain ⟨us, z, hlen, hat, hz⟩ := hcs i hi
   obtain ⟨zs, h1, h2, h3⟩ := ints_struct he hT hc hF hlen hz
   exact ⟨mk zs, fun r u hr => by rw [hmk zs h1, ← h2] at hr; exact hat r u hr, zs, rfl, h1, h3⟩
  obtain ⟨l, hll, hcl, hok⟩ := recs_of hfl hn d each
  exact ⟨_, len, cap, l, rfl, hll, hcl, hok, by omega⟩
end
end Go.Proofs.YtbimcogdbafjpaaGreat
