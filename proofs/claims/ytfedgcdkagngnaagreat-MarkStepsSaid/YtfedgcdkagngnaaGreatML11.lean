/- Parts of the proof, one behind the other: Sb, Js, Zh, Zk, Ga, Gb, Wt, Wr, Wv, Arr, Ri. -/
import Derived.Test.YtfedgcdkagngnaaGreatML10
import Derived.Shelf.Strings.Builder1
import Derived.Test.YtfedgcdkagngnaaGreatProg
import Derived.OpenShut
import Derived.Lib.SmallJoins

/- laid -/
/-
  DERIVED: THE SHELF's CONTRACTS AT THIS DUMP, IN PLAIN WORDS (tools/lay-plain.mjs out of 'TmpShelf.lean', which tools/lay-shelf.mjs wrote): THE SAME DECLARATIONS UNDER THE SAME NAMES: 'import', 'namespace', 'open', 'def', 'theorem' AND NOTHING ELSE: no command of the shelf's: FOR A HAND-IN. Each laying: the table of numbers ('.._ren') and one theorem, a field a fact of the dump's own or the kernel's comparison; each contract: ONE APPLICATION.
-/
namespace Go.Proofs
open Go.Shelf
end Go.Proofs

/- strings.Builder's contracts, laid at this program. -/
namespace Go.Proofs.YtfedgcdkagngnaaGreat
open Go.RowKit Go.Shelf
set_option linter.unusedVariables false

end Go.Proofs.YtfedgcdkagngnaaGreat

/- strings.Builder: WriteByte, laid at this program; builders while other blocks are made. -/
namespace Go.Proofs.YtfedgcdkagngnaaGreat
open Go.RowKit Go.Shelf
set_option linter.unusedVariables false

end Go.Proofs.YtfedgcdkagngnaaGreat

/- dump: sign, Map; the document's. -/
namespace Go.Proofs.YtfedgcdkagngnaaGreat
open Go.RowKit
set_option linter.unusedVariables false

/-- Is a line's end behind a block? -/
def nlB (wd : Int) (b B : Nat) : Prop := 0 < wd ∧ (b : Int) % wd = 0 ∧ (b : Int) < (B : Int) - 1
instance (wd : Int) (b B : Nat) : Decidable (nlB wd b B) := by unfold nlB; infer_instance
end Go.Proofs.YtfedgcdkagngnaaGreat

/- dump: Object. -/
namespace Go.Proofs.YtfedgcdkagngnaaGreat
open Go.RowKit
set_option linter.unusedVariables false
open Go.Lib (decDigits itoa nDigits)

end Go.Proofs.YtfedgcdkagngnaaGreat

/- ref33: datas, Object. -/
namespace Go.Proofs.YtfedgcdkagngnaaGreat
open Go.RowKit
set_option linter.unusedVariables false
open Go.Lib (decDigits itoa nDigits)

end Go.Proofs.YtfedgcdkagngnaaGreat

/- ref22: Reach. -/
namespace Go.Proofs.YtfedgcdkagngnaaGreat
open Go.RowKit Go.Maps
set_option linter.unusedVariables false

theorem rptrs_len (S : Dev) (a : Int) : ptrL S a (if (headN S a).code = 0 then (headN S a).p.toNat else 0) = ptrsD S a := by
  unfold ptrsD
  split
  · rfl
  · rfl
theorem rptrs22_any {w : World} {v : Value} {S : Dev} {m : Nat} (hm : S.dirty.length = m) (h : RAt w v m S.ref) {N : Nat} (hf : S.fit N) (a : Int) :
    Calls Tryz.prog 40 #[v, .int .i64 a] w fun e w' => ∃ av c, e = .returned (.slice av (ptrsD S a).length c) ∧ Cells w' av ((ptrsD S a).map vi) ∧ Below w.heap.size w w' := by
  refine (rptrs15_any hm h hf a).mono ?_
  rintro e w' ⟨v', rfl, ho, hb⟩
  rw [rptrs_len] at ho
  have hl : (ptrsD S a).length = (if (headN S a).code = 0 then (headN S a).p.toNat else 0) := by rw [← rptrs_len, ptrL_length]
  rw [← hl] at ho
  obtain ⟨av, c, rfl, _, _⟩ := owned_form ho
  exact ⟨av, c, rfl, Cells.owned ho, hb⟩
end Go.Proofs.YtfedgcdkagngnaaGreat

/- Plain: what a step of a marker shows of colours. -/
namespace Go.Proofs.YtfedgcdkagngnaaGreat
set_option linter.unusedVariables false

section
variable {U : List Bool} {P : Nat → List Nat} {M M' : Mk} {b : Bool}
theorem Mk.colour_of (M : Mk) (x : Nat) : M.colour x = if M.sc.getD x false then 2 else if M.ms.getD x false then 1 else 0 := rfl
theorem Stepped.colours (h : MkOk U M) (hs : Stepped U P M b M') (x : Nat) : M.colour x ≤ M'.colour x ∧ ¬ (M.colour x = 0 ∧ M'.colour x = 2) ∧ (b = false → M'.colour x = M.colour x) := by
  obtain ⟨x0, _, h1, h2, h3, h4⟩ := Stepped.black h hs
  have h1 := h1 x
  have h2 := h2 x
  have h3 := h3 x
  refine ⟨?_, ?_, fun e => by rw [Mk.colour_of, Mk.colour_of, (h4 e).1, (h4 e).2]⟩
  · rw [Mk.colour_of M, Mk.colour_of M']
    cases hs0 : M.sc.getD x false with
    | true => rw [h2 hs0]; simp
    | false =>
      cases hm0 : M.ms.getD x false with
      | true => rw [h3 hm0]; simp; split <;> omega
      | false => simp
  · rintro ⟨c0, c2⟩
    rcases h1 ((M'.colour_black x).1 c2) with c | ⟨_, _, c, _⟩
    · have := (M.colour_black x).2 c; omega
    · omega
theorem Stepped.ptrs (h : MkOk U M) (hs : Stepped U P M b M') {x : Nat} (c1 : M.colour x = 1) (c2 : M'.colour x = 2) : ∀ y ∈ P x, U.getD y false = true → M'.colour y ≠ 0 := by
  obtain ⟨x0, _, h1, _⟩ := Stepped.black h hs
  intro y hy hu h0
  have hms := (M'.colour_white y (Stepped.ok h hs)).1 h0
  rcases h1 x ((M'.colour_black x).1 c2) with c | ⟨_, _, _, c⟩
  · have := (M.colour_black x).2 c; omega
  · rw [c y hy hu] at hms; cases hms
/-- Which are black anew. -/
def newly (M M' : Mk) (x : Nat) : Bool := decide (M'.colour x = 2) && decide (M.colour x = 1)
theorem Stepped.one (h : MkOk U M) (hs : Stepped U P M b M') {xs : List Nat} (hn : xs.Nodup) : (xs.filter (newly M M')).length ≤ 1 := by
  obtain ⟨x0, _, h1, _⟩ := Stepped.black h hs
  have key : ∀ x ∈ xs.filter (newly M M'), x = x0 := fun x hx => by
    have hx2 := (List.mem_filter.1 hx).2
    unfold newly at hx2
    simp only [Bool.and_eq_true, decide_eq_true_eq] at hx2
    rcases h1 x ((M'.colour_black x).1 hx2.1) with c | ⟨c, _⟩
    · have := (M.colour_black x).2 c; omega
    · exact c
  have hn2 := hn.filter (newly M M')
  generalize xs.filter (newly M M') = l at *
  match l, key, hn2 with
  | [], _, _ => simp
  | [a], _, _ => simp
  | a :: c :: r, key, hn2 =>
    have h1 := key a (by simp)
    have h2 := key c (by simp)
    exact absurd (h1.trans h2.symm) ((List.pairwise_cons.1 hn2).1 c (by simp))
theorem newly_take (M M' : Mk) (xs : List Nat) (j x : Nat) (hx : xs[j]? = some x) : ((xs.take (j + 1)).filter (newly M M')).length = ((xs.take j).filter (newly M M')).length + if newly M M' x then 1 else 0 := by
  have h1 := (List.getElem?_eq_some_iff.1 hx).1
  rw [List.take_succ_eq_append_getElem h1, (List.getElem?_eq_some_iff.1 hx).2, List.filter_append, List.length_append]
  congr 1
  simp only [List.filter_cons, List.filter_nil]
  split <;> rfl
theorem newly_le (M M' : Mk) (xs : List Nat) (j : Nat) : ((xs.take j).filter (newly M M')).length ≤ (xs.filter (newly M M')).length :=
  ((List.take_sublist j xs).filter _).length_le
end
end Go.Proofs.YtfedgcdkagngnaaGreat

/- law22: MarkSteps. -/
namespace Go.Proofs.YtfedgcdkagngnaaGreat
open Go.RowKit Go.Maps
set_option linter.unusedVariables false

section
variable {w wr w' : World} {Q : List Nat} {A : AF} {n N : Nat} {m : Al} {v : Value} {xs : List Nat} {K : MkF} {M M' : Mk}
/-- What the marker's calls leave, of other blocks too. -/
theorem HMk.go2 (h : HMk w wr Q A n N m v xs K M) {Pb : Nat → Prop} (hf : ∀ b, Pb b → b < wr.heap.size ∧ b ∉ K.list) (hg : MAGo wr w' A n 4 m K M') :
    ∃ v', HMk w w' Q A n N m v xs (K.re v') M' ∧ Off Q wr w' ∧ Touch K.list wr w' ∧ ∀ b, Pb b → b < w'.heap.size ∧ b ∉ (K.re v').list := by
  obtain ⟨v', h1, h2, h3⟩ := hg
  have hm' := h1.mr.mem
  have hp' := h.hp.own (h2.wide (fun b hb => List.mem_append_right _ hb)) h.lo
  have hsz := h.hp.below.size
  have key : ∀ k ∈ (K.re v').list, k ∈ K.list ∨ wr.heap.size ≤ k := fun k hk => by
    rcases MkF.list_re hk with c | c
    · exact .inl (by simp [MkF.list, c])
    · rcases h3 k c with c | c
      · exact .inl (by simp [MkF.list, c])
      · exact .inr c
  refine ⟨v', ⟨⟨hp'.at_, hp'.ok, hp'.steps, fun k hk => ⟨(hp'.new k hk).1, fun hq => ?_⟩, fun b hb => ⟨(hp'.newv b hb).1, fun hq => ?_⟩, fun k hk => ?_, hp'.below⟩, h1.mr, fun k hk => ?_, fun k hk hm => ?_, h1.lm, h1.ls⟩, ⟨K.list, h2, h.qk⟩, h2, fun b hb => ?_⟩
  · rcases List.mem_append.1 hq with c | c
    · exact (h.hp.new k hk).2 (List.mem_append_left _ c)
    · exact h1.ap k hk c
  · rcases List.mem_append.1 hq with c | c
    · exact (h.hp.newv b hb).2 (List.mem_append_left _ c)
    · rcases key b c with c | c
      · exact (h.hp.newv b hb).2 (List.mem_append_right _ c)
      · have := h.hp.at_.own.lt b hb; omega
  · rcases List.mem_append.1 hk with c | c
    · exact hp'.qlt k (List.mem_append_left _ c)
    · exact hm' k c
  · rcases List.mem_append.1 hk with c | c
    · exact h.lo k (List.mem_append_left _ c)
    · rcases key k c with c | c
      · exact h.lo k (List.mem_append_right _ c)
      · omega
  · rcases key k hm with c | c
    · exact h.qk k hk c
    · have := h.hp.qlt k (List.mem_append_left _ hk); omega
  · obtain ⟨f1, f2⟩ := hf b hb
    refine ⟨Nat.lt_of_lt_of_le f1 h2.size, fun hm => ?_⟩
    rcases key b hm with c | c
    · exact f2 c
    · omega
end
/-- The colours that were, so many of them noted. -/
def wasL (M : Mk) (xs : List Nat) (l j : Nat) : List Value := (xs.take j).map (fun x => Value.int .i64 (M.colour x : Nat)) ++ List.replicate (l - j) (.int .i64 0)
theorem wasL_zero (M : Mk) (xs : List Nat) (l : Nat) : wasL M xs l 0 = List.replicate l (.int .i64 0) := by simp [wasL]
theorem wasL_len (M : Mk) (xs : List Nat) (l j : Nat) (hl : l = xs.length) (hj : j ≤ l) : (wasL M xs l j).length = l := by simp [wasL]; omega
theorem wasL_set (M : Mk) (xs : List Nat) (l j x : Nat) (hl : l = xs.length) (hx : xs[j]? = some x) : (wasL M xs l j).set j (.int .i64 (M.colour x : Nat)) = wasL M xs l (j + 1) := by
  have h1 := (List.getElem?_eq_some_iff.1 hx).1
  have e1 : ((xs.take j).map (fun x => Value.int .i64 (M.colour x : Nat))).length = j := by simp; omega
  unfold wasL
  rw [List.take_succ_eq_append_getElem h1, (List.getElem?_eq_some_iff.1 hx).2, List.map_append, List.set_append_right _ _ (by omega), e1, Nat.sub_self, show l - j = (l - (j + 1)) + 1 by omega, List.replicate_succ, List.set_cons_zero]
  simp
theorem wasL_at (M : Mk) (xs : List Nat) (l j x : Nat) (hl : l = xs.length) (hx : xs[j]? = some x) : (wasL M xs l l)[j]? = some (.int .i64 (M.colour x : Nat)) := by
  have h1 := (List.getElem?_eq_some_iff.1 hx).1
  unfold wasL
  rw [hl, List.take_length, Nat.sub_self, List.replicate_zero, List.append_nil, List.getElem?_map, hx]; rfl
theorem wasL_mid (M : Mk) (xs : List Nat) (l j : Nat) (hl : l = xs.length) (hj : j < l) : (wasL M xs l j)[j]? = some (.int .i64 0) := by
  have e1 : ((xs.take j).map (fun x => Value.int .i64 (M.colour x : Nat))).length = j := by simp; omega
  unfold wasL
  rw [List.getElem?_append_right (by omega), e1, Nat.sub_self, List.getElem?_replicate, if_pos (by omega)]

/-- Where the document's device lies: away from the marker. -/
def FarD (wr : World) (md : Nat) (v : Value) (L : List Nat) : Prop := md = 0 ∨ ∀ b, RIn v b → b < wr.heap.size ∧ b ∉ L

set_option maxHeartbeats 8000000 in
set_option maxRecDepth 100000 in
theorem markSteps_any (a : Option Addr) (mm cap : Nat) (s : List Op20) (hm : s.length = mm) (a3 : Option Addr) (zn cap3 : Nat) (z : List Int) (hz : z.length = zn) (most : Int) (hmo1 : -128 ≤ most) (hmo : most ≤ 127) (w : World)
    (hcs : Cells w a (recs Op20.cs s)) (hcz : Cells w a3 (z.map (Value.int .i64))) (hmm : mm ≤ maxLen) (hzn : zn ≤ maxLen) :
    Calls Tryz.prog 6 #[.slice a mm cap, .int .i8 most, .slice a3 zn cap3] w (Gives (.bool true) w) := by
  unfold maxLen at hzn
  have HM := Lib.hid hm
  have HCS := Lib.hid hcs
  have HMM := Lib.hid hmm
  have HCZ := Lib.hid hcz
  have HZ := Lib.hid hz
  clear hm hcs hmm hcz hz
  have HP : Hid (∀ w', Below w.heap.size w w' → Gives (.bool true) w (.returned (.bool true)) w') := Lib.hid (fun w' h => ⟨rfl, h⟩)
  generalize Gives (.bool true) w = Post at *
  go_enter Tryz.func6, Tryz.ntmps6
  go_wp2_with fail
  refine (awake22_any _).mono ?_
  rintro e w1 ⟨rfl, hb1⟩
  have HB1 := Lib.hid hb1
  clear hb1
  go_wp2_with fail
  refine (made22_any a mm cap s HM.out w1 (HCS.out.below HB1.out (Nat.le_refl _)) HMM.out).mono ?_
  rintro e w2 ⟨A, n, m, v, xs, rfl, hh, hn, hf, _, _⟩
  obtain ⟨sa, sc, rfl, _⟩ := hh.at_.own.cells
  have HFu := Lib.hid hf
  have HMb := Lib.hid (Mem.one w2 #[valloc A, vdev A.X.F, .slice sa xs.length sc] 28)
  have HHp : Hid (Hp w1 (w2.alloc (.cells #[valloc A, vdev A.X.F, .slice sa xs.length sc] 28)) [w2.heap.size] A n 4 25000000 m (.slice sa xs.length sc) xs) := Lib.hid (hh.more (fun k hk => by simp at hk; subst hk; exact .inr ⟨Nat.le_refl _, by simp⟩) (below_alloc _ _))
  have hq2 : Hid (w1.heap.size ≤ w2.heap.size) := Lib.hid hh.below.size
  obtain ⟨l, hl⟩ : ∃ l, l = xs.length := ⟨_, rfl⟩
  rw [← hl] at HMb HHp ⊢
  have HL := Lib.hid hl
  have hl2 : l ≤ 2048 := by rw [hl]; exact hh.ok.len
  clear hh hn hf hl
  go_upto_region 4 with fail
  generalize w2.alloc _ = w3 at *
  obtain ⟨q, hq⟩ : ∃ q, q = w2.heap.size := ⟨_, rfl⟩
  rw [← hq] at HMb HHp hq2 ⊢
  have HQ := Lib.hid hq
  clear hq
  have c0 := HMb.out.cell 0 0 rfl rfl
  go_wp2_with fail
  refine (mnew_any HHp.out.at_.al (by rw [HHp.out.ok.ok.lenU]; omega) most (by omega)).mono ?_
  rintro e w4 ⟨K, rfl, hm4, hb4, hk4⟩
  have HH4 : Hid (HMk w1 w4 [q] A n 25000000 m (.slice sa l sc) xs K (Mk.new m.used.length most.toNat)) := Lib.hid (HMk.new HHp.out (by intro k hk; simp at hk; subst hk; exact hq2.out) hb4 hm4 hk4)
  have HMb4 := Lib.hid (HMb.out.r.later hb4)
  have HBa0 := Lib.hid (Bar22.new m most.toNat)
  have HMs0 : Hid ((Mk.new m.used.length most.toNat).most ≤ 127) := Lib.hid (show most.toNat ≤ 127 by omega)
  clear hm4 hb4 hk4 c0 hq2 HMb HHp
  go_upto_block 0 with fail
  go_cut [] (fun wc => ∃ (v' : Value) (M : Mk), Hid (HMk w1 wc [q] A n 25000000 m (.slice sa l sc) xs (K.re v') M) ∧ Hid (MemR w2.heap.size wc [⟨q, 28, [valloc A, vdev A.X.F, .slice sa l sc], true⟩]) ∧ Hid (Bar22 m M 10) ∧ Hid (M.most ≤ 127))
  case first =>
    go_wp2_with fail
    go_loopw [10] (fun i wr => ∃ (k : Nat) (v' : Value) (M : Mk), k ≤ zn ∧ k ≤ 10 ∧ i = .int .i64 (k : Int) ∧ Hid (HMk w1 wr [q] A n 25000000 m (.slice sa l sc) xs (K.re v') M) ∧ Hid (MemR w2.heap.size wr [⟨q, 28, [valloc A, vdev A.X.F, .slice sa l sc], true⟩]) ∧ Hid (Bar22 m M k) ∧ Hid (M.most ≤ 127)) (fun i _ => 10 - (intOf i).toNat)
    case atStart => exact ⟨0, K.v, _, Nat.zero_le _, Nat.zero_le _, rfl, HH4, HMb4, HBa0, HMs0⟩
    case round =>
      clear HH4 HMb4 HBa0 HMs0
      obtain ⟨k, v', M, hkt, hk10, rfl, HH, HMr, HBa, HMs⟩ := hrel
      by_cases hlt : k < zn ∧ k < 10
      · obtain ⟨h1, h2⟩ := hlt
        have h1' : (k : Int) < (zn : Int) := by omega
        have h2' : (k : Int) < 10 := by omega
        have hcz := HCZ.out.below (HB1.out.trans (HH.out.below.mono HB1.out.size)) (Nat.le_refl _)
        obtain ⟨b1, o1, rfl, _, hcx⟩ := hcz.at (i := k) (by rw [List.length_map, HZ.out]; exact h1)
        obtain ⟨zi, hzi⟩ : ∃ zi, z[k]? = some zi := ⟨_, List.getElem?_eq_getElem (by rw [HZ.out]; exact h1)⟩
        have cz := hcx k (.int .i64 zi) (by rw [List.getElem?_map, hzi]; rfl)
        have c0 := HMr.out.cell 0 0 rfl rfl
        have c1 := HMr.out.cell 0 1 rfl rfl
        have c2 := HMr.out.cell 0 2 rfl rfl
        have r0 := fun x => later_cell c0 x
        have r1 := fun x => later_cell c1 x
        have r2 := fun x => later_cell c2 x
        have r3 := fun x => later_cell cz x
        clear hcz hcx hzi
        go_upto_region 12 with fail
        refine wp_region_seg (C := fun w' => ∃ x : Later (wr), w' = x.val) [.fl [0, 1, 2, 3, 4, 5], .sq [6] true, .sq [7] false] (by kernel_rfl) (by kernel_rfl) (by intro c a d v w h; cases d <;> exact h) ?_
        simp only [segs, picks, List.getElem?_cons_succ, List.getElem?_cons_zero]
        have hC1 := later_drew (wr)
        refine wpSeg_fl hC1 ?_
        repeat (first | go_big_quiet_step (fail) | quiet_step (fail))
        refine wpQuiet_nil ?_
        have HH6 := Lib.hid (HH.out.later (later_below hC1))
        have HMr6 := Lib.hid (HMr.out.later (later_below hC1))
        clear r0 r1 r2 r3 c0 c1 c2 cz HH HMr
        generalize wr.drew = w6 at *
        refine wpSeg_sq (fun K hK => ?_)
        go_wp2_with fail
        refine (wpick_any _ _ _ xs HH6.out.hp.at_.own (by have := HH6.out.xlen; omega) zi).mono ?_
        rintro e w7 ⟨rfl, hb7⟩
        have HH7 := Lib.hid (HH6.out.later hb7)
        have HMr7 := Lib.hid (HMr6.out.later hb7)
        have hC2 := later_step hC1 hb7
        generalize pickN xs zi = x at *
        clear hb7 HH6 HMr6
        go_wp2_with fail
        refine hK _ _ (fun _ => hC2) ?_
        clear hK K
        have HSh := Lib.hid (mshade_any HH7.out.ma (show M.miss ≤ 900000 ∧ M.st.length ≤ 900000 by have h1 := HBa.out.fits.miss; have h2 := HBa.out.fits.st; have h3 := HMs.out; omega) x)
        change Hid (Calls Tryz.prog 34 #[.pointer (some ⟨K.p, 0, none⟩), .int .i64 (x : Int)] w7 _) at HSh
        generalize hfx : M.fresh m.used x = fx at *
        unfold ShadePost at HSh
        rw [hfx] at HSh
        clear hfx
        refine wpSeg_last ?_
        go_wp2_with fail
        refine HSh.out.mono ?_
        rintro e w8 ⟨rfl, hg8⟩
        obtain ⟨v2, hh8, ho8⟩ := HH7.out.go hg8
        have HH8 := Lib.hid hh8
        have HMr8 := Lib.hid (HMr7.out.off ho8 (by simp))
        have HMs8 : Hid ((M.shade m.used x).most ≤ 127) := Lib.hid (by rw [Mk.shade_most]; exact HMs.out)
        clear hg8 hh8 ho8
        go_wp2_with fail
        refine ⟨⟨k + 1, v2, _, by omega, by omega, vint (by omega), HH8, HMr8, Lib.hid (HBa.out.shade x), HMs8⟩, ?_⟩
        simp [intOf]; omega
      · have hor : (k : Int) = (zn : Int) ∨ ((k : Int) < (zn : Int) ∧ (k : Int) = 10) := by omega
        have HTail : Hid (∃ (v' : Value) (M : Mk), Hid (HMk w1 wr [q] A n 25000000 m (.slice sa l sc) xs (K.re v') M) ∧ Hid (MemR w2.heap.size wr [⟨q, 28, [valloc A, vdev A.X.F, .slice sa l sc], true⟩]) ∧ Hid (Bar22 m M 10) ∧ Hid (M.most ≤ 127)) := Lib.hid ⟨v', M, HH, HMr, Lib.hid ⟨HBa.out.ok, HBa.out.cover, HBa.out.bar, HBa.out.fits.mono hk10⟩, HMs⟩
        clear HH HMr HBa HMs hlt
        rcases hor with h1 | ⟨h1, h2⟩
        · have hlt' : decide ((k : Int) < (zn : Int)) = false := by simp; omega
          go_wp2_with fail
          go_meet
          exact HTail.out
        · have hlt' : decide ((k : Int) < 10) = false := by simp; omega
          go_wp2_with fail
          go_meet
          exact HTail.out
  case rest =>
    clear HH4 HMb4 HBa0 HMs0
    obtain ⟨v0, M0, HH0, HMr0, HBa0, HMs0⟩ := hcut
    have HLc : Hid (m.bm.dev.cache.length = 2048) := Lib.hid HH0.out.hp.ok.ok.len
    have HWf := Lib.hid HH0.out.hp.at_.al.man.dev.wf
    have c0 := HMr0.out.cell 0 0 rfl rfl
    have c1 := HMr0.out.cell 0 1 rfl rfl
    have c2 := HMr0.out.cell 0 2 rfl rfl
    go_wp2_with fail
    refine (wnow_any HH0.out.hp.at_.al.man.dev _ _ (by rw [HLc.out]; omega)).mono ?_
    rintro e w5 ⟨dv, rfl, hr, hlo, hb5⟩
    obtain ⟨D, rfl⟩ := hr.agg
    obtain ⟨hD8, hD1⟩ := hr.arr
    have HRA5 := Lib.hid hr
    have HKm := Lib.hid HH0.out.mr.mem
    have HLo := Lib.hid hlo
    have HRhi := Lib.hid hr.old
    have HH5 := Lib.hid (HH0.out.later hb5)
    have HMr5 := Lib.hid (HMr0.out.later hb5)
    have hba := below_alloc w5 (.cells zeroD 34)
    have HMr6 := Lib.hid (HMr5.out.alloc zeroD 34)
    have HRA6 := Lib.hid (HRA5.out.below hba (Nat.le_refl _))
    have HH6 : Hid (HMk w1 (w5.alloc (.cells zeroD 34)) [q, w5.heap.size] A n 25000000 m (.slice sa l sc) xs (K.re v0) M0) := Lib.hid (HH5.out.more (fun k hk => by
      simp only [List.mem_cons, List.not_mem_nil, or_false] at hk
      rcases hk with rfl | rfl
      · exact .inl (by simp)
      · exact .inr (by simp)) hba)
    have HNe : Hid (m.bm.dev.dirty.length = 0 ∨ ∀ b, RIn (.agg D) b → b ∉ [w5.heap.size]) := Lib.hid (HRhi.out.imp id (fun h b hb hm => by simp at hm; have h1 := h b hb; omega))
    clear hr hlo hb5 hba c0 c1 c2 HH0 HMr0
    go_upto_block 2 with (refine wpList_store_r aggRd HMr6.out 1 rfl rfl rfl rfl rfl hD8 hD8.symm hD1 ?_; intro w7 h7 ht7; have H7 := Lib.hid h7; have HT7 := Lib.hid ht7; clear h7 ht7)
    have HRA7 := Lib.hid (HRA6.out.touch HT7.out HNe.out)
    have HH7 := Lib.hid (HH6.out.own (HT7.out.wide (by simp)))
    have HFd : Hid (FarD w7 m.bm.dev.dirty.length (.agg D) (K.re v0).list) := Lib.hid (HRhi.out.imp id (fun h b hb => ⟨Nat.lt_of_lt_of_le (h b hb) (Nat.le_trans (below_alloc w5 (.cells zeroD 34)).size HT7.out.size), fun hm => (by
      have h1 := HKm.out b hm
      have h2 := HLo.out b hb
      omega)⟩))
    obtain ⟨g, hg⟩ : ∃ g, g = w5.heap.size := ⟨_, rfl⟩
    rw [← hg] at H7 HH7 ⊢
    have HLx : Hid (∀ M' : Mk, MkOk m.used M' → M'.sc.count true ≤ l) := Lib.hid (fun M' h => by
      rw [HL.out]
      exact count_in_le HH7.out.hp.ok.nd (fun x hx => HFu.out x (h.mu x (h.sm x hx))))
    have HPl : Hid (∀ x, (ptrsO m x).length ≤ 64) := Lib.hid (fun x => ptrsD_len HH7.out.hp.at_.al.man.dev.small _)
    have HMr7 : Hid (MemR w2.heap.size w7 [⟨q, 28, [valloc A, vdev A.X.F, .slice sa l sc], true⟩, ⟨g, 34, D.toList, true⟩]) := H7
    have HIv0 : Hid (MkOk m.used M0 ∧ M0.Cover ∧ M0.Fits (10 + 64 * 0) ∧ M0.left l + 0 ≤ 2 * l + 1) := Lib.hid ⟨HBa0.out.ok, HBa0.out.cover, HBa0.out.fits.mono (by omega), (by unfold Mk.left; split <;> omega)⟩
    clear hg HRhi HKm HLo HH5 HMr5 HMr6 HRA6 HNe HT7 H7 HH6 HBa0 HRA5
    go_wp2_with fail
    go_loopw [12] (fun i wr => ∃ (k : Nat) (v' : Value) (M : Mk), i = .int .i64 (k : Int) ∧ k ≤ 2 * l + 1 ∧ Hid (HMk w1 wr [q, g] A n 25000000 m (.slice sa l sc) xs (K.re v') M) ∧ Hid (MemR w2.heap.size wr [⟨q, 28, [valloc A, vdev A.X.F, .slice sa l sc], true⟩, ⟨g, 34, D.toList, true⟩]) ∧ Hid (RAt wr (.agg D) m.bm.dev.dirty.length (nowD m.bm.dev).ref) ∧ Hid (FarD wr m.bm.dev.dirty.length (.agg D) (K.re v').list) ∧ Hid (MkOk m.used M ∧ M.Cover ∧ M.Fits (10 + 64 * k) ∧ M.left l + k ≤ 2 * l + 1) ∧ Hid (M.most ≤ 127)) (fun i _ => 2 * l + 2 - (intOf i).toNat)
    case atStart => exact ⟨0, v0, M0, rfl, by omega, HH7, HMr7, HRA7, HFd, HIv0, HMs0⟩
    case round =>
      clear HH7 HMr7 HRA7 HFd HIv0 HMs0
      obtain ⟨k, v', M, rfl, hk2, HH, HMr, HRA, HFd, HIv, HMs⟩ := hrel
      have c2 := HMr.out.cell 0 2 rfl rfl
      have hl9 : l < 1000000000000 := by omega
      go_upto_region 18 with (at_make; refine wpList_make_len elInt wr.heap.size l rfl rfl rfl hl9 (by decide) (Nat.le_refl _) rfl rfl rfl rfl ?_; intro w8 hown hgrow; have HRw : Hid (RowAt w8 wr.heap.size 3 (List.replicate l (.int .i64 0))) := Lib.hid (owned_row hown); have HBw := Lib.hid (below_grown hgrow (Nat.le_refl _)); clear hown hgrow)
      obtain ⟨gw, hgw⟩ : ∃ gw, gw = wr.heap.size := ⟨_, rfl⟩
      have HRb : Hid (m.bm.dev.dirty.length = 0 ∨ ∀ b, RIn (.agg D) b → b ∉ [gw]) := Lib.hid (HFd.out.imp id (fun h b hb hm => by simp at hm; have := (h b hb).1; omega))
      have HH8 : Hid (HMk w1 w8 [q, g, gw] A n 25000000 m (.slice sa l sc) xs (K.re v') M) := Lib.hid (HH.out.more (fun k hk => by
        simp only [List.mem_cons, List.not_mem_nil, or_false] at hk
        rcases hk with rfl | rfl | rfl
        · exact .inl (by simp)
        · exact .inl (by simp)
        · exact .inr ⟨by omega, by rw [hgw]; exact HRw.out.lt⟩) HBw.out)
      have HMr8 : Hid (MemR w2.heap.size w8 [⟨q, 28, [valloc A, vdev A.X.F, .slice sa l sc], true⟩, ⟨g, 34, D.toList, true⟩, ⟨gw, 3, wasL M xs l 0, false⟩]) := Lib.hid (by
        rw [wasL_zero, hgw]
        exact HMr.out.row HBw.out HRw.out (Nat.le_refl _))
      have HRA8 := Lib.hid (HRA.out.below HBw.out (Nat.le_refl _))
      have HFd8 : Hid (FarD w8 m.bm.dev.dirty.length (.agg D) (K.re v').list) := Lib.hid (HFd.out.imp id (fun h b hb => ⟨Nat.lt_of_lt_of_le (h b hb).1 HBw.out.size, (h b hb).2⟩))
      rw [← hgw]
      clear hgw HRw HBw HH HMr HRA HFd c2
      go_wp2_with fail
      go_loopw [14] (fun i wx => ∃ j : Nat, j ≤ l ∧ i = .int .i64 (j : Int) ∧ Hid (HMk w1 wx [q, g, gw] A n 25000000 m (.slice sa l sc) xs (K.re v') M) ∧ Hid (MemR w2.heap.size wx [⟨q, 28, [valloc A, vdev A.X.F, .slice sa l sc], true⟩, ⟨g, 34, D.toList, true⟩, ⟨gw, 3, wasL M xs l j, false⟩]) ∧ Hid (RAt wx (.agg D) m.bm.dev.dirty.length (nowD m.bm.dev).ref) ∧ Hid (FarD wx m.bm.dev.dirty.length (.agg D) (K.re v').list)) (fun i _ => l - (intOf i).toNat)
      case atStart => exact ⟨0, Nat.zero_le _, rfl, HH8, HMr8, HRA8, HFd8⟩
      case round =>
        clear HH8 HMr8 HRA8 HFd8
        obtain ⟨j, hj, rfl, HH, HMr, HRA, HFd⟩ := hrel
        have c2 := HMr.out.cell 0 2 rfl rfl
        by_cases hlt : j < l
        · have hlt' : (j : Int) < (l : Int) := by omega
          obtain ⟨b3, o3, rfl, _, hcx3⟩ := (Cells.own22 HH.out).at (i := j) (by rw [List.length_map, ← HL.out]; exact hlt)
          obtain ⟨y, hy⟩ : ∃ y, xs[j]? = some y := ⟨_, List.getElem?_eq_getElem (by rw [← HL.out]; exact hlt)⟩
          have cy := hcx3 j (vi y) (by rw [List.getElem?_map, hy]; rfl)
          have HCo := Lib.hid (mcolour_any HH.out.mr y)
          change Hid (Calls Tryz.prog 37 #[.pointer (some ⟨K.p, 0, none⟩), .int .i64 (y : Int)] _ _) at HCo
          have cw := HMr.out.cell 2 j rfl (wasL_mid M xs l j HL.out hlt)
          have fw := HMr.out.frozen 2 j rfl
          have HMs := Lib.hid (HMr.out.set 2 j (.int .i64 (M.colour y : Nat)) rfl (by rw [wasL_len M xs l j HL.out (by omega)]; exact hlt))
          have HWs := Lib.hid (wasL_set M xs l j y HL.out hy)
          clear hcx3 hy
          go_wp2_with fail
          refine HCo.out.mono ?_
          rintro e w9 ⟨rfl, rfl⟩
          go_wp2_with fail
          have htc : Touch [gw] _ (World.setCell _ ⟨gw, j, none⟩ (.int .i64 (M.colour y : Nat))) := Touch.setCell (w := wr) ⟨gw, j, none⟩ (by simp) _
          refine ⟨⟨j + 1, by omega, vint (by omega), Lib.hid (HH.out.own (htc.wide (by simp))), Lib.hid (by have := HMs.out; rw [HWs.out] at this; exact this), Lib.hid (HRA.out.touch htc HRb.out), Lib.hid (HFd.out.imp id (fun h b hb => ⟨Nat.lt_of_lt_of_le (h b hb).1 htc.size, (h b hb).2⟩))⟩, by simp [intOf]; omega⟩
        · obtain rfl : j = l := by omega
          have hf : decide ((j : Int) < (j : Int)) = false := by simp
          have hst := Mk.stepped (P := ptrsO m) HIv.out.1 HIv.out.2.1
          have HSt := Lib.hid (mstep_any HH.out.ma (show M.miss ≤ 800000 ∧ M.st.length ≤ 800000 by have h1 := HIv.out.2.2.1.miss; have h2 := HIv.out.2.2.1.st; have h3 := HMs.out; omega))
          change Hid (Calls Tryz.prog 36 #[.pointer (some ⟨K.p, 0, none⟩)] wr _) at HSt
          unfold StepPost at HSt
          have HStd := Lib.hid hst
          have HFt2 := Lib.hid (HIv.out.2.2.1.step (U := m.used) (P := ptrsO m) HPl.out)
          have HMs2 : Hid ((M.step m.used (ptrsO m)).2.most ≤ 127) := Lib.hid (by rw [hst.most]; exact HMs.out)
          have HGo : Hid (∀ w9, MAGo wr w9 A n 4 m (K.re v') (M.step m.used (ptrsO m)).2 → ∃ v3, HMk w1 w9 [q, g, gw] A n 25000000 m (.slice sa j sc) xs (K.re v3) (M.step m.used (ptrsO m)).2 ∧ Off [q, g, gw] wr w9 ∧ RAt w9 (.agg D) m.bm.dev.dirty.length (nowD m.bm.dev).ref ∧ FarD w9 m.bm.dev.dirty.length (.agg D) (K.re v3).list) := Lib.hid (fun w9 hg => by
            obtain ⟨v3, h1, h2, h3, h4⟩ := HH.out.go2 (Pb := fun b => m.bm.dev.dirty.length ≠ 0 ∧ RIn (.agg D) b) (fun b hb => HFd.out.elim (fun h => absurd h hb.1) (fun h => h b hb.2)) hg
            refine ⟨v3, h1, h2, HRA.out.touch h3 (HFd.out.imp id (fun h b hb => (h b hb).2)), ?_⟩
            by_cases c : m.bm.dev.dirty.length = 0
            · exact .inl c
            · exact .inr (fun b hb => h4 b ⟨c, hb⟩))
          clear hst
          generalize (M.step m.used (ptrsO m)).1 = sb at *
          generalize (M.step m.used (ptrsO m)).2 = M3 at *
          go_wp2_with fail
          refine HSt.out.mono ?_
          rintro e w11 ⟨rfl, hg⟩
          obtain ⟨v3, hh3, ho3, hr3, hf3⟩ := HGo.out _ hg
          have HH3 := Lib.hid hh3
          have HMr3 := Lib.hid (HMr.out.off ho3 (by simp))
          have HRA3 := Lib.hid hr3
          have HFd3 := Lib.hid hf3
          clear hg hh3 ho3 hr3 hf3 HSt HGo HH HMr HRA HFd c2
          go_wp2_with fail
          go_loopw [16, 17] (fun bl i wx => ∃ d : Nat, d ≤ j ∧ bl = .int .i64 ((((xs.take d).filter (newly M M3)).length : Nat) : Int) ∧ i = .int .i64 (d : Int) ∧ Hid (Below w11.heap.size w11 wx)) (fun _ i _ => j - (intOf i).toNat)
          case atStart => exact ⟨0, Nat.zero_le _, by simp, rfl, Lib.hid (Below.refl _ _)⟩
          case round =>
            obtain ⟨d, hd, rfl, rfl, HBd⟩ := hrel
            have HHd := Lib.hid (HH3.out.later HBd.out)
            have HMrd := Lib.hid (HMr3.out.later HBd.out)
            have c2 := HMrd.out.cell 0 2 rfl rfl
            by_cases hdl : d < j
            · have hdl' : (d : Int) < (j : Int) := by omega
              obtain ⟨b3, o3, rfl, _, hcx3⟩ := (Cells.own22 HHd.out).at (i := d) (by rw [List.length_map, ← HL.out]; exact hdl)
              obtain ⟨y, hy⟩ : ∃ y, xs[d]? = some y := ⟨_, List.getElem?_eq_getElem (by rw [← HL.out]; exact hdl)⟩
              have cy := hcx3 d (vi y) (by rw [List.getElem?_map, hy]; rfl)
              have HCo := Lib.hid (mcolour_any HHd.out.mr y)
              change Hid (Calls Tryz.prog 37 #[.pointer (some ⟨K.p, 0, none⟩), .int .i64 (y : Int)] _ _) at HCo
              have cw := HMrd.out.cell 2 d rfl (wasL_at M xs j d y HL.out hy)
              have HTk := Lib.hid (newly_take M M3 xs d y hy)
              have hcol := Stepped.colours HIv.out.1 HStd.out y
              have hnl : ((xs.take d).filter (newly M M3)).length ≤ 1 := Nat.le_trans (newly_le M M3 xs d) (Stepped.one HIv.out.1 HStd.out HH3.out.hp.ok.nd)
              have h2a := M.colour_two y
              have h2b := M3.colour_two y
              have HPp := Lib.hid (fun c1 c2 => Stepped.ptrs HIv.out.1 HStd.out (x := y) c1 c2)
              have hcc : (M3.colour y = M.colour y) ∨ (M.colour y = 0 ∧ M3.colour y = 1 ∧ sb = true) ∨ (M.colour y = 1 ∧ M3.colour y = 2 ∧ sb = true) := by
                obtain ⟨e1, e2, e3⟩ := hcol
                by_cases c : M3.colour y = M.colour y
                · exact .inl c
                · right
                  have hs : sb = true := by
                    cases hsb : sb with
                    | true => rfl
                    | false => exact absurd (e3 hsb) c
                  rcases (show (M.colour y = 0 ∧ M3.colour y = 1) ∨ (M.colour y = 1 ∧ M3.colour y = 2) by omega) with ⟨f1, f2⟩ | ⟨f1, f2⟩
                  · exact .inl ⟨f1, f2, hs⟩
                  · exact .inr ⟨f1, f2, hs⟩
              generalize ((xs.take d).filter (newly M M3)).length = nb at *
              rcases hcc with hcc | ⟨h0, h1, rfl⟩ | ⟨h0, h1, rfl⟩
              · have hny : newly M M3 y = false := by
                  unfold newly
                  rw [hcc]
                  by_cases c : M.colour y = 2
                  · rw [c]; rfl
                  · simp [c]
                rw [hny] at HTk
                rw [hcc] at HCo
                clear hcx3 hy hcol HPp h2b hcc hny
                generalize M.colour y = cl at *
                have hcl : cl = 0 ∨ cl = 1 ∨ cl = 2 := by omega
                rcases hcl with rfl | rfl | rfl
                all_goals (
                  go_wp2_with fail
                  refine HCo.out.mono ?_
                  rintro e w12 ⟨rfl, rfl⟩
                  go_wp2_with fail
                  refine ⟨⟨d + 1, by omega, ?_, vint (by omega), HBd⟩, by simp [intOf]; omega⟩
                  have := HTk.out
                  rw [if_neg (by decide)] at this
                  exact vint (by omega))
              · have hny : newly M M3 y = false := by unfold newly; rw [h1]; rfl
                rw [hny] at HTk
                rw [h1] at HCo
                rw [h0] at cw
                clear hcx3 hy hcol HPp h2a h2b h0 h1 hny
                go_wp2_with fail
                refine HCo.out.mono ?_
                rintro e w12 ⟨rfl, rfl⟩
                go_wp2_with fail
                refine ⟨⟨d + 1, by omega, ?_, vint (by omega), HBd⟩, by simp [intOf]; omega⟩
                have := HTk.out
                rw [if_neg (by decide)] at this
                exact vint (by omega)
              · have hny : newly M M3 y = true := by unfold newly; rw [h0, h1]; rfl
                rw [hny] at HTk
                rw [h1] at HCo
                rw [h0] at cw
                have HBk : Hid (∀ z ∈ ptrsD (nowD m.bm.dev) (y : Int), m.used.getD z false = true → M3.colour z ≠ 0) := Lib.hid (HPp.out h0 h1)
                have HLn : Hid ((ptrsD (nowD m.bm.dev) (y : Int)).length ≤ 64) := Lib.hid (HPl.out y)
                have HLe : Hid (∀ x ∈ ptrsD (nowD m.bm.dev) (y : Int), x ≤ 1099511627776) := Lib.hid (ptrsD_le _ _)
                have HPt := Lib.hid (fun w' (hb : Below w11.heap.size w11 w') => rptrs22_any (S := nowD m.bm.dev) (by simp [nowD, freshDev]) (HRA3.out.below hb (Nat.le_refl _)) (nowD_fit HWf.out 0) (y : Int))
                generalize ptrsD (nowD m.bm.dev) (y : Int) = P at *
                clear hcx3 hy hcol HPp h2a h2b h0 h1 hny
                go_wp2_with fail
                refine HCo.out.mono ?_
                rintro e w12 ⟨rfl, rfl⟩
                have hld : ∀ w', (∃ x : Later wr, w' = x.val) → ∀ i v, D.toList[i]? = some v → w'.cell? ⟨g, 0 + i, none⟩ = some v := by
                  rintro _ ⟨x, rfl⟩ i v hi
                  rw [Nat.zero_add]
                  exact later_cell (HMrd.out.cell 1 i rfl hi) x
                have r2 := fun x => later_cell c2 x
                have r3 := fun x => later_cell cy x
                clear HCo
                go_upto_region 32 with fail
                refine wp_region_seg (C := fun w' => ∃ x : Later (wr), w' = x.val) [.fl [0, 1, 2, 3, 4, 5], .sq [6, 7] false] (by kernel_rfl) (by kernel_rfl) (by intro c a d v w h; cases d <;> exact h) ?_
                simp only [segs, picks, List.getElem?_cons_succ, List.getElem?_cons_zero]
                have hC1 := later_drew (wr)
                refine wpSeg_fl hC1 ?_
                repeat (first | (refine wpQuiet_load_arr aggRd D hld hD8 rfl rfl rfl ?_) | go_big_quiet_step (fail) | quiet_step (fail))
                refine wpQuiet_nil ?_
                have HBk1 := Lib.hid (HBd.out.trans ((later_below hC1).mono HBd.out.size))
                clear r2 r3 c2 cy cw hld hC1 HHd HMrd HBd
                generalize wr.drew = w13 at *
                refine wpSeg_last ?_
                go_wp2_with fail
                refine (HPt.out _ HBk1.out).mono ?_
                rintro e w14 ⟨av, cp, rfl, hcs, hb14⟩
                have HCl := Lib.hid hcs
                have HHl := Lib.hid (HH3.out.later (HBk1.out.trans (hb14.mono HBk1.out.size)))
                have HMrl := Lib.hid (HMr3.out.later (HBk1.out.trans (hb14.mono HBk1.out.size)))
                have HBl := Lib.hid (HBk1.out.trans (hb14.mono HBk1.out.size))
                obtain ⟨pl, hpl⟩ : ∃ pl, pl = P.length := ⟨_, rfl⟩
                rw [← hpl]
                have HPn := Lib.hid hpl
                have hp64 : pl ≤ 64 := by rw [hpl]; exact HLn.out
                clear hcs hb14 HPt HBk1 hpl
                go_wp2_with fail
                go_loopw [20] (fun i wr => ∃ p : Nat, p ≤ pl ∧ i = .int .i64 (p : Int) ∧ Hid (Below w14.heap.size w14 wr)) (fun i _ => pl - (intOf i).toNat)
                case atStart => exact ⟨0, Nat.zero_le _, rfl, Lib.hid (Below.refl _ _)⟩
                case round =>
                  obtain ⟨p, hpl, rfl, HBp⟩ := hrel
                  have HHp := Lib.hid (HHl.out.later HBp.out)
                  have HMrp := Lib.hid (HMrl.out.later HBp.out)
                  by_cases hplt : p < pl
                  · have hplt' : (p : Int) < (pl : Int) := by omega
                    have hcd := HCl.out.below HBp.out (Nat.le_refl _)
                    obtain ⟨b5, o5, rfl, _, hcx5⟩ := hcd.at (i := p) (by rw [List.length_map, ← HPn.out]; exact hplt)
                    obtain ⟨zz, hzz⟩ : ∃ zz, P[p]? = some zz := ⟨_, List.getElem?_eq_getElem (by rw [← HPn.out]; exact hplt)⟩
                    have cz := hcx5 p (vi zz) (by rw [List.getElem?_map, hzz]; rfl)
                    have hzm : zz ∈ P := List.mem_of_getElem? hzz
                    have hz9 := HLe.out zz hzm
                    have HZb := Lib.hid (HBk.out zz hzm)
                    have c0 := HMrp.out.cell 0 0 rfl rfl
                    have r0 := fun x => later_cell c0 x
                    have r1 := fun x => later_cell cz x
                    clear hcd hcx5 hzz hzm
                    go_upto_region 36 with fail
                    refine wp_region_seg (C := fun w' => ∃ x : Later (wr), w' = x.val) [.fl [0, 1, 2, 3, 4, 5], .sq [6, 7] false, .fl [8, 9, 10, 11, 12], .sq [13, 14, 15] false] (by kernel_rfl) (by kernel_rfl) (by intro c a d v w h; cases d <;> exact h) ?_
                    simp only [segs, picks, List.getElem?_cons_succ, List.getElem?_cons_zero]
                    have hC1 := later_drew (wr)
                    refine wpSeg_fl hC1 ?_
                    repeat (first | go_big_quiet_step (fail) | quiet_step (fail))
                    refine wpQuiet_nil ?_
                    have HHe := Lib.hid (HHp.out.later (later_below hC1))
                    have HBe := Lib.hid (HBp.out.trans ((later_below hC1).mono HBp.out.size))
                    clear r0 c0 cz HHp HMrp HBp
                    generalize wr.drew = w15 at *
                    have HU := Lib.hid (aused_any HHe.out.hp.at_.al (zz : Int))
                    rw [hasI_nat] at HU
                    have HCz := Lib.hid (mcolour_any HHe.out.mr zz)
                    change Hid (Calls Tryz.prog 37 #[.pointer (some ⟨K.p, 0, none⟩), .int .i64 (zz : Int)] _ _) at HCz
                    have hz2 := M3.colour_two zz
                    generalize M3.colour zz = cl at *
                    generalize m.used.getD zz false = ub at *
                    cases ub with
                    | false =>
                      clear HZb HCz
                      refine wpSeg_sq (fun K hK => ?_)
                      go_wp2_with fail
                      refine HU.out.mono ?_
                      rintro e w16 ⟨rfl, rfl⟩
                      go_wp2_with fail
                      refine hK _ _ (fun h => nomatch h) ?_
                      clear hK K
                      refine wpSeg_fl hC1 ?_
                      repeat (first | go_big_quiet_step (fail) | quiet_step (fail))
                      refine wpQuiet_nil ?_
                      refine wpSeg_last ?_
                      go_wp2_with fail
                      exact ⟨⟨p + 1, by omega, vint (by omega), HBe⟩, by simp [intOf]; omega⟩
                    | true =>
                      have hcz : (((cl : Nat) : Int) == 0) = false := by have := HZb.out rfl; simp; omega
                      clear HZb
                      refine wpSeg_sq (fun K hK => ?_)
                      go_wp2_with fail
                      refine HU.out.mono ?_
                      rintro e w16 ⟨rfl, rfl⟩
                      go_wp2_with fail
                      refine hK _ _ (fun h => nomatch h) ?_
                      clear hK K
                      refine wpSeg_fl hC1 ?_
                      repeat (first | go_big_quiet_step (fail) | quiet_step (fail))
                      refine wpQuiet_nil ?_
                      refine wpSeg_last ?_
                      go_wp2_with fail
                      refine HCz.out.mono ?_
                      rintro e w16 ⟨rfl, rfl⟩
                      go_wp2_with fail
                      exact ⟨⟨p + 1, by omega, vint (by omega), HBe⟩, by simp [intOf]; omega⟩
                  · obtain rfl : p = pl := by omega
                    have hpf : decide ((p : Int) < (p : Int)) = false := by simp
                    have HBz := Lib.hid (HBl.out.trans (HBp.out.mono HBl.out.size))
                    go_wp2_with fail
                    refine ⟨⟨d + 1, by omega, ?_, vint (by omega), HBz⟩, by simp [intOf]; omega⟩
                    have := HTk.out
                    simp only [if_true] at this
                    exact vint (by omega)
            · obtain rfl : d = j := by omega
              have hf2 : decide ((d : Int) < (d : Int)) = false := by simp
              have HOne : Hid (((xs.take d).filter (newly M M3)).length ≤ 1) := Lib.hid (Nat.le_trans (newly_le M M3 xs d) (Stepped.one HIv.out.1 HStd.out HH3.out.hp.ok.nd))
              have HRAd := Lib.hid (HRA3.out.below HBd.out (Nat.le_refl _))
              have HFdd : Hid (FarD wr m.bm.dev.dirty.length (.agg D) (K.re v3).list) := Lib.hid (HFd3.out.imp id (fun h b hb => ⟨Nat.lt_of_lt_of_le (h b hb).1 HBd.out.size, (h b hb).2⟩))
              have hone := HOne.out
              generalize ((xs.take d).filter (newly M M3)).length = nb at *
              have hnb : decide ((1 : Int) < (nb : Int)) = false := by simp; omega
              cases sb with
              | true =>
                have HLt := Lib.hid (Stepped.left HLx.out HIv.out.1 HStd.out)
                have HIv3 : Hid (MkOk m.used M3 ∧ M3.Cover ∧ M3.Fits (10 + 64 * (k + 1)) ∧ M3.left d + (k + 1) ≤ 2 * d + 1) := Lib.hid ⟨HStd.out.ok HIv.out.1, HStd.out.cover HIv.out.1, (by rw [show 10 + 64 * (k + 1) = 10 + 64 * k + 64 by omega]; exact HFt2.out), (by have h1 := HLt.out; have h2 := HIv.out.2.2.2; omega)⟩
                have hk3 : k + 1 ≤ 2 * d + 1 := by have := HIv3.out.2.2.2; omega
                have HH10 := Lib.hid (HHd.out.less (Q' := [q, g]) (by simp))
                have HMr10 := Lib.hid (MemR.front (L := [⟨q, 28, [valloc A, vdev A.X.F, .slice sa d sc], true⟩, ⟨g, 34, D.toList, true⟩]) (E := [⟨gw, 3, wasL M xs d d, false⟩]) HMrd.out)
                clear HHd HMrd hone
                go_wp2_with fail
                refine ⟨⟨k + 1, v3, M3, vint (by omega), hk3, HH10, HMr10, HRAd, HFdd, HIv3, HMs2⟩, by simp [intOf]; omega⟩
              | false =>
                have HSame := Lib.hid (Mk.ended_same (HStd.out.ok HIv.out.1) HStd.out.ended)
                have HGr := Lib.hid (mgreys_any HHd.out.mr)
                change Hid (Calls Tryz.prog 41 #[.pointer (some ⟨K.p, 0, none⟩)] _ _) at HGr
                rw [show (M3.ms.count true : Int) - (M3.sc.count true : Int) = 0 by rw [← HSame.out]; omega] at HGr
                have HBe := Lib.hid (HB1.out.trans (HHd.out.below.mono HB1.out.size))
                clear HHd HMrd hone
                go_wp2_with fail
                refine HGr.out.mono ?_
                rintro e w12 ⟨rfl, hb12⟩
                have HEnd := Lib.hid (HP.out w12 (HBe.out.trans (hb12.mono HBe.out.size)))
                clear hb12
                go_wp2_with fail
                exact HEnd.out
end Go.Proofs.YtfedgcdkagngnaaGreat

/- What the reading of an array that came in by value says of its elements, each of one cell. -/
namespace Go.Proofs.YtfedgcdkagngnaaGreat
open Go.RowKit Go.ChangeShapes Go.WideShapes
set_option linter.unusedVariables false

section
variable {H : Type} {enc : TypeId × Value → H} {P : Program} {w : World} {base b0 : Nat} {r : Reach} {spare : Nat → Bool} {held : Bool}

end

end Go.Proofs.YtfedgcdkagngnaaGreat

/- Slices of structs whose fields are all ints: what the reading of such an argument says. -/
namespace Go.Proofs.YtfedgcdkagngnaaGreat
open Go.RowKit Go.ChangeShapes Go.WideShapes Go.Deep
set_option linter.unusedVariables false

theorem wf_bounds {x : Int} (h : (Lit.int .i64 x).wf = true) : -9223372036854775808 ≤ x ∧ x ≤ 9223372036854775807 := by
  simp [Lit.wf, IntKind.min, IntKind.max, IntKind.bits, IntKind.signed] at h
  omega

/-- A list out of what each place holds. -/
theorem list_of {α : Type} (P : Nat → α → Prop) : ∀ n, (∀ i, i < n → ∃ x, P i x) → ∃ l : List α, l.length = n ∧ ∀ i x, l[i]? = some x → P i x
  | 0, _ => ⟨[], rfl, by simp⟩
  | n + 1, h => by
    obtain ⟨l, hl, hp⟩ := list_of P n (fun i hi => h i (by omega))
    obtain ⟨x, hx⟩ := h n (by omega)
    refine ⟨l ++ [x], by simp [hl], fun i y hy => ?_⟩
    by_cases hi : i < l.length
    · rw [List.getElem?_append_left hi] at hy; exact hp i y hy
    · rw [List.getElem?_append_right (by omega)] at hy
      have h0 : i - l.length = 0 := by
        have := (List.getElem?_eq_some_iff.1 hy).1; simp at this; omega
      rw [h0] at hy
      simp at hy
      subst hy
      rw [show i = n by omega]; exact hx

section
variable {H : Type} {enc : TypeId × Value → H} {P : Program} {w : World} {base : Nat} {spare : Nat → Bool} {held : Bool}

theorem ints_struct {e T : TypeId} {fs : Array Field} {n fuel : Nat} {us : List Value} {z : DataW H × List MemPlace} (he : P.underlying e = some (.struct fs)) (hT : P.underlying T = some (.int .i64)) (hc : P.cellsOf T = 1)
    (hF : ((List.range n).all fun j => match fs[j]? with | some f => f.type == T && f.offset == j | none => false) = true) (hlen : us.length = n) (hz : DataW.trod enc P w base spare held fuel e us = some z) :
    ∃ zs : List Int, zs.length = n ∧ us = zs.map (Value.int .i64) ∧ ∀ x ∈ zs, -9223372036854775808 ≤ x ∧ x ≤ 9223372036854775807 := by
  obtain ⟨ys, n', _, _, _, hyl, hf⟩ := DataW.trod_struct he hz
  have each : ∀ j, j < n → ∃ x : Int, us[j]? = some (.int .i64 x) ∧ (-9223372036854775808 ≤ x ∧ x ≤ 9223372036854775807) := by
    intro j hj
    have h1 := List.all_eq_true.1 hF j (List.mem_range.2 hj)
    cases hfj : fs[j]? with
    | none => rw [hfj] at h1; cases h1
    | some f =>
      rw [hfj] at h1
      simp only [Bool.and_eq_true, beq_iff_eq] at h1
      have h2 := hf j f hfj
      rw [h1.1, h1.2, hc] at h2
      have hjs : j < ys.length := by rw [hyl]; exact (Array.getElem?_eq_some_iff.1 hfj).1
      rw [List.getElem?_eq_getElem hjs] at h2
      have hju : j < us.length := by omega
      have h3 : (us.drop j).take 1 = [us[j]] := by rw [List.drop_eq_getElem_cons hju]; rfl
      rw [h3] at h2
      obtain ⟨x, hx, _, hw⟩ := DataW.trod_int hT h2
      have hx' : us[j] = .int .i64 x := by simpa using hx
      exact ⟨x, by rw [List.getElem?_eq_getElem hju, hx'], wf_bounds hw⟩
  obtain ⟨zs, hl, hp⟩ := list_of (fun j x => us[j]? = some (.int .i64 x) ∧ (-9223372036854775808 ≤ x ∧ x ≤ 9223372036854775807)) n each
  refine ⟨zs, hl, ?_, fun x hx => ?_⟩
  · apply List.ext_getElem?
    intro i
    by_cases hi : i < zs.length
    · rw [(hp i _ (List.getElem?_eq_getElem hi)).1, List.getElem?_map, List.getElem?_eq_getElem hi]; rfl
    · rw [List.getElem?_eq_none (by omega), List.getElem?_eq_none (by simp; omega)]
  · obtain ⟨i, hi, rfl⟩ := List.mem_iff_getElem.1 hx
    exact (hp i _ (List.getElem?_eq_getElem hi)).2

theorem recs_ints_read {α : Type} {f : α → List Value} {n : Nat} (hfl : ∀ x, (f x).length = n) (hn : 0 < n) (d : α) (mk : List Int → α) (hmk : ∀ zs : List Int, zs.length = n → f (mk zs) = zs.map (Value.int .i64))
    {t e T : TypeId} {fs : Array Field} {fuel : Nat} {v : Value} {y : DataW H × List MemPlace} (ht : P.underlying t = some (.slice e)) (he : P.underlying e = some (.struct fs)) (hT : P.underlying T = some (.int .i64)) (hC : P.cellsOf e = n) (hc : P.cellsOf T = 1)
    (hF : ((List.range n).all fun j => match fs[j]? with | some f => f.type == T && f.offset == j | none => false) = true) (h : DataW.trod enc P w base spare held fuel t [v] = some y) :
    ∃ (a : Option Addr) (len cap : Nat) (l : List α), v = .slice a len cap ∧ l.length = len ∧ Cells w a (recs f l) ∧ (∀ o ∈ l, ∃ zs : List Int, o = mk zs ∧ zs.length = n ∧ ∀ x ∈ zs, -9223372036854775808 ≤ x ∧ x ≤ 9223372036854775807) ∧ len ≤ maxLen := by
  obtain ⟨a, len, cap, m, rfl, hl, hm, hcs⟩ := elems_read ht hC hn h
  rcases hcs with rfl | ⟨b, off, rfl, hcs⟩
  · exact ⟨a, 0, cap, [], rfl, rfl, Cells.nil _ _, by simp, Nat.zero_le _⟩
  · have each : ∀ i, i < len → ∃ x : α, (∀ r u, (f x)[r]? = some u → w.cell? ⟨b, off + i * n + r, none⟩ = some u) ∧ ∃ zs : List Int, x = mk zs ∧ zs.length = n ∧ ∀ x ∈ zs, -9223372036854775808 ≤ x ∧ x ≤ 9223372036854775807 := by
      intro i hi
      obtain ⟨us, z, hlen, hat, hz⟩ := hcs i hi
      obtain ⟨zs, h1, h2, h3⟩ := ints_struct he hT hc hF hlen hz
      exact ⟨mk zs, fun r u hr => by rw [hmk zs h1, ← h2] at hr; exact hat r u hr, zs, rfl, h1, h3⟩
    obtain ⟨l, hll, hcl, hok⟩ := recs_of hfl hn d each
    exact ⟨_, len, cap, l, rfl, hll, hcl, hok, by omega⟩
end

end Go.Proofs.YtfedgcdkagngnaaGreat
