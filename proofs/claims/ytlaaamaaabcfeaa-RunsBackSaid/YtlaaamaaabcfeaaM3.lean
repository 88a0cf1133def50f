/- Parts of the proof, one behind the other: Sl, Il, Ir, In, Deep, Rec, Ri, Is, Iu, Iw, Ib. -/
import Derived.Test.YtlaaamaaabcfeaaM2
import Derived.Shelf.SlSortCmp.WholeK
import Derived.Ground.SlsfProg
import Derived.Test.YtlaaamaaabcfeaaProg
import Derived.Shelf.SlSortCmp.NoneTotal
import Derived.Deep.Slices
import Derived.Deep.Fields
import Derived.ChangeSame
import Derived.OpenShut

/-
  DERIVED: THE SHELF's CONTRACTS AT THIS DUMP, IN PLAIN WORDS (tools/lay-plain.mjs out of 'TmpShelf.lean', which tools/lay-shelf.mjs wrote): THE SAME DECLARATIONS UNDER THE SAME NAMES: 'import', 'namespace', 'open', 'def', 'theorem' AND NOTHING ELSE: no command of the shelf's: FOR A HAND-IN. Each laying: the table of numbers ('.._ren') and one theorem, a field a fact of the dump's own or the kernel's comparison; each contract: ONE APPLICATION.
-/
namespace Go.Proofs
open Go.Shelf
def Try.sortSp_ren : Go.Shelf.Ren := ⟨fun | 6 => 18 | 15 => 28 | 14 => 27 | 28 => 37 | 29 => 38 | 20 => 29 | 21 => 30 | 22 => 31 | 23 => 32 | 24 => 33 | 25 => 34 | 26 => 35 | 27 => 36 | 46 => 39 | 47 => 40 | 48 => 41 | 49 => 42 | 50 => 43 | 57 => 44 | n => n, fun | 22 => 31 | 24 => 38 | 25 => 56 | 3 => 3 | 39 => 69 | 0 => 0 | 53 => 78 | 55 => 80 | 4 => 4 | 46 => 72 | 45 => 71 | 50 => 59 | 5 => 5 | 9 => 9 | 66 => 81 | 70 => 85 | 76 => 87 | 77 => 63 | n => n, fun | n => n⟩
theorem Try.sortSp : Go.Proofs.SlLaysF0.n6 Try.prog Try.sortSp_ren := {
  mixed := by kernel_rfl
  f6 := ⟨Try.f18.name, by decide, Try.func18.trans (congrArg some (by kernel_rfl))⟩
  f14 := ⟨Try.f27.name, by decide, Try.func27.trans (congrArg some (by kernel_rfl))⟩
  f15 := Try.func28.trans (congrArg some (by kernel_rfl))
  f20 := ⟨Try.f29.name, by decide, Try.func29.trans (congrArg some (by kernel_rfl))⟩
  f21 := ⟨Try.f30.name, by decide, Try.func30.trans (congrArg some (by kernel_rfl))⟩
  f22 := ⟨Try.f31.name, by decide, Try.func31.trans (congrArg some (by kernel_rfl))⟩
  f23 := ⟨Try.f32.name, by decide, Try.func32.trans (congrArg some (by kernel_rfl))⟩
  f24 := ⟨Try.f33.name, by decide, Try.func33.trans (congrArg some (by kernel_rfl))⟩
  f25 := ⟨Try.f34.name, by decide, Try.func34.trans (congrArg some (by kernel_rfl))⟩
  f26 := ⟨Try.f35.name, by decide, Try.func35.trans (congrArg some (by kernel_rfl))⟩
  f27 := ⟨Try.f36.name, by decide, Try.func36.trans (congrArg some (by kernel_rfl))⟩
  f28 := Try.func37.trans (congrArg some (by kernel_rfl))
  f29 := Try.func38.trans (congrArg some (by kernel_rfl))
  f46 := ⟨Try.f39.name, by decide, Try.func39.trans (congrArg some (by kernel_rfl))⟩
  f47 := Try.func40.trans (congrArg some (by kernel_rfl))
  f48 := Try.func41.trans (congrArg some (by kernel_rfl))
  f49 := ⟨Try.f42.name, by decide, Try.func42.trans (congrArg some (by kernel_rfl))⟩
  f50 := ⟨Try.f43.name, by decide, Try.func43.trans (congrArg some (by kernel_rfl))⟩
  f57 := ⟨Try.f44.name, by decide, Try.func44.trans (congrArg some (by kernel_rfl))⟩
  t0 := Try.underlying0
  a0 := Try.isAgg0
  z0 := Try.sizeOf0
  v0 := Try.zeroValue0
  t3 := Try.underlying3
  a3 := Try.isAgg3
  z3 := Try.sizeOf3
  v3 := Try.zeroValue3
  t4 := Try.underlying4
  a4 := Try.isAgg4
  z4 := Try.sizeOf4
  v4 := Try.zeroValue4
  t5 := Try.underlying5
  a5 := Try.isAgg5
  z5 := Try.sizeOf5
  v5 := Try.zeroValue5
  t9 := Try.underlying9
  a9 := Try.isAgg9
  z9 := Try.sizeOf9
  v9 := Try.zeroValue9
  t22 := Try.underlying31
  a22 := Try.isAgg31
  z22 := Try.sizeOf31
  v22 := Try.zeroValue31
  t25 := Try.underlying56
  a25 := Try.isAgg56
  z25 := Try.sizeOf56
  v25 := Try.zeroValue56
  t39 := Try.underlying69
  a39 := Try.isAgg69
  z39 := Try.sizeOf69
  v39 := Try.zeroValue69
  t45 := Try.underlying71
  a45 := Try.isAgg71
  z45 := Try.sizeOf71
  v45 := Try.zeroValue71
  t46 := Try.underlying72
  a46 := Try.isAgg72
  z46 := Try.sizeOf72
  v46 := Try.zeroValue72
  t50 := Try.underlying59
  a50 := Try.isAgg59
  z50 := Try.sizeOf59
  v50 := Try.zeroValue59
  t53 := Try.underlying78
  a53 := Try.isAgg78
  z53 := Try.sizeOf78
  v53 := Try.zeroValue78
  t55 := Try.underlying80
  a55 := Try.isAgg80
  z55 := Try.sizeOf80
  v55 := Try.zeroValue80
  t66 := Try.underlying81
  a66 := Try.isAgg81
  z66 := Try.sizeOf81
  v66 := Try.zeroValue81
  t70 := Try.underlying85
  a70 := Try.isAgg85
  z70 := Try.sizeOf85
  v70 := Try.zeroValue85
  t76 := Try.underlying87
  a76 := Try.isAgg87
  z76 := Try.sizeOf87
  v76 := Try.zeroValue87
  t77 := Try.underlying63
  a77 := Try.isAgg63
  z77 := Try.sizeOf63
  v77 := Try.zeroValue63 }
end Go.Proofs

/- runs: List: all runs, rising. -/
namespace Go.Proofs.Ytlaaamaaabcfeaa
open Go.RowKit Go.Maps Go.Sort Go.Shelf
set_option linter.unusedVariables false

/-- Spans as the sort takes them: numbers that are no wider than a device. -/
abbrev Spb := {x : Sp // x.1 ≤ 1000000000000}
instance : Inhabited Spb := ⟨⟨(0, 0), by decide⟩⟩
def encSp (x : Spb) : List Value := [.int .i64 (x.1.1 : Int), .int .i64 (x.1.2 : Int)]
def cfSp (x y : Spb) : Int := (x.1.1 : Int) - (y.1.1 : Int)

theorem ltSp (x y : Spb) : ltOf cfSp x y = decide (x.1.1 < y.1.1) := by
  unfold ltOf cfSp
  by_cases h : x.1.1 < y.1.1
  · rw [decide_eq_true h]; simp; omega
  · rw [decide_eq_false h]; simp; omega
theorem swoSp : SWO (ltOf cfSp) where
  irrefl x := by rw [ltSp]; simp
  trans x y z h1 h2 := by rw [ltSp] at *; simp at *; omega
  ntrans x y z h1 h2 := by rw [ltSp] at *; simp at *; omega

theorem spCs_at : ∀ (l : List Sp) (i : Nat) (s n : Nat), l[i]? = some (s, n) → (spCs l)[i * 2]? = some (.int .i64 (s : Int)) ∧ (spCs l)[i * 2 + 1]? = some (.int .i64 (n : Int))
  | [], i, s, n, h => by simp at h
  | x :: l, 0, s, n, h => by
    simp at h
    subst h
    exact ⟨rfl, rfl⟩
  | x :: l, i + 1, s, n, h => by
    have ih := spCs_at l i s n (by simpa using h)
    have e : spCs (x :: l) = .int .i64 x.1 :: .int .i64 x.2 :: spCs l := rfl
    rw [e, show (i + 1) * 2 = i * 2 + 1 + 1 by omega]
    simpa using ih

theorem flat_get (xs : List Spb) (t : Nat) (h : t < xs.length * 2) : (spCs (xs.map (·.1)))[t]? = some (flatK encSp 2 xs.toArray)[t]! := by
  have hs : t < xs.toArray.size * 2 := by simpa using h
  rw [get_flatK encSp 2 xs.toArray t hs]
  have hd : t / 2 < xs.length := by omega
  have hx : xs.toArray[t / 2]! = xs[t / 2] := by simp [hd]
  have hl : (xs.map (·.1))[t / 2]? = some (xs[t / 2].1.1, xs[t / 2].1.2) := by simp [hd]
  obtain ⟨h1, h2⟩ := spCs_at _ _ _ _ hl
  rw [hx]
  generalize xs[t / 2] = y at *
  clear hl hx hd
  rcases Nat.mod_two_eq_zero_or_one t with h0 | h0
  · rw [show t = t / 2 * 2 by omega, h1, show t / 2 * 2 % 2 = 0 by omega]
    rfl
  · rw [show t = t / 2 * 2 + 1 by omega, h2, show (t / 2 * 2 + 1) % 2 = 1 by omega]
    rfl

theorem holds_sp {w : World} {g e : Nat} {xs : List Spb} (h : RowAt w g e (spCs (xs.map (·.1)))) : HoldsK encSp 2 w g 0 xs.toArray := by
  intro j hj
  have hj' : j < xs.length * 2 := by simpa using hj
  have := flat_get xs j hj'
  rw [Nat.zero_add]
  exact ⟨h.cell this, h.frozen _⟩
theorem cells_sp {w : World} {g : Nat} {xs : List Spb} (h : HoldsK encSp 2 w g 0 xs.toArray) : Cells w (some ⟨g, 0, none⟩) (spCs (xs.map (·.1))) := by
  refine .inr ⟨g, 0, rfl, fun i v hi => ?_⟩
  have hlt : i < xs.length * 2 := by
    have := (List.getElem?_eq_some_iff.1 hi).1
    rw [spCs_length] at this; simp at this; omega
  have h1 := h i (by simpa using hlt)
  have h2 := flat_get xs i hlt
  rw [hi] at h2
  rw [h1.1]
  simp only [id]
  exact h2.symm

theorem grownBy_sortK {w : World} {g n : Nat} {os : Array Obj} (d : Array Spb) : w.grownBy (sortWorldK encSp 2 w g 0 n d os) (some g) := by
  refine ⟨rfl, rfl, rfl, by simp [sortWorldK, putRowK], fun k hk hne => ?_⟩
  unfold sortWorldK putRowK
  rw [heap_grow_old _ _ (by simpa using hk)]
  have : g ≠ k := fun e => hne (by rw [e])
  simp [putRow, mapBlock, Sort.ahead, Array.getElem?_modify, this]

set_option maxHeartbeats 1000000 in
theorem cmp_any (x y : Spb) (W : World) : Calls Try.prog 19 #[.agg (encSp x).toArray, .agg (encSp y).toArray] W fun e w' => e = .returned (.int .i64 (cfSp x y)) ∧ ∃ q os', w' = grow (W.drewN q) os' := by
  obtain ⟨⟨a, b⟩, hx⟩ := x
  obtain ⟨⟨c, d⟩, hy⟩ := y
  unfold encSp cfSp
  dsimp only at hx hy ⊢
  go_enter Try.func19, Try.ntmps19
  go_wp2_with fail
  go_ret
  exact ⟨rfl, 0, _, by rw [alloc_eq_grow, alloc_eq_grow, grow_grow]; rfl⟩

theorem aggSp (w : World) : (isAgg 38).run Try.prog w = .ok true w := Try.isAgg38 w
theorem sizeSp (w : World) : (Go.sizeOf 38).run Try.prog w = .ok 2 w := Try.sizeOf38 w

theorem sort_any (g cap : Nat) (xs : List Spb) (n : Nat) (hn : xs.length = n) (w : World) {e : Nat} (hr : RowAt w g e (spCs (xs.map (·.1)))) (hsz : n ≤ 1000000000000) :
    Calls Try.prog 18 #[.slice (some ⟨g, 0, none⟩) n cap, .func (.func 19) #[] #[]] w fun e w' =>
      e = .returned (.tuple #[]) ∧ ∃ ys : List Spb, ys.Perm xs ∧ ys.Pairwise (fun a b => a.1.1 ≤ b.1.1) ∧ Cells w' (some ⟨g, 0, none⟩) (spCs (ys.map (·.1))) ∧ w.grownBy w' (some g) := by
  subst hn
  have eg : ∀ args w, (callFunc 19 args).run Try.prog w = .ok (.enter 19 args) w := enters_of Try.func19 (by kernel_rfl) rfl
  have hlt : g < w.heap.size := hr.lt
  have hH := holds_sp hr
  have hcon := AnyQ.slices_SortFunc Try.sortSp 2 aggSp sizeSp encSp (fun _ => rfl) (fun x v hv => by simp [encSp] at hv; rcases hv with rfl | rfl <;> rfl) cfSp swoSp 19 #[] g 0 cap xs.toArray w eg (fun m os dk hs x y => cmp_any x y _) hH hlt (by simp; omega)
  change Calls Try.prog 18 _ _ _ at hcon
  rw [List.size_toArray] at hcon
  refine hcon.mono ?_
  rintro e w' ⟨rfl, d', n, os, hp, hs, rfl⟩
  have hsz' : d'.size = xs.length := by simpa using hp.1
  have hex1 : (d'.extract 0 xs.length).toList = d'.toList := by rw [← hsz']; simp
  refine ⟨rfl, d'.toList, ?_, ?_, ?_, grownBy_sortK d'⟩
  · have := hp.2.2
    rw [hex1] at this
    simpa using this
  · rw [List.pairwise_iff_getElem]
    intro i j hi hj hij
    have h := hs i j (Nat.zero_le _) hij (by simpa [hsz'] using hj)
    rw [ltSp] at h
    have hi' : i < d'.size := by simpa using hi
    have hj' : j < d'.size := by simpa using hj
    simp [hi', hj'] at h
    simpa using h
  · have h1 : HoldsK encSp 2 (sortWorldK encSp 2 w g 0 n d' os) g 0 d' := holdsK_sortWorldK_c encSp 2 w g 0 xs.toArray d' n os hH hlt (by simpa using hsz')
    exact cells_sp (xs := d'.toList) (by simpa using h1)

/-- Sorted spans with the runs' starts are the runs. -/
theorem sorted_runs {l : List Bool} {ys : List Spb} {done : List Sp} (hp : (ys.map (·.1)).Perm done) (hd : done.Perm (runsOf l)) (hs : ys.Pairwise (fun a b => a.1.1 ≤ b.1.1)) : ys.map (·.1) = runsOf l := by
  have hq := hp.trans hd
  have hris := (runsOf_is l).rising
  have hnd : ((runsOf l).map (·.1)).Nodup := by
    unfold List.Nodup
    rw [List.pairwise_map]
    exact hris.imp (fun h => by omega)
  have hnd2 : ((ys.map (·.1)).map (·.1)).Nodup := (hq.map (·.1)).nodup_iff.2 hnd
  refine rising_ext ?_ hris (fun x => hq.mem_iff)
  unfold Rising
  unfold List.Nodup at hnd2
  rw [List.pairwise_map] at hnd2
  have h2 : (ys.map (·.1)).Pairwise (fun a b => a.1 ≤ b.1) := by rw [List.pairwise_map]; exact hs
  exact (List.Pairwise.and h2 hnd2).imp (fun h => by omega)

/-- The list, as spans that the sort takes. -/
theorem as_spb : ∀ (l : List Sp), (∀ x ∈ l, x.1 ≤ 1000000000000) → ∃ xs : List Spb, xs.map (·.1) = l
  | [], _ => ⟨[], rfl⟩
  | x :: l, h => by
    obtain ⟨xs, hxs⟩ := as_spb l (fun y hy => h y (by simp [hy]))
    exact ⟨⟨x, h x (by simp)⟩ :: xs, by simp [hxs]⟩

/-- A list of spans, laid anew. -/
def SpList (w : World) (l : List Sp) : Ending → World → Prop := fun e w' => ∃ (a : Option Addr) (c : Nat), e = .returned (.slice a l.length c) ∧ Cells w' a (spCs l) ∧ Below w.heap.size w w'

theorem elBsp : Elem Try.prog 31 38 (.agg #[.int .i64 0, .int .i64 0]) 2 16 := Elem.mk' Try.underlying31 (by kernel_rfl) rfl (by decide)

theorem runs_len (f : Nat → Bool) : ∀ L, (runsTo f L).length ≤ L
  | 0 => by simp [runsTo]
  | b + 1 => by
    have ih := runs_len f b
    unfold runsTo
    split
    · split
      · split
        · simp
        · rename_i x hx
          obtain ⟨ys, hy⟩ := List.getLast?_eq_some_iff.1 hx
          rw [hy] at ih ⊢
          simp at ih ⊢; omega
      · simp; omega
    · omega

set_option maxHeartbeats 2000000 in
theorem ilist_any {w : World} {T : Tri} {n : Nat} {l : List Bool} (h : IxAt w T n l) (hl : l.length ≤ 100000000000) :
    Calls Try.prog 9 #[.pointer (some ⟨T.p, 0, none⟩)] w (SpList w (runsOf l)) := by
  have HLt := Lib.hid (show T.s < w.heap.size from h.mem T.s (by simp [Tri.list]))
  obtain ⟨M, E, hA, hMO, _⟩ := h
  have e0 : w.cell? ⟨T.p, 0, none⟩ = some (.map (some T.s)) := hA.row.cell rfl
  have HS := Lib.hid hA.byS
  have HMO := Lib.hid hMO
  have HRl := Lib.hid (runs_len (fb l) l.length)
  have HL := Lib.hid hl
  clear hA hMO hl
  obtain ⟨B, hB⟩ : ∃ B, B = w.heap.size + 1 := ⟨_, rfl⟩
  have HBB := Lib.hid hB
  clear hB
  generalize hPo : SpList w (runsOf l) = Post
  have HPo := Lib.hid hPo
  clear hPo
  go_enter Try.func9, Try.ntmps9
  go_wp2_with (at_range; refine wpList_irange rfl _ 52 rfl 3 Try.underlying3 Try.underlying52 T.s n M rfl HS.out ?_; intro w0 cnt0 hr0 hg0 hs0)
  have HR0 := Lib.hid hr0
  have HB0 := Lib.hid (grown_none hg0)
  have HS0 := Lib.hid hs0
  clear hr0 hg0 hs0
  go_frame
  go_loopw [3] (fun v wr => ∃ (L : Int → Bool) (cnt : Nat) (done rest : List Sp), wr.ownsRow B 38 2 v done.length (spCs done) ∧ B ≤ wr.heap.size ∧ IRange Try.prog 3 wr T.s w.heap.size n M L cnt ∧ Below w.heap.size w wr ∧ Part l M L done rest) (fun _ wr => wr.rangeLeft T.s w.heap.size)
  case atStart => exact ⟨_, _, [], runsOf l, ⟨rfl, .inl ⟨rfl, rfl⟩⟩, by rw [HS0.out, HBB.out]; exact Nat.le_refl _, HR0.out, HB0.out, Part.start HMO.out⟩
  case round =>
    obtain ⟨L, cnt, done, rest, ho, hbs, hr, hb, hp⟩ := hrel
    have HR := Lib.hid hr
    have HB := Lib.hid hb
    have HO := Lib.hid ho
    have HP := Lib.hid hp
    have HBs := Lib.hid hbs
    obtain ⟨a1, c1, rfl, hc1, hm1⟩ := owned_form ho
    clear hr hb hp ho hbs
    go_wp2_with (at_next; refine wpList_inext rfl _ rfl 3 Try.underlying3 T.s w.heap.size n M _ _ rfl HR.out ?_ ?_)
    · intro h0
      have hperm := HP.out.finish h0
      have hlen : done.length = (runsOf l).length := hperm.length_eq
      have hbd : ∀ x ∈ done, x.1 ≤ 1000000000000 := fun x hx => by
        have h1 := ((runsOf_is l).mem x.1 x.2).1 (hperm.mem_iff.1 hx)
        have := runEnds h1
        have := HL.out
        omega
      obtain ⟨xs, hxs⟩ := as_spb done hbd
      have hxl : xs.length = done.length := by rw [← hxs]; simp
      have hdl : done.length ≤ 1000000000000 := by rw [hlen]; have := HRl.out; have := HL.out; unfold runsOf; omega
      have HPm := Lib.hid hperm
      have HXs := Lib.hid hxs
      have HLen := Lib.hid hlen
      have HXl := Lib.hid hxl
      clear h0 hperm hlen hbd hxs hxl
      by_cases hd0 : done.length = 0
      · have hnil : done = [] := List.eq_nil_of_length_eq_zero hd0
        have hrn : runsOf l = [] := List.eq_nil_of_length_eq_zero (by rw [← HLen.out]; exact hd0)
        have HRn := Lib.hid hrn
        subst hnil
        clear hrn hd0
        go_wp2_with (go_at_call 18; refine (show Calls Try.prog 18 _ _ _ from AnyF.slices_SortFunc_none (P := Try.prog) (ρ := Try.sortSp_ren) { Try.sortSp with } a1 c1 _ _).mono ?_; rintro e w' ⟨rfl, rfl⟩)
        rw [← HPo.out, HRn.out]
        exact ⟨a1, c1, rfl, .inl rfl, HB.out⟩
      · obtain ⟨g, c2, he, _, _, hg1, hg2⟩ := owned_some HO.out (by omega)
        cases he
        have HRow := Lib.hid (show RowAt wr g 38 (spCs (xs.map (·.1))) by rw [HXs.out]; exact owned_row HO.out)
        go_wp2_with (go_at_call 18; refine (sort_any g c1 xs done.length HXl.out _ HRow.out hdl).mono ?_; rintro e w' ⟨rfl, ys, hyp, hys, hyc, hyg⟩; have HYp := Lib.hid hyp; have HYs := Lib.hid hys; have HYc := Lib.hid hyc; have HYg := Lib.hid hyg; clear hyp hys hyc hyg)
        rw [← HPo.out]
        have he : ys.map (·.1) = runsOf l := sorted_runs (done := done) (by rw [← HXs.out]; exact HYp.out.map _) HPm.out HYs.out
        refine ⟨some ⟨g, 0, none⟩, c1, by rw [← HLen.out]; rfl, ?_, ?_⟩
        · rw [← he]; exact HYc.out
        · exact HB.out.trans (grown_one HYg.out (by have := HBB.out; omega) HB.out.size)
    · intro x c w1 cnt1 hwx hwc hL hMx hr1 hlt hg1 hs1 hen
      obtain ⟨s, k, rfl, rfl, _, hp1⟩ := HP.out.step HMO.out hL hMx
      have hP1 := Lib.hid hp1
      have HB1 : Hid (Below w.heap.size w w1) := Lib.hid (HB.out.trans (grown_one hg1 (Nat.le_refl _) HB.out.size))
      have hob : ∀ g, (Value.slice a1 done.length c1).ownBlock = some g → B ≤ g ∧ g < wr.heap.size := fun g hg => HO.out.lt g hg
      have hO1 := HO.out.kept hg1 (by
        cases hb : (Value.slice a1 done.length c1).ownBlock with
        | none => exact .inl rfl
        | some g => exact .inr (fun e => by have := (hob g hb).1; have := HBB.out; cases e; omega))
      have HO1 := Lib.hid hO1
      have HR1 := Lib.hid hr1
      have hdl : done.length < 1000000000000 := by
        have h1 := HP.out.perm.length_eq
        have := HRl.out
        have := HL.out
        unfold runsOf at h1
        simp at h1
        omega
      have HBs1 : Hid (B ≤ w1.heap.size) := Lib.hid (by have := HBs.out; omega)
      have HLt1 := Lib.hid hlt
      have HOb := Lib.hid hob
      have hone : Hid (∀ u ∈ (#[Value.int .i64 (s : Int), Value.int .i64 (k : Int)] : Array Value).toList, u.oneCell' = true) := Lib.hid (by intro u hu; simp at hu; rcases hu with rfl | rfl <;> rfl)
      clear hL hMx hr1 hlt hg1 hs1 hwx hwc hp1 hO1 hob
      go_wp2_with (at_builtin; refine wpList_append_new (us := #[.int .i64 (s : Int), .int .i64 (k : Int)]) elBsp HO1.out rfl hone.out hdl (by decide) HBs1.out rfl rfl rfl (by simp [Act.eval]) ?_; intro g6 c6 w6 ho6 hg6 hc6 hm6 hb6 hl6; have HO6 := Lib.hid ho6; have HG6 := Lib.hid hg6; clear ho6 hg6)
      have hrs : some T.s ≠ (Value.slice a1 done.length c1).ownBlock := fun e => by have := (HOb.out T.s e.symm).1; have := HBB.out; have := HLt.out; omega
      have hrr : some w.heap.size ≠ (Value.slice a1 done.length c1).ownBlock := fun e => by have := (HOb.out w.heap.size e.symm).1; have := HBB.out; omega
      have HR6 := Lib.hid (HR1.out.kept HG6.out hrs hrr)
      have HB6 : Hid (Below w.heap.size w w6) := Lib.hid (below_grownBy HB1.out HO1.out HG6.out (Nat.le_refl _) (by have := HBB.out; omega))
      have hz6 := HG6.out.size
      clear hrs hrr
      go_roundw
      case rel => exact ⟨_, _, done ++ [(s, k)], _, by rw [List.length_append, spCs_append]; exact HO6.out, Nat.le_trans HBs1.out hz6, HR6.out, HB6.out, hP1.out⟩
      case measure => rw [HR6.out.left_eq, HR.out.left_eq]; exact HLt1.out

end Go.Proofs.Ytlaaamaaabcfeaa

/- The reference of layer 11: set, List, Give, Take, Total. -/
namespace Go.Proofs.Ytlaaamaaabcfeaa
open Go.RowKit
set_option linter.unusedVariables false

theorem elBl : Elem Try.prog 26 4 (.bool false) 1 1 := Elem.mk' Try.underlying26 (by kernel_rfl) rfl (by decide)
theorem elR10 : Elem Try.prog 61 66 (.agg #[.int .i64 0, .int .i64 0]) 2 16 := Elem.mk' Try.underlying61 (by kernel_rfl) rfl (by decide)
theorem bl_one (bs : List Bool) : ∀ u ∈ bs.map Value.bool, u.oneCell' = true := by
  intro u hu
  simp only [List.mem_map] at hu
  obtain ⟨b, _, rfl⟩ := hu
  rfl

/-- Truths, laid anew. -/
def BlPost (w : World) (l : List Bool) : Ending → World → Prop := fun e w' => ∃ (a : Option Addr) (c : Nat), e = .returned (.slice a l.length c) ∧ Cells w' a (l.map Value.bool) ∧ Below w.heap.size w w'

theorem setTo_row {w : World} {g e : Nat} {l : List Bool} {s : Nat} {v : Bool} {k : Nat} (h : RowAt w g e ((setTo l s v k).map Value.bool)) (hk : s + k < l.length) : RowAt (w.setCell ⟨g, s + k, none⟩ (.bool v)) g e ((setTo l s v (k + 1)).map Value.bool) := by
  have := h.set (s + k) (by rw [List.length_map, setTo_length]; exact hk) (.bool v)
  rw [setTo, List.map_set]
  exact this

set_option maxHeartbeats 1000000 in
theorem rset_any (a : Option Addr) (n cap : Nat) (l : List Bool) (hn : l.length = n) (s m : Nat) (v : Bool) (w : World) (hc : Cells w a (l.map Value.bool)) (hs : s + m ≤ n) (hl : n ≤ 100000000000) :
    Calls Try.prog 22 #[.slice a n cap, .int .i64 (s : Int), .int .i64 (m : Int), .bool v] w (BlPost w (setTo l s v m)) := by
  have hb := below_alloc w (.cells #[] 4)
  have ho := World.ownsRow_lit (base := w.heap.size) (e := 4) (size := 1) w #[] 0 (Nat.le_refl _) (by unfold maxLen; omega) rfl
  have HC := Lib.hid (hc.below hb (Nat.le_refl _))
  have HL : Hid ((l.map Value.bool).length = n * 1) := Lib.hid (by rw [List.length_map, hn, Nat.mul_one])
  have HO := Lib.hid ho
  have HB := Lib.hid hb
  have HN := Lib.hid hn
  have hone : Hid (∀ u ∈ l.map Value.bool, u.oneCell' = true) := Lib.hid (bl_one _)
  have hbase := Lib.hid hb.size
  have hn9 : 0 + n < 1000000000000 := by omega
  clear hb ho hc hn
  generalize hPo : BlPost w (setTo l s v m) = Post
  have HPo := Lib.hid hPo
  clear hPo
  go_enter Try.func22, Try.ntmps22
  go_wp2_with (at_builtin; refine wpList_append_cells elBl HO.out HC.out HL.out hone.out hn9 (by decide) hbase.out rfl rfl rfl rfl ?_; intro v2 w2 ho2 hg2 hv2; have HO2 := Lib.hid ho2; have HG2 := Lib.hid hg2; have HV2 := Lib.hid hv2; clear ho2 hg2 hv2)
  have h2 := HO2.out
  rw [Nat.zero_add] at h2
  obtain ⟨g, c, rfl, h3, h4, h5, h6⟩ := owned_new h2 (fun e => by have := (HV2.out e).1; simp at this)
  have HB2 : Hid (Below w.heap.size w w2) := Lib.hid (below_grownBy HB.out HO.out HG2.out (Nat.le_refl _) (Nat.le_refl _))
  have HR2 : Hid (RowAt w2 g 4 (l.map Value.bool)) := Lib.hid (by simpa using h6)
  have HG3 := Lib.hid h3
  clear h2 h3 h5 h6 HG2 HO2 HV2 HO HB HC hbase
  go_wp2_with fail
  go_loopw [10] (fun i wr => ∃ k : Nat, k ≤ m ∧ i = .int .i64 (k : Int) ∧ RowAt wr g 4 ((setTo l s v k).map Value.bool) ∧ Below w.heap.size w wr) (fun i _ => m - (intOf i).toNat)
  case atStart => exact ⟨0, Nat.zero_le _, rfl, HR2.out, HB2.out⟩
  case round =>
    obtain ⟨k, hk, rfl, hr, hb⟩ := hrel
    have HR := Lib.hid hr
    have HB := Lib.hid hb
    clear hr hb
    by_cases hlt : k < m
    · have hlt' : (k : Int) < (m : Int) := by omega
      have hin : s + k < n := by omega
      have hin' : (s : Int) + (k : Int) < (n : Int) := by omega
      have HIn : Hid (s + k < l.length) := Lib.hid (by rw [HN.out]; exact hin)
      obtain ⟨u, hu⟩ : ∃ u, ((setTo l s v k).map Value.bool)[s + k]? = some u := ⟨_, List.getElem?_eq_getElem (by rw [List.length_map, setTo_length]; exact HIn.out)⟩
      have e0 : wr.cell? ⟨g, s + k, none⟩ = some u := HR.out.cell hu
      have e1 : wr.frozen? ⟨g, s + k, none⟩ = false := HR.out.frozen _
      have hto : ((s : Int) + (k : Int)).toNat = s + k := by omega
      clear hu
      go_wp2_with fail
      go_roundw
      case rel => exact ⟨k + 1, by omega, vint (by omega), setTo_row HR.out HIn.out, HB.out.setCell HG3.out _⟩
      case measure => simp [intOf]; omega
    · obtain rfl : k = m := by omega
      have hlt' : decide ((k : Int) < (k : Int)) = false := by simp
      go_wp2_with fail
      rw [← HPo.out]
      exact ⟨some ⟨g, 0, none⟩, c, by rw [setTo_length, HN.out]; rfl, HR.out.cells, HB.out⟩

/-- The last run ends where the next block is free. -/
theorem runsTo_last (f : Nat → Bool) : ∀ b, 0 < b → f (b - 1) = true → ∃ ys s n, runsTo f b = ys ++ [(s, n)]
  | 0, h, _ => by omega
  | b + 1, _, hf => by
    have hf' : f b = true := by simpa using hf
    rw [runsTo, if_pos hf']
    by_cases h : 0 < b ∧ f (b - 1) = true
    · rw [if_pos h]
      obtain ⟨ys, s, n, e⟩ := runsTo_last f b h.1 h.2
      rw [e]
      exact ⟨ys, s, n + 1, by simp⟩
    · rw [if_neg h]
      exact ⟨runsTo f b, b, 1, rfl⟩

/-- What a round of List meets. -/
theorem runs_round (f : Nat → Bool) (b : Nat) :
    (f b = false ∧ runsTo f (b + 1) = runsTo f b) ∨
    (f b = true ∧ 0 < b ∧ f (b - 1) = true ∧ ∃ ys s n, runsTo f b = ys ++ [(s, n)] ∧ n ≤ b ∧ runsTo f (b + 1) = ys ++ [(s, n + 1)]) ∨
    (f b = true ∧ (b = 0 ∨ 0 < b ∧ f (b - 1) = false) ∧ runsTo f (b + 1) = runsTo f b ++ [(b, 1)]) := by
  cases hf : f b with
  | false => exact .inl ⟨rfl, by rw [runsTo, if_neg (by simp [hf])]⟩
  | true =>
    right
    by_cases h : 0 < b ∧ f (b - 1) = true
    · obtain ⟨ys, s, n, e⟩ := runsTo_last f b h.1 h.2
      refine .inl ⟨rfl, h.1, h.2, ys, s, n, e, ?_, by rw [runsTo, if_pos hf, if_pos h, e]; simp⟩
      have h1 := sum_runsTo f b
      rw [e, sum_app] at h1
      simp [sumOf] at h1
      omega
    · refine .inr ⟨rfl, ?_, by rw [runsTo, if_pos hf, if_neg h]⟩
      rcases Nat.eq_zero_or_pos b with h0 | h0
      · exact .inl h0
      · exact .inr ⟨h0, by cases hp : f (b - 1) with | false => rfl | true => exact absurd ⟨h0, hp⟩ h⟩

theorem Cells.owned2 {w : World} {base e n size cap : Nat} {a : Option Addr} {xs : List Value} (h : w.ownsRow base e size (.slice a n cap) n xs) : Cells w a xs := by
  rcases h.2 with ⟨_, h0⟩ | ⟨g, cap', cur, hv, _⟩
  · exact .inl (List.eq_nil_of_length_eq_zero (by have := h.1; rw [h0] at this; simpa using this))
  · refine .inr ⟨g, 0, by simp at hv; exact hv.1, fun i v hi => ?_⟩
    simp at hv
    obtain ⟨rfl, _⟩ := hv
    have := h.cells (g := g) rfl i v hi
    have ha : (⟨g, 0, none⟩ : Addr).add i = ⟨g, 0 + i, none⟩ := by unfold Addr.add; split <;> simp_all
    rwa [ha] at this

theorem bl_at {w : World} {a : Option Addr} {l : List Bool} (h : Cells w a (l.map Value.bool)) {i : Nat} (hi : i < l.length) :
    ∃ b off, a = some ⟨b, off, none⟩ ∧ ∀ j, j < l.length → w.cell? ⟨b, off + j, none⟩ = some (.bool (fb l j)) := by
  obtain ⟨b, off, h1, _, h2⟩ := h.atMap false hi
  exact ⟨b, off, h1, h2⟩

set_option maxHeartbeats 2000000 in
theorem rlist_any (a : Option Addr) (n cap : Nat) (l : List Bool) (hn : l.length = n) (w : World) (hc : Cells w a (l.map Value.bool)) (hl : n ≤ 100000000000) :
    Calls Try.prog 23 #[.slice a n cap] w (SpList w (runsOf l)) := by
  have HN := Lib.hid hn
  have HC := Lib.hid hc
  have HRl := Lib.hid (runs_len (fb l))
  have HRo : Hid (runsOf l = runsTo (fb l) n) := Lib.hid (by rw [← hn]; rfl)
  generalize hPo : SpList w (runsOf l) = Post
  have HPo := Lib.hid hPo
  clear hn hc hPo
  go_enter Try.func23, Try.ntmps23
  go_wp2_with fail
  go_loopw [3, 4] (fun v i wr => ∃ b : Nat, b ≤ n ∧ i = .int .i64 (b : Int) ∧ wr.ownsRow w.heap.size 66 2 v (runsTo (fb l) b).length (spCs (runsTo (fb l) b)) ∧ Below w.heap.size w wr) (fun _ i _ => n - (intOf i).toNat)
  case atStart => exact ⟨0, Nat.zero_le _, rfl, ⟨rfl, .inl ⟨rfl, rfl⟩⟩, Below.refl _ _⟩
  case round =>
    obtain ⟨b, hbn, rfl, ho, hb⟩ := hrel
    by_cases hlt : b < n
    · have hlt' : (b : Int) < (n : Int) := by omega
      have HB := Lib.hid hb
      obtain ⟨bl, off, rfl, dd⟩ := bl_at (HC.out.below hb (Nat.le_refl _)) (i := b) (by rw [HN.out]; exact hlt)
      have d0 := dd b (by rw [HN.out]; exact hlt)
      have DD := Lib.hid dd
      clear dd
      have hr := runs_round (fb l) b
      have HLb := Lib.hid (HRl.out b)
      rcases hr with ⟨hk, hs⟩ | ⟨hk, h1b, hk2, pl, s, m, hs1, hs2, hs3⟩ | ⟨hk, hp, hs3⟩
      · rw [hk] at d0
        obtain ⟨a1, c1, rfl, hc1, hm1⟩ := owned_form ho
        have HO : Hid (wr.ownsRow w.heap.size 66 2 (.slice a1 (runsTo (fb l) b).length c1) (runsTo (fb l) (b + 1)).length (spCs (runsTo (fb l) (b + 1)))) := Lib.hid (by rw [hs]; exact ho)
        clear ho hs hk HLb hb
        go_wp2_with fail
        exact ⟨⟨b + 1, by omega, vint (by omega), HO.out, HB.out⟩, by simp [intOf]; omega⟩
      · rw [hk] at d0
        have d1 := DD.out (b - 1) (by rw [HN.out]; omega)
        rw [hk2] at d1
        rw [hs1] at ho
        obtain ⟨L, hL⟩ : ∃ L, L = pl.length := ⟨_, rfl⟩
        rw [show (pl ++ [(s, m)]).length = L + 1 by simp [hL]] at ho
        obtain ⟨g, c1, rfl, hc1, hm1, hg1, hg2⟩ := owned_some ho (by omega)
        have hr := owned_row ho
        have hla := spCs_last pl s m
        rw [← hL] at hla
        have e1 : wr.cell? ⟨g, L * 2 + 1, none⟩ = some (.int .i64 (m : Int)) := hr.cell hla.2
        have f1 : wr.frozen? ⟨g, L * 2 + 1, none⟩ = false := hr.frozen _
        have HL := Lib.hid hL
        have HS3 := Lib.hid hs3
        have HO1 := Lib.hid ho
        have hLb : L < 1000000000000 := by have := HLb.out; rw [hs1] at this; simp [← hL] at this; omega
        have hb1 : 0 < (b : Int) := by omega
        have hto : ((b : Int) - 1).toNat = b - 1 := by omega
        have hbm : (b : Int) - 1 < (n : Int) := by omega
        clear ho hs1 hs3 hL hla hr hk hk2 HLb hb h1b
        have hw1 : IntKind.i64.wrap (L : Int) = L := IntWalk.i64_in _ (by omega)
        go_wp2_with fail
        clear hw1
        refine ⟨⟨b + 1, by omega, vint (by omega), ?_, ?_⟩, by simp [intOf]; omega⟩
        · rw [HS3.out, ← show ((m + 1 : Nat) : Int) = (m : Int) + 1 from rfl, ← spCs_bump pl s m (m + 1), show (pl ++ [(s, m + 1)] : List Sp).length = L + 1 by simp [HL.out], ← HL.out]
          exact (HO1.out.stored (L * 2 + 1) _).1
        · exact below_grownBy HB.out HO1.out (HO1.out.stored (L * 2 + 1) _).2 (Nat.le_refl _) (Nat.le_refl _)
      · rw [hk] at d0
        obtain ⟨a1, c1, rfl, hc1, hm1⟩ := owned_form ho
        have HO1 := Lib.hid ho
        have HS3 := Lib.hid hs3
        have hone : Hid (∀ u ∈ (#[Value.int .i64 (b : Int), Value.int .i64 1] : Array Value).toList, u.oneCell' = true) := Lib.hid (by intro u hu; simp at hu; rcases hu with rfl | rfl <;> rfl)
        have hL9 : (runsTo (fb l) b).length < 1000000000000 := by have := HLb.out; omega
        have hbase : Hid (w.heap.size ≤ wr.heap.size) := Lib.hid hb.size
        rcases hp with h0 | ⟨h0, hk2⟩
        · have q1 : decide (0 < (b : Int)) = false := by simp; omega
          have q2 : decide (0 < b) = false := by simp; omega
          clear ho hs3 hk HLb hb h0
          go_wp2_with (at_builtin; refine wpList_append_new (us := #[.int .i64 (b : Int), .int .i64 1]) elR10 HO1.out rfl hone.out hL9 (by decide) hbase.out rfl rfl rfl (by simp [Act.eval]) ?_; intro g6 c6 w6 ho6 hg6 hc6 hm6 hb6 hl6; have HO6 := Lib.hid ho6; have HG6 := Lib.hid hg6; clear ho6 hg6)
          refine ⟨⟨b + 1, by omega, vint (by omega), ?_, below_grownBy HB.out HO1.out HG6.out (Nat.le_refl _) (Nat.le_refl _)⟩, by simp [intOf]; omega⟩
          rw [HS3.out, List.length_append, spCs_append]
          exact HO6.out
        · have d1 := DD.out (b - 1) (by rw [HN.out]; omega)
          rw [hk2] at d1
          have hb1 : 0 < (b : Int) := by omega
          have hto : ((b : Int) - 1).toNat = b - 1 := by omega
          have hbm : (b : Int) - 1 < (n : Int) := by omega
          clear ho hs3 hk hk2 HLb hb h0
          go_wp2_with (at_builtin; refine wpList_append_new (us := #[.int .i64 (b : Int), .int .i64 1]) elR10 HO1.out rfl hone.out hL9 (by decide) hbase.out rfl rfl rfl (by simp [Act.eval]) ?_; intro g6 c6 w6 ho6 hg6 hc6 hm6 hb6 hl6; have HO6 := Lib.hid ho6; have HG6 := Lib.hid hg6; clear ho6 hg6)
          refine ⟨⟨b + 1, by omega, vint (by omega), ?_, below_grownBy HB.out HO1.out HG6.out (Nat.le_refl _) (Nat.le_refl _)⟩, by simp [intOf]; omega⟩
          rw [HS3.out, List.length_append, spCs_append]
          exact HO6.out
    · obtain rfl : b = n := by omega
      obtain ⟨a1, c1, rfl, hc1, hm1⟩ := owned_form ho
      have HO := Lib.hid ho
      have HB := Lib.hid hb
      have hlt' : decide ((b : Int) < (b : Int)) = false := by simp
      clear ho hb
      go_wp2_with fail
      rw [← HPo.out, HRo.out]
      exact ⟨a1, c1, rfl, Cells.owned2 HO.out, HB.out⟩

/-- What the reference's Give leaves. -/
def RGive (w : World) (l : List Bool) (r : List Bool × Int) : Ending → World → Prop := fun e w' => ∃ (a : Option Addr) (c : Nat), e = .returned (.tuple #[.slice a l.length c, .int .i64 r.2]) ∧ Cells w' a (r.1.map Value.bool) ∧ Below w.heap.size w w'

theorem giveR_len (l : List Bool) (a m : Int) : (giveR l a m).1.length = l.length := by
  unfold giveR
  split
  · rfl
  · split
    · rfl
    · rw [setTo_length]
theorem takeR_len (l : List Bool) (m : Int) : (takeR l m).1.length = l.length := by
  unfold takeR
  split
  · rfl
  · split
    · rfl
    · rw [setTo_length]

set_option maxHeartbeats 1000000 in
theorem rgive_any (a : Option Addr) (n cap : Nat) (l : List Bool) (hn : l.length = n) (s m : Int) (w : World) (hc : Cells w a (l.map Value.bool)) (hl : n ≤ 100000000000) :
    Calls Try.prog 14 #[.slice a n cap, .int .i64 s, .int .i64 m] w (RGive w l (giveR l s m)) := by
  by_cases hbad : s < 1 ∨ m < 1 ∨ (n : Int) ≤ s ∨ (n : Int) - s < m
  · have hR := giveR_arg (l := l) (a := s) (m := m) (by rw [hn]; exact hbad)
    have HP : Hid (RGive w l (giveR l s m) (.returned (.tuple #[.slice a n cap, .int .i64 1])) w) := Lib.hid (by unfold RGive; rw [hR]; exact ⟨a, cap, by rw [hn], hc, Below.refl _ _⟩)
    have hcase : s < 1 ∨ (1 ≤ s ∧ m < 1) ∨ (1 ≤ s ∧ 1 ≤ m ∧ (n : Int) ≤ s) ∨ (1 ≤ s ∧ 1 ≤ m ∧ s < (n : Int) ∧ (n : Int) - s < m) := by omega
    generalize RGive w l (giveR l s m) = Post at *
    clear hR hbad hc hn
    rcases hcase with h1 | ⟨h1, h2⟩ | ⟨h1, h2, h3⟩ | ⟨h1, h2, h3, h4⟩
    all_goals
      go_enter Try.func14, Try.ntmps14
      go_wp2_with fail
      exact HP.out
  · obtain ⟨s, rfl⟩ := Int.eq_ofNat_of_zero_le (show 0 ≤ s by omega)
    obtain ⟨m, rfl⟩ := Int.eq_ofNat_of_zero_le (show 0 ≤ m by omega)
    have hb : 1 ≤ s ∧ 1 ≤ m ∧ s + m ≤ l.length := by omega
    have HTw : Hid (anyFree l s m = true → RGive w l (giveR l s m) (.returned (.tuple #[.slice a n cap, .int .i64 41])) w) := Lib.hid (fun hf => by
      unfold RGive; rw [giveR_twice hb hf]; exact ⟨a, cap, by rw [hn], hc, Below.refl _ _⟩)
    have HOk : Hid (anyFree l s m = false → ∀ a' c' w', Cells w' a' ((setTo l s true m).map Value.bool) → Below w.heap.size w w' → RGive w l (giveR l s m) (.returned (.tuple #[.slice a' n c', .int .i64 0])) w') := Lib.hid (fun hf a' c' w' h1 h2 => by
      unfold RGive; rw [giveR_ok hb hf]; exact ⟨a', c', by rw [hn], h1, h2⟩)
    obtain ⟨g1, g2, g3⟩ := hb
    rw [hn] at g3
    obtain ⟨bl, off, rfl, dd⟩ := bl_at hc (i := s) (by omega)
    have HC := Lib.hid hc
    have HN := Lib.hid hn
    have DD := Lib.hid dd
    generalize RGive w l (giveR l s m) = Post at *
    clear hbad hc dd hn
    have q1 : decide ((s : Int) < 1) = false := by simp; omega
    have q2 : decide ((m : Int) < 1) = false := by simp; omega
    have q3 : decide (n ≤ s) = false := by simp; omega
    have q4 : decide ((n : Int) - (s : Int) < (m : Int)) = false := by simp; omega
    go_enter Try.func14, Try.ntmps14
    go_wp2_with fail
    go_loop [6, 7, 8] (fun _ _ i => ∃ k : Nat, k ≤ m ∧ i = .int .i64 (k : Int) ∧ anyFree l s k = false) (fun _ _ i => m - (intOf i).toNat)
    case atStart => exact ⟨0, Nat.zero_le _, rfl, rfl⟩
    case round =>
      obtain ⟨k, hk, rfl, hf⟩ := hrel
      have HF := Lib.hid hf
      clear hf
      by_cases hlt : k < m
      · have hlt' : (k : Int) < (m : Int) := by omega
        have hin : (s : Int) + (k : Int) < (n : Int) := by omega
        have hto : ((s : Int) + (k : Int)).toNat = s + k := by omega
        have d0 := DD.out (s + k) (by rw [HN.out]; omega)
        cases hfb : fb l (s + k) with
        | true =>
          rw [hfb] at d0
          have HAll : Hid (anyFree l s m = true) := Lib.hid (anyFree_one (b := s + k) (by omega) (by omega) hfb)
          clear hfb
          go_wp2_with fail
          exact HTw.out HAll.out
        | false =>
          rw [hfb] at d0
          have HN1 : Hid (anyFree l s (k + 1) = false) := Lib.hid (by rw [anyFree, HF.out, hfb]; rfl)
          clear hfb
          go_wp2_with fail
          go_round
          case rel => exact ⟨k + 1, by omega, vint (by omega), HN1.out⟩
          case measure => simp [intOf]; omega
      · obtain rfl : k = m := by omega
        have hlt' : decide ((k : Int) < (k : Int)) = false := by simp
        go_wp2_with fail
        refine (rset_any (some ⟨bl, off, none⟩) n cap l HN.out s k true w HC.out (by omega) hl).mono ?_
        rintro e w1 ⟨a', c', rfl, hc1, hb1⟩
        rw [setTo_length, HN.out]
        have HC1 := Lib.hid hc1
        have HB1 := Lib.hid hb1
        clear hc1 hb1
        go_wp2_with fail
        exact HOk.out HF.out _ _ _ HC1.out HB1.out

/-- What the reference's Take leaves. -/
def RTake (w : World) (l : List Bool) (r : List Bool × Int × Int) : Ending → World → Prop := fun e w' => ∃ (a : Option Addr) (c : Nat), e = .returned (.tuple #[.slice a l.length c, .int .i64 r.2.1, .int .i64 r.2.2]) ∧ Cells w' a (r.1.map Value.bool) ∧ Below w.heap.size w w'

/-- The best one among the first spans. -/
def BestIx (L : List Sp) (m i : Nat) (v : Int) : Prop := (v = -1 ∧ pick m L = pickGo m none (L.drop i)) ∨ ∃ j x, v = (j : Nat) ∧ L[j]? = some x ∧ pick m L = pickGo m (some x) (L.drop i)

theorem drop_next {L : List Sp} {i : Nat} {x : Sp} (h : L[i]? = some x) : L.drop i = x :: L.drop (i + 1) := by
  obtain ⟨h1, h2⟩ := List.getElem?_eq_some_iff.1 h
  rw [List.drop_eq_getElem_cons h1, h2]

theorem sp_getD {L : List Sp} {i : Nat} {x : Sp} (h : L[i]? = some x) : L.getD i (0, 0) = (x.1, x.2) := by
  rw [List.getD_eq_getElem?_getD, h]; rfl

set_option maxHeartbeats 4000000 in
theorem rtake_any (a : Option Addr) (n cap : Nat) (l : List Bool) (hn : l.length = n) (z : Int) (w : World) (hc : Cells w a (l.map Value.bool)) (hl : n ≤ 100000000000) :
    Calls Try.prog 17 #[.slice a n cap, .int .i64 z] w (RTake w l (takeR l z)) := by
  by_cases hz : z < 1
  · have HP : Hid (RTake w l (takeR l z) (.returned (.tuple #[.slice a n cap, .int .i64 0, .int .i64 1])) w) := Lib.hid (by unfold RTake; rw [takeR_arg hz]; exact ⟨a, cap, by rw [hn], hc, Below.refl _ _⟩)
    generalize RTake w l (takeR l z) = Post at *
    clear hc hn
    go_enter Try.func17, Try.ntmps17
    go_wp2_with fail
    go_ret3
    exact HP.out
  obtain ⟨m, rfl⟩ := Int.eq_ofNat_of_zero_le (show 0 ≤ z by omega)
  have hm1 : 1 ≤ m := by omega
  have HNone : Hid (pick m (runsOf l) = none → ∀ w', Below w.heap.size w w' → RTake w l (takeR l m) (.returned (.tuple #[.slice a n cap, .int .i64 0, .int .i64 4])) w') := Lib.hid (fun hp w' hb => by
    unfold RTake; rw [takeR_none hm1 hp]; exact ⟨a, cap, by rw [hn], hc.below hb (Nat.le_refl _), hb⟩)
  have HSome : Hid (∀ x : Sp, pick m (runsOf l) = some x → ∀ a' c' w', Cells w' a' ((setTo l x.1 false m).map Value.bool) → Below w.heap.size w w' → RTake w l (takeR l m) (.returned (.tuple #[.slice a' n c', .int .i64 (x.1 : Int), .int .i64 0])) w') := Lib.hid (fun x hp a' c' w' h1 h2 => by
    unfold RTake; rw [takeR_some hm1 hp]; exact ⟨a', c', by rw [hn], h1, h2⟩)
  have HC := Lib.hid hc
  have HN := Lib.hid hn
  have HRl : Hid ((runsOf l).length ≤ n) := Lib.hid (by rw [← hn]; exact runs_len (fb l) l.length)
  generalize RTake w l (takeR l m) = Post at *
  clear hc hn
  have q1 : decide ((m : Int) < 1) = false := by simp; omega
  go_enter Try.func17, Try.ntmps17
  go_wp2_with fail
  refine (rlist_any a n cap l HN.out w HC.out hl).mono ?_
  rintro e w1 ⟨al, cl, rfl, hcl, hb1⟩
  have HCl := Lib.hid hcl
  have HB1 := Lib.hid hb1
  clear hcl hb1
  obtain ⟨L, hL⟩ : ∃ L, L = runsOf l := ⟨_, rfl⟩
  rw [← hL] at HCl HRl HNone HSome ⊢
  obtain ⟨N, hN⟩ : ∃ N, N = L.length := ⟨_, rfl⟩
  rw [← hN] at HRl ⊢
  have HLe := Lib.hid hL
  have HNe := Lib.hid hN
  have hNn := HRl.out
  clear hL hN
  go_wp2_with fail
  go_loopw [8, 9] (fun v i wr => ∃ (k : Nat) (b : Int), k ≤ N ∧ i = .int .i64 (k : Int) ∧ v = .int .i64 b ∧ BestIx L m k b ∧ Below w1.heap.size w1 wr) (fun _ i _ => N - (intOf i).toNat)
  case atStart => exact ⟨0, -1, Nat.zero_le _, rfl, rfl, .inl ⟨rfl, rfl⟩, Below.refl _ _⟩
  case round =>
    obtain ⟨k, b, hk, rfl, rfl, hbest, hb⟩ := hrel
    have HB := Lib.hid hb
    have HC2 := Lib.hid (HCl.out.below hb (Nat.le_refl _))
    clear hb
    by_cases hlt : k < N
    · have hlt' : (k : Int) < (N : Int) := by omega
      have hkL : k < L.length := by rw [← HNe.out]; exact hlt
      obtain ⟨x, hx⟩ : ∃ x, L[k]? = some x := ⟨_, List.getElem?_eq_getElem hkL⟩
      obtain ⟨bl, off, rfl, _, d1⟩ := sp_cells HC2.out hkL (sp_getD hx)
      have hdn := drop_next hx
      obtain ⟨s, d⟩ := x
      dsimp only at d1
      by_cases hmd : m ≤ d
      · have hmd' : (m : Int) ≤ (d : Int) := by omega
        rcases hbest with ⟨rfl, hp⟩ | ⟨j, y, rfl, hy, hp⟩
        · have HNew : Hid (BestIx L m (k + 1) (k : Int)) := Lib.hid (.inr ⟨k, (s, d), rfl, hx, by rw [hp, hdn, pickGo, if_pos (by simp [shorter, hmd])]⟩)
          clear hp hdn hx hkL
          go_wp2_with fail
          go_quiet (fail)
          go_wp2_with fail
          go_roundw
          case rel => exact ⟨k + 1, (k : Int), by omega, vint (by omega), rfl, HNew.out, below_drewN HB.out _⟩
          case measure => simp [intOf]; omega
        · have hjL : j < L.length := (List.getElem?_eq_some_iff.1 hy).1
          have hjN : (j : Int) < (N : Int) := by rw [HNe.out]; omega
          obtain ⟨bl', off', he, _, d2⟩ := sp_cells HC2.out hjL (sp_getD hy)
          cases he
          obtain ⟨s2, d2v⟩ := y
          dsimp only at d2
          have q2 : decide ((j : Int) < 0) = false := by simp
          by_cases hsh : d < d2v
          · have hsh' : (d : Int) < (d2v : Int) := by omega
            have HNew : Hid (BestIx L m (k + 1) (k : Int)) := Lib.hid (.inr ⟨k, (s, d), rfl, hx, by rw [hp, hdn, pickGo, if_pos (by simp [shorter, hmd]; omega)]⟩)
            clear hp hdn hx hkL hy hjL
            go_wp2_with fail
            go_quiet (fail)
            go_wp2_with fail
            go_roundw
            case rel => exact ⟨k + 1, (k : Int), by omega, vint (by omega), rfl, HNew.out, below_drewN HB.out _⟩
            case measure => simp [intOf]; omega
          · have hsh' : decide ((d : Int) < (d2v : Int)) = false := by simp; omega
            have hsh2 : decide (d < d2v) = false := by simp; omega
            have HNew : Hid (BestIx L m (k + 1) (j : Int)) := Lib.hid (.inr ⟨j, (s2, d2v), rfl, hy, by rw [hp, hdn, pickGo, if_neg (by simp [shorter, hmd]; omega)]⟩)
            clear hp hdn hx hkL hy hjL hsh
            go_wp2_with fail
            go_quiet (fail)
            go_wp2_with fail
            go_roundw
            case rel => exact ⟨k + 1, (j : Int), by omega, vint (by omega), rfl, HNew.out, below_drewN HB.out _⟩
            case measure => simp [intOf]; omega
      · have hmd' : decide ((m : Int) ≤ (d : Int)) = false := by simp; omega
        have hmd2 : decide (m ≤ d) = false := by simp; omega
        have HNew : Hid (BestIx L m (k + 1) b) := Lib.hid (by
          rcases hbest with ⟨rfl, hp⟩ | ⟨j, y, rfl, hy, hp⟩
          · exact .inl ⟨rfl, by rw [hp, hdn, pickGo, if_neg (by simp [shorter, hmd])]⟩
          · exact .inr ⟨j, y, rfl, hy, by rw [hp, hdn, pickGo, if_neg (by simp [shorter, hmd])]⟩)
        clear hdn hx hkL hbest hmd
        go_wp2_with fail
        go_quiet (fail)
        go_wp2_with fail
        go_roundw
        case rel => exact ⟨k + 1, b, by omega, vint (by omega), rfl, HNew.out, below_drewN HB.out _⟩
        case measure => simp [intOf]; omega
    · obtain rfl : k = N := by omega
      have hlt' : decide ((k : Int) < (k : Int)) = false := by simp
      have hdr : L.drop k = [] := List.drop_of_length_le (by rw [← HNe.out]; exact Nat.le_refl _)
      have HB2 : Hid (Below w.heap.size w wr) := Lib.hid (HB1.out.trans (HB.out.mono HB1.out.size))
      rcases hbest with ⟨rfl, hp⟩ | ⟨j, y, rfl, hy, hp⟩
      · rw [hdr] at hp
        have HPk : Hid (pick m L = none) := Lib.hid hp
        clear hp hdr hlt
        go_wp2_with fail
        go_ret3
        exact HNone.out HPk.out _ HB2.out
      · rw [hdr] at hp
        have HPk : Hid (pick m L = some y) := Lib.hid hp
        have hjL : j < L.length := (List.getElem?_eq_some_iff.1 hy).1
        have hjN : (j : Int) < (k : Int) := by rw [HNe.out]; omega
        obtain ⟨bl, off, rfl, d0, _⟩ := sp_cells HC2.out hjL (sp_getD hy)
        have hrun := pick_run (l := l) (n := m) (x := y) (by rw [← HLe.out]; exact hp)
        have hin := runEnds hrun.1
        have HIn : Hid (y.1 + m ≤ n) := Lib.hid (by have := hrun.2; have := HN.out; omega)
        have q2 : decide ((j : Int) < 0) = false := by simp
        clear hp hdr hlt hy hjL hrun hin
        have HCw := Lib.hid (HC.out.below HB2.out (Nat.le_refl _))
        go_upto_region 12 with fail
        have r0 := fun x => later_cell d0 x
        refine wp_region_seg (C := fun w' => ∃ x : Later (wr), w' = x.val) [.fl [0, 1, 2, 3, 4, 5, 6, 8, 9, 10, 11, 12], .sq [7] true, .fl [13], .sq [14, 15] false] (by kernel_rfl) (by kernel_rfl) (by intro c a d v w h; cases d <;> exact h) ?_
        simp only [segs, picks, List.getElem?_cons_succ, List.getElem?_cons_zero]
        have hC1 := later_drew (wr)
        refine wpSeg_fl hC1 ?_
        repeat (first | go_big_quiet_step (fail) | quiet_step (fail))
        refine wpQuiet_nil ?_
        refine wpSeg_sq (fun K hK => ?_)
        go_wp2_with fail
        refine (rset_any a n cap l HN.out y.1 m false _ (HCw.out.below (later_below hC1) (Nat.le_refl _)) HIn.out hl).mono ?_
        rintro e w3 ⟨a', c', rfl, hc3, hb3⟩
        rw [setTo_length, HN.out]
        have HC3 := Lib.hid hc3
        have hC2 := later_step hC1 hb3
        clear hc3 hb3
        go_wp2_with fail
        refine hK _ _ (fun _ => hC2) ?_
        clear hK K
        refine wpSeg_fl hC2 ?_
        repeat (first | go_big_quiet_step (fail) | quiet_step (fail))
        refine wpQuiet_nil ?_
        refine wpSeg_last ?_
        go_wp2_with fail
        go_ret3
        exact HSome.out y HPk.out _ _ _ HC3.out (HB2.out.trans ((later_below hC2).mono HB2.out.size))

set_option maxHeartbeats 1000000 in
theorem rtotal_any (a : Option Addr) (n cap : Nat) (L : List Sp) (hn : L.length = n) (w : World) (hc : Cells w a (spCs L)) (hs : sumOf L ≤ 100000000000) (hl : n ≤ 100000000000) :
    Calls Try.prog 24 #[.slice a n cap] w fun e w' => e = .returned (.tuple #[.int .i64 (sumOf L : Nat), .int .i64 (longOf L : Nat)]) ∧ w' = w := by
  have HN := Lib.hid hn
  have HC := Lib.hid hc
  have HS := Lib.hid hs
  clear hn hc hs
  go_enter Try.func24, Try.ntmps24
  go_wp2_with fail
  go_loop [4, 5, 6] (fun x y i => ∃ k p q : Nat, k ≤ n ∧ i = .int .i64 (k : Int) ∧ x = .int .i64 (p : Int) ∧ y = .int .i64 (q : Int) ∧ p = sumOf (L.take k) ∧ q = longOf (L.take k)) (fun _ _ i => n - (intOf i).toNat)
  case atStart => exact ⟨0, 0, 0, Nat.zero_le _, rfl, rfl, rfl, by simp [sumOf], by simp [longOf]⟩
  case round =>
    obtain ⟨k, p, q, hk, rfl, rfl, rfl, hp, hq⟩ := hrel
    have HP := Lib.hid hp
    have HQ := Lib.hid hq
    clear hp hq
    by_cases hlt : k < n
    · have hlt' : (k : Int) < (n : Int) := by omega
      have hkL : k < L.length := by rw [HN.out]; exact hlt
      obtain ⟨⟨s, d⟩, hx⟩ : ∃ x, L[k]? = some x := ⟨_, List.getElem?_eq_getElem hkL⟩
      obtain ⟨bl, off, rfl, _, d1⟩ := sp_cells HC.out hkL (sp_getD hx)
      dsimp only at d1
      have htk : L.take (k + 1) = L.take k ++ [(s, d)] := by
        obtain ⟨h1, h2⟩ := List.getElem?_eq_some_iff.1 hx
        rw [List.take_succ_eq_append_getElem hkL, h2]
      have HP1 : Hid (p + d = sumOf (L.take (k + 1))) := Lib.hid (by rw [htk, sum_add, HP.out])
      have HQ1 : Hid (max q d = longOf (L.take (k + 1))) := Lib.hid (by rw [htk, long_add, HQ.out])
      have hbd : p + d ≤ 100000000000 := by
        rw [HP1.out]
        have h2 := congrArg sumOf (List.take_append_drop (k + 1) L)
        rw [sum_app] at h2
        have := HS.out
        omega
      clear hx hkL htk
      by_cases hm : q ≤ d
      · have HM : Hid (max q d = d) := Lib.hid (by omega)
        have hm' : (q : Int) ≤ (d : Int) := by omega
        go_wp2_with fail
        all_goals
          go_round
          case rel => exact ⟨k + 1, p + d, max q d, by omega, vint (by omega), vint (by omega), vint (by omega), HP1.out, HQ1.out⟩
          case measure => simp [intOf]; omega
      · go_wp2_with fail
        all_goals
          go_round
          case rel => exact ⟨k + 1, p + d, max q d, by omega, vint (by omega), vint (by omega), vint (by omega), HP1.out, HQ1.out⟩
          case measure => simp [intOf]; omega
    · obtain rfl : k = n := by omega
      have hlt' : decide ((k : Int) < (k : Int)) = false := by simp
      have htk : L.take k = L := List.take_of_length_le (by rw [HN.out]; exact Nat.le_refl _)
      rw [htk] at HP HQ
      clear hlt htk
      go_wp2_with fail
      go_ret2
      rw [← HP.out, ← HQ.out]
      exact ⟨rfl, rfl⟩

end Go.Proofs.Ytlaaamaaabcfeaa

/- What the walk is told of a slice of unsigned numbers that came in, as cells. -/
namespace Go.Proofs.Ytlaaamaaabcfeaa
open Go.RowKit
set_option linter.unusedVariables false

theorem wf_u64 {z : Int} (h : (Lit.int .u64 z).wf = true) : 0 ≤ z ∧ z < 18446744073709551616 := by
  simp [Lit.wf, IntKind.min, IntKind.max, IntKind.signed, IntKind.bits] at h; omega
theorem wf_u8 {z : Int} (h : (Lit.int .u8 z).wf = true) : 0 ≤ z ∧ z < 256 := by
  simp [Lit.wf, IntKind.min, IntKind.max, IntKind.signed, IntKind.bits] at h; omega
theorem wf_i64 {z : Int} (h : (Lit.int .i64 z).wf = true) : -9223372036854775808 ≤ z ∧ z ≤ 9223372036854775807 := by
  simp [Lit.wf, IntKind.min, IntKind.max, IntKind.signed, IntKind.bits] at h; omega

/-- A row of numbers that came in, its first len elements. -/
theorem row_ints {k : IntKind} {w : World} {a : Option Addr} {len cap : Nat} {zs : List Int}
    (h : (a = none ∧ len = 0 ∧ cap = 0 ∧ zs = []) ∨ ∃ x, a = some x ∧ len ≤ cap ∧ cap ≤ maxLen ∧ zs.length = cap ∧ (∀ i, i < zs.length → w.cell? (x.add i) = some (.int k (zs.getD i 0))) ∧ ∀ n ∈ zs, (Lit.int k n).wf = true) :
    (zs.take len).length = len ∧ Cells w a ((zs.take len).map (Value.int k)) ∧ (∀ z ∈ zs.take len, (Lit.int k z).wf = true) ∧ len ≤ cap ∧ cap ≤ maxLen := by
  rcases h with ⟨rfl, rfl, rfl, rfl⟩ | ⟨x, rfl, hl, hm, hz, hc, hw⟩
  · exact ⟨rfl, Cells.nil _ _, by simp, Nat.le_refl _, Nat.zero_le _⟩
  · refine ⟨by rw [List.length_take]; omega, ?_, fun z hz => hw z (List.mem_of_mem_take hz), hl, hm⟩
    by_cases h0 : len = 0
    · subst h0; simp; exact Cells.nil _ _
    · obtain ⟨b, off, spot⟩ := x
      have hs := hc 0 (by omega)
      have hspot : spot = none := by simpa [Addr.add] using World.cell?_spot hs
      subst hspot
      refine .inr ⟨b, off, rfl, fun i v hi => ?_⟩
      rw [List.getElem?_map] at hi
      obtain ⟨z, hz', rfl⟩ := Option.map_eq_some_iff.1 hi
      rw [List.getElem?_take] at hz'
      split at hz'
      · rename_i hlt
        have := hc i (by omega)
        have e : (⟨b, off, none⟩ : Addr).add i = ⟨b, off + i, none⟩ := by unfold Addr.add; split <;> simp_all
        rw [e, List.getD_eq_getElem?_getD, hz'] at this
        exact this
      · simp at hz'

theorem row_nats {k : IntKind} {B : Nat} (hB : ∀ z : Int, (Lit.int k z).wf = true → 0 ≤ z ∧ z < B) {w : World} {a : Option Addr} {len cap : Nat} {zs : List Int}
    (h : (a = none ∧ len = 0 ∧ cap = 0 ∧ zs = []) ∨ ∃ x, a = some x ∧ len ≤ cap ∧ cap ≤ maxLen ∧ zs.length = cap ∧ (∀ i, i < zs.length → w.cell? (x.add i) = some (.int k (zs.getD i 0))) ∧ ∀ n ∈ zs, (Lit.int k n).wf = true) :
    ∃ ws : List Nat, ws.length = len ∧ Cells w a (ws.map (fun n : Nat => Value.int k (n : Int))) ∧ (∀ z ∈ ws, z < B) ∧ len ≤ cap ∧ cap ≤ maxLen := by
  obtain ⟨h1, h2, h3, h4, h5⟩ := row_ints h
  refine ⟨(zs.take len).map Int.toNat, by rw [List.length_map]; exact h1, ?_, ?_, h4, h5⟩
  · have e : ((zs.take len).map Int.toNat).map (fun n : Nat => Value.int k (n : Int)) = (zs.take len).map (Value.int k) := by
      rw [List.map_map]
      apply List.map_congr_left
      intro z hz
      have := hB z (h3 z hz)
      simp only [Function.comp]
      rw [Int.toNat_of_nonneg this.1]
    rw [e]; exact h2
  · intro z hz
    rw [List.mem_map] at hz
    obtain ⟨y, hy, rfl⟩ := hz
    have := hB y (h3 y hy)
    omega

end Go.Proofs.Ytlaaamaaabcfeaa

/- What an argument's reading says of its cells: slices of numbers, slices of structs. -/
namespace Go.Proofs.Ytlaaamaaabcfeaa
open Go.RowKit Go.ChangeShapes Go.WideShapes Go.Deep
set_option linter.unusedVariables false

section
variable {H : Type} {enc : TypeId × Value → H} {P : Program} {w : World} {base : Nat} {spare : Nat → Bool} {held : Bool}

/-- A slice of numbers. -/
theorem ints_read {t e : TypeId} {k : IntKind} {fuel : Nat} {v : Value} {y : DataW H × List MemPlace} (ht : P.underlying t = some (.slice e)) (he : P.underlying e = some (.int k)) (hc : P.cellsOf e = 1)
    (h : DataW.trod enc P w base spare held fuel t [v] = some y) :
    ∃ (a : Option Addr) (len cap : Nat) (zs : List Int), v = .slice a len cap ∧ zs.length = len ∧ Cells w a (zs.map (Value.int k)) ∧ (∀ z ∈ zs, (Lit.int k z).wf = true) ∧ len ≤ cap ∧ cap ≤ maxLen := by
  rcases open_ints ht he hc h with ⟨hcs, _⟩ | ⟨x, l, c, zs, hcs, _, hl, hm, hz, _, hcell, hwz⟩
  · simp at hcs
    exact ⟨none, 0, 0, [], hcs, rfl, Cells.nil _ _, by simp, Nat.le_refl _, Nat.zero_le _⟩
  · simp at hcs
    have hzl : l ≤ zs.length := by rw [hz]; split <;> omega
    refine ⟨some x, l, c, zs.take l, hcs, by rw [List.length_take]; omega, ?_, fun z hz => hwz z (List.mem_of_mem_take hz), hl, hm⟩
    by_cases h0 : l = 0
    · subst h0; simp; exact Cells.nil _ _
    · obtain ⟨b, off, spot⟩ := x
      have hs := hcell 0 (by omega)
      have hspot : spot = none := by simpa [Addr.add] using World.cell?_spot hs
      subst hspot
      refine .inr ⟨b, off, rfl, fun i v hi => ?_⟩
      rw [List.getElem?_map] at hi
      obtain ⟨z, hz', rfl⟩ := Option.map_eq_some_iff.1 hi
      rw [List.getElem?_take] at hz'
      split at hz'
      · rename_i hlt
        have := hcell i (by omega)
        have e : (⟨b, off, none⟩ : Addr).add i = ⟨b, off + i, none⟩ := by unfold Addr.add; split <;> simp_all
        rw [e, List.getD_eq_getElem?_getD, hz'] at this
        exact this
      · simp at hz'

/-- .. of unsigned ones. -/
theorem nats_read {t e : TypeId} {k : IntKind} {B : Nat} (hB : ∀ z : Int, (Lit.int k z).wf = true → 0 ≤ z ∧ z < B) {fuel : Nat} {v : Value} {y : DataW H × List MemPlace} (ht : P.underlying t = some (.slice e)) (he : P.underlying e = some (.int k)) (hc : P.cellsOf e = 1)
    (h : DataW.trod enc P w base spare held fuel t [v] = some y) :
    ∃ (a : Option Addr) (len cap : Nat) (zs : List Nat), v = .slice a len cap ∧ zs.length = len ∧ Cells w a (zs.map (fun n : Nat => Value.int k (n : Int))) ∧ (∀ z ∈ zs, z < B) ∧ len ≤ cap ∧ cap ≤ maxLen := by
  obtain ⟨a, len, cap, zs, hv, hl, hcs, hw, h1, h2⟩ := ints_read ht he hc h
  refine ⟨a, len, cap, zs.map Int.toNat, hv, by rw [List.length_map]; exact hl, ?_, ?_, h1, h2⟩
  · have e : (zs.map Int.toNat).map (fun n : Nat => Value.int k (n : Int)) = zs.map (Value.int k) := by
      rw [List.map_map]
      apply List.map_congr_left
      intro z hz
      have := hB z (hw z hz)
      simp only [Function.comp]
      rw [Int.toNat_of_nonneg this.1]
    rw [e]; exact hcs
  · intro z hz
    rw [List.mem_map] at hz
    obtain ⟨y, hy, rfl⟩ := hz
    have := hB y (hw y hy)
    omega

/-- A slice of structs of one-cell fields: each field's cell, and its own reading. -/
theorem structs_read {t e : TypeId} {fs : Array Field} {fuel : Nat} {v : Value} {y : DataW H × List MemPlace} (ht : P.underlying t = some (.slice e)) (he : P.underlying e = some (.struct fs))
    (hone : oneCellFields P fs = true) (hC : P.cellsOf e = fs.size) (hpos : 0 < fs.size) (h : DataW.trod enc P w base spare held fuel t [v] = some y) :
    ∃ (a : Option Addr) (len cap : Nat) (n : Nat → Nat), v = .slice a len cap ∧ len ≤ cap ∧ cap ≤ maxLen ∧ (len = 0 ∨ ∃ b off, a = some ⟨b, off, none⟩ ∧ ∀ i, i < len → ∀ (j : Nat) (f : Field), fs[j]? = some f →
      ∃ (u : Value) (z : DataW H × List MemPlace), w.cell? ⟨b, off + (i * fs.size + j), none⟩ = some u ∧ DataW.trod enc P w base spare held (n i) f.type [u] = some z) := by
  rcases open_slice ht h with ⟨hcs, _⟩ | ⟨a, len, cap, m, n, D, Pl, hcs, _, hl, hm, hmm, _, hi⟩
  · simp at hcs
    exact ⟨none, 0, 0, fun _ => 0, hcs, Nat.le_refl _, Nat.zero_le _, .inl rfl⟩
  · simp at hcs
    have hlm : len ≤ m := by rw [hmm]; split <;> omega
    by_cases h0 : len = 0
    · exact ⟨some a, len, cap, fun _ => 0, hcs, hl, hm, .inl h0⟩
    have each : ∀ i, i < len → ∃ n', ∀ (j : Nat) (f : Field), fs[j]? = some f → ∃ (u : Value) (z : DataW H × List MemPlace), w.cell? (a.add (i * fs.size + j)) = some u ∧ DataW.trod enc P w base spare held n' f.type [u] = some z := by
      intro i hil
      obtain ⟨cs', hc, ht'⟩ := hi i (by omega)
      rw [hC] at hc
      obtain ⟨ys, n', _, _, _, hyl, hf⟩ := DataW.trod_struct he ht'
      obtain ⟨_, hcl, hat⟩ := World.cells?_some hc
      refine ⟨n', fun j f hj => ?_⟩
      obtain ⟨ho, hk⟩ := hone_of hone j f hj
      have hjl : j < fs.size := (Array.getElem?_eq_some_iff.1 hj).1
      have hcell := hat j hjl
      have hv : cs'[j]? = some (cs'[j]'(by omega)) := List.getElem?_eq_getElem (by omega)
      have h1 := hf j f hj
      rw [ho, hk] at h1
      have hone' : (cs'.drop j).take 1 = [cs'[j]'(by omega)] := by
        rw [List.drop_eq_getElem_cons (by omega)]
        rfl
      rw [hone'] at h1
      have hys : ys[j]? = some (ys[j]'(by omega)) := List.getElem?_eq_getElem (by omega)
      refine ⟨_, _, ?_, h1.trans hys⟩
      rw [← Go.Deep.add_add, hcell, hv]
    obtain ⟨nf, hnf⟩ := choose_lt each
    obtain ⟨f0, hf0⟩ : ∃ f0, fs[0]? = some f0 := ⟨fs[0], by simp [hpos]⟩
    obtain ⟨u, _, hu, _⟩ := hnf 0 (by omega) 0 f0 hf0
    obtain ⟨b, off, spot⟩ := a
    have hspot : spot = none := by simpa [Addr.add] using World.cell?_spot hu
    subst hspot
    refine ⟨_, len, cap, nf, hcs, hl, hm, .inr ⟨b, off, rfl, fun i hil j f hj => ?_⟩⟩
    obtain ⟨u, z, hu, hz⟩ := hnf i hil j f hj
    have e : (⟨b, off, none⟩ : Addr).add (i * fs.size + j) = ⟨b, off + (i * fs.size + j), none⟩ := by unfold Addr.add; split <;> simp_all
    rw [e] at hu
    exact ⟨u, z, hu, hz⟩
end

end Go.Proofs.Ytlaaamaaabcfeaa

/- Slices of records: their cells, one record behind the other; what the reading of such an argument says. -/
namespace Go.Proofs.Ytlaaamaaabcfeaa
open Go.RowKit Go.ChangeShapes Go.WideShapes Go.Deep
set_option linter.unusedVariables false

/-- The cells of records. -/
def recs {α : Type} (f : α → List Value) (l : List α) : List Value := l.flatMap f
theorem recs_length {α : Type} {f : α → List Value} {n : Nat} (hf : ∀ x, (f x).length = n) (l : List α) : (recs f l).length = l.length * n := by
  induction l with
  | nil => simp [recs]
  | cons x l ih => unfold recs at *; rw [List.flatMap_cons, List.length_append, ih, hf, List.length_cons, Nat.succ_mul, Nat.add_comm]
theorem recs_append {α : Type} (f : α → List Value) (l m : List α) : recs f (l ++ m) = recs f l ++ recs f m := by simp [recs]
theorem recs_at {α : Type} {f : α → List Value} {n : Nat} (hf : ∀ x, (f x).length = n) (d : α) (l : List α) (i : Nat) (hi : i < l.length) : ∀ j v, (f (l.getD i d))[j]? = some v → (recs f l)[i * n + j]? = some v := by
  intro j v hj
  have e : l = l.take i ++ (l[i] :: l.drop (i + 1)) := by simp
  have hl : (recs f (l.take i)).length = i * n := by rw [recs_length hf, List.length_take, Nat.min_eq_left (by omega)]
  have hg : l.getD i d = l[i] := by simp [hi]
  rw [hg] at hj
  have hj3 : j < (f l[i]).length := (List.getElem?_eq_some_iff.1 hj).1
  rw [e, recs_append, List.getElem?_append_right (by omega), hl, show i * n + j - i * n = j by omega]
  unfold recs
  rw [List.flatMap_cons, List.getElem?_append_left hj3]
  exact hj
/-- A record's cells in memory. -/
theorem recs_cells {α : Type} {f : α → List Value} {n : Nat} (hf : ∀ x, (f x).length = n) (hn : 0 < n) (d : α) {w : World} {a : Option Addr} {l : List α} (h : Cells w a (recs f l)) {j : Nat} (hj : j < l.length) :
    ∃ b off, a = some ⟨b, off, none⟩ ∧ b < w.heap.size ∧ ∀ i v, (f (l.getD j d))[i]? = some v → w.cell? ⟨b, off + j * n + i, none⟩ = some v := by
  have hl := recs_length hf l
  have hlt : 0 < (recs f l).length := by rw [hl]; exact Nat.mul_pos (by omega) hn
  obtain ⟨b, off, rfl, hb, hc⟩ := h.at hlt
  refine ⟨b, off, rfl, hb, fun i v hi => ?_⟩
  rw [Nat.add_assoc]
  exact hc _ _ (recs_at hf d l j hj i v hi)

section
variable {H : Type} {enc : TypeId × Value → H} {P : Program} {w : World} {base : Nat} {spare : Nat → Bool} {held : Bool}

/-- A slice that came in: each element's cells, and its own reading. -/
theorem elems_read {t e : TypeId} {size : Nat} {fuel : Nat} {v : Value} {y : DataW H × List MemPlace} (ht : P.underlying t = some (.slice e)) (hC : P.cellsOf e = size) (hpos : 0 < size) (h : DataW.trod enc P w base spare held fuel t [v] = some y) :
    ∃ (a : Option Addr) (len cap m : Nat), v = .slice a len cap ∧ len ≤ cap ∧ cap ≤ maxLen ∧ (len = 0 ∨ ∃ b off, a = some ⟨b, off, none⟩ ∧ ∀ i, i < len →
      ∃ (us : List Value) (z : DataW H × List MemPlace), us.length = size ∧ (∀ r u, us[r]? = some u → w.cell? ⟨b, off + i * size + r, none⟩ = some u) ∧ DataW.trod enc P w base spare held m e us = some z) := by
  rcases open_slice ht h with ⟨hcs, _⟩ | ⟨a, len, cap, m, n, D, Pl, hcs, _, hl, hm, hmm, _, hi⟩
  · simp at hcs
    exact ⟨none, 0, 0, 0, hcs, Nat.le_refl _, Nat.zero_le _, .inl rfl⟩
  · simp at hcs
    have hlm : len ≤ m := by rw [hmm]; split <;> omega
    by_cases h0 : len = 0
    · exact ⟨some a, len, cap, 0, hcs, hl, hm, .inl h0⟩
    have each : ∀ i, i < len → ∃ (us : List Value) (z : DataW H × List MemPlace), us.length = size ∧ (∀ r u, us[r]? = some u → w.cell? ((a.add (i * size)).add r) = some u) ∧ DataW.trod enc P w base spare held n e us = some z := by
      intro i hil
      obtain ⟨cs', hc, ht'⟩ := hi i (by omega)
      rw [hC] at hc
      obtain ⟨_, hcl, hat⟩ := World.cells?_some hc
      have hz : ∃ z, DataW.trod enc P w base spare held n e cs' = some z := ⟨_, ht'⟩
      obtain ⟨z, hz⟩ := hz
      refine ⟨cs', z, hcl, fun r u hr => ?_, hz⟩
      have hrl : r < size := by have := (List.getElem?_eq_some_iff.1 hr).1; omega
      rw [hat r hrl, hr]
    obtain ⟨us, z, h1, h2, _⟩ := each 0 (by omega)
    obtain ⟨b, off, spot⟩ := a
    have hus : us[0]? = some (us[0]'(by omega)) := List.getElem?_eq_getElem (by omega)
    have h20 := h2 0 _ hus
    have hspot : spot = none := by
      have := World.cell?_spot h20
      simpa [Addr.add] using this
    subst hspot
    refine ⟨_, len, cap, n, hcs, hl, hm, .inr ⟨b, off, rfl, fun i hil => ?_⟩⟩
    obtain ⟨us, z, h1, h2, h3⟩ := each i hil
    refine ⟨us, z, h1, fun r u hr => ?_, h3⟩
    have := h2 r u hr
    rwa [add_none', add_none'] at this
where
  add_none' (b off j : Nat) : (⟨b, off, none⟩ : Addr).add j = ⟨b, off + j, none⟩ := by unfold Addr.add; split <;> simp_all
end

/-- What each element is, if each one is something. -/
theorem recs_of {α : Type} {f : α → List Value} {n : Nat} (hf : ∀ x, (f x).length = n) (hn : 0 < n) (d : α) {w : World} {b off len : Nat} {ok : α → Prop}
    (each : ∀ i, i < len → ∃ x : α, (∀ r u, (f x)[r]? = some u → w.cell? ⟨b, off + i * n + r, none⟩ = some u) ∧ ok x) :
    ∃ l : List α, l.length = len ∧ Cells w (some ⟨b, off, none⟩) (recs f l) ∧ ∀ x ∈ l, ok x := by
  haveI : Inhabited α := ⟨d⟩
  obtain ⟨g, hg⟩ := choose_lt each
  refine ⟨(List.range len).map g, by simp, .inr ⟨b, off, rfl, fun i v hi => ?_⟩, fun x hx => ?_⟩
  · have hlen : i < len * n := by
      have := (List.getElem?_eq_some_iff.1 hi).1
      rw [recs_length hf] at this
      simpa using this
    obtain ⟨q, r, hr, rfl⟩ : ∃ q r, r < n ∧ i = q * n + r := ⟨i / n, i % n, Nat.mod_lt _ hn, by rw [Nat.mul_comm]; exact (Nat.div_add_mod i n).symm⟩
    have hq : q < len := Decidable.byContradiction fun h => by
      have h1 : len ≤ q := by omega
      have := Nat.mul_le_mul_right n h1
      omega
    have hfd : ((List.range len).map g).getD q d = g q := by simp [hq]
    have hx : (f (g q))[r]? = some ((f (g q))[r]'(by rw [hf]; exact hr)) := List.getElem?_eq_getElem (by rw [hf]; exact hr)
    have := recs_at hf d ((List.range len).map g) q (by simpa using hq) r _ (by rw [hfd]; exact hx)
    rw [this] at hi
    cases hi
    rw [← Nat.add_assoc]
    exact (hg q hq).1 r _ hx
  · rw [List.mem_map] at hx
    obtain ⟨i, hi, rfl⟩ := hx
    exact (hg i (by simpa using hi)).2

end Go.Proofs.Ytlaaamaaabcfeaa

/- Slices of structs whose fields are all ints: what the reading of such an argument says. -/
namespace Go.Proofs.Ytlaaamaaabcfeaa
open Go.RowKit Go.ChangeShapes Go.WideShapes Go.Deep
set_option linter.unusedVariables false

theorem wf_bounds {x : Int} (h : (Lit.int .i64 x).wf = true) : -9223372036854775808 ≤ x ∧ x ≤ 9223372036854775807 := by
  simp [Lit.wf, IntKind.min, IntKind.max, IntKind.bits, IntKind.signed] at h
  omega

/-- A list out of what each place holds. -/
theorem list_of {α : Type} (P : Nat → α → Prop) : ∀ n, (∀ i, i < n → ∃ x, P i x) → ∃ l : List α, l.length = n ∧ ∀ i x, l[i]? = some x → P i x
  | 0, _ => ⟨[], rfl, by simp⟩
  | n + 1, h => by
    obtain ⟨l, hl, hp⟩ := list_of P n (fun i hi => h i (by omega))
    obtain ⟨x, hx⟩ := h n (by omega)
    refine ⟨l ++ [x], by simp [hl], fun i y hy => ?_⟩
    by_cases hi : i < l.length
    · rw [List.getElem?_append_left hi] at hy; exact hp i y hy
    · rw [List.getElem?_append_right (by omega)] at hy
      have h0 : i - l.length = 0 := by
        have := (List.getElem?_eq_some_iff.1 hy).1; simp at this; omega
      rw [h0] at hy
      simp at hy
      subst hy
      rw [show i = n by omega]; exact hx

section
variable {H : Type} {enc : TypeId × Value → H} {P : Program} {w : World} {base : Nat} {spare : Nat → Bool} {held : Bool}

theorem ints_struct {e T : TypeId} {fs : Array Field} {n fuel : Nat} {us : List Value} {z : DataW H × List MemPlace} (he : P.underlying e = some (.struct fs)) (hT : P.underlying T = some (.int .i64)) (hc : P.cellsOf T = 1)
    (hF : ((List.range n).all fun j => match fs[j]? with | some f => f.type == T && f.offset == j | none => false) = true) (hlen : us.length = n) (hz : DataW.trod enc P w base spare held fuel e us = some z) :
    ∃ zs : List Int, zs.length = n ∧ us = zs.map (Value.int .i64) ∧ ∀ x ∈ zs, -9223372036854775808 ≤ x ∧ x ≤ 9223372036854775807 := by
  obtain ⟨ys, n', _, _, _, hyl, hf⟩ := DataW.trod_struct he hz
  have each : ∀ j, j < n → ∃ x : Int, us[j]? = some (.int .i64 x) ∧ (-9223372036854775808 ≤ x ∧ x ≤ 9223372036854775807) := by
    intro j hj
    have h1 := List.all_eq_true.1 hF j (List.mem_range.2 hj)
    cases hfj : fs[j]? with
    | none => rw [hfj] at h1; cases h1
    | some f =>
      rw [hfj] at h1
      simp only [Bool.and_eq_true, beq_iff_eq] at h1
      have h2 := hf j f hfj
      rw [h1.1, h1.2, hc] at h2
      have hjs : j < ys.length := by rw [hyl]; exact (Array.getElem?_eq_some_iff.1 hfj).1
      rw [List.getElem?_eq_getElem hjs] at h2
      have hju : j < us.length := by omega
      have h3 : (us.drop j).take 1 = [us[j]] := by rw [List.drop_eq_getElem_cons hju]; rfl
      rw [h3] at h2
      obtain ⟨x, hx, _, hw⟩ := DataW.trod_int hT h2
      have hx' : us[j] = .int .i64 x := by simpa using hx
      exact ⟨x, by rw [List.getElem?_eq_getElem hju, hx'], wf_bounds hw⟩
  obtain ⟨zs, hl, hp⟩ := list_of (fun j x => us[j]? = some (.int .i64 x) ∧ (-9223372036854775808 ≤ x ∧ x ≤ 9223372036854775807)) n each
  refine ⟨zs, hl, ?_, fun x hx => ?_⟩
  · apply List.ext_getElem?
    intro i
    by_cases hi : i < zs.length
    · rw [(hp i _ (List.getElem?_eq_getElem hi)).1, List.getElem?_map, List.getElem?_eq_getElem hi]; rfl
    · rw [List.getElem?_eq_none (by omega), List.getElem?_eq_none (by simp; omega)]
  · obtain ⟨i, hi, rfl⟩ := List.mem_iff_getElem.1 hx
    exact (hp i _ (List.getElem?_eq_getElem hi)).2

theorem recs_ints_read {α : Type} {f : α → List Value} {n : Nat} (hfl : ∀ x, (f x).length = n) (hn : 0 < n) (d : α) (mk : List Int → α) (hmk : ∀ zs : List Int, zs.length = n → f (mk zs) = zs.map (Value.int .i64))
    {t e T : TypeId} {fs : Array Field} {fuel : Nat} {v : Value} {y : DataW H × List MemPlace} (ht : P.underlying t = some (.slice e)) (he : P.underlying e = some (.struct fs)) (hT : P.underlying T = some (.int .i64)) (hC : P.cellsOf e = n) (hc : P.cellsOf T = 1)
    (hF : ((List.range n).all fun j => match fs[j]? with | some f => f.type == T && f.offset == j | none => false) = true) (h : DataW.trod enc P w base spare held fuel t [v] = some y) :
    ∃ (a : Option Addr) (len cap : Nat) (l : List α), v = .slice a len cap ∧ l.length = len ∧ Cells w a (recs f l) ∧ (∀ o ∈ l, ∃ zs : List Int, o = mk zs ∧ zs.length = n ∧ ∀ x ∈ zs, -9223372036854775808 ≤ x ∧ x ≤ 9223372036854775807) ∧ len ≤ maxLen := by
  obtain ⟨a, len, cap, m, rfl, hl, hm, hcs⟩ := elems_read ht hC hn h
  rcases hcs with rfl | ⟨b, off, rfl, hcs⟩
  · exact ⟨a, 0, cap, [], rfl, rfl, Cells.nil _ _, by simp, Nat.zero_le _⟩
  · have each : ∀ i, i < len → ∃ x : α, (∀ r u, (f x)[r]? = some u → w.cell? ⟨b, off + i * n + r, none⟩ = some u) ∧ ∃ zs : List Int, x = mk zs ∧ zs.length = n ∧ ∀ x ∈ zs, -9223372036854775808 ≤ x ∧ x ≤ 9223372036854775807 := by
      intro i hi
      obtain ⟨us, z, hlen, hat, hz⟩ := hcs i hi
      obtain ⟨zs, h1, h2, h3⟩ := ints_struct he hT hc hF hlen hz
      exact ⟨mk zs, fun r u hr => by rw [hmk zs h1, ← h2] at hr; exact hat r u hr, zs, rfl, h1, h3⟩
    obtain ⟨l, hll, hcl, hok⟩ := recs_of hfl hn d each
    exact ⟨_, len, cap, l, rfl, hll, hcl, hok, by omega⟩
end

end Go.Proofs.Ytlaaamaaabcfeaa

/- law11: shows, awake, played; runs.Fill. -/
namespace Go.Proofs.Ytlaaamaaabcfeaa
open Go.RowKit
set_option linter.unusedVariables false

set_option maxHeartbeats 2000000 in
theorem shows_any {w : World} {T : Tri} {k : Nat} {l : List Bool} (h : IxAt w T k l) (a : Option Addr) (n cap : Nat) (hn : l.length = n) (hc : Cells w a (l.map Value.bool)) (hl : n ≤ 1000) :
    Calls Try.prog 15 #[.pointer (some ⟨T.p, 0, none⟩), .slice a n cap] w fun e w' => e = .returned (.bool true) ∧ Below w.heap.size w w' := by
  have HI := Lib.hid h
  have HN := Lib.hid hn
  have HC := Lib.hid hc
  have HRl : Hid ((runsOf l).length ≤ 1000) := Lib.hid (by have := runs_len (fb l) l.length; unfold runsOf; omega)
  have HSu : Hid (sumOf (runsOf l) ≤ 1000) := Lib.hid (by have := sum_runsOf l; omega)
  have hlb : l.length ≤ 1000 := by omega
  have HLb := Lib.hid hlb
  clear h hn hc hlb
  go_enter Try.func15, Try.ntmps15
  go_wp2_with fail
  refine (rlist_any a n cap l HN.out _ HC.out (by omega)).mono ?_
  rintro e w1 ⟨al, cl, rfl, hcl, hb1⟩
  have HB1 := Lib.hid hb1
  have HC1 := Lib.hid hcl
  clear hb1 hcl
  go_wp2_with fail
  refine (rtotal_any al _ cl (runsOf l) rfl _ HC1.out (by have := HSu.out; omega) (by have := HRl.out; omega)).mono ?_
  rintro e w2 ⟨rfl, rfl⟩
  go_wp2_with fail
  refine (ilist_any (HI.out.below HB1.out) (by have := HLb.out; omega)).mono ?_
  rintro e w3 ⟨a3, c3, rfl, hc3, hb3⟩
  have HB3 : Hid (Below w.heap.size w w3) := Lib.hid (HB1.out.trans (hb3.mono HB1.out.size))
  have HC3 := Lib.hid hc3
  have HC13 := Lib.hid (HC1.out.below hb3 (Nat.le_refl _))
  clear hb3 hc3
  go_wp2_with fail
  refine (lspans_same a3 al _ c3 cl (runsOf l) rfl _ HC3.out HC13.out HRl.out).mono ?_
  rintro e w4 ⟨rfl, q, rfl⟩
  have HB4 : Hid (Below w.heap.size w (w3.drewN q)) := Lib.hid (below_drewN HB3.out q)
  generalize w3.drewN q = w4 at *
  go_wp2_with fail
  refine (total_any (HI.out.below HB4.out) (by have := HLb.out; omega)).mono ?_
  rintro e w5 ⟨rfl, hb5⟩
  have HB5 : Hid (Below w.heap.size w w5) := Lib.hid (HB4.out.trans (hb5.mono HB4.out.size))
  clear hb5
  go_wp2_with fail
  refine (longest_any (HI.out.below HB5.out) (by have := HLb.out; omega)).mono ?_
  rintro e w6 ⟨rfl, hb6⟩
  have HB6 : Hid (Below w.heap.size w w6) := Lib.hid (HB5.out.trans (hb6.mono HB5.out.size))
  clear hb6
  go_wp2_with fail
  go_ret
  exact ⟨rfl, HB6.out⟩

theorem fsSp : (Try.prog.fieldsOf 38) = #[{ name := "Start", type := 3, offset := 0, embedded := false, tag := "", pkgPath := "", byteOffset := 0 },
        { name := "Len", type := 3, offset := 1, embedded := false, tag := "", pkgPath := "", byteOffset := 8 }] := by kernel_rfl
theorem usSp : Try.prog.underlying 38 = some (.struct (Try.prog.fieldsOf 38)) := by kernel_rfl
theorem ssSp : Try.prog.stoodInHeld 38 = false := by kernel_rfl
theorem equalSp (w : World) (a b : Int) : (Op.equalIn 10000 38 (.agg #[.int .i64 a, .int .i64 b]) (.agg #[.int .i64 a, .int .i64 b])).run Try.prog w = .ok true w := by
  rw [show (10000 : Nat) = 9999 + 1 from rfl, run_equalIn_agg w 9999 38 _ _ usSp ssSp, fsSp]
  simp [Op.eqFields, go_sem, Try.underlying3, part]

def awakeL1 : List Bool := [false, true, true, true, true, true, false, false, false]
def awakeL2 : List Bool := [false, false, false, true, true, true, false, false, false]
theorem awake_give : giveR (List.replicate 9 false) 1 5 = (awakeL1, 0) := by decide
theorem awake_take : takeR awakeL1 2 = (awakeL2, 1, 0) := by decide
theorem awake_list : runsOf awakeL2 = [(3, 3)] := by decide

set_option maxHeartbeats 2000000 in
theorem awake11_any (w : World) : Calls Try.prog 6 #[] w fun e w' => e = .returned (.bool true) ∧ Below w.heap.size w w' := by
  go_enter Try.func6, Try.ntmps6
  go_wp2_with fail
  refine (inew_any 9 _ (by omega)).mono ?_
  rintro e w1 ⟨T, rfl, hT, hi, hb1⟩
  rw [show (9 : Int).toNat = 9 from rfl] at hi
  have HT := Lib.hid hT
  have HI := Lib.hid hi
  have HB1 := Lib.hid hb1
  clear hT hi hb1
  go_wp2_with fail
  refine (show Calls Try.prog 12 #[.pointer (some ⟨T.p, 0, none⟩), .int .i64 1, .int .i64 5] w1 (GivePost w1 T 0 (List.replicate 9 false) 1 5) from igive_fit HI.out (by decide) (by omega) 1 5 (by decide)).mono ?_
  rintro e w2 ⟨rfl, hi2, ht2⟩
  rw [awake_give] at hi2 ⊢
  have HB2 : Hid (Below w.heap.size w w2) := Lib.hid (below_touched HB1.out ht2 (fun k hk => HT.out k (by simp [Tri.list] at hk ⊢; rcases hk with rfl | rfl <;> simp)) (Nat.le_refl _))
  have HI2 := Lib.hid hi2
  clear hi2 ht2
  go_wp2_with fail
  refine (itake_any HI2.out (by decide) (by omega) 2).mono ?_
  rintro e w3 ⟨rfl, hi3, ht3⟩
  rw [awake_take] at hi3 ⊢
  have HB3 : Hid (Below w.heap.size w w3) := Lib.hid (below_touched HB2.out ht3 (fun k hk => HT.out k (by simp [Tri.list] at hk ⊢; rcases hk with rfl | rfl <;> simp)) (Nat.le_refl _))
  have HI3 := Lib.hid hi3
  clear hi3 ht3
  go_wp2_with fail
  refine (ilist_any HI3.out (by decide)).mono ?_
  rintro e w4 ⟨a, c, rfl, hc4, hb4⟩
  rw [awake_list] at hc4 ⊢
  have HB4 : Hid (Below w.heap.size w w4) := Lib.hid (HB3.out.trans (hb4.mono HB3.out.size))
  obtain ⟨b, off, rfl, d0, d1⟩ := sp_cells hc4 (j := 0) (s := 3) (n := 3) (by decide) rfl
  have d0' : w4.cell? ⟨b, off, none⟩ = some (.int .i64 3) := by simpa using d0
  have d1' : w4.cell? ⟨b, off + 1, none⟩ = some (.int .i64 3) := by simpa using d1
  have heq := fun W => equalSp W 3 3
  clear hc4 hb4 d0 d1
  go_wp2_with fail
  go_ret
  exact ⟨rfl, HB4.out⟩

end Go.Proofs.Ytlaaamaaabcfeaa

/- law11: played. -/
namespace Go.Proofs.Ytlaaamaaabcfeaa
open Go.RowKit
set_option linter.unusedVariables false

structure Op11 where
  k : Int
  a : Int
  b : Int
def Op11.cs (o : Op11) : List Value := [.int .i64 o.k, .int .i64 o.a, .int .i64 o.b]
theorem Op11.len (o : Op11) : o.cs.length = 3 := rfl

/-- What played leaves. -/
def Played11 (w : World) : Ending → World → Prop := fun e w' => ∃ (T : Tri) (k : Nat) (l : List Bool) (a : Option Addr) (c : Nat),
  e = .returned (.tuple #[.pointer (some ⟨T.p, 0, none⟩), .slice a l.length c, .bool true]) ∧ IxAt w' T k l ∧ Cells w' a (l.map Value.bool) ∧ k ≤ 100 ∧ l.length ≤ 127 ∧ (∀ b ∈ T.list, w.heap.size ≤ b) ∧ Below w.heap.size w w' ∧ fb l 0 = false

theorem map_nocell {P : Program} {k : TypeId} {w : World} {b n : Nat} {M : Int → Option Int} (h : IMap P k w b n M) (i : Nat) : w.cell? ⟨b, i, none⟩ = none := by
  obtain ⟨D, ⟨es, clock, hb, _⟩, _⟩ := h
  simp [World.cell?, hb]

theorem cells_touch {w w' : World} {T : Tri} {k : Nat} {l : List Bool} {a : Option Addr} {vs : List Value} (h : IxAt w T k l) (hc : Cells w a vs) (ht : Touch [T.s, T.e] w w') : Cells w' a vs := by
  obtain ⟨M, E, hA, _⟩ := h
  rcases hc with h0 | ⟨b, off, rfl, hc⟩
  · exact .inl h0
  · refine .inr ⟨b, off, rfl, fun i v hi => ?_⟩
    have h1 := hc i v hi
    have hlt := World.block_lt_of_cell? _ _ h1
    have hs : b ≠ T.s := fun e => by subst e; rw [map_nocell hA.byS] at h1; cases h1
    have he : b ≠ T.e := fun e => by subst e; rw [map_nocell hA.byE] at h1; cases h1
    have hb := ht.block b hlt (by simp [hs, he])
    have : w'.cell? ⟨b, off + i, none⟩ = w.cell? ⟨b, off + i, none⟩ := by simp only [World.cell?, hb]
    rw [this]; exact h1

theorem igive_any {w : World} {T : Tri} {n : Nat} {l : List Bool} (h : IxAt w T n l) (hl : l.length ≤ 1000000000000) (hn : n < 1000000000000) (a m : Int) :
    Calls Try.prog 12 #[.pointer (some ⟨T.p, 0, none⟩), .int .i64 a, .int .i64 m] w (GivePost w T n l a m) := by
  by_cases hbad : a < 1 ∨ m < 1 ∨ (l.length : Int) ≤ a ∨ (l.length : Int) - a < m
  · exact igive_arg h hl a m hbad
  · obtain ⟨a, rfl⟩ := Int.eq_ofNat_of_zero_le (show 0 ≤ a by omega)
    obtain ⟨m, rfl⟩ := Int.eq_ofNat_of_zero_le (show 0 ≤ m by omega)
    exact igive_fit h hl hn a m (by omega)

theorem Tri.two {T : Tri} {B : Nat} (h : ∀ b ∈ T.list, B ≤ b) : ∀ k ∈ [T.s, T.e], B ≤ k := fun k hk => h k (by simp [Tri.list] at hk ⊢; rcases hk with rfl | rfl <;> simp)

theorem giveR_zero {l : List Bool} (h : fb l 0 = false) (a m : Int) : fb (giveR l a m).1 0 = false := by
  unfold giveR
  split
  · exact h
  · split
    · exact h
    · dsimp only
      rw [setTo_fb l _ _ _ (by omega), if_neg (by omega)]; exact h
theorem takeR_zero {l : List Bool} (h : fb l 0 = false) (m : Int) : fb (takeR l m).1 0 = false := by
  unfold takeR
  split
  · exact h
  · split
    · exact h
    · rename_i x hx
      dsimp only
      obtain ⟨hr, hk⟩ := pick_run hx
      have := runEnds hr
      rw [setTo_fb l _ _ _ (by omega)]
      split
      · rfl
      · exact h

/-- The beginning: an index, a slice of truths. -/
def Begun (w : World) (n : Nat) (T : Tri) (a : Option Addr) (wc : World) : Prop := IxAt wc T 0 (List.replicate n false) ∧ Cells wc a ((List.replicate n false).map Value.bool) ∧ (∀ b ∈ T.list, w.heap.size ≤ b) ∧ Below w.heap.size w wc

theorem bl_made {w' : World} {base n : Nat} {a : Option Addr} (h : w'.ownsRow base 4 1 (.slice a n n) n (List.replicate n (.bool false))) : Cells w' a ((List.replicate n false).map Value.bool) := by
  rw [List.map_replicate]; exact Cells.owned h

set_option maxHeartbeats 8000000 in
set_option maxRecDepth 100000 in
theorem played11_any (L : Int) (hL : L ≤ 127) (a : Option Addr) (m cap : Nat) (s : List Op11) (hm : s.length = m) (w : World) (hcs : Cells w a (recs Op11.cs s)) (hmm : m ≤ maxLen) :
    Calls Try.prog 7 #[.int .i64 L, .slice a m cap] w (Played11 w) := by
  unfold maxLen at hmm
  have HM := Lib.hid hm
  have HCS := Lib.hid hcs
  clear hm hcs
  obtain ⟨n, hn⟩ : ∃ n, n = L.toNat := ⟨_, rfl⟩
  have hn127 : n ≤ 127 := by omega
  have HNn := Lib.hid hn
  generalize hPo : Played11 w = Post
  have HPo := Lib.hid hPo
  clear hn hPo
  go_enter Try.func7, Try.ntmps7
  go_upto_region 1 with fail
  go_cut [7, 8] from 18 (fun x f wc => ∃ (T : Tri) (af : Option Addr), x = .pointer (some ⟨T.p, 0, none⟩) ∧ f = .slice af n n ∧ Begun w n T af wc)
  case first =>
    obtain ⟨M, hMx⟩ : ∃ M : Int, M = max L 0 := ⟨_, rfl⟩
    have hMn : M = (n : Int) := by rw [hMx, HNn.out]; omega
    have HMn := Lib.hid hMn
    have hn9 : n < 1000000000000 := by omega
    have HLn : Hid (L.toNat = n) := Lib.hid HNn.out.symm
    refine wp_region_tr (C := fun _ => True) (.pu [0, 2] (.br 1 false (.pu [5] (.sq [3, 4, 6] false (.nil))) 3 false (.br 1 false (.pu [5] (.sq [4, 6] false (.nil))) 4 false (.sq [1, 5, 6] false (.nil))))) (by kernel_rfl) (by kernel_rfl) (by intro c a d v w h; cases d <;> exact h) ?_
    simp only [trO, picks, List.getElem?_cons_succ, List.getElem?_cons_zero]
    refine wpTr_pu ?_
    repeat (first | go_big_quiet_step (fail) | quiet_step (fail))
    refine wpQuiet_nil ?_
    have HB0 := Lib.hid (later_below (later_drew w))
    generalize w.drew = w0 at *
    by_cases hneg : L < 0
    · obtain rfl : n = 0 := by have := HNn.out; omega
      have hmax : max L 0 = 0 := by omega
      have HEndA : Hid (∀ (T : Tri) (w1 w2 : World), IxAt w1 T 0 (List.replicate 0 false) → (∀ b ∈ T.list, w0.heap.size ≤ b) → Below w0.heap.size w0 w1 → w2.ownsRow w1.heap.size 4 1 (.slice (some ⟨w1.heap.size, 0, none⟩) 0 0) 0 (List.replicate 0 (.bool false)) → w1.grownBy w2 none → Begun w 0 T (some ⟨w1.heap.size, 0, none⟩) w2) :=
        Lib.hid (fun T w1 w2 h1 h2 h3 h4 h5 => ⟨h1.below (grown_none h5), bl_made h4, fun b hb => Nat.le_trans HB0.out.size (h2 b hb), HB0.out.trans ((h3.trans ((grown_none h5).mono h3.size)).mono HB0.out.size)⟩)
      have HEndB : Hid (∀ (T : Tri) (w1 w2 : World), IxAt w2 T 0 (List.replicate 0 false) → (∀ b ∈ T.list, w1.heap.size ≤ b) → w1.ownsRow w0.heap.size 4 1 (.slice (some ⟨w0.heap.size, 0, none⟩) 0 0) 0 (List.replicate 0 (.bool false)) → w0.grownBy w1 none → Below w1.heap.size w1 w2 → Begun w 0 T (some ⟨w0.heap.size, 0, none⟩) w2) :=
        Lib.hid (fun T w1 w2 h1 h2 h3 h4 h5 => ⟨h1, (bl_made h3).below h5 (Nat.le_refl _), fun b hb => Nat.le_trans (Nat.le_trans HB0.out.size h4.size) (h2 b hb), HB0.out.trans (((grown_none h4).trans (h5.mono h4.size)).mono HB0.out.size)⟩)
      clear HNn HLn hMx hMn HMn
      refine wpTr_br ?_ ?_
      · refine wpTr_sq (fun K hK => ?_)
        go_wp2_with fail
        refine (inew_any L w0 (by omega)).mono ?_
        rintro e w1 ⟨T, rfl, hT, hi, hb1⟩
        rw [show L.toNat = 0 by omega] at hi
        have HTi := Lib.hid hT
        have HI := Lib.hid hi
        have HB1 := Lib.hid hb1
        clear hT hi hb1
        go_wp2_with fail
        refine hK _ _ (fun h => nomatch h) ?_
        clear hK K
        refine wpTr_pu ?_
        repeat (first | go_big_quiet_step (fail) | quiet_step (fail))
        refine wpQuiet_nil ?_
        refine wpTr_last ?_
        go_wp2_with (at_make; refine wpList_make_len elBl w1.heap.size 0 rfl rfl rfl (by decide) (by decide) (Nat.le_refl _) rfl rfl rfl rfl ?_; intro w2 hown hgrow; have HO := Lib.hid hown; have HG := Lib.hid hgrow; clear hown hgrow)
        go_meet
        case rel => exact ⟨T, _, rfl, rfl, HEndA.out T w1 w2 HI.out HTi.out HB1.out HO.out HG.out⟩
      · refine wpTr_sq (fun K hK => ?_)
        go_wp2_with fail
        go_wp2_with fail
        refine hK _ _ (fun h => nomatch h) ?_
        clear hK K
        refine wpTr_br ?_ ?_
        · refine wpTr_sq (fun K hK => ?_)
          go_wp2_with fail
          refine (inew_any L w0 (by omega)).mono ?_
          rintro e w1 ⟨T, rfl, hT, hi, hb1⟩
          rw [show L.toNat = 0 by omega] at hi
          have HTi := Lib.hid hT
          have HI := Lib.hid hi
          have HB1 := Lib.hid hb1
          clear hT hi hb1
          go_wp2_with fail
          refine hK _ _ (fun h => nomatch h) ?_
          clear hK K
          refine wpTr_pu ?_
          repeat (first | go_big_quiet_step (fail) | quiet_step (fail))
          refine wpQuiet_nil ?_
          refine wpTr_last ?_
          go_wp2_with (at_make; refine wpList_make_len elBl w1.heap.size 0 rfl rfl rfl (by decide) (by decide) (Nat.le_refl _) rfl rfl rfl rfl ?_; intro w2 hown hgrow; have HO := Lib.hid hown; have HG := Lib.hid hgrow; clear hown hgrow)
          go_meet
          case rel => exact ⟨T, _, rfl, rfl, HEndA.out T w1 w2 HI.out HTi.out HB1.out HO.out HG.out⟩
        · refine wpTr_sq (fun K hK => ?_)
          go_wp2_with (at_make; refine wpList_make_len elBl w0.heap.size 0 rfl rfl rfl (by decide) (by decide) (Nat.le_refl _) rfl rfl rfl rfl ?_; intro w1 hown hgrow; have HO := Lib.hid hown; have HG := Lib.hid hgrow; clear hown hgrow)
          go_wp2_with fail
          refine hK _ _ (fun h => nomatch h) ?_
          clear hK K
          refine wpTr_last ?_
          go_wp2_with fail
          refine (inew_any L w1 (by omega)).mono ?_
          rintro e w2 ⟨T, rfl, hT, hi, hb2⟩
          rw [show L.toNat = 0 by omega] at hi
          have HTi := Lib.hid hT
          have HI := Lib.hid hi
          have HB2 := Lib.hid hb2
          clear hT hi hb2
          go_wp2_with fail
          go_meet
          case rel => exact ⟨T, _, rfl, rfl, HEndB.out T w1 w2 HI.out HTi.out HO.out HG.out HB2.out⟩
    · obtain rfl : L = (n : Int) := by have := HNn.out; omega
      have HEndA : Hid (∀ (T : Tri) (w1 w2 : World), IxAt w1 T 0 (List.replicate n false) → (∀ b ∈ T.list, w0.heap.size ≤ b) → Below w0.heap.size w0 w1 → w2.ownsRow w1.heap.size 4 1 (.slice (some ⟨w1.heap.size, 0, none⟩) n n) n (List.replicate n (.bool false)) → w1.grownBy w2 none → Begun w n T (some ⟨w1.heap.size, 0, none⟩) w2) :=
        Lib.hid (fun T w1 w2 h1 h2 h3 h4 h5 => ⟨h1.below (grown_none h5), bl_made h4, fun b hb => Nat.le_trans HB0.out.size (h2 b hb), HB0.out.trans ((h3.trans ((grown_none h5).mono h3.size)).mono HB0.out.size)⟩)
      have HEndB : Hid (∀ (T : Tri) (w1 w2 : World), IxAt w2 T 0 (List.replicate n false) → (∀ b ∈ T.list, w1.heap.size ≤ b) → w1.ownsRow w0.heap.size 4 1 (.slice (some ⟨w0.heap.size, 0, none⟩) n n) n (List.replicate n (.bool false)) → w0.grownBy w1 none → Below w1.heap.size w1 w2 → Begun w n T (some ⟨w0.heap.size, 0, none⟩) w2) :=
        Lib.hid (fun T w1 w2 h1 h2 h3 h4 h5 => ⟨h1, (bl_made h3).below h5 (Nat.le_refl _), fun b hb => Nat.le_trans (Nat.le_trans HB0.out.size h4.size) (h2 b hb), HB0.out.trans (((grown_none h4).trans (h5.mono h4.size)).mono HB0.out.size)⟩)
      have hmax : max (n : Int) 0 = (n : Int) := by omega
      clear HNn HLn hMx hMn HMn
      refine wpTr_br ?_ ?_
      · refine wpTr_sq (fun K hK => ?_)
        go_wp2_with fail
        refine (inew_any (n : Int) w0 (by omega)).mono ?_
        rintro e w1 ⟨T, rfl, hT, hi, hb1⟩
        rw [Int.toNat_natCast] at hi
        have HTi := Lib.hid hT
        have HI := Lib.hid hi
        have HB1 := Lib.hid hb1
        clear hT hi hb1
        go_wp2_with fail
        refine hK _ _ (fun h => nomatch h) ?_
        clear hK K
        refine wpTr_pu ?_
        repeat (first | go_big_quiet_step (fail) | quiet_step (fail))
        refine wpQuiet_nil ?_
        refine wpTr_last ?_
        go_wp2_with (at_make; refine wpList_make_len elBl w1.heap.size n rfl rfl rfl hn9 (by decide) (Nat.le_refl _) rfl rfl rfl rfl ?_; intro w2 hown hgrow; have HO := Lib.hid hown; have HG := Lib.hid hgrow; clear hown hgrow)
        go_meet
        case rel => exact ⟨T, _, rfl, rfl, HEndA.out T w1 w2 HI.out HTi.out HB1.out HO.out HG.out⟩
      · refine wpTr_sq (fun K hK => ?_)
        go_wp2_with fail
        go_wp2_with fail
        refine hK _ _ (fun h => nomatch h) ?_
        clear hK K
        refine wpTr_br ?_ ?_
        · refine wpTr_sq (fun K hK => ?_)
          go_wp2_with fail
          refine (inew_any (n : Int) w0 (by omega)).mono ?_
          rintro e w1 ⟨T, rfl, hT, hi, hb1⟩
          rw [Int.toNat_natCast] at hi
          have HTi := Lib.hid hT
          have HI := Lib.hid hi
          have HB1 := Lib.hid hb1
          clear hT hi hb1
          go_wp2_with fail
          refine hK _ _ (fun h => nomatch h) ?_
          clear hK K
          refine wpTr_pu ?_
          repeat (first | go_big_quiet_step (fail) | quiet_step (fail))
          refine wpQuiet_nil ?_
          refine wpTr_last ?_
          go_wp2_with (at_make; refine wpList_make_len elBl w1.heap.size n rfl rfl rfl hn9 (by decide) (Nat.le_refl _) rfl rfl rfl rfl ?_; intro w2 hown hgrow; have HO := Lib.hid hown; have HG := Lib.hid hgrow; clear hown hgrow)
          go_meet
          case rel => exact ⟨T, _, rfl, rfl, HEndA.out T w1 w2 HI.out HTi.out HB1.out HO.out HG.out⟩
        · refine wpTr_sq (fun K hK => ?_)
          go_wp2_with (at_make; refine wpList_make_len elBl w0.heap.size n rfl rfl rfl hn9 (by decide) (Nat.le_refl _) rfl rfl rfl rfl ?_; intro w1 hown hgrow; have HO := Lib.hid hown; have HG := Lib.hid hgrow; clear hown hgrow)
          go_wp2_with fail
          refine hK _ _ (fun h => nomatch h) ?_
          clear hK K
          refine wpTr_last ?_
          go_wp2_with fail
          refine (inew_any (n : Int) w1 (by omega)).mono ?_
          rintro e w2 ⟨T, rfl, hT, hi, hb2⟩
          rw [Int.toNat_natCast] at hi
          have HTi := Lib.hid hT
          have HI := Lib.hid hi
          have HB2 := Lib.hid hb2
          clear hT hi hb2
          go_wp2_with fail
          go_meet
          case rel => exact ⟨T, _, rfl, rfl, HEndB.out T w1 w2 HI.out HTi.out HO.out HG.out HB2.out⟩
  case rest =>
    obtain ⟨T, af, rfl, rfl, hbg⟩ := hcut
    obtain ⟨hi, hc, hT, hb⟩ := hbg
    have HI0 := Lib.hid hi
    have HC0 := Lib.hid hc
    have HT := Lib.hid hT
    have HB0 := Lib.hid hb
    clear hi hc hT hb
    go_wp2_with fail
    go_loopw [8, 9] (fun f i wr => ∃ (k : Nat) (l : List Bool) (a1 : Option Addr) (c1 : Nat), k ≤ m ∧ k ≤ 100 ∧ i = .int .i64 (k : Int) ∧ f = .slice a1 n c1 ∧ l.length = n ∧ IxAt wr T k l ∧ Cells wr a1 (l.map Value.bool) ∧ Below w.heap.size w wr ∧ fb l 0 = false) (fun _ i _ => 100 - (intOf i).toNat)
    case atStart => exact ⟨0, List.replicate n false, af, n, Nat.zero_le _, Nat.zero_le _, rfl, rfl, by simp, HI0.out, HC0.out, HB0.out, by unfold fb; simp [List.getD_eq_getElem?_getD, List.getElem?_replicate]; split <;> rfl⟩
    case round =>
      obtain ⟨k, l, a1, c1, hkm, hk100, rfl, rfl, hln, hi, hc, hb, hz⟩ := hrel
      have HZ := Lib.hid hz
      clear hz
      have HI := Lib.hid hi
      have HC := Lib.hid hc
      have HB := Lib.hid hb
      have HLn := Lib.hid hln
      clear hi hc hb hln HI0 HC0
      by_cases hlt : k < m ∧ k < 100
      · obtain ⟨h1, h2⟩ := hlt
        have h1' : (k : Int) < (m : Int) := by omega
        have h2' : (k : Int) < 100 := by omega
        have hkl : k < s.length := by rw [HM.out]; exact h1
        obtain ⟨b1, o1, rfl, hbl, hcell⟩ := recs_cells Op11.len (by decide) (⟨0, 0, 0⟩ : Op11) (HCS.out.below HB.out (Nat.le_refl _)) hkl
        generalize s.getD k ⟨0, 0, 0⟩ = o at *
        obtain ⟨ok, oa, ob⟩ := o
        have e0 : wr.cell? ⟨b1, o1 + k * 3, none⟩ = some (.int .i64 ok) := hcell 0 _ rfl
        have e1 : wr.cell? ⟨b1, o1 + k * 3 + 1, none⟩ = some (.int .i64 oa) := hcell 1 _ rfl
        have e2 : wr.cell? ⟨b1, o1 + k * 3 + 2, none⟩ = some (.int .i64 ob) := hcell 2 _ rfl
        have HBa := Lib.hid (HB.out.trans ((below_alloc wr (.cells #[.int .i64 ok, .int .i64 oa, .int .i64 ob] 49)).mono HB.out.size))
        have HIa := Lib.hid (HI.out.below (below_alloc wr (.cells #[.int .i64 ok, .int .i64 oa, .int .i64 ob] 49)))
        have HCa := Lib.hid (HC.out.below (below_alloc wr (.cells #[.int .i64 ok, .int .i64 oa, .int .i64 ob] 49)) (Nat.le_refl _))
        have HMa := Lib.hid (Mem.one wr #[.int .i64 ok, .int .i64 oa, .int .i64 ob] 49)
        clear hcell hkl
        go_upto_region 6 with fail
        generalize wr.alloc _ = wa at *
        have hk1 : k < 1000000000000 := by omega
        by_cases h0 : ok = 0
        · subst h0
          have d0 := HMa.out.cell 0 0 rfl rfl
          have d1 := HMa.out.cell 0 1 rfl rfl
          have d2 := HMa.out.cell 0 2 rfl rfl
          go_wp2_with fail
          refine (rgive_any a1 n c1 l HLn.out oa ob _ HCa.out (by omega)).mono ?_
          rintro e w2 ⟨a2, c2, rfl, hc2, hb2⟩
          rw [HLn.out]
          have HC2 := Lib.hid hc2
          have HI2 := Lib.hid (HIa.out.below hb2)
          have HB2 : Hid (Below w.heap.size w w2) := Lib.hid (HBa.out.trans (hb2.mono HBa.out.size))
          have HM2 := Lib.hid (HMa.out.later hb2)
          have d1 := HM2.out.cell 0 1 rfl rfl
          have d2 := HM2.out.cell 0 2 rfl rfl
          clear hc2 hb2
          go_wp2_with fail
          refine (igive_any HI2.out (by rw [HLn.out]; omega) hk1 oa ob).mono ?_
          rintro e w3 ⟨rfl, hi3, ht3⟩
          have HC3 := Lib.hid (cells_touch HI2.out HC2.out ht3)
          have HZ3 := Lib.hid (giveR_zero HZ.out oa ob)
          have HL3 : Hid ((giveR l oa ob).1.length = n) := Lib.hid (by rw [giveR_len]; exact HLn.out)
          generalize giveR l oa ob = r at *
          obtain ⟨l3, r2⟩ := r
          dsimp only at hi3 HC3 HL3 HZ3 ⊢
          have HI3 := Lib.hid hi3
          have HB3 : Hid (Below w.heap.size w w3) := Lib.hid (below_touched HB2.out ht3 (Tri.two HT.out) (Nat.le_refl _))
          have hne : (r2 != r2) = false := by simp
          clear hi3 ht3 HC2
          go_wp2_with fail
          refine (shows_any HI3.out a2 n c2 HL3.out HC3.out (by omega)).mono ?_
          rintro e w4 ⟨rfl, hb4⟩
          have HB4 := Lib.hid hb4
          clear hb4
          go_wp2_with fail
          go_roundw
          case rel => exact ⟨k + 1, l3, a2, c2, by omega, by omega, vint (by omega), rfl, HL3.out, HI3.out.below HB4.out, HC3.out.below HB4.out (Nat.le_refl _), HB3.out.trans (HB4.out.mono HB3.out.size), HZ3.out⟩
          case measure => simp [intOf]; omega
        · have h0' : (ok == 0) = false := by simpa using h0
          have d0 := HMa.out.cell 0 0 rfl rfl
          have d1 := HMa.out.cell 0 1 rfl rfl
          go_wp2_with fail
          refine (rtake_any a1 n c1 l HLn.out oa _ HCa.out (by omega)).mono ?_
          rintro e w2 ⟨a2, c2, rfl, hc2, hb2⟩
          rw [HLn.out]
          have HC2 := Lib.hid hc2
          have HI2 := Lib.hid (HIa.out.below hb2)
          have HB2 : Hid (Below w.heap.size w w2) := Lib.hid (HBa.out.trans (hb2.mono HBa.out.size))
          have HM2 := Lib.hid (HMa.out.later hb2)
          have d1 := HM2.out.cell 0 1 rfl rfl
          clear hc2 hb2
          go_wp2_with fail
          refine (itake_any HI2.out (by rw [HLn.out]; omega) hk1 oa).mono ?_
          rintro e w3 ⟨rfl, hi3, ht3⟩
          have HC3 := Lib.hid (cells_touch HI2.out HC2.out ht3)
          have HZ3 := Lib.hid (takeR_zero HZ.out oa)
          have HL3 : Hid ((takeR l oa).1.length = n) := Lib.hid (by rw [takeR_len]; exact HLn.out)
          generalize takeR l oa = r at *
          obtain ⟨l3, r2, r3⟩ := r
          dsimp only at hi3 HC3 HL3 HZ3 ⊢
          have HI3 := Lib.hid hi3
          have HB3 : Hid (Below w.heap.size w w3) := Lib.hid (below_touched HB2.out ht3 (Tri.two HT.out) (Nat.le_refl _))
          have hne : (r2 != r2) = false := by simp
          have hne3 : (r3 != r3) = false := by simp
          clear hi3 ht3 HC2
          go_wp2_with fail
          refine (shows_any HI3.out a2 n c2 HL3.out HC3.out (by omega)).mono ?_
          rintro e w4 ⟨rfl, hb4⟩
          have HB4 := Lib.hid hb4
          clear hb4
          go_wp2_with fail
          go_roundw
          case rel => exact ⟨k + 1, l3, a2, c2, by omega, by omega, vint (by omega), rfl, HL3.out, HI3.out.below HB4.out, HC3.out.below HB4.out (Nat.le_refl _), HB3.out.trans (HB4.out.mono HB3.out.size), HZ3.out⟩
          case measure => simp [intOf]; omega
      · have hor : (k : Int) = (m : Int) ∨ ((k : Int) < (m : Int) ∧ (k : Int) = 100) := by omega
        have HEnd : Hid (Played11 w (.returned (.tuple #[.pointer (some ⟨T.p, 0, none⟩), .slice a1 n c1, .bool true])) wr) := Lib.hid ⟨T, k, l, a1, c1, by rw [HLn.out], HI.out, HC.out, hk100, by rw [HLn.out]; exact hn127, HT.out, HB.out, HZ.out⟩
        rw [HPo.out] at HEnd
        clear hlt
        rcases hor with h1 | ⟨h1, h2⟩
        · obtain rfl : k = m := by omega
          have hlt' : decide ((k : Int) < (k : Int)) = false := by simp
          clear h1
          go_wp2_with fail
          go_ret3
          exact HEnd.out
        · obtain rfl : k = 100 := by omega
          clear h2
          go_wp2_with fail
          go_ret3
          exact HEnd.out

end Go.Proofs.Ytlaaamaaabcfeaa

/- law11: RunsPlays; RunsFill. -/
namespace Go.Proofs.Ytlaaamaaabcfeaa
open Go.RowKit
set_option linter.unusedVariables false

set_option maxHeartbeats 2000000 in
set_option maxRecDepth 100000 in
theorem runsPlays_any (L : Int) (hL : -128 ≤ L ∧ L ≤ 127) (a : Option Addr) (m cap : Nat) (s : List Op11) (hm : s.length = m) (b : Int) (w : World) (hcs : Cells w a (recs Op11.cs s)) (hmm : m ≤ maxLen) :
    Calls Try.prog 3 #[.int .i8 L, .slice a m cap, .int .i64 b] w fun e w' => e = .returned (.bool true) ∧ Below w.heap.size w w' := by
  obtain ⟨hL1, hL2⟩ := hL
  have HM := Lib.hid hm
  have HCS := Lib.hid hcs
  have HMM := Lib.hid hmm
  clear hm hcs hmm
  go_enter Try.func3, Try.ntmps3
  go_wp2_with fail
  refine (awake11_any _).mono ?_
  rintro e w1 ⟨rfl, hb1⟩
  have HB1 := Lib.hid hb1
  clear hb1
  go_wp2_with fail
  refine (played11_any L hL2 a m cap s HM.out _ (HCS.out.below HB1.out (Nat.le_refl _)) HMM.out).mono ?_
  rintro e w2 ⟨T, k, l, af, c, rfl, hi, hc, hk, hl, hT, hb2, hz⟩
  clear hz
  have HI := Lib.hid hi
  have HC := Lib.hid hc
  have HB2 : Hid (Below w.heap.size w w2) := Lib.hid (HB1.out.trans (hb2.mono HB1.out.size))
  have HLl := Lib.hid hl
  clear hi hc hb2 hT
  go_wp2_with fail
  refine (has_any HI.out (by omega) b).mono ?_
  rintro e w3 ⟨rfl, hb3⟩
  have HB3 : Hid (Below w.heap.size w w3) := Lib.hid (HB2.out.trans (hb3.mono HB2.out.size))
  have HC3 := Lib.hid (HC.out.below hb3 (Nat.le_refl _))
  clear hb3
  by_cases h0 : b < 0
  · have HH : Hid (hasB l b = false) := Lib.hid (by unfold hasB; simp; omega)
    rw [HH.out]
    go_wp2_with fail
    go_ret
    exact ⟨rfl, HB3.out⟩
  · obtain ⟨n, rfl⟩ := Int.eq_ofNat_of_zero_le (show 0 ≤ b by omega)
    rw [hasB_nat]
    by_cases h1 : n < l.length
    · obtain ⟨bl, off, rfl, dd⟩ := bl_at HC3.out h1
      have d0 := dd n h1
      clear dd
      generalize fb l n = v at *
      have hlt : (n : Int) < (l.length : Int) := by omega
      have hvv : (v == v) = true := by simp
      go_wp2_with fail
      go_ret
      exact ⟨by simp, HB3.out⟩
    · have HF : Hid (fb l n = false) := Lib.hid (fb_far l n (by omega))
      rw [HF.out]
      have hlt : decide (n < l.length) = false := by simp; omega
      have hlt2 : decide ((n : Int) < (l.length : Int)) = false := by simp; omega
      go_wp2_with fail
      go_ret
      exact ⟨rfl, HB3.out⟩

/-- Spans, given one by one: what is free then, the first error. -/
structure Op2 where
  a : Int
  b : Int
def Op2.cs (o : Op2) : List Value := [.int .i64 o.a, .int .i64 o.b]
theorem Op2.len (o : Op2) : o.cs.length = 2 := rfl
def fillR : List Op2 → List Bool → List Bool × Int
  | [], l => (l, 0)
  | o :: r, l => if (giveR l o.a o.b).2 = 0 then fillR r (giveR l o.a o.b).1 else (l, (giveR l o.a o.b).2)
theorem drop2 {s : List Op2} {k : Nat} (h : k < s.length) : s.drop k = s.getD k ⟨0, 0⟩ :: s.drop (k + 1) := by
  rw [List.drop_eq_getElem_cons h, List.getD_eq_getElem?_getD, List.getElem?_eq_getElem h]; rfl

def FillPost (w : World) (r : List Bool × Int) : Ending → World → Prop := fun e w' => Below w.heap.size w w' ∧
  ((r.2 = 0 ∧ ∃ (T : Tri) (k : Nat), e = .returned (.tuple #[.pointer (some ⟨T.p, 0, none⟩), .int .i64 0]) ∧ IxAt w' T k r.1 ∧ (∀ b ∈ T.list, w.heap.size ≤ b)) ∨
   (r.2 ≠ 0 ∧ e = .returned (.tuple #[.pointer none, .int .i64 r.2])))

set_option maxHeartbeats 4000000 in
set_option maxRecDepth 100000 in
theorem ifill_any (L : Int) (hL : L ≤ 1000000) (a : Option Addr) (m cap : Nat) (s : List Op2) (hm : s.length = m) (w : World) (hcs : Cells w a (recs Op2.cs s)) (hmm : m ≤ 1000000) :
    Calls Try.prog 13 #[.int .i64 L, .slice a m cap] w (FillPost w (fillR s (List.replicate L.toNat false))) := by
  have HM := Lib.hid hm
  have HCS := Lib.hid hcs
  clear hm hcs
  generalize hPo : FillPost w (fillR s (List.replicate L.toNat false)) = Post
  have HPo := Lib.hid hPo
  clear hPo
  go_enter Try.func13, Try.ntmps13
  go_wp2_with fail
  refine (inew_any L _ (by omega)).mono ?_
  rintro e w1 ⟨T, rfl, hT, hi, hb1⟩
  have HT := Lib.hid hT
  have HI1 := Lib.hid hi
  have HB1 := Lib.hid hb1
  obtain ⟨n, hn⟩ : ∃ n, n = L.toNat := ⟨_, rfl⟩
  have hn1 : n ≤ 1000000 := by omega
  rw [← hn] at HI1 HPo
  clear hT hi hb1 hn
  go_wp2_with fail
  go_loopw [14] (fun i wr => ∃ (k : Nat) (l : List Bool), k ≤ m ∧ i = .int .i64 (k : Int) ∧ l.length = n ∧ IxAt wr T k l ∧ Below w.heap.size w wr ∧ fillR s (List.replicate n false) = fillR (s.drop k) l) (fun i _ => m - (intOf i).toNat)
  case atStart => exact ⟨0, List.replicate n false, Nat.zero_le _, rfl, by simp, HI1.out, HB1.out, rfl⟩
  case round =>
    obtain ⟨k, l, hk, rfl, hln, hi, hb, hf⟩ := hrel
    have HI := Lib.hid hi
    have HB := Lib.hid hb
    have HF := Lib.hid hf
    have HLn := Lib.hid hln
    clear hi hb hf hln
    by_cases hlt : k < m
    · have hlt' : (k : Int) < (m : Int) := by omega
      have hkl : k < s.length := by rw [HM.out]; exact hlt
      obtain ⟨b1, o1, rfl, hbl, hcell⟩ := recs_cells Op2.len (by decide) (⟨0, 0⟩ : Op2) (HCS.out.below HB.out (Nat.le_refl _)) hkl
      have hdr := drop2 hkl
      generalize s.getD k ⟨0, 0⟩ = o at *
      obtain ⟨oa, ob⟩ := o
      have HF2 : Hid (fillR s (List.replicate n false) = fillR (⟨oa, ob⟩ :: s.drop (k + 1)) l) := Lib.hid (by rw [HF.out, hdr])
      have e0 : wr.cell? ⟨b1, o1 + k * 2, none⟩ = some (.int .i64 oa) := hcell 0 _ rfl
      have e1 : wr.cell? ⟨b1, o1 + k * 2 + 1, none⟩ = some (.int .i64 ob) := hcell 1 _ rfl
      have HBa := Lib.hid (HB.out.trans ((below_alloc wr (.cells #[.int .i64 oa, .int .i64 ob] 38)).mono HB.out.size))
      have HIa := Lib.hid (HI.out.below (below_alloc wr (.cells #[.int .i64 oa, .int .i64 ob] 38)))
      have HMa := Lib.hid (Mem.one wr #[.int .i64 oa, .int .i64 ob] 38)
      have hk1 : k < 1000000000000 := by omega
      clear hcell hkl hdr HF
      go_upto_region 5 with fail
      generalize wr.alloc _ = wa at *
      have d0 := HMa.out.cell 0 0 rfl rfl
      have d1 := HMa.out.cell 0 1 rfl rfl
      go_wp2_with fail
      refine (igive_any HIa.out (by rw [HLn.out]; omega) hk1 oa ob).mono ?_
      rintro e w3 ⟨rfl, hi3, ht3⟩
      have HL3 : Hid ((giveR l oa ob).1.length = n) := Lib.hid (by rw [giveR_len]; exact HLn.out)
      have HF3 : Hid (fillR s (List.replicate n false) = if (giveR l oa ob).2 = 0 then fillR (s.drop (k + 1)) (giveR l oa ob).1 else (l, (giveR l oa ob).2)) := HF2
      have HB3 : Hid (Below w.heap.size w w3) := Lib.hid (below_touched HBa.out ht3 (Tri.two HT.out) (Nat.le_refl _))
      have HI3 := Lib.hid hi3
      generalize giveR l oa ob = r at *
      obtain ⟨l3, r2⟩ := r
      dsimp only at HF3 HL3 HI3 ⊢
      clear hi3 ht3 HF2
      by_cases hr : r2 = 0
      · subst hr
        rw [if_pos rfl] at HF3
        go_wp2_with fail
        go_roundw
        case rel => exact ⟨k + 1, l3, by omega, vint (by omega), HL3.out, HI3.out, HB3.out, HF3.out⟩
        case measure => simp [intOf]; omega
      · rw [if_neg hr] at HF3
        have hr' : (r2 != 0) = true := by simpa using hr
        have HEnd : Hid (FillPost w (fillR s (List.replicate n false)) (.returned (.tuple #[.pointer none, .int .i64 r2])) w3) := Lib.hid (by rw [HF3.out]; exact ⟨HB3.out, .inr ⟨hr, rfl⟩⟩)
        rw [HPo.out] at HEnd
        clear hr
        go_wp2_with fail
        exact HEnd.out
    · obtain rfl : k = m := by omega
      have hlt' : decide ((k : Int) < (k : Int)) = false := by simp
      have hdr : s.drop k = [] := List.drop_of_length_le (by rw [HM.out]; exact Nat.le_refl _)
      have HEnd : Hid (FillPost w (fillR s (List.replicate n false)) (.returned (.tuple #[.pointer (some ⟨T.p, 0, none⟩), .int .i64 0])) wr) := Lib.hid (by
        rw [HF.out, hdr]; exact ⟨HB.out, .inl ⟨rfl, T, k, rfl, HI.out, HT.out⟩⟩)
      rw [HPo.out] at HEnd
      clear hlt hdr
      go_wp2_with fail
      exact HEnd.out

set_option maxHeartbeats 4000000 in
set_option maxRecDepth 100000 in
theorem runsFill_any (L : Int) (hL : -128 ≤ L ∧ L ≤ 127) (a : Option Addr) (m cap : Nat) (s : List Op2) (hm : s.length = m) (w : World) (hcs : Cells w a (recs Op2.cs s)) (hmm : m ≤ maxLen) :
    Calls Try.prog 5 #[.int .i8 L, .slice a m cap] w fun e w' => e = .returned (.bool true) ∧ Below w.heap.size w w' := by
  obtain ⟨hL1, hL2⟩ := hL
  unfold maxLen at hmm
  have HM := Lib.hid hm
  have HCS := Lib.hid hcs
  clear hm hcs
  go_enter Try.func5, Try.ntmps5
  go_wp2_with fail
  refine (awake11_any _).mono ?_
  rintro e w1 ⟨rfl, hb1⟩
  have HB1 := Lib.hid hb1
  clear hb1
  by_cases h60 : 60 < m
  · have h60' : 60 < (m : Int) := by omega
    go_wp2_with fail
    go_ret
    exact ⟨rfl, HB1.out⟩
  have h60' : (m : Int) ≤ 60 := by omega
  clear h60
  go_wp2_with fail
  refine (ifill_any L (by omega) a m cap s HM.out _ (HCS.out.below HB1.out (Nat.le_refl _)) (by omega)).mono ?_
  rintro e w2 ⟨hb2, hcase⟩
  obtain ⟨n, hn⟩ : ∃ n, n = L.toNat := ⟨_, rfl⟩
  rw [← hn] at hcase
  have hn127 : n ≤ 127 := by omega
  have HNn := Lib.hid hn
  clear hn
  have HB2 : Hid (Below w.heap.size w w2) := Lib.hid (HB1.out.trans (hb2.mono HB1.out.size))
  clear hb2
  obtain ⟨R, hR⟩ : ∃ R, R = fillR s (List.replicate n false) := ⟨_, rfl⟩
  rw [← hR] at hcase
  obtain ⟨x, hx⟩ : ∃ x : Option Addr, x = none ∨ ∃ p, x = some p := ⟨none, .inl rfl⟩
  have hCase : ∃ (xp : Option Addr), e = .returned (.tuple #[.pointer xp, .int .i64 R.2]) ∧ ((R.2 = 0 ∧ ∃ (T : Tri) (k : Nat), xp = some ⟨T.p, 0, none⟩ ∧ IxAt w2 T k R.1) ∨ (R.2 ≠ 0 ∧ xp = none)) := by
    rcases hcase with ⟨h1, T, k, h2, h3, _⟩ | ⟨h1, h2⟩
    · exact ⟨_, by rw [h2, h1], .inl ⟨h1, T, k, rfl, h3⟩⟩
    · exact ⟨none, h2, .inr ⟨h1, rfl⟩⟩
  obtain ⟨xp, rfl, hxp⟩ := hCase
  have HXp := Lib.hid hxp
  have HR := Lib.hid hR
  clear hcase hxp hR hx x
  have hn9 : n < 1000000000000 := by omega
  go_upto_region 6 with fail
  have HMake : Hid (∀ w3 : World, w3.ownsRow w2.heap.size 4 1 (.slice (some ⟨w2.heap.size, 0, none⟩) n n) n (List.replicate n (.bool false)) → w2.grownBy w3 none → Cells w3 (some ⟨w2.heap.size, 0, none⟩) ((List.replicate n false).map Value.bool) ∧ Below w2.heap.size w2 w3) :=
    Lib.hid (fun w3 h1 h2 => ⟨bl_made h1, grown_none h2⟩)
  go_cut [7] from 23 (fun f wc => ∃ af, f = .slice af n n ∧ Cells wc af ((List.replicate n false).map Value.bool) ∧ Below w2.heap.size w2 wc)
  case first =>
    by_cases hneg : L < 0
    · obtain rfl : n = 0 := by have := HNn.out; omega
      have hmax : max L 0 = 0 := by omega
      go_wp2_with (at_make; refine wpList_make_len elBl w2.heap.size 0 rfl rfl rfl (by decide) (by decide) (Nat.le_refl _) rfl rfl rfl rfl ?_; intro w3 hown hgrow; have HO := Lib.hid hown; have HG := Lib.hid hgrow; clear hown hgrow)
      go_meet
      case rel => exact ⟨_, rfl, HMake.out _ HO.out HG.out⟩
    · obtain rfl : L = (n : Int) := by have := HNn.out; omega
      have hmax : max (n : Int) 0 = (n : Int) := by omega
      clear HNn
      go_wp2_with (at_make; refine wpList_make_len elBl w2.heap.size n rfl rfl rfl hn9 (by decide) (Nat.le_refl _) rfl rfl rfl rfl ?_; intro w3 hown hgrow; have HO := Lib.hid hown; have HG := Lib.hid hgrow; clear hown hgrow)
      go_meet
      case rel => exact ⟨_, rfl, HMake.out _ HO.out HG.out⟩
  case rest =>
    obtain ⟨af, rfl, hcf, hb3⟩ := hcut
    have HCf := Lib.hid hcf
    have HB3 : Hid (Below w.heap.size w wc) := Lib.hid (HB2.out.trans (hb3.mono HB2.out.size))
    have HB23 := Lib.hid hb3
    clear hcf hb3 HMake
    go_wp2_with fail
    go_loopw [7, 8] (fun f i wr => ∃ (k : Nat) (l : List Bool) (a1 : Option Addr) (c1 : Nat), k ≤ m ∧ i = .int .i64 (k : Int) ∧ f = .slice a1 n c1 ∧ l.length = n ∧ Cells wr a1 (l.map Value.bool) ∧ Below wc.heap.size wc wr ∧ R = fillR (s.drop k) l) (fun _ i _ => m - (intOf i).toNat)
    case atStart => exact ⟨0, List.replicate n false, af, n, Nat.zero_le _, rfl, rfl, by simp, HCf.out, Below.refl _ _, HR.out⟩
    case round =>
      obtain ⟨k, l, a1, c1, hk, rfl, rfl, hln, hc, hb, hf⟩ := hrel
      have HC := Lib.hid hc
      have HB := Lib.hid hb
      have HF := Lib.hid hf
      have HLn := Lib.hid hln
      have HBw : Hid (Below w.heap.size w wr) := Lib.hid (HB3.out.trans (hb.mono HB3.out.size))
      clear hc hb hf hln
      by_cases hlt : k < m
      · have hlt' : (k : Int) < (m : Int) := by omega
        have hkl : k < s.length := by rw [HM.out]; exact hlt
        obtain ⟨b1, o1, rfl, hbl, hcell⟩ := recs_cells Op2.len (by decide) (⟨0, 0⟩ : Op2) (HCS.out.below HBw.out (Nat.le_refl _)) hkl
        have hdr := drop2 hkl
        generalize s.getD k ⟨0, 0⟩ = o at *
        obtain ⟨oa, ob⟩ := o
        have HF2 : Hid (R = fillR (⟨oa, ob⟩ :: s.drop (k + 1)) l) := Lib.hid (by rw [HF.out, hdr])
        have e0 : wr.cell? ⟨b1, o1 + k * 2, none⟩ = some (.int .i64 oa) := hcell 0 _ rfl
        have e1 : wr.cell? ⟨b1, o1 + k * 2 + 1, none⟩ = some (.int .i64 ob) := hcell 1 _ rfl
        clear hcell hkl hdr HF
        go_upto_region 10 with fail
        have r0 := fun x => later_cell e0 x
        have r1 := fun x => later_cell e1 x
        refine wp_region_seg (C := fun w' => ∃ x : Later (wr), w' = x.val) [.fl [0, 1, 2, 3, 4, 5, 6, 7, 8, 9, 10], .sq [11, 12] false, .fl [13, 14, 15], .sq [16] false] (by kernel_rfl) (by kernel_rfl) (by intro c a d v w h; cases d <;> exact h) ?_
        simp only [segs, picks, List.getElem?_cons_succ, List.getElem?_cons_zero]
        have hC1 := later_drew (wr)
        refine wpSeg_fl hC1 ?_
        repeat (first | go_big_quiet_step (fail) | quiet_step (fail))
        refine wpQuiet_nil ?_
        refine wpSeg_sq (fun K hK => ?_)
        go_wp2_with fail
        refine (rgive_any a1 n c1 l HLn.out oa ob _ (HC.out.below (later_below hC1) (Nat.le_refl _)) (by omega)).mono ?_
        rintro e w4 ⟨a2, c2, rfl, hc4, hb4⟩
        rw [HLn.out]
        have HC4 := Lib.hid hc4
        have hC2 := later_step hC1 hb4
        have HL3 : Hid ((giveR l oa ob).1.length = n) := Lib.hid (by rw [giveR_len]; exact HLn.out)
        have HF3 : Hid (R = if (giveR l oa ob).2 = 0 then fillR (s.drop (k + 1)) (giveR l oa ob).1 else (l, (giveR l oa ob).2)) := HF2
        generalize giveR l oa ob = r at *
        obtain ⟨l3, r2⟩ := r
        dsimp only at HF3 HL3 HC4 ⊢
        clear hc4 hb4 HF2
        go_wp2_with fail
        refine hK _ _ (fun h => nomatch h) ?_
        clear hK K
        refine wpSeg_fl hC2 ?_
        repeat (first | go_big_quiet_step (fail) | quiet_step (fail))
        refine wpQuiet_nil ?_
        have HB4 : Hid (Below wc.heap.size wc w4) := Lib.hid (HB.out.trans ((later_below hC2).mono HB.out.size))
        clear hC1 hC2 r0 r1 e0 e1
        by_cases hr : r2 = 0
        · subst hr
          rw [if_pos rfl] at HF3
          refine wpSeg_last ?_
          go_wp2_with fail
          exact ⟨⟨k + 1, l3, a2, c2, by omega, vint (by omega), rfl, HL3.out, HC4.out, HB4.out, HF3.out⟩, by simp [intOf]; omega⟩
        · rw [if_neg hr] at HF3
          have hr' : (r2 != 0) = true := by simpa using hr
          have hR2 : R.2 = r2 := by rw [HF3.out]
          obtain rfl : xp = none := by
            rcases HXp.out with ⟨h1, _⟩ | ⟨_, h1⟩
            · exact absurd (by rw [← hR2]; exact h1) hr
            · exact h1
          have HBe : Hid (Below w.heap.size w w4) := Lib.hid (HB3.out.trans (HB4.out.mono HB3.out.size))
          have heq : (R.2 == r2) = true := by rw [hR2]; simp
          clear hr hR2
          refine wpSeg_last ?_
          go_wp2_with fail
          go_ret
          exact ⟨rfl, HBe.out⟩
      · obtain rfl : k = m := by omega
        have hlt' : decide ((k : Int) < (k : Int)) = false := by simp
        have hdr : s.drop k = [] := List.drop_of_length_le (by rw [HM.out]; exact Nat.le_refl _)
        have hR : R = (l, 0) := by rw [HF.out, hdr]; rfl
        subst hR
        obtain ⟨_, T, k2, rfl, hi⟩ : ((l, (0 : Int)).2 = 0 ∧ ∃ (T : Tri) (k : Nat), xp = some ⟨T.p, 0, none⟩ ∧ IxAt w2 T k (l, (0 : Int)).1) := by
          rcases HXp.out with h1 | ⟨h1, _⟩
          · exact h1
          · exact absurd rfl h1
        have HI : Hid (IxAt wr T k2 l) := Lib.hid ((hi.below HB23.out).below HB.out)
        clear hlt hdr hi
        go_wp2_with fail
        refine (shows_any HI.out a1 n c1 HLn.out HC.out (by omega)).mono ?_
        rintro e w5 ⟨rfl, hb5⟩
        have HB5 : Hid (Below w.heap.size w w5) := Lib.hid (HBw.out.trans (hb5.mono HBw.out.size))
        clear hb5
        go_wp2_with fail
        go_ret
        exact ⟨rfl, HB5.out⟩

end Go.Proofs.Ytlaaamaaabcfeaa

/- law11: RunsBack. -/
namespace Go.Proofs.Ytlaaamaaabcfeaa
open Go.RowKit
set_option linter.unusedVariables false

theorem long_lt {n : Nat} (hn : 1 ≤ n) : ∀ {l : List Sp}, (∀ x ∈ l, x.2 < n) → longOf l < n := by
  intro l h
  have : ∀ (l : List Nat) (m : Nat), m < n → (∀ x ∈ l, x < n) → l.foldl max m < n := by
    intro l
    induction l with
    | nil => intro m hm _; exact hm
    | cons x l ih => intro m hm h; exact ih _ (by have := h x (by simp); omega) (fun y hy => h y (by simp [hy]))
  exact this _ 0 hn (fun x hx => by obtain ⟨y, hy, rfl⟩ := List.mem_map.1 hx; exact h y hy)

theorem pick_none {l : List Bool} {n : Nat} (h : pick n (runsOf l) = none) : ∀ x ∈ runsOf l, x.2 < n := by
  have hb := pick_best (n := n) (runsOf_is l).rising
  rw [h] at hb
  exact fun x hx => hb x.1 x.2 hx

theorem fb_ext {a b : List Bool} (hl : a.length = b.length) (h : ∀ i, fb a i = fb b i) : a = b := by
  apply List.ext_getElem hl
  intro i h1 h2
  have := h i
  unfold fb at this
  simpa [List.getD_eq_getElem?_getD, h1, h2] using this

/-- What is taken and given back. -/
theorem back_eq {l : List Bool} {a k n : Nat} (hr : IsRun (fb l) a k) (hn : 1 ≤ n) (hk : n ≤ k) : setTo (setTo l a false n) a true n = l ∧ anyFree (setTo l a false n) a n = false ∧ hasB (setTo l a false n) (a : Int) = false := by
  have hin := runEnds hr
  have h1 : a + n ≤ l.length := by omega
  have h2 : a + n ≤ (setTo l a false n).length := by rw [setTo_length]; exact h1
  refine ⟨fb_ext (by rw [setTo_length, setTo_length]) (fun i => ?_), ?_, ?_⟩
  · rw [setTo_fb _ _ _ _ h2, setTo_fb _ _ _ _ h1]
    by_cases h : a ≤ i ∧ i < a + n
    · rw [if_pos h]; exact (hr.2.1 i h.1 (by omega)).symm
    · rw [if_neg h, if_neg h]
  · cases hf : anyFree (setTo l a false n) a n with
    | false => rfl
    | true =>
      obtain ⟨b, h3, h4, h5⟩ := anyFree_true hf
      rw [setTo_fb _ _ _ _ h1, if_pos ⟨h3, h4⟩] at h5; cases h5
  · rw [hasB_nat, setTo_fb _ _ _ _ h1, if_pos ⟨Nat.le_refl _, by omega⟩]

theorem back_give {l : List Bool} {a k n : Nat} (hr : IsRun (fb l) a k) (h0 : fb l 0 = false) (hn : 1 ≤ n) (hk : n ≤ k) : giveR (setTo l a false n) a n = (l, 0) := by
  obtain ⟨h1, h2, _⟩ := back_eq hr hn hk
  have hin := runEnds hr
  have ha : 1 ≤ a := by
    rcases Nat.eq_zero_or_pos a with h | h
    · have := hr.2.1 0 (by omega) (by have := hr.1; omega); rw [h0] at this; cases this
    · exact h
  rw [giveR_ok ⟨ha, hn, by rw [setTo_length]; omega⟩ h2, h1]

theorem best_short {l : List Bool} {n : Nat} {x : Sp} (h : pick n (runsOf l) = some x) : ∀ y ∈ runsOf l, n ≤ y.2 → x.2 ≤ y.2 := by
  have hb := pick_best (n := n) (runsOf_is l).rising
  rw [h] at hb
  intro y hy hny
  have := hb.2.2 y.1 y.2 hy hny
  omega

set_option maxHeartbeats 8000000 in
set_option maxRecDepth 100000 in
theorem runsBack_any (L : Int) (hL : -128 ≤ L ∧ L ≤ 127) (a : Option Addr) (m cap : Nat) (s : List Op11) (hm : s.length = m) (z : Int) (hz : -128 ≤ z ∧ z ≤ 127) (w : World) (hcs : Cells w a (recs Op11.cs s)) (hmm : m ≤ maxLen) :
    Calls Try.prog 4 #[.int .i8 L, .slice a m cap, .int .i8 z] w fun e w' => e = .returned (.bool true) ∧ Below w.heap.size w w' := by
  obtain ⟨hL1, hL2⟩ := hL
  obtain ⟨hz1, hz2⟩ := hz
  have HM := Lib.hid hm
  have HCS := Lib.hid hcs
  have HMM := Lib.hid hmm
  clear hm hcs hmm
  go_enter Try.func4, Try.ntmps4
  go_wp2_with fail
  refine (awake11_any _).mono ?_
  rintro e w1 ⟨rfl, hb1⟩
  have HB1 := Lib.hid hb1
  clear hb1
  go_wp2_with fail
  refine (played11_any L hL2 a m cap s HM.out _ (HCS.out.below HB1.out (Nat.le_refl _)) HMM.out).mono ?_
  rintro e w2 ⟨T, k0, l, af, c, rfl, hi, hc, hk0, hl, hT, hb2, h0⟩
  have HI2 := Lib.hid hi
  have HB2 : Hid (Below w.heap.size w w2) := Lib.hid (HB1.out.trans (hb2.mono HB1.out.size))
  have HT : Hid (∀ b ∈ T.list, w.heap.size ≤ b) := Lib.hid (fun b hb => Nat.le_trans HB1.out.size (hT b hb))
  have HZ := Lib.hid h0
  have HLl := Lib.hid hl
  have hk1 : k0 < 1000000000000 := by omega
  clear hi hc hb2 hT h0
  obtain ⟨ln, hln⟩ : ∃ ln, ln = l.length := ⟨_, rfl⟩
  rw [← hln]
  clear hln
  go_wp2_with fail
  refine (ilist_any HI2.out (by have := HLl.out; omega)).mono ?_
  rintro e w3 ⟨a3, c3, rfl, hc3, hb3⟩
  have HB3 : Hid (Below w.heap.size w w3) := Lib.hid (HB2.out.trans (hb3.mono HB2.out.size))
  have HI3 := Lib.hid (HI2.out.below hb3)
  have HC3 := Lib.hid hc3
  clear hb3 hc3
  go_wp2_with fail
  refine (itake_any HI3.out (by have := HLl.out; omega) hk1 z).mono ?_
  rintro e w4 ⟨rfl, hi4, ht4⟩
  have HC4 := Lib.hid (cells_touch HI3.out HC3.out ht4)
  have HB4 : Hid (Below w.heap.size w w4) := Lib.hid (below_touched HB3.out ht4 (Tri.two HT.out) (Nat.le_refl _))
  clear ht4
  by_cases hzz : z < 1
  · rw [takeR_arg hzz] at hi4 ⊢
    have HI4 := Lib.hid hi4
    clear hi4
    go_wp2_with fail
    refine (longest_any HI4.out (by have := HLl.out; omega)).mono ?_
    rintro e w5 ⟨rfl, hb5⟩
    have HB5 : Hid (Below w.heap.size w w5) := Lib.hid (HB4.out.trans (hb5.mono HB4.out.size))
    clear hb5
    generalize longOf (runsOf l) = lo at *
    by_cases hlo : (lo : Int) < z
    · go_wp2_with fail
      go_ret
      exact ⟨rfl, HB5.out⟩
    · have hlo' : decide ((lo : Int) < z) = false := by simp; omega
      go_wp2_with fail
      go_ret
      exact ⟨rfl, HB5.out⟩
  obtain ⟨n, rfl⟩ := Int.eq_ofNat_of_zero_le (show 0 ≤ z by omega)
  have hn1 : 1 ≤ n := by omega
  cases hp : pick n (runsOf l) with
  | none =>
    rw [takeR_none hn1 hp] at hi4 ⊢
    have hlong := long_lt hn1 (pick_none hp)
    have HI4 := Lib.hid hi4
    clear hi4 hp
    go_wp2_with fail
    refine (longest_any HI4.out (by have := HLl.out; omega)).mono ?_
    rintro e w5 ⟨rfl, hb5⟩
    have HB5 : Hid (Below w.heap.size w w5) := Lib.hid (HB4.out.trans (hb5.mono HB4.out.size))
    clear hb5
    generalize longOf (runsOf l) = lo at *
    have hlo : (lo : Int) < (n : Int) := by omega
    go_wp2_with fail
    go_ret
    exact ⟨rfl, HB5.out⟩
  | some x =>
    rw [takeR_some hn1 hp] at hi4 ⊢
    have hrun := pick_run hp
    obtain ⟨st, k⟩ := x
    dsimp only at hi4 hrun ⊢
    have HI4 := Lib.hid hi4
    have HBs := Lib.hid (best_short hp)
    have HRun := Lib.hid hrun.1
    have hnk := hrun.2
    have HMem : Hid ((st, k) ∈ runsOf l) := Lib.hid (((runsOf_is l).mem st k).2 hrun.1)
    have HUn : Hid (∀ y : Sp, y ∈ runsOf l → y.1 = st → y.2 = k) := Lib.hid (fun y hy e => by
      have := ((runsOf_is l).mem y.1 y.2).1 hy
      rw [e] at this
      exact this.one hrun.1)
    have hin := runEnds hrun.1
    have HIn := Lib.hid hin
    clear hi4 hp hrun hzz hin
    obtain ⟨R, hR⟩ : ∃ R, R = runsOf l := ⟨_, rfl⟩
    obtain ⟨N, hN⟩ : ∃ N, N = R.length := ⟨_, rfl⟩
    rw [← hR] at HC3 HC4 HBs HMem HUn ⊢
    rw [← hN]
    have HR := Lib.hid hR
    have HN := Lib.hid hN
    have HNb : Hid (N ≤ 1000) := Lib.hid (by rw [hN, hR]; have := runs_len (fb l) l.length; have := HLl.out; unfold runsOf; omega)
    have HLb : Hid (k ≤ 1000 ∧ st ≤ 1000) := Lib.hid (by have := HIn.out; have := HLl.out; omega)
    obtain ⟨hk9, hst9⟩ := HLb.out
    clear hR hN HLb
    have hN9 := HNb.out
    go_wp2_with fail
    go_loop [13, 14] (fun v i => ∃ (j q : Nat), j ≤ N ∧ i = .int .i64 (j : Int) ∧ v = .int .i64 (q : Int) ∧ ((st, k) ∈ R.take j → q = k)) (fun _ i => N - (intOf i).toNat)
    case atStart => exact ⟨0, 0, Nat.zero_le _, rfl, rfl, fun h => by simp at h⟩
    case round =>
      obtain ⟨j, q, hj, rfl, rfl, hq⟩ := hrel
      have HQ := Lib.hid hq
      clear hq
      by_cases hlt : j < N
      · have hlt' : (j : Int) < (N : Int) := by omega
        have hjR : j < R.length := by rw [← HN.out]; exact hlt
        obtain ⟨⟨ys, yn⟩, hy⟩ : ∃ y, R[j]? = some y := ⟨_, List.getElem?_eq_getElem hjR⟩
        obtain ⟨bl, off, rfl, d0, d1⟩ := sp_cells HC4.out hjR (sp_getD hy)
        dsimp only at d0 d1
        have htk : R.take (j + 1) = R.take j ++ [(ys, yn)] := by
          obtain ⟨h1, h2⟩ := List.getElem?_eq_some_iff.1 hy
          rw [List.take_succ_eq_append_getElem hjR, h2]
        have hmem : (ys, yn) ∈ R := List.mem_of_getElem? hy
        by_cases he : ys = st
        · subst he
          have hyn : yn = k := HUn.out (ys, yn) hmem rfl
          subst hyn
          clear hmem htk hy hjR
          go_wp2_with fail
          go_round
          case rel => exact ⟨j + 1, yn, by omega, vint (by omega), rfl, fun _ => rfl⟩
          case measure => simp [intOf]; omega
        · have he1 : (ys == st) = false := by simpa using he
          have he2 : ((ys : Int) == (st : Int)) = false := by simp; omega
          have HQ1 : Hid ((st, k) ∈ R.take (j + 1) → q = k) := Lib.hid (fun h => by
            rw [htk, List.mem_append, List.mem_singleton] at h
            rcases h with h | h
            · exact HQ.out h
            · exact absurd (congrArg Prod.fst h).symm he)
          clear hmem htk hy hjR he
          go_wp2_with fail
          go_round
          case rel => exact ⟨j + 1, q, by omega, vint (by omega), rfl, HQ1.out⟩
          case measure => simp [intOf]; omega
      · obtain rfl : j = N := by omega
        have hlt' : decide ((j : Int) < (j : Int)) = false := by simp
        obtain rfl : q = k := HQ.out (by rw [List.take_of_length_le (by rw [← HN.out]; exact Nat.le_refl _)]; exact HMem.out)
        clear hlt
        go_wp2_with fail
        go_loop [6, 15] (fun _ i => ∃ (j1 : Nat), j1 ≤ j ∧ i = .int .i64 (j1 : Int)) (fun _ i => j - (intOf i).toNat)
        case atStart => exact ⟨0, Nat.zero_le _, rfl⟩
        case round =>
          obtain ⟨j1, hj1, rfl⟩ := hrel
          by_cases hlt : j1 < j
          · have hlt' : (j1 : Int) < (j : Int) := by omega
            have hjR : j1 < R.length := by rw [← HN.out]; exact hlt
            obtain ⟨⟨ys, yn⟩, hy⟩ : ∃ y, R[j1]? = some y := ⟨_, List.getElem?_eq_getElem hjR⟩
            obtain ⟨bl, off, rfl, d0, d1⟩ := sp_cells HC4.out hjR (sp_getD hy)
            dsimp only at d0 d1
            have hsh := HBs.out (ys, yn) (List.mem_of_getElem? hy)
            dsimp only at hsh
            clear hy hjR
            by_cases hny : n ≤ yn
            · have h1 : (n : Int) ≤ (yn : Int) := by omega
              have h2 : decide ((yn : Int) < (q : Int)) = false := by have := hsh hny; simp; omega
              have h3 : decide (yn < q) = false := by have := hsh hny; simp; omega
              clear hsh
              go_wp2_with fail
              go_round
              case rel => exact ⟨j1 + 1, by omega, vint (by omega)⟩
              case measure => simp [intOf]; omega
            · have h1 : decide ((n : Int) ≤ (yn : Int)) = false := by simp; omega
              have h3 : decide (n ≤ yn) = false := by simp; omega
              clear hsh hny
              go_wp2_with fail
              go_round
              case rel => exact ⟨j1 + 1, by omega, vint (by omega)⟩
              case measure => simp [intOf]; omega
          · obtain rfl : j1 = j := by omega
            have hlt2 : decide ((j1 : Int) < (j1 : Int)) = false := by simp
            have h3 : decide (q < n) = false := by simp; omega
            have h4 : decide ((q : Int) < (n : Int)) = false := by simp; omega
            obtain ⟨_, _, hHas⟩ := back_eq HRun.out hn1 hnk
            have HHas := Lib.hid hHas
            have HGiv := Lib.hid (back_give HRun.out HZ.out hn1 hnk)
            clear hlt hHas
            go_wp2_with fail
            refine (has_any HI4.out (by rw [setTo_length]; have := HLl.out; omega) (st : Int)).mono ?_
            rintro e w5 ⟨rfl, hb5⟩
            rw [HHas.out]
            have HI5 := Lib.hid (HI4.out.below hb5)
            have HC5 := Lib.hid (HC4.out.below hb5 (Nat.le_refl _))
            have HB5 : Hid (Below w.heap.size w w5) := Lib.hid (HB4.out.trans (hb5.mono HB4.out.size))
            clear hb5
            go_wp2_with fail
            refine (igive_any HI5.out (by rw [setTo_length]; have := HLl.out; omega) (by omega) (st : Int) (n : Int)).mono ?_
            rintro e w6 ⟨rfl, hi6, ht6⟩
            rw [HGiv.out] at hi6 ⊢
            have HI6 := Lib.hid hi6
            have HC6 := Lib.hid (cells_touch HI5.out HC5.out ht6)
            have HB6 : Hid (Below w.heap.size w w6) := Lib.hid (below_touched HB5.out ht6 (Tri.two HT.out) (Nat.le_refl _))
            clear hi6 ht6
            go_wp2_with fail
            refine (ilist_any HI6.out (by have := HLl.out; omega)).mono ?_
            rintro e w7 ⟨a7, c7, rfl, hc7, hb7⟩
            have HB7 : Hid (Below w.heap.size w w7) := Lib.hid (HB6.out.trans (hb7.mono HB6.out.size))
            have HC7 := Lib.hid hc7
            have HC37 := Lib.hid (HC6.out.below hb7 (Nat.le_refl _))
            clear hb7 hc7
            rw [← HR.out] at HC7 ⊢
            rw [← HN.out]
            have hne : (j1 != j1) = false := by simp
            go_wp2_with fail
            go_loopw [6, 17] (fun _ i wr => ∃ (j2 q2 : Nat), j2 ≤ j1 ∧ i = .int .i64 (j2 : Int) ∧ wr = w7.drewN q2) (fun _ i _ => j1 - (intOf i).toNat)
            case atStart => exact ⟨0, 0, Nat.zero_le _, rfl, rfl⟩
            case round =>
              obtain ⟨j2, q2, hj2, rfl, rfl⟩ := hrel
              by_cases hlt : j2 < j1
              · have hlt' : (j2 : Int) < (j1 : Int) := by omega
                have hjR : j2 < R.length := by rw [← HN.out]; exact hlt
                obtain ⟨⟨ys, yn⟩, hy⟩ : ∃ y, R[j2]? = some y := ⟨_, List.getElem?_eq_getElem hjR⟩
                obtain ⟨bl, off, rfl, d0, d1⟩ := sp_cells HC37.out hjR (sp_getD hy)
                obtain ⟨bl7, off7, rfl, d2, d3⟩ := sp_cells HC7.out hjR (sp_getD hy)
                dsimp only at d0 d1 d2 d3
                have heq := fun W => equalSp W (ys : Int) (yn : Int)
                clear hy hjR
                go_wp2_with fail
                go_quiet (fail)
                go_wp2_with fail
                go_roundw
                case rel => exact ⟨j2 + 1, _, by omega, vint (by omega), rfl⟩
                case measure => simp [intOf]; omega
              · obtain rfl : j2 = j1 := by omega
                have hlt2 : decide ((j2 : Int) < (j2 : Int)) = false := by simp
                clear hlt
                go_wp2_with fail
                go_ret
                exact ⟨rfl, below_drewN HB7.out _⟩

theorem wf_i8 {x : Int} (h : (Lit.int .i8 x).wf = true) : -128 ≤ x ∧ x ≤ 127 := by
  simp [Lit.wf, IntKind.min, IntKind.max, IntKind.bits, IntKind.signed] at h
  omega
theorem three11 (zs : List Int) (h : zs.length = 3) : (Op11.cs ⟨zs.getD 0 0, zs.getD 1 0, zs.getD 2 0⟩) = zs.map (Value.int .i64) := by
  match zs, h with
  | [a, b, c], _ => rfl
theorem two2 (zs : List Int) (h : zs.length = 2) : (Op2.cs ⟨zs.getD 0 0, zs.getD 1 0⟩) = zs.map (Value.int .i64) := by
  match zs, h with
  | [a, b], _ => rfl

end Go.Proofs.Ytlaaamaaabcfeaa
