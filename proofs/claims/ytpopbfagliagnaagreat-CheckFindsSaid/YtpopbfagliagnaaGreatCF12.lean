/- Parts of the proof, one behind the other: Ct, Cv, Cw, Ck, Fy, Fz, Cy, Ls, Il, Br. -/
import Derived.Test.YtpopbfagliagnaaGreatCF11
import Derived.Shelf.SlSortCmp.WholeK
import Derived.Ground.SlsfProg
import Derived.Test.YtpopbfagliagnaaGreatProg
import Derived.Shelf.SlSortCmp.NoneTotal
set_option linter.unusedVariables false
namespace Go.Proofs.YtpopbfagliagnaaGreat
open Go.RowKit Go.Shelf Go.Maps
attribute [local go_sem] Oper.semAt_some
def sizeP (m : Al) (x : Nat) : Nat := match placedN m.bm.dev m.bm.list (x : Int) with
 | some o => objSize o.p o.d
 | none => 0
def Rep.cell1 (m : Al) (c : Nat) (R : Rep) (x : Nat) : Rep := if m.used.getD x false then R.add (sizeP m x) (clsWords (c : Int) : Nat) else { R with ce := R.ce + 1 }
def Rep.cells1 (m : Al) (c : Nat) (R : Rep) (xs : List Nat) : Rep := xs.foldl (Rep.cell1 m c) R
theorem Rep.cells1_snoc (m : Al) (c : Nat) (R : Rep) (xs : List Nat) (x : Nat) : Rep.cells1 m c R (xs ++ [x]) = Rep.cell1 m c (Rep.cells1 m c R xs) x := by unfold Rep.cells1; rw [List.foldl_append]; rfl
def RepJ (w4 : World) (r : Nat) (m : Al) (c : Nat) (R : Rep) {b : Nat} (pre : List {x : Nat // x ∈ cellL b c}) (W : World) : Prop := RepAt W r (Rep.cells1 m c R (pre.map Subtype.val)) ∧ Touch [r] w4 W
theorem repJ_own (w4 : World) (r : Nat) (m : Al) (c : Nat) (R : Rep) {b : Nat} : OwnFrom w4.heap.size (fun (pre : List {x : Nat // x ∈ cellL b c}) W => RepJ w4 r m c R pre W) := by
 rintro s W W' row ⟨h1, h2⟩ hg hr
 have hne : ∀ k, row = some k → k ≠ r := fun k e hk => by
  obtain ⟨_, o, ho, hc⟩ := hr k e
  subst hk
  rw [h1] at ho
  injection ho with ho
  subst ho
  cases hc
 refine ⟨h1.keep (hg.block r h1.lt (fun e => hne r e.symm rfl)), ⟨hg.os.trans h2.os, hg.tape.trans h2.tape, hg.output.trans h2.output, Nat.le_trans h2.size hg.size, fun k hk hn => ?_⟩⟩
 refine (hg.block k (Nat.lt_of_lt_of_le hk h2.size) (fun e => ?_)).trans (h2.block k hk hn)
 have := (hr k e.symm).1
 omega
theorem keeps_touch {B r : Nat} {W W' : World} {R : Rep} (h : Touch [r] W W') (hr : RepAt W r R) : KeepsFrom B W W' := ⟨h.size, fun k o _ hk ho => by
 have hne : k ≠ r := fun e => by
  subst e
  rw [hr] at hk
  injection hk with hk
  subst hk
  cases ho
 exact (h.block k (Array.getElem?_eq_some_iff.1 hk).1 (by simpa using hne)).trans hk⟩
theorem kp3_touch {Bk Bg Bb r : Nat} {W W' : World} (h : Touch [r] W W') (h1 : Bk ≠ r ∧ Bk < W.heap.size) (h2 : Bg ≠ r ∧ Bg < W.heap.size) (h3 : Bb ≠ r ∧ Bb < W.heap.size) : Kp3 Bk Bg Bb W W' :=
 ⟨h.block _ h1.2 (by simpa using h1.1), h.block _ h2.2 (by simpa using h2.1), h.block _ h3.2 (by simpa using h3.1)⟩
theorem wp_nopanic {P : Program} {c : Code} {K : Act → World → Prop} {Q : Exit → Act → World → Prop} {a : Act} {w : World} (h : c.wp P (Exit.then K (fun _ _ _ => False)) a w) : c.wp P (Exit.then K Q) a w :=
 Code.wp_mono (fun e a w he => by cases e <;> first | exact he | exact he.elim) h
theorem Rep.ok.mono {R : Rep} {N N' : Nat} (h : R.ok N) (hN : N ≤ N') : R.ok N' := by
 obtain ⟨h1, h2, h3, h4, h5, h6, h7, h8⟩ := h
 exact ⟨by omega, by omega, by omega, by omega, by omega, by omega, by omega, by omega⟩
theorem clsWords_256 (c : Int) : clsWords c ≤ 256 := clsWords_le c
theorem Rep.cell1_ok {m : Al} {c : Nat} {R : Rep} {x N : Nat} (h : R.ok N) (hs : m.used.getD x false = true → sizeP m x ≤ 256) : (Rep.cell1 m c R x).ok (N + 600) := by
 obtain ⟨h1, h2, h3, h4, h5, h6, h7, h8⟩ := h
 have hw := clsWords_256 (c : Int)
 unfold Rep.cell1
 split
 ·next hu =>
  have hs := hs hu
  unfold Rep.add Rep.ok
  dsimp only
  exact ⟨by omega, by omega, by omega, by omega, by omega, by omega, by omega, by omega⟩
 ·unfold Rep.ok
  dsimp only
  exact ⟨by omega, by omega, by omega, by omega, by omega, by omega, by omega, by omega⟩
theorem Rep.cells1_ok {m : Al} {c : Nat} : ∀ {xs : List Nat} {R : Rep} {N : Nat} (_ : R.ok N) (_ : ∀ x ∈ xs, m.used.getD x false = true → sizeP m x ≤ 256), (Rep.cells1 m c R xs).ok (N + 600 * xs.length)
 | [], _, _, h, _ => h
 | x :: xs, R, N, h, hs => by
  have := Rep.cells1_ok (c := c) (xs := xs) (Rep.cell1_ok (c := c) h (hs x (by simp))) (fun y hy => hs y (by simp [hy]))
  exact this.mono (by rw [List.length_cons]; omega)
theorem sizeP_le {B : Nat} {m : Al} (hok : AlOk B m) {c x : Nat} (hc : c < 32) (hx : isCell m.bm.list c x) (hu : m.used.getD x false = true) : sizeP m x ≤ clsWords (c : Int) := by
 obtain ⟨o, ho⟩ := Option.isSome_iff_exists.1 (hok.placed x hu)
 have hs : sizeP m x = objSize o.p o.d := by unfold sizeP; rw [ho]
 rw [hs]
 have hr : objSize o.p o.d ≤ roomN o.p o.d := by
  by_cases h0 : objSize o.p o.d = 0
  ·omega
  ·exact room_fits h0
 cases placed_room ho with
 | cell k hk hcell hn =>
  have h1 := hcell.2.2.1
  have h2 := hx.2.2.1
  rw [h1] at h2
  injection h2 with _ h2 _
  obtain rfl : k = c := by omega
  omega
 | run n hb h1 hm hw hn =>
  have := (wholeN_fits (L := m.bm.list) (b := x / 512) (by omega)).2.1
  rw [isCell_kind hx] at this
  exact absurd this (by decide)
theorem cellL_is {B : Nat} {m : Al} (hok : AlOk B m) {b c x : Nat} (hc : c < 32) (hb1 : 1 ≤ b) (hbB : b < B) (hL : m.bm.list.getD b default = ⟨1, c, 0⟩) (hx : x ∈ cellL b c) : isCell m.bm.list c x := by
 obtain ⟨i, hi, hix⟩ := List.mem_map.1 hx
 exact ((isCell_of (L := m.bm.list) hc hb1 (by rw [hok.bm.lenL]; exact hbB) hL).2 ⟨i, List.mem_range.1 hi, hix.symm⟩).1
theorem cells1_fit {B : Nat} {m : Al} (hok : AlOk B m) {b c : Nat} (hc : c < 32) (hb1 : 1 ≤ b) (hbB : b < B) (hL : m.bm.list.getD b default = ⟨1, c, 0⟩) {R : Rep} {N : Nat} (hR : R.ok N) {xs : List Nat} (hx : ∀ x ∈ xs, x ∈ cellL b c) : (Rep.cells1 m c R xs).ok (N + 600 * xs.length) :=
 Rep.cells1_ok hR (fun x h1 hu => Nat.le_trans (sizeP_le hok hc (cellL_is hok hc hb1 hbB hL (hx x h1)) hu) (clsWords_256 _))
def Rep.block (R : Rep) (m : Al) (b c : Nat) : Rep := { Rep.cells1 m c R (cellL b c) with sm := (Rep.cells1 m c R (cellL b c)).sm + 1, wa := (Rep.cells1 m c R (cellL b c)).wa + (clsWaste c : Nat) }
theorem run_load_cell {w : World} {a : Addr} {v : Value} (hg : w.cell? a = some v) : (Sem.load Mode.plain a Sem.pure).run Tryz.prog w = .ok v w := by
 simp [Sem.run, hg]
theorem results_cell_two {fn : Func} {p q : Tmp} {u v : Value} (h : fn.results = #[.cell p 3, .cell q 50]) (tmps : Array Value) (w : World) (g k : Nat) (hp : tmps.getD p undef = .pointer (some ⟨g, 0, none⟩)) (hq : tmps.getD q undef = .pointer (some ⟨k, 0, none⟩))
  (hg : w.cell? ⟨g, 0, none⟩ = some u) (hk : w.cell? ⟨k, 0, none⟩ = some v) : (results fn tmps).run Tryz.prog w = .ok (.tuple #[u, v]) w := by
 have hp' : tmps[p]?.getD undef = .pointer (some ⟨g, 0, none⟩) := by simpa using hp
 have hq' : tmps[q]?.getD undef = .pointer (some ⟨k, 0, none⟩) := by simpa using hq
 have ha := Tryz.isAgg3
 have hb := Tryz.isAgg50
 simp [results, h, hp', hq', asAddr, loadVar, load, ha, hb, go_sem, hg, hk, Sem.run_bind, Result.andThen, run_load_cell hg, run_load_cell hk]
set_option maxRecDepth 100000 in
set_option maxHeartbeats 8000000 in
theorem rblock_any {w : World} {A : AF} {n B : Nat} {m : Al} (h : AlAt w A n B m) (hok : AlOk B m) (hB : B ≤ 200) {mp nn : Nat} {M : Lit → Option Value} (hV : VMap Tryz.prog 3 w mp nn M) (hI : InM M (freeUpto m 32)) {r : Nat} {R : Rep} (hR : RepAt w r R) (hRo : R.ok 100000000) (hrA : r ∉ A.list)
  {b c : Nat} (hb1 : 1 ≤ b) (hbB : b < B) (hc : c < 32) (hL : m.bm.list.getD b default = ⟨1, c, 0⟩) :
  Calls Tryz.prog 253 #[.pointer (some ⟨r, 0, none⟩), valloc A, .map (some mp), .int .i64 (b : Int), .int .i64 (c : Int)] w fun e w' => e = .returned (.tuple #[.int .i64 0, .int .i64 0]) ∧ RepAt w' r (R.block m b c) ∧ Touch [r] w w' := by
 refine (callsIn_wide (n := 5)).1 ?_
 refine callsIn_of_wp_marks Tryz.func253 rfl trivial ?_ rfl
 simp only [Tryz.ntmps253, List.size_toArray, List.length_cons, List.length_nil, Nat.reduceAdd, Nat.reduceSub, Array.replicate_succ, Array.replicate_zero, List.push_toArray, List.append_toArray, List.nil_append, List.cons_append]
 have HG := LH (fun w' (h' : Below w.heap.size w w') => bgeom_any (h.below h').man)
 have b5 := Boxed.new w 368 (.pointer (some ⟨r, 0, none⟩))
 have b6 := Boxed.new (w.alloc (.cells #[.pointer (some ⟨r, 0, none⟩)] 368)) 45 (valloc A)
 have b7 := Boxed.new ((w.alloc (.cells #[.pointer (some ⟨r, 0, none⟩)] 368)).alloc (.cells #[valloc A] 45)) 279 (.map (some mp))
 have b9 := Boxed.new (((w.alloc (.cells #[.pointer (some ⟨r, 0, none⟩)] 368)).alloc (.cells #[valloc A] 45)).alloc (.cells #[.map (some mp)] 279)) 3 (.int .i64 (c : Int))
 rw [World.size_alloc] at b6
 rw [World.size_alloc, World.size_alloc] at b7
 rw [World.size_alloc, World.size_alloc, World.size_alloc] at b9
 have b10 := Boxed.new ((((w.alloc (.cells #[.pointer (some ⟨r, 0, none⟩)] 368)).alloc (.cells #[valloc A] 45)).alloc (.cells #[.map (some mp)] 279)).alloc (.cells #[.int .i64 (c : Int)] 3)) 3 (.int .i64 0)
 rw [World.size_alloc, World.size_alloc, World.size_alloc, World.size_alloc] at b10
 have b11 := Boxed.new (((((w.alloc (.cells #[.pointer (some ⟨r, 0, none⟩)] 368)).alloc (.cells #[valloc A] 45)).alloc (.cells #[.map (some mp)] 279)).alloc (.cells #[.int .i64 (c : Int)] 3)).alloc (.cells #[.int .i64 0] 3)) 50 (.int .i64 0)
 rw [World.size_alloc, World.size_alloc, World.size_alloc, World.size_alloc, World.size_alloc] at b11
 have b10' := b10.alloc (.cells #[.int .i64 0] 50)
 have b5' := ((((b5.alloc (.cells #[valloc A] 45)).alloc (.cells #[.map (some mp)] 279)).alloc (.cells #[.int .i64 (c : Int)] 3)).alloc (.cells #[.int .i64 0] 3)).alloc (.cells #[.int .i64 0] 50)
 have b6' := (((b6.alloc (.cells #[.map (some mp)] 279)).alloc (.cells #[.int .i64 (c : Int)] 3)).alloc (.cells #[.int .i64 0] 3)).alloc (.cells #[.int .i64 0] 50)
 have b7' := ((b7.alloc (.cells #[.int .i64 (c : Int)] 3)).alloc (.cells #[.int .i64 0] 3)).alloc (.cells #[.int .i64 0] 50)
 have b9' := (b9.alloc (.cells #[.int .i64 0] 3)).alloc (.cells #[.int .i64 0] 50)
 have hBl : Below w.heap.size w ((((((w.alloc (.cells #[.pointer (some ⟨r, 0, none⟩)] 368)).alloc (.cells #[valloc A] 45)).alloc (.cells #[.map (some mp)] 279)).alloc (.cells #[.int .i64 (c : Int)] 3)).alloc (.cells #[.int .i64 0] 3)).alloc (.cells #[.int .i64 0] 50)) :=
  ((((((Below.refl _ w).alloc (Nat.le_refl _) _).alloc (by simp) _).alloc (by simp; omega) _).alloc (by simp; omega) _).alloc (by simp; omega) _).alloc (by simp; omega) _
 clear b5 b6 b7 b9 b10
 gi_wp2_with fail
 generalize (((((w.alloc _).alloc _).alloc _).alloc _).alloc _).alloc _ = w0 at *
 have HBl := LH hBl
 have HA0 := LH (h.below hBl)
 have a0 := HA0.out.c0
 have e6 := b6'.cell
 have e9 := b9'.cell
 have r0 := fun x => later_cell a0 x
 have r6 := fun x => later_cell e6 x
 have r9 := fun x => later_cell e9 x
 clear hBl a0 e6 e9
 refine wpIn_wide.2 (wp_nopanic ?_)
 refine wp_region_seg (C := fun w' => ∃ x : Later (w0), w' = x.val) [.fl [0, 1, 2, 3, 5, 6], .sq [4] true, .sq [7] false] (by kernel_rfl) (by kernel_rfl) (by intro c a d v w h; cases d <;> exact h) ?_
 simp only [segs, picks, List.getElem?_cons_succ, List.getElem?_cons_zero]
 have hC1 := later_drew (w0)
 refine wpSeg_fl hC1 ?_
 repeat (first | go_big_quiet_step (fail) | quiet_step (fail))
 refine wpQuiet_nil ?_
 refine wpSeg_sq (fun K hK => ?_)
 go_wp2_with fail
 refine (bgeom_any (HA0.out.below (later_below hC1)).man).mono ?_
 rintro e w1 ⟨rfl, hb1⟩
 have hC2 := later_step hC1 hb1
 have HB1 : Hid (Below w0.heap.size w0 w1) := LH (later_below hC2)
 clear hb1 r0 r6 r9
 go_wp2_with fail
 refine hK _ _ (fun _ => hC2) ?_
 clear hK K
 refine wpSeg_last ?_
 go_wp2_with fail
 refine ((callsIn_wide (n := 4)).1 (call_in B c b 4 w1)).mono ?_
 rintro e w2 ⟨rfl, rfl⟩
 have bK := (Boxed.new (w1.alloc (.cells #[.int .i64 (B : Int)] 44)) 3 (.int .i64 (c : Int))).alloc (.cells #[.int .i64 (b : Int)] 3)
 have bG := ((Boxed.new w1 44 (.int .i64 (B : Int))).alloc (.cells #[.int .i64 (c : Int)] 3)).alloc (.cells #[.int .i64 (b : Int)] 3)
 have bB := Boxed.new ((w1.alloc (.cells #[.int .i64 (B : Int)] 44)).alloc (.cells #[.int .i64 (c : Int)] 3)) 3 (.int .i64 (b : Int))
 rw [World.size_alloc] at bK
 rw [World.size_alloc, World.size_alloc] at bB
 have hb2 : Below w1.heap.size w1 (((w1.alloc (.cells #[.int .i64 (B : Int)] 44)).alloc (.cells #[.int .i64 (c : Int)] 3)).alloc (.cells #[.int .i64 (b : Int)] 3)) := (((Below.refl _ w1).alloc (Nat.le_refl _) _).alloc (by simp) _).alloc (by simp; omega) _
 generalize ((w1.alloc _).alloc _).alloc _ = w2 at *
 have HB2 : Hid (Below w0.heap.size w0 w2) := LH (HB1.out.trans (hb2.mono HB1.out.size))
 clear hb2 hC1 hC2
 go_wp2_with fail
 have HT0 : Hid (Touch [r] w2 w2) := LH (Touch.refl _ _)
 have HR2 : Hid (RepAt w2 r R) := LH ((hR.below HBl.out).below HB2.out)
 have hst := call_stops (show B ≤ 1000 by omega) hc hb1 hbB 4 (by omega) (w1.heap.size + 1) w1.heap.size (w1.heap.size + 1 + 1) bK bG bB
 refine wpIn_block ?_
 refine wpIn_rangeFunc_ownG rfl (by omega) (gf := 340) (lb := #[.pointer (some ⟨w1.heap.size + 1, 0, none⟩), .pointer (some ⟨w1.heap.size, 0, none⟩), .pointer (some ⟨w1.heap.size + 1 + 1, 0, none⟩)]) rfl trivial (enters_of Tryz.func340 (by kernel_rfl) rfl)
  hst Kp3.trans (Kp3.book bK.lt bG.lt bB.lt) (Below.refl _ _) (fun _ => rfl)
  (fun pre W => RepJ w2 r m c R pre W) (fun _ _ _ => False) (repJ_own w2 r m c R) (fun _ _ _ _ _ hs _ _ => hs) ⟨HR2.out, HT0.out⟩
  (fun x => { tmps := #[.pointer (some ⟨r, 0, none⟩), valloc A, .map (some mp), .int .i64 (b : Int), .int .i64 (c : Int), .pointer (some ⟨w.heap.size, 0, none⟩), .pointer (some ⟨w.heap.size + 1, 0, none⟩), .pointer (some ⟨w.heap.size + 1 + 1, 0, none⟩), undef, .pointer (some ⟨w.heap.size + 1 + 1 + 1, 0, none⟩), .pointer (some ⟨w.heap.size + 1 + 1 + 1 + 1, 0, none⟩), .pointer (some ⟨w.heap.size + 1 + 1 + 1 + 1 + 1, 0, none⟩), .int .i64 (x.val : Int), undef, undef, undef, valloc A, .pointer (some ⟨A.a, 0, none⟩), .pointer (some ⟨A.a, 0, none⟩), .pointer (some ⟨A.X.m, 0, none⟩), vgeom (B : Int), .int .i64 (c : Int), .int .i64 (b : Int), .func (.func 340) #[] #[.pointer (some ⟨w1.heap.size + 1, 0, none⟩), .pointer (some ⟨w1.heap.size, 0, none⟩), .pointer (some ⟨w1.heap.size + 1 + 1, 0, none⟩)], .int .i64 (x.val : Int), undef, undef, undef, undef, undef, undef, undef, undef, undef, undef, undef, undef, undef, undef, undef, undef, undef, undef, undef, undef, undef, undef, undef, undef, undef, undef, undef, undef, undef, undef, undef, undef, undef, undef, undef, undef, undef, undef, undef, undef, undef, undef, undef, undef, undef, undef, undef, undef, undef, undef, undef, undef, undef, undef, undef, undef, undef, undef, undef, undef, undef], defers := [] }) ?assign ?body ?done ?stop
 case assign =>
  intro l x W K hK
  gi_wp2
  exact hK
 case stop =>
  rintro D c pre W _ _ h _
  exact h.elim
 case body =>
  rintro l' pre x W ⟨hRp, hT⟩ hlt'
  have hrw : r < w.heap.size := hR.lt
  have hz0 := HBl.out.size
  have hz2 := HB2.out.size
  have hz1 := HB1.out.size
  have hzK := bK.lt
  have hzB := bB.lt
  have hzT := hT.size
  have hkp : ∀ k, k ≠ r → k < w2.heap.size → W.heap[k]? = w2.heap[k]? := fun k hk hl => hT.block k hl (by simpa using hk)
  have b5W : Boxed W w.heap.size 368 (.pointer (some ⟨r, 0, none⟩)) := (hkp _ (by omega) (Nat.lt_of_lt_of_le b5'.lt hz2)).trans ((HB2.out.block _ b5'.lt).trans b5')
  have b6W : Boxed W (w.heap.size + 1) 45 (valloc A) := (hkp _ (by omega) (Nat.lt_of_lt_of_le b6'.lt hz2)).trans ((HB2.out.block _ b6'.lt).trans b6')
  have b7W : Boxed W (w.heap.size + 1 + 1) 279 (.map (some mp)) := (hkp _ (by omega) (Nat.lt_of_lt_of_le b7'.lt hz2)).trans ((HB2.out.block _ b7'.lt).trans b7')
  have b9W : Boxed W (w.heap.size + 1 + 1 + 1) 3 (.int .i64 (c : Int)) := (hkp _ (by omega) (Nat.lt_of_lt_of_le b9'.lt hz2)).trans ((HB2.out.block _ b9'.lt).trans b9')
  have HA2 := HA0.out.below HB2.out
  have HAW := LH (HA2.keep (fun k hk => hkp k (fun e => hrA (e ▸ hk)) (HA2.mem k hk)))
  have hmr : mp ≠ r := fun e => by
   subst e
   obtain ⟨D, ⟨es, clock, hb, _⟩, _⟩ := hV
   rw [hR] at hb; cases hb
  have HVW := LH (hV.block ((hkp mp hmr (Nat.lt_of_lt_of_le (Nat.lt_of_lt_of_le hV.lt hz0) hz2)).trans ((HB2.out.block mp (Nat.lt_of_lt_of_le hV.lt hz0)).trans (HBl.out.block mp hV.lt))))
  have e5 := b5W.cell
  have e6 := b6W.cell
  have e7 := b7W.cell
  have e9 := b9W.cell
  have HU := LH (aused_any HAW.out (x.val : Int))
  rw [hasI_nat] at HU
  have hcell := x.property
  have hx9 : x.val ≤ 1000000 := by
   obtain ⟨i, hi, hix⟩ := List.mem_map.1 hcell
   have h1 : clsCells (c : Int) ≤ 512 := by unfold clsCells; exact Nat.le_trans (Nat.div_le_self _ _) (by omega)
   have h2 := List.mem_range.1 hi
   have h3 : i * clsWords (c : Int) ≤ 512 * 256 := Nat.mul_le_mul (by omega) (clsWords_256 _)
   rw [← hix]; unfold cellOf; omega
  have HcJ : Hid (Rep.cells1 m c R ((pre ++ [x]).map Subtype.val) = Rep.cell1 m c (Rep.cells1 m c R (pre.map Subtype.val)) x.val) := LH (by rw [List.map_append]; exact Rep.cells1_snoc _ _ _ _ _)
  have HTw := LH hT
  have hpl : pre.length < 513 := by
   have h1 : clsCells (c : Int) ≤ 512 := by unfold clsCells; exact Nat.le_trans (Nat.div_le_self _ _) (by omega)
   rw [cellL_len] at hlt'
   omega
  have hRok : (Rep.cells1 m c R (pre.map Subtype.val)).ok 1000000000 := (cells1_fit hok hc hb1 hbB hL hRo (xs := pre.map Subtype.val) (fun y hy => by obtain ⟨z, _, rfl⟩ := List.mem_map.1 hy; exact z.property)).mono (by rw [List.length_map]; omega)
  generalize Rep.cells1 m c R (pre.map Subtype.val) = R1 at *
  have HRp := LH hRp
  cases hu : m.used.getD x.val false with
  | false =>
   rw [hu] at HU
   have HFr : Hid (freeUpto m 32 x.val = true) := LH (by
    unfold freeUpto
    rw [List.any_eq_true]
    refine ⟨c, List.mem_range.2 hc, ?_⟩
    unfold isFree
    rw [decide_eq_true_iff]
    refine ⟨((isCell_of (L := m.bm.list) hc hb1 (by rw [hok.bm.lenL]; exact hbB) hL).2 ?_).1, hu⟩
    obtain ⟨i, hi, hix⟩ := List.mem_map.1 hcell
    exact ⟨i, List.mem_range.1 hi, hix.symm⟩)
   have hlk : (Instr.lookup 279 (.map (some mp)) (.int .i64 (x.val : Int)) false).run Tryz.prog W = .ok (.bool true) W := by
    have := HVW.out.look keyed_int Tryz.underlying279 (zero_bool W) (key_int x.val hx9)
    rw [hI.get hx9, HFr.out] at this
    exact this
   have d5 : W.cell? ⟨r, 5, none⟩ = some (vi R1.ce) := HRp.out.cell rfl
   have f5 := HRp.out.row.frozen 5
   have hce : R1.ce ≤ 1000000000 := hRok.2.2.2.2.2.1
   gi_wp2_with (refine ⟨trivial, ?_⟩; gi_at_call 62; refine (callsIn_wide.2 HU.out).mono ?_; rintro e w1 ⟨rfl, rfl⟩)
   obtain ⟨h1, t1⟩ := HRp.out.set (R' := { R1 with ce := R1.ce + 1 }) 5 (.int .i64 ((R1.ce : Int) + 1)) rfl
   refine ⟨keeps_touch t1 HRp.out, kp3_touch t1 ⟨by omega, by omega⟩ ⟨by omega, by omega⟩ ⟨by omega, by omega⟩, ?_, HTw.out.trans t1⟩
   show RepAt _ r (Rep.cells1 m c R ((pre ++ [x]).map Subtype.val))
   rw [HcJ.out]
   unfold Rep.cell1
   rw [hu]
   exact h1
  | true =>
   have HAp := LH (fun w' (h' : Below W.heap.size W w') => aplace_any (HAW.out.below h') (by omega) (x.val : Int))
   have HCw := LH (fun w => cwords_any (c : Int) w)
   rw [hu] at HU
   have HFr : Hid (freeUpto m 32 x.val = false) := LH (by
    unfold freeUpto
    rw [List.any_eq_false]
    intro j _ hj
    unfold isFree at hj
    rw [decide_eq_true_iff] at hj
    rw [hj.2] at hu; cases hu)
   have hlk : (Instr.lookup 279 (.map (some mp)) (.int .i64 (x.val : Int)) false).run Tryz.prog W = .ok (.bool false) W := by
    have := HVW.out.look keyed_int Tryz.underlying279 (zero_bool W) (key_int x.val hx9)
    rw [hI.get hx9, HFr.out] at this
    exact this
   obtain ⟨po, hpo⟩ := Option.isSome_iff_exists.1 (hok.placed x.val hu)
   have HSz : Hid (sizeP m x.val = objSize po.p po.d) := LH (by unfold sizeP; rw [hpo])
   have HPl := LH (HAp.out W (Below.refl _ _))
   gi_wp2_with (first
    | (refine ⟨trivial, ?_⟩; gi_at_call 62; refine (callsIn_wide.2 HU.out).mono ?_; rintro e w1 ⟨rfl, rfl⟩)
    | (refine ⟨trivial, ?_⟩; gi_at_call 166; refine (callsIn_wide.2 HPl.out).mono ?_; rintro e W2 ⟨⟨p, d, rfl, hpd⟩, hb2⟩; have HPd := LH (hpd _ hpo); have HB2w := LH hb2; rw [hpo]; clear hpd hb2))
   have HM5 := LH (Mem.one W2 #[.int .i64 p, .int .i64 d] 169)
   have HB5 : Hid (Below W.heap.size W (W2.alloc (.cells #[.int .i64 p, .int .i64 d] 169))) := LH (HB2w.out.trans (HM5.out.below.mono HB2w.out.size))
   obtain ⟨qo, hqo⟩ : ∃ qo, qo = W2.heap.size := ⟨_, rfl⟩
   rw [← hqo] at HM5 ⊢
   generalize W2.alloc _ = w5 at *
   have g5b : Boxed w5 w.heap.size 368 (.pointer (some ⟨r, 0, none⟩)) := (HB5.out.block _ b5W.lt).trans b5W
   have g5 := g5b.cell
   have g9b : Boxed w5 (w.heap.size + 1 + 1 + 1) 3 (.int .i64 (c : Int)) := (HB5.out.block _ b9W.lt).trans b9W
   have g9 := g9b.cell
   have m0 := HM5.out.cell 0 0 rfl rfl
   have m1 := HM5.out.cell 0 1 rfl rfl
   have r5 := fun x => later_cell g5 x
   have r9 := fun x => later_cell g9 x
   have q0 := fun x => later_cell m0 x
   have q1 := fun x => later_cell m1 x
   have HR5 := LH (HRp.out.below HB5.out)
   have HSp : Hid (sizeP m x.val = objSize p d) := LH (by rw [HSz.out, HPd.out])
   clear e5 e6 e7 e9 g5 g9 m0 m1 hlk hqo
   refine wpIn_region_seg (C := fun w' => ∃ x : Later (w5), w' = x.val) [.fl [0, 1, 2], .sq [3] true, .sq [4] false] (by kernel_rfl) (by kernel_rfl) (by intro c a d v w h; cases d <;> exact h) (by rintro ⟨a, w, h⟩; exact h) (by kernel_rfl) ?_
   simp only [segs, picks, List.getElem?_cons_succ, List.getElem?_cons_zero]
   have hC1 := later_drew (w5)
   refine wpSeg_fl hC1 ?_
   repeat (first | go_big_quiet_step (fail) | quiet_step (fail))
   refine wpQuiet_nil ?_
   refine wpSeg_sq (fun K hK => ?_)
   go_wp2_with fail
   refine (HCw.out _).mono ?_
   rintro e w6 ⟨rfl, hb6⟩
   have hC2 := later_step hC1 hb6
   clear hb6 r5 r9 q0 q1
   go_wp2_with fail
   refine hK _ _ (fun _ => hC2) ?_
   clear hK K
   refine wpSeg_last ?_
   go_wp2_with fail
   have hs256 : sizeP m x.val ≤ 256 := Nat.le_trans (sizeP_le hok hc (cellL_is hok hc hb1 hbB hL hcell) hu) (clsWords_256 _)
   refine (radd_any (HR5.out.below (later_below hC2)) hRok p d (clsWords (c : Int) : Nat) (by rw [← HSp.out]; omega) (by omega) (by have := clsWords_256 (c : Int); omega)).mono ?_
   rintro e w7 ⟨rfl, hr7, ht7⟩
   have htW : Touch [r] W w7 := ((Touch.ofBelow HB5.out).trans (Touch.ofBelow (later_below hC2))).trans ht7
   have HFin : Hid (RepJ w2 r m c R (pre ++ [x]) w7) := LH ⟨by
    rw [HcJ.out]
    unfold Rep.cell1
    rw [hu, if_pos rfl, HSp.out]
    exact hr7, HTw.out.trans htW⟩
   have HKe := LH (keeps_touch (B := w2.heap.size) htW HRp.out)
   have HK3 : Hid (Kp3 (w1.heap.size + 1) w1.heap.size (w1.heap.size + 1 + 1) W w7) := LH (kp3_touch htW ⟨by omega, by omega⟩ ⟨by omega, by omega⟩ ⟨by omega, by omega⟩)
   clear hr7 ht7 htW hC1 hC2
   go_wp2_with fail
   exact ⟨HKe.out, HK3.out, HFin.out⟩
 case done =>
  rintro D ys W hD hys ⟨hRp, hT⟩ hK
  have hrw : r < w.heap.size := hR.lt
  have hz0 := HBl.out.size
  have hz2 := HB2.out.size
  have hkp : ∀ k, k ≠ r → k < w2.heap.size → W.heap[k]? = w2.heap[k]? := fun k hk hl => hT.block k hl (by simpa using hk)
  have b5W : Boxed W w.heap.size 368 (.pointer (some ⟨r, 0, none⟩)) := (hkp _ (by omega) (Nat.lt_of_lt_of_le b5'.lt hz2)).trans ((HB2.out.block _ b5'.lt).trans b5')
  have b9W : Boxed W (w.heap.size + 1 + 1 + 1) 3 (.int .i64 (c : Int)) := (hkp _ (by omega) (Nat.lt_of_lt_of_le b9'.lt hz2)).trans ((HB2.out.block _ b9'.lt).trans b9')
  rw [hys] at hRp
  have hRok : (Rep.cells1 m c R (cellL b c)).ok 1000000000 := (cells1_fit hok hc hb1 hbB hL hRo (xs := cellL b c) (fun y hy => hy)).mono (by
   have h1 : clsCells (c : Int) ≤ 512 := by unfold clsCells; exact Nat.le_trans (Nat.div_le_self _ _) (by omega)
   rw [cellL_len]; omega)
  have HBk : Hid (R.block m b c = { Rep.cells1 m c R (cellL b c) with sm := (Rep.cells1 m c R (cellL b c)).sm + 1, wa := (Rep.cells1 m c R (cellL b c)).wa + (clsWaste c : Nat) }) := LH rfl
  generalize Rep.cells1 m c R (cellL b c) = R2 at *
  have e5 := b5W.cell
  have d1 : W.cell? ⟨r, 1, none⟩ = some (vi R2.sm) := hRp.cell rfl
  have f1 := hRp.row.frozen 1
  have hsm : R2.sm ≤ 1000000000 := hRok.2.1
  have hwa : -1000000000 ≤ R2.wa ∧ R2.wa ≤ 1000000000 := hRok.2.2.2.2.2.2
  obtain ⟨h1, t1⟩ := (show RepAt W r R2 from hRp).set (R' := { R2 with sm := R2.sm + 1 }) 1 (.int .i64 ((R2.sm : Int) + 1)) rfl
  have HR6 := LH h1
  have HT6 := LH t1
  have hzW := hT.size
  gi_wp2_with fail
  generalize W.setCell _ _ = w6 at *
  have g5 : w6.cell? ⟨w.heap.size, 0, none⟩ = some (.pointer (some ⟨r, 0, none⟩)) := (show Boxed w6 w.heap.size 368 (.pointer (some ⟨r, 0, none⟩)) from (HT6.out.block _ b5W.lt (by simp; omega)).trans b5W).cell
  have g9 : w6.cell? ⟨w.heap.size + 1 + 1 + 1, 0, none⟩ = some (.int .i64 (c : Int)) := (show Boxed w6 (w.heap.size + 1 + 1 + 1) 3 (.int .i64 (c : Int)) from (HT6.out.block _ b9W.lt (by simp; omega)).trans b9W).cell
  have d6 : w6.cell? ⟨r, 6, none⟩ = some (.int .i64 R2.wa) := HR6.out.cell rfl
  have r5 := fun x => later_cell g5 x
  have r9 := fun x => later_cell g9 x
  have r6 := fun x => later_cell d6 x
  have HWs := LH (fun w => cwaste_any c hc w)
  have hws : clsWaste c ≤ 512 := Nat.sub_le _ _
  clear h1 t1 e5 d1 f1 g5 g9 d6
  refine wpIn_wide.2 (wp_nopanic ?_)
  refine wp_region_seg (C := fun w' => ∃ x : Later (w6), w' = x.val) [.fl [0, 1, 2, 3, 4], .sq [5] true, .sq [6, 7, 8, 9] false] (by kernel_rfl) (by kernel_rfl) (by intro c a d v w h; cases d <;> exact h) ?_
  simp only [segs, picks, List.getElem?_cons_succ, List.getElem?_cons_zero]
  have hC1 := later_drew (w6)
  refine wpSeg_fl hC1 ?_
  repeat (first | go_big_quiet_step (fail) | quiet_step (fail))
  refine wpQuiet_nil ?_
  refine wpSeg_sq (fun K hK => ?_)
  go_wp2_with fail
  refine (HWs.out _).mono ?_
  rintro e w7 ⟨rfl, hb7⟩
  have hC2 := later_step hC1 hb7
  have HR7 := LH (HR6.out.below (later_below hC2))
  have d6 : w7.cell? ⟨r, 6, none⟩ = some (.int .i64 R2.wa) := HR7.out.cell rfl
  have f6 := HR7.out.row.frozen 6
  clear hb7 r5 r6 r9
  obtain ⟨h2, t2⟩ := HR7.out.set (R' := { R2 with sm := R2.sm + 1, wa := R2.wa + (clsWaste c : Nat) }) 6 (.int .i64 (R2.wa + ((clsWaste c : Nat) : Int))) rfl
  have HT7 : Hid (Touch [r] W w7) := LH (HT6.out.trans (Touch.ofBelow (later_below hC2)))
  have HR8 := LH h2
  have HT8 := LH (HT7.out.trans t2)
  clear h2 t2
  go_wp2_with fail
  refine hK _ _ (fun _ => hC2) ?_
  clear hK K
  refine wpSeg_last ?_
  go_wp2_with fail
  generalize w7.setCell _ _ = w8 at *
  have HT28 : Hid (Touch [r] w2 w8) := LH (hT.trans HT8.out)
  have hz8 := HT28.out.size
  have k10 : Boxed w8 (w.heap.size + 1 + 1 + 1 + 1) 3 (.int .i64 0) := (HT28.out.block _ (Nat.lt_of_lt_of_le b10'.lt hz2) (by simp; omega)).trans ((HB2.out.block _ b10'.lt).trans b10')
  have k11 : Boxed w8 (w.heap.size + 1 + 1 + 1 + 1 + 1) 50 (.int .i64 0) := (HT28.out.block _ (Nat.lt_of_lt_of_le b11.lt hz2) (by simp; omega)).trans ((HB2.out.block _ b11.lt).trans b11)
  have c10 := k10.cell
  have f10 := k10.frozen
  have k11' := k11.other (show w.heap.size + 1 + 1 + 1 + 1 + 1 ≠ w.heap.size + 1 + 1 + 1 + 1 by omega) (.int .i64 0)
  have c11 := k11'.cell
  have f11 := k11'.frozen
  have hD8 : w8.heap[D]? = some (.deferred (some [])) := (HT8.out.block D (Array.getElem?_eq_some_iff.1 hK).1 (by simp; omega)).trans hK
  have hDa : D ≠ w.heap.size + 1 + 1 + 1 + 1 := fun e => by have := b10'.lt; omega
  have hDb : D ≠ w.heap.size + 1 + 1 + 1 + 1 + 1 := fun e => by have := b11.lt; omega
  have hK2 : ((w8.setCell ⟨w.heap.size + 1 + 1 + 1 + 1, 0, none⟩ (.int .i64 0)).setCell ⟨w.heap.size + 1 + 1 + 1 + 1 + 1, 0, none⟩ (.int .i64 0)).heap[D]? = some (.deferred (some [])) := (Below.heap_setCell _ _ _ _ hDb).trans ((Below.heap_setCell _ _ _ _ hDa).trans hD8)
  have k10b : Boxed (((w8.setCell ⟨w.heap.size + 1 + 1 + 1 + 1, 0, none⟩ (.int .i64 0)).setCell ⟨w.heap.size + 1 + 1 + 1 + 1 + 1, 0, none⟩ (.int .i64 0)).putObj D (.deferred none)) (w.heap.size + 1 + 1 + 1 + 1) 3 (.int .i64 0) := (World.putObj_heap_other (fun e => hDa e.symm)).trans ((k10.set (.int .i64 0)).other (by omega) _)
  have k11b : Boxed (((w8.setCell ⟨w.heap.size + 1 + 1 + 1 + 1, 0, none⟩ (.int .i64 0)).setCell ⟨w.heap.size + 1 + 1 + 1 + 1 + 1, 0, none⟩ (.int .i64 0)).putObj D (.deferred none)) (w.heap.size + 1 + 1 + 1 + 1 + 1) 50 (.int .i64 0) := (World.putObj_heap_other (fun e => hDb e.symm)).trans (k11'.set (.int .i64 0))
  have z10 := k10b.cell
  have z11 := k11b.cell
  gi_wp2
  refine ⟨by simp, .inl ⟨_, _, rfl, run_takeDeferred hK2, ?_⟩⟩
  have B9 : Below w.heap.size w8 (((w8.setCell ⟨w.heap.size + 1 + 1 + 1 + 1, 0, none⟩ (.int .i64 0)).setCell ⟨w.heap.size + 1 + 1 + 1 + 1 + 1, 0, none⟩ (.int .i64 0)).putObj D (.deferred none)) :=
   (((Below.refl w.heap.size w8).setCell (p := ⟨w.heap.size + 1 + 1 + 1 + 1, 0, none⟩) (by show w.heap.size ≤ w.heap.size + 1 + 1 + 1 + 1; omega) (.int .i64 0)).setCell (p := ⟨w.heap.size + 1 + 1 + 1 + 1 + 1, 0, none⟩) (by show w.heap.size ≤ w.heap.size + 1 + 1 + 1 + 1 + 1; omega) (.int .i64 0)).trans (belowK_b (w := w2) (by omega) _ D _ (.deferred none) hD hK2 rfl rfl)
  have t08 : Touch [r] w w8 := (Touch.ofBelow (HBl.out.trans (HB2.out.mono hz0))).trans HT28.out
  refine ⟨.tuple #[.int .i64 0, .int .i64 0], results_cell_two (p := 10) (q := 11) rfl _ _ _ _ rfl rfl z10 z11, rfl, ?_, ⟨B9.os.trans t08.os, B9.tape.trans t08.tape, B9.output.trans t08.output, Nat.le_trans t08.size B9.size, fun k hk hn => (B9.block k hk).trans (t08.block k hk hn)⟩⟩
  rw [HBk.out]
  exact HR8.out.keep (B9.block r hrw)
def Rep.one (R : Rep) (m : Al) (b : Nat) : Rep :=
 if (m.bm.list.getD b default).k = 0 then { R with fr := R.fr + 1 }
 else if (m.bm.list.getD b default).k = 1 then R.block m b (m.bm.list.getD b default).c.toNat
 else if (m.bm.list.getD b default).k = 2 then { R.add (sizeP m (512 * b)) ((m.bm.list.getD b default).l * 512) with lg := R.lg + 1 }
 else R
end Go.Proofs.YtpopbfagliagnaaGreat
namespace Go.Proofs.YtpopbfagliagnaaGreat
open Go.RowKit Go.Maps
set_option maxHeartbeats 8000000 in
set_option maxRecDepth 100000 in
theorem rone_any {w : World} {A : AF} {n B : Nat} {m : Al} (h : AlAt w A n B m) (hok : AlOk B m) (hB : B ≤ 200) (hlg : LgOk m) {mp nn : Nat} {M : Lit → Option Value} (hV : VMap Tryz.prog 3 w mp nn M) (hI : InM M (freeUpto m 32)) {r : Nat} {R : Rep} (hR : RepAt w r R) (hRo : R.ok 100000000) (hrA : r ∉ A.list)
  {la : Option Addr} {lc : Nat} {L : List Hd} (hC : Cells w la (hdCs L)) (hLl : L.length = B) (hLa : ∀ q, 1 ≤ q → L.getD q default = m.bm.list.getD q default) {b : Nat} (hb1 : 1 ≤ b) (hbB : b < B) :
  Calls Tryz.prog 177 #[.pointer (some ⟨r, 0, none⟩), valloc A, .map (some mp), .slice la B lc, .int .i64 (b : Int)] w fun e w' => e = .returned (.tuple #[.int .i64 0, .int .i64 0]) ∧ RepAt w' r (R.one m b) ∧ Touch [r] w w' := by
 have HP : Hid (∀ w', RepAt w' r (R.one m b) → Touch [r] w w' → (fun e w' => e = Ending.returned (.tuple #[.int .i64 0, .int .i64 0]) ∧ RepAt w' r (R.one m b) ∧ Touch [r] w w') (.returned (.tuple #[.int .i64 0, .int .i64 0])) w') := LH (fun w' h1 h2 => ⟨rfl, h1, h2⟩)
 generalize (fun e w' => e = Ending.returned (.tuple #[.int .i64 0, .int .i64 0]) ∧ RepAt w' r (R.one m b) ∧ Touch [r] w w') = Post at *
 obtain ⟨k, c, l, _, he, hcls⟩ := hd_is hok.bm hb1 hbB
 have hbl : b < L.length := by rw [hLl]; exact hbB
 obtain ⟨b1, o1, rfl, d0, d1, d2⟩ := hd_cells hC hbl ((hLa b hb1).trans he)
 have hbI : (b : Int) < (B : Int) := by omega
 have HOne : Hid (R.one m b = if k = 0 then { R with fr := R.fr + 1 } else if k = 1 then R.block m b c.toNat else if k = 2 then { R.add (sizeP m (512 * b)) (l * 512) with lg := R.lg + 1 } else R) := LH (by unfold Rep.one; rw [he])
 have hb0 := below_alloc w (.cells #[.int .i64 k, .int .i64 c, .int .i64 l] 103)
 have HM := LH (Mem.one w #[.int .i64 k, .int .i64 c, .int .i64 l] 103)
 have HR0 := LH (hR.below hb0)
 have HA0 := LH (h.below hb0)
 have HV0 := LH (hV.block (hb0.block mp hV.lt))
 have HB0 := LH hb0
 clear hb0 h hV
 go_enter Tryz.func177, Tryz.ntmps177
 go_upto_region 2 with fail
 generalize w.alloc _ = w0 at *
 have e0 := HM.out.cell 0 0 rfl rfl
 have e1 := HM.out.cell 0 1 rfl rfl
 have e2 := HM.out.cell 0 2 rfl rfl
 by_cases hk0 : k = 0
 ·subst hk0
  have g0 : w0.cell? ⟨r, 0, none⟩ = some (vi R.fr) := HR0.out.cell rfl
  have f0 := HR0.out.row.frozen 0
  have hfr : R.fr ≤ 100000000 := hRo.1
  obtain ⟨h1, t1⟩ := HR0.out.set (R' := { R with fr := R.fr + 1 }) 0 (.int .i64 ((R.fr : Int) + 1)) rfl
  have HFin := LH (HP.out _ (by rw [HOne.out, if_pos rfl]; exact h1) ((Touch.ofBelow HB0.out).trans t1))
  clear h1 t1
  go_wp2_with fail
  exact HFin.out
 have hk0' : (k == 0) = false := by simpa using hk0
 by_cases hk1 : k = 1
 ·subst hk1
  obtain ⟨cn, rfl, hcn⟩ := hcls rfl
  have hl0 : l = 0 := by
   have hr := of_decide_eq_true (hok.bm.right b hbB)
   rw [he] at hr
   unfold HdRight at hr
   dsimp only at hr
   omega
  subst hl0
  have HBl := LH (rblock_any HA0.out hok hB HV0.out hI HR0.out hRo hrA hb1 hbB hcn he)
  go_wp2_with fail
  refine HBl.out.mono ?_
  rintro e w2 ⟨rfl, hr2, ht2⟩
  have HFin := LH (HP.out w2 (by rw [HOne.out, if_neg (by omega), if_pos trivial, Int.toNat_natCast]; exact hr2) ((Touch.ofBelow HB0.out).trans ht2))
  clear hr2 ht2
  go_wp2_with fail
  exact HFin.out
 have hk1' : (k == 1) = false := by simpa using hk1
 by_cases hk2 : k = 2
 ·subst hk2
  have hr := of_decide_eq_true (hok.bm.right b hbB)
  rw [he] at hr
  unfold HdRight at hr
  dsimp only at hr
  have hl1 : 1 ≤ l ∧ l < 256 := by omega
  have hus : m.used.getD (512 * b) false = true := hlg b (by rw [he])
  obtain ⟨po, hpo⟩ := Option.isSome_iff_exists.1 (hok.placed (512 * b) hus)
  have hsz : objSize po.p po.d ≤ 200000 := by
   have h1 : objSize po.p po.d ≤ roomN po.p po.d := by
    by_cases h0 : objSize po.p po.d = 0
    ·omega
    ·exact room_fits h0
   have h2 := (placed_room hpo).pos.2.2
   rw [hok.bm.lenL] at h2
   omega
  have HSz : Hid (sizeP m (512 * b) = objSize po.p po.d) := LH (by unfold sizeP; rw [hpo])
  have HPl : Hid (∀ w', Below w0.heap.size w0 w' → Calls Tryz.prog 166 #[valloc A, .int .i64 ((512 * b : Nat) : Int)] w' (fun e w2 => e = .returned (.tuple #[.agg #[.int .i64 po.p, .int .i64 po.d], .bool true]) ∧ Below w'.heap.size w' w2)) := LH (fun w' h' => (aplace_any (HA0.out.below h') (by omega) ((512 * b : Nat) : Int)).mono (by
   rintro e w2 ⟨⟨p, d, rfl, hpd⟩, hb4⟩
   have h1 := hpd _ hpo
   rw [hpo, h1]
   exact ⟨rfl, hb4⟩))
  have HGm := LH (bgeom_any HA0.out.man)
  have HFs := LH (fun w => gfirstN_any B (by omega) b hbB w)
  have HUs := LH (fun w' (h' : Below w0.heap.size w0 w') => aused_any (HA0.out.below h') ((512 * b : Nat) : Int))
  rw [hasI_nat, hus] at HUs
  have hxe : (b : Int) * 512 = ((512 * b : Nat) : Int) := by omega
  rw [hxe] at HFs
  have a0 := HA0.out.c0
  obtain ⟨p, hp⟩ : ∃ p, p = po.p := ⟨_, rfl⟩
  obtain ⟨d, hd⟩ : ∃ d, d = po.d := ⟨_, rfl⟩
  rw [← hp, ← hd] at HPl HSz hsz
  obtain ⟨xx, hxx⟩ : ∃ xx, xx = 512 * b := ⟨_, rfl⟩
  rw [← hxx] at HPl HUs HFs HSz HOne
  clear hxe hr hus hpo hp hd hxx hLa hlg
  go_wp2_with fail
  refine HGm.out.mono ?_
  rintro e w2 ⟨rfl, hb2⟩
  have HB2 := LH hb2
  clear hb2 a0
  go_wp2_with fail
  refine (HFs.out _).mono ?_
  rintro e w3 ⟨rfl, hb3⟩
  have HB3 := LH (HB2.out.trans (hb3.mono HB2.out.size))
  clear hb3 HB2
  go_wp2_with fail
  refine (HPl.out _ HB3.out).mono ?_
  rintro e w4 ⟨rfl, hb4⟩
  have HM5 := LH (Mem.one w4 #[.int .i64 p, .int .i64 d] 169)
  have HB5 : Hid (Below w0.heap.size w0 (w4.alloc (.cells #[.int .i64 p, .int .i64 d] 169))) := LH ((HB3.out.trans (hb4.mono HB3.out.size)).trans (HM5.out.below.mono (Nat.le_trans HB3.out.size hb4.size)))
  obtain ⟨qo, hqo⟩ : ∃ qo, qo = w4.heap.size := ⟨_, rfl⟩
  clear hb4 HB3 HPl HFs
  go_upto_region 10 with fail
  rw [← hqo] at HM5 ⊢
  generalize w4.alloc _ = w5 at *
  clear hqo
  have HA5 := LH (HUs.out _ HB5.out)
  go_wp2_with fail
  refine HA5.out.mono ?_
  rintro e w6 ⟨rfl, rfl⟩
  have HR5 := LH (HR0.out.below HB5.out)
  have g2 := (HM.out.later HB5.out).cell 0 2 rfl rfl
  have hl512 : l * 512 ≤ 200000 := by omega
  have hl0 : 0 ≤ l * 512 := by omega
  have HAd := LH (radd_any HR5.out (hRo.mono (by omega)) p d (l * 512) (by omega) hl0 (by omega))
  have o0 := HM5.out.cell 0 0 rfl rfl
  have o1 := HM5.out.cell 0 1 rfl rfl
  clear HUs HA5 HR5
  trace_state
  go_wp2_with fail
  refine HAd.out.mono ?_
  rintro e w7 ⟨rfl, hr7, ht7⟩
  have HT7 : Hid (Touch [r] w w7) := LH (((Touch.ofBelow HB0.out).trans (Touch.ofBelow HB5.out)).trans ht7)
  have HR7 := LH hr7
  clear hr7 ht7 o0 o1 g2
  have g7 : w7.cell? ⟨r, 2, none⟩ = some (vi R.lg) := HR7.out.cell rfl
  have f7 := HR7.out.row.frozen 2
  have hlgR : R.lg ≤ 100000000 := hRo.2.2.1
  obtain ⟨h1, t1⟩ := HR7.out.set (R' := { R.add (objSize p d) (l * 512) with lg := R.lg + 1 }) 2 (.int .i64 ((R.lg : Int) + 1)) rfl
  have HFin := LH (HP.out _ (by rw [HOne.out, if_neg (by omega), if_neg (by omega), if_pos trivial, HSz.out]; exact h1) (HT7.out.trans t1))
  clear h1 t1 HR7 HT7
  go_wp2_with fail
  exact HFin.out
 have hk2' : (k == 2) = false := by simpa using hk2
 have HFin := LH (HP.out w0 (by rw [HOne.out, if_neg hk0, if_neg hk1, if_neg hk2]; exact HR0.out) (Touch.ofBelow HB0.out))
 go_wp2_with fail
 exact HFin.out
end Go.Proofs.YtpopbfagliagnaaGreat
namespace Go.Proofs.YtpopbfagliagnaaGreat
open Go.RowKit
def sumI (f : Nat → Int) : List Nat → Int
 | [] => 0
 | x :: xs => f x + sumI f xs
theorem sumI_nil (f : Nat → Int) : sumI f [] = 0 := rfl
theorem sumI_cons (f : Nat → Int) (x : Nat) (xs : List Nat) : sumI f (x :: xs) = f x + sumI f xs := rfl
theorem sumI_append (f : Nat → Int) (ys : List Nat) : ∀ xs, sumI f (xs ++ ys) = sumI f xs + sumI f ys
 | [] => by rw [List.nil_append, sumI_nil]; omega
 | x :: xs => by rw [List.cons_append, sumI_cons, sumI_cons, sumI_append f ys xs]; omega
theorem sumI_perm (f : Nat → Int) {xs ys : List Nat} (h : xs.Perm ys) : sumI f xs = sumI f ys := by
 induction h with
 | nil => rfl
 | cons x _ ih => rw [sumI_cons, sumI_cons, ih]
 | swap x y l => rw [sumI_cons, sumI_cons, sumI_cons, sumI_cons]; omega
 | trans _ _ h1 h2 => exact h1.trans h2
theorem sumI_one : ∀ xs : List Nat, sumI (fun _ => 1) xs = xs.length
 | [] => rfl
 | x :: xs => by rw [sumI_cons, sumI_one xs, List.length_cons]; omega
theorem sumI_congr {f g : Nat → Int} : ∀ {xs : List Nat}, (∀ x ∈ xs, f x = g x) → sumI f xs = sumI g xs
 | [], _ => rfl
 | x :: xs, h => by rw [sumI_cons, sumI_cons, h x (by simp), sumI_congr (fun y hy => h y (by simp [hy]))]
def ofB (b : Nat) (xs : List Nat) : List Nat := xs.filter (fun x => decide (x / 512 = b))
def upB (b : Nat) (xs : List Nat) : List Nat := xs.filter (fun x => decide (x / 512 ≤ b))
theorem upB_step (f : Nat → Int) (b : Nat) : ∀ xs, sumI f (upB (b + 1) xs) = sumI f (upB b xs) + sumI f (ofB (b + 1) xs)
 | [] => rfl
 | x :: xs => by
  have ih := upB_step f b xs
  unfold upB ofB at ih ⊢
  by_cases h1 : x / 512 = b + 1
  ·rw [List.filter_cons_of_pos (by simp [h1]), List.filter_cons_of_neg (by simp; omega), List.filter_cons_of_pos (by simp [h1])]
   rw [sumI_cons, ih, sumI_cons]; omega
  ·by_cases h2 : x / 512 ≤ b
   ·rw [List.filter_cons_of_pos (by simp; omega), List.filter_cons_of_pos (by simpa using h2), List.filter_cons_of_neg (by simpa using h1)]
    rw [sumI_cons, ih, sumI_cons]; omega
   ·rw [List.filter_cons_of_neg (by simp; omega), List.filter_cons_of_neg (by simpa using h2), List.filter_cons_of_neg (by simpa using h1)]
    exact ih
theorem ones_nodup (U : List Bool) : (onesL U).Nodup := List.Nodup.sublist List.filter_sublist List.nodup_range
section
variable {B : Nat} {m : Al}
theorem mem_ofB {b x : Nat} : x ∈ ofB b (onesL m.used) ↔ m.used.getD x false = true ∧ x / 512 = b := by
 unfold ofB
 rw [List.mem_filter, mem_onesL, decide_eq_true_iff]
theorem ofB_nodup (b : Nat) : (ofB b (onesL m.used)).Nodup := List.Nodup.sublist List.filter_sublist (ones_nodup _)
theorem cellL_nodup {b c : Nat} (hc : c < 32) : (cellL b c).Nodup := by
 unfold cellL
 refine List.Pairwise.imp (fun h => Nat.ne_of_lt h) (List.Pairwise.map (R := (· < ·)) (S := (· < ·)) _ (fun i j hij => cellOf_lt hc hij) List.pairwise_lt_range)
theorem ofB_small (hok : AlOk B m) {b c : Nat} (hc : c < 32) (hb1 : 1 ≤ b) (hbB : b < B) (hL : m.bm.list.getD b default = ⟨1, c, 0⟩) : (ofB b (onesL m.used)).Perm ((cellL b c).filter (fun x => m.used.getD x false)) :=
 (List.perm_ext_iff_of_nodup (ofB_nodup b) (List.Nodup.sublist List.filter_sublist (cellL_nodup hc))).2 fun x => by
  rw [mem_ofB, List.mem_filter]
  have hcl : x ∈ cellL b c ↔ isCell m.bm.list c x ∧ x / 512 = b := by
   rw [isCell_of hc hb1 (by rw [hok.bm.lenL]; exact hbB) hL]
   unfold cellL
   rw [List.mem_map]
   exact ⟨fun ⟨i, h1, h2⟩ => ⟨i, List.mem_range.1 h1, h2.symm⟩, fun ⟨i, h1, h2⟩ => ⟨i, List.mem_range.2 h1, h2.symm⟩⟩
  rw [hcl]
  constructor
  ·rintro ⟨hu, hb⟩
   refine ⟨⟨?_, hb⟩, hu⟩
   obtain ⟨o, ho⟩ := Option.isSome_iff_exists.1 (hok.placed x hu)
   cases placed_room ho with
   | cell k hk hcell hn =>
    have h1 := hcell.2.2.1
    rw [hb, hL] at h1
    injection h1 with _ h1 _
    obtain rfl : c = k := by omega
    exact hcell
   | run n h0 h1 hm hw hn =>
    have := (wholeN_fits (L := m.bm.list) (b := x / 512) (by omega)).2.1
    rw [hb, hL] at this
    exact absurd this (by show ¬ ((1 : Int) = 2); decide)
  ·rintro ⟨⟨_, hb⟩, hu⟩
   exact ⟨hu, hb⟩
theorem ofB_large (hok : AlOk B m) (hlg : LgOk m) {b : Nat} (hk : (m.bm.list.getD b default).k = 2) : (ofB b (onesL m.used)).Perm [512 * b] :=
 (List.perm_ext_iff_of_nodup (ofB_nodup b) (by simp)).2 fun x => by
  rw [mem_ofB, List.mem_singleton]
  constructor
  ·rintro ⟨hu, hb⟩
   obtain ⟨o, ho⟩ := Option.isSome_iff_exists.1 (hok.placed x hu)
   cases placed_room ho with
   | cell k hk' hcell hn =>
    have h1 := isCell_kind hcell
    rw [hb, hk] at h1
    exact absurd h1 (by decide)
   | run n h0 h1 hm hw hn => omega
  ·rintro rfl
   exact ⟨hlg b hk, by omega⟩
theorem ofB_none (hok : AlOk B m) {b : Nat} (h1 : (m.bm.list.getD b default).k ≠ 1) (h2 : (m.bm.list.getD b default).k ≠ 2) : ofB b (onesL m.used) = [] := by
 refine List.eq_nil_iff_forall_not_mem.2 fun x hx => ?_
 obtain ⟨hu, rfl⟩ := mem_ofB.1 hx
 rcases used_small hok hu with h | h
 ·exact h1 h
 ·exact h2 h
theorem cells1_is (m : Al) (c : Nat) : ∀ (xs : List Nat) (R : Rep), (Rep.cells1 m c R xs).fr = R.fr ∧ (Rep.cells1 m c R xs).sm = R.sm ∧ (Rep.cells1 m c R xs).lg = R.lg ∧
  ((Rep.cells1 m c R xs).ob : Int) = R.ob + sumI (fun _ => 1) (xs.filter (fun x => m.used.getD x false)) ∧ ((Rep.cells1 m c R xs).us : Int) = R.us + sumI (fun x => (sizeP m x : Nat)) (xs.filter (fun x => m.used.getD x false)) ∧
  (Rep.cells1 m c R xs).ce = R.ce + (xs.filter (fun x => !m.used.getD x false)).length ∧ (Rep.cells1 m c R xs).wa = R.wa + sumI (fun x => (clsWords (c : Int) : Nat) - (sizeP m x : Nat)) (xs.filter (fun x => m.used.getD x false))
 | [], R => ⟨rfl, rfl, rfl, by rw [List.filter_nil, sumI_nil]; simp [Rep.cells1], by rw [List.filter_nil, sumI_nil]; simp [Rep.cells1], rfl, by rw [List.filter_nil, sumI_nil]; simp [Rep.cells1]⟩
 | x :: xs, R => by
  have ih := cells1_is m c xs (Rep.cell1 m c R x)
  have e : Rep.cells1 m c R (x :: xs) = Rep.cells1 m c (Rep.cell1 m c R x) xs := rfl
  rw [e]
  obtain ⟨h1, h2, h3, h4, h5, h6, h7⟩ := ih
  rw [h1, h2, h3, h4, h5, h6, h7]
  unfold Rep.cell1
  cases hu : m.used.getD x false with
  | true =>
   rw [List.filter_cons_of_pos (p := fun x => m.used.getD x false) hu, List.filter_cons_of_neg (p := fun x => !m.used.getD x false) (by rw [hu]; decide), sumI_cons, sumI_cons, sumI_cons, if_pos rfl]
   unfold Rep.add
   dsimp only
   exact ⟨rfl, rfl, rfl, by omega, by omega, rfl, by omega⟩
  | false =>
   rw [List.filter_cons_of_neg (p := fun x => m.used.getD x false) (by rw [hu]; decide), List.filter_cons_of_pos (p := fun x => !m.used.getD x false) (by rw [hu]; decide), List.length_cons, if_neg (by decide)]
   dsimp only
   exact ⟨rfl, rfl, rfl, rfl, rfl, by omega, rfl⟩
def repTo (m : Al) : Nat → Rep
 | 0 => ⟨0, 0, 0, 0, 0, 0, 0⟩
 | b + 1 => (repTo m b).one m (b + 1)
theorem one_ok (hok : AlOk B m) {R : Rep} {N b : Nat} (h : R.ok N) (hb1 : 1 ≤ b) (hbB : b < B) : (R.one m b).ok (N + 400000) := by
 obtain ⟨k, c, l, _, he, hcls⟩ := hd_is hok.bm hb1 hbB
 have hr := of_decide_eq_true (hok.bm.right b hbB)
 unfold Rep.one
 rw [he] at hr ⊢
 unfold HdRight at hr
 dsimp only at hr ⊢
 by_cases h0 : k = 0
 ·rw [if_pos h0]
  obtain ⟨h1, h2, h3, h4, h5, h6, h7, h8⟩ := h
  exact ⟨by dsimp only; omega, by dsimp only; omega, by dsimp only; omega, by dsimp only; omega, by dsimp only; omega, by dsimp only; omega, by dsimp only; omega, by dsimp only; omega⟩
 rw [if_neg h0]
 by_cases h1 : k = 1
 ·rw [if_pos h1]
  obtain ⟨cn, rfl, hcn⟩ := hcls h1
  subst h1
  rw [Int.toNat_natCast]
  have hlen : (cellL b cn).length ≤ 512 := by rw [cellL_len]; unfold clsCells; exact Nat.le_trans (Nat.div_le_self _ _) (by omega)
  have hl0 : l = 0 := by omega
  have hf := (cells1_fit hok hcn hb1 hbB (he.trans (by rw [hl0])) h (xs := cellL b cn) (fun x hx => hx)).mono (N' := N + 307200) (by omega)
  have hw : clsWaste cn ≤ 512 := Nat.sub_le _ _
  unfold Rep.block
  generalize Rep.cells1 m cn R (cellL b cn) = R2 at *
  obtain ⟨h1, h2, h3, h4, h5, h6, h7, h8⟩ := hf
  exact ⟨by dsimp only; omega, by dsimp only; omega, by dsimp only; omega, by dsimp only; omega, by dsimp only; omega, by dsimp only; omega, by dsimp only; omega, by dsimp only; omega⟩
 rw [if_neg h1]
 by_cases h2 : k = 2
 ·rw [if_pos h2]
  have hs : sizeP m (512 * b) ≤ 16448 := by
   unfold sizeP
   split
   ·exact objSize_le _ _
   ·omega
  have hl : 1 ≤ l ∧ l < 256 := by omega
  unfold Rep.add
  obtain ⟨h1, h2, h3, h4, h5, h6, h7, h8⟩ := h
  exact ⟨by dsimp only; omega, by dsimp only; omega, by dsimp only; omega, by dsimp only; omega, by dsimp only; omega, by dsimp only; omega, by dsimp only; omega, by dsimp only; omega⟩
 ·rw [if_neg h2]
  exact h.mono (by omega)
theorem repTo_ok (hok : AlOk B m) : ∀ b, b < B → (repTo m b).ok (400000 * b)
 | 0, _ => ⟨Nat.le_refl _, Nat.le_refl _, Nat.le_refl _, Nat.le_refl _, Nat.le_refl _, Nat.le_refl _, by simp [repTo], by simp [repTo]⟩
 | b + 1, h => (one_ok hok (repTo_ok hok b (by omega)) (by omega) h).mono (by omega)
def kindTo (L : List Hd) (k : Int) : Nat → Nat
 | 0 => 0
 | b + 1 => kindTo L k b + if (L.getD (b + 1) default).k = k then 1 else 0
theorem kindTo_succ (L : List Hd) (k : Int) (b : Nat) : kindTo L k (b + 1) = kindTo L k b + if (L.getD (b + 1) default).k = k then 1 else 0 := rfl
theorem kindTo_fr (L : List Hd) : ∀ b, kindTo L 0 b = frTo L (b + 1)
 | 0 => rfl
 | b + 1 => by
  unfold kindTo frTo
  rw [kindTo_fr L b]
  by_cases h : (L.getD (b + 1) default).k = 0
  ·rw [if_pos h, if_pos ⟨by omega, h⟩]
  ·rw [if_neg h, if_neg (fun hh => h hh.2)]
def wasteTo (L : List Hd) : Nat → Nat
 | 0 => 0
 | b + 1 => wasteTo L b + if (L.getD (b + 1) default).k = 1 then clsWaste (L.getD (b + 1) default).c.toNat else 0
theorem wasteTo_succ (L : List Hd) (b : Nat) : wasteTo L (b + 1) = wasteTo L b + if (L.getD (b + 1) default).k = 1 then clsWaste (L.getD (b + 1) default).c.toNat else 0 := rfl
def sumK (f : Nat → Nat) : Nat → Nat
 | 0 => 0
 | n + 1 => sumK f n + f n
theorem sumK_add (f g : Nat → Nat) : ∀ n, sumK (fun k => f k + g k) n = sumK f n + sumK g n
 | 0 => rfl
 | n + 1 => by unfold sumK; rw [sumK_add f g n]; omega
theorem sumK_zero : ∀ n, sumK (fun _ => 0) n = 0
 | 0 => rfl
 | n + 1 => by unfold sumK; rw [sumK_zero n]
theorem sumK_one (g : Nat → Nat) (c : Nat) : ∀ n, sumK (fun k => if k = c then g k else 0) n = if c < n then g c else 0
 | 0 => by rw [if_neg (by omega)]; rfl
 | n + 1 => by
  unfold sumK
  rw [sumK_one g c n]
  by_cases h : n = c
  ·rw [if_pos h, if_neg (by omega), if_pos (by omega), h]; omega
  ·rw [if_neg h]
   by_cases h2 : c < n
   ·rw [if_pos h2, if_pos (by omega)]; rfl
   ·rw [if_neg h2, if_neg (by omega)]
theorem sumK_congr {f g : Nat → Nat} : ∀ {n}, (∀ k, k < n → f k = g k) → sumK f n = sumK g n
 | 0, _ => rfl
 | n + 1, h => by unfold sumK; rw [sumK_congr (fun k hk => h k (by omega)), h n (by omega)]
theorem cellsTo_is (u : Nat → Bool) (b k : Nat) : ∀ n, cellsTo u b k n = ((List.range n).map (cellOf b k)).filter (fun x => !u x)
 | 0 => rfl
 | n + 1 => by
  unfold cellsTo
  rw [cellsTo_is u b k n, List.range_succ, List.map_append, List.filter_append]
  congr 1
  cases h : u (cellOf b k n) <;> simp [h]
def freeSum (g : Nat → Nat) (m : Al) (b : Nat) : Nat := sumK (fun k => (freeTo (fun a => m.used.getD a false) m.bm.list k b).length * g k) 32
theorem freeSum_step (g : Nat → Nat) (m : Al) {b : Nat} : (∀ c, c < 32 → m.bm.list.getD (b + 1) default = ⟨1, (c : Nat), 0⟩ → freeSum g m (b + 1) = freeSum g m b + ((cellL (b + 1) c).filter (fun x => !m.used.getD x false)).length * g c) ∧
  ((m.bm.list.getD (b + 1) default).k ≠ 1 → freeSum g m (b + 1) = freeSum g m b) := by
 have h0 : ∀ k, (freeTo (fun a => m.used.getD a false) m.bm.list k (b + 1)).length * g k = (freeTo (fun a => m.used.getD a false) m.bm.list k b).length * g k + (if isSm m.bm.list k (b + 1) = true then (cellsTo (fun a => m.used.getD a false) (b + 1) k (clsCells k)).length else 0) * g k := fun k => by
  rw [freeTo, List.length_append, Nat.add_mul]
  congr 2
  split <;> rfl
 constructor
 ·intro c hc hL
  unfold freeSum
  rw [sumK_congr (fun k _ => h0 k), sumK_add]
  congr 1
  rw [sumK_congr (g := fun k => if k = c then ((cellL (b + 1) k).filter (fun x => !m.used.getD x false)).length * g k else 0) (fun k hk => ?_), sumK_one, if_pos hc]
  unfold isSm
  rw [hL]
  by_cases e : k = c
  ·subst e
   rw [if_pos (by simp), if_pos rfl, cellsTo_is]
   rfl
  ·rw [if_neg (by simp; omega), if_neg e, Nat.zero_mul]
 ·intro hk
  unfold freeSum
  rw [sumK_congr (fun k _ => h0 k), sumK_add, sumK_congr (f := fun k => (if isSm m.bm.list k (b + 1) = true then (cellsTo (fun a => m.used.getD a false) (b + 1) k (clsCells k)).length else 0) * g k) (g := fun _ => 0) (fun k _ => ?_), sumK_zero]
  ·rfl
  ·have : isSm m.bm.list k (b + 1) = false := by
    unfold isSm
    rw [decide_eq_false hk, Bool.false_and]
   rw [this, if_neg (by decide), Nat.zero_mul]
def roomP (m : Al) (x : Nat) : Nat := match placedN m.bm.dev m.bm.list (x : Int) with
 | some o => roomN o.p o.d
 | none => 0
theorem roomP_small (hok : AlOk B m) {b c x : Nat} (hc : c < 32) (hb1 : 1 ≤ b) (hbB : b < B) (hL : m.bm.list.getD b default = ⟨1, c, 0⟩) (hx : x ∈ cellL b c) (hu : m.used.getD x false = true) : roomP m x = clsWords (c : Int) := by
 have hcell := cellL_is hok hc hb1 hbB hL hx
 obtain ⟨o, ho⟩ := Option.isSome_iff_exists.1 (hok.placed x hu)
 have e : roomP m x = roomN o.p o.d := by unfold roomP; rw [ho]
 rw [e]
 cases placed_room ho with
 | cell k hk hcell2 hn =>
  have h1 := hcell2.2.2.1
  rw [hcell.2.2.1] at h1
  have h2 : ((c : Nat) : Int) = (k : Int) := congrArg Hd.c h1
  obtain rfl : c = k := by omega
  exact hn
 | run n h0 h1 hm hw hn =>
  have := (wholeN_fits (L := m.bm.list) (b := x / 512) (by omega)).2.1
  rw [isCell_kind hcell] at this
  exact absurd this (by decide)
theorem roomP_large (hok : AlOk B m) (hlg : LgOk m) {b : Nat} (hk : (m.bm.list.getD b default).k = 2) : ((roomP m (512 * b) : Nat) : Int) = (m.bm.list.getD b default).l * 512 := by
 have hus : m.used.getD (512 * b) false = true := hlg b hk
 obtain ⟨x, hx⟩ : ∃ x, x = 512 * b := ⟨_, rfl⟩
 rw [← hx] at hus ⊢
 obtain ⟨o, ho⟩ := Option.isSome_iff_exists.1 (hok.placed x hus)
 have e : roomP m x = roomN o.p o.d := by unfold roomP; rw [ho]
 rw [e]
 subst hx
 cases placed_room ho with
 | cell k hk' hcell hn =>
  have h1 := isCell_kind hcell
  rw [show 512 * b / 512 = b by omega, hk] at h1
  exact absurd h1 (by decide)
 | run n h0 h1 hm hw hn =>
  have := (wholeN_fits (L := m.bm.list) (b := 512 * b / 512) (by omega)).2.2.1
  rw [show 512 * b / 512 = b by omega] at hw this
  rw [hw] at this
  omega
structure RepIs (m : Al) (b : Nat) (R : Rep) : Prop where
 fr : R.fr = kindTo m.bm.list 0 b
 sm : R.sm = kindTo m.bm.list 1 b
 lg : R.lg = kindTo m.bm.list 2 b
 ob : (R.ob : Int) = sumI (fun _ => 1) (upB b (onesL m.used))
 us : (R.us : Int) = sumI (fun x => (sizeP m x : Nat)) (upB b (onesL m.used))
 ce : R.ce = freeSum (fun _ => 1) m b
 wa : R.wa = (wasteTo m.bm.list b : Nat) + sumI (fun x => (roomP m x : Nat) - (sizeP m x : Nat)) (upB b (onesL m.used))
theorem up_zero (hok : AlOk B m) : upB 0 (onesL m.used) = [] := by
 refine List.eq_nil_iff_forall_not_mem.2 fun x hx => ?_
 unfold upB at hx
 rw [List.mem_filter, mem_onesL, decide_eq_true_iff] at hx
 have := (hok.used_kind hx.1).1
 omega
theorem freeTo_zero (g : Nat → Nat) (m : Al) : freeSum g m 0 = 0 := by
 unfold freeSum
 exact (sumK_congr (fun k _ => by rw [freeTo]; exact Nat.zero_mul _)).trans (sumK_zero _)
theorem repIs_step (hok : AlOk B m) (hlg : LgOk m) {b : Nat} {R : Rep} (h : RepIs m b R) (hbB : b + 1 < B) : RepIs m (b + 1) (R.one m (b + 1)) := by
 obtain ⟨k, c, l, _, he, hcls⟩ := hd_is hok.bm (show 1 ≤ b + 1 by omega) hbB
 have hr := of_decide_eq_true (hok.bm.right (b + 1) hbB)
 have hk : (m.bm.list.getD (b + 1) default).k = k := by rw [he]
 have hF1 := (freeSum_step (fun _ => 1) m (b := b)).1
 have hF2 := (freeSum_step (fun _ => 1) m (b := b)).2
 have hRl := roomP_large (b := b + 1) hok hlg
 have hO2 := ofB_large (b := b + 1) hok hlg
 have hO0 := ofB_none (b := b + 1) hok
 obtain ⟨a1, a2, a3, a4, a5, a6, a7⟩ := h
 unfold Rep.one
 rw [he] at hr hRl hO2 hO0 hF2 ⊢
 unfold HdRight at hr
 dsimp only at hr hRl hO2 hO0 hF2 ⊢
 by_cases h0 : k = 0
 ·rw [if_pos h0]
  have hO := hO0 (by omega) (by omega)
  refine ⟨?_, ?_, ?_, ?_, ?_, ?_, ?_⟩
  ·rw [kindTo_succ, hk, if_pos h0, ← a1]
  ·rw [kindTo_succ, hk, if_neg (by omega), ← a2]; rfl
  ·rw [kindTo_succ, hk, if_neg (by omega), ← a3]; rfl
  ·show (R.ob : Int) = _; rw [upB_step, hO, ← a4, sumI_nil]; omega
  ·show (R.us : Int) = _; rw [upB_step, hO, ← a5, sumI_nil]; omega
  ·rw [hF2 (by omega), ← a6]
  ·show R.wa = _; rw [upB_step, hO, wasteTo_succ, hk, if_neg (by omega), a7, sumI_nil]; omega
 rw [if_neg h0]
 by_cases h1 : k = 1
 ·rw [if_pos h1]
  obtain ⟨cn, rfl, hcn⟩ := hcls h1
  subst h1
  have hl0 : l = 0 := by omega
  subst hl0
  rw [Int.toNat_natCast]
  have hP := ofB_small hok hcn (by omega) hbB he
  obtain ⟨d1, d2, d3, d4, d5, d6, d7⟩ := cells1_is m cn (cellL (b + 1) cn) R
  unfold Rep.block
  refine ⟨?_, ?_, ?_, ?_, ?_, ?_, ?_⟩
  ·dsimp only; rw [d1]; rw [kindTo_succ, hk, if_neg (by omega), ← a1]; rfl
  ·dsimp only; rw [d2]; rw [kindTo_succ, hk, if_pos rfl, ← a2]
  ·dsimp only; rw [d3]; rw [kindTo_succ, hk, if_neg (by omega), ← a3]; rfl
  ·dsimp only; rw [d4, upB_step, sumI_perm _ hP, ← a4]
  ·dsimp only; rw [d5, upB_step, sumI_perm _ hP, ← a5]
  ·dsimp only; rw [d6, hF1 cn hcn he, ← a6, Nat.mul_one]
  ·dsimp only
   rw [d7, upB_step, sumI_perm _ hP, a7]
   rw [wasteTo_succ, hk, if_pos rfl, he]
   dsimp only
   rw [Int.toNat_natCast, sumI_congr (f := fun x => ((roomP m x : Nat) : Int) - (sizeP m x : Nat)) (g := fun x => ((clsWords (cn : Int) : Nat) : Int) - (sizeP m x : Nat)) (xs := (cellL (b + 1) cn).filter _) (fun x hx => by
    obtain ⟨x1, x2⟩ := List.mem_filter.1 hx
    show ((roomP m x : Nat) : Int) - _ = _
    rw [roomP_small hok hcn (by omega) hbB he x1 x2])]
   omega
 rw [if_neg h1]
 by_cases h2 : k = 2
 ·rw [if_pos h2]
  have hP := hO2 h2
  unfold Rep.add
  refine ⟨?_, ?_, ?_, ?_, ?_, ?_, ?_⟩
  ·dsimp only; rw [kindTo_succ, hk, if_neg h0, ← a1]; rfl
  ·dsimp only; rw [kindTo_succ, hk, if_neg h1, ← a2]; rfl
  ·dsimp only; rw [kindTo_succ, hk, if_pos h2, ← a3]
  ·dsimp only; rw [upB_step, sumI_perm _ hP, ← a4]; simp only [sumI_nil, sumI_cons]; omega
  ·dsimp only; rw [upB_step, sumI_perm _ hP, ← a5]; simp only [sumI_nil, sumI_cons]; omega
  ·dsimp only; rw [hF2 (by omega), ← a6]
  ·dsimp only
   rw [upB_step, sumI_perm _ hP, a7]
   rw [wasteTo_succ, hk, if_neg h1, ← hRl h2]
   simp only [sumI_nil, sumI_cons]
   omega
 ·rw [if_neg h2]
  have hO := hO0 h1 h2
  refine ⟨?_, ?_, ?_, ?_, ?_, ?_, ?_⟩
  ·rw [kindTo_succ, hk, if_neg h0, ← a1]; rfl
  ·rw [kindTo_succ, hk, if_neg h1, ← a2]; rfl
  ·rw [kindTo_succ, hk, if_neg h2, ← a3]; rfl
  ·show (R.ob : Int) = _; rw [upB_step, hO, ← a4, sumI_nil]; omega
  ·show (R.us : Int) = _; rw [upB_step, hO, ← a5, sumI_nil]; omega
  ·rw [hF2 h1, ← a6]
  ·show R.wa = _; rw [upB_step, hO, wasteTo_succ, hk, if_neg h1, a7, sumI_nil]; omega
theorem repTo_is (hok : AlOk B m) (hlg : LgOk m) : ∀ b, b < B → RepIs m b (repTo m b)
 | 0, _ => ⟨rfl, rfl, rfl, by rw [up_zero hok]; rfl, by rw [up_zero hok]; rfl, (freeTo_zero _ _).symm, by rw [up_zero hok]; rfl⟩
 | b + 1, h => repIs_step hok hlg (repTo_is hok hlg b (by omega)) h
theorem up_all (hok : AlOk B m) (hB : 1 ≤ B) : upB (B - 1) (onesL m.used) = onesL m.used :=
 List.filter_eq_self.2 fun x hx => by
  have := (hok.used_kind (mem_onesL.1 hx)).2.1
  simp; omega
theorem rep_objects (hok : AlOk B m) (hlg : LgOk m) (hB : 1 ≤ B) : (repTo m (B - 1)).ob = (onesL m.used).length := by
 have := (repTo_is hok hlg (B - 1) (by omega)).ob
 rw [up_all hok hB, sumI_one] at this
 omega
theorem rep_free (hok : AlOk B m) (hlg : LgOk m) (hB : 1 ≤ B) : (repTo m (B - 1)).fr = sumOf (runsOf m.bm.free) := by
 rw [(repTo_is hok hlg (B - 1) (by omega)).fr, kindTo_fr, show B - 1 + 1 = B by omega, frTo_sum hok.bm]
end
def HdGood (S : Dev) (b : Nat) : Prop := (decN b (devWord S b)).code = 0 ∧ peek S.lasting (256 + (b : Int)) = devWord S b
def GoodTo (S : Dev) (k : Nat) : Prop := ∀ b, 1 ≤ b → b < k → HdGood S b
theorem GoodTo.succ {S : Dev} {k : Nat} (h : GoodTo S k) (hk : HdGood S k) : GoodTo S (k + 1) := fun b h1 h2 => by
 by_cases e : b = k
 ·subst e; exact hk
 ·exact h b h1 (by omega)
def ChPost (S : Dev) (B : Nat) (w : World) : Ending → World → Prop := fun en w' => Below w.heap.size w w' ∧
  ((GoodTo S B ∧ soundN (hds (devWord S) B) B 1 = 0 ∧ ∃ g c, en = .returned (.tuple #[.slice (some ⟨g, 0, none⟩) B c, .int .i64 0, .int .i64 0]) ∧ w.heap.size ≤ g ∧ B ≤ c ∧ RowAt w' g 103 (hdCs (hds (devWord S) B))) ∨
   (∃ b : Nat, 1 ≤ b ∧ b < B ∧ GoodTo S b ∧ ¬ HdGood S b ∧ en = .returned (.tuple #[.slice none 0 0, .int .i64 b, .int .i64 21])) ∨
   (GoodTo S B ∧ ∃ z : Nat, soundN (hds (devWord S) B) B 1 = z ∧ z ≠ 0 ∧ en = .returned (.tuple #[.slice none 0 0, .int .i64 (z : Int), .int .i64 40])))
set_option maxHeartbeats 2000000 in
set_option maxRecDepth 100000 in
theorem cheaders_any {w : World} {F : Foot} {S : Dev} (h : DevAt w F S) (B : Nat) (hB1 : 1 ≤ B) (hB : B ≤ 1000) :
  Calls Tryz.prog 49 #[vdev F, vgeom B] w (ChPost S B w) := by
 have HD := LH h
 have HP : Hid (ChPost S B w = ChPost S B w) := LH rfl
 generalize hP : ChPost S B w = Post at HP ⊢
 have HPE := LH hP
 clear h hP HP
 go_enter Tryz.func49, Tryz.ntmps49
 have hbx : Below w.heap.size w (w.alloc (.cells #[.int .i64 (B : Int)] 44)) := below_alloc _ _
 have hcx : (w.alloc (.cells #[.int .i64 (B : Int)] 44)).cell? ⟨w.heap.size, 0, none⟩ = some (.int .i64 (B : Int)) := cell_alloc_new _ _ _ 0 _ rfl
 have hsx : (w.alloc (.cells #[.int .i64 (B : Int)] 44)).heap.size = w.heap.size + 1 := by simp
 have HSX := LH hsx
 clear hsx
 go_wp2_with (first
  | (at_make; refine wpList_make_rows elHd (w.heap.size + 1) B (z := .int .i64 0) (by intro i hi; simp at hi; rcases i with _ | _ | _ | i <;> first | rfl | omega) (by omega) (by omega) (by omega) (by decide) (by simp) rfl rfl rfl rfl ?_; intro w1 hown hgrow))
 try rw [HSX.out] at hown
 try rw [HSX.out]
 have hb1 : Below w.heap.size w w1 := hbx.trans (below_grown hgrow (by rw [HSX.out]; omega))
 have hc1 : w1.cell? ⟨w.heap.size, 0, none⟩ = some (.int .i64 (B : Int)) := by
  rw [(below_grown hgrow (Nat.le_refl _)).cell (p := ⟨w.heap.size, 0, none⟩) (by rw [HSX.out]; simp)]; exact hcx
 have hr1 : RowAt w1 (w.heap.size + 1) 103 (List.replicate (B * 3) (.int .i64 0)) := owned_row hown
 have HR1 := LH hr1
 have HB1 := LH hb1
 clear hbx hcx hown hgrow hr1 hb1 HSX
 obtain ⟨gx, hgx⟩ : ∃ gx, gx = w.heap.size := ⟨_, rfl⟩
 obtain ⟨g, hg⟩ : ∃ g, g = w.heap.size + 1 := ⟨_, rfl⟩
 have HG : Hid (gx = w.heap.size ∧ g = w.heap.size + 1) := LH ⟨hgx, hg⟩
 rw [← hg] at HR1 ⊢
 rw [← hgx] at hc1 ⊢
 have hgne : gx ≠ g := by omega
 clear hgx hg
 go_loopw [8] (fun i wr => ∃ k : Nat, 1 ≤ k ∧ k ≤ B ∧ i = .int .i64 k ∧ GoodTo S k ∧ RowAt wr g 103 (hdCs (hds (devWord S) k) ++ List.replicate (3 * (B - k)) (.int .i64 0)) ∧ wr.cell? ⟨gx, 0, none⟩ = some (.int .i64 (B : Int)) ∧ Below w.heap.size w wr) (fun i _ => B - (intOf i).toNat)
 case atStart => exact ⟨1, Nat.le_refl _, hB1, rfl, (fun b h1 h2 => by omega), by
   have e : hdCs (hds (devWord S) 1) ++ List.replicate (3 * (B - 1)) (Value.int .i64 0) = List.replicate (B * 3) (Value.int .i64 0) := by
    have : hdCs (hds (devWord S) 1) = List.replicate 3 (Value.int .i64 0) := rfl
    rw [this, List.replicate_append_replicate]
    congr 1
    omega
   rw [e]; exact HR1.out, hc1, HB1.out⟩
 case round =>
  clear hc1 HR1 HB1
  obtain ⟨k, hk1, hk2, rfl, hok, hr, hcx, hb⟩ := hrel
  have HOK := LH hok
  have HR := LH hr
  have HB := LH hb
  have HDr := LH (HD.out.below hb)
  clear hok hr hb
  by_cases hlt : k < B
  ·have hlt' : (k : Int) < (B : Int) := by omega
   go_wp2_with fail
   refine (gheader_any _ _ _ (by omega)).mono ?_
   rintro e w2 ⟨rfl, hb2⟩
   have HH : Hid (hdAt (B : Int) (k : Int) = 256 + (k : Int)) := LH (by unfold hdAt; rw [if_neg (by omega)])
   rw [HH.out]
   have HD2 := LH (HDr.out.below hb2)
   have HB2 := LH hb2
   clear hb2
   go_wp2_with fail
   refine (dget_any HD2.out _).mono ?_
   rintro e w3 ⟨rfl, rfl⟩
   have hx : devWord S k < 18446744073709551616 := peek_lt HD2.out.u64C _
   have HX : Hid (peek S.cache (256 + (k : Int)) = devWord S k) := LH rfl
   rw [HX.out]
   go_wp2_with fail
   refine (bdecode_any (k : Int) (devWord S k) (by omega) (by omega) hx _).mono ?_
   rintro e w4 ⟨rfl, hb4⟩
   have HF : Hid (⟨(decN k (devWord S k)).k, (decN k (devWord S k)).c, (decN k (devWord S k)).l⟩ = hdF (devWord S) k) := LH (by unfold hdF; rw [if_neg (by omega)])
   have HC : Hid ((decN k (devWord S k)).code = 0 ∨ (decN k (devWord S k)).code ≠ 0) := LH (by omega)
   have HOK2 : Hid ((decN k (devWord S k)).code = 0 → peek S.lasting (256 + (k : Int)) = devWord S k → GoodTo S (k + 1)) := LH (fun h h' => HOK.out.succ ⟨h, h'⟩)
   have HBad : Hid (((decN k (devWord S k)).code ≠ 0 ∨ peek S.lasting (256 + (k : Int)) ≠ devWord S k) → ∀ w', Below w.heap.size w w' → Post (.returned (.tuple #[.slice none 0 0, .int .i64 k, .int .i64 21])) w') := LH (fun h w' hw' => by
    rw [← HPE.out]; exact ⟨hw', .inr (.inl ⟨k, hk1, hlt, HOK.out, fun hg => h.elim (fun c => c hg.1) (fun c => c hg.2), rfl⟩)⟩)
   unfold Dec.val
   generalize decN k (devWord S k) = dd at *
   obtain ⟨dk, dc, dl, dcode⟩ := dd
   dsimp only at *
   have hb24 : Below wr.heap.size wr w4 := HB2.out.trans (hb4.mono HB2.out.size)
   have HB4 := LH hb24
   clear hb4 hb24 HB2 HD2
   rcases HC.out with hz | hz
   ·subst hz
    have hr4 : RowAt w4 g 103 _ := HR.out.keep (HB4.out.block g HR.out.lt)
    have hcx4 : w4.cell? ⟨gx, 0, none⟩ = some (.int .i64 (B : Int)) := below_cells HB4.out hcx (Nat.le_refl _)
    have hgl : g < w4.heap.size := hr4.lt
    have hgxl : gx < w4.heap.size := World.block_lt_of_cell? _ _ hcx4
    have HR4 := LH hr4
    have HCX4 := LH hcx4
    clear hr4 hcx hcx4
    have hb5 := below_alloc w4 (Obj.cells #[Value.int .i64 dk, Value.int .i64 dc, Value.int .i64 dl] 103)
    have HR5 : Hid (RowAt (w4.alloc (Obj.cells #[Value.int .i64 dk, Value.int .i64 dc, Value.int .i64 dl] 103)) g 103 (hdCs (hds (devWord S) k) ++ List.replicate (3 * (B - k)) (.int .i64 0))) := LH (HR4.out.keep (hb5.block g hgl))
    have HCX5 : Hid ((w4.alloc (Obj.cells #[Value.int .i64 dk, Value.int .i64 dc, Value.int .i64 dl] 103)).cell? ⟨gx, 0, none⟩ = some (.int .i64 (B : Int))) := LH (below_cells hb5 HCX4.out (Nat.le_refl _))
    have HB5 : Hid (Below w.heap.size w (w4.alloc (Obj.cells #[Value.int .i64 dk, Value.int .i64 dc, Value.int .i64 dl] 103))) := LH (HB.out.trans ((HB4.out.trans (hb5.mono HB4.out.size)).mono HB.out.size))
    have hlen : Hid (k * 3 + 3 ≤ (hdCs (hds (devWord S) k) ++ List.replicate (3 * (B - k)) (Value.int .i64 0)).length) := LH (by rw [List.length_append, hdCs_length, hds_length, List.length_replicate]; omega)
    have hone : Hid (∀ u ∈ (#[Value.int .i64 dk, Value.int .i64 dc, Value.int .i64 dl] : Array Value).toList, u.oneCell' = true) := LH (by intro u hu; simp at hu; rcases hu with rfl | rfl | rfl <;> rfl)
    have HD5 := LH ((HDr.out.below HB4.out).below hb5)
    have HM5 := LH (Mem.one w4 #[Value.int .i64 dk, Value.int .i64 dc, Value.int .i64 dl] 103)
    clear hb5 HR4 HCX4 HB4
    go_upto_region 6 with fail
    obtain ⟨hp, hhp⟩ : ∃ hp, hp = w4.heap.size := ⟨_, rfl⟩
    rw [← hhp] at HM5 ⊢
    generalize w4.alloc _ = w5 at *
    clear hhp
    have hcx5 := HCX5.out
    have r0 := fun x => later_cell hcx5 x
    have HLa := LH (fun w' (h : Below w5.heap.size w5 w') => dlasting_any (HD5.out.below h) (256 + (k : Int)))
    have HGt := LH (fun w' (h : Below w5.heap.size w5 w') => dget_any (HD5.out.below h) (256 + (k : Int)))
    have hly : peek S.lasting (256 + (k : Int)) < 18446744073709551616 := peek_lt HD5.out.u64L _
    rw [HX.out] at HGt
    generalize peek S.lasting (256 + (k : Int)) = ly at *
    refine wp_region_seg (C := fun w' => ∃ x : Later (w5), w' = x.val) [.sq [0, 1, 2] false, .fl [3, 4, 5, 8, 9, 10], .sq [6] true, .sq [7] true, .sq [11] true, .sq [12, 13, 14] false] (by kernel_rfl) (by kernel_rfl) (by intro c a d v w h; cases d <;> exact h) ?_
    simp only [segs, picks, List.getElem?_cons_succ, List.getElem?_cons_zero]
    have hC1 := later_drew (w5)
    refine wpSeg_sq (fun K hK => ?_)
    go_wp2_with fail
    go_wp2_with fail
    refine hK _ _ (fun h => nomatch h) ?_
    clear hK K
    refine wpSeg_fl hC1 ?_
    repeat (first | go_big_quiet_step (fail) | quiet_step (fail))
    refine wpQuiet_nil ?_
    refine wpSeg_sq (fun K hK => ?_)
    go_wp2_with fail
    refine (gheader_any _ _ _ (by omega)).mono ?_
    rintro e w6 ⟨rfl, hb6⟩
    rw [HH.out]
    have hC2 := later_step hC1 hb6
    clear hb6
    go_wp2_with fail
    refine hK _ _ (fun _ => hC2) ?_
    clear hK K
    refine wpSeg_sq (fun K hK => ?_)
    go_wp2_with fail
    refine (HLa.out _ (later_below hC2)).mono ?_
    rintro e w7 ⟨rfl, rfl⟩
    go_wp2_with fail
    refine hK _ _ (fun _ => hC2) ?_
    clear hK K
    refine wpSeg_sq (fun K hK => ?_)
    go_wp2_with fail
    refine (gheader_any _ _ _ (by omega)).mono ?_
    rintro e w8 ⟨rfl, hb8⟩
    rw [HH.out]
    have hC3 := later_step hC2 hb8
    clear hb8
    go_wp2_with fail
    refine hK _ _ (fun _ => hC3) ?_
    clear hK K
    refine wpSeg_last ?_
    go_wp2_with fail
    refine (HGt.out _ (later_below hC3)).mono ?_
    rintro e w9 ⟨rfl, rfl⟩
    have HB8 : Hid (Below w5.heap.size w5 w8) := LH (later_below hC3)
    have HR8 := LH (HR5.out.keep (HB8.out.block g HR5.out.lt))
    have HCX8 : Hid (w8.cell? ⟨gx, 0, none⟩ = some (.int .i64 (B : Int))) := LH (below_cells HB8.out HCX5.out (Nat.le_refl _))
    have HBw : Hid (Below w.heap.size w w8) := LH (HB5.out.trans (HB8.out.mono HB5.out.size))
    have HM8 := LH (HM5.out.later HB8.out)
    have d0 := HM8.out.cell 0 0 rfl rfl
    have d1 := HM8.out.cell 0 1 rfl rfl
    have d2 := HM8.out.cell 0 2 rfl rfl
    clear hC1 hC2 hC3 r0 hcx5 HM5 HR5 HCX5 HB5 HLa HGt HC
    by_cases hlq : ly = devWord S k
    ·have HOK3 := LH (HOK2.out trivial hlq)
     rw [hlq]
     generalize devWord S k = dw at *
     go_wp2_with (refine wpList_store_part (off := k * 3) (cs := #[.int .i64 dk, .int .i64 dc, .int .i64 dl]) aggHd HR8.out rfl hlen.out hone.out rfl rfl rfl rfl ?_; intro w10 hr10 ht10; have HR10 := LH hr10; have HT10 := LH ht10; clear hr10 ht10)
     refine ⟨⟨k + 1, by omega, by omega, vint (by omega), HOK3.out, ?_, ?_, ?_⟩, by simp [intOf]; omega⟩
     ·have := HR10.out
      rw [show #[Value.int .i64 dk, Value.int .i64 dc, Value.int .i64 dl].toList = (⟨dk, dc, dl⟩ : Hd).cs from rfl, row_step _ _ _ hlt _ HF.out] at this
      exact this
     ·exact cell_of_touch HT10.out (by simp; exact hgne) HCX8.out
     ·exact below_touch HBw.out HT10.out (by have := HG.out; simp; omega) (Nat.le_refl _)
    ·have HZ := LH (HBad.out (.inr hlq))
     have hlq2 : (ly != devWord S k) = true := by simpa using hlq
     have hlq3 : ((ly : Int) != (devWord S k : Int)) = true := by simp; omega
     generalize devWord S k = dw at *
     go_wp2_with fail
     go_ret3
     exact HZ.out _ HBw.out
   ·have hz1 : (dcode != 0) = true := by simpa using hz
    have HZ := LH (HBad.out (.inl hz))
    have HBE : Hid (Below w.heap.size w w4) := LH (HB.out.trans (HB4.out.mono HB.out.size))
    have HCXx : Hid ((w4.alloc (Obj.cells #[Value.int .i64 dk, Value.int .i64 dc, Value.int .i64 dl] 103)).cell? ⟨gx, 0, none⟩ = some (.int .i64 (B : Int))) := LH (below_cells (below_alloc w4 _) (below_cells HB4.out hcx (Nat.le_refl _)) (Nat.le_refl _))
    have HBy : Hid (Below w.heap.size w (w4.alloc (Obj.cells #[Value.int .i64 dk, Value.int .i64 dc, Value.int .i64 dl] 103))) := LH (HBE.out.alloc (HBE.out.size) _)
    clear hz HBad HC HOK2 hcx
    go_upto_region 6 with fail
    generalize w4.alloc _ = w5 at *
    have hcx5 := HCXx.out
    have r0 := fun x => later_cell hcx5 x
    refine wp_region_seg (C := fun w' => ∃ x : Later (w5), w' = x.val) [.sq [0, 1, 2] false, .fl [3, 4, 5, 8, 9, 10], .sq [6] true, .sq [7] true, .sq [11] true, .sq [12, 13, 14] false] (by kernel_rfl) (by kernel_rfl) (by intro c a d v w h; cases d <;> exact h) ?_
    simp only [segs, picks, List.getElem?_cons_succ, List.getElem?_cons_zero]
    have hC1 := later_drew (w5)
    refine wpSeg_sq (fun K hK => ?_)
    go_wp2_with fail
    go_wp2_with fail
    refine hK _ _ (fun h => nomatch h) ?_
    clear hK K
    refine wpSeg_fl hC1 ?_
    repeat (first | go_big_quiet_step (fail) | quiet_step (fail))
    refine wpQuiet_nil ?_
    refine wpSeg_sq (fun K hK => ?_)
    go_wp2_with fail
    go_wp2_with fail
    refine hK _ _ (fun _ => hC1) ?_
    clear hK K
    refine wpSeg_sq (fun K hK => ?_)
    go_wp2_with fail
    go_wp2_with fail
    refine hK _ _ (fun _ => hC1) ?_
    clear hK K
    refine wpSeg_sq (fun K hK => ?_)
    go_wp2_with fail
    go_wp2_with fail
    refine hK _ _ (fun _ => hC1) ?_
    clear hK K
    refine wpSeg_last ?_
    go_wp2_with fail
    go_ret3
    exact HZ.out _ (HBy.out.trans ((later_below hC1).mono HBy.out.size))
  ·obtain rfl : k = B := by omega
   have hlt' : decide ((k : Int) < (k : Int)) = false := by simp
   have hr' : RowAt wr g 103 (hdCs (hds (devWord S) k)) := by
    have := HR.out
    simpa using this
   have HRr := LH hr'
   have HSd := LH (bsound_any (some ⟨g, 0, none⟩) k k (hds (devWord S) k) (hds_length _ _) wr hr'.cells hB)
   unfold SoundPost at HSd
   rw [hds_length] at HSd
   clear hr'
   have HGg : Hid (w.heap.size ≤ g) := LH (by have := HG.out; omega)
   go_wp2_with fail
   refine HSd.out.mono ?_
   rintro e w5 ⟨rfl, hb5⟩
   have HB5 := LH (HB.out.trans (hb5.mono HB.out.size))
   have HR5 := LH (HRr.out.keep (hb5.block g HRr.out.lt))
   obtain ⟨z, hz⟩ : ∃ z, z = soundN (hds (devWord S) k) k 1 := ⟨_, rfl⟩
   rw [← hz]
   have HZ := LH hz.symm
   clear hb5 hz HSd HRr HR
   by_cases hz0 : z = 0
   ·subst hz0
    have HFin : Hid (Post (.returned (.tuple #[.slice (some ⟨g, 0, none⟩) k k, .int .i64 0, .int .i64 0])) w5) := LH (by
     rw [← HPE.out]
     exact ⟨HB5.out, .inl ⟨HOK.out, HZ.out, g, k, rfl, HGg.out, Nat.le_refl _, HR5.out⟩⟩)
    rw [show decide ((0 : Nat) = 0) = true from rfl]
    go_wp2_with fail
    go_ret3
    exact HFin.out
   ·have HFin : Hid (Post (.returned (.tuple #[.slice none 0 0, .int .i64 (z : Int), .int .i64 40])) w5) := LH (by
     rw [← HPE.out]
     exact ⟨HB5.out, .inr (.inr ⟨HOK.out, z, HZ.out, hz0, rfl⟩)⟩)
    rw [decide_eq_false hz0]
    go_wp2_with fail
    go_ret3
    exact HFin.out
end Go.Proofs.YtpopbfagliagnaaGreat
namespace Go.Proofs.YtpopbfagliagnaaGreat
open Go.RowKit Go.Maps
end Go.Proofs.YtpopbfagliagnaaGreat
namespace Go.Proofs.YtpopbfagliagnaaGreat
variable {B : Nat} {m : Al} {bm : Bm}
theorem devWord_is (h : BmOk B bm) {b : Nat} (h1 : 1 ≤ b) (h2 : b < B) : devWord bm.dev b = encN (b : Int) (bm.list.getD b default).k (bm.list.getD b default).c (bm.list.getD b default).l := by
 unfold devWord
 rw [show (256 + (b : Int)) = ((256 + b : Nat) : Int) by omega, peek_in]
 exact h.word b h1 h2
theorem hds_at (f : Nat → Nat) {k q : Nat} (h : q < k) : (hds f k).getD q default = hdF f q := by
 unfold hds
 rw [List.getD_eq_getElem?_getD, List.getElem?_map, List.getElem?_range h]
 rfl
theorem bm_open (h : BmOk B bm) : AllOk (devWord bm.dev) B ∧ ∀ q, 1 ≤ q → (hds (devWord bm.dev) B).getD q default = bm.list.getD q default := by
 refine ⟨fun b h1 h2 => by rw [devWord_is h h1 h2, dec_enc _ _ _ _ (h.right b h2)], fun q h1 => ?_⟩
 by_cases h2 : q < B
 ·rw [hds_at _ h2]
  unfold hdF
  rw [if_neg (by omega), devWord_is h h1 h2, dec_enc _ _ _ _ (h.right q h2)]
 ·rw [List.getD_eq_getElem?_getD, List.getElem?_eq_none (by rw [hds_length]; omega), List.getD_eq_getElem?_getD, List.getElem?_eq_none (by rw [h.lenL]; omega)]
theorem bmOk_open (h : BmOk B bm) : BmOk B (bmOf bm.dev B) := by
 have hq := (bm_open h).2
 unfold bmOf
 refine ⟨hds_length _ _, freeL_len _ _ _, h.clean, fun b hb => ?_, fun b h1 h2 => ?_, fun b => ?_, fun b h1 h2 hk => ?_⟩
 ·dsimp only
  by_cases e : b = 0
  ·subst e
   rw [hds_at _ hb]
   rfl
  ·rw [hq b (by omega)]; exact h.right b hb
 ·dsimp only
  rw [hq b h1]; exact h.word b h1 h2
 ·dsimp only
  rw [freeL_fb]
  unfold freeAt
  constructor
  ·rintro ⟨_, h2, h3, h4⟩
   exact ⟨h2, h3, by simpa using h4⟩
  ·rintro ⟨h2, h3, h4⟩
   exact ⟨h3, h2, h3, by simpa using h4⟩
 ·dsimp only at hk ⊢
  rw [hq b h1] at hk ⊢
  obtain ⟨g1, g2⟩ := h.large b h1 h2 hk
  exact ⟨g1, fun i i1 i2 => by rw [hq _ (by omega)]; exact g2 i i1 i2⟩
theorem snd_open (h : BmOk B bm) (hs : Snd bm.list) : Snd (bmOf bm.dev B).list := by
 have hq := (bm_open h).2
 intro q q1 hk
 rw [show (bmOf bm.dev B).list = hds (devWord bm.dev) B from rfl] at hk ⊢
 rw [hq q q1] at hk
 obtain ⟨a, a1, a2, a3, a4⟩ := hs q q1 hk
 exact ⟨a, a1, a2, by rw [hq a a1]; exact a3, by rw [hq a a1]; exact a4⟩
theorem sound_to (h : BmOk B bm) (hs : Snd bm.list) : ∀ f b, 1 ≤ b → (∀ a, 1 ≤ a → a < b → (bm.list.getD a default).k = 2 → (a : Int) + (bm.list.getD a default).l ≤ (b : Int)) → soundN bm.list f b = 0
 | 0, _, _, _ => rfl
 | f + 1, b, hb, hr => by
  unfold soundN
  by_cases c : bm.list.length ≤ b
  ·rw [if_pos c]
  ·rw [if_neg c]
   have hbB : b < B := by rw [h.lenL] at c; omega
   have hri := of_decide_eq_true (h.right b hbB)
   unfold HdRight at hri
   by_cases h2 : (bm.list.getD b default).k = 2
   ·rw [if_pos h2]
    obtain ⟨g1, g2⟩ := h.large b hb hbB h2
    obtain ⟨l, hl⟩ := Int.eq_ofNat_of_zero_le (show 0 ≤ (bm.list.getD b default).l by omega)
    have hw : wholeN bm.list b = l := by
     refine wholeN_of (by omega) ?_ (by rw [h.lenL]; omega) (fun i i1 i2 => g2 i i1 (by omega))
     have h3 : (bm.list.getD b default).c = 0 := by omega
     generalize bm.list.getD b default = x at *
     obtain ⟨k, c, l'⟩ := x
     dsimp only at h2 h3 hl
     rw [h2, h3, hl]
    rw [hw, if_neg (by omega)]
    refine sound_to h hs f (b + l) (by omega) (fun a a1 a2 hk => ?_)
    by_cases c1 : a < b
    ·have := hr a a1 c1 hk; omega
    ·by_cases c2 : a = b
     ·subst c2; omega
     ·have := g2 (a - b) (by omega) (by omega)
      rw [show b + (a - b) = a by omega] at this
      rw [this] at hk
      exact absurd hk (by simp)
   ·rw [if_neg h2]
    by_cases h3 : (bm.list.getD b default).k = 3
    ·obtain ⟨a, a1, a2, a3, a4⟩ := hs b hb h3
     have := hr a a1 a2 a3
     omega
    ·rw [if_neg h3]
     refine sound_to h hs f (b + 1) (by omega) (fun a a1 a2 hk => ?_)
     by_cases c2 : a = b
     ·subst c2; exact absurd hk h2
     ·have := hr a a1 (by omega) hk; omega
theorem sound_open (h : BmOk B bm) (hs : Snd bm.list) : soundN (hds (devWord bm.dev) B) B 1 = 0 :=
 sound_to (bmOk_open h) (snd_open h hs) B 1 (Nat.le_refl _) (fun a a1 a2 _ => by omega)
end Go.Proofs.YtpopbfagliagnaaGreat
namespace Go.Proofs.YtpopbfagliagnaaGreat
open Go.RowKit
theorem good_all {B : Nat} {bm : Bm} (h : BmOk B bm) : GoodTo bm.dev B := fun b b1 b2 => by
 refine ⟨(bm_open h).1 b b1 b2, ?_⟩
 have hc := h.clean.clean b b1 b2
 have hs := h.clean.inv.sound (256 + b) hc
 unfold devWord peek
 rw [if_pos (by omega), if_pos (by omega), show (256 + (b : Int)).toNat = 256 + b by omega]
 exact hs
theorem cheaders_heap {w : World} {F : Foot} {B : Nat} {bm : Bm} (hb : BmOk B bm) (hs : Snd bm.list) (h : DevAt w F bm.dev) (hB1 : 1 ≤ B) (hB : B ≤ 1000) :
  Calls Tryz.prog 49 #[vdev F, vgeom B] w fun en w' => Below w.heap.size w w' ∧ ∃ g c, en = .returned (.tuple #[.slice (some ⟨g, 0, none⟩) B c, .int .i64 0, .int .i64 0]) ∧ w.heap.size ≤ g ∧ B ≤ c ∧ RowAt w' g 103 (hdCs (hds (devWord bm.dev) B)) :=
 (cheaders_any h B hB1 hB).mono (by
  rintro e w' ⟨h1, ⟨_, _, h2⟩ | ⟨b, b1, b2, _, hn, _⟩ | ⟨_, z, hz, hne, _⟩⟩
  ·exact ⟨h1, h2⟩
  ·exact absurd (good_all hb b b1 b2) hn
  ·exact absurd ((sound_open hb hs).symm.trans hz).symm hne)
theorem hds_all {B : Nat} {bm : Bm} (hb : BmOk B bm) (q : Nat) (hq : 1 ≤ q) : (hds (devWord bm.dev) B).getD q default = bm.list.getD q default := (bm_open hb).2 q hq
end Go.Proofs.YtpopbfagliagnaaGreat
namespace Go.Proofs
open Go.Shelf
def Tryz.sortSp_ren : Go.Shelf.Ren := ⟨fun | 6 => 309 | 15 => 283 | 14 => 341 | 28 => 328 | 29 => 329 | 20 => 351 | 21 => 352 | 22 => 353 | 23 => 354 | 24 => 355 | 25 => 356 | 26 => 357 | 27 => 358 | 46 => 361 | 47 => 345 | 48 => 346 | 49 => 362 | 50 => 363 | 57 => 364 | n => n, fun | 22 => 283 | 24 => 286 | 25 => 401 | 3 => 3 | 39 => 167 | 0 => 0 | 53 => 231 | 55 => 40 | 4 => 4 | 46 => 408 | 45 => 407 | 50 => 238 | 5 => 5 | 9 => 9 | 66 => 421 | 70 => 424 | 76 => 433 | 77 => 258 | n => n, fun | n => n⟩
theorem Tryz.sortSp : Go.Proofs.SlLaysF0.n6 Tryz.prog Tryz.sortSp_ren := {
 mixed := by kernel_rfl
 f6 := ⟨Tryz.f309.name, by decide, Tryz.func309.trans (congrArg some (by kernel_rfl))⟩
 f14 := ⟨Tryz.f341.name, by decide, Tryz.func341.trans (congrArg some (by kernel_rfl))⟩
 f15 := Tryz.func283.trans (congrArg some (by kernel_rfl))
 f20 := ⟨Tryz.f351.name, by decide, Tryz.func351.trans (congrArg some (by kernel_rfl))⟩
 f21 := ⟨Tryz.f352.name, by decide, Tryz.func352.trans (congrArg some (by kernel_rfl))⟩
 f22 := ⟨Tryz.f353.name, by decide, Tryz.func353.trans (congrArg some (by kernel_rfl))⟩
 f23 := ⟨Tryz.f354.name, by decide, Tryz.func354.trans (congrArg some (by kernel_rfl))⟩
 f24 := ⟨Tryz.f355.name, by decide, Tryz.func355.trans (congrArg some (by kernel_rfl))⟩
 f25 := ⟨Tryz.f356.name, by decide, Tryz.func356.trans (congrArg some (by kernel_rfl))⟩
 f26 := ⟨Tryz.f357.name, by decide, Tryz.func357.trans (congrArg some (by kernel_rfl))⟩
 f27 := ⟨Tryz.f358.name, by decide, Tryz.func358.trans (congrArg some (by kernel_rfl))⟩
 f28 := Tryz.func328.trans (congrArg some (by kernel_rfl))
 f29 := Tryz.func329.trans (congrArg some (by kernel_rfl))
 f46 := ⟨Tryz.f361.name, by decide, Tryz.func361.trans (congrArg some (by kernel_rfl))⟩
 f47 := Tryz.func345.trans (congrArg some (by kernel_rfl))
 f48 := Tryz.func346.trans (congrArg some (by kernel_rfl))
 f49 := ⟨Tryz.f362.name, by decide, Tryz.func362.trans (congrArg some (by kernel_rfl))⟩
 f50 := ⟨Tryz.f363.name, by decide, Tryz.func363.trans (congrArg some (by kernel_rfl))⟩
 f57 := ⟨Tryz.f364.name, by decide, Tryz.func364.trans (congrArg some (by kernel_rfl))⟩
 t0 := Tryz.underlying0
 a0 := Tryz.isAgg0
 z0 := Tryz.sizeOf0
 v0 := Tryz.zeroValue0
 t3 := Tryz.underlying3
 a3 := Tryz.isAgg3
 z3 := Tryz.sizeOf3
 v3 := Tryz.zeroValue3
 t4 := Tryz.underlying4
 a4 := Tryz.isAgg4
 z4 := Tryz.sizeOf4
 v4 := Tryz.zeroValue4
 t5 := Tryz.underlying5
 a5 := Tryz.isAgg5
 z5 := Tryz.sizeOf5
 v5 := Tryz.zeroValue5
 t9 := Tryz.underlying9
 a9 := Tryz.isAgg9
 z9 := Tryz.sizeOf9
 v9 := Tryz.zeroValue9
 t22 := Tryz.underlying283
 a22 := Tryz.isAgg283
 z22 := Tryz.sizeOf283
 v22 := Tryz.zeroValue283
 t25 := Tryz.underlying401
 a25 := Tryz.isAgg401
 z25 := Tryz.sizeOf401
 v25 := Tryz.zeroValue401
 t39 := Tryz.underlying167
 a39 := Tryz.isAgg167
 z39 := Tryz.sizeOf167
 v39 := Tryz.zeroValue167
 t45 := Tryz.underlying407
 a45 := Tryz.isAgg407
 z45 := Tryz.sizeOf407
 v45 := Tryz.zeroValue407
 t46 := Tryz.underlying408
 a46 := Tryz.isAgg408
 z46 := Tryz.sizeOf408
 v46 := Tryz.zeroValue408
 t50 := Tryz.underlying238
 a50 := Tryz.isAgg238
 z50 := Tryz.sizeOf238
 v50 := Tryz.zeroValue238
 t53 := Tryz.underlying231
 a53 := Tryz.isAgg231
 z53 := Tryz.sizeOf231
 v53 := Tryz.zeroValue231
 t55 := Tryz.underlying40
 a55 := Tryz.isAgg40
 z55 := Tryz.sizeOf40
 v55 := Tryz.zeroValue40
 t66 := Tryz.underlying421
 a66 := Tryz.isAgg421
 z66 := Tryz.sizeOf421
 v66 := Tryz.zeroValue421
 t70 := Tryz.underlying424
 a70 := Tryz.isAgg424
 z70 := Tryz.sizeOf424
 v70 := Tryz.zeroValue424
 t76 := Tryz.underlying433
 a76 := Tryz.isAgg433
 z76 := Tryz.sizeOf433
 v76 := Tryz.zeroValue433
 t77 := Tryz.underlying258
 a77 := Tryz.isAgg258
 z77 := Tryz.sizeOf258
 v77 := Tryz.zeroValue258 }
end Go.Proofs
namespace Go.Proofs.YtpopbfagliagnaaGreat
open Go.RowKit Go.Maps Go.Sort Go.Shelf
abbrev Spb := {x : Sp // x.1 ≤ 1000000000000}
instance : Inhabited Spb := ⟨⟨(0, 0), by decide⟩⟩
def encSp (x : Spb) : List Value := [.int .i64 (x.1.1 : Int), .int .i64 (x.1.2 : Int)]
def cfSp (x y : Spb) : Int := (x.1.1 : Int) - (y.1.1 : Int)
theorem ltSp (x y : Spb) : ltOf cfSp x y = decide (x.1.1 < y.1.1) := by
 unfold ltOf cfSp
 by_cases h : x.1.1 < y.1.1
 ·rw [decide_eq_true h]; simp; omega
 ·rw [decide_eq_false h]; simp; omega
theorem swoSp : SWO (ltOf cfSp) where
 irrefl x := by rw [ltSp]; simp
 trans x y z h1 h2 := by rw [ltSp] at *; simp at *; omega
 ntrans x y z h1 h2 := by rw [ltSp] at *; simp at *; omega
theorem spCs_at : ∀ (l : List Sp) (i : Nat) (s n : Nat), l[i]? = some (s, n) → (spCs l)[i * 2]? = some (.int .i64 (s : Int)) ∧ (spCs l)[i * 2 + 1]? = some (.int .i64 (n : Int))
 | [], i, s, n, h => by simp at h
 | x :: l, 0, s, n, h => by
  simp at h
  subst h
  exact ⟨rfl, rfl⟩
 | x :: l, i + 1, s, n, h => by
  have ih := spCs_at l i s n (by simpa using h)
  have e : spCs (x :: l) = .int .i64 x.1 :: .int .i64 x.2 :: spCs l := rfl
  rw [e, show (i + 1) * 2 = i * 2 + 1 + 1 by omega]
  simpa using ih
theorem flat_get (xs : List Spb) (t : Nat) (h : t < xs.length * 2) : (spCs (xs.map (·.1)))[t]? = some (flatK encSp 2 xs.toArray)[t]! := by
 have hs : t < xs.toArray.size * 2 := by simpa using h
 rw [get_flatK encSp 2 xs.toArray t hs]
 have hd : t / 2 < xs.length := by omega
 have hx : xs.toArray[t / 2]! = xs[t / 2] := by simp [hd]
 have hl : (xs.map (·.1))[t / 2]? = some (xs[t / 2].1.1, xs[t / 2].1.2) := by simp [hd]
 obtain ⟨h1, h2⟩ := spCs_at _ _ _ _ hl
 rw [hx]
 generalize xs[t / 2] = y at *
 clear hl hx hd
 rcases Nat.mod_two_eq_zero_or_one t with h0 | h0
 ·rw [show t = t / 2 * 2 by omega, h1, show t / 2 * 2 % 2 = 0 by omega]
  rfl
 ·rw [show t = t / 2 * 2 + 1 by omega, h2, show (t / 2 * 2 + 1) % 2 = 1 by omega]
  rfl
theorem holds_sp {w : World} {g e : Nat} {xs : List Spb} (h : RowAt w g e (spCs (xs.map (·.1)))) : HoldsK encSp 2 w g 0 xs.toArray := by
 intro j hj
 have hj' : j < xs.length * 2 := by simpa using hj
 have := flat_get xs j hj'
 rw [Nat.zero_add]
 exact ⟨h.cell this, h.frozen _⟩
theorem cells_sp {w : World} {g : Nat} {xs : List Spb} (h : HoldsK encSp 2 w g 0 xs.toArray) : Cells w (some ⟨g, 0, none⟩) (spCs (xs.map (·.1))) := by
 refine .inr ⟨g, 0, rfl, fun i v hi => ?_⟩
 have hlt : i < xs.length * 2 := by
  have := (List.getElem?_eq_some_iff.1 hi).1
  rw [spCs_length] at this; simp at this; omega
 have h1 := h i (by simpa using hlt)
 have h2 := flat_get xs i hlt
 rw [hi] at h2
 rw [h1.1]
 simp only [id]
 exact h2.symm
theorem grownBy_sortK {w : World} {g n : Nat} {os : Array Obj} (d : Array Spb) : w.grownBy (sortWorldK encSp 2 w g 0 n d os) (some g) := by
 refine ⟨rfl, rfl, rfl, by simp [sortWorldK, putRowK], fun k hk hne => ?_⟩
 unfold sortWorldK putRowK
 rw [heap_grow_old _ _ (by simpa using hk)]
 have : g ≠ k := fun e => hne (by rw [e])
 simp [putRow, mapBlock, Sort.ahead, Array.getElem?_modify, this]
set_option maxHeartbeats 1000000 in
theorem cmp_any (x y : Spb) (W : World) : Calls Tryz.prog 310 #[.agg (encSp x).toArray, .agg (encSp y).toArray] W fun e w' => e = .returned (.int .i64 (cfSp x y)) ∧ ∃ q os', w' = grow (W.drewN q) os' := by
 obtain ⟨⟨a, b⟩, hx⟩ := x
 obtain ⟨⟨c, d⟩, hy⟩ := y
 unfold encSp cfSp
 dsimp only at hx hy ⊢
 go_enter Tryz.func310, Tryz.ntmps310
 go_wp2_with fail
 go_ret
 exact ⟨rfl, 0, _, by rw [alloc_eq_grow, alloc_eq_grow, grow_grow]; rfl⟩
theorem aggSp (w : World) : (isAgg 286).run Tryz.prog w = .ok true w := Tryz.isAgg286 w
theorem sizeSp (w : World) : (Go.sizeOf 286).run Tryz.prog w = .ok 2 w := Tryz.sizeOf286 w
theorem sort_any (g cap : Nat) (xs : List Spb) (n : Nat) (hn : xs.length = n) (w : World) {e : Nat} (hr : RowAt w g e (spCs (xs.map (·.1)))) (hsz : n ≤ 1000000000000) :
  Calls Tryz.prog 309 #[.slice (some ⟨g, 0, none⟩) n cap, .func (.func 310) #[] #[]] w fun e w' =>
   e = .returned (.tuple #[]) ∧ ∃ ys : List Spb, ys.Perm xs ∧ ys.Pairwise (fun a b => a.1.1 ≤ b.1.1) ∧ Cells w' (some ⟨g, 0, none⟩) (spCs (ys.map (·.1))) ∧ w.grownBy w' (some g) := by
 subst hn
 have eg : ∀ args w, (callFunc 310 args).run Tryz.prog w = .ok (.enter 310 args) w := enters_of Tryz.func310 (by kernel_rfl) rfl
 have hlt : g < w.heap.size := hr.lt
 have hH := holds_sp hr
 have hcon := AnyQ.slices_SortFunc Tryz.sortSp 2 aggSp sizeSp encSp (fun _ => rfl) (fun x v hv => by simp [encSp] at hv; rcases hv with rfl | rfl <;> rfl) cfSp swoSp 310 #[] g 0 cap xs.toArray w eg (fun m os dk hs x y => cmp_any x y _) hH hlt (by simp; omega)
 change Calls Tryz.prog 309 _ _ _ at hcon
 rw [List.size_toArray] at hcon
 refine hcon.mono ?_
 rintro e w' ⟨rfl, d', n, os, hp, hs, rfl⟩
 have hsz' : d'.size = xs.length := by simpa using hp.1
 have hex1 : (d'.extract 0 xs.length).toList = d'.toList := by rw [← hsz']; simp
 refine ⟨rfl, d'.toList, ?_, ?_, ?_, grownBy_sortK d'⟩
 ·have := hp.2.2
  rw [hex1] at this
  simpa using this
 ·rw [List.pairwise_iff_getElem]
  intro i j hi hj hij
  have h := hs i j (Nat.zero_le _) hij (by simpa [hsz'] using hj)
  rw [ltSp] at h
  have hi' : i < d'.size := by simpa using hi
  have hj' : j < d'.size := by simpa using hj
  simp [hi', hj'] at h
  simpa using h
 ·have h1 : HoldsK encSp 2 (sortWorldK encSp 2 w g 0 n d' os) g 0 d' := holdsK_sortWorldK_c encSp 2 w g 0 xs.toArray d' n os hH hlt (by simpa using hsz')
  exact cells_sp (xs := d'.toList) (by simpa using h1)
theorem sorted_runs {l : List Bool} {ys : List Spb} {done : List Sp} (hp : (ys.map (·.1)).Perm done) (hd : done.Perm (runsOf l)) (hs : ys.Pairwise (fun a b => a.1.1 ≤ b.1.1)) : ys.map (·.1) = runsOf l := by
 have hq := hp.trans hd
 have hris := (runsOf_is l).rising
 have hnd : ((runsOf l).map (·.1)).Nodup := by
  unfold List.Nodup
  rw [List.pairwise_map]
  exact hris.imp (fun h => by omega)
 have hnd2 : ((ys.map (·.1)).map (·.1)).Nodup := (hq.map (·.1)).nodup_iff.2 hnd
 refine rising_ext ?_ hris (fun x => hq.mem_iff)
 unfold Rising
 unfold List.Nodup at hnd2
 rw [List.pairwise_map] at hnd2
 have h2 : (ys.map (·.1)).Pairwise (fun a b => a.1 ≤ b.1) := by rw [List.pairwise_map]; exact hs
 exact (List.Pairwise.and h2 hnd2).imp (fun h => by omega)
theorem as_spb : ∀ (l : List Sp), (∀ x ∈ l, x.1 ≤ 1000000000000) → ∃ xs : List Spb, xs.map (·.1) = l
 | [], _ => ⟨[], rfl⟩
 | x :: l, h => by
  obtain ⟨xs, hxs⟩ := as_spb l (fun y hy => h y (by simp [hy]))
  exact ⟨⟨x, h x (by simp)⟩ :: xs, by simp [hxs]⟩
def SpList (w : World) (l : List Sp) : Ending → World → Prop := fun e w' => ∃ (a : Option Addr) (c : Nat), e = .returned (.slice a l.length c) ∧ Cells w' a (spCs l) ∧ Below w.heap.size w w'
theorem elBsp : Elem Tryz.prog 283 286 (.agg #[.int .i64 0, .int .i64 0]) 2 16 := Elem.mk' Tryz.underlying283 (by kernel_rfl) rfl (by decide)
theorem runs_len (f : Nat → Bool) : ∀ L, (runsTo f L).length ≤ L
 | 0 => by simp [runsTo]
 | b + 1 => by
  have ih := runs_len f b
  unfold runsTo
  split
  ·split
   ·split
    ·simp
    ·rename_i x hx
     obtain ⟨ys, hy⟩ := List.getLast?_eq_some_iff.1 hx
     rw [hy] at ih ⊢
     simp at ih ⊢; omega
   ·simp; omega
  ·omega
set_option maxHeartbeats 2000000 in
theorem ilist_any {w : World} {T : Tri} {n : Nat} {l : List Bool} (h : IxAt w T n l) (hl : l.length ≤ 100000000000) :
  Calls Tryz.prog 255 #[.pointer (some ⟨T.p, 0, none⟩)] w (SpList w (runsOf l)) := by
 have HLt := LH (show T.s < w.heap.size from h.mem T.s (by simp [Tri.list]))
 obtain ⟨M, E, hA, hMO, _⟩ := h
 have e0 : w.cell? ⟨T.p, 0, none⟩ = some (.map (some T.s)) := hA.row.cell rfl
 have HS := LH hA.byS
 have HMO := LH hMO
 have HRl := LH (runs_len (fb l) l.length)
 have HL := LH hl
 clear hA hMO hl
 obtain ⟨B, hB⟩ : ∃ B, B = w.heap.size + 1 := ⟨_, rfl⟩
 have HBB := LH hB
 clear hB
 generalize hPo : SpList w (runsOf l) = Post
 have HPo := LH hPo
 clear hPo
 go_enter Tryz.func255, Tryz.ntmps255
 go_wp2_with (at_range; refine wpList_irange rfl _ 248 rfl 3 Tryz.underlying3 Tryz.underlying248 T.s n M rfl HS.out ?_; intro w0 cnt0 hr0 hg0 hs0)
 have HR0 := LH hr0
 have HB0 := LH (grown_none hg0)
 have HS0 := LH hs0
 clear hr0 hg0 hs0
 go_frame
 go_loopw [3] (fun v wr => ∃ (L : Int → Bool) (cnt : Nat) (done rest : List Sp), wr.ownsRow B 286 2 v done.length (spCs done) ∧ B ≤ wr.heap.size ∧ IRange Tryz.prog 3 wr T.s w.heap.size n M L cnt ∧ Below w.heap.size w wr ∧ Part l M L done rest) (fun _ wr => wr.rangeLeft T.s w.heap.size)
 case atStart => exact ⟨_, _, [], runsOf l, ⟨rfl, .inl ⟨rfl, rfl⟩⟩, by rw [HS0.out, HBB.out]; exact Nat.le_refl _, HR0.out, HB0.out, Part.start HMO.out⟩
 case round =>
  obtain ⟨L, cnt, done, rest, ho, hbs, hr, hb, hp⟩ := hrel
  have HR := LH hr
  have HB := LH hb
  have HO := LH ho
  have HP := LH hp
  have HBs := LH hbs
  obtain ⟨a1, c1, rfl, hc1, hm1⟩ := owned_form ho
  clear hr hb hp ho hbs
  go_wp2_with (at_next; refine wpList_inext rfl _ rfl 3 Tryz.underlying3 T.s w.heap.size n M _ _ rfl HR.out ?_ ?_)
  ·intro h0
   have hperm := HP.out.finish h0
   have hlen : done.length = (runsOf l).length := hperm.length_eq
   have hbd : ∀ x ∈ done, x.1 ≤ 1000000000000 := fun x hx => by
    have h1 := ((runsOf_is l).mem x.1 x.2).1 (hperm.mem_iff.1 hx)
    have := runEnds h1
    have := HL.out
    omega
   obtain ⟨xs, hxs⟩ := as_spb done hbd
   have hxl : xs.length = done.length := by rw [← hxs]; simp
   have hdl : done.length ≤ 1000000000000 := by rw [hlen]; have := HRl.out; have := HL.out; unfold runsOf; omega
   have HPm := LH hperm
   have HXs := LH hxs
   have HLen := LH hlen
   have HXl := LH hxl
   clear h0 hperm hlen hbd hxs hxl
   by_cases hd0 : done.length = 0
   ·have hnil : done = [] := List.eq_nil_of_length_eq_zero hd0
    have hrn : runsOf l = [] := List.eq_nil_of_length_eq_zero (by rw [← HLen.out]; exact hd0)
    have HRn := LH hrn
    subst hnil
    clear hrn hd0
    go_wp2_with (go_at_call 309; refine (show Calls Tryz.prog 309 _ _ _ from AnyF.slices_SortFunc_none (P := Tryz.prog) (ρ := Tryz.sortSp_ren) { Tryz.sortSp with } a1 c1 _ _).mono ?_; rintro e w' ⟨rfl, rfl⟩)
    rw [← HPo.out, HRn.out]
    exact ⟨a1, c1, rfl, .inl rfl, HB.out⟩
   ·obtain ⟨g, c2, he, _, _, hg1, hg2⟩ := owned_some HO.out (by omega)
    cases he
    have HRow := LH (show RowAt wr g 286 (spCs (xs.map (·.1))) by rw [HXs.out]; exact owned_row HO.out)
    go_wp2_with (go_at_call 309; refine (sort_any g c1 xs done.length HXl.out _ HRow.out hdl).mono ?_; rintro e w' ⟨rfl, ys, hyp, hys, hyc, hyg⟩; have HYp := LH hyp; have HYs := LH hys; have HYc := LH hyc; have HYg := LH hyg; clear hyp hys hyc hyg)
    rw [← HPo.out]
    have he : ys.map (·.1) = runsOf l := sorted_runs (done := done) (by rw [← HXs.out]; exact HYp.out.map _) HPm.out HYs.out
    refine ⟨some ⟨g, 0, none⟩, c1, by rw [← HLen.out]; rfl, ?_, ?_⟩
    ·rw [← he]; exact HYc.out
    ·exact HB.out.trans (grown_one HYg.out (by have := HBB.out; omega) HB.out.size)
  ·intro x c w1 cnt1 hwx hwc hL hMx hr1 hlt hg1 hs1 hen
   obtain ⟨s, k, rfl, rfl, _, hp1⟩ := HP.out.step HMO.out hL hMx
   have hP1 := LH hp1
   have HB1 : Hid (Below w.heap.size w w1) := LH (HB.out.trans (grown_one hg1 (Nat.le_refl _) HB.out.size))
   have hob : ∀ g, (Value.slice a1 done.length c1).ownBlock = some g → B ≤ g ∧ g < wr.heap.size := fun g hg => HO.out.lt g hg
   have hO1 := HO.out.kept hg1 (by
    cases hb : (Value.slice a1 done.length c1).ownBlock with
    | none => exact .inl rfl
    | some g => exact .inr (fun e => by have := (hob g hb).1; have := HBB.out; cases e; omega))
   have HO1 := LH hO1
   have HR1 := LH hr1
   have hdl : done.length < 1000000000000 := by
    have h1 := HP.out.perm.length_eq
    have := HRl.out
    have := HL.out
    unfold runsOf at h1
    simp at h1
    omega
   have HBs1 : Hid (B ≤ w1.heap.size) := LH (by have := HBs.out; omega)
   have HLt1 := LH hlt
   have HOb := LH hob
   have hone : Hid (∀ u ∈ (#[Value.int .i64 (s : Int), Value.int .i64 (k : Int)] : Array Value).toList, u.oneCell' = true) := LH (by intro u hu; simp at hu; rcases hu with rfl | rfl <;> rfl)
   clear hL hMx hr1 hlt hg1 hs1 hwx hwc hp1 hO1 hob
   go_wp2_with (at_builtin; refine wpList_append_new (us := #[.int .i64 (s : Int), .int .i64 (k : Int)]) elBsp HO1.out rfl hone.out hdl (by decide) HBs1.out rfl rfl rfl (by simp [Act.eval]) ?_; intro g6 c6 w6 ho6 hg6 hc6 hm6 hb6 hl6; have HO6 := LH ho6; have HG6 := LH hg6; clear ho6 hg6)
   have hrs : some T.s ≠ (Value.slice a1 done.length c1).ownBlock := fun e => by have := (HOb.out T.s e.symm).1; have := HBB.out; have := HLt.out; omega
   have hrr : some w.heap.size ≠ (Value.slice a1 done.length c1).ownBlock := fun e => by have := (HOb.out w.heap.size e.symm).1; have := HBB.out; omega
   have HR6 := LH (HR1.out.kept HG6.out hrs hrr)
   have HB6 : Hid (Below w.heap.size w w6) := LH (below_grownBy HB1.out HO1.out HG6.out (Nat.le_refl _) (by have := HBB.out; omega))
   have hz6 := HG6.out.size
   clear hrs hrr
   go_roundw
   case rel => exact ⟨_, _, done ++ [(s, k)], _, by rw [List.length_append, spCs_append]; exact HO6.out, Nat.le_trans HBs1.out hz6, HR6.out, HB6.out, hP1.out⟩
   case measure => rw [HR6.out.left_eq, HR.out.left_eq]; exact HLt1.out
end Go.Proofs.YtpopbfagliagnaaGreat
namespace Go.Proofs.YtpopbfagliagnaaGreat
open Go.RowKit
set_option maxHeartbeats 1000000 in
theorem bruns_any {w : World} {X : MF} {n B : Nat} {m : Bm} (h : ManAt w X n B m) (hB : B ≤ 1000) :
  Calls Tryz.prog 178 #[.pointer (some ⟨X.m, 0, none⟩)] w (SpList w (runsOf m.free)) := by
 have c1 := h.c1
 have HI := LH (ilist_any h.ix (by rw [h.lenF]; omega))
 clear h
 go_enter Tryz.func178, Tryz.ntmps178
 go_wp2_with fail
 refine HI.out.mono ?_
 rintro e w1 ⟨a, c, rfl, hc, hb⟩
 have HC := LH hc
 have HB := LH hb
 clear hc hb
 go_wp2_with fail
 go_ret
 exact ⟨a, c, rfl, HC.out, HB.out⟩
end Go.Proofs.YtpopbfagliagnaaGreat
