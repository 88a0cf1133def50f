/- Parts of the proof, one behind the other: Fy, Fz, Qa, Ri, Qb, Arr. -/
import Derived.Test.YtbimcogdbafjpaaGreatAO13
import Derived.OpenShut
import Derived.Lib.SmallJoins
set_option linter.unusedVariables false
namespace Go.Proofs.YtbimcogdbafjpaaGreat
open Go.RowKit Go.Maps
def AlGoR (w w' : World) (A : AF) (n B : Nat) (m : Al) : Prop := ∃ R', AlAt w' (A.re R') n B m ∧ Touch A.R w w' ∧ ∀ b ∈ R', b ∈ A.R ∨ w.heap.size ≤ b
theorem AlGoR.refl {w : World} {A : AF} {n B : Nat} {m : Al} (h : AlAt w A n B m) : AlGoR w w A n B m := ⟨A.R, h, Touch.refl _ _, fun _ h => .inl h⟩
theorem AlGoR.later {w w1 w2 : World} {A : AF} {n B : Nat} {m : Al} (h : AlGoR w w1 A n B m) (hb : Below w1.heap.size w1 w2) : AlGoR w w2 A n B m := by
 obtain ⟨R', h1, h2, h3⟩ := h
 exact ⟨R', h1.below hb, h2.later hb, h3⟩
theorem AlGoR.trans {w w1 w2 : World} {A : AF} {R1 : List Nat} {n B : Nat} {m : Al} (h1 : Touch A.R w w1) (h2 : ∀ b ∈ R1, b ∈ A.R ∨ w.heap.size ≤ b) (h : AlGoR w1 w2 (A.re R1) n B m) : AlGoR w w2 A n B m := by
 obtain ⟨R', g1, g2, g3⟩ := h
 refine ⟨R', g1, h1.own g2 (fun b hb => (h2 b hb).symm), fun b hb => ?_⟩
 rcases g3 b hb with c | c
 ·exact h2 b c
 ·exact .inr (Nat.le_trans h1.size c)
theorem AlAt.setFreeR {w w' : World} {A : AF} {n n' B : Nat} {m : Al} {S : FL} (h : AlAt w A n B m) (hn : n ≤ n') (hg : FreeGo w w' A.f A.mb n' A.R S) : AlGoR w w' A n' B ⟨m.bm, m.used, S⟩ := by
 obtain ⟨R', g1, g2, g3⟩ := hg
 have hk : ∀ k ∈ A.fix, w'.heap[k]? = w.heap[k]? := fun k hk => g2.block k (h.fixlt hk) (fun hm => h.nR k hm hk)
 refine ⟨R', ⟨(hk A.a (by simp [AF.fix])).trans h.head, (h.man.keep (fun k hk' => hk k (by simp [AF.fix, hk']))).mono hn, h.set.keep (fun k hk' => hk k (by simp [AF.fix, hk'])), g1, h.nd, fun b hb hf => ?_, h.lenU⟩, g2, g3⟩
 rcases g3 b hb with c | c
 ·exact h.nR b c hf
 ·have := h.fixlt hf; omega
set_option maxHeartbeats 2000000 in
set_option maxRecDepth 20000 in
theorem acarveR_any {w : World} {A : AF} {n B : Nat} {m : Al} (h : AlAt w A n B m) (hB : B ≤ 200) (hL : m.fl.upto 900000) (b k : Nat) (hk : k < 32) (hb : 1 ≤ b) (hbB : b < B) (hlen : m.used.length = 512 * B) :
  Calls Tryz.prog 103 #[valloc A, .int .i64 (b : Int), .int .i64 (k : Int)] w fun e w' => e = .returned (.tuple #[]) ∧ AlGoR w w' A n B ⟨m.bm, m.used, m.carved b k⟩ := by
 have HA := LH h
 have HUp := LH hL
 have HCN : Hid (clsCells k ≤ 256) := LH (by
  have := clsWords_pos (k : Int) (by omega)
  unfold clsCells
  exact Nat.div_le_of_le_mul (by omega))
 obtain ⟨N, hN⟩ : ∃ N, N = clsCells k := ⟨_, rfl⟩
 have HAdr : Hid (∀ i : Nat, i < N → cellAt (B : Int) (k : Int) (b : Int) (i : Int) = (cellOf b k i : Nat)) := LH (fun i hi => cellAt_of hk hb hbB (by rw [← hN]; exact hi))
 have HCar : Hid (m.carved b k = m.fl.carve (fun a => m.used.getD a false) (cellOf b k) k N) := LH (by rw [hN]; rfl)
 have HCells := LH (fun w => ccells_any (k : Int) w)
 rw [← hN] at HCN HCells
 clear h hL hN
 go_enter Tryz.func103, Tryz.ntmps103
 go_wp2_with fail
 refine (HCells.out _).mono ?_
 rintro e w1 ⟨rfl, hb1⟩
 have HB1 := LH hb1
 have hN2 := HCN.out
 clear hb1
 go_wp2_with fail
 go_loopw [6] (fun iv wr => ∃ (j : Nat) (T : FL), j ≤ N ∧ iv = .int .i64 ((j : Int) - 1) ∧ Hid (m.carved b k = T.carve (fun a => m.used.getD a false) (cellOf b k) k j) ∧ Hid (T.upto (900000 + (N - j))) ∧ Hid (AlGoR w wr A n B ⟨m.bm, m.used, T⟩)) (fun iv _ => (intOf iv + 1).toNat)
 case atStart => exact ⟨N, m.fl, Nat.le_refl _, vint (by omega), HCar, LH (HUp.out.mono (by omega)), LH ((AlGoR.refl HA.out).later HB1.out)⟩
 case round =>
  clear HB1
  obtain ⟨j, T, hj, rfl, HT, HTu, HGo⟩ := hrel
  cases j with
  | zero =>
   have HFin : Hid (AlGoR w wr A n B ⟨m.bm, m.used, m.carved b k⟩) := LH (by rw [HT.out]; exact HGo.out)
   go_wp2_with fail
   go_end0
   exact ⟨rfl, HFin.out⟩
  | succ i =>
   have hi0 : ((i + 1 : Nat) : Int) - 1 = (i : Int) := by omega
   rw [hi0]
   obtain ⟨R1, ha1, ht1, hr1⟩ := HGo.out
   have HA1 := LH ha1
   have HT1 := LH ht1
   have HR1 := LH hr1
   have c2 := ha1.c2
   clear ha1 ht1 hr1
   have HCs : Hid (T.carve (fun a => m.used.getD a false) (cellOf b k) k (i + 1) = (if m.used.getD (cellOf b k i) false then T else T.pushed k (cellOf b k i)).carve (fun a => m.used.getD a false) (cellOf b k) k i) := LH rfl
   have HAd := LH (caddr_any B (by omega) (k : Int) (b : Int) (i : Int))
   rw [HAdr.out i (by omega)] at HAd
   have HHas := LH (hasI_nat m.used (cellOf b k i))
   generalize cellOf b k i = x at *
   change wr.cell? ⟨A.a, 2, none⟩ = some (.int .i64 (B : Int)) at c2
   go_wp2_with fail
   refine (HAd.out _).mono ?_
   rintro e w2 ⟨rfl, hb2⟩
   have HA2 := LH (HA1.out.below hb2)
   have HB2 := LH hb2
   have c3 := HA2.out.c3
   have c4 := HA2.out.c4
   change w2.cell? ⟨A.a, 3, none⟩ = some (vset A.U) at c3
   change w2.cell? ⟨A.a, 4, none⟩ = some (.pointer (some ⟨A.f, 0, none⟩)) at c4
   clear hb2 c2
   go_wp2_with fail
   refine (shas_any HA2.out.set (x : Int)).mono ?_
   rintro e w3 ⟨rfl, rfl⟩
   dsimp only
   rw [HHas.out]
   cases hu : m.used.getD x false with
   | true =>
    have HNext : Hid (m.carved b k = T.carve (fun a => m.used.getD a false) (cellOf b k) k i) := LH (by rw [HT.out, HCs.out, hu]; rfl)
    clear hu
    go_wp2_with fail
    go_roundw
    case rel => exact ⟨i, T, by omega, vint (by omega), HNext, LH (HTu.out.mono (by omega)), LH (HGo.out.later HB2.out)⟩
    case measure => simp [intOf]
   | false =>
    have HNext : Hid (m.carved b k = (T.pushed k x).carve (fun a => m.used.getD a false) (cellOf b k) k i) := LH (by rw [HT.out, HCs.out, hu]; rfl)
    clear hu
    go_wp2_with fail
    refine (fpush_any HA2.out.free (HTu.out.mono (by omega)) k x hk).mono ?_
    rintro e w4 ⟨rfl, hg4⟩
    have HGo4 : Hid (AlGoR w w4 A n B ⟨m.bm, m.used, T.pushed k x⟩) := LH (AlGoR.trans (HT1.out.later HB2.out) HR1.out (HA2.out.setFreeR (Nat.le_refl _) hg4))
    have HTu4 := LH (FL.pushed_upto HTu.out k x)
    clear hg4
    generalize (if T.has k x = true then (41 : Int) else 0) = er at *
    go_wp2_with fail
    go_roundw
    case rel => exact ⟨i, _, by omega, vint (by omega), HNext, LH (HTu4.out.mono (by omega)), HGo4⟩
    case measure => simp [intOf]
def carveTo (u : List Bool) (L : List Hd) : Nat → FL
 | 0 => FL.empty
 | n + 1 => if (hdGet L ((n + 1 : Nat) : Int)).k = 1 then (carveTo u L n).carve (fun a => u.getD a false) (cellOf (n + 1) (hdGet L ((n + 1 : Nat) : Int)).c.toNat) (hdGet L ((n + 1 : Nat) : Int)).c.toNat (clsCells (hdGet L ((n + 1 : Nat) : Int)).c.toNat) else carveTo u L n
def newUsed (S : Dev) (L : List Hd) : List Bool → List Int → List Bool × Int
 | u, [] => (u, 0)
 | u, x :: xs => if (placedN S L x).isSome = false then (u, 22) else if freshI u x = false then (u, 41) else newUsed S L (addI u x) xs
theorem newUsed_cons (S : Dev) (L : List Hd) (u : List Bool) (x : Int) (xs : List Int) : newUsed S L u (x :: xs) = if (placedN S L x).isSome = false then (u, 22) else if freshI u x = false then (u, 41) else newUsed S L (addI u x) xs := rfl
theorem clsCells_le {k : Nat} (hk : k < 32) : clsCells k ≤ 256 := by
 have := clsWords_pos (k : Int) (by omega)
 unfold clsCells
 exact Nat.div_le_of_le_mul (by omega)
theorem empty_upto : FL.empty.upto 0 := by
 intro i hi
 unfold FL.at FL.empty
 split <;> simp
theorem hd_cls {B : Nat} {m : Bm} (h : BmOk B m) {j : Nat} (h1 : 1 ≤ j) (hj : j < B) (hk : (hdGet m.list (j : Int)).k = 1) : 0 ≤ (hdGet m.list (j : Int)).c ∧ (hdGet m.list (j : Int)).c < 32 := by
 rw [hdGet_at h h1 hj] at hk ⊢
 have hr := of_decide_eq_true (h.right j hj)
 unfold HdRight at hr
 omega
theorem carveTo_upto {B : Nat} {m : Bm} (h : BmOk B m) (u : List Bool) : ∀ n, n < B → (carveTo u m.list n).upto (256 * n)
 | 0, _ => empty_upto
 | n + 1, hn => by
  have ih := carveTo_upto h u n (by omega)
  unfold carveTo
  by_cases c : (hdGet m.list ((n + 1 : Nat) : Int)).k = 1
  ·rw [if_pos c]
   have hc := hd_cls h (by omega) hn c
   exact (FL.carve_upto ih _).mono (by have := clsCells_le (k := (hdGet m.list ((n + 1 : Nat) : Int)).c.toNat) (by omega); omega)
  ·rw [if_neg c]
   exact ih.mono (by omega)
def NewPost (w : World) (X : MF) (n B : Nat) (m : Bm) (xs : List Int) : Ending → World → Prop := fun e w' => Below w.heap.size w w' ∧
  (((newUsed m.dev m.list (List.replicate m.dev.cache.length false) xs).2 = 0 ∧ ∃ A : AF, e = .returned (.tuple #[valloc A, .int .i64 0]) ∧ A.X = X ∧
     AlAt w' A n B ⟨m, (newUsed m.dev m.list (List.replicate m.dev.cache.length false) xs).1, carveTo (newUsed m.dev m.list (List.replicate m.dev.cache.length false) xs).1 m.list (B - 1)⟩ ∧ ∀ k ∈ A.list, k ∈ X.list ∨ w.heap.size ≤ k) ∨
   ((newUsed m.dev m.list (List.replicate m.dev.cache.length false) xs).2 ≠ 0 ∧ e = .returned (.tuple #[.pointer none, .int .i64 (newUsed m.dev m.list (List.replicate m.dev.cache.length false) xs).2])))
set_option maxHeartbeats 8000000 in
set_option maxRecDepth 20000 in
theorem anew_any {w : World} {X : MF} {n B : Nat} {m : Bm} (h : ManAt w X n B m) (hok : BmOk B m) (hB1 : 1 ≤ B) (hB : B ≤ 200) (hlen : m.dev.cache.length = 512 * B) (ua : Option Addr) (ul uc : Nat) (xs : List Int) (hx : xs.length = ul) (hcs : Cells w ua (xs.map (Value.int .i64))) (hul : ul ≤ 1000000) :
  Calls Tryz.prog 18 #[vdev X.F, .pointer (some ⟨X.m, 0, none⟩), .slice ua ul uc] w (NewPost w X n B m xs) := by
 have HM := LH h
 have HOk := LH hok
 have HSm := LH h.dev.small
 have HXm := LH h.mem
 have HX := LH hx
 have HCs := LH hcs
 have HLen := LH hlen
 obtain ⟨u0, hu0⟩ : ∃ u0, u0 = List.replicate m.dev.cache.length false := ⟨_, rfl⟩
 have HU0 : Hid (u0.length = 512 * B) := LH (by rw [hu0, List.length_replicate, hlen])
 have HPost : Hid (∀ A w' u, newUsed m.dev m.list u0 xs = (u, 0) → A.X = X → AlAt w' A n B ⟨m, u, carveTo u m.list (B - 1)⟩ → Below w.heap.size w w' → (∀ k ∈ A.list, k ∈ X.list ∨ w.heap.size ≤ k) → NewPost w X n B m xs (.returned (.tuple #[valloc A, .int .i64 0])) w') := LH (fun A w' u h0 a b c d => by
  unfold NewPost
  rw [← hu0, h0]
  exact ⟨c, .inl ⟨rfl, A, rfl, a, b, d⟩⟩)
 have HPerr : Hid (∀ w' u c, newUsed m.dev m.list u0 xs = (u, c) → c ≠ 0 → Below w.heap.size w w' → NewPost w X n B m xs (.returned (.tuple #[.pointer none, .int .i64 c])) w') := LH (fun w' u c h0 hc hb => by
  unfold NewPost
  rw [← hu0, h0]
  exact ⟨hb, .inr ⟨hc, rfl⟩⟩)
 generalize NewPost w X n B m xs = Post at *
 have hlen1 : 1 ≤ m.dev.cache.length := by omega
 have HL1 := LH hlen1
 have HU0e := LH hu0
 clear h hok hx hcs hlen hu0 hlen1
 go_enter Tryz.func18, Tryz.ntmps18
 go_wp2_with fail
 refine (bgeom_any HM.out).mono ?_
 rintro e w1 ⟨rfl, hb1⟩
 have HM1 := LH (HM.out.below hb1)
 have HB1 := LH hb1
 clear hb1
 go_wp2_with fail
 refine (dlen_any HM1.out.dev).mono ?_
 rintro e w2 ⟨rfl, rfl⟩
 go_wp2_with fail
 refine (snew_any m.dev.cache.length HL1.out HSm.out _).mono ?_
 rintro e w2 ⟨U, rfl, hU2, hb2, hU3⟩
 have HM2 := LH (HM1.out.below hb2)
 have HB2 := LH (HB1.out.trans (hb2.mono HB1.out.size))
 have HU := LH hU2
 have HUn := LH (fun k hk => Nat.le_trans HB1.out.size (hU3 k hk))
 clear hU2 hb2 hU3 HM1
 go_wp2_with fail
 refine (fnew_any _).mono ?_
 rintro e w3 ⟨f, mb, rfl, hf3, hb3, hf4, hf5⟩
 have HM3 := LH (HM2.out.below hb3)
 have HB3 := LH (HB2.out.trans (hb3.mono HB2.out.size))
 have HU3 := LH (HU.out.below hb3)
 have HF := LH hf3
 have HFn : Hid (w2.heap.size ≤ f ∧ w2.heap.size ≤ mb) := LH ⟨hf4, hf5⟩
 have HW2 := LH HB2.out.size
 have HU2m := LH HU.out.mem
 clear hf3 hb3 hf4 hf5 HM2
 go_upto_region 2 with fail
 have hbx := below_alloc w3 (Obj.cells #[.pointer (some ⟨X.m, 0, none⟩), vdev X.F, .int .i64 (B : Int), vset U, .pointer (some ⟨f, 0, none⟩)] 51)
 have hhx := heap_alloc_new w3 (Obj.cells #[.pointer (some ⟨X.m, 0, none⟩), vdev X.F, .int .i64 (B : Int), vset U, .pointer (some ⟨f, 0, none⟩)] 51)
 obtain ⟨A, hA⟩ : ∃ A : AF, A = ⟨w3.heap.size, X, U, f, mb, [f, mb]⟩ := ⟨_, rfl⟩
 have HAA : Hid (A.X = X ∧ ∀ k ∈ A.list, k ∈ X.list ∨ w.heap.size ≤ k) := LH (by
  subst hA
  refine ⟨rfl, fun k hk => ?_⟩
  simp only [AF.list, AF.fix, List.mem_append, List.mem_cons, List.not_mem_nil, or_false] at hk
  have h1 := HW2.out
  have h2 := HB3.out.size
  have h3 := HFn.out
  rcases hk with (rfl | hk | hk) | rfl | rfl
  ·right; exact h2
  ·exact .inl hk
  ·exact .inr (HUn.out k hk)
  ·right; omega
  ·right; omega)
 have HAt : Hid (AlAt (w3.alloc (Obj.cells #[.pointer (some ⟨X.m, 0, none⟩), vdev X.F, .int .i64 (B : Int), vset U, .pointer (some ⟨f, 0, none⟩)] 51)) A n B ⟨m, List.replicate m.dev.cache.length false, FL.empty⟩) := LH (by
  subst hA
  have h1 := HW2.out
  have h2 := HB3.out.size
  have h3 := HFn.out
  have hfm := HF.out.mem
  have hf1 := hfm f (by simp)
  have hf2 := hfm mb (by simp)
  obtain ⟨_, _, _, _, hne⟩ := id HF.out
  have hmbf : f ≠ mb := by obtain ⟨V, hV, _⟩ := id HF.out; exact hV.ne
  obtain ⟨ws, hws⟩ := id HU3.out
  have hune := hws.ne
  have hu1 := HU2m.out U.u (by simp [SetF.list])
  have hu2 := HU2m.out U.b (by simp [SetF.list])
  have hu3 := HUn.out U.u (by simp [SetF.list])
  have hu4 := HUn.out U.b (by simp [SetF.list])
  have hXl : ∀ k, w.heap.size ≤ k → k ∉ X.list := fun k hk hm => by have := HXm.out k hm; omega
  refine ⟨hhx, HM3.out.below hbx, HU3.out.below hbx, (HF.out.below hbx).mono (Nat.zero_le _), ?_, ?_, by simp⟩
  ·show (w3.heap.size :: (X.list ++ [U.u, U.b])).Nodup
   rw [List.nodup_cons, List.nodup_append]
   refine ⟨?_, HM3.out.nd, by simpa using hune, ?_⟩
   ·simp only [List.mem_append, List.mem_cons, List.not_mem_nil, or_false, not_or]
    exact ⟨hXl _ h2, by omega, by omega⟩
   ·intro a ha b hb e
    subst e
    simp only [List.mem_cons, List.not_mem_nil, or_false] at hb
    rcases hb with rfl | rfl
    ·exact hXl _ hu3 ha
    ·exact hXl _ hu4 ha
  ·intro b hb
   show b ∉ w3.heap.size :: (X.list ++ [U.u, U.b])
   simp only [List.mem_cons, List.mem_append, List.not_mem_nil, or_false, not_or] at hb ⊢
   rcases hb with rfl | rfl
   ·exact ⟨by omega, hXl _ (by omega), by omega, by omega⟩
   ·exact ⟨by omega, hXl _ (by omega), by omega, by omega⟩)
 have HB4 := LH (HB3.out.trans (hbx.mono HB3.out.size))
 have HAv : Hid (w3.heap.size = A.a) := LH (by rw [hA])
 have HXe : Hid (A.X = X) := LH HAA.out.1
 generalize w3.alloc _ = w4 at *
 rw [HAv.out]
 have HAr : Hid (∀ b ∈ A.R, w.heap.size ≤ b) := LH (by
  subst hA
  intro b hb
  simp only [List.mem_cons, List.not_mem_nil, or_false] at hb
  have h1 := HB2.out.size
  have h3 := HFn.out
  rcases hb with rfl | rfl <;> omega)
 have HAu : Hid (∀ b ∈ A.U.list, w.heap.size ≤ b) := LH (by subst hA; exact HUn.out)
 rw [← HU0e.out] at HAt
 clear hA hbx hhx HM3 HU3 HF HU2m HUn HFn HW2 HM HXm HB3 HB2 HB1 HU HAv HU0e HL1
 go_wp2_with fail
 go_loopw [27] (fun iv wr => ∃ (i : Nat) (u : List Bool) (R : List Nat), i ≤ ul ∧ iv = .int .i64 (i : Int) ∧ Hid (newUsed m.dev m.list u0 xs = newUsed m.dev m.list u (xs.drop i)) ∧ Hid (u.length = 512 * B) ∧ Hid (AlAt wr (A.re R) n B ⟨m, u, FL.empty⟩) ∧ Hid (Below w.heap.size w wr) ∧ Hid (∀ b ∈ R, w.heap.size ≤ b)) (fun iv _ => ul - (intOf iv).toNat)
 case atStart => exact ⟨0, u0, A.R, Nat.zero_le _, rfl, LH rfl, HU0, HAt, HB4, HAr⟩
 case round =>
  clear HAt HB4 HAr
  obtain ⟨i, u, R, hi, rfl, HNu, HUl, HAt, HBw, HR⟩ := hrel
  by_cases hlt : i < ul
  ·have hlt' : (i : Int) < (ul : Int) := by omega
   have hil : i < xs.length := by rw [HX.out]; exact hlt
   obtain ⟨ub, uo, rfl, hub, hcl⟩ := (HCs.out.below HBw.out (Nat.le_refl _)).atMap (0 : Int) hil
   have e0 := hcl i hil
   obtain ⟨x, hx⟩ : ∃ x, x = xs.getD i 0 := ⟨_, rfl⟩
   have HDr : Hid (xs.drop i = x :: xs.drop (i + 1)) := LH (by
    rw [hx, List.drop_eq_getElem_cons hil, List.getD_eq_getElem?_getD, List.getElem?_eq_getElem hil]; rfl)
   rw [← hx] at e0
   have HNu2 := HNu.out
   rw [HDr.out, newUsed_cons] at HNu2
   have HNu3 := LH HNu2
   clear HNu2 HNu HDr hcl hil hx hub
   go_wp2_with fail
   refine (aplace_any HAt.out (by omega) x).mono ?_
   rintro e w5 ⟨⟨p, d, rfl, _⟩, hb5⟩
   have HA5 := LH (HAt.out.below hb5)
   have HB5 : Hid (Below w.heap.size w w5) := LH (HBw.out.trans (hb5.mono HBw.out.size))
   clear hb5 HAt HBw
   generalize (placedN m.dev m.list x).isSome = bp at *
   have hbx := below_alloc w5 (Obj.cells #[.int .i64 p, .int .i64 d] 129)
   have HA6 := LH (HA5.out.below hbx)
   have HB6 : Hid (Below w.heap.size w _) := LH (HB5.out.trans (hbx.mono HB5.out.size))
   clear hbx HA5 HB5
   cases bp with
   | false =>
    have HE := LH (HPerr.out _ _ _ (by rw [HNu3.out, if_pos rfl]) (by decide) HB6.out)
    clear HNu3 HA6 HB6
    go_wp2_with fail
    exact HE.out
   | true =>
    have HNu4 : Hid (newUsed m.dev m.list u0 xs = if freshI u x = false then (u, 41) else newUsed m.dev m.list (addI u x) (xs.drop (i + 1))) := LH (by rw [HNu3.out, if_neg (by simp)])
    clear HNu3
    have c3 := HA6.out.c3
    change World.cell? _ ⟨A.a, 3, none⟩ = some (vset A.U) at c3
    go_wp2_with fail
    refine (sadd_any HA6.out.set x).mono ?_
    rintro e w7 ⟨rfl, hs7, ht7⟩
    have HB7 : Hid (Below w.heap.size w w7) := LH (HB6.out.trans (ht7.below HB6.out.size HAu.out))
    have hul2 : (addI u x).length = u.length := by
     unfold addI
     split
     ·exact List.length_set
     ·rfl
    obtain ⟨R', hg1, _, hg3⟩ := HA6.out.setUsed hs7 ht7 hul2
    have HA7 : Hid (AlAt w7 (A.re R') n B ⟨m, addI u x, FL.empty⟩) := LH hg1
    have HR7 : Hid (∀ b ∈ R', w.heap.size ≤ b) := LH (fun b hb => (hg3 b hb).elim (HR.out b) (fun c => Nat.le_trans HB6.out.size c))
    have HUl7 : Hid ((addI u x).length = 512 * B) := LH (by rw [hul2, HUl.out])
    clear hs7 ht7 hul2 hg1 hg3 c3 HA6 HB6
    generalize hfr : freshI u x = fr at *
    cases fr with
    | false =>
     have HE := LH (HPerr.out _ _ _ (by rw [HNu4.out, if_pos rfl]) (by decide) HB7.out)
     clear HNu4
     go_wp2_with fail
     exact HE.out
    | true =>
     have HNu5 : Hid (newUsed m.dev m.list u0 xs = newUsed m.dev m.list (addI u x) (xs.drop (i + 1))) := LH (by rw [HNu4.out, if_neg (by simp)])
     clear HNu4 hfr
     go_wp2_with fail
     go_roundw
     case rel => exact ⟨i + 1, _, R', by omega, vint (by omega), HNu5, HUl7, HA7, HB7, HR7⟩
     case measure => simp [intOf]; omega
  ·obtain rfl : i = ul := by omega
   have HNu2 : Hid (newUsed m.dev m.list u0 xs = (u, 0)) := LH (by
    rw [HNu.out, List.drop_of_length_le (by rw [HX.out]; exact Nat.le_refl _)]; rfl)
   clear HNu hlt hi
   have HCt : Hid (carveTo u m.list 0 = FL.empty) := LH rfl
   go_wp2_with fail
   go_loopw [13] (fun bv wr => ∃ (j : Nat) (R : List Nat), j + 1 ≤ B ∧ bv = .int .i64 ((j + 1 : Nat) : Int) ∧ Hid (AlAt wr (A.re R) n B ⟨m, u, carveTo u m.list j⟩) ∧ Hid (Below w.heap.size w wr) ∧ Hid (∀ b ∈ R, w.heap.size ≤ b)) (fun bv _ => B - (intOf bv).toNat)
   case atStart => exact ⟨0, R, by omega, rfl, LH (by rw [HCt.out]; exact HAt.out), HBw, HR⟩
   case round =>
    clear HAt HBw HR HCt
    obtain ⟨j, R, hj1, rfl, HAt, HBw, HR⟩ := hrel
    have c0 := HAt.out.man.c0
    have HMan : Hid (ManAt wr X n B m) := LH (by have := HAt.out.man; rw [show (A.re R).X = X from HXe.out] at this; exact this)
    rw [show (A.re R).X = X from HXe.out] at c0
    go_wp2_with fail
    refine (tlen_any HMan.out.tab).mono ?_
    rintro e w5 ⟨rfl, rfl⟩
    by_cases hlt : j + 1 < B
    ·have hlt' : ((j + 1 : Nat) : Int) < (B : Int) := by omega
     have HGet := LH (tget_any (HMan.out.tab.at (MF.notHot (MF.apart HMan.out.nd).t).1) ((j + 1 : Nat) : Int) (by rw [HMan.out.tab.len]; omega))
     have HCv : Hid (carveTo u m.list (j + 1) = if (hdGet m.list ((j + 1 : Nat) : Int)).k = 1 then (carveTo u m.list j).carve (fun a => u.getD a false) (cellOf (j + 1) (hdGet m.list ((j + 1 : Nat) : Int)).c.toNat) (hdGet m.list ((j + 1 : Nat) : Int)).c.toNat (clsCells (hdGet m.list ((j + 1 : Nat) : Int)).c.toNat) else carveTo u m.list j) := LH rfl
     have HCl := LH (fun (hk : (hdGet m.list ((j + 1 : Nat) : Int)).k = 1) => hd_cls HOk.out (by omega) hlt hk)
     have HUp := LH ((carveTo_upto HOk.out u j (by omega)).mono (show 256 * j ≤ 900000 by omega))
     obtain ⟨J, hJ⟩ : ∃ J, J = j + 1 := ⟨_, rfl⟩
     rw [← hJ] at HGet HCv HCl hlt' hlt ⊢
     have HJ := LH hJ
     clear hJ hj1
     unfold Hd.val at HGet
     generalize hdGet m.list (J : Int) = hd at *
     obtain ⟨k, c, l⟩ := hd
     dsimp only at HGet HCv HCl
     go_wp2_with fail
     refine HGet.out.mono ?_
     rintro e w6 ⟨rfl, hb6⟩
     have hbx := below_alloc w6 (Obj.cells #[.int .i64 k, .int .i64 c, .int .i64 l] 104)
     have HA6 := LH ((HAt.out.below hb6).below hbx)
     have HB6 : Hid (Below w.heap.size w _) := LH ((HBw.out.trans (hb6.mono HBw.out.size)).trans (hbx.mono (Nat.le_trans HBw.out.size hb6.size)))
     clear hb6 hbx HGet HAt HBw HMan c0
     by_cases hk : k = 1
     ·subst hk
      obtain ⟨h1, h2⟩ := HCl.out rfl
      obtain ⟨cc, rfl⟩ := Int.eq_ofNat_of_zero_le h1
      have HCv2 : Hid (carveTo u m.list J = (⟨m, u, carveTo u m.list j⟩ : Al).carved J cc) := LH (by rw [HCv.out, if_pos rfl, HJ.out]; rfl)
      have HCa := LH (acarveR_any HA6.out hB HUp.out J cc (by omega) (by have := HJ.out; omega) hlt HUl.out)
      rw [← HCv2.out] at HCa
      clear HCv HCl HCv2 h1 h2
      go_wp2_with fail
      refine HCa.out.mono ?_
      rintro e w7 ⟨rfl, R', hg1, hg2, hg3⟩
      have HA7 : Hid (AlAt w7 (A.re R') n B ⟨m, u, carveTo u m.list J⟩) := LH hg1
      have HB7 : Hid (Below w.heap.size w w7) := LH (HB6.out.trans (hg2.below HB6.out.size HR.out))
      have HR7 : Hid (∀ b ∈ R', w.heap.size ≤ b) := LH (fun b hb => (hg3 b hb).elim (HR.out b) (fun c => Nat.le_trans HB6.out.size c))
      clear hg1 hg2 hg3 HA6 HB6 HCa
      go_wp2_with fail
      go_roundw
      case rel => exact ⟨J, R', by omega, vint (by omega), HA7, HB7, HR7⟩
      case measure => have hJe := HJ.out; simp [intOf]; omega
     ·have hk1 : ((k : Int) == 1) = false := by simpa using hk
      have HA7 : Hid (AlAt _ (A.re R) n B ⟨m, u, carveTo u m.list J⟩) := LH (by rw [HCv.out, if_neg hk]; exact HA6.out)
      clear HCv HCl HA6
      go_wp2_with fail
      go_roundw
      case rel => exact ⟨J, R, by omega, vint (by omega), HA7, HB6, HR⟩
      case measure => have hJe := HJ.out; simp [intOf]; omega
    ·obtain rfl : B = j + 1 := by omega
     have HFin := LH (HPost.out (A.re R) _ u HNu2.out HXe.out HAt.out HBw.out (fun k hk => (AF.re_list hk).elim (HAA.out.2 k) (fun c => .inr (HR.out k c))))
     clear HAt HBw HR HNu2 HMan c0
     have hlt' : decide (j + 1 < j + 1) = false := by simp
     clear hlt
     go_wp2_with fail
     exact HFin.out
end Go.Proofs.YtbimcogdbafjpaaGreat
namespace Go.Proofs.YtbimcogdbafjpaaGreat
variable {B : Nat} {m : Al} {bm : Bm}
theorem devWord_is (h : BmOk B bm) {b : Nat} (h1 : 1 ≤ b) (h2 : b < B) : devWord bm.dev b = encN (b : Int) (bm.list.getD b default).k (bm.list.getD b default).c (bm.list.getD b default).l := by
 unfold devWord
 rw [show (256 + (b : Int)) = ((256 + b : Nat) : Int) by omega, peek_in]
 exact h.word b h1 h2
theorem hds_at (f : Nat → Nat) {k q : Nat} (h : q < k) : (hds f k).getD q default = hdF f q := by
 unfold hds
 rw [List.getD_eq_getElem?_getD, List.getElem?_map, List.getElem?_range h]
 rfl
theorem bm_open (h : BmOk B bm) : AllOk (devWord bm.dev) B ∧ ∀ q, 1 ≤ q → (hds (devWord bm.dev) B).getD q default = bm.list.getD q default := by
 refine ⟨fun b h1 h2 => by rw [devWord_is h h1 h2, dec_enc _ _ _ _ (h.right b h2)], fun q h1 => ?_⟩
 by_cases h2 : q < B
 ·rw [hds_at _ h2]
  unfold hdF
  rw [if_neg (by omega), devWord_is h h1 h2, dec_enc _ _ _ _ (h.right q h2)]
 ·rw [List.getD_eq_getElem?_getD, List.getElem?_eq_none (by rw [hds_length]; omega), List.getD_eq_getElem?_getD, List.getElem?_eq_none (by rw [h.lenL]; omega)]
theorem bmOk_open (h : BmOk B bm) : BmOk B (bmOf bm.dev B) := by
 have hq := (bm_open h).2
 unfold bmOf
 refine ⟨hds_length _ _, freeL_len _ _ _, h.clean, fun b hb => ?_, fun b h1 h2 => ?_, fun b => ?_, fun b h1 h2 hk => ?_⟩
 ·dsimp only
  by_cases e : b = 0
  ·subst e
   rw [hds_at _ hb]
   rfl
  ·rw [hq b (by omega)]; exact h.right b hb
 ·dsimp only
  rw [hq b h1]; exact h.word b h1 h2
 ·dsimp only
  rw [freeL_fb]
  unfold freeAt
  constructor
  ·rintro ⟨_, h2, h3, h4⟩
   exact ⟨h2, h3, by simpa using h4⟩
  ·rintro ⟨h2, h3, h4⟩
   exact ⟨h3, h2, h3, by simpa using h4⟩
 ·dsimp only at hk ⊢
  rw [hq b h1] at hk ⊢
  obtain ⟨g1, g2⟩ := h.large b h1 h2 hk
  exact ⟨g1, fun i i1 i2 => by rw [hq _ (by omega)]; exact g2 i i1 i2⟩
theorem snd_open (h : BmOk B bm) (hs : Snd bm.list) : Snd (bmOf bm.dev B).list := by
 have hq := (bm_open h).2
 intro q q1 hk
 rw [show (bmOf bm.dev B).list = hds (devWord bm.dev) B from rfl] at hk ⊢
 rw [hq q q1] at hk
 obtain ⟨a, a1, a2, a3, a4⟩ := hs q q1 hk
 exact ⟨a, a1, a2, by rw [hq a a1]; exact a3, by rw [hq a a1]; exact a4⟩
theorem sound_to (h : BmOk B bm) (hs : Snd bm.list) : ∀ f b, 1 ≤ b → (∀ a, 1 ≤ a → a < b → (bm.list.getD a default).k = 2 → (a : Int) + (bm.list.getD a default).l ≤ (b : Int)) → soundN bm.list f b = 0
 | 0, _, _, _ => rfl
 | f + 1, b, hb, hr => by
  unfold soundN
  by_cases c : bm.list.length ≤ b
  ·rw [if_pos c]
  ·rw [if_neg c]
   have hbB : b < B := by rw [h.lenL] at c; omega
   have hri := of_decide_eq_true (h.right b hbB)
   unfold HdRight at hri
   by_cases h2 : (bm.list.getD b default).k = 2
   ·rw [if_pos h2]
    obtain ⟨g1, g2⟩ := h.large b hb hbB h2
    obtain ⟨l, hl⟩ := Int.eq_ofNat_of_zero_le (show 0 ≤ (bm.list.getD b default).l by omega)
    have hw : wholeN bm.list b = l := by
     refine wholeN_of (by omega) ?_ (by rw [h.lenL]; omega) (fun i i1 i2 => g2 i i1 (by omega))
     have h3 : (bm.list.getD b default).c = 0 := by omega
     generalize bm.list.getD b default = x at *
     obtain ⟨k, c, l'⟩ := x
     dsimp only at h2 h3 hl
     rw [h2, h3, hl]
    rw [hw, if_neg (by omega)]
    refine sound_to h hs f (b + l) (by omega) (fun a a1 a2 hk => ?_)
    by_cases c1 : a < b
    ·have := hr a a1 c1 hk; omega
    ·by_cases c2 : a = b
     ·subst c2; omega
     ·have := g2 (a - b) (by omega) (by omega)
      rw [show b + (a - b) = a by omega] at this
      rw [this] at hk
      exact absurd hk (by simp)
   ·rw [if_neg h2]
    by_cases h3 : (bm.list.getD b default).k = 3
    ·obtain ⟨a, a1, a2, a3, a4⟩ := hs b hb h3
     have := hr a a1 a2 a3
     omega
    ·rw [if_neg h3]
     refine sound_to h hs f (b + 1) (by omega) (fun a a1 a2 hk => ?_)
     by_cases c2 : a = b
     ·subst c2; exact absurd hk h2
     ·have := hr a a1 (by omega) hk; omega
theorem sound_open (h : BmOk B bm) (hs : Snd bm.list) : soundN (hds (devWord bm.dev) B) B 1 = 0 :=
 sound_to (bmOk_open h) (snd_open h hs) B 1 (Nat.le_refl _) (fun a a1 a2 _ => by omega)
structure Like1 (L L' : List Hd) : Prop where
 len : L'.length = L.length
 at_ : ∀ q, 1 ≤ q → L'.getD q default = L.getD q default
theorem Like1.cell {L L' : List Hd} (h : Like1 L L') (k x : Nat) : isCell L' k x ↔ isCell L k x := by
 unfold isCell
 rw [h.len]
 refine and_congr_right fun h1 => ?_
 rw [h.at_ _ (by omega)]
theorem Like1.cont {L L' : List Hd} (h : Like1 L L') {b : Nat} (hb : 1 ≤ b) : ∀ n, contTo L' b n = contTo L b n
 | 0 => rfl
 | n + 1 => by unfold contTo; rw [h.cont hb n, h.at_ _ (by omega)]
theorem Like1.whole {L L' : List Hd} (h : Like1 L L') {b : Nat} (hb : 1 ≤ b) : wholeN L' b = wholeN L b := by
 unfold wholeN
 rw [h.len, h.at_ _ hb, h.cont hb]
theorem Like1.placed {L L' : List Hd} (h : Like1 L L') (S : Dev) (x : Int) : placedN S L' x = placedN S L x := by
 unfold placedN
 rw [h.len]
 by_cases c : x < 512 ∨ 512 * (L.length : Int) ≤ x ∨ (headN S x).code ≠ 0
 ·rw [if_pos c, if_pos c]
 ·rw [if_neg c, if_neg c, h.whole (by omega)]
  simp only [h.cell]
theorem like_open (h : BmOk B bm) : Like1 bm.list (bmOf bm.dev B).list := ⟨by rw [h.lenL]; exact hds_length _ _, (bm_open h).2⟩
theorem empty_cnt (k x : Nat) : FL.empty.cnt k x = 0 := by unfold FL.cnt FL.empty; simp
theorem carveTo_cnt (h : BmOk B bm) (u : List Bool) : ∀ n, n < B → ∀ k x : Nat, (carveTo u bm.list n).cnt k x = if isCell bm.list k x ∧ u.getD x false = false ∧ x / 512 ≤ n then 1 else 0
 | 0, _, k, x => by
  rw [if_neg (by rintro ⟨hc, _, h1⟩; have := hc.1; omega)]
  exact empty_cnt _ _
 | n + 1, hn, k, x => by
  have ih := carveTo_cnt h u n (by omega)
  unfold carveTo
  have hg := hdGet_at h (a := n + 1) (by omega) hn
  by_cases c : (hdGet bm.list ((n + 1 : Nat) : Int)).k = 1
  ·rw [if_pos c]
   have hc := hd_cls h (by omega) hn c
   have hri := of_decide_eq_true (h.right (n + 1) hn)
   unfold HdRight at hri
   rw [hg] at c hc ⊢
   obtain ⟨cc, hcc⟩ := Int.eq_ofNat_of_zero_le hc.1
   rw [hcc] at hc ⊢
   rw [show ((cc : Nat) : Int).toNat = cc from rfl]
   have hk : cc < 32 := by omega
   have hL : bm.list.getD (n + 1) default = ⟨1, cc, 0⟩ := by
    have h3 : (bm.list.getD (n + 1) default).l = 0 := by omega
    generalize bm.list.getD (n + 1) default = y at *
    obtain ⟨k', c', l'⟩ := y
    dsimp only at c hcc h3
    rw [c, hcc, h3]
   have hio : ∀ x, isCell bm.list cc x ∧ x / 512 = n + 1 ↔ ∃ i, i < clsCells cc ∧ x = cellOf (n + 1) cc i := fun x => isCell_of hk (by omega) (by rw [h.lenL]; exact hn) hL
   rw [FL.carve_cnt (cellOf_inj hk) (fun i hi => by
    rw [ih, if_neg]
    rintro ⟨_, _, h3⟩
    have := (cellOf_at hk hi (b := n + 1)).1
    omega), ih]
   by_cases e : x / 512 = n + 1
   ·rw [if_neg (by rintro ⟨_, _, h3⟩; omega), Nat.zero_add]
    congr 1
    refine propext ⟨fun ⟨h1, h2, h3⟩ => ?_, fun ⟨h1, h2, _⟩ => ?_⟩
    ·subst h1
     exact ⟨((hio x).2 h3).1, h2, by omega⟩
    ·have h4 := h1.2.2.1
     rw [e, hL] at h4
     have h5 := congrArg Hd.c h4
     dsimp only at h5
     obtain rfl : k = cc := by omega
     exact ⟨rfl, h2, (hio x).1 ⟨h1, e⟩⟩
   ·rw [if_neg (c := k = cc ∧ _) (by rintro ⟨_, _, h3⟩; exact e ((hio x).2 h3).2), Nat.add_zero]
    congr 1
    refine propext ⟨fun ⟨h1, h2, h3⟩ => ⟨h1, h2, by omega⟩, fun ⟨h1, h2, h3⟩ => ⟨h1, h2, by omega⟩⟩
  ·rw [if_neg c, ih]
   congr 1
   refine propext ⟨fun ⟨h1, h2, h3⟩ => ⟨h1, h2, by omega⟩, fun ⟨h1, h2, h3⟩ => ⟨h1, h2, ?_⟩⟩
   have : x / 512 ≠ n + 1 := fun e => by
    have h4 := isCell_kind h1
    rw [e] at h4
    rw [hg] at c
    exact c h4
   omega
theorem alOk_new (h : AlOk B m) {u : List Bool} (hB : 1 ≤ B) (hu : u.length = 512 * B) (hsub : ∀ x, u.getD x false = true → m.used.getD x false = true) : AlOk B ⟨bmOf m.bm.dev B, u, carveTo u (bmOf m.bm.dev B).list (B - 1)⟩ := by
 have hb := bmOk_open h.bm
 refine ⟨hb, h.live, h.len, hu, fun x hx => ?_, fun k x hk => ?_⟩
 ·rw [show (bmOf m.bm.dev B).dev = m.bm.dev from rfl]
  dsimp only
  rw [(like_open h.bm).placed]
  exact h.placed x (hsub x hx)
 ·dsimp only
  rw [carveTo_cnt hb _ _ (by omega)]
  congr 1
  refine propext ⟨fun ⟨h1, h2, _⟩ => ⟨h1, h2⟩, fun ⟨h1, h2⟩ => ⟨h1, h2, ?_⟩⟩
  have := h1.2.1
  rw [hb.lenL] at this
  omega
def marksOf (u : List Bool) (xs : List Nat) : List Bool := xs.foldl (fun u x => u.set x true) u
theorem marksOf_len : ∀ (xs : List Nat) (u : List Bool), (marksOf u xs).length = u.length
 | [], _ => rfl
 | x :: xs, u => by
  show (marksOf (u.set x true) xs).length = _
  rw [marksOf_len, List.length_set]
theorem getD_set_on {l : List Bool} {a : Nat} (ha : a < l.length) (x : Nat) : (l.set a true).getD x false = if x = a then true else l.getD x false := by
 by_cases e : x = a
 ·subst e
  rw [if_pos rfl, List.getD_eq_getElem?_getD, List.getElem?_set_self ha]
  rfl
 ·rw [if_neg e, List.getD_eq_getElem?_getD, List.getElem?_set_ne (fun h => e h.symm), ← List.getD_eq_getElem?_getD]
theorem marksOf_at : ∀ (xs : List Nat) (u : List Bool), (∀ x ∈ xs, x < u.length) → ∀ y, (marksOf u xs).getD y false = (u.getD y false || decide (y ∈ xs))
 | [], u, _, y => by simp [marksOf]
 | x :: xs, u, h, y => by
  show (marksOf (u.set x true) xs).getD y false = _
  rw [marksOf_at xs _ (fun z hz => by rw [List.length_set]; exact h z (List.mem_cons_of_mem _ hz)), getD_set_on (h x List.mem_cons_self)]
  by_cases e : y = x
  ·rw [if_pos e]; simp [e]
  ·rw [if_neg e]; simp [e]
theorem newUsed_all {S : Dev} {L : List Hd} : ∀ (xs : List Nat) (u : List Bool), (∀ x ∈ xs, (placedN S L (x : Int)).isSome = true ∧ x < u.length ∧ u.getD x false = false) → xs.Nodup → ∀ ys, newUsed S L u (xs.map (fun x : Nat => (x : Int)) ++ ys) = newUsed S L (marksOf u xs) ys
 | [], u, _, _, ys => rfl
 | x :: xs, u, h, hn, ys => by
  obtain ⟨h1, h2, h3⟩ := h x List.mem_cons_self
  rw [List.map_cons, List.cons_append, newUsed_cons, if_neg (by rw [h1]; simp)]
  have hf : freshI u (x : Int) = true := by
   unfold freshI
   rw [hasI_nat, h3]
   simp [h2]
  rw [if_neg (by rw [hf]; simp), addI_new h2 h3]
  obtain ⟨n1, n2⟩ := List.nodup_cons.1 hn
  rw [newUsed_all xs _ (fun z hz => ?_) n2]
  ·rfl
  ·obtain ⟨g1, g2, g3⟩ := h z (List.mem_cons_of_mem _ hz)
   refine ⟨g1, by rw [List.length_set]; exact g2, ?_⟩
   rw [getD_set_on h2, if_neg (fun e => n1 (by rw [← e]; exact hz))]
   exact g3
theorem newUsed_twice {S : Dev} {L : List Hd} {u : List Bool} {x : Nat} (h1 : (placedN S L (x : Int)).isSome = true) (h2 : u.getD x false = true) : newUsed S L u [(x : Int)] = (u, 41) := by
 rw [newUsed_cons, if_neg (by rw [h1]; simp), if_pos]
 unfold freshI
 rw [hasI_nat, h2]
 simp
theorem newUsed_one {S : Dev} {L : List Hd} {n : Nat} (hn : n = 512 * L.length) (x : Int) : (newUsed S L (List.replicate n false) [x]).2 = if (placedN S L x).isSome then 0 else 22 := by
 rw [newUsed_cons]
 cases hp : placedN S L x with
 | none => rfl
 | some o =>
  obtain ⟨_, _, h1, h2⟩ := placed_head hp
  have hf : freshI (List.replicate n false) x = true := by
   obtain ⟨j, rfl⟩ := Int.eq_ofNat_of_zero_le (show 0 ≤ x by omega)
   unfold freshI
   rw [hasI_nat, List.length_replicate]
   have : (List.replicate n false).getD j false = false := by
    simp only [List.getD_eq_getElem?_getD, List.getElem?_replicate]; split <;> rfl
   rw [this]
   simp only [Bool.not_false, Bool.and_true, decide_eq_true_eq]
   omega
  rw [if_neg (by simp), if_neg (by rw [hf]; simp)]
  rfl
def keptTo (f : Nat → Bool) (L : List Ob) : Nat → List Ob
 | 0 => []
 | n + 1 => keptTo f L n ++ if f n then [L.getD n ⟨0, 0, 0⟩] else []
theorem keptTo_sub (f : Nat → Bool) (L : List Ob) : ∀ n, n ≤ L.length → (keptTo f L n).Sublist (L.take n)
 | 0, _ => List.Sublist.refl _
 | n + 1, h => by
  unfold keptTo
  have hn : n < L.length := by omega
  rw [List.take_add_one, List.getElem?_eq_getElem hn]
  refine (keptTo_sub f L n (by omega)).append ?_
  cases f n with
  | true =>
   rw [if_pos rfl, List.getD_eq_getElem?_getD, List.getElem?_eq_getElem hn]
   exact List.Sublist.refl _
  | false =>
   rw [if_neg (by simp)]
   exact List.nil_sublist _
theorem keptTo_len (f : Nat → Bool) (L : List Ob) : ∀ n, (keptTo f L n).length ≤ n
 | 0 => Nat.le_refl _
 | n + 1 => by
  unfold keptTo
  have := keptTo_len f L n
  rw [List.length_append]
  split <;> simp <;> omega
theorem obs_new {left : List Ob} (hl : left.Sublist (obsOf m)) {u : List Bool} (hu : ∀ x, u.getD x false = decide (x ∈ left.map Ob.a)) (f : FL) : obsOf ⟨bmOf m.bm.dev B, u, f⟩ = left := by
 refine obs_same (obsOf_pair _) ((obsOf_pair m).sublist hl) fun o => ?_
 rw [mem_obsOf]
 dsimp only
 rw [hu]
 have hob : ∀ a, obOf ⟨bmOf m.bm.dev B, u, f⟩ a = obOf m a := fun a => rfl
 rw [hob]
 constructor
 ·rintro ⟨h1, h2⟩
  have h3 := of_decide_eq_true h1
  obtain ⟨o', h4, h5⟩ := List.mem_map.1 h3
  have h6 := (mem_obsOf.1 (hl.subset h4)).2
  rw [h2, ← h5, ← h6]
  exact h4
 ·intro h1
  exact ⟨decide_eq_true (List.mem_map.2 ⟨o, h1, rfl⟩), (mem_obsOf.1 (hl.subset h1)).2⟩
theorem new_all (h : AlOk B m) (hB : 1 ≤ B) {left : List Ob} (hl : left.Sublist (obsOf m)) :
  newUsed m.bm.dev (bmOf m.bm.dev B).list (List.replicate m.bm.dev.cache.length false) (left.map (fun o => (o.a : Int))) = (marksOf (List.replicate m.bm.dev.cache.length false) (left.map Ob.a), 0) ∧
  AlOk B ⟨bmOf m.bm.dev B, marksOf (List.replicate m.bm.dev.cache.length false) (left.map Ob.a), carveTo (marksOf (List.replicate m.bm.dev.cache.length false) (left.map Ob.a)) (bmOf m.bm.dev B).list (B - 1)⟩ ∧
  (∀ f, obsOf ⟨bmOf m.bm.dev B, marksOf (List.replicate m.bm.dev.cache.length false) (left.map Ob.a), f⟩ = left) ∧
  (∀ o l, left = o :: l → (newUsed m.bm.dev (bmOf m.bm.dev B).list (List.replicate m.bm.dev.cache.length false) (left.map (fun o => (o.a : Int)) ++ [(o.a : Int)])).2 = 41) := by
 have hrep : ∀ x, (List.replicate m.bm.dev.cache.length false).getD x false = false := fun x => by
  simp only [List.getD_eq_getElem?_getD, List.getElem?_replicate]; split <;> rfl
 have hin : ∀ x ∈ left.map Ob.a, m.used.getD x false = true := fun x hx => by
  obtain ⟨o, h1, rfl⟩ := List.mem_map.1 hx
  exact (mem_obsOf.1 (hl.subset h1)).1
 have hlt : ∀ x ∈ left.map Ob.a, x < (List.replicate m.bm.dev.cache.length false).length := fun x hx => by
  rw [List.length_replicate, h.len]
  have := (h.used_kind (hin x hx)).2.1
  omega
 have hpl : ∀ x ∈ left.map Ob.a, (placedN m.bm.dev (bmOf m.bm.dev B).list (x : Int)).isSome = true := fun x hx => by
  rw [(like_open h.bm).placed]
  exact h.placed x (hin x hx)
 have hnd : (left.map Ob.a).Nodup := by
  have h1 := List.pairwise_map.2 ((obsOf_pair m).sublist hl)
  exact h1.imp (fun h => Nat.ne_of_lt h)
 have hmp : left.map (fun o => (o.a : Int)) = (left.map Ob.a).map (fun x : Nat => (x : Int)) := by rw [List.map_map]; rfl
 have hmk : ∀ x, (marksOf (List.replicate m.bm.dev.cache.length false) (left.map Ob.a)).getD x false = decide (x ∈ left.map Ob.a) := fun x => by
  rw [marksOf_at _ _ hlt, hrep, Bool.false_or]
 have hall := newUsed_all (S := m.bm.dev) (L := (bmOf m.bm.dev B).list) (left.map Ob.a) _ (fun x hx => ⟨hpl x hx, hlt x hx, hrep x⟩) hnd
 rw [hmp]
 refine ⟨?_, ?_, fun f => obs_new hl hmk f, fun o l e => ?_⟩
 ·have := hall []
  rw [List.append_nil] at this
  rw [this]
  rfl
 ·refine alOk_new h hB (by rw [marksOf_len, List.length_replicate, h.len]) (fun x hx => ?_)
  rw [hmk] at hx
  exact hin x (of_decide_eq_true hx)
 ·have hm : o.a ∈ left.map Ob.a := by rw [e]; simp
  rw [hall, newUsed_twice (hpl _ hm) (by rw [hmk]; exact decide_eq_true hm)]
end Go.Proofs.YtbimcogdbafjpaaGreat
namespace Go.Proofs.YtbimcogdbafjpaaGreat
open Go.RowKit
theorem i64_and3 (n : Int) : bits .and .i64 n 3 = n % 4 := by
 have h3 : (BitVec.ofInt 64 3).toNat = 2 ^ 2 - 1 := by decide
 have key : (BitVec.ofInt 64 n &&& BitVec.ofInt 64 3).toNat = (n % ((2 ^ 64 : Nat) : Int)).toNat % 2 ^ 2 := by
  rw [BitVec.toNat_and, BitVec.toNat_ofInt, h3, Nat.and_two_pow_sub_one_eq_mod]
 show IntKind.i64.wrap ((BitVec.ofInt 64 n &&& BitVec.ofInt 64 3).toNat : Nat) = n % 4
 rw [key, IntKind.wrap_i64]
 omega
theorem other_blk16 {w : World} {base e n size d t : Nat} {v : Value} {xs : List Value} {cs : Array Value} {fr : Nat × Nat} (ho : w.ownsRow base e size v n xs) (h : w.heap[d]? = some (.cells cs t fr)) (hne : t ≠ e) : some d ≠ v.ownBlock := by
 intro c
 rcases ho.2 with ⟨rfl, _⟩ | ⟨g, cap, cur, rfl, _, hg, _⟩
 ·simp [Value.ownBlock] at c
 ·simp [Value.ownBlock] at c
  subst c
  rw [hg] at h
  injection h with h
  injection h with h1 h2
  exact hne h2.symm
theorem owned_other16 {w w' : World} {base e size n base2 e2 size2 n2 : Nat} {v v2 : Value} {xs xs2 : List Value} (h : w.ownsRow base e size v n xs) (ho : w.ownsRow base2 e2 size2 v2 n2 xs2) (hg : w.grownBy w' v2.ownBlock) (hne : e ≠ e2) : w'.ownsRow base e size v n xs := by
 refine ⟨h.1, ?_⟩
 rcases h.2 with hn | ⟨g, cap, cur, rfl, h1, hg0, r⟩
 ·exact .inl hn
 ·exact .inr ⟨g, cap, cur, rfl, h1, by rw [hg.block g (Array.getElem?_eq_some_iff.1 hg0).1 (other_blk16 ho hg0 hne)]; exact hg0, r⟩
def OwnN (w : World) (base : Nat) (v : Value) (xs : List Nat) : Prop := w.ownsRow base 3 1 v xs.length (xs.map vi)
def keepF (xs : List Ob) (ks : List Bool) (i : Nat) : Bool := decide (rofN (objSize (xs.getD i ⟨0, 0, 0⟩).p (xs.getD i ⟨0, 0, 0⟩).d : Nat) < 0) || ks.getD i false
set_option maxHeartbeats 16000000 in
set_option maxRecDepth 100000 in
theorem allocOpens_any (a : Option Addr) (mm cap : Nat) (s : List Op16) (hm : s.length = mm) (w : World) (hcs : Cells w a (recs Op16.cs s)) (hmm : mm ≤ maxLen) (hin : ∀ o ∈ s, In64 o.p)
  (ka : Option Addr) (kl kc : Nat) (ks : List Bool) (hkl : ks.length = kl) (hks : Cells w ka (ks.map Value.bool)) (hkm : kl ≤ maxLen) (t0 odd : Int) (ho : In64 odd) :
  Calls Tryz.prog 3 #[.slice a mm cap, .slice ka kl kc, .agg #[.int .i64 t0, .int .i64 odd]] w (Gives (.bool true) w) := by
 have HP : Hid (∀ w', Below w.heap.size w w' → Gives (.bool true) w (.returned (.bool true)) w') := LH (fun w' h => ⟨rfl, h⟩)
 generalize Gives (.bool true) w = Post at *
 have HS := LH hm
 have HC := LH hcs
 have HIn := LH hin
 have HKl := LH hkl
 have HKs := LH hks
 have HOdd := LH ho
 unfold maxLen at hmm hkm
 clear hm hcs hin hkl hks
 obtain ⟨b0, hb0, hb05⟩ : ∃ b0 : Nat, bits .and .i64 t0 3 = (b0 : Int) ∧ b0 ≤ 3 := by
  rw [i64_and3]
  exact ⟨(t0 % 4).toNat, by omega, by omega⟩
 obtain ⟨B, hB⟩ : ∃ B, B = 2 + b0 := ⟨_, rfl⟩
 have hB2 : 2 ≤ B := by omega
 have hB16 : B ≤ 5 := by omega
 have hBI : (2 : Int) + (b0 : Int) = (B : Int) := by omega
 clear hB
 have HM := LH (Mem.one w #[.int .i64 t0, .int .i64 odd] 24)
 go_enter Tryz.func3, Tryz.ntmps3
 go_upto_region 1 with fail
 obtain ⟨q, hq⟩ : ∃ q, q = w.heap.size := ⟨_, rfl⟩
 rw [← hq] at HM ⊢
 have HQ := LH hq
 generalize w.alloc _ = w0 at *
 clear hq
 go_wp2_with fail
 refine (awake16_any _).mono ?_
 rintro e w1 ⟨rfl, hb1⟩
 have HM1 := LH (HM.out.later hb1)
 clear hb1 HM
 have d0 := HM1.out.cell 0 0 rfl rfl
 have d1 := HM1.out.cell 0 1 rfl rfl
 go_wp2_with fail
 refine (begun16_any B hB2 (by omega) _).mono ?_
 rintro e w2 ⟨A, n, rfl, ha, hn, hA, hb⟩
 have HA2 := LH ha
 have HN := LH hn
 have HB1 := LH HM1.out.below
 have HB2 : Hid (Below w.heap.size w w2) := LH (HB1.out.trans (hb.mono HB1.out.size))
 have HG : Hid (∀ k ∈ A.list, w.heap.size ≤ k) := LH (fun k hk => Nat.le_trans HB1.out.size (hA k hk))
 clear ha hn hA hb HB1 hb0 hb05 hBI d0 d1 HM1 HQ
 go_upto_block 0 with fail
 go_cut [11] (fun v wc => ∃ (R : List Nat) (m : Al) (la : Option Addr) (lk lc : Nat), v = .slice la lk lc ∧ Hid (AlAt wc (A.re R) (n + 180) B m) ∧ Hid (AlOk B m) ∧ Hid (ObAt wc (A.re R) (.slice la lk lc) (obsOf m)) ∧ Hid (Below w.heap.size w wc) ∧ Hid (∀ b ∈ R, w.heap.size ≤ b) ∧ Hid (Snd m.bm.list))
 case first =>
  go_wp2_with fail
  go_loopw [11, 12] (fun v i wr => ∃ (k : Nat) (R : List Nat) (m : Al) (la : Option Addr) (lk lc : Nat), k ≤ mm ∧ k ≤ 30 ∧ i = .int .i64 (k : Int) ∧ v = .slice la lk lc ∧ Hid (AlAt wr (A.re R) (n + 6 * k) B m) ∧ Hid (AlOk B m) ∧ Hid (m.bm.dev.ok (201000 + 600000 * k)) ∧ Hid (ObAt wr (A.re R) (.slice la lk lc) (obsOf m)) ∧ Hid (Below w.heap.size w wr) ∧ Hid (∀ b ∈ R, w.heap.size ≤ b) ∧ Hid (Snd m.bm.list)) (fun _ i _ => 30 - (intOf i).toNat)
  case atStart =>
   refine ⟨0, A.R, al0 B, none, 0, 0, Nat.zero_le _, Nat.zero_le _, rfl, rfl, HA2, LH (al0_ok hB2 (by omega)), LH (dev0_ok hB2 (by omega)), LH ?_, HB2, LH (fun b hb => HG.out b ?_), LH (snd_al0 hB2 (by omega))⟩
   ·rw [obsOf_al0]
    exact ⟨none, 0, 0, rfl, rfl, Nat.le_refl _, Cells.nil _ _, fun p h => by cases h⟩
   ·unfold AF.list
    exact List.mem_append_right _ hb
  case round =>
   clear HA2 HB2
   obtain ⟨k, R, m, la, lk, lc, hkm', hk40, rfl, rfl, HAr, HOk, HDk, HOb, HBr, HR, HSn⟩ := hrel
   have hN := HN.out
   by_cases hlt : k < mm ∧ k < 30
   ·obtain ⟨h1, h2⟩ := hlt
    have h1' : (k : Int) < (mm : Int) := by omega
    have h2' : (k : Int) < 30 := by omega
    have hkl : k < s.length := by rw [HS.out]; exact h1
    obtain ⟨b1, o1, rfl, hbl, hcell⟩ := recs_cells Op16.len (by decide) (⟨0, 0, 0, 0⟩ : Op16) (HC.out.below HBr.out (Nat.le_refl _)) hkl
    have hmem : s.getD k ⟨0, 0, 0, 0⟩ ∈ s := by rw [List.getD_eq_getElem?_getD, List.getElem?_eq_getElem hkl]; exact List.getElem_mem hkl
    have HI := LH (HIn.out _ hmem)
    clear hmem
    generalize s.getD k ⟨0, 0, 0, 0⟩ = o at *
    obtain ⟨ok, om, op, od⟩ := o
    have HCe := LH hcell
    unfold Op16.cs at HCe
    dsimp only at HCe HI
    have HDo := LH (do16_any HAr.out HOk.out hB2 (by omega) (by omega) (by omega) HDk.out HOb.out HSn.out ok om op od HI.out)
    clear hcell hkl hbl HI HOb
    go_wp2_with (refine wpList_load_part aggOp16 [.int .i64 ok, .int .i64 om, .int .i64 op, .int .i64 od] HCe.out rfl rfl rfl rfl ?_)
    refine HDo.out.mono ?_
    rintro e w7 ⟨m', v', R', rfl, ha, ht, hr, hok, hdk, hob, hsn⟩
    obtain ⟨a', k', c', rfl, e1, e2, e3, e4⟩ := hob
    have HA7 : Hid (AlAt w7 (A.re R') (n + 6 * (k + 1)) B m') := LH (by rw [AF.re_re] at ha; exact ha.mono (by omega))
    have HOk7 := LH hok
    have HSn7 := LH hsn
    have HDk7 : Hid (m'.bm.dev.ok (201000 + 600000 * (k + 1))) := LH (hdk.mono (by omega))
    have HOb7 : Hid (ObAt w7 (A.re R') (.slice a' k' c') (obsOf m')) := LH ⟨a', k', c', rfl, e1, e2, e3, e4⟩
    have HR7 : Hid (∀ b ∈ R', w.heap.size ≤ b) := LH (fun b hb => (hr b hb).elim (fun c => HR.out b c) (fun c => Nat.le_trans HBr.out.size c))
    have HB7 : Hid (Below w.heap.size w w7) := LH (HBr.out.trans (ht.below HBr.out.size (fun b hb => by
     rcases AF.re_list (AF.hot_list hb) with c | c
     ·exact HG.out b c
     ·exact HR.out b c)))
    clear ha ht hr hok hdk hsn HSn e1 e2 e3 e4 HDo HAr HOk HDk HBr HR HCe
    go_wp2_with fail
    refine ⟨⟨k + 1, R', m', a', k', c', by omega, by omega, vint (by omega), rfl, HA7, HOk7, HDk7, HOb7, HB7, HR7, HSn7⟩, ?_⟩
    simp [intOf]; omega
   ·have hor : (k : Int) = (mm : Int) ∨ ((k : Int) < (mm : Int) ∧ (k : Int) = 30) := by omega
    have HEnd : Hid (∃ (R : List Nat) (m : Al) (la' : Option Addr) (lk' lc' : Nat), Value.slice la lk lc = .slice la' lk' lc' ∧ Hid (AlAt wr (A.re R) (n + 180) B m) ∧ Hid (AlOk B m) ∧ Hid (ObAt wr (A.re R) (.slice la' lk' lc') (obsOf m)) ∧ Hid (Below w.heap.size w wr) ∧ Hid (∀ b ∈ R, w.heap.size ≤ b) ∧ Hid (Snd m.bm.list)) :=
     LH ⟨R, m, la, lk, lc, rfl, LH (HAr.out.mono (by omega)), HOk, HOb, HBr, HR, HSn⟩
    clear hlt HAr HOk HDk HOb HBr HR HSn
    rcases hor with h1 | ⟨h1, h2⟩
    ·obtain rfl : k = mm := by omega
     have hlt' : decide ((k : Int) < (k : Int)) = false := by simp
     clear h1
     go_wp2_with fail
     go_meet
     exact HEnd.out
    ·obtain rfl : k = 30 := by omega
     clear h2
     go_wp2_with fail
     go_meet
     exact HEnd.out
 case rest =>
  clear HA2 HB2
  obtain ⟨R, m, la, lk, lc, rfl, HAc, HOk, HOb, HBc, HR, HSn⟩ := hcut
  generalize wc = wx at *
  obtain ⟨X, hX⟩ : ∃ X, X = obsOf m := ⟨_, rfl⟩
  have HXe := LH hX
  obtain ⟨la', lk', lc', he, hl1, hl2, hl3, _⟩ := HOb.out
  injection he with he1 he2 he3
  subst he1 he2 he3
  rw [← hX] at hl1 hl3
  have HXl := LH hl1
  have HXc := LH hl3
  have hk9 : lk ≤ 2560 := by
   rw [← hl1, hX]
   unfold obsOf
   rw [List.length_map, onesL_length]
   have := count_le_len m.used
   rw [HOk.out.lenU] at this
   omega
  obtain ⟨F, hF⟩ : ∃ F, F = keepF X ks := ⟨_, rfl⟩
  have HFe := LH hF
  clear hX hl1 hl2 hl3 hF HOb
  obtain ⟨L, hL⟩ : ∃ L, L = keptTo F X lk := ⟨_, rfl⟩
  have HLe := LH hL
  have hLs : L.Sublist (obsOf m) := by
   rw [hL]
   have h1 := keptTo_sub F X lk (by rw [HXl.out]; exact Nat.le_refl _)
   rw [List.take_of_length_le (by rw [HXl.out]; exact Nat.le_refl _)] at h1
   rw [← HXe.out]
   exact h1
  have HLs := LH hLs
  have hl9 : L.length ≤ 2560 := by
   rw [hL]
   have := keptTo_len F X lk
   omega
  obtain ⟨l, hl⟩ : ∃ l, l = L.length := ⟨_, rfl⟩
  have HLl := LH hl
  rw [← hl] at hl9
  clear hL hLs hl
  go_upto_block 2 with fail
  go_cut [15, 16] (fun lv uv wc => ∃ (a1 : Option Addr) (c1 : Nat) (a2 : Option Addr) (c2 : Nat), lv = .slice a1 l c1 ∧ uv = .slice a2 l c2 ∧ c2 ≤ maxLen ∧ Hid (Cells wc a1 (recs Ob.cs L)) ∧ Hid (OwnN wc wx.heap.size (.slice a2 l c2) (L.map Ob.a)) ∧ Hid (Below wx.heap.size wx wc))
  case first =>
   go_wp2_with fail
   go_loopw [15, 16, 17] (fun lv uv iv wr => ∃ k : Nat, k ≤ lk ∧ iv = .int .i64 (k : Int) ∧ Hid (OwnOb wr wx.heap.size lv (keptTo F X k)) ∧ Hid (OwnN wr wx.heap.size uv ((keptTo F X k).map Ob.a)) ∧ Hid (Below wx.heap.size wx wr)) (fun _ _ iv _ => lk - (intOf iv).toNat)
   case atStart => exact ⟨0, by omega, rfl, LH ⟨rfl, .inl ⟨rfl, rfl⟩⟩, LH ⟨rfl, .inl ⟨rfl, rfl⟩⟩, LH (Below.refl _ _)⟩
   case round =>
    obtain ⟨k, hk, rfl, HO, HU, HBw⟩ := hrel
    by_cases hlt : k < lk
    case neg =>
     obtain rfl : k = lk := by omega
     have hni : ¬ (k : Int) < (k : Int) := by omega
     obtain ⟨a1, c1, rfl, _, _⟩ := owned_form HO.out
     have h2 := HU.out
     unfold OwnN at h2
     rw [List.length_map] at h2
     obtain ⟨a2, c2, rfl, _, hc2⟩ := owned_form h2
     have HEnd : Hid (∃ (a1' : Option Addr) (c1' : Nat) (a2' : Option Addr) (c2' : Nat), Value.slice a1 (keptTo F X k).length c1 = .slice a1' l c1' ∧ Value.slice a2 (keptTo F X k).length c2 = .slice a2' l c2' ∧ c2' ≤ maxLen ∧ Hid (Cells wr a1' (recs Ob.cs L)) ∧ Hid (OwnN wr wx.heap.size (.slice a2' l c2') (L.map Ob.a)) ∧ Hid (Below wx.heap.size wx wr)) :=
      LH ⟨a1, c1, a2, c2, by rw [HLl.out, HLe.out], by rw [HLl.out, HLe.out], hc2, LH (by rw [HLe.out]; exact Cells.owned3 HO.out), LH (by have h3 := HU.out; rw [HLl.out, HLe.out]; exact h3), HBw⟩
     clear HO HU HBw h2 hc2
     generalize (keptTo F X k).length = l' at *
     go_wp2_with fail
     go_meet
     exact HEnd.out
    have hltI : (k : Int) < (lk : Int) := by omega
    obtain ⟨o, ho⟩ : ∃ o, X[k]? = some o := ⟨_, List.getElem?_eq_getElem (by rw [HXl.out]; exact hlt)⟩
    have hog : X.getD k ⟨0, 0, 0⟩ = o := by rw [List.getD_eq_getElem?_getD, ho]; rfl
    have HKp : Hid (keptTo F X (k + 1) = keptTo F X k ++ if F k = true then [o] else []) := LH (by rw [← hog]; rfl)
    have HFk : Hid (F k = (decide (rofN (objSize o.p o.d : Nat) < 0) || ks.getD k false)) := LH (by rw [HFe.out, ← hog]; rfl)
    obtain ⟨b, off, rfl, _⟩ := ob_cells (HXc.out.below HBw.out (Nat.le_refl _)) ho
    have HCx : Hid (∀ w', Below wx.heap.size wx w' → ∀ j v, (Ob.cs o)[j]? = some v → w'.cell? ⟨b, off + k * 3 + j, none⟩ = some v) := LH (fun w' hb' j v hj => by
     obtain ⟨b', off', e1, e2, e3, e4⟩ := ob_cells (HXc.out.below hb' (Nat.le_refl _)) ho
     injection e1 with e1
     injection e1 with e1 e5 _
     subst e1 e5
     rcases j with _ | _ | _ | j
     ·cases hj; exact e2
     ·cases hj; exact e3
     ·cases hj; exact e4
     ·simp [Ob.cs] at hj)
    clear hog ho
    obtain ⟨oa, op, od⟩ := o
    unfold Ob.cs at HCx
    dsimp only at HFk HCx
    have HCo2 : Hid (∀ j v, ([.int .i64 op, .int .i64 od] : List Value)[j]? = some v → wr.cell? ⟨b, off + k * 3 + 1 + j, none⟩ = some v) := LH (fun j v hj => by
     have := HCx.out wr HBw.out (1 + j) v (by rw [Nat.add_comm]; exact hj)
     rw [← Nat.add_assoc] at this
     exact this)
    have HCl := LH (fun w' => rclass_any op od w')
    have hone : Hid (∀ u ∈ (#[.int .i64 (oa : Int), .int .i64 op, .int .i64 od] : Array Value).toList, u.oneCell' = true) := LH (by intro u hu; simp at hu; rcases hu with rfl | rfl | rfl <;> rfl)
    generalize rofN (objSize op od : Nat) = cl at *
    go_wp2_with (refine wpList_load_part aggRo [.int .i64 op, .int .i64 od] HCo2.out rfl rfl rfl rfl ?_)
    refine (HCl.out _).mono ?_
    rintro e w5 ⟨rfl, hb5⟩
    have HB5 := LH hb5
    have HCo5 := LH (HCx.out w5 (HBw.out.trans (hb5.mono HBw.out.size)))
    clear hb5 HCo2
    by_cases hc : cl < 0
    ·have HFv : Hid (F k = true) := LH (by rw [HFk.out]; simp [hc])
     clear HFk
     have HNx : Hid (keptTo F X (k + 1) = keptTo F X k ++ [⟨oa, op, od⟩]) := LH (by rw [HKp.out, HFv.out, if_pos rfl])
     obtain ⟨K, hK⟩ : ∃ K, K = keptTo F X k := ⟨_, rfl⟩
     rw [← hK] at HO HU HNx
     have HKl : Hid (K.length < 1000000000000) := LH (by
      have h1 := keptTo_len F X k
      rw [hK]; omega)
     have HOu : Hid (w5.ownsRow wx.heap.size 40 3 _ K.length (recs Ob.cs K)) := LH (owned_below HO.out HB5.out (Nat.le_refl _))
     have HUu : Hid (w5.ownsRow wx.heap.size 3 1 _ K.length ((K.map Ob.a).map vi)) := LH (by have h1 := HU.out; unfold OwnN at h1; rw [List.length_map] at h1; exact owned_below h1 HB5.out (Nat.le_refl _))
     have HBs : Hid (wx.heap.size ≤ w5.heap.size) := LH (Nat.le_trans HBw.out.size HB5.out.size)
     have HW5 : Hid (Below wx.heap.size wx w5) := LH (HBw.out.trans (HB5.out.mono HBw.out.size))
     clear hK HO HU HFv HKp HCl
     go_upto_region 21 with fail
     go_upto_region 22 with (first
      | (refine wpList_load_part aggOb3 [.int .i64 (oa : Int), .int .i64 op, .int .i64 od] HCo5.out rfl rfl rfl rfl ?_)
      | (at_builtin; refine wpList_append_new (us := #[.int .i64 (oa : Int), .int .i64 op, .int .i64 od]) elOb HOu.out rfl hone.out HKl.out (by decide) HBs.out rfl rfl rfl (by simp [Act.eval]) ?_; intro g6 c6 w6 ho6 hg6 hc6 hm6 hb6 hl6; have HO6 := LH ho6; have HG6 := LH hg6; clear ho6 hg6 hc6 hm6 hb6 hl6))
     have HW6 : Hid (Below wx.heap.size wx w6) := LH (below_grownBy HW5.out HOu.out HG6.out (Nat.le_refl _) (Nat.le_refl _))
     have HU6 := LH (owned_other16 HUu.out HOu.out HG6.out (by decide))
     have HBs6 : Hid (wx.heap.size ≤ w6.heap.size) := LH HW6.out.size
     have d0 : w6.cell? ⟨b, off + k * 3, none⟩ = some (.int .i64 (oa : Int)) := HCx.out _ HW6.out 0 _ rfl
     clear HCo5 HG6 HOu HUu HW5 HBs
     go_wp2_with (at_builtin; refine wpList_append_one elInt HU6.out rfl HKl.out (by decide) HBs6.out rfl rfl rfl (by simp [Act.eval]) ?_; intro v8 w8 hu8 hg8 hn8; have HU8 := LH hu8; have HG8 := LH hg8; clear hu8 hg8 hn8)
     go_roundw
     case rel =>
      refine ⟨k + 1, by omega, vint (by omega), LH ?_, LH ?_, LH (below_grownBy HW6.out HU6.out HG8.out (Nat.le_refl _) (Nat.le_refl _))⟩
      ·rw [HNx.out]
       unfold OwnOb
       rw [List.length_append, recs_append]
       exact owned_other16 HO6.out HU6.out HG8.out (by decide)
      ·rw [HNx.out]
       unfold OwnN
       rw [List.length_map, List.length_append, List.map_append, List.map_append]
       exact HU8.out
     case measure => simp [intOf]; omega
    ·have hcf : decide (cl < 0) = false := by simpa using hc
     by_cases hkk : k < kl
     ·have hkkI : (k : Int) < (kl : Int) := by omega
      obtain ⟨kb, ko, rfl, hkb, hkc⟩ := (HKs.out.below (HBc.out.trans ((HBw.out.trans (HB5.out.mono HBw.out.size)).mono HBc.out.size)) (Nat.le_refl _)).atMap false (i := k) (by rw [HKl.out]; exact hkk)
      have f0 := hkc k (by rw [HKl.out]; exact hkk)
      clear hkc hkb
      have HFk2 : Hid (F k = ks.getD k false) := LH (by rw [HFk.out, hcf, Bool.false_or])
      clear HFk
      generalize ks.getD k false = kv at *
      cases kv with
      | true =>
       have HFv : Hid (F k = true) := HFk2
       clear HFk2
       have HNx : Hid (keptTo F X (k + 1) = keptTo F X k ++ [⟨oa, op, od⟩]) := LH (by rw [HKp.out, HFv.out, if_pos rfl])
       obtain ⟨K, hK⟩ : ∃ K, K = keptTo F X k := ⟨_, rfl⟩
       rw [← hK] at HO HU HNx
       have HKl : Hid (K.length < 1000000000000) := LH (by
        have h1 := keptTo_len F X k
        rw [hK]; omega)
       have HOu : Hid (w5.ownsRow wx.heap.size 40 3 _ K.length (recs Ob.cs K)) := LH (owned_below HO.out HB5.out (Nat.le_refl _))
       have HUu : Hid (w5.ownsRow wx.heap.size 3 1 _ K.length ((K.map Ob.a).map vi)) := LH (by have h1 := HU.out; unfold OwnN at h1; rw [List.length_map] at h1; exact owned_below h1 HB5.out (Nat.le_refl _))
       have HBs : Hid (wx.heap.size ≤ w5.heap.size) := LH (Nat.le_trans HBw.out.size HB5.out.size)
       have HW5 : Hid (Below wx.heap.size wx w5) := LH (HBw.out.trans (HB5.out.mono HBw.out.size))
       clear hK HO HU HFv HKp HCl
       go_upto_region 21 with fail
       go_upto_region 22 with (first
        | (refine wpList_load_part aggOb3 [.int .i64 (oa : Int), .int .i64 op, .int .i64 od] HCo5.out rfl rfl rfl rfl ?_)
        | (at_builtin; refine wpList_append_new (us := #[.int .i64 (oa : Int), .int .i64 op, .int .i64 od]) elOb HOu.out rfl hone.out HKl.out (by decide) HBs.out rfl rfl rfl (by simp [Act.eval]) ?_; intro g6 c6 w6 ho6 hg6 hc6 hm6 hb6 hl6; have HO6 := LH ho6; have HG6 := LH hg6; clear ho6 hg6 hc6 hm6 hb6 hl6))
       have HW6 : Hid (Below wx.heap.size wx w6) := LH (below_grownBy HW5.out HOu.out HG6.out (Nat.le_refl _) (Nat.le_refl _))
       have HU6 := LH (owned_other16 HUu.out HOu.out HG6.out (by decide))
       have HBs6 : Hid (wx.heap.size ≤ w6.heap.size) := LH HW6.out.size
       have d0 : w6.cell? ⟨b, off + k * 3, none⟩ = some (.int .i64 (oa : Int)) := HCx.out _ HW6.out 0 _ rfl
       clear HCo5 HG6 HOu HUu HW5 HBs
       go_wp2_with (at_builtin; refine wpList_append_one elInt HU6.out rfl HKl.out (by decide) HBs6.out rfl rfl rfl (by simp [Act.eval]) ?_; intro v8 w8 hu8 hg8 hn8; have HU8 := LH hu8; have HG8 := LH hg8; clear hu8 hg8 hn8)
       go_roundw
       case rel =>
        refine ⟨k + 1, by omega, vint (by omega), LH ?_, LH ?_, LH (below_grownBy HW6.out HU6.out HG8.out (Nat.le_refl _) (Nat.le_refl _))⟩
        ·rw [HNx.out]
         unfold OwnOb
         rw [List.length_append, recs_append]
         exact owned_other16 HO6.out HU6.out HG8.out (by decide)
        ·rw [HNx.out]
         unfold OwnN
         rw [List.length_map, List.length_append, List.map_append, List.map_append]
         exact HU8.out
       case measure => simp [intOf]; omega
      | false =>
       have HFv : Hid (F k = false) := HFk2
       clear HFk2
       have HNx : Hid (keptTo F X (k + 1) = keptTo F X k) := LH (by rw [HKp.out, HFv.out, if_neg (by simp), List.append_nil])
       have HO5 := LH (owned_below HO.out HB5.out (Nat.le_refl _))
       have HU5 := LH (owned_below HU.out HB5.out (Nat.le_refl _))
       have HW5 : Hid (Below wx.heap.size wx w5) := LH (HBw.out.trans (HB5.out.mono HBw.out.size))
       clear HO HU HFv HKp HCl HCo5
       go_wp2_with fail
       go_roundw
       case rel => exact ⟨k + 1, by omega, vint (by omega), LH (by rw [HNx.out]; exact HO5.out), LH (by rw [HNx.out]; exact HU5.out), HW5⟩
       case measure => simp [intOf]; omega
     ·have hkkf : decide ((k : Int) < (kl : Int)) = false := by simp; omega
      have HFv : Hid (F k = false) := LH (by
       rw [HFk.out, hcf, Bool.false_or, List.getD_eq_getElem?_getD, List.getElem?_eq_none (by rw [HKl.out]; omega)]; rfl)
      clear HFk
      have HNx : Hid (keptTo F X (k + 1) = keptTo F X k) := LH (by rw [HKp.out, HFv.out, if_neg (by simp), List.append_nil])
      have HO5 := LH (owned_below HO.out HB5.out (Nat.le_refl _))
      have HU5 := LH (owned_below HU.out HB5.out (Nat.le_refl _))
      have HW5 : Hid (Below wx.heap.size wx w5) := LH (HBw.out.trans (HB5.out.mono HBw.out.size))
      clear HO HU HFv HKp HCl HCo5
      go_wp2_with fail
      go_roundw
      case rel => exact ⟨k + 1, by omega, vint (by omega), LH (by rw [HNx.out]; exact HO5.out), LH (by rw [HNx.out]; exact HU5.out), HW5⟩
      case measure => simp [intOf]; omega
  case rest =>
   obtain ⟨a1, c1, a2, c2, rfl, rfl, hc2, HC1, HU2, HBd⟩ := hcut
   clear HXc HXl HXe HFe HKs HKl HLe
   have HAd := LH (HAc.out.below HBd.out)
   have HAx := HAc
   clear HAc
   have cA := HAd.out.c0
   change wc.cell? ⟨A.a, 0, none⟩ = some (.pointer (some ⟨A.X.m, 0, none⟩)) at cA
   have HWd : Hid (Below w.heap.size w wc) := LH (HBc.out.trans (HBd.out.mono HBc.out.size))
   go_wp2_with fail
   refine (bgeom_any HAd.out.man).mono ?_
   rintro e w3 ⟨rfl, hb3⟩
   have hb3s : Hid (wc.heap.size ≤ w3.heap.size) := LH hb3.size
   have HA3 := LH (HAd.out.below hb3)
   have HB3 : Hid (Below wc.heap.size wc w3) := LH hb3
   have HDl : Hid (m.bm.dev.cache.length = 512 * B) := LH HOk.out.len
   have HBO := LH (bopen_any (F := A.X.F) HA3.out.man.dev B (by omega) (by omega))
   have HSo := LH (sound_open HOk.out.bm HSn.out)
   have HAo := LH (bm_open HOk.out.bm).1
   clear hb3 HAd cA
   go_wp2_with fail
   refine HBO.out.mono ?_
   rintro e w4 ⟨hb4, ⟨_, _, X2, n2, rfl, hXF, hman, hn2, hX2⟩ | ⟨_, hbad, rfl⟩ | ⟨hbad, rfl⟩⟩
   rotate_left
   ·exact absurd HSo.out hbad
   ·exact absurd HAo.out hbad
   have HB4 : Hid (Below wc.heap.size wc w4) := LH (HB3.out.trans (hb4.mono HB3.out.size))
   have HA4 := LH (HA3.out.below hb4)
   have HMan4 := LH hman
   have HX2 : Hid (∀ k, k ∈ X2.list → k ∈ A.X.F.list ∨ wc.heap.size ≤ k) := LH (fun k hk => (hX2 k hk).imp id (fun c => Nat.le_trans hb3s.out c))
   have HNw : Hid (∀ w', ManAt w' X2 n2 B (bmOf m.bm.dev B) → ∀ (ua : Option Addr) (ul uc : Nat) (xs : List Int), xs.length = ul → Cells w' ua (xs.map (Value.int .i64)) → ul ≤ 1000000 →
     Calls Tryz.prog 18 #[vdev A.X.F, .pointer (some ⟨X2.m, 0, none⟩), .slice ua ul uc] w' (NewPost w' X2 n2 B (bmOf m.bm.dev B) xs)) := LH (fun w' hb ua ul uc xs h1 h2 h3 => by
    have := anew_any hb (bmOk_open HOk.out.bm) (by omega) (by omega) HDl.out ua ul uc xs h1 h2 h3
    rw [hXF] at this
    exact this)
   obtain ⟨h1, h2, h3, h4⟩ := new_all HOk.out (by omega) HLs.out
   have HN1 := LH h1
   have HN4 := LH h4
   obtain ⟨m3, hm3⟩ : ∃ m3 : Al, m3 = ⟨bmOf m.bm.dev B, marksOf (List.replicate m.bm.dev.cache.length false) (L.map Ob.a), carveTo (marksOf (List.replicate m.bm.dev.cache.length false) (L.map Ob.a)) (bmOf m.bm.dev B).list (B - 1)⟩ := ⟨_, rfl⟩
   have HM3 := LH hm3
   have HOk3 : Hid (AlOk B m3) := LH (by rw [hm3]; exact h2)
   have HOb3 : Hid (obsOf m3 = L) := LH (by rw [hm3]; exact h3 _)
   have HCu2 := LH (owned_below HU2.out HB4.out (Nat.le_refl _))
   have HC12 := LH (HC1.out.below HB4.out (Nat.le_refl _))
   have HMpe : Hid ((L.map Ob.a).map vi = (L.map (fun o => (o.a : Int))).map (Value.int .i64)) := LH (by rw [List.map_map, List.map_map]; rfl)
   have HNew1 := LH (HNw.out w4 hman a2 l c2 (L.map (fun o => (o.a : Int))) (by rw [List.length_map, HLl.out]) (by rw [← HMpe.out]; exact Cells.owned3 HCu2.out) (by omega))
   clear h1 h2 h3 h4 hm3 hb4 hXF hman hn2 hX2 hb3s HBO HSo HAo HA3 HB3
   go_wp2_with fail
   refine HNew1.out.mono ?_
   rintro e w5 ⟨hb5, ⟨_, A3, rfl, hAX, hA3, _⟩ | ⟨hbad, rfl⟩⟩
   rotate_left
   ·rw [show (bmOf m.bm.dev B).dev = m.bm.dev from rfl, HN1.out] at hbad
    exact absurd rfl hbad
   have HA5 : Hid (AlAt w5 A3 n2 B m3) := LH (by
    rw [show (bmOf m.bm.dev B).dev = m.bm.dev from rfl, HN1.out] at hA3
    rw [HM3.out]
    exact hA3)
   have HB5 : Hid (Below wc.heap.size wc w5) := LH (HB4.out.trans (hb5.mono HB4.out.size))
   have HW5 : Hid (Below w4.heap.size w4 w5) := LH hb5
   have HSh := LH (shows16_any HA5.out HOk3.out hB2 (by omega) a1 l c1 (by rw [HOb3.out, HLl.out]) (by rw [HOb3.out]; exact HC12.out.below hb5 (Nat.le_refl _)))
   clear hA3 hb5 HNew1 hAX
   go_wp2_with fail
   refine HSh.out.mono ?_
   rintro e w6 ⟨rfl, hb6⟩
   have HB6 : Hid (Below wc.heap.size wc w6) := LH (HB5.out.trans (hb6.mono HB5.out.size))
   have HW6 : Hid (Below w4.heap.size w4 w6) := LH (HW5.out.trans (hb6.mono HW5.out.size))
   clear hb6 HSh HA5 HW5 HB5
   have HAl : Hid (∀ k ∈ (A.re R).list, k < wx.heap.size) := LH (by have := HAx.out.mem; exact this)
   have HOff : Hid (∀ k, k ∈ (A.re R).list ∨ k ∈ X2.list → some k ≠ (Value.slice a2 l c2).ownBlock) := LH (fun k hk e => by
    have h1 := HU2.out.lt k e.symm
    have hF : k ∈ A.X.F.list → k ∈ (A.re R).list := fun c => by
     have : k ∈ A.X.list := by simp only [MF.list, List.mem_cons]; simp [c]
     simp [AF.list, AF.fix, AF.re, this]
    rcases hk with c | c
    ·have := HAl.out k c; omega
    ·rcases HX2.out k c with c | c
     ·have := HAl.out k (hF c); omega
     ·omega)
   have HAn6 : Hid (AlAt w6 (A.re R) (n + 180) B m) := LH (HA4.out.below HW6.out)
   have HMa6 : Hid (ManAt w6 X2 n2 B (bmOf m.bm.dev B)) := LH (HMan4.out.below HW6.out)
   have HWW6 : Hid (Below w.heap.size w w6) := LH (HWd.out.trans (HB6.out.mono HWd.out.size))
   have HUu6 : Hid (w6.ownsRow wx.heap.size 3 1 (.slice a2 l c2) l ((L.map Ob.a).map vi)) := LH (by
    have h1 := owned_below HU2.out HB6.out (Nat.le_refl _)
    rw [List.length_map, ← HLl.out] at h1
    exact h1)
   have hwx : Hid (wx.heap.size ≤ w6.heap.size) := LH (Nat.le_trans HBd.out.size HB6.out.size)
   have hbx0 : Hid (w.heap.size ≤ wx.heap.size) := LH HBc.out.size
   clear HU2 HCu2 HC12 HC1 HA4 HMan4 HB4 HB6 HW6 HBd HX2 HAl
   go_upto_if 138 with fail
   go_cut [] (fun wy => Hid (AlAt wy (A.re R) (n + 180) B m) ∧ Hid (ManAt wy X2 n2 B (bmOf m.bm.dev B)) ∧ Hid (Below w.heap.size w wy))
   case first =>
    by_cases hl0 : l = 0
    ·subst hl0
     go_wp2_with fail
     go_meet
     exact ⟨HAn6, HMa6, HWW6⟩
    ·have hlI : (0 : Int) < (l : Int) := by omega
     obtain ⟨o, L', hLc⟩ : ∃ o L', L = o :: L' := by
      cases L with
      | nil => exact absurd HLl.out hl0
      | cons o L' => exact ⟨o, L', rfl⟩
     have HN41 := LH (HN4.out o L' hLc)
     have HCu6 := LH (Cells.owned3 HUu6.out)
     obtain ⟨ub, uo, rfl, hub, hcl⟩ := HCu6.out.at (i := 0) (by rw [hLc]; simp)
     have e0 : w6.cell? ⟨ub, uo, none⟩ = some (.int .i64 (o.a : Int)) := hcl 0 _ (by rw [hLc]; rfl)
     have HLo : Hid ((L.map Ob.a).map vi ++ [.int .i64 (o.a : Int)] = (L.map (fun o => (o.a : Int)) ++ [(o.a : Int)]).map (Value.int .i64)) := LH (by
      rw [List.map_append, ← HMpe.out]; rfl)
     obtain ⟨oa, op, od⟩ := o
     dsimp only at e0 HN41 HLo
     clear hcl hub hLc
     go_upto_region 30 with fail
     go_wp2_with (at_builtin; refine wpList_append_one elInt HUu6.out rfl (by omega) (by decide) hwx.out rfl rfl rfl (by simp [Act.eval]) ?_; intro v7 w7 hu7 hg7 hn7; have HU7 := LH hu7; have HG7 := LH hg7; clear hu7 hg7 hn7)
     obtain ⟨a7, c7, rfl, _, _⟩ := owned_form HU7.out
     have HAn7 := LH (HAn6.out.keep (fun k hk => HG7.out.block k (HAn6.out.mem k hk) (HOff.out k (.inl hk))))
     have HMa7 := LH (HMa6.out.keep (fun k hk => HG7.out.block k (HMa6.out.mem k hk) (HOff.out k (.inr hk))))
     have HWW7 : Hid (Below w.heap.size w w7) := LH (below_grownBy HWW6.out HUu6.out HG7.out (Nat.le_refl _) hbx0.out)
     have HNew7 := LH (HNw.out w7 HMa7.out a7 (l + 1) c7 (L.map (fun o => (o.a : Int)) ++ [(oa : Int)]) (by rw [List.length_append, List.length_map, ← HLl.out]; rfl) (by rw [← HLo.out]; exact Cells.owned3 HU7.out) (by omega))
     have hz41 : (newUsed (bmOf m.bm.dev B).dev (bmOf m.bm.dev B).list (List.replicate (bmOf m.bm.dev B).dev.cache.length false) (L.map (fun o => (o.a : Int)) ++ [(oa : Int)])).2 = 41 := HN41.out
     unfold NewPost at HNew7
     rw [hz41] at HNew7
     clear HU7 HG7 HAn6 HMa6 HWW6 HCu6 HUu6 HLo HN41 HN4 HOff hz41 e0
     refine HNew7.out.mono ?_
     rintro e w8 ⟨hb8, ⟨hz, _⟩ | ⟨_, rfl⟩⟩
     ·exact absurd hz (by decide)
     have HAn8 := LH (HAn7.out.below hb8)
     have HMa8 := LH (HMa7.out.below hb8)
     have HWW8 : Hid (Below w.heap.size w w8) := LH (HWW7.out.trans (hb8.mono HWW7.out.size))
     clear hb8 HAn7 HMa7 HWW7 HNew7
     go_wp2_with fail
     go_meet
     exact ⟨HAn8, HMa8, HWW8⟩
   case rest =>
    obtain ⟨HAn, HMa, HWw⟩ := hcut
    clear HAn6 HMa6 HWW6 HUu6 HOff HN4 HN1 HMpe hwx hbx0 HLs HLl HOk3 HOb3 HM3
    generalize wc = wy at *
    have HWf : Hid m.bm.dev.wf := LH HAn.out.man.dev.wf
    have HLn : Hid (m.bm.list.length = B) := LH HOk.out.bm.lenL
    have HM0 : Hid (Mem wy wy []) := LH ⟨Below.refl _ _, by simp, by simp, by simp⟩
    obtain ⟨pb, hpb⟩ : ∃ pb, pb = (placedN m.bm.dev m.bm.list odd).isSome := ⟨_, rfl⟩
    have HPb := LH hpb
    have HNow := LH (fun w' (h : DevAt w' A.X.F m.bm.dev) => now16_any h (by rw [HDl.out]; omega))
    have HLd := LH (fun w' (a : Option Addr) (c : Nat) (h : Cells w' a (m.bm.dev.cache.map vu64)) => load16_any HWf.out a m.bm.dev.cache.length c rfl (by rw [HDl.out]; omega) h)
    have HAll := LH (fun w' (h : AlAt w' (A.re R) (n + 180) B m) => tall_any h.man.tab (by omega))
    have HRefs := LH (fun w' (a : Option Addr) (k : Nat) (h : Cells w' a (hdCs m.bm.list)) => refs_any a B k m.bm.list HLn.out w' h (by omega))
    have HPl : Hid (∀ w' dv a c, RAt w' dv m.bm.dev.dirty.length (nowD m.bm.dev).ref → Cells w' a (hdCs m.bm.list) → Calls Tryz.prog 20 #[dv, .slice a B c, .int .i64 odd] w' fun e w'' => (∃ p d : Int, e = .returned (.tuple #[vob p d, .bool pb])) ∧ Below w'.heap.size w' w'') := LH (fun w' dv a c hr hc =>
     (rplaced_any (S := nowD m.bm.dev) (by simp [nowD, freshDev]) hr (nowD_fit HWf.out 0) a B c m.bm.list HLn.out hc (by omega) odd HOdd.out).mono (fun e w'' ⟨⟨p, d, h1, _⟩, h2⟩ => ⟨⟨p, d, by rw [hpb]; exact h1⟩, h2⟩))
    have cA := HAn.out.c0
    change wy.cell? ⟨A.a, 0, none⟩ = some (.pointer (some ⟨A.X.m, 0, none⟩)) at cA
    have cM := HAn.out.man.c0
    change wy.cell? ⟨A.X.m, 0, none⟩ = some (.pointer (some ⟨A.X.t, 0, none⟩)) at cM
    clear hpb
    go_upto_region 33 with fail
    go_cut [24] (fun pv wz => pv = .bool pb ∧ Hid (Below wy.heap.size wy wz))
    case first =>
     have r3 := fun x => later_cell cA x
     have r4 := fun x => later_cell cM x
     refine wp_region_trx (C := fun w' => ∃ x : Later (wy), w' = x.val) (ex := [3, 4, 5, 6, 7, 8, 9, 10, 11]) (.fl [0, 3, 4, 5, 6, 7, 8, 9, 12] (.br 1 true (.br 2 true (.br 10 true (.br 11 true (.br 13 false (.pu [14, 15, 16] (.sq [17] true (.sq [18, 19] false .nil))) 17 true (.sq [13, 14] false (.pu [15, 16] (.sq [18, 19] false .nil)))) 17 true (.sq [11] true (.sq [13, 14] false (.pu [15, 16] (.sq [18, 19] false .nil))))) 17 true (.sq [10] true (.sq [11] true (.sq [13, 14] false (.pu [15, 16] (.sq [18, 19] false .nil)))))) 17 true (.sq [2] true (.sq [10] true (.sq [11] true (.sq [13, 14] false (.pu [15, 16] (.sq [18, 19] false .nil))))))) 17 true (.sq [1] true (.sq [2] true (.sq [10] true (.sq [11] true (.sq [13, 14] false (.pu [15, 16] (.sq [18, 19] false .nil))))))))) (by kernel_rfl) (by kernel_rfl) (by intro c a d v w h; cases d <;> exact h) ?_
     simp only [trO, picks, List.getElem?_cons_succ, List.getElem?_cons_zero]
     have hC2 := later_drew (wy)
     refine wpTr_fl hC2 ?_
     repeat (first | go_big_quiet_step (fail) | quiet_step (fail))
     refine wpQuiet_nil ?_
     clear r3 r4
     have HM2 := LH (HM0.out.later (later_below hC2))
     have HA2 := LH (HAn.out.below (later_below hC2))
     generalize wy.drew = w2 at *
     refine wpTr_br ?_ ?_
     ·refine wpTr_sq (fun K hK => ?_)
      go_wp2_with fail
      refine (HNow.out _ HA2.out.man.dev).mono ?_
      rintro e w3 ⟨an, cn, rfl, hcn, hb⟩
      have HM3 := LH (HM2.out.later hb)
      have HA3 := LH (HA2.out.below hb)
      have HCn3 := LH hcn
      have hC3 := later_step hC2 hb
      clear hb hcn
      go_wp2_with fail
      refine hK _ _ (fun _ => hC3) ?_
      clear hK K
      refine wpTr_br ?_ ?_
      ·refine wpTr_sq (fun K hK => ?_)
       go_wp2_with fail
       refine (HLd.out _ _ _ HCn3.out).mono ?_
       rintro e w4 ⟨dv, rfl, hr, _, hb⟩
       have HM4 := LH (HM3.out.later hb)
       have HA4 := LH (HA3.out.below hb)
       have HRA4 := LH hr
       have hC4 := later_step hC3 hb
       clear hb hr
       go_wp2_with fail
       refine hK _ _ (fun _ => hC4) ?_
       clear hK K
       refine wpTr_br ?_ ?_
       ·refine wpTr_sq (fun K hK => ?_)
        go_wp2_with fail
        refine (HAll.out _ HA4.out).mono ?_
        rintro e w5 ⟨gl, kl2, rfl, _, _, hrow, hb⟩
        have HM5 := LH (HM4.out.later hb)
        have HRA5 := LH (HRA4.out.below hb (Nat.le_refl _))
        have HCl5 := LH hrow.cells
        have hC5 := later_step hC4 hb
        clear hb hrow
        go_wp2_with fail
        refine hK _ _ (fun _ => hC5) ?_
        clear hK K
        refine wpTr_br ?_ ?_
        ·refine wpTr_sq (fun K hK => ?_)
         go_wp2_with fail
         refine (HRefs.out _ _ _ HCl5.out).mono ?_
         rintro e w6 ⟨vr, rfl, ho, hb⟩
         obtain ⟨ar, cr, rfl, _, _⟩ := owned_form ho
         have HM6 := LH (HM5.out.later hb)
         have HRA6 := LH (HRA5.out.below hb (Nat.le_refl _))
         have HCr6 := LH (Cells.owned3 ho)
         have hC6 := later_step hC5 hb
         clear hb ho
         go_wp2_with fail
         refine hK _ _ (fun _ => hC6) ?_
         clear hK K
         refine wpTr_br ?_ ?_
         ·refine wpTr_sq (fun K hK => ?_)
          go_wp2_with fail
          refine (HPl.out _ _ _ _ HRA6.out HCr6.out).mono ?_
          rintro e w7 ⟨⟨pp, pd, rfl⟩, hb⟩
          have HM7 := LH (HM6.out.later hb)
          have hC7 := later_step hC6 hb
          clear hb
          go_wp2_with fail
          refine hK _ _ (fun h => nomatch h) ?_
          clear hK K
          refine wpTr_pu ?_
          repeat (first | go_big_quiet_step (fail) | quiet_step (fail))
          refine wpQuiet_nil ?_
          refine wpTr_sq (fun K hK => ?_)
          go_wp2_with fail
          have hb := below_alloc w7 (.cells #[.int .i64 0, .int .i64 0] 38)
          have HM8 := LH (HM7.out.alloc #[.int .i64 0, .int .i64 0] 38)
          have hC8 := later_step hC7 hb
          obtain ⟨qd, hqd⟩ : ∃ qd, qd = w7.heap.size := ⟨_, rfl⟩
          clear hb
          go_wp2_with fail
          refine hK _ _ (fun _ => hC8) ?_
          clear hK K
          generalize w7.alloc _ = w8 at *
          rw [← hqd] at HM8 ⊢
          clear hqd
          refine wpTr_last ?_
          go_wp2_with (refine wpList_store_mem aggRo HM8.out 0 rfl rfl rfl rfl rfl rfl rfl rfl ?_; intro w9 h9 ht9; have H9 := LH h9; clear h9 ht9)
          go_meet
          exact ⟨rfl, LH H9.out.below⟩
         ·refine wpTr_sq (fun K hK => ?_)
          go_wp2_with fail
          have hb := below_alloc w6 (.cells #[.int .i64 0, .int .i64 0] 38)
          have HM7 := LH (HM6.out.alloc #[.int .i64 0, .int .i64 0] 38)
          have HRA7 := LH (HRA6.out.below hb (Nat.le_refl _))
          have HCr7 := LH (HCr6.out.below hb (Nat.le_refl _))
          have hC7 := later_step hC6 hb
          obtain ⟨qd, hqd⟩ : ∃ qd, qd = w6.heap.size := ⟨_, rfl⟩
          clear hb
          go_wp2_with fail
          refine hK _ _ (fun _ => hC7) ?_
          clear hK K
          generalize w6.alloc _ = w7 at *
          rw [← hqd] at HM7 ⊢
          clear hqd
          refine wpTr_sq (fun K hK => ?_)
          go_wp2_with fail
          refine (HPl.out _ _ _ _ HRA7.out HCr7.out).mono ?_
          rintro e w8 ⟨⟨pp, pd, rfl⟩, hb⟩
          have HM8 := LH (HM7.out.later hb)
          clear hb
          go_wp2_with fail
          refine hK _ _ (fun h => nomatch h) ?_
          clear hK K
          refine wpTr_pu ?_
          repeat (first | go_big_quiet_step (fail) | quiet_step (fail))
          refine wpQuiet_nil ?_
          refine wpTr_last ?_
          go_wp2_with (refine wpList_store_mem aggRo HM8.out 0 rfl rfl rfl rfl rfl rfl rfl rfl ?_; intro w9 h9 ht9; have H9 := LH h9; clear h9 ht9)
          go_meet
          exact ⟨rfl, LH H9.out.below⟩
        ·refine wpTr_sq (fun K hK => ?_)
         go_wp2_with fail
         have hb := below_alloc w5 (.cells #[.int .i64 0, .int .i64 0] 38)
         have HM6 := LH (HM5.out.alloc #[.int .i64 0, .int .i64 0] 38)
         have HRA6 := LH (HRA5.out.below hb (Nat.le_refl _))
         have HCl6 := LH (HCl5.out.below hb (Nat.le_refl _))
         have hC6 := later_step hC5 hb
         obtain ⟨qd, hqd⟩ : ∃ qd, qd = w5.heap.size := ⟨_, rfl⟩
         clear hb
         go_wp2_with fail
         refine hK _ _ (fun _ => hC6) ?_
         clear hK K
         generalize w5.alloc _ = w6 at *
         rw [← hqd] at HM6 ⊢
         clear hqd
         refine wpTr_sq (fun K hK => ?_)
         go_wp2_with fail
         refine (HRefs.out _ _ _ HCl6.out).mono ?_
         rintro e w7 ⟨vr, rfl, ho, hb⟩
         obtain ⟨ar, cr, rfl, _, _⟩ := owned_form ho
         have HM7 := LH (HM6.out.later hb)
         have HRA7 := LH (HRA6.out.below hb (Nat.le_refl _))
         have HCr7 := LH (Cells.owned3 ho)
         have hC7 := later_step hC6 hb
         clear hb ho
         go_wp2_with fail
         refine hK _ _ (fun _ => hC7) ?_
         clear hK K
         refine wpTr_sq (fun K hK => ?_)
         go_wp2_with fail
         refine (HPl.out _ _ _ _ HRA7.out HCr7.out).mono ?_
         rintro e w8 ⟨⟨pp, pd, rfl⟩, hb⟩
         have HM8 := LH (HM7.out.later hb)
         clear hb
         go_wp2_with fail
         refine hK _ _ (fun h => nomatch h) ?_
         clear hK K
         refine wpTr_pu ?_
         repeat (first | go_big_quiet_step (fail) | quiet_step (fail))
         refine wpQuiet_nil ?_
         refine wpTr_last ?_
         go_wp2_with (refine wpList_store_mem aggRo HM8.out 0 rfl rfl rfl rfl rfl rfl rfl rfl ?_; intro w9 h9 ht9; have H9 := LH h9; clear h9 ht9)
         go_meet
         exact ⟨rfl, LH H9.out.below⟩
       ·refine wpTr_sq (fun K hK => ?_)
        go_wp2_with fail
        have hb := below_alloc w4 (.cells #[.int .i64 0, .int .i64 0] 38)
        have HM5 := LH (HM4.out.alloc #[.int .i64 0, .int .i64 0] 38)
        have HA5 := LH (HA4.out.below hb)
        have HRA5 := LH (HRA4.out.below hb (Nat.le_refl _))
        have hC5 := later_step hC4 hb
        obtain ⟨qd, hqd⟩ : ∃ qd, qd = w4.heap.size := ⟨_, rfl⟩
        clear hb
        go_wp2_with fail
        refine hK _ _ (fun _ => hC5) ?_
        clear hK K
        generalize w4.alloc _ = w5 at *
        rw [← hqd] at HM5 ⊢
        clear hqd
        refine wpTr_sq (fun K hK => ?_)
        go_wp2_with fail
        refine (HAll.out _ HA5.out).mono ?_
        rintro e w6 ⟨gl, kl2, rfl, _, _, hrow, hb⟩
        have HM6 := LH (HM5.out.later hb)
        have HRA6 := LH (HRA5.out.below hb (Nat.le_refl _))
        have HCl6 := LH hrow.cells
        have hC6 := later_step hC5 hb
        clear hb hrow
        go_wp2_with fail
        refine hK _ _ (fun _ => hC6) ?_
        clear hK K
        refine wpTr_sq (fun K hK => ?_)
        go_wp2_with fail
        refine (HRefs.out _ _ _ HCl6.out).mono ?_
        rintro e w7 ⟨vr, rfl, ho, hb⟩
        obtain ⟨ar, cr, rfl, _, _⟩ := owned_form ho
        have HM7 := LH (HM6.out.later hb)
        have HRA7 := LH (HRA6.out.below hb (Nat.le_refl _))
        have HCr7 := LH (Cells.owned3 ho)
        have hC7 := later_step hC6 hb
        clear hb ho
        go_wp2_with fail
        refine hK _ _ (fun _ => hC7) ?_
        clear hK K
        refine wpTr_sq (fun K hK => ?_)
        go_wp2_with fail
        refine (HPl.out _ _ _ _ HRA7.out HCr7.out).mono ?_
        rintro e w8 ⟨⟨pp, pd, rfl⟩, hb⟩
        have HM8 := LH (HM7.out.later hb)
        clear hb
        go_wp2_with fail
        refine hK _ _ (fun h => nomatch h) ?_
        clear hK K
        refine wpTr_pu ?_
        repeat (first | go_big_quiet_step (fail) | quiet_step (fail))
        refine wpQuiet_nil ?_
        refine wpTr_last ?_
        go_wp2_with (refine wpList_store_mem aggRo HM8.out 0 rfl rfl rfl rfl rfl rfl rfl rfl ?_; intro w9 h9 ht9; have H9 := LH h9; clear h9 ht9)
        go_meet
        exact ⟨rfl, LH H9.out.below⟩
      ·refine wpTr_sq (fun K hK => ?_)
       go_wp2_with fail
       have hb := below_alloc w3 (.cells #[.int .i64 0, .int .i64 0] 38)
       have HM4 := LH (HM3.out.alloc #[.int .i64 0, .int .i64 0] 38)
       have HA4 := LH (HA3.out.below hb)
       have HCn4 := LH (HCn3.out.below hb (Nat.le_refl _))
       have hC4 := later_step hC3 hb
       obtain ⟨qd, hqd⟩ : ∃ qd, qd = w3.heap.size := ⟨_, rfl⟩
       clear hb
       go_wp2_with fail
       refine hK _ _ (fun _ => hC4) ?_
       clear hK K
       generalize w3.alloc _ = w4 at *
       rw [← hqd] at HM4 ⊢
       clear hqd
       refine wpTr_sq (fun K hK => ?_)
       go_wp2_with fail
       refine (HLd.out _ _ _ HCn4.out).mono ?_
       rintro e w5 ⟨dv, rfl, hr, _, hb⟩
       have HM5 := LH (HM4.out.later hb)
       have HA5 := LH (HA4.out.below hb)
       have HRA5 := LH hr
       have hC5 := later_step hC4 hb
       clear hb hr
       go_wp2_with fail
       refine hK _ _ (fun _ => hC5) ?_
       clear hK K
       refine wpTr_sq (fun K hK => ?_)
       go_wp2_with fail
       refine (HAll.out _ HA5.out).mono ?_
       rintro e w6 ⟨gl, kl2, rfl, _, _, hrow, hb⟩
       have HM6 := LH (HM5.out.later hb)
       have HRA6 := LH (HRA5.out.below hb (Nat.le_refl _))
       have HCl6 := LH hrow.cells
       have hC6 := later_step hC5 hb
       clear hb hrow
       go_wp2_with fail
       refine hK _ _ (fun _ => hC6) ?_
       clear hK K
       refine wpTr_sq (fun K hK => ?_)
       go_wp2_with fail
       refine (HRefs.out _ _ _ HCl6.out).mono ?_
       rintro e w7 ⟨vr, rfl, ho, hb⟩
       obtain ⟨ar, cr, rfl, _, _⟩ := owned_form ho
       have HM7 := LH (HM6.out.later hb)
       have HRA7 := LH (HRA6.out.below hb (Nat.le_refl _))
       have HCr7 := LH (Cells.owned3 ho)
       have hC7 := later_step hC6 hb
       clear hb ho
       go_wp2_with fail
       refine hK _ _ (fun _ => hC7) ?_
       clear hK K
       refine wpTr_sq (fun K hK => ?_)
       go_wp2_with fail
       refine (HPl.out _ _ _ _ HRA7.out HCr7.out).mono ?_
       rintro e w8 ⟨⟨pp, pd, rfl⟩, hb⟩
       have HM8 := LH (HM7.out.later hb)
       clear hb
       go_wp2_with fail
       refine hK _ _ (fun h => nomatch h) ?_
       clear hK K
       refine wpTr_pu ?_
       repeat (first | go_big_quiet_step (fail) | quiet_step (fail))
       refine wpQuiet_nil ?_
       refine wpTr_last ?_
       go_wp2_with (refine wpList_store_mem aggRo HM8.out 0 rfl rfl rfl rfl rfl rfl rfl rfl ?_; intro w9 h9 ht9; have H9 := LH h9; clear h9 ht9)
       go_meet
       exact ⟨rfl, LH H9.out.below⟩
     ·refine wpTr_sq (fun K hK => ?_)
      go_wp2_with fail
      have hb := below_alloc w2 (.cells #[.int .i64 0, .int .i64 0] 38)
      have HM3 := LH (HM2.out.alloc #[.int .i64 0, .int .i64 0] 38)
      have HA3 := LH (HA2.out.below hb)
      have hC3 := later_step hC2 hb
      obtain ⟨qd, hqd⟩ : ∃ qd, qd = w2.heap.size := ⟨_, rfl⟩
      clear hb
      go_wp2_with fail
      refine hK _ _ (fun _ => hC3) ?_
      clear hK K
      generalize w2.alloc _ = w3 at *
      rw [← hqd] at HM3 ⊢
      clear hqd
      refine wpTr_sq (fun K hK => ?_)
      go_wp2_with fail
      refine (HNow.out _ HA3.out.man.dev).mono ?_
      rintro e w4 ⟨an, cn, rfl, hcn, hb⟩
      have HM4 := LH (HM3.out.later hb)
      have HA4 := LH (HA3.out.below hb)
      have HCn4 := LH hcn
      have hC4 := later_step hC3 hb
      clear hb hcn
      go_wp2_with fail
      refine hK _ _ (fun _ => hC4) ?_
      clear hK K
      refine wpTr_sq (fun K hK => ?_)
      go_wp2_with fail
      refine (HLd.out _ _ _ HCn4.out).mono ?_
      rintro e w5 ⟨dv, rfl, hr, _, hb⟩
      have HM5 := LH (HM4.out.later hb)
      have HA5 := LH (HA4.out.below hb)
      have HRA5 := LH hr
      have hC5 := later_step hC4 hb
      clear hb hr
      go_wp2_with fail
      refine hK _ _ (fun _ => hC5) ?_
      clear hK K
      refine wpTr_sq (fun K hK => ?_)
      go_wp2_with fail
      refine (HAll.out _ HA5.out).mono ?_
      rintro e w6 ⟨gl, kl2, rfl, _, _, hrow, hb⟩
      have HM6 := LH (HM5.out.later hb)
      have HRA6 := LH (HRA5.out.below hb (Nat.le_refl _))
      have HCl6 := LH hrow.cells
      have hC6 := later_step hC5 hb
      clear hb hrow
      go_wp2_with fail
      refine hK _ _ (fun _ => hC6) ?_
      clear hK K
      refine wpTr_sq (fun K hK => ?_)
      go_wp2_with fail
      refine (HRefs.out _ _ _ HCl6.out).mono ?_
      rintro e w7 ⟨vr, rfl, ho, hb⟩
      obtain ⟨ar, cr, rfl, _, _⟩ := owned_form ho
      have HM7 := LH (HM6.out.later hb)
      have HRA7 := LH (HRA6.out.below hb (Nat.le_refl _))
      have HCr7 := LH (Cells.owned3 ho)
      have hC7 := later_step hC6 hb
      clear hb ho
      go_wp2_with fail
      refine hK _ _ (fun _ => hC7) ?_
      clear hK K
      refine wpTr_sq (fun K hK => ?_)
      go_wp2_with fail
      refine (HPl.out _ _ _ _ HRA7.out HCr7.out).mono ?_
      rintro e w8 ⟨⟨pp, pd, rfl⟩, hb⟩
      have HM8 := LH (HM7.out.later hb)
      clear hb
      go_wp2_with fail
      refine hK _ _ (fun h => nomatch h) ?_
      clear hK K
      refine wpTr_pu ?_
      repeat (first | go_big_quiet_step (fail) | quiet_step (fail))
      refine wpQuiet_nil ?_
      refine wpTr_last ?_
      go_wp2_with (refine wpList_store_mem aggRo HM8.out 0 rfl rfl rfl rfl rfl rfl rfl rfl ?_; intro w9 h9 ht9; have H9 := LH h9; clear h9 ht9)
      go_meet
      exact ⟨rfl, LH H9.out.below⟩
    case rest =>
     obtain ⟨rfl, HBz⟩ := hcut
     have HMz := LH (HMa.out.below HBz.out)
     have HWz : Hid (Below w.heap.size w wc) := LH (HWw.out.trans (HBz.out.mono HWw.out.size))
     clear cA cM HAn HMa HWw HBz HNow HLd HAll HRefs HPl HM0
     have hba := below_alloc wc (Obj.cells #[.int .i64 odd] 3)
     have hz0 : (newUsed (bmOf m.bm.dev B).dev (bmOf m.bm.dev B).list (List.replicate (bmOf m.bm.dev B).dev.cache.length false) [odd]).2 = if pb then 0 else 22 := by
      have h1 := newUsed_one (S := m.bm.dev) (L := (bmOf m.bm.dev B).list) (n := m.bm.dev.cache.length) (by rw [HDl.out]; show 512 * B = 512 * (hds (devWord m.bm.dev) B).length; rw [hds_length]) odd
      rw [(like_open HOk.out.bm).placed, ← HPb.out] at h1
      exact h1
     have HNewZ := LH (HNw.out _ (HMz.out.below hba) (some ⟨wc.heap.size, 0, none⟩) 1 1 [odd] rfl (RowAt.cells ⟨_, heap_alloc_new _ _, [], rfl⟩) (by decide))
     unfold NewPost at HNewZ
     rw [hz0] at HNewZ
     have HBa : Hid (Below w.heap.size w (wc.alloc (Obj.cells #[.int .i64 odd] 3))) := LH (HWz.out.trans (hba.mono HWz.out.size))
     clear hz0 hba HMz HWz HPb HNw
     cases pb with
     | true =>
      go_wp2_with fail
      refine HNewZ.out.mono ?_
      rintro e w8 ⟨hb8, ⟨_, A8, rfl, _⟩ | ⟨hz, rfl⟩⟩
      ·have HFin := LH (HP.out _ (HBa.out.trans (hb8.mono HBa.out.size)))
       clear hb8 HNewZ HBa
       go_wp2_with fail
       exact HFin.out
      ·exact absurd rfl hz
     | false =>
      go_wp2_with fail
      refine HNewZ.out.mono ?_
      rintro e w8 ⟨hb8, ⟨hz, _⟩ | ⟨_, rfl⟩⟩
      ·exact absurd hz (by decide)
      ·have HFin := LH (HP.out _ (HBa.out.trans (hb8.mono HBa.out.size)))
       clear hb8 HNewZ HBa
       go_wp2_with fail
       exact HFin.out
end Go.Proofs.YtbimcogdbafjpaaGreat
namespace Go.Proofs.YtbimcogdbafjpaaGreat
open Go.RowKit Go.ChangeShapes Go.WideShapes Go.Deep
theorem wf_bounds {x : Int} (h : (Lit.int .i64 x).wf = true) : -9223372036854775808 ≤ x ∧ x ≤ 9223372036854775807 := by
 simp [Lit.wf, IntKind.min, IntKind.max, IntKind.bits, IntKind.signed] at h
 omega
theorem list_of {α : Type} (P : Nat → α → Prop) : ∀ n, (∀ i, i < n → ∃ x, P i x) → ∃ l : List α, l.length = n ∧ ∀ i x, l[i]? = some x → P i x
 | 0, _ => ⟨[], rfl, by simp⟩
 | n + 1, h => by
  obtain ⟨l, hl, hp⟩ := list_of P n (fun i hi => h i (by omega))
  obtain ⟨x, hx⟩ := h n (by omega)
  refine ⟨l ++ [x], by simp [hl], fun i y hy => ?_⟩
  by_cases hi : i < l.length
  ·rw [List.getElem?_append_left hi] at hy; exact hp i y hy
  ·rw [List.getElem?_append_right (by omega)] at hy
   have h0 : i - l.length = 0 := by
    have := (List.getElem?_eq_some_iff.1 hy).1; simp at this; omega
   rw [h0] at hy
   simp at hy
   subst hy
   rw [show i = n by omega]; exact hx
section
variable {H : Type} {enc : TypeId × Value → H} {P : Program} {w : World} {base : Nat} {spare : Nat → Bool} {held : Bool}
theorem ints_struct {e T : TypeId} {fs : Array Field} {n fuel : Nat} {us : List Value} {z : DataW H × List MemPlace} (he : P.underlying e = some (.struct fs)) (hT : P.underlying T = some (.int .i64)) (hc : P.cellsOf T = 1)
  (hF : ((List.range n).all fun j => match fs[j]? with | some f => f.type == T && f.offset == j | none => false) = true) (hlen : us.length = n) (hz : DataW.trod enc P w base spare held fuel e us = some z) :
  ∃ zs : List Int, zs.length = n ∧ us = zs.map (Value.int .i64) ∧ ∀ x ∈ zs, -9223372036854775808 ≤ x ∧ x ≤ 9223372036854775807 := by
 obtain ⟨ys, n', _, _, _, hyl, hf⟩ := DataW.trod_struct he hz
 have each : ∀ j, j < n → ∃ x : Int, us[j]? = some (.int .i64 x) ∧ (-9223372036854775808 ≤ x ∧ x ≤ 9223372036854775807) := by
  intro j hj
  have h1 := List.all_eq_true.1 hF j (List.mem_range.2 hj)
  cases hfj : fs[j]? with
  | none => rw [hfj] at h1; cases h1
  | some f =>
   rw [hfj] at h1
   simp only [Bool.and_eq_true, beq_iff_eq] at h1
   have h2 := hf j f hfj
   rw [h1.1, h1.2, hc] at h2
   have hjs : j < ys.length := by rw [hyl]; exact (Array.getElem?_eq_some_iff.1 hfj).1
   rw [List.getElem?_eq_getElem hjs] at h2
   have hju : j < us.length := by omega
   have h3 : (us.drop j).take 1 = [us[j]] := by rw [List.drop_eq_getElem_cons hju]; rfl
   rw [h3] at h2
   obtain ⟨x, hx, _, hw⟩ := DataW.trod_int hT h2
   have hx' : us[j] = .int .i64 x := by simpa using hx
   exact ⟨x, by rw [List.getElem?_eq_getElem hju, hx'], wf_bounds hw⟩
 obtain ⟨zs, hl, hp⟩ := list_of (fun j x => us[j]? = some (.int .i64 x) ∧ (-9223372036854775808 ≤ x ∧ x ≤ 9223372036854775807)) n each
 refine ⟨zs, hl, ?_, fun x hx => ?_⟩
 ·apply List.ext_getElem?
  intro i
  by_cases hi : i < zs.length
  ·rw [(hp i _ (List.getElem?_eq_getElem hi)).1, List.getElem?_map, List.getElem?_eq_getElem hi]; rfl
  ·rw [List.getElem?_eq_none (by omega), List.getElem?_eq_none (by simp; omega)]
 ·obtain ⟨i, hi, rfl⟩ := List.mem_iff_getElem.1 hx
  exact (hp i _ (List.getElem?_eq_getElem hi)).2
theorem recs_ints_read {α : Type} {f : α → List Value} {n : Nat} (hfl : ∀ x, (f x).length = n) (hn : 0 < n) (d : α) (mk : List Int → α) (hmk : ∀ zs : List Int, zs.length = n → f (mk zs) = zs.map (Value.int .i64))
  {t e T : TypeId} {fs : Array Field} {fuel : Nat} {v : Value} {y : DataW H × List MemPlace} (ht : P.underlying t = some (.slice e)) (he : P.underlying e = some (.struct fs)) (hT : P.underlying T = some (.int .i64)) (hC : P.cellsOf e = n) (hc : P.cellsOf T = 1)
  (hF : ((List.range n).all fun j => match fs[j]? with | some f => f.type == T && f.offset == j | none => false) = true) (h : DataW.trod enc P w base spare held fuel t [v] = some y) :
  ∃ (a : Option Addr) (len cap : Nat) (l : List α), v = .slice a len cap ∧ l.length = len ∧ Cells w a (recs f l) ∧ (∀ o ∈ l, ∃ zs : List Int, o = mk zs ∧ zs.length = n ∧ ∀ x ∈ zs, -9223372036854775808 ≤ x ∧ x ≤ 9223372036854775807) ∧ len ≤ maxLen := by
 obtain ⟨a, len, cap, m, rfl, hl, hm, hcs⟩ := elems_read ht hC hn h
 rcases hcs with rfl | ⟨b, off, rfl, hcs⟩
 ·exact ⟨a, 0, cap, [], rfl, rfl, Cells.nil _ _, by simp, Nat.zero_le _⟩
 ·have each : ∀ i, i < len → ∃ x : α, (∀ r u, (f x)[r]? = some u → w.cell? ⟨b, off + i * n + r, none⟩ = some u) ∧ ∃ zs : List Int, x = mk zs ∧ zs.length = n ∧ ∀ x ∈ zs, -9223372036854775808 ≤ x ∧ x ≤ 9223372036854775807 := by
   intro i hi
   obtain ⟨us, z, hlen, hat, hz⟩ := hcs i hi
   obtain ⟨zs, h1, h2, h3⟩ := ints_struct he hT hc hF hlen hz
   exact ⟨mk zs, fun r u hr => by rw [hmk zs h1, ← h2] at hr; exact hat r u hr, zs, rfl, h1, h3⟩
  obtain ⟨l, hll, hcl, hok⟩ := recs_of hfl hn d each
  exact ⟨_, len, cap, l, rfl, hll, hcl, hok, by omega⟩
end
theorem recs_bool (l : List Bool) : recs (fun b => [Value.bool b]) l = l.map Value.bool := by
 unfold recs
 induction l with
 | nil => rfl
 | cons x l ih => simpa using ih
section
variable {H : Type} {enc : TypeId × Value → H} {P : Program} {w : World} {base : Nat} {spare : Nat → Bool} {held : Bool}
theorem bools_read {t e : TypeId} {fuel : Nat} {v : Value} {y : DataW H × List MemPlace} (ht : P.underlying t = some (.slice e)) (he : P.underlying e = some .bool) (hC : P.cellsOf e = 1)
  (h : DataW.trod enc P w base spare held fuel t [v] = some y) :
  ∃ (a : Option Addr) (len cap : Nat) (l : List Bool), v = .slice a len cap ∧ l.length = len ∧ Cells w a (l.map Value.bool) ∧ len ≤ maxLen := by
 obtain ⟨a, len, cap, m, rfl, hl, hm, hcs⟩ := elems_read ht hC (by decide) h
 rcases hcs with rfl | ⟨b, off, rfl, hcs⟩
 ·exact ⟨a, 0, cap, [], rfl, rfl, Cells.nil _ _, Nat.zero_le _⟩
 ·have each : ∀ i, i < len → ∃ x : Bool, (∀ r u, ((fun b => [Value.bool b]) x)[r]? = some u → w.cell? ⟨b, off + i * 1 + r, none⟩ = some u) ∧ True := by
   intro i hi
   obtain ⟨us, z, hlen, hat, hz⟩ := hcs i hi
   obtain ⟨x, hx, _⟩ := DataW.trod_bool he hz
   subst hx
   exact ⟨x, hat, trivial⟩
  obtain ⟨l, hll, hcl, _⟩ := recs_of (f := fun b => [Value.bool b]) (n := 1) (fun _ => rfl) (by decide) false each
  rw [recs_bool] at hcl
  exact ⟨_, len, cap, l, rfl, hll, hcl, by omega⟩
end
end Go.Proofs.YtbimcogdbafjpaaGreat
namespace Go.Proofs.YtbimcogdbafjpaaGreat
open Go.RowKit Go.ChangeShapes Go.WideShapes
section
variable {H : Type} {enc : TypeId × Value → H} {P : Program} {w : World} {base b0 : Nat} {r : Reach} {spare : Nat → Bool} {held : Bool}
theorem open_arr {t e : TypeId} {n : Nat} {v : Value} {d : DataW H} {p : List MemPlace} (hs : P.underlying t = some (.array n e)) (hone : P.cellsOf e = 1) (hC : P.cellsOf t = n)
  (hv : Value.okWide P w r b0 t v) (h : DataW.Trod enc P w base spare held t v d p) :
  ∃ (cs : Array Value) (m : Nat), v = .agg cs ∧ cs.size = n ∧ ∀ (i : Nat) (u : Value), cs[i]? = some u → ∃ y, DataW.trod enc P w base spare held m e [u] = some y := by
 simp only [Value.okWide, hs] at hv
 obtain ⟨cs, rfl, hsz, _⟩ := hv
 obtain ⟨fuel, hf⟩ := h
 obtain ⟨xs, m, _, _, _, hl, hel⟩ := DataW.trod_array hs hf
 refine ⟨cs, m, rfl, hsz.trans hC, fun i u hi => ?_⟩
 have hin : i < n := by have := (Array.getElem?_eq_some_iff.1 hi).1; omega
 have h1 := hel i hin
 have e1 : (((Value.agg cs).cells.toList.drop (i * P.cellsOf e)).take (P.cellsOf e)) = [u] := by
  rw [hone, Nat.mul_one]
  show (cs.toList.drop i).take 1 = [u]
  have hlt : i < cs.toList.length := by simpa using (Array.getElem?_eq_some_iff.1 hi).1
  rw [List.drop_eq_getElem_cons hlt]
  simp
  exact (Array.getElem?_eq_some_iff.1 hi).2
 rw [e1] at h1
 exact ⟨xs[i]'(by omega), by rw [h1]; exact List.getElem?_eq_getElem (by omega)⟩
theorem open_arr2 {t e : TypeId} {v : Value} {d : DataW H} {p : List MemPlace} (hs : P.underlying t = some (.array 2 e)) (hone : P.cellsOf e = 1) (hC : P.cellsOf t = 2)
  (hv : Value.okWide P w r b0 t v) (h : DataW.Trod enc P w base spare held t v d p) :
  ∃ (c0 c1 : Value) (m : Nat) (y0 y1 : DataW H × List MemPlace), v = .agg #[c0, c1] ∧ DataW.trod enc P w base spare held m e [c0] = some y0 ∧ DataW.trod enc P w base spare held m e [c1] = some y1 := by
 obtain ⟨cs, m, rfl, hsz, he⟩ := open_arr hs hone hC hv h
 obtain ⟨l⟩ := cs
 match l, hsz with
 | [c0, c1], _ =>
  obtain ⟨y0, h0⟩ := he 0 c0 rfl
  obtain ⟨y1, h1⟩ := he 1 c1 rfl
  exact ⟨c0, c1, m, y0, y1, rfl, h0, h1⟩
end
end Go.Proofs.YtbimcogdbafjpaaGreat
