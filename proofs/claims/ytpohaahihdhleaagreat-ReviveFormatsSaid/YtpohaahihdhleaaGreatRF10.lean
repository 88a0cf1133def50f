/- Parts of the proof, one behind the other: Fy, Fz, Vw, Vx, Vy, Vz, Qd, Qe. -/
import Derived.Test.YtpohaahihdhleaaGreatRF9
set_option linter.unusedVariables false
namespace Go.Proofs.YtpohaahihdhleaaGreat
open Go.RowKit Go.Maps
def AlGoR (w w' : World) (A : AF) (n B : Nat) (m : Al) : Prop := ∃ R', AlAt w' (A.re R') n B m ∧ Touch A.R w w' ∧ ∀ b ∈ R', b ∈ A.R ∨ w.heap.size ≤ b
theorem AlGoR.refl {w : World} {A : AF} {n B : Nat} {m : Al} (h : AlAt w A n B m) : AlGoR w w A n B m := ⟨A.R, h, Touch.refl _ _, fun _ h => .inl h⟩
theorem AlGoR.later {w w1 w2 : World} {A : AF} {n B : Nat} {m : Al} (h : AlGoR w w1 A n B m) (hb : Below w1.heap.size w1 w2) : AlGoR w w2 A n B m := by
 obtain ⟨R', h1, h2, h3⟩ := h
 exact ⟨R', h1.below hb, h2.later hb, h3⟩
theorem AlGoR.trans {w w1 w2 : World} {A : AF} {R1 : List Nat} {n B : Nat} {m : Al} (h1 : Touch A.R w w1) (h2 : ∀ b ∈ R1, b ∈ A.R ∨ w.heap.size ≤ b) (h : AlGoR w1 w2 (A.re R1) n B m) : AlGoR w w2 A n B m := by
 obtain ⟨R', g1, g2, g3⟩ := h
 refine ⟨R', g1, h1.own g2 (fun b hb => (h2 b hb).symm), fun b hb => ?_⟩
 rcases g3 b hb with c | c
 ·exact h2 b c
 ·exact .inr (Nat.le_trans h1.size c)
theorem AlAt.setFreeR {w w' : World} {A : AF} {n n' B : Nat} {m : Al} {S : FL} (h : AlAt w A n B m) (hn : n ≤ n') (hg : FreeGo w w' A.f A.mb n' A.R S) : AlGoR w w' A n' B ⟨m.bm, m.used, S⟩ := by
 obtain ⟨R', g1, g2, g3⟩ := hg
 have hk : ∀ k ∈ A.fix, w'.heap[k]? = w.heap[k]? := fun k hk => g2.block k (h.fixlt hk) (fun hm => h.nR k hm hk)
 refine ⟨R', ⟨(hk A.a (by simp [AF.fix])).trans h.head, (h.man.keep (fun k hk' => hk k (by simp [AF.fix, hk']))).mono hn, h.set.keep (fun k hk' => hk k (by simp [AF.fix, hk'])), g1, h.nd, fun b hb hf => ?_, h.lenU⟩, g2, g3⟩
 rcases g3 b hb with c | c
 ·exact h.nR b c hf
 ·have := h.fixlt hf; omega
set_option maxHeartbeats 2000000 in
set_option maxRecDepth 20000 in
theorem acarveR_any {w : World} {A : AF} {n B : Nat} {m : Al} (h : AlAt w A n B m) (hB : B ≤ 200) (hL : m.fl.upto 900000) (b k : Nat) (hk : k < 32) (hb : 1 ≤ b) (hbB : b < B) (hlen : m.used.length = 512 * B) :
  Calls Tryz.prog 122 #[valloc A, .int .i64 (b : Int), .int .i64 (k : Int)] w fun e w' => e = .returned (.tuple #[]) ∧ AlGoR w w' A n B ⟨m.bm, m.used, m.carved b k⟩ := by
 have HA := LH h
 have HUp := LH hL
 have HCN : Hid (clsCells k ≤ 256) := LH (by
  have := clsWords_pos (k : Int) (by omega)
  unfold clsCells
  exact Nat.div_le_of_le_mul (by omega))
 obtain ⟨N, hN⟩ : ∃ N, N = clsCells k := ⟨_, rfl⟩
 have HAdr : Hid (∀ i : Nat, i < N → cellAt (B : Int) (k : Int) (b : Int) (i : Int) = (cellOf b k i : Nat)) := LH (fun i hi => cellAt_of hk hb hbB (by rw [← hN]; exact hi))
 have HCar : Hid (m.carved b k = m.fl.carve (fun a => m.used.getD a false) (cellOf b k) k N) := LH (by rw [hN]; rfl)
 have HCells := LH (fun w => ccells_any (k : Int) w)
 rw [← hN] at HCN HCells
 clear h hL hN
 go_enter Tryz.func122, Tryz.ntmps122
 go_wp2_with fail
 refine (HCells.out _).mono ?_
 rintro e w1 ⟨rfl, hb1⟩
 have HB1 := LH hb1
 have hN2 := HCN.out
 clear hb1
 go_wp2_with fail
 go_loopw [6] (fun iv wr => ∃ (j : Nat) (T : FL), j ≤ N ∧ iv = .int .i64 ((j : Int) - 1) ∧ Hid (m.carved b k = T.carve (fun a => m.used.getD a false) (cellOf b k) k j) ∧ Hid (T.upto (900000 + (N - j))) ∧ Hid (AlGoR w wr A n B ⟨m.bm, m.used, T⟩)) (fun iv _ => (intOf iv + 1).toNat)
 case atStart => exact ⟨N, m.fl, Nat.le_refl _, vint (by omega), HCar, LH (HUp.out.mono (by omega)), LH ((AlGoR.refl HA.out).later HB1.out)⟩
 case round =>
  clear HB1
  obtain ⟨j, T, hj, rfl, HT, HTu, HGo⟩ := hrel
  cases j with
  | zero =>
   have HFin : Hid (AlGoR w wr A n B ⟨m.bm, m.used, m.carved b k⟩) := LH (by rw [HT.out]; exact HGo.out)
   go_wp2_with fail
   go_end0
   exact ⟨rfl, HFin.out⟩
  | succ i =>
   have hi0 : ((i + 1 : Nat) : Int) - 1 = (i : Int) := by omega
   rw [hi0]
   obtain ⟨R1, ha1, ht1, hr1⟩ := HGo.out
   have HA1 := LH ha1
   have HT1 := LH ht1
   have HR1 := LH hr1
   have c2 := ha1.c2
   clear ha1 ht1 hr1
   have HCs : Hid (T.carve (fun a => m.used.getD a false) (cellOf b k) k (i + 1) = (if m.used.getD (cellOf b k i) false then T else T.pushed k (cellOf b k i)).carve (fun a => m.used.getD a false) (cellOf b k) k i) := LH rfl
   have HAd := LH (caddr_any B (by omega) (k : Int) (b : Int) (i : Int))
   rw [HAdr.out i (by omega)] at HAd
   have HHas := LH (hasI_nat m.used (cellOf b k i))
   generalize cellOf b k i = x at *
   change wr.cell? ⟨A.a, 2, none⟩ = some (.int .i64 (B : Int)) at c2
   go_wp2_with fail
   refine (HAd.out _).mono ?_
   rintro e w2 ⟨rfl, hb2⟩
   have HA2 := LH (HA1.out.below hb2)
   have HB2 := LH hb2
   have c3 := HA2.out.c3
   have c4 := HA2.out.c4
   change w2.cell? ⟨A.a, 3, none⟩ = some (vset A.U) at c3
   change w2.cell? ⟨A.a, 4, none⟩ = some (.pointer (some ⟨A.f, 0, none⟩)) at c4
   clear hb2 c2
   go_wp2_with fail
   refine (shas_any HA2.out.set (x : Int)).mono ?_
   rintro e w3 ⟨rfl, rfl⟩
   dsimp only
   rw [HHas.out]
   cases hu : m.used.getD x false with
   | true =>
    have HNext : Hid (m.carved b k = T.carve (fun a => m.used.getD a false) (cellOf b k) k i) := LH (by rw [HT.out, HCs.out, hu]; rfl)
    clear hu
    go_wp2_with fail
    go_roundw
    case rel => exact ⟨i, T, by omega, vint (by omega), HNext, LH (HTu.out.mono (by omega)), LH (HGo.out.later HB2.out)⟩
    case measure => simp [intOf]
   | false =>
    have HNext : Hid (m.carved b k = (T.pushed k x).carve (fun a => m.used.getD a false) (cellOf b k) k i) := LH (by rw [HT.out, HCs.out, hu]; rfl)
    clear hu
    go_wp2_with fail
    refine (fpush_any HA2.out.free (HTu.out.mono (by omega)) k x hk).mono ?_
    rintro e w4 ⟨rfl, hg4⟩
    have HGo4 : Hid (AlGoR w w4 A n B ⟨m.bm, m.used, T.pushed k x⟩) := LH (AlGoR.trans (HT1.out.later HB2.out) HR1.out (HA2.out.setFreeR (Nat.le_refl _) hg4))
    have HTu4 := LH (FL.pushed_upto HTu.out k x)
    clear hg4
    generalize (if T.has k x = true then (41 : Int) else 0) = er at *
    go_wp2_with fail
    go_roundw
    case rel => exact ⟨i, _, by omega, vint (by omega), HNext, LH (HTu4.out.mono (by omega)), HGo4⟩
    case measure => simp [intOf]
def carveTo (u : List Bool) (L : List Hd) : Nat → FL
 | 0 => FL.empty
 | n + 1 => if (hdGet L ((n + 1 : Nat) : Int)).k = 1 then (carveTo u L n).carve (fun a => u.getD a false) (cellOf (n + 1) (hdGet L ((n + 1 : Nat) : Int)).c.toNat) (hdGet L ((n + 1 : Nat) : Int)).c.toNat (clsCells (hdGet L ((n + 1 : Nat) : Int)).c.toNat) else carveTo u L n
def newUsed (S : Dev) (L : List Hd) : List Bool → List Int → List Bool × Int
 | u, [] => (u, 0)
 | u, x :: xs => if (placedN S L x).isSome = false then (u, 22) else if freshI u x = false then (u, 41) else newUsed S L (addI u x) xs
theorem newUsed_cons (S : Dev) (L : List Hd) (u : List Bool) (x : Int) (xs : List Int) : newUsed S L u (x :: xs) = if (placedN S L x).isSome = false then (u, 22) else if freshI u x = false then (u, 41) else newUsed S L (addI u x) xs := rfl
theorem clsCells_le {k : Nat} (hk : k < 32) : clsCells k ≤ 256 := by
 have := clsWords_pos (k : Int) (by omega)
 unfold clsCells
 exact Nat.div_le_of_le_mul (by omega)
theorem empty_upto : FL.empty.upto 0 := by
 intro i hi
 unfold FL.at FL.empty
 split <;> simp
theorem hd_cls {B : Nat} {m : Bm} (h : BmOk B m) {j : Nat} (h1 : 1 ≤ j) (hj : j < B) (hk : (hdGet m.list (j : Int)).k = 1) : 0 ≤ (hdGet m.list (j : Int)).c ∧ (hdGet m.list (j : Int)).c < 32 := by
 rw [hdGet_at h h1 hj] at hk ⊢
 have hr := of_decide_eq_true (h.right j hj)
 unfold HdRight at hr
 omega
theorem carveTo_upto {B : Nat} {m : Bm} (h : BmOk B m) (u : List Bool) : ∀ n, n < B → (carveTo u m.list n).upto (256 * n)
 | 0, _ => empty_upto
 | n + 1, hn => by
  have ih := carveTo_upto h u n (by omega)
  unfold carveTo
  by_cases c : (hdGet m.list ((n + 1 : Nat) : Int)).k = 1
  ·rw [if_pos c]
   have hc := hd_cls h (by omega) hn c
   exact (FL.carve_upto ih _).mono (by have := clsCells_le (k := (hdGet m.list ((n + 1 : Nat) : Int)).c.toNat) (by omega); omega)
  ·rw [if_neg c]
   exact ih.mono (by omega)
def NewPost (w : World) (X : MF) (n B : Nat) (m : Bm) (xs : List Int) : Ending → World → Prop := fun e w' => Below w.heap.size w w' ∧
  (((newUsed m.dev m.list (List.replicate m.dev.cache.length false) xs).2 = 0 ∧ ∃ A : AF, e = .returned (.tuple #[valloc A, .int .i64 0]) ∧ A.X = X ∧
     AlAt w' A n B ⟨m, (newUsed m.dev m.list (List.replicate m.dev.cache.length false) xs).1, carveTo (newUsed m.dev m.list (List.replicate m.dev.cache.length false) xs).1 m.list (B - 1)⟩ ∧ ∀ k ∈ A.list, k ∈ X.list ∨ w.heap.size ≤ k) ∨
   ((newUsed m.dev m.list (List.replicate m.dev.cache.length false) xs).2 ≠ 0 ∧ e = .returned (.tuple #[.pointer none, .int .i64 (newUsed m.dev m.list (List.replicate m.dev.cache.length false) xs).2])))
set_option maxHeartbeats 8000000 in
set_option maxRecDepth 20000 in
theorem anew_any {w : World} {X : MF} {n B : Nat} {m : Bm} (h : ManAt w X n B m) (hok : BmOk B m) (hB1 : 1 ≤ B) (hB : B ≤ 200) (hlen : m.dev.cache.length = 512 * B) (ua : Option Addr) (ul uc : Nat) (xs : List Int) (hx : xs.length = ul) (hcs : Cells w ua (xs.map (Value.int .i64))) (hul : ul ≤ 1000000) :
  Calls Tryz.prog 70 #[vdev X.F, .pointer (some ⟨X.m, 0, none⟩), .slice ua ul uc] w (NewPost w X n B m xs) := by
 have HM := LH h
 have HOk := LH hok
 have HSm := LH h.dev.small
 have HXm := LH h.mem
 have HX := LH hx
 have HCs := LH hcs
 have HLen := LH hlen
 obtain ⟨u0, hu0⟩ : ∃ u0, u0 = List.replicate m.dev.cache.length false := ⟨_, rfl⟩
 have HU0 : Hid (u0.length = 512 * B) := LH (by rw [hu0, List.length_replicate, hlen])
 have HPost : Hid (∀ A w' u, newUsed m.dev m.list u0 xs = (u, 0) → A.X = X → AlAt w' A n B ⟨m, u, carveTo u m.list (B - 1)⟩ → Below w.heap.size w w' → (∀ k ∈ A.list, k ∈ X.list ∨ w.heap.size ≤ k) → NewPost w X n B m xs (.returned (.tuple #[valloc A, .int .i64 0])) w') := LH (fun A w' u h0 a b c d => by
  unfold NewPost
  rw [← hu0, h0]
  exact ⟨c, .inl ⟨rfl, A, rfl, a, b, d⟩⟩)
 have HPerr : Hid (∀ w' u c, newUsed m.dev m.list u0 xs = (u, c) → c ≠ 0 → Below w.heap.size w w' → NewPost w X n B m xs (.returned (.tuple #[.pointer none, .int .i64 c])) w') := LH (fun w' u c h0 hc hb => by
  unfold NewPost
  rw [← hu0, h0]
  exact ⟨hb, .inr ⟨hc, rfl⟩⟩)
 generalize NewPost w X n B m xs = Post at *
 have hlen1 : 1 ≤ m.dev.cache.length := by omega
 have HL1 := LH hlen1
 have HU0e := LH hu0
 clear h hok hx hcs hlen hu0 hlen1
 go_enter Tryz.func70, Tryz.ntmps70
 go_wp2_with fail
 refine (bgeom_any HM.out).mono ?_
 rintro e w1 ⟨rfl, hb1⟩
 have HM1 := LH (HM.out.below hb1)
 have HB1 := LH hb1
 clear hb1
 go_wp2_with fail
 refine (dlen_any HM1.out.dev).mono ?_
 rintro e w2 ⟨rfl, rfl⟩
 go_wp2_with fail
 refine (snew_any m.dev.cache.length HL1.out HSm.out _).mono ?_
 rintro e w2 ⟨U, rfl, hU2, hb2, hU3⟩
 have HM2 := LH (HM1.out.below hb2)
 have HB2 := LH (HB1.out.trans (hb2.mono HB1.out.size))
 have HU := LH hU2
 have HUn := LH (fun k hk => Nat.le_trans HB1.out.size (hU3 k hk))
 clear hU2 hb2 hU3 HM1
 go_wp2_with fail
 refine (fnew_any _).mono ?_
 rintro e w3 ⟨f, mb, rfl, hf3, hb3, hf4, hf5⟩
 have HM3 := LH (HM2.out.below hb3)
 have HB3 := LH (HB2.out.trans (hb3.mono HB2.out.size))
 have HU3 := LH (HU.out.below hb3)
 have HF := LH hf3
 have HFn : Hid (w2.heap.size ≤ f ∧ w2.heap.size ≤ mb) := LH ⟨hf4, hf5⟩
 have HW2 := LH HB2.out.size
 have HU2m := LH HU.out.mem
 clear hf3 hb3 hf4 hf5 HM2
 go_upto_region 2 with fail
 have hbx := below_alloc w3 (Obj.cells #[.pointer (some ⟨X.m, 0, none⟩), vdev X.F, .int .i64 (B : Int), vset U, .pointer (some ⟨f, 0, none⟩)] 77)
 have hhx := heap_alloc_new w3 (Obj.cells #[.pointer (some ⟨X.m, 0, none⟩), vdev X.F, .int .i64 (B : Int), vset U, .pointer (some ⟨f, 0, none⟩)] 77)
 obtain ⟨A, hA⟩ : ∃ A : AF, A = ⟨w3.heap.size, X, U, f, mb, [f, mb]⟩ := ⟨_, rfl⟩
 have HAA : Hid (A.X = X ∧ ∀ k ∈ A.list, k ∈ X.list ∨ w.heap.size ≤ k) := LH (by
  subst hA
  refine ⟨rfl, fun k hk => ?_⟩
  simp only [AF.list, AF.fix, List.mem_append, List.mem_cons, List.not_mem_nil, or_false] at hk
  have h1 := HW2.out
  have h2 := HB3.out.size
  have h3 := HFn.out
  rcases hk with (rfl | hk | hk) | rfl | rfl
  ·right; exact h2
  ·exact .inl hk
  ·exact .inr (HUn.out k hk)
  ·right; omega
  ·right; omega)
 have HAt : Hid (AlAt (w3.alloc (Obj.cells #[.pointer (some ⟨X.m, 0, none⟩), vdev X.F, .int .i64 (B : Int), vset U, .pointer (some ⟨f, 0, none⟩)] 77)) A n B ⟨m, List.replicate m.dev.cache.length false, FL.empty⟩) := LH (by
  subst hA
  have h1 := HW2.out
  have h2 := HB3.out.size
  have h3 := HFn.out
  have hfm := HF.out.mem
  have hf1 := hfm f (by simp)
  have hf2 := hfm mb (by simp)
  obtain ⟨_, _, _, _, hne⟩ := id HF.out
  have hmbf : f ≠ mb := by obtain ⟨V, hV, _⟩ := id HF.out; exact hV.ne
  obtain ⟨ws, hws⟩ := id HU3.out
  have hune := hws.ne
  have hu1 := HU2m.out U.u (by simp [SetF.list])
  have hu2 := HU2m.out U.b (by simp [SetF.list])
  have hu3 := HUn.out U.u (by simp [SetF.list])
  have hu4 := HUn.out U.b (by simp [SetF.list])
  have hXl : ∀ k, w.heap.size ≤ k → k ∉ X.list := fun k hk hm => by have := HXm.out k hm; omega
  refine ⟨hhx, HM3.out.below hbx, HU3.out.below hbx, (HF.out.below hbx).mono (Nat.zero_le _), ?_, ?_, by simp⟩
  ·show (w3.heap.size :: (X.list ++ [U.u, U.b])).Nodup
   rw [List.nodup_cons, List.nodup_append]
   refine ⟨?_, HM3.out.nd, by simpa using hune, ?_⟩
   ·simp only [List.mem_append, List.mem_cons, List.not_mem_nil, or_false, not_or]
    exact ⟨hXl _ h2, by omega, by omega⟩
   ·intro a ha b hb e
    subst e
    simp only [List.mem_cons, List.not_mem_nil, or_false] at hb
    rcases hb with rfl | rfl
    ·exact hXl _ hu3 ha
    ·exact hXl _ hu4 ha
  ·intro b hb
   show b ∉ w3.heap.size :: (X.list ++ [U.u, U.b])
   simp only [List.mem_cons, List.mem_append, List.not_mem_nil, or_false, not_or] at hb ⊢
   rcases hb with rfl | rfl
   ·exact ⟨by omega, hXl _ (by omega), by omega, by omega⟩
   ·exact ⟨by omega, hXl _ (by omega), by omega, by omega⟩)
 have HB4 := LH (HB3.out.trans (hbx.mono HB3.out.size))
 have HAv : Hid (w3.heap.size = A.a) := LH (by rw [hA])
 have HXe : Hid (A.X = X) := LH HAA.out.1
 generalize w3.alloc _ = w4 at *
 rw [HAv.out]
 have HAr : Hid (∀ b ∈ A.R, w.heap.size ≤ b) := LH (by
  subst hA
  intro b hb
  simp only [List.mem_cons, List.not_mem_nil, or_false] at hb
  have h1 := HB2.out.size
  have h3 := HFn.out
  rcases hb with rfl | rfl <;> omega)
 have HAu : Hid (∀ b ∈ A.U.list, w.heap.size ≤ b) := LH (by subst hA; exact HUn.out)
 rw [← HU0e.out] at HAt
 clear hA hbx hhx HM3 HU3 HF HU2m HUn HFn HW2 HM HXm HB3 HB2 HB1 HU HAv HU0e HL1
 go_wp2_with fail
 go_loopw [27] (fun iv wr => ∃ (i : Nat) (u : List Bool) (R : List Nat), i ≤ ul ∧ iv = .int .i64 (i : Int) ∧ Hid (newUsed m.dev m.list u0 xs = newUsed m.dev m.list u (xs.drop i)) ∧ Hid (u.length = 512 * B) ∧ Hid (AlAt wr (A.re R) n B ⟨m, u, FL.empty⟩) ∧ Hid (Below w.heap.size w wr) ∧ Hid (∀ b ∈ R, w.heap.size ≤ b)) (fun iv _ => ul - (intOf iv).toNat)
 case atStart => exact ⟨0, u0, A.R, Nat.zero_le _, rfl, LH rfl, HU0, HAt, HB4, HAr⟩
 case round =>
  clear HAt HB4 HAr
  obtain ⟨i, u, R, hi, rfl, HNu, HUl, HAt, HBw, HR⟩ := hrel
  by_cases hlt : i < ul
  ·have hlt' : (i : Int) < (ul : Int) := by omega
   have hil : i < xs.length := by rw [HX.out]; exact hlt
   obtain ⟨ub, uo, rfl, hub, hcl⟩ := (HCs.out.below HBw.out (Nat.le_refl _)).atMap (0 : Int) hil
   have e0 := hcl i hil
   obtain ⟨x, hx⟩ : ∃ x, x = xs.getD i 0 := ⟨_, rfl⟩
   have HDr : Hid (xs.drop i = x :: xs.drop (i + 1)) := LH (by
    rw [hx, List.drop_eq_getElem_cons hil, List.getD_eq_getElem?_getD, List.getElem?_eq_getElem hil]; rfl)
   rw [← hx] at e0
   have HNu2 := HNu.out
   rw [HDr.out, newUsed_cons] at HNu2
   have HNu3 := LH HNu2
   clear HNu2 HNu HDr hcl hil hx hub
   go_wp2_with fail
   refine (aplace_any HAt.out (by omega) x).mono ?_
   rintro e w5 ⟨⟨p, d, rfl, _⟩, hb5⟩
   have HA5 := LH (HAt.out.below hb5)
   have HB5 : Hid (Below w.heap.size w w5) := LH (HBw.out.trans (hb5.mono HBw.out.size))
   clear hb5 HAt HBw
   generalize (placedN m.dev m.list x).isSome = bp at *
   have hbx := below_alloc w5 (Obj.cells #[.int .i64 p, .int .i64 d] 211)
   have HA6 := LH (HA5.out.below hbx)
   have HB6 : Hid (Below w.heap.size w _) := LH (HB5.out.trans (hbx.mono HB5.out.size))
   clear hbx HA5 HB5
   cases bp with
   | false =>
    have HE := LH (HPerr.out _ _ _ (by rw [HNu3.out, if_pos rfl]) (by decide) HB6.out)
    clear HNu3 HA6 HB6
    go_wp2_with fail
    exact HE.out
   | true =>
    have HNu4 : Hid (newUsed m.dev m.list u0 xs = if freshI u x = false then (u, 41) else newUsed m.dev m.list (addI u x) (xs.drop (i + 1))) := LH (by rw [HNu3.out, if_neg (by simp)])
    clear HNu3
    have c3 := HA6.out.c3
    change World.cell? _ ⟨A.a, 3, none⟩ = some (vset A.U) at c3
    go_wp2_with fail
    refine (sadd_any HA6.out.set x).mono ?_
    rintro e w7 ⟨rfl, hs7, ht7⟩
    have HB7 : Hid (Below w.heap.size w w7) := LH (HB6.out.trans (ht7.below HB6.out.size HAu.out))
    have hul2 : (addI u x).length = u.length := by
     unfold addI
     split
     ·exact List.length_set
     ·rfl
    obtain ⟨R', hg1, _, hg3⟩ := HA6.out.setUsed hs7 ht7 hul2
    have HA7 : Hid (AlAt w7 (A.re R') n B ⟨m, addI u x, FL.empty⟩) := LH hg1
    have HR7 : Hid (∀ b ∈ R', w.heap.size ≤ b) := LH (fun b hb => (hg3 b hb).elim (HR.out b) (fun c => Nat.le_trans HB6.out.size c))
    have HUl7 : Hid ((addI u x).length = 512 * B) := LH (by rw [hul2, HUl.out])
    clear hs7 ht7 hul2 hg1 hg3 c3 HA6 HB6
    generalize hfr : freshI u x = fr at *
    cases fr with
    | false =>
     have HE := LH (HPerr.out _ _ _ (by rw [HNu4.out, if_pos rfl]) (by decide) HB7.out)
     clear HNu4
     go_wp2_with fail
     exact HE.out
    | true =>
     have HNu5 : Hid (newUsed m.dev m.list u0 xs = newUsed m.dev m.list (addI u x) (xs.drop (i + 1))) := LH (by rw [HNu4.out, if_neg (by simp)])
     clear HNu4 hfr
     go_wp2_with fail
     go_roundw
     case rel => exact ⟨i + 1, _, R', by omega, vint (by omega), HNu5, HUl7, HA7, HB7, HR7⟩
     case measure => simp [intOf]; omega
  ·obtain rfl : i = ul := by omega
   have HNu2 : Hid (newUsed m.dev m.list u0 xs = (u, 0)) := LH (by
    rw [HNu.out, List.drop_of_length_le (by rw [HX.out]; exact Nat.le_refl _)]; rfl)
   clear HNu hlt hi
   have HCt : Hid (carveTo u m.list 0 = FL.empty) := LH rfl
   go_wp2_with fail
   go_loopw [13] (fun bv wr => ∃ (j : Nat) (R : List Nat), j + 1 ≤ B ∧ bv = .int .i64 ((j + 1 : Nat) : Int) ∧ Hid (AlAt wr (A.re R) n B ⟨m, u, carveTo u m.list j⟩) ∧ Hid (Below w.heap.size w wr) ∧ Hid (∀ b ∈ R, w.heap.size ≤ b)) (fun bv _ => B - (intOf bv).toNat)
   case atStart => exact ⟨0, R, by omega, rfl, LH (by rw [HCt.out]; exact HAt.out), HBw, HR⟩
   case round =>
    clear HAt HBw HR HCt
    obtain ⟨j, R, hj1, rfl, HAt, HBw, HR⟩ := hrel
    have c0 := HAt.out.man.c0
    have HMan : Hid (ManAt wr X n B m) := LH (by have := HAt.out.man; rw [show (A.re R).X = X from HXe.out] at this; exact this)
    rw [show (A.re R).X = X from HXe.out] at c0
    go_wp2_with fail
    refine (tlen_any HMan.out.tab).mono ?_
    rintro e w5 ⟨rfl, rfl⟩
    by_cases hlt : j + 1 < B
    ·have hlt' : ((j + 1 : Nat) : Int) < (B : Int) := by omega
     have HGet := LH (tget_any (HMan.out.tab.at (MF.notHot (MF.apart HMan.out.nd).t).1) ((j + 1 : Nat) : Int) (by rw [HMan.out.tab.len]; omega))
     have HCv : Hid (carveTo u m.list (j + 1) = if (hdGet m.list ((j + 1 : Nat) : Int)).k = 1 then (carveTo u m.list j).carve (fun a => u.getD a false) (cellOf (j + 1) (hdGet m.list ((j + 1 : Nat) : Int)).c.toNat) (hdGet m.list ((j + 1 : Nat) : Int)).c.toNat (clsCells (hdGet m.list ((j + 1 : Nat) : Int)).c.toNat) else carveTo u m.list j) := LH rfl
     have HCl := LH (fun (hk : (hdGet m.list ((j + 1 : Nat) : Int)).k = 1) => hd_cls HOk.out (by omega) hlt hk)
     have HUp := LH ((carveTo_upto HOk.out u j (by omega)).mono (show 256 * j ≤ 900000 by omega))
     obtain ⟨J, hJ⟩ : ∃ J, J = j + 1 := ⟨_, rfl⟩
     rw [← hJ] at HGet HCv HCl hlt' hlt ⊢
     have HJ := LH hJ
     clear hJ hj1
     unfold Hd.val at HGet
     generalize hdGet m.list (J : Int) = hd at *
     obtain ⟨k, c, l⟩ := hd
     dsimp only at HGet HCv HCl
     go_wp2_with fail
     refine HGet.out.mono ?_
     rintro e w6 ⟨rfl, hb6⟩
     have hbx := below_alloc w6 (Obj.cells #[.int .i64 k, .int .i64 c, .int .i64 l] 107)
     have HA6 := LH ((HAt.out.below hb6).below hbx)
     have HB6 : Hid (Below w.heap.size w _) := LH ((HBw.out.trans (hb6.mono HBw.out.size)).trans (hbx.mono (Nat.le_trans HBw.out.size hb6.size)))
     clear hb6 hbx HGet HAt HBw HMan c0
     by_cases hk : k = 1
     ·subst hk
      obtain ⟨h1, h2⟩ := HCl.out rfl
      obtain ⟨cc, rfl⟩ := Int.eq_ofNat_of_zero_le h1
      have HCv2 : Hid (carveTo u m.list J = (⟨m, u, carveTo u m.list j⟩ : Al).carved J cc) := LH (by rw [HCv.out, if_pos rfl, HJ.out]; rfl)
      have HCa := LH (acarveR_any HA6.out hB HUp.out J cc (by omega) (by have := HJ.out; omega) hlt HUl.out)
      rw [← HCv2.out] at HCa
      clear HCv HCl HCv2 h1 h2
      go_wp2_with fail
      refine HCa.out.mono ?_
      rintro e w7 ⟨rfl, R', hg1, hg2, hg3⟩
      have HA7 : Hid (AlAt w7 (A.re R') n B ⟨m, u, carveTo u m.list J⟩) := LH hg1
      have HB7 : Hid (Below w.heap.size w w7) := LH (HB6.out.trans (hg2.below HB6.out.size HR.out))
      have HR7 : Hid (∀ b ∈ R', w.heap.size ≤ b) := LH (fun b hb => (hg3 b hb).elim (HR.out b) (fun c => Nat.le_trans HB6.out.size c))
      clear hg1 hg2 hg3 HA6 HB6 HCa
      go_wp2_with fail
      go_roundw
      case rel => exact ⟨J, R', by omega, vint (by omega), HA7, HB7, HR7⟩
      case measure => have hJe := HJ.out; simp [intOf]; omega
     ·have hk1 : ((k : Int) == 1) = false := by simpa using hk
      have HA7 : Hid (AlAt _ (A.re R) n B ⟨m, u, carveTo u m.list J⟩) := LH (by rw [HCv.out, if_neg hk]; exact HA6.out)
      clear HCv HCl HA6
      go_wp2_with fail
      go_roundw
      case rel => exact ⟨J, R, by omega, vint (by omega), HA7, HB6, HR⟩
      case measure => have hJe := HJ.out; simp [intOf]; omega
    ·obtain rfl : B = j + 1 := by omega
     have HFin := LH (HPost.out (A.re R) _ u HNu2.out HXe.out HAt.out HBw.out (fun k hk => (AF.re_list hk).elim (HAA.out.2 k) (fun c => .inr (HR.out k c))))
     clear HAt HBw HR HNu2 HMan c0
     have hlt' : decide (j + 1 < j + 1) = false := by simp
     clear hlt
     go_wp2_with fail
     exact HFin.out
end Go.Proofs.YtpohaahihdhleaaGreat
namespace Go.Proofs.YtpohaahihdhleaaGreat
variable {B : Nat} {m : Al} {bm : Bm}
theorem devWord_is (h : BmOk B bm) {b : Nat} (h1 : 1 ≤ b) (h2 : b < B) : devWord bm.dev b = encN (b : Int) (bm.list.getD b default).k (bm.list.getD b default).c (bm.list.getD b default).l := by
 unfold devWord
 rw [show (256 + (b : Int)) = ((256 + b : Nat) : Int) by omega, peek_in]
 exact h.word b h1 h2
theorem hds_at (f : Nat → Nat) {k q : Nat} (h : q < k) : (hds f k).getD q default = hdF f q := by
 unfold hds
 rw [List.getD_eq_getElem?_getD, List.getElem?_map, List.getElem?_range h]
 rfl
theorem bm_open (h : BmOk B bm) : AllOk (devWord bm.dev) B ∧ ∀ q, 1 ≤ q → (hds (devWord bm.dev) B).getD q default = bm.list.getD q default := by
 refine ⟨fun b h1 h2 => by rw [devWord_is h h1 h2, dec_enc _ _ _ _ (h.right b h2)], fun q h1 => ?_⟩
 by_cases h2 : q < B
 ·rw [hds_at _ h2]
  unfold hdF
  rw [if_neg (by omega), devWord_is h h1 h2, dec_enc _ _ _ _ (h.right q h2)]
 ·rw [List.getD_eq_getElem?_getD, List.getElem?_eq_none (by rw [hds_length]; omega), List.getD_eq_getElem?_getD, List.getElem?_eq_none (by rw [h.lenL]; omega)]
theorem bmOk_open (h : BmOk B bm) : BmOk B (bmOf bm.dev B) := by
 have hq := (bm_open h).2
 unfold bmOf
 refine ⟨hds_length _ _, freeL_len _ _ _, h.clean, fun b hb => ?_, fun b h1 h2 => ?_, fun b => ?_, fun b h1 h2 hk => ?_⟩
 ·dsimp only
  by_cases e : b = 0
  ·subst e
   rw [hds_at _ hb]
   rfl
  ·rw [hq b (by omega)]; exact h.right b hb
 ·dsimp only
  rw [hq b h1]; exact h.word b h1 h2
 ·dsimp only
  rw [freeL_fb]
  unfold freeAt
  constructor
  ·rintro ⟨_, h2, h3, h4⟩
   exact ⟨h2, h3, by simpa using h4⟩
  ·rintro ⟨h2, h3, h4⟩
   exact ⟨h3, h2, h3, by simpa using h4⟩
 ·dsimp only at hk ⊢
  rw [hq b h1] at hk ⊢
  obtain ⟨g1, g2⟩ := h.large b h1 h2 hk
  exact ⟨g1, fun i i1 i2 => by rw [hq _ (by omega)]; exact g2 i i1 i2⟩
theorem snd_open (h : BmOk B bm) (hs : Snd bm.list) : Snd (bmOf bm.dev B).list := by
 have hq := (bm_open h).2
 intro q q1 hk
 rw [show (bmOf bm.dev B).list = hds (devWord bm.dev) B from rfl] at hk ⊢
 rw [hq q q1] at hk
 obtain ⟨a, a1, a2, a3, a4⟩ := hs q q1 hk
 exact ⟨a, a1, a2, by rw [hq a a1]; exact a3, by rw [hq a a1]; exact a4⟩
theorem sound_to (h : BmOk B bm) (hs : Snd bm.list) : ∀ f b, 1 ≤ b → (∀ a, 1 ≤ a → a < b → (bm.list.getD a default).k = 2 → (a : Int) + (bm.list.getD a default).l ≤ (b : Int)) → soundN bm.list f b = 0
 | 0, _, _, _ => rfl
 | f + 1, b, hb, hr => by
  unfold soundN
  by_cases c : bm.list.length ≤ b
  ·rw [if_pos c]
  ·rw [if_neg c]
   have hbB : b < B := by rw [h.lenL] at c; omega
   have hri := of_decide_eq_true (h.right b hbB)
   unfold HdRight at hri
   by_cases h2 : (bm.list.getD b default).k = 2
   ·rw [if_pos h2]
    obtain ⟨g1, g2⟩ := h.large b hb hbB h2
    obtain ⟨l, hl⟩ := Int.eq_ofNat_of_zero_le (show 0 ≤ (bm.list.getD b default).l by omega)
    have hw : wholeN bm.list b = l := by
     refine wholeN_of (by omega) ?_ (by rw [h.lenL]; omega) (fun i i1 i2 => g2 i i1 (by omega))
     have h3 : (bm.list.getD b default).c = 0 := by omega
     generalize bm.list.getD b default = x at *
     obtain ⟨k, c, l'⟩ := x
     dsimp only at h2 h3 hl
     rw [h2, h3, hl]
    rw [hw, if_neg (by omega)]
    refine sound_to h hs f (b + l) (by omega) (fun a a1 a2 hk => ?_)
    by_cases c1 : a < b
    ·have := hr a a1 c1 hk; omega
    ·by_cases c2 : a = b
     ·subst c2; omega
     ·have := g2 (a - b) (by omega) (by omega)
      rw [show b + (a - b) = a by omega] at this
      rw [this] at hk
      exact absurd hk (by simp)
   ·rw [if_neg h2]
    by_cases h3 : (bm.list.getD b default).k = 3
    ·obtain ⟨a, a1, a2, a3, a4⟩ := hs b hb h3
     have := hr a a1 a2 a3
     omega
    ·rw [if_neg h3]
     refine sound_to h hs f (b + 1) (by omega) (fun a a1 a2 hk => ?_)
     by_cases c2 : a = b
     ·subst c2; exact absurd hk h2
     ·have := hr a a1 (by omega) hk; omega
theorem sound_open (h : BmOk B bm) (hs : Snd bm.list) : soundN (hds (devWord bm.dev) B) B 1 = 0 :=
 sound_to (bmOk_open h) (snd_open h hs) B 1 (Nat.le_refl _) (fun a a1 a2 _ => by omega)
structure Like1 (L L' : List Hd) : Prop where
 len : L'.length = L.length
 at_ : ∀ q, 1 ≤ q → L'.getD q default = L.getD q default
theorem Like1.cell {L L' : List Hd} (h : Like1 L L') (k x : Nat) : isCell L' k x ↔ isCell L k x := by
 unfold isCell
 rw [h.len]
 refine and_congr_right fun h1 => ?_
 rw [h.at_ _ (by omega)]
theorem Like1.cont {L L' : List Hd} (h : Like1 L L') {b : Nat} (hb : 1 ≤ b) : ∀ n, contTo L' b n = contTo L b n
 | 0 => rfl
 | n + 1 => by unfold contTo; rw [h.cont hb n, h.at_ _ (by omega)]
theorem Like1.whole {L L' : List Hd} (h : Like1 L L') {b : Nat} (hb : 1 ≤ b) : wholeN L' b = wholeN L b := by
 unfold wholeN
 rw [h.len, h.at_ _ hb, h.cont hb]
theorem Like1.placed {L L' : List Hd} (h : Like1 L L') (S : Dev) (x : Int) : placedN S L' x = placedN S L x := by
 unfold placedN
 rw [h.len]
 by_cases c : x < 512 ∨ 512 * (L.length : Int) ≤ x ∨ (headN S x).code ≠ 0
 ·rw [if_pos c, if_pos c]
 ·rw [if_neg c, if_neg c, h.whole (by omega)]
  simp only [h.cell]
theorem like_open (h : BmOk B bm) : Like1 bm.list (bmOf bm.dev B).list := ⟨by rw [h.lenL]; exact hds_length _ _, (bm_open h).2⟩
def marksOf (u : List Bool) (xs : List Nat) : List Bool := xs.foldl (fun u x => u.set x true) u
theorem getD_set_on {l : List Bool} {a : Nat} (ha : a < l.length) (x : Nat) : (l.set a true).getD x false = if x = a then true else l.getD x false := by
 by_cases e : x = a
 ·subst e
  rw [if_pos rfl, List.getD_eq_getElem?_getD, List.getElem?_set_self ha]
  rfl
 ·rw [if_neg e, List.getD_eq_getElem?_getD, List.getElem?_set_ne (fun h => e h.symm), ← List.getD_eq_getElem?_getD]
theorem newUsed_all {S : Dev} {L : List Hd} : ∀ (xs : List Nat) (u : List Bool), (∀ x ∈ xs, (placedN S L (x : Int)).isSome = true ∧ x < u.length ∧ u.getD x false = false) → xs.Nodup → ∀ ys, newUsed S L u (xs.map (fun x : Nat => (x : Int)) ++ ys) = newUsed S L (marksOf u xs) ys
 | [], u, _, _, ys => rfl
 | x :: xs, u, h, hn, ys => by
  obtain ⟨h1, h2, h3⟩ := h x List.mem_cons_self
  rw [List.map_cons, List.cons_append, newUsed_cons, if_neg (by rw [h1]; simp)]
  have hf : freshI u (x : Int) = true := by
   unfold freshI
   rw [hasI_nat, h3]
   simp [h2]
  rw [if_neg (by rw [hf]; simp), addI_new h2 h3]
  obtain ⟨n1, n2⟩ := List.nodup_cons.1 hn
  rw [newUsed_all xs _ (fun z hz => ?_) n2]
  ·rfl
  ·obtain ⟨g1, g2, g3⟩ := h z (List.mem_cons_of_mem _ hz)
   refine ⟨g1, by rw [List.length_set]; exact g2, ?_⟩
   rw [getD_set_on h2, if_neg (fun e => n1 (by rw [← e]; exact hz))]
   exact g3
end Go.Proofs.YtpohaahihdhleaaGreat
namespace Go.Proofs.YtpohaahihdhleaaGreat
open Go.RowKit
theorem decN_canon {b : Int} {x : Nat} (h : (decN b x).code = 0) : encN b (decN b x).k (decN b x).c (decN b x).l = x ∧ hdRight (decN b x).k (decN b x).c (decN b x).l = true := by
 cases ho : openN x (pl (256 + b)) with
 | none =>
  unfold decN at h
  rw [ho] at h
  simp at h
 | some n =>
  rw [decN_some ho] at h ⊢
  unfold decS at h ⊢
  by_cases h1 : encN b (n % 4 : Nat) (n / 4 % 64 : Nat) (n / 256 % 65536 : Nat) = x
  ·have hr := enc_right ho h1
   rw [if_pos h1, if_pos hr]
   exact ⟨h1, hr⟩
  ·rw [if_neg h1] at h
   simp at h
theorem splice_getDg {α : Type} (l s : List α) (o i : Nat) (d : α) (h : o + s.length ≤ l.length) : (splice l o s).getD i d = if o ≤ i ∧ i < o + s.length then s.getD (i - o) d else l.getD i d := by
 have hl : (l.take o).length = o := by rw [List.length_take]; omega
 unfold splice
 rw [List.getD_eq_getElem?_getD]
 by_cases h1 : i < o
 ·rw [List.getElem?_append_left (by omega), List.getElem?_take, if_pos h1, if_neg (by omega), List.getD_eq_getElem?_getD]
 ·rw [List.getElem?_append_right (by omega), hl]
  by_cases h2 : i < o + s.length
  ·rw [List.getElem?_append_left (by omega), if_pos (by omega), List.getD_eq_getElem?_getD]
  ·rw [List.getElem?_append_right (by omega), List.getElem?_drop, if_neg (by omega), List.getD_eq_getElem?_getD]
   congr 2
   omega
def HdStays (L : List Hd) (x i : Nat) : Prop := 512 ≤ x ∧ x < 512 * L.length ∧ x / 512 ≤ i ∧ i < x / 512 + keepN L (x / 512)
open Classical in
theorem keep1_at (L out : List Hd) (x i : Nat) (h : out.length = L.length) : (keep1 L out x).getD i default = if HdStays L x i then L.getD i default else out.getD i default := by
 unfold keep1
 by_cases c : x < 512 ∨ 512 * L.length ≤ x
 ·rw [if_pos c, if_neg (by rintro ⟨h1, h2, _⟩; omega)]
 ·rw [if_neg c]
  have hb : x / 512 < L.length := by omega
  have hf := keepN_fits hb
  have hl : ((L.drop (x / 512)).take (keepN L (x / 512))).length = keepN L (x / 512) := by rw [List.length_take, List.length_drop]; omega
  rw [splice_getDg _ _ _ _ _ (by rw [hl, h]; exact hf.2), hl]
  by_cases c2 : x / 512 ≤ i ∧ i < x / 512 + keepN L (x / 512)
  ·rw [if_pos c2, if_pos ⟨by omega, by omega, c2.1, c2.2⟩, List.getD_eq_getElem?_getD, List.getElem?_take, if_pos (by omega), List.getElem?_drop, List.getD_eq_getElem?_getD, show x / 512 + (i - x / 512) = i by omega]
  ·rw [if_neg c2, if_neg (fun hh => c2 ⟨hh.2.2.1, hh.2.2.2⟩)]
open Classical in
theorem keepL_at (L : List Hd) (live : List Nat) (i : Nat) : (keepL L live).getD i default = if ∃ x ∈ live, HdStays L x i then L.getD i default else default := by
 have go : ∀ (l : List Nat) (out : List Hd), out.length = L.length → (l.foldl (keep1 L) out).getD i default = if ∃ x ∈ l, HdStays L x i then L.getD i default else out.getD i default := by
  intro l
  induction l with
  | nil => intro out _; simp
  | cons x l ih =>
   intro out h
   show (l.foldl (keep1 L) (keep1 L out x)).getD i default = _
   rw [ih _ (keep1_len L out x h), keep1_at L out x i h]
   by_cases c1 : ∃ y ∈ l, HdStays L y i
   ·rw [if_pos c1, if_pos (by obtain ⟨y, hy, hs⟩ := c1; exact ⟨y, List.mem_cons_of_mem _ hy, hs⟩)]
   ·rw [if_neg c1]
    by_cases c2 : HdStays L x i
    ·rw [if_pos c2, if_pos ⟨x, List.mem_cons_self, c2⟩]
    ·rw [if_neg c2, if_neg (by
      rintro ⟨y, hy, hs⟩
      rcases List.mem_cons.1 hy with rfl | hy
      ·exact c2 hs
      ·exact c1 ⟨y, hy, hs⟩)]
 unfold keepL
 rw [go live _ (by simp)]
 congr 1
 rw [List.getD_eq_getElem?_getD, List.getElem?_replicate]
 split <;> rfl
structure Live (S : Dev) (L : List Hd) (ys : List Nat) : Prop where
 ok : ∀ x ∈ ys, okN S L x
 right : ∀ b, b < L.length → hdRight (L.getD b default).k (L.getD b default).c (L.getD b default).l = true
 zero : L.getD 0 default = default
section
variable {S : Dev} {L : List Hd} {ys : List Nat}
theorem Live.room (h : Live S L ys) {x : Nat} (hx : x ∈ ys) : 512 ≤ x ∧ x < 512 * L.length ∧
  ((keepN L (x / 512) = 1 ∧ (L.getD (x / 512) default).k = 1) ∨ (wholeN L (x / 512) ≠ 0 ∧ keepN L (x / 512) = wholeN L (x / 512))) := by
 have hk := h.ok x hx
 have hlt := okN_lt hk
 obtain ⟨o, ho⟩ := Option.isSome_iff_exists.1 hk
 refine ⟨hlt.1, hlt.2, ?_⟩
 rcases placed_room ho with ⟨k, _, hc, _⟩ | ⟨m, _, _, hm, hw, _⟩
 ·have h1 := isCell_kind hc
  refine .inl ⟨?_, h1⟩
  unfold keepN
  have : wholeN L (x / 512) = 0 := by
   by_cases c : wholeN L (x / 512) = 0
   ·exact c
   ·have := (wholeN_fits c).2.1; omega
  rw [this]; rfl
 ·refine .inr ⟨by omega, ?_⟩
  unfold keepN
  omega
theorem Live.kept (h : Live S L ys) {x : Nat} (hx : x ∈ ys) {i : Nat} (h1 : x / 512 ≤ i) (h2 : i < x / 512 + keepN L (x / 512)) : (keepL L ys).getD i default = L.getD i default := by
 classical
 rw [keepL_at, if_pos ⟨x, hx, (h.room hx).1, (h.room hx).2.1, h1, h2⟩]
theorem Live.kept0 (h : Live S L ys) {x : Nat} (hx : x ∈ ys) : (keepL L ys).getD (x / 512) default = L.getD (x / 512) default := by
 have hr := h.room hx
 have := (keepN_fits (L := L) (b := x / 512) (by omega)).1
 exact h.kept hx (Nat.le_refl _) (by omega)
theorem Live.cases (h : Live S L ys) (i : Nat) : (keepL L ys).getD i default = default ∨ ((keepL L ys).getD i default = L.getD i default ∧ ∃ x ∈ ys, x / 512 ≤ i ∧ i < x / 512 + keepN L (x / 512)) := by
 classical
 rw [keepL_at]
 by_cases c : ∃ x ∈ ys, HdStays L x i
 ·rw [if_pos c]
  obtain ⟨x, hx, hs⟩ := c
  exact .inr ⟨rfl, x, hx, hs.2.2.1, hs.2.2.2⟩
 ·rw [if_neg c]; exact .inl rfl
theorem Live.two (h : Live S L ys) {b : Nat} (hk : ((keepL L ys).getD b default).k = 2) : ∃ x ∈ ys, x / 512 = b ∧ wholeN L b ≠ 0 ∧ keepN L b = wholeN L b := by
 rcases h.cases b with c | ⟨c, x, hx, h1, h2⟩
 ·rw [c] at hk; cases hk
 ·rcases (h.room hx).2.2 with ⟨r1, r2⟩ | ⟨r1, r2⟩
  ·have hb : b = x / 512 := by omega
   rw [c, hb] at hk
   omega
  ·by_cases hb : b = x / 512
   ·exact ⟨x, hx, hb.symm, by rw [hb]; exact r1, by rw [hb]; exact r2⟩
   ·have := (wholeN_fits r1).2.2.2.2 (b - x / 512) (by omega) (by omega)
    rw [show x / 512 + (b - x / 512) = b by omega] at this
    rw [c, this] at hk
    cases hk
theorem Live.three (h : Live S L ys) {b : Nat} (hk : ((keepL L ys).getD b default).k = 3) : ∃ x ∈ ys, x / 512 < b ∧ b < x / 512 + wholeN L (x / 512) ∧ wholeN L (x / 512) ≠ 0 := by
 rcases h.cases b with c | ⟨c, x, hx, h1, h2⟩
 ·rw [c] at hk; cases hk
 ·rcases (h.room hx).2.2 with ⟨r1, r2⟩ | ⟨r1, r2⟩
  ·have hb : b = x / 512 := by omega
   rw [c, hb] at hk
   omega
  ·by_cases hb : b = x / 512
   ·have := (wholeN_fits r1).2.1
    rw [c, hb] at hk
    omega
   ·exact ⟨x, hx, by omega, by omega, r1⟩
theorem Live.whole (h : Live S L ys) {x : Nat} (hx : x ∈ ys) (hw : wholeN L (x / 512) ≠ 0) : wholeN (keepL L ys) (x / 512) = wholeN L (x / 512) := by
 obtain ⟨f1, f2, f3, f4, f5⟩ := wholeN_fits hw
 have hkn : keepN L (x / 512) = wholeN L (x / 512) := by unfold keepN; omega
 refine wholeN_of (by omega) ?_ (by rw [keepL_len]; exact f4) (fun i i1 i2 => ?_)
 ·rw [h.kept0 hx]
  have hr := of_decide_eq_true (h.right (x / 512) f1)
  unfold HdRight at hr
  have h3 : (L.getD (x / 512) default).c = 0 := by omega
  generalize L.getD (x / 512) default = y at *
  obtain ⟨k, c, l⟩ := y
  dsimp only at f2 f3 h3
  rw [f2, h3, f3]
 ·rw [h.kept hx (by omega) (by rw [hkn]; omega)]
  exact f5 i i1 i2
theorem Live.placed (h : Live S L ys) {T : Dev} (hc : ∀ j, 512 ≤ j → T.cache.getD j 0 = S.cache.getD j 0) (hl : T.cache.length = S.cache.length) {x : Nat} (hx : x ∈ ys) : placedN T (keepL L ys) (x : Int) = placedN S L (x : Int) := by
 have hr := h.room hx
 have hp : ∀ i : Nat, peek T.cache ((x : Int) + (i : Int)) = peek S.cache ((x : Int) + (i : Int)) := fun i => by
  rw [show (x : Int) + (i : Int) = ((x + i : Nat) : Int) by omega, peek_in, peek_in]
  exact hc _ (by omega)
 have hh : headN T (x : Int) = headN S (x : Int) := by
  have h0 := hp 0
  simp at h0
  unfold headN
  rw [hl, h0]
 unfold placedN
 rw [hh, keepL_len]
 by_cases c1 : (x : Int) < 512 ∨ 512 * (L.length : Int) ≤ (x : Int) ∨ (headN S (x : Int)).code ≠ 0
 ·rw [if_pos c1, if_pos c1]
 ·rw [if_neg c1, if_neg c1]
  by_cases c2 : small (objSize (headN S (x : Int)).p (headN S (x : Int)).d)
  ·rw [if_pos c2, if_pos c2]
   have hq : isCell (keepL L ys) (ofN (objSize (headN S (x : Int)).p (headN S (x : Int)).d : Nat)) (x : Int).toNat ↔ isCell L (ofN (objSize (headN S (x : Int)).p (headN S (x : Int)).d : Nat)) (x : Int).toNat := by
    rw [Int.toNat_natCast]
    unfold isCell
    rw [keepL_len, h.kept0 hx]
   by_cases c3 : isCell L (ofN (objSize (headN S (x : Int)).p (headN S (x : Int)).d : Nat)) (x : Int).toNat
   ·rw [if_pos c3, if_pos (hq.2 c3)]
   ·rw [if_neg c3, if_neg (fun hh => c3 (hq.1 hh))]
  ·rw [if_neg c2, if_neg c2, Int.toNat_natCast]
   have hob : objBlocks (objSize (headN S (x : Int)).p (headN S (x : Int)).d) = 0 ∨ objBlocks (objSize (headN S (x : Int)).p (headN S (x : Int)).d) ≠ 0 := by omega
   by_cases c3 : wholeN L (x / 512) = 0
   ·have hcase := hr.2.2
    rcases hcase with ⟨r1, r2⟩ | ⟨r1, _⟩
    ·have : wholeN (keepL L ys) (x / 512) = 0 := by
      by_cases c4 : wholeN (keepL L ys) (x / 512) = 0
      ·exact c4
      ·have := (wholeN_fits c4).2.1
       rw [h.kept0 hx] at this
       omega
     rw [this, c3]
    ·exact absurd c3 r1
   ·rw [h.whole hx c3]
theorem Live.bmOk (h : Live S L ys) {T : Dev} {B : Nat} (hL : L.length = B) (hcl : Clean T B) (hw : ∀ b, 1 ≤ b → b < B → T.cache.getD (256 + b) 0 = encN (b : Int) ((keepL L ys).getD b default).k ((keepL L ys).getD b default).c ((keepL L ys).getD b default).l) :
  BmOk B ⟨T, keepL L ys, freeL (freeAt (keepL L ys)) B B⟩ ∧ Snd (keepL L ys) := by
 refine ⟨⟨by rw [keepL_len, hL], freeL_len _ _ _, hcl, fun b hb => ?_, hw, fun b => ?_, fun b h1 h2 hk => ?_⟩, fun b h1 hk => ?_⟩
 ·rcases h.cases b with c | ⟨c, _⟩
  ·dsimp only
   rw [c]; exact right_zero
  ·dsimp only
   rw [c]; exact h.right b (by rw [hL]; exact hb)
 ·dsimp only
  rw [freeL_fb]
  unfold freeAt
  constructor
  ·rintro ⟨_, h2, h3, h4⟩
   exact ⟨h2, h3, by simpa using h4⟩
  ·rintro ⟨h2, h3, h4⟩
   exact ⟨h3, h2, h3, by simpa using h4⟩
 ·dsimp only at hk ⊢
  obtain ⟨x, hx, hb, hw0, hkn⟩ := h.two hk
  obtain ⟨f1, f2, f3, f4, f5⟩ := wholeN_fits hw0
  have hkb : (keepL L ys).getD b default = L.getD b default := by rw [← hb]; exact h.kept0 hx
  rw [hkb]
  refine ⟨by omega, fun i i1 i2 => ?_⟩
  rw [h.kept hx (by omega) (by rw [hb, hkn]; omega)]
  exact f5 i i1 (by omega)
 ·obtain ⟨x, hx, h2, h3, h4⟩ := h.three hk
  have hr := h.room hx
  obtain ⟨f1, f2, f3, f4, f5⟩ := wholeN_fits h4
  refine ⟨x / 512, by omega, h2, ?_, ?_⟩
  ·rw [h.kept0 hx]; exact f2
  ·rw [h.kept0 hx]; omega
end
theorem stores_cache : ∀ (l : List (Nat × Nat)) (S : Dev), (S.stores l).err = 0 → (S.stores l).dev.cache = l.foldl (fun c p => c.set p.1 p.2) S.cache
 | [], S, _ => rfl
 | (i, x) :: l, S, h => by
  rw [stores_cons] at h ⊢
  by_cases he : S.storeE (i : Int) ≠ 0
  ·rw [if_pos he] at h
   exact absurd h he
  ·rw [if_neg he] at h ⊢
   rw [stores_cache l _ h]
   have hc : (S.store (i : Int) x).cache = S.cache.set i x := by
    have he' : S.storeE (i : Int) = 0 := by simpa using he
    unfold Dev.storeE at he'
    unfold Dev.store
    split at he'
    ·simp at he'
    ·rename_i h1
     rw [if_neg h1]
     split at he'
     ·simp at he'
     ·rename_i h2
      rw [if_neg h2]
      simp only [Dev.put, (Dev.step_rest S).2.1, Int.toNat_natCast]
   rw [hc]
   rfl
theorem foldl_set_len (l : List (Nat × Nat)) : ∀ c : List Nat, (l.foldl (fun c p => c.set p.1 p.2) c).length = c.length := by
 induction l with
 | nil => intro c; rfl
 | cons p l ih => intro c; show (l.foldl _ (c.set p.1 p.2)).length = _; rw [ih, List.length_set]
theorem foldl_set_at (G : Nat → Nat) (l : List (Nat × Nat)) (hG : ∀ p ∈ l, p.2 = G p.1) (j : Nat) : ∀ c : List Nat, j < c.length → (l.foldl (fun c p => c.set p.1 p.2) c).getD j 0 = if j ∈ l.map Prod.fst then G j else c.getD j 0 := by
 induction l with
 | nil => intro c _; simp
 | cons p l ih =>
  intro c hj
  show (l.foldl (fun c p => c.set p.1 p.2) (c.set p.1 p.2)).getD j 0 = _
  rw [ih (fun q hq => hG q (List.mem_cons_of_mem _ hq)) _ (by rw [List.length_set]; exact hj)]
  by_cases c1 : j ∈ l.map Prod.fst
  ·rw [if_pos c1, if_pos (by simp at c1 ⊢; exact .inr c1)]
  ·rw [if_neg c1]
   by_cases c2 : j = p.1
   ·subst c2
    rw [if_pos (by simp), getD_setN _ _ _ _ hj, if_pos rfl]
    exact hG p List.mem_cons_self
   ·rw [if_neg (by
     rw [List.map_cons, List.mem_cons]
     rintro (h | h)
     ·exact c2 h
     ·exact c1 h)]
    rw [List.getD_eq_getElem?_getD, List.getElem?_set_ne (fun h => c2 h.symm), ← List.getD_eq_getElem?_getD]
theorem chgL_key {was now : List Hd} {B j : Nat} : j ∈ (chgL was now 1 B).map Prod.fst ↔ ∃ b, 1 ≤ b ∧ b < B ∧ j = 256 + b ∧ was.getD b default ≠ now.getD b default := by
 unfold chgL
 simp only [List.mem_map, List.mem_filter, List.mem_range', decide_eq_true_eq]
 constructor
 ·rintro ⟨p, ⟨b, ⟨⟨i, hi, rfl⟩, hne⟩, rfl⟩, rfl⟩
  exact ⟨1 + 1 * i, by omega, by omega, rfl, hne⟩
 ·rintro ⟨b, h1, h2, rfl, hne⟩
  exact ⟨_, ⟨b, ⟨⟨b - 1, by omega, by omega⟩, hne⟩, rfl⟩, rfl⟩
theorem rewrite_ok {S : Dev} (hi : S.inv) {B : Nat} (hlen : S.cache.length = 512 * B) (hB : 2 ≤ B) (hcl : ∀ b, 1 ≤ b → b < B → S.dirty.getD ((256 + b) / 8) false = false) {was now : List Hd}
  (hw : ∀ b, 1 ≤ b → b < B → S.cache.getD (256 + b) 0 = encN (b : Int) (was.getD b default).k (was.getD b default).c (was.getD b default).l) (he : (S.rewrite was now B).err = 0) :
  Clean (S.rewrite was now B).dev B ∧ (S.rewrite was now B).dev.cache.length = S.cache.length ∧
  (∀ b, 1 ≤ b → b < B → (S.rewrite was now B).dev.cache.getD (256 + b) 0 = encN (b : Int) (now.getD b default).k (now.getD b default).c (now.getD b default).l) ∧
  (∀ j, j < 257 ∨ 256 + B ≤ j → (S.rewrite was now B).dev.cache.getD j 0 = S.cache.getD j 0) := by
 unfold Dev.rewrite at he ⊢
 by_cases hn : chgL was now 1 B = []
 ·rw [if_pos hn]
  refine ⟨⟨hi, by rw [hlen]; omega, hcl⟩, rfl, fun b h1 h2 => ?_, fun j _ => rfl⟩
  have hsame : was.getD b default = now.getD b default := by
   by_cases c : was.getD b default = now.getD b default
   ·exact c
   ·have : 256 + b ∈ (chgL was now 1 B).map Prod.fst := chgL_key.2 ⟨b, h1, h2, rfl, c⟩
    rw [hn] at this
    cases this
  rw [← hsame]
  exact hw b h1 h2
 ·rw [if_neg hn] at he ⊢
  have hs0 : (S.stores (chgL was now 1 B)).err = 0 := by
   by_cases c : (S.stores (chgL was now 1 B)).err = 0
   ·exact c
   ·unfold Done.bind at he
    rw [if_pos c] at he
    exact absurd he c
  have hbd : (S.stores (chgL was now 1 B)).bind (fun S => S.persist 257 ((B : Int) - 1)) = (S.stores (chgL was now 1 B)).dev.persist 257 ((B : Int) - 1) := by
   unfold Done.bind
   rw [if_neg (by rw [hs0]; simp)]
  rw [hbd] at he ⊢
  have hinv : (S.stores (chgL was now 1 B)).dev.inv := stores_inv hi _ (fun p hp => by
   unfold chgL at hp
   obtain ⟨b, _, rfl⟩ := List.mem_map.1 hp
   exact encN_lt _ _ _ _)
  have hca := stores_cache _ _ hs0
  have hcl2 : (S.stores (chgL was now 1 B)).dev.cache.length = S.cache.length := by rw [hca, foldl_set_len]
  have e1 : ((B : Int) - 1) = ((B - 1 : Nat) : Int) := by omega
  have e2 : (257 : Int) = ((257 : Nat) : Int) := rfl
  rw [e1, e2] at he ⊢
  obtain ⟨p1, p2, p3, p4, p5⟩ := Dev.persist_clean hinv 257 (B - 1) (by omega) he
  have hat : ∀ j, j < S.cache.length → ((S.stores (chgL was now 1 B)).dev.persist ((257 : Nat) : Int) ((B - 1 : Nat) : Int)).dev.cache.getD j 0 = if j ∈ (chgL was now 1 B).map Prod.fst then encN ((j - 256 : Nat) : Int) (now.getD (j - 256) default).k (now.getD (j - 256) default).c (now.getD (j - 256) default).l else S.cache.getD j 0 := fun j hj => by
   rw [p1, hca]
   exact foldl_set_at (fun j => encN ((j - 256 : Nat) : Int) (now.getD (j - 256) default).k (now.getD (j - 256) default).c (now.getD (j - 256) default).l) _ (fun p hp => by
    unfold chgL at hp
    obtain ⟨b, _, rfl⟩ := List.mem_map.1 hp
    dsimp only
    rw [show 256 + b - 256 = b by omega]) j _ hj
  refine ⟨⟨Dev.persist_inv hinv _ _, by rw [p1, hcl2, hlen]; omega, fun b h1 h2 => p4 (256 + b) (by omega) (by omega)⟩, by rw [p1, hcl2], fun b h1 h2 => ?_, fun j hj => ?_⟩
  ·have := hat (256 + b) (by rw [hlen]; omega)
   rw [this]
   by_cases c : was.getD b default = now.getD b default
   ·rw [if_neg (fun hh => by
     obtain ⟨b', _, _, e, hne⟩ := chgL_key.1 hh
     obtain rfl : b = b' := by omega
     exact hne c), ← c]
    exact hw b h1 h2
   ·rw [if_pos (chgL_key.2 ⟨b, h1, h2, rfl, c⟩), show 256 + b - 256 = b by omega]
  ·by_cases hjl : j < S.cache.length
   ·have := hat j hjl
    rw [this, if_neg (fun hh => by
     obtain ⟨b', _, _, e, _⟩ := chgL_key.1 hh
     omega)]
   ·have h3 : ((S.stores (chgL was now 1 B)).dev.persist ((257 : Nat) : Int) ((B - 1 : Nat) : Int)).dev.cache.length = S.cache.length := by rw [p1, hcl2]
    rw [getD_zero_of (by rw [h3]; omega), getD_zero_of (by omega)]
theorem lookE_zero {S : Dev} (h : lookE S = 0) : (supR S).2.2 = 0 ∧ AllOk (devWord S) (supR S).1 ∧ (rootsN S).2.2.2 = true ∧ CloOk (okN S (lookL S)) (ptrN S) (rootL S) := by
 unfold lookE at h
 by_cases c1 : (supR S).2.2 ≠ 0
 ·rw [if_pos c1] at h; simp at h
 ·rw [if_neg c1] at h
  by_cases c2 : ¬ AllOk (devWord S) (supR S).1
  ·rw [if_pos c2] at h; simp at h
  ·rw [if_neg c2] at h
   by_cases c3 : (rootsN S).2.2.2 = false
   ·rw [if_pos c3] at h; simp at h
   ·rw [if_neg c3] at h
    by_cases c4 : ¬ CloOk (okN S (lookL S)) (ptrN S) (rootL S)
    ·rw [if_pos c4] at h; simp at h
    ·exact ⟨by simpa using c1, Classical.not_not.1 c2, by simpa using c3, Classical.not_not.1 c4⟩
theorem devWord_at (S : Dev) (b : Nat) : devWord S b = S.cache.getD (256 + b) 0 := by
 unfold devWord
 rw [show (256 : Int) + (b : Int) = ((256 + b : Nat) : Int) by omega, peek_in]
theorem hds_hd {f : Nat → Nat} {B : Nat} {b : Nat} (h1 : 1 ≤ b) (h2 : b < B) : (hds f B).getD b default = ⟨(decN b (f b)).k, (decN b (f b)).c, (decN b (f b)).l⟩ := by
 rw [hds_at _ h2]
 unfold hdF
 rw [if_neg (show ¬ b = 0 by omega)]
theorem word_aux {x : Nat} {i : Int} {d : Dec} {z : Hd} (hz : z = ⟨d.k, d.c, d.l⟩) (h : encN i d.k d.c d.l = x ∧ hdRight d.k d.c d.l = true) : x = encN i z.k z.c z.l ∧ hdRight z.k z.c z.l = true := by
 have e1 : z.k = d.k := by rw [hz]
 have e2 : z.c = d.c := by rw [hz]
 have e3 : z.l = d.l := by rw [hz]
 rw [e1, e2, e3]
 exact ⟨h.1.symm, h.2⟩
theorem hds_word {f : Nat → Nat} {B : Nat} (h : AllOk f B) {b : Nat} (h1 : 1 ≤ b) (h2 : b < B) : f b = encN (b : Int) ((hds f B).getD b default).k ((hds f B).getD b default).c ((hds f B).getD b default).l ∧ hdRight ((hds f B).getD b default).k ((hds f B).getD b default).c ((hds f B).getD b default).l = true :=
 word_aux (hds_hd h1 h2) (decN_canon (h b h1 h2))
theorem look_live {S : Dev} (h : lookE S = 0) {ys : List Nat} (hy : ∀ x ∈ ys, okN S (lookL S) x) : Live S (lookL S) ys := by
 obtain ⟨h1, h2, _, _⟩ := lookE_zero h
 have hs := supR_ok h1
 refine ⟨hy, fun b hb => ?_, ?_⟩
 ·unfold lookL at hb ⊢
  rw [hds_length] at hb
  by_cases c : b = 0
  ·subst c
   rw [hds_at _ hb]
   unfold hdF
   rw [if_pos rfl]
   exact right_zero
  ·exact (hds_word h2 (by omega) hb).2
 ·unfold lookL
  rw [hds_at _ (by omega)]
  unfold hdF
  rw [if_pos rfl]
  rfl
theorem reopen_ok {S T : Dev} {n : Nat} {L K : List Hd} {ys : List Nat} (hn : n = (supR S).1) (hL0 : L = lookL S) (hK : K = keepL L ys) (hT : T = (S.rewrite L K n).dev) (hi : S.inv) (hcl : ∀ l, S.dirty.getD l false = false) (h : lookE S = 0) (hy : ∀ x ∈ ys, okN S L x) (hnd : ys.Nodup) (he : (S.rewrite L K n).err = 0) :
  BmOk n (bmOf T n) ∧ AllOk (devWord T) n ∧ soundN (hds (devWord T) n) n 1 = 0 ∧ T.cache.length = 512 * n ∧
  newUsed T (bmOf T n).list (List.replicate T.cache.length false) (ys.map (fun x : Nat => (x : Int))) = (marksOf (List.replicate T.cache.length false) ys, 0) ∧
  (∀ b, 1 ≤ b → (hds (devWord T) n).getD b default = K.getD b default) := by
 obtain ⟨h1, h2, _, _⟩ := lookE_zero h
 obtain ⟨s1, s2, s3⟩ := supR_ok h1
 rw [← hn] at h2 s1 s2 s3
 have hlv : Live S L ys := by rw [hL0] at hy ⊢; exact look_live h hy
 have hL : L.length = n := by rw [hL0, hn]; unfold lookL; exact hds_length _ _
 have hw : ∀ b, 1 ≤ b → b < n → S.cache.getD (256 + b) 0 = encN (b : Int) (L.getD b default).k (L.getD b default).c (L.getD b default).l := fun b b1 b2 => by
  rw [← devWord_at, hL0]
  unfold lookL
  rw [← hn]
  exact (hds_word h2 b1 b2).1
 obtain ⟨r1, r2, r3, r4⟩ := rewrite_ok hi s3.symm s1 (fun b _ _ => hcl _) hw he
 rw [← hT] at r1 r2 r3 r4
 rw [hK] at r3
 obtain ⟨bm, hb, hs, hdev, hlist⟩ : ∃ bm : Bm, BmOk n bm ∧ Snd bm.list ∧ bm.dev = T ∧ bm.list = keepL L ys := by
  obtain ⟨b1, b2⟩ := hlv.bmOk hL r1 r3
  exact ⟨_, b1, b2, rfl, rfl⟩
 have q1 := bmOk_open hb
 have q2 := bm_open hb
 have q3 := sound_open hb hs
 have hlk := like_open hb
 rw [hdev] at q1 q2 q3 hlk
 rw [hlist] at q2 hlk
 have hTl : T.cache.length = 512 * n := by rw [r2, s3]
 have hpl : ∀ x ∈ ys, (placedN T (bmOf T n).list (x : Int)).isSome = true := fun x hx => by
  rw [hlk.placed T (x : Int), hlv.placed (T := T) (fun j hj => r4 j (.inr (by omega))) r2 hx]
  exact hy x hx
 have hnu := newUsed_all (S := T) (L := (bmOf T n).list) ys (List.replicate T.cache.length false) (fun x hx => ⟨hpl x hx, by
  have hr := hlv.room hx
  rw [List.length_replicate, hTl, ← hL]; exact hr.2.1, by
  rw [List.getD_eq_getElem?_getD, List.getElem?_replicate]; split <;> rfl⟩) hnd []
 rw [List.append_nil] at hnu
 have hend : newUsed T (bmOf T n).list (marksOf (List.replicate T.cache.length false) ys) [] = (marksOf (List.replicate T.cache.length false) ys, 0) := by
  unfold newUsed; rfl
 rw [hend] at hnu
 rw [hK]
 exact ⟨q1, q2.1, q3, hTl, hnu, q2.2⟩
end Go.Proofs.YtpohaahihdhleaaGreat
namespace Go.Proofs.YtpohaahihdhleaaGreat
open Go.RowKit Go.Maps
def RvOpen (S : Dev) (F : Foot) (w : World) : Ending → World → Prop := fun e w' => Touch F.list w w' ∧
  ((lookE S ≠ 0 ∧ e = .returned (.tuple #[.agg stZ, .int .i64 (lookE S)]) ∧ DevAt w' F S) ∨
   (lookE S = 0 ∧ ∃ ys : List Nat, ys.Pairwise (· < ·) ∧ (∀ x, x ∈ ys ↔ Rch (okN S (lookL S)) (ptrN S) (rootL S) x) ∧
     (((S.rewrite (lookL S) (keepL (lookL S) ys) (supR S).1).err ≠ 0 ∧ e = .returned (.tuple #[.agg stZ, .int .i64 (S.rewrite (lookL S) (keepL (lookL S) ys) (supR S).1).err]) ∧ DevAt w' F (S.rewrite (lookL S) (keepL (lookL S) ys) (supR S).1).dev) ∨
      ((S.rewrite (lookL S) (keepL (lookL S) ys) (supR S).1).err = 0 ∧ ∃ (A : AF) (nn g : Nat) (lv : Value), e = .returned (.tuple #[stV (supR S).1 (supR S).2.1 (valloc A) (.pointer (some ⟨g, 0, none⟩)) lv, .int .i64 0]) ∧ A.X.F = F ∧ nn ≤ 1000000 ∧
        AlAt w' A nn (supR S).1 ⟨bmOf (S.rewrite (lookL S) (keepL (lookL S) ys) (supR S).1).dev (supR S).1, marksOf (List.replicate (S.rewrite (lookL S) (keepL (lookL S) ys) (supR S).1).dev.cache.length false) ys, carveTo (marksOf (List.replicate (S.rewrite (lookL S) (keepL (lookL S) ys) (supR S).1).dev.cache.length false) ys) (bmOf (S.rewrite (lookL S) (keepL (lookL S) ys) (supR S).1).dev (supR S).1).list ((supR S).1 - 1)⟩ ∧
        RootsAt w' g F (rootsN S).1 (rootsN S).2.1 (rootsN S).2.2.1 ∧ OwnI w' lv ys ∧ (∀ k ∈ A.list, k ∈ F.list ∨ w.heap.size ≤ k) ∧ (∀ b, rowOf lv = some b → w.heap.size ≤ b) ∧ w.heap.size ≤ g))))
set_option maxHeartbeats 8000000 in
set_option maxRecDepth 20000 in
theorem rvopen_any {w : World} {F : Foot} {S : Dev} (h : DevAt w F S) (hi : S.inv) (hcl : ∀ l, S.dirty.getD l false = false) {N : Nat} (hN : N ≤ 800000000) (ho : S.ok N) (hs2 : S.cache.length ≤ 102400) :
  Calls Tryz.prog 22 #[vdev F] w (RvOpen S F w) := by
 obtain ⟨Post, hPo⟩ : ∃ P, P = RvOpen S F w := ⟨_, rfl⟩
 have HPo := LH hPo
 rw [← hPo]
 clear hPo
 have HD := LH h
 have HI := LH hi
 have HCl := LH hcl
 have HO := LH ho
 have HB0 := LH h.mem
 have hsm := h.small
 have HLk := LH (fun w' (hb : Below w.heap.size w w') => look_any (h.below hb))
 have HM := LH (Mem.one w #[.int .i64 0, .int .u64 0, .int .i64 0, .pointer none, .pointer none, .slice none 0 0] 49)
 clear h hi hcl ho
 go_enter Tryz.func22, Tryz.ntmps22
 go_upto_region 1 with fail
 obtain ⟨q1, hq1⟩ : ∃ q, q = w.heap.size := ⟨_, rfl⟩
 rw [← hq1] at HM ⊢
 have HQ1 := LH hq1
 generalize w.alloc _ = w1 at *
 clear hq1
 have HM1 : Hid (Mem w w1 [⟨q1, 49, [.int .i64 0, .int .u64 0, .int .i64 0, .pointer none, .pointer none, .slice none 0 0], true⟩]) := LH (by simpa using HM.out)
 clear HM
 go_wp2_with fail
 refine (HLk.out w1 HM1.out.below).mono ?_
 rintro e w2 ⟨hb2, ⟨hlk, g, lg, lc, lv, ys, rfl, hrt, hg, hrow, hlg, hlc, hlv, hso, hys, hrw⟩ | ⟨hlk, rfl⟩⟩
 case inr =>
  have HM2 := LH (((HM1.out.later hb2).alloc #[.int .i64 0, .int .u64 0, .int .i64 0, .pointer none, .pointer none, .slice none 0 0] 49).r)
  have HB2 : Hid (Below w.heap.size w (w2.alloc (.cells #[.int .i64 0, .int .u64 0, .int .i64 0, .pointer none, .pointer none, .slice none 0 0] 49))) := LH (((HM1.out.later hb2).alloc #[.int .i64 0, .int .u64 0, .int .i64 0, .pointer none, .pointer none, .slice none 0 0] 49).below)
  obtain ⟨le, hle⟩ : ∃ le, le = lookE S := ⟨_, rfl⟩
  rw [← hle] at hlk ⊢
  have he' : (le != 0) = true := by simpa using hlk
  have HLe := LH hle
  have HNe := LH hlk
  rw [show stZ = #[.int .i64 0, .int .u64 0, .int .i64 0, .pointer none, .pointer none, .slice none 0 0] from rfl]
  clear hb2 hlk hle HLk
  go_upto_region 2 with fail
  generalize w2.alloc _ = w3 at *
  go_wp2_with (refine wpList_store_r aggSt HM2.out 0 rfl rfl rfl rfl rfl rfl rfl rfl ?_; intro w6 h6 ht6; have H6 := LH h6; have HT6 := LH ht6; clear h6 ht6)
  refine bodyPost_ret (results_cell_row2 (p := 2) (u := 3) rfl _ _ _ _ _ _ _ rfl (H6.out.exact 0 rfl) Tryz.underlying49 rfl (by kernel_rfl)) rfl ?_
  rw [HPo.out]
  refine ⟨(Touch.ofBelow HB2.out).own HT6.out (fun k hk => .inl (by simp at hk; subst hk; rw [HQ1.out]; exact Nat.le_refl _)), .inl ⟨by rw [← HLe.out]; exact HNe.out, by rw [← HLe.out]; rfl, (HD.out.below HB2.out).keep (fun k hk => HT6.out.block k (Nat.lt_of_lt_of_le (HB0.out k hk) HB2.out.size) (by simp; rw [HQ1.out]; exact Nat.ne_of_lt (HB0.out k hk)))⟩⟩
 obtain ⟨n, hn⟩ : ∃ n, n = (supR S).1 := ⟨_, rfl⟩
 obtain ⟨id, hid⟩ : ∃ id, id = (supR S).2.1 := ⟨_, rfl⟩
 obtain ⟨h0, _, _, _⟩ := lookE_zero hlk
 have hsz := supR_ok h0
 obtain ⟨L, hL⟩ : ∃ L, L = lookL S := ⟨_, rfl⟩
 have hLl : L.length = n := by rw [hL, hn]; unfold lookL; exact hds_length _ _
 rw [← hn] at hsz hlc ⊢
 rw [← hid]
 rw [← hL] at hrow hys
 obtain ⟨va, vc, hv, hvc, _⟩ := hlv.cells
 obtain ⟨vl, hvl⟩ : ∃ l, l = ys.length := ⟨_, rfl⟩
 rw [← hvl] at hv
 subst hv
 have HM2 := LH ((HM1.out.later hb2).alloc #[.int .i64 (n : Int), vu64 id, .int .i64 (n : Int), .pointer none, .pointer (some ⟨g, 0, none⟩), .slice va vl vc] 49)
 have hba := below_alloc w2 (.cells #[.int .i64 (n : Int), vu64 id, .int .i64 (n : Int), .pointer none, .pointer (some ⟨g, 0, none⟩), .slice va vl vc] 49)
 have HRow := LH (hrow.below hba)
 have HCv := LH (hvc.below hba (Nat.le_refl _))
 have HRt := LH (hrt.below hba (Nat.le_refl _))
 have HLv := LH (hlv.keep (fun b hb => hba.block b (hlv.lt b hb)))
 have HYs := LH hys
 have HSo := LH hso
 have hnd : ys.Nodup := hso.imp (fun h => Nat.ne_of_lt h)
 have hyl : ys.length ≤ 512 * n := by
  refine nodup_len _ _ (fun x hx => ?_) (nodup_count hnd)
  have := (okN_lt ((hys x).1 hx).ok').2
  rw [hLl] at this; exact this
 have HGs : Hid (w.heap.size ≤ g ∧ w.heap.size ≤ lg ∧ (∀ b, rowOf (.slice va vl vc) = some b → w.heap.size ≤ b) ∧ w1.heap.size ≤ g ∧ w1.heap.size ≤ lg) := LH ⟨Nat.le_trans HM1.out.below.size hg, Nat.le_trans HM1.out.below.size hlg, fun b hb => Nat.le_trans HM1.out.below.size (hrw b hb), hg, hlg⟩
 have HLt2 : Hid (g < w2.heap.size ∧ ∀ b, rowOf (.slice va vl vc) = some b → b < w2.heap.size) := LH ⟨lt_of_head hrt, fun b hb => hlv.lt b hb⟩
 have HLt1 : Hid (q1 < w1.heap.size ∧ ∀ b, rowOf (.slice va vl vc) = some b → w1.heap.size ≤ b) := LH ⟨HM1.out.glt 0 rfl, hrw⟩
 have HNd := LH hnd
 have HVl := LH hvl
 have HNn := LH hn
 have HId := LH hid
 have HLL := LH hL
 have HLn := LH hLl
 have HLz := LH hlk
 have HSz := LH hsz
 have hn2 := hsz.1
 have hn256 := hsz.2.1
 have hvl9 : vl ≤ 1000000 := by rw [hvl]; omega
 have hlc2 := hlc
 clear hb2 hrow hvc hrt hlv hys hso hg hlg hrw hnd hyl hvl hn hid hL hLl hlk hsz hba h0 HLk hlc
 unfold stV
 go_upto_region 4 with fail
 obtain ⟨q2, hq2⟩ : ∃ q, q = w2.heap.size := ⟨_, rfl⟩
 rw [← hq2] at HM2 HLt2 ⊢
 generalize w2.alloc _ = w3 at *
 clear hq2
 have HM3 : Hid (Mem w w3 [⟨q1, 49, [.int .i64 0, .int .u64 0, .int .i64 0, .pointer none, .pointer none, .slice none 0 0], true⟩, ⟨q2, 49, [.int .i64 (n : Int), vu64 id, .int .i64 (n : Int), .pointer none, .pointer (some ⟨g, 0, none⟩), .slice va vl vc], true⟩]) := LH (by simpa using HM2.out)
 clear HM2 HM1
 have c2 := HM3.out.cell 1 2 rfl rfl
 have c5 := HM3.out.cell 1 5 rfl rfl
 have r2 := fun x => later_cell c2 x
 have r5 := fun x => later_cell c5 x
 clear c2 c5
 refine wp_region_seg (C := fun w' => ∃ x : Later (w3), w' = x.val) [.fl [0, 1, 2, 3, 4, 5, 6, 7, 8], .sq [9] true, .sq [10, 11] false] (by kernel_rfl) (by kernel_rfl) (by intro c a d v w h; cases d <;> exact h) ?_
 simp only [segs, picks, List.getElem?_cons_succ, List.getElem?_cons_zero]
 have hC1 := later_drew (w3)
 refine wpSeg_fl hC1 ?_
 repeat (first | go_big_quiet_step (fail) | quiet_step (fail))
 refine wpQuiet_nil ?_
 have hbd := later_below hC1
 have HM4 := LH (HM3.out.later hbd)
 have HRow4 := LH (HRow.out.below hbd)
 have HCv4 := LH (HCv.out.below hbd (Nat.le_refl _))
 have HRt4 := LH (HRt.out.below hbd (Nat.le_refl _))
 have HLv4 := LH (HLv.out.keep (fun b hb => hbd.block b (HLv.out.lt b hb)))
 generalize w3.drew = w4 at *
 clear r2 r5 hbd HRow HCv HRt HLv HM3
 refine wpSeg_sq (fun K hK => ?_)
 go_wp2_with fail
 refine (keep_any HLn.out (by omega) (by omega) HRow4.out hlc2 va vl vc ys HVl.out.symm HCv4.out hvl9 (fun x hx => by
  have := (okN_lt ((HYs.out x).1 hx).ok').2
  rw [HLn.out] at this
  omega)).mono ?_
 rintro e w5 ⟨kg, kc, rfl, hkg, hkc, hkrow, hb5⟩
 rw [HLn.out] at hkc ⊢
 have hC2 := later_step hC1 hb5
 have HM5 := LH (HM4.out.later hb5)
 have HRow5 := LH (HRow4.out.below hb5)
 have HRt5 := LH (HRt4.out.below hb5 (Nat.le_refl _))
 have HLv5 := LH (HLv4.out.keep (fun b hb => hb5.block b (HLv4.out.lt b hb)))
 have HCv5 := LH (HCv4.out.below hb5 (Nat.le_refl _))
 have HK := LH hkrow
 have HKg : Hid (w.heap.size ≤ kg) := LH (Nat.le_trans HM4.out.below.size hkg)
 clear hb5 hkrow hkg HM4 HRow4 HRt4 HLv4 HCv4
 go_wp2_with fail
 refine hK _ _ (fun _ => hC2) ?_
 clear hK K
 clear hC1 hC2
 refine wpSeg_last ?_
 go_wp2_with fail
 have HFq : Hid (∀ k, w.heap.size ≤ k → k ∉ F.list) := LH (fun k hk hm => by have := HB0.out k hm; omega)
 refine (rvwrite_any (HD.out.below HM5.out.below) (by omega : N ≤ 900000000) HO.out (was := L) (now := keepL L ys) HLn.out (by rw [keepL_len]; exact HLn.out) (by omega) (by omega) HRow5.out HK.out (HFq.out lg HGs.out.2.1) (HFq.out kg HKg.out)).mono ?_
 rintro e w6 ⟨rfl, hd6, ht6⟩
 have HM6 := LH (HM5.out.r.touch ht6 (fun k hk => HB0.out k hk))
 have HT6 : Hid (Touch F.list w w6) := LH ((Touch.ofBelow HM5.out.below).trans ht6)
 have HD6 := LH hd6
 have HRt6 : Hid (RootsAt w6 g F (rootsN S).1 (rootsN S).2.1 (rootsN S).2.2.1) := LH ((ht6.block g (lt_of_head HRt5.out) (HFq.out g HGs.out.1)).trans HRt5.out)
 have HLv6 := LH (HLv5.out.keep (fun b hb => ht6.block b (HLv5.out.lt b hb) (HFq.out b (HGs.out.2.2.1 b hb))))
 obtain ⟨va', vc', hv', hvc', _⟩ := HLv6.out.cells
 injection hv' with hv1 hv2 hv3
 subst hv1 hv3
 have HCv6 := LH hvc'
 clear hd6 ht6 HM5 HRow5 HRt5 HLv5 HCv5 HK hvc' hv2
 obtain ⟨⟨T, er⟩, hR⟩ : ∃ R, R = S.rewrite L (keepL L ys) n := ⟨_, rfl⟩
 have HR := LH hR
 rw [← hR] at HD6 ⊢
 dsimp only at HD6 ⊢
 clear hR
 by_cases he : er = 0
 case neg =>
  have he' : (er != 0) = true := by simpa using he
  have HNe := LH he
  have HT6o := LH HT6.out
  clear he
  go_wp2_with (refine wpList_store_r aggSt HM6.out 0 rfl rfl rfl rfl rfl rfl rfl rfl ?_; intro w6 h6 ht6; have H6 := LH h6; have HT6' := LH ht6; clear h6 ht6)
  refine bodyPost_ret (results_cell_row2 (p := 2) (u := 3) rfl _ _ _ _ _ _ _ rfl (H6.out.exact 0 rfl) Tryz.underlying49 rfl (by kernel_rfl)) rfl ?_
  rw [HPo.out]
  refine ⟨⟨HT6'.out.os.trans HT6o.out.os, HT6'.out.tape.trans HT6o.out.tape, HT6'.out.output.trans HT6o.out.output, Nat.le_trans HT6o.out.size HT6'.out.size, fun k h1 h2 => (HT6'.out.block k (Nat.lt_of_lt_of_le h1 HT6o.out.size) (by simp; rw [HQ1.out]; exact Nat.ne_of_lt h1)).trans (HT6o.out.block k h1 h2)⟩, .inr ⟨HLz.out, ys, HSo.out, by rw [← HLL.out]; exact HYs.out, .inl ⟨by rw [← HLL.out, ← HNn.out, ← HR.out]; exact HNe.out, by rw [← HLL.out, ← HNn.out, ← HR.out]; rfl, ?_⟩⟩⟩
  rw [← HLL.out, ← HNn.out, ← HR.out]
  exact HD6.out.keep (fun k hk => HT6'.out.block k (Nat.lt_of_lt_of_le (HB0.out k hk) HT6o.out.size) (by simp; rw [HQ1.out]; exact Nat.ne_of_lt (HB0.out k hk)))
 subst he
 obtain ⟨o1, o2, o3, o4, o5, _⟩ := reopen_ok (T := T) (K := keepL L ys) HNn.out HLL.out rfl (by rw [← HR.out]) HI.out HCl.out HLz.out (fun x hx => ((HYs.out x).1 hx).ok') HNd.out (by rw [← HR.out])
 have HO1 := LH o1
 have HO2 := LH o2
 have HO3 := LH o3
 have HO4 := LH o4
 have HO5 := LH o5
 clear o1 o2 o3 o4 o5
 have c2 := HM6.out.cell 1 2 rfl rfl
 go_wp2_with fail
 refine (bopen_any HD6.out n (by omega) (by omega)).mono ?_
 rintro e w7 ⟨hb7, ⟨_, _, X, nn, rfl, hXF, hman, hnn, hXl⟩ | ⟨_, hbad, rfl⟩ | ⟨hbad, rfl⟩⟩
 case inr.inl => exact absurd HO3.out hbad
 case inr.inr => exact absurd HO2.out hbad
 have HM7 := LH (HM6.out.later hb7)
 have HT7 : Hid (Touch F.list w w7) := LH (HT6.out.trans (Touch.ofBelow hb7))
 have HRt7 := LH (HRt6.out.below hb7 (Nat.le_refl _))
 have HLv7 := LH (HLv6.out.keep (fun b hb => hb7.block b (HLv6.out.lt b hb)))
 have HCv7 : Hid (Cells w7 va ((ys.map (fun x : Nat => (x : Int))).map (Value.int .i64))) := LH (by rw [List.map_map]; exact HCv6.out.below hb7 (Nat.le_refl _))
 have HMan := LH hman
 have HXl := LH hXl
 have HXF := LH hXF
 have HNN := LH hnn
 have HS67 : Hid (w6.heap.size ≤ w7.heap.size) := LH hb7.size
 clear hb7 hman hXl hXF hnn c2 HD6 HRt6 HLv6 HCv6
 have c5 := HM7.out.cell 1 5 rfl rfl
 have hAn := anew_any HMan.out HO1.out (by omega) (by have := HSz.out.2.2; omega) HO4.out va vl vc (ys.map (fun x : Nat => (x : Int))) (by rw [List.length_map]; exact HVl.out.symm) HCv7.out hvl9
 rw [HXF.out] at hAn
 have HAn := LH hAn
 clear hAn
 go_wp2_with fail
 refine HAn.out.mono ?_
 rintro e w8 ⟨hb8, ⟨_, A, rfl, hAX, hal, hAl⟩ | ⟨hbad, rfl⟩⟩
 case inr => exact absurd (congrArg Prod.snd HO5.out) hbad
 have HM8 := LH (HM7.out.later hb8)
 have HT8 : Hid (Touch F.list w w8) := LH (HT7.out.trans (Touch.ofBelow hb8))
 have HRt8 := LH (HRt7.out.below hb8 (Nat.le_refl _))
 have HLv8 := LH (HLv7.out.keep (fun b hb => hb8.block b (HLv7.out.lt b hb)))
 have hal2 : AlAt w8 A nn n ⟨bmOf T n, marksOf (List.replicate T.cache.length false) ys, carveTo (marksOf (List.replicate T.cache.length false) ys) (bmOf T n).list (n - 1)⟩ := by
  have h5 := HO5.out
  have := hal
  rw [show (bmOf T n).dev = T from rfl, h5] at this
  exact this
 have HAl := LH hal2
 have HAX := LH hAX
 have HAm : Hid (∀ k ∈ A.list, k ∈ F.list ∨ (w.heap.size ≤ k ∧ k ≠ q1 ∧ k ≠ q2)) := LH (fun k hk => by
  have hq1 := HM6.out.glt 0 rfl
  have hq2 := HM6.out.glt 1 rfl
  have h67 := HS67.out
  have hws := HT6.out.size
  rcases hAl k hk with c | c
  ·rcases HXl.out k c with c | c
   ·exact .inl c
   ·exact .inr ⟨by omega, by omega, by omega⟩
  ·exact .inr ⟨by omega, by omega, by omega⟩)
 have HAm2 : Hid (∀ k, k ∈ F.list → k ≠ q1 ∧ k ≠ q2) := LH (fun k hk => by
  have h1 := HB0.out k hk
  have h2 := HM8.out.gbase 0 rfl
  have h3 := HM8.out.gbase 1 rfl
  exact ⟨by omega, by omega⟩)
 clear hb8 hal hal2 hAX hAl c5 HM7 HT7 HRt7 HLv7 HM6 HT6 HAn HMan HXl
 have c3 := HM8.out.cell 1 3 rfl rfl
 have k3 := HM8.out.frozen 1 3 rfl
 have HM9 : Hid (MemR w.heap.size (w8.setCell ⟨q2, 3, none⟩ (valloc A)) [⟨q1, 49, [.int .i64 0, .int .u64 0, .int .i64 0, .pointer none, .pointer none, .slice none 0 0], true⟩, ⟨q2, 49, [.int .i64 (n : Int), vu64 id, .int .i64 (n : Int), valloc A, .pointer (some ⟨g, 0, none⟩), .slice va vl vc], true⟩]) := LH (by
  have := HM8.out.set 1 3 (valloc A) rfl (by simp)
  simpa using this)
 go_wp2_with (first | (refine wpList_load_r aggSt HM9.out 1 rfl rfl rfl rfl rfl ?_) | (refine wpList_store_r aggSt HM9.out 0 rfl rfl rfl rfl rfl rfl rfl rfl ?_; intro w9 h9 ht9; have H9 := LH h9; have HT9 := LH ht9; clear h9 ht9))
 refine bodyPost_ret (results_cell_row2 (p := 2) (u := 3) rfl _ _ _ _ _ _ _ rfl (H9.out.exact 0 rfl) Tryz.underlying49 rfl (by kernel_rfl)) rfl ?_
 rw [HPo.out]
 have hblk : ∀ k, k < w8.heap.size → k ≠ q1 → k ≠ q2 → w9.heap[k]? = w8.heap[k]? := fun k h1 h2 h3 => (HT9.out.block k (by simp [World.setCell]; exact h1) (by simpa using h2)).trans (heap_setCell_other w8 _ _ _ h3)
 have hq1g := HM8.out.gbase 0 rfl
 have hq2g := HM8.out.gbase 1 rfl
 refine ⟨⟨?_, ?_, ?_, ?_, ?_⟩, .inr ⟨HLz.out, ys, HSo.out, by rw [← HLL.out]; exact HYs.out, .inr ⟨by rw [← HLL.out, ← HNn.out, ← HR.out], A, nn, g, .slice va vl vc, ?_, (by rw [HAX.out]; exact HXF.out), HNN.out, ?_, ?_, ?_, ?_, HGs.out.2.2.1, HGs.out.1⟩⟩⟩
 ·exact HT9.out.os.trans HT8.out.os
 ·exact HT9.out.tape.trans HT8.out.tape
 ·exact HT9.out.output.trans HT8.out.output
 ·have h1 := HT9.out.size
  have h2 := HT8.out.size
  simp [World.setCell] at h1
  omega
 ·intro k h1 h2
  exact (hblk k (Nat.lt_of_lt_of_le h1 HT8.out.size) (by omega) (by omega)).trans (HT8.out.block k h1 h2)
 ·rw [← HNn.out, ← HId.out]
  rfl
 ·rw [← HLL.out, ← HNn.out, ← HR.out]
  refine HAl.out.keep (fun k hk => ?_)
  rcases HAm.out k hk with c | ⟨_, c1, c2⟩
  ·exact hblk k (HAl.out.mem k hk) (HAm2.out k c).1 (HAm2.out k c).2
  ·exact hblk k (HAl.out.mem k hk) c1 c2
 ·have h1 := HLt1.out.1
  have h2 := HLt2.out.1
  have h3 := HGs.out.2.2.2.1
  exact (hblk g (lt_of_head HRt8.out) (by omega) (by omega)).trans HRt8.out
 ·refine HLv8.out.keep (fun b hb => ?_)
  have h1 := HLt1.out.1
  have h2 := HLt2.out.2 b hb
  have h3 := HLt1.out.2 b hb
  exact hblk b (HLv8.out.lt b hb) (by omega) (by omega)
 ·intro k hk
  rcases HAm.out k hk with c | ⟨c, _⟩
  ·exact .inl c
  ·exact .inr c
end Go.Proofs.YtpohaahihdhleaaGreat
namespace Go.Proofs.YtpohaahihdhleaaGreat
open Go.RowKit
theorem Dev.store_lasting (S : Dev) (i : Int) (x : Nat) : (S.store i x).lasting = S.lasting := by
 unfold Dev.store
 split
 ·rfl
 ·split
  ·exact S.step_rest.1
  ·exact S.step_rest.1
theorem stores_lasting : ∀ (l : List (Nat × Nat)) (S : Dev), (S.stores l).dev.lasting = S.lasting
 | [], _ => rfl
 | (i, x) :: l, S => by
  rw [stores_cons]
  split
  ·exact S.store_lasting _ _
  ·rw [stores_lasting l]; exact S.store_lasting _ _
theorem Dev.flush_lasting (S : Dev) (j : Int) : (S.flush j).lasting = S.lasting := by
 unfold Dev.flush
 split
 ·rfl
 ·split
  ·exact S.step_rest.1
  ·unfold Dev.hold
   split
   ·exact S.step_rest.1
   ·exact S.step_rest.1
theorem flushRun_lasting (S : Dev) (a : Nat) : ∀ m, (S.flushRun a m).dev.lasting = S.lasting
 | 0 => rfl
 | m + 1 => by
  unfold Dev.flushRun
  split
  ·exact flushRun_lasting S a m
  ·exact (Dev.flush_lasting _ _).trans (flushRun_lasting S a m)
theorem fence_lasting {S : Dev} (h : S.fenceE ≠ 0) : S.fence.lasting = S.lasting := by
 unfold Dev.fenceE at h
 by_cases c : S.stop = true
 ·unfold Dev.fence
  rw [if_pos c]
  exact S.step_rest.1
 ·rw [if_neg c] at h; exact absurd rfl h
theorem persist_lasting {S : Dev} {p n : Int} (h : (S.persist p n).err ≠ 0) : (S.persist p n).dev.lasting = S.lasting := by
 unfold Dev.persist at h ⊢
 by_cases c1 : p < 0 ∨ n < 0 ∨ (S.cache.length : Int) < p ∨ (S.cache.length : Int) - p < n
 ·rw [if_pos c1]
 rw [if_neg c1] at h ⊢
 by_cases c2 : 0 < n
 ·rw [if_pos c2] at h ⊢
  unfold Dev.persistN at h ⊢
  by_cases c3 : (S.flushRun (p / 8).toNat ((p + n - 1) / 8 - p / 8 + 1).toNat).err ≠ 0
  ·rw [if_pos c3]; exact flushRun_lasting _ _ _
  ·rw [if_neg c3] at h ⊢
   exact (fence_lasting h).trans (flushRun_lasting _ _ _)
 ·rw [if_neg c2] at h ⊢
  exact fence_lasting h
theorem Dev.store_dirty {S : Dev} (i x : Nat) {k : Nat} (h : (S.store (i : Int) x).dirty.getD k false = true) : S.dirty.getD k false = true ∨ i / 8 = k := by
 unfold Dev.store at h
 split at h
 ·exact .inl h
 ·split at h
  ·rw [S.step_rest.2.2.2.1] at h; exact .inl h
  ·simp only [Dev.put, S.step_rest.2.2.2.1, Int.toNat_natCast] at h
   by_cases c : i / 8 = k
   ·exact .inr c
   ·rw [List.getD_eq_getElem?_getD, List.getElem?_set_ne c, ← List.getD_eq_getElem?_getD] at h
    exact .inl h
theorem stores_dirty : ∀ (l : List (Nat × Nat)) (S : Dev) {k : Nat} (_ : (S.stores l).dev.dirty.getD k false = true), S.dirty.getD k false = true ∨ ∃ q ∈ l, q.1 / 8 = k
 | [], S, k, h => .inl h
 | (i, x) :: l, S, k, h => by
  rw [stores_cons] at h
  by_cases c : S.storeE (i : Int) ≠ 0
  ·rw [if_pos c] at h
   rcases Dev.store_dirty i x h with h | h
   ·exact .inl h
   ·exact .inr ⟨(i, x), List.mem_cons_self, h⟩
  ·rw [if_neg c] at h
   rcases stores_dirty l _ h with h | ⟨q, hq, e⟩
   ·rcases Dev.store_dirty i x h with h | h
    ·exact .inl h
    ·exact .inr ⟨(i, x), List.mem_cons_self, h⟩
   ·exact .inr ⟨q, List.mem_cons_of_mem _ hq, e⟩
def Clr (S : Dev) : Prop := S.inv ∧ ∀ l, S.dirty.getD l false = false
theorem Clr.same {S : Dev} (h : Clr S) : S.lasting = S.cache := by
 apply List.ext_getElem h.1.wf.lenL
 intro i h1 h2
 have := h.1.sound i (h.2 _)
 rw [List.getD_eq_getElem?_getD, List.getElem?_eq_getElem h1, List.getD_eq_getElem?_getD, List.getElem?_eq_getElem h2] at this
 exact this
def Dev.lay (S : Dev) (l : List (Nat × Nat)) (p n : Nat) : Done := (S.stores l).bind (fun S => S.persist (p : Int) (n : Int))
theorem lay_clr {S : Dev} (h : Clr S) {l : List (Nat × Nat)} (hl : ∀ p ∈ l, p.2 < 18446744073709551616) {p n : Nat} (hn : 0 < n) (hk : ∀ q ∈ l, p ≤ q.1 ∧ q.1 < p + n) :
  ((S.lay l p n).err = 0 → Clr (S.lay l p n).dev ∧ (S.lay l p n).dev.cache = l.foldl (fun c p => c.set p.1 p.2) S.cache) ∧ ((S.lay l p n).err ≠ 0 → (S.lay l p n).dev.lasting = S.lasting) := by
 unfold Dev.lay Done.bind
 by_cases hs : (S.stores l).err ≠ 0
 ·rw [if_pos hs]
  exact ⟨fun e => absurd e hs, fun _ => stores_lasting l S⟩
 ·rw [if_neg hs]
  have hs0 : (S.stores l).err = 0 := by simpa using hs
  have hinv := stores_inv h.1 l hl
  have hsl := stores_lasting l S
  have hsc := stores_cache l S hs0
  have hsd : ∀ k, (S.stores l).dev.dirty.getD k false = true → ∃ q ∈ l, q.1 / 8 = k := fun k hk => by
   rcases stores_dirty l S hk with c | c
   ·rw [h.2] at c; cases c
   ·exact c
  generalize (S.stores l).dev = T at *
  refine ⟨fun e => ?_, fun e => (persist_lasting e).trans hsl⟩
  obtain ⟨p1, p2, p3, p4, p5⟩ := Dev.persist_clean hinv p n hn e
  refine ⟨⟨Dev.persist_inv hinv _ _, fun k => ?_⟩, p1.trans hsc⟩
  cases c : T.dirty.getD k false
  ·exact p5 k c
  ·obtain ⟨q, hq, rfl⟩ := hsd k c
   exact p4 q.1 (hk q hq).1 (hk q hq).2
theorem Dev.live.stores {S : Dev} (h : S.live) : ∀ (l : List (Nat × Nat)) (_ : ∀ q ∈ l, q.1 < S.cache.length), (S.stores l).err = 0 ∧ (S.stores l).dev.live ∧ (S.stores l).dev.cache.length = S.cache.length ∧ (S.stores l).dev.dirty.length = S.dirty.length := by
 intro l
 induction l generalizing S with
 | nil => intro _; exact ⟨rfl, h, rfl, rfl⟩
 | cons p l ih =>
  intro hk
  obtain ⟨i, x⟩ := p
  have hs := h.store_ok i x (hk _ List.mem_cons_self)
  have hcl : (S.store (i : Int) x).cache.length = S.cache.length := by rw [hs.2, List.length_set]
  have hdl : (S.store (i : Int) x).dirty.length = S.dirty.length := by
   unfold Dev.store
   split
   ·rfl
   ·split
    ·rw [S.step_rest.2.2.2.1]
    ·simp [Dev.put, S.step_rest.2.2.2.1]
  have h1 := ih (h.store (i : Int) x) (fun q hq => by rw [hcl]; exact hk q (List.mem_cons_of_mem _ hq))
  rw [stores_cons, if_neg (by rw [hs.1]; simp)]
  exact ⟨h1.1, h1.2.1, h1.2.2.1.trans hcl, h1.2.2.2.trans hdl⟩
theorem lay_live {S : Dev} (h : S.live) (hd : S.cache.length = 8 * S.dirty.length) {l : List (Nat × Nat)} {p n : Nat} (hk : ∀ q ∈ l, q.1 < S.cache.length) (hn : 0 < n) (hp : p + n ≤ S.cache.length) : (S.lay l p n).err = 0 ∧ (S.lay l p n).dev.live := by
 obtain ⟨h1, h2, h3, h4⟩ := h.stores l hk
 unfold Dev.lay Done.bind
 rw [if_neg (by rw [h1]; simp)]
 exact ⟨(h2.persist p n hn (by rw [h3, h4]; exact hd) (by rw [h3]; exact hp)).1, h2.persist_live p n hn (by rw [h3, h4]; exact hd) (by rw [h3]; exact hp)⟩
theorem mem_upL {a : Nat} {g : Nat → Nat} {k n j : Nat} : j ∈ (upL a g k n).map Prod.fst ↔ a + k ≤ j ∧ j < a + n := by
 unfold upL
 simp only [List.map_map, List.mem_map, List.mem_range', Function.comp]
 constructor
 ·rintro ⟨b, ⟨i, hi, rfl⟩, rfl⟩; omega
 ·rintro ⟨h1, h2⟩; exact ⟨j - a, ⟨j - a - k, by omega, by omega⟩, by omega⟩
theorem mem_slotL {g : Nat → Nat} {j : Nat} : j ∈ (slotL 64 g).map Prod.fst ↔ 64 ≤ j ∧ j < 80 := by
 rw [show (slotL 64 g).map Prod.fst = [65, 66, 67, 68, 69, 70, 71, 73, 74, 75, 76, 77, 78, 79, 64, 72] from rfl]
 simp only [List.mem_cons, List.not_mem_nil, or_false]
 omega
theorem key_mem {l : List (Nat × Nat)} {q : Nat × Nat} (h : q ∈ l) : q.1 ∈ l.map Prod.fst := List.mem_map_of_mem h
theorem upL_val {a : Nat} {g : Nat → Nat} {k n : Nat} : ∀ p ∈ upL a g k n, p.2 = g (p.1 - a) := fun p hp => by
 obtain ⟨j, _, rfl⟩ := List.mem_map.1 hp
 simp
theorem slotL_val {a : Nat} {g : Nat → Nat} : ∀ p ∈ slotL a g, p.2 = g (p.1 - a) := fun p hp => by
 rcases List.mem_append.1 hp with hp | hp
 ·obtain ⟨j, _, rfl⟩ := List.mem_map.1 hp
  simp
 ·simp only [List.mem_cons, List.not_mem_nil, or_false] at hp
  rcases hp with rfl | rfl
  ·simp
  ·simp
def fmtW (n id j : Nat) : Nat := if j < 8 then (supN n id).getD j 0 else if 64 ≤ j ∧ j < 80 then (slotW 1 [0, 0, 0, 0, 0, 0, 0, 0]).getD (j - 64) 0 else if 257 ≤ j ∧ j < 256 + n then encN ((j - 256 : Nat) : Int) 0 0 0 else 0
theorem Dev.format_is {S : Dev} {n id : Nat} (hn : 2 ≤ n) (hn2 : n ≤ 256) (hlen : S.cache.length = 512 * n) (hd : S.cache.length = 8 * S.dirty.length) : S.format id =
  (S.lay (upL 256 (fun b => encN (b : Int) 0 0 0) 1 n) 257 (n - 1)).bind (fun T => (T.lay (slotL 64 (fun k => (slotW 1 [0, 0, 0, 0, 0, 0, 0, 0]).getD k 0)) 64 16).bind (fun U => U.writeSuper n id)) := by
 unfold Dev.format
 rw [show S.cache.length / 512 = n by omega, if_pos ⟨hn, hn2, by omega⟩]
 unfold Dev.fmtG Dev.lay
 rw [show ((257 : Nat) : Int) = 257 from rfl, show ((n - 1 : Nat) : Int) = (n : Int) - 1 by omega]
 rfl
theorem writeSuper_is {S : Dev} {n id : Nat} (hn : 2 ≤ n) (hn2 : n ≤ 256) (hlen : S.cache.length = 512 * n) : S.writeSuper n id = S.lay (upL 0 (fun k => (supN n id).getD k 0) 0 8) 0 8 := by
 unfold Dev.writeSuper
 rw [if_pos ⟨hn, hn2, by omega⟩]
 rfl
theorem slot1_lt (k : Nat) : (slotW 1 [0, 0, 0, 0, 0, 0, 0, 0]).getD k 0 < 18446744073709551616 := slotW_lt (by decide) k
theorem format_ends {S : Dev} (h : Clr S) {n id : Nat} (hn : 2 ≤ n) (hn2 : n ≤ 256) (hid : id < 18446744073709551616) (hz : S.cache = List.replicate (512 * n) 0) :
  ((S.format id).err = 0 → Clr (S.format id).dev ∧ (S.format id).dev.cache.length = 512 * n ∧ ∀ j, (S.format id).dev.cache.getD j 0 = fmtW n id j) ∧
  ((S.format id).err ≠ 0 → (S.format id).dev.lasting.length = 512 * n ∧ ∀ j, j < 8 → (S.format id).dev.lasting.getD j 0 = 0) := by
 have hlen : S.cache.length = 512 * n := by rw [hz, List.length_replicate]
 have hz0 : ∀ j, S.cache.getD j 0 = 0 := fun j => by
  rw [hz, List.getD_eq_getElem?_getD, List.getElem?_replicate]
  split <;> rfl
 rw [Dev.format_is hn hn2 hlen h.1.wf.lenD]
 have a := lay_clr h (l := upL 256 (fun b => encN (b : Int) 0 0 0) 1 n) (upL_lt _ _ _ _ (fun j => encN_lt _ _ _ _)) (p := 257) (n := n - 1) (by omega) (fun q hq => by have := mem_upL.1 (key_mem hq); omega)
 have hS : S.lasting = S.cache := h.same
 unfold Done.bind
 generalize hD1 : S.lay (upL 256 (fun b => encN (b : Int) 0 0 0) 1 n) 257 (n - 1) = D1 at *
 by_cases c1 : D1.err ≠ 0
 ·rw [if_pos c1]
  refine ⟨fun e => absurd e c1, fun _ => ?_⟩
  rw [a.2 c1, hS]
  exact ⟨hlen, fun j _ => hz0 j⟩
 rw [if_neg c1]
 try dsimp only
 obtain ⟨h1, e1⟩ := a.1 (by simpa using c1)
 have l1 : D1.dev.cache.length = 512 * n := by rw [e1, foldl_set_len, hlen]
 have v1 : ∀ j, j < 512 * n → D1.dev.cache.getD j 0 = if 257 ≤ j ∧ j < 256 + n then encN ((j - 256 : Nat) : Int) 0 0 0 else 0 := fun j hj => by
  rw [e1, foldl_set_at (fun j => encN ((j - 256 : Nat) : Int) 0 0 0) _ upL_val j _ (by omega), hz0]
  by_cases c : 257 ≤ j ∧ j < 256 + n
  ·rw [if_pos c, if_pos (mem_upL.2 (by omega))]
  ·rw [if_neg c, if_neg (fun hh => c (by have := mem_upL.1 hh; omega))]
 clear hD1 a c1 e1
 have b := lay_clr h1 (l := slotL 64 (fun k => (slotW 1 [0, 0, 0, 0, 0, 0, 0, 0]).getD k 0)) (slotL_lt _ _ slot1_lt) (p := 64) (n := 16) (by omega) (fun q hq => by have := mem_slotL.1 (key_mem hq); omega)
 have hS1 := h1.same
 generalize hD2 : D1.dev.lay (slotL 64 (fun k => (slotW 1 [0, 0, 0, 0, 0, 0, 0, 0]).getD k 0)) 64 16 = D2 at *
 by_cases c2 : D2.err ≠ 0
 ·rw [if_pos c2]
  refine ⟨fun e => absurd e c2, fun _ => ?_⟩
  rw [b.2 c2, hS1]
  exact ⟨l1, fun j hj => by rw [v1 j (by omega), if_neg (by omega)]⟩
 rw [if_neg c2]
 try dsimp only
 obtain ⟨h2, e2⟩ := b.1 (by simpa using c2)
 have l2 : D2.dev.cache.length = 512 * n := by rw [e2, foldl_set_len, l1]
 have v2 : ∀ j, j < 512 * n → D2.dev.cache.getD j 0 = if 64 ≤ j ∧ j < 80 then (slotW 1 [0, 0, 0, 0, 0, 0, 0, 0]).getD (j - 64) 0 else if 257 ≤ j ∧ j < 256 + n then encN ((j - 256 : Nat) : Int) 0 0 0 else 0 := fun j hj => by
  rw [e2, foldl_set_at (fun j => (slotW 1 [0, 0, 0, 0, 0, 0, 0, 0]).getD (j - 64) 0) _ slotL_val j _ (by omega), v1 j hj]
  by_cases c : 64 ≤ j ∧ j < 80
  ·rw [if_pos c, if_pos (mem_slotL.2 c)]
  ·rw [if_neg c, if_neg (fun hh => c (mem_slotL.1 hh))]
 clear hD2 b c2 e2 v1
 rw [writeSuper_is hn hn2 l2]
 have c := lay_clr h2 (l := upL 0 (fun k => (supN n id).getD k 0) 0 8) (upL_lt _ _ _ _ (fun j => supN_lt (by omega) hid j)) (p := 0) (n := 8) (by omega) (fun q hq => by have := mem_upL.1 (key_mem hq); omega)
 have hS2 := h2.same
 generalize hD3 : D2.dev.lay (upL 0 (fun k => (supN n id).getD k 0) 0 8) 0 8 = D3 at *
 refine ⟨fun e => ?_, fun e => ?_⟩
 ·obtain ⟨h3, e3⟩ := c.1 e
  have l3 : D3.dev.cache.length = 512 * n := by rw [e3, foldl_set_len, l2]
  refine ⟨h3, l3, fun j => ?_⟩
  by_cases hj : j < 512 * n
  ·rw [e3, foldl_set_at (fun j => (supN n id).getD (j - 0) 0) _ upL_val j _ (by omega), v2 j hj]
   unfold fmtW
   by_cases c : j < 8
   ·rw [if_pos c, if_pos (mem_upL.2 (by omega))]; rfl
   ·rw [if_neg c, if_neg (fun hh => c (by have := mem_upL.1 hh; omega))]
  ·rw [getD_zero_of (by omega)]
   unfold fmtW
   rw [if_neg (by omega), if_neg (by omega), if_neg (by omega)]
 ·rw [c.2 e, hS2]
  exact ⟨l2, fun j hj => by rw [v2 j (by omega), if_neg (by omega), if_neg (by omega)]⟩
theorem format_live {S : Dev} (h : Clr S) (hv : S.live) {n id : Nat} (hn : 2 ≤ n) (hn2 : n ≤ 256) (hid : id < 18446744073709551616) (hlen : S.cache.length = 512 * n) : (S.format id).err = 0 := by
 rw [Dev.format_is hn hn2 hlen h.1.wf.lenD]
 have a := lay_clr h (l := upL 256 (fun b => encN (b : Int) 0 0 0) 1 n) (upL_lt _ _ _ _ (fun j => encN_lt _ _ _ _)) (p := 257) (n := n - 1) (by omega) (fun q hq => by have := mem_upL.1 (key_mem hq); omega)
 have a' := lay_live hv h.1.wf.lenD (l := upL 256 (fun b => encN (b : Int) 0 0 0) 1 n) (p := 257) (n := n - 1) (fun q hq => by have := mem_upL.1 (key_mem hq); omega) (by omega) (by omega)
 unfold Done.bind
 generalize S.lay (upL 256 (fun b => encN (b : Int) 0 0 0) 1 n) 257 (n - 1) = D1 at *
 rw [if_neg (by rw [a'.1]; simp)]
 try dsimp only
 obtain ⟨h1, e1⟩ := a.1 a'.1
 have l1 : D1.dev.cache.length = 512 * n := by rw [e1, foldl_set_len, hlen]
 have b := lay_clr h1 (l := slotL 64 (fun k => (slotW 1 [0, 0, 0, 0, 0, 0, 0, 0]).getD k 0)) (slotL_lt _ _ slot1_lt) (p := 64) (n := 16) (by omega) (fun q hq => by have := mem_slotL.1 (key_mem hq); omega)
 have b' := lay_live a'.2 h1.1.wf.lenD (l := slotL 64 (fun k => (slotW 1 [0, 0, 0, 0, 0, 0, 0, 0]).getD k 0)) (p := 64) (n := 16) (fun q hq => by have := mem_slotL.1 (key_mem hq); omega) (by omega) (by omega)
 generalize D1.dev.lay (slotL 64 (fun k => (slotW 1 [0, 0, 0, 0, 0, 0, 0, 0]).getD k 0)) 64 16 = D2 at *
 rw [if_neg (by rw [b'.1]; simp)]
 try dsimp only
 obtain ⟨h2, e2⟩ := b.1 b'.1
 have l2 : D2.dev.cache.length = 512 * n := by rw [e2, foldl_set_len, l1]
 rw [writeSuper_is hn hn2 l2]
 exact (lay_live b'.2 h2.1.wf.lenD (l := upL 0 (fun k => (supN n id).getD k 0) 0 8) (p := 0) (n := 8) (fun q hq => by have := mem_upL.1 (key_mem hq); omega) (by omega) (by omega)).1
theorem dwords_fmt {T : Dev} {n id : Nat} (hT : ∀ j, T.cache.getD j 0 = fmtW n id j) (a m : Nat) : dwordsAt T a m = (List.range m).map (fun k => fmtW n id (a + k)) := by
 unfold dwordsAt
 exact List.map_congr_left (fun k _ => by rw [peek_in, hT])
theorem supN_of (n id : Nat) : supD (supN n id) = if 2 ≤ n ∧ n ≤ 256 then (n, id, 0) else (0, 0, 26) := by
 unfold supD
 rw [if_neg (by simp [supN]), if_neg (by simp [supN, supH])]
 by_cases h : 2 ≤ n ∧ n ≤ 256
 ·rw [if_pos h, if_pos ⟨h.1, h.2, rfl⟩]; rfl
 ·rw [if_neg h, if_neg (fun hh => h ⟨hh.1, hh.2.1⟩)]
theorem slot_first : slotC (slotD (slotW 1 [0, 0, 0, 0, 0, 0, 0, 0])) (slotD (List.replicate 16 0)) = (1, [0, 0, 0, 0, 0, 0, 0, 0], 0, true) := by kernel_rfl
theorem fmt_sup {T : Dev} {n id : Nat} (hT : ∀ j, T.cache.getD j 0 = fmtW n id j) (hn : 2 ≤ n) (hn2 : n ≤ 256) (hlen : T.cache.length = 512 * n) : supR T = (n, id, 0) := by
 unfold supR
 have : dwordsAt T 0 8 = supN n id := by rw [dwords_fmt hT]; rfl
 have hs : supD (supN n id) = (n, id, 0) := by rw [supN_of, if_pos ⟨hn, hn2⟩]
 rw [this, hs, if_neg]
 rintro (h | h)
 ·exact h rfl
 ·exact h hlen.symm
theorem fmt_roots {T : Dev} {n id : Nat} (hT : ∀ j, T.cache.getD j 0 = fmtW n id j) : rootsN T = (1, [0, 0, 0, 0, 0, 0, 0, 0], 0, true) := by
 unfold rootsN
 have h1 : dwordsAt T 64 16 = slotW 1 [0, 0, 0, 0, 0, 0, 0, 0] := by
  rw [dwords_fmt hT]
  apply List.ext_getElem (by rw [slotW_len]; simp)
  intro i h1 h2
  have hi : i < 16 := by simpa using h1
  rw [List.getElem_map, List.getElem_range]
  unfold fmtW
  rw [if_neg (by omega), if_pos (by omega), Nat.add_sub_cancel_left, List.getD_eq_getElem?_getD, List.getElem?_eq_getElem h2]
  rfl
 have h2 : dwordsAt T 128 16 = List.replicate 16 0 := by
  rw [dwords_fmt hT]
  apply List.ext_getElem (by simp)
  intro i h1 h2
  have hi : i < 16 := by simpa using h1
  rw [List.getElem_map, List.getElem_range, List.getElem_replicate]
  unfold fmtW
  rw [if_neg (by omega), if_neg (by omega), if_neg (by omega)]
 rw [h1, h2]
 exact slot_first
theorem fmt_word {T : Dev} {n id : Nat} (hT : ∀ j, T.cache.getD j 0 = fmtW n id j) {b : Nat} (h1 : 1 ≤ b) (h2 : b < n) : devWord T b = encN (b : Int) 0 0 0 := by
 rw [devWord_at, hT]
 unfold fmtW
 rw [if_neg (by omega), if_neg (by omega), if_pos (by omega), Nat.add_sub_cancel_left]
theorem empty_hds {T : Dev} {n id : Nat} (hT : ∀ j, T.cache.getD j 0 = fmtW n id j) : hds (devWord T) n = List.replicate n default := by
 unfold hds
 apply List.ext_getElem (by simp)
 intro b h1 h2
 have hb : b < n := by simpa using h1
 rw [List.getElem_replicate, List.getElem_map, List.getElem_range]
 unfold hdF
 split
 ·rfl
 ·rw [fmt_word hT (by omega) hb, dec_enc _ _ _ _ right_zero]; rfl
theorem no_rch {ok : Nat → Prop} {P : Nat → List Nat} {f : List Nat} (h0 : ¬ ok 0) (hf : ∀ x ∈ f, x = 0) {y : Nat} (h : Rch ok P f y) : False := by
 induction h with
 | base h hx => exact h0 (hf _ h ▸ hx)
 | step _ _ _ ih => exact ih
theorem fmt_rootL {T : Dev} {n id : Nat} (hT : ∀ j, T.cache.getD j 0 = fmtW n id j) : ∀ x ∈ rootL T, x = 0 := by
 unfold rootL
 rw [fmt_roots hT]
 intro x hx
 simp at hx
 exact hx
theorem fmt_look {T : Dev} {n id : Nat} (hT : ∀ j, T.cache.getD j 0 = fmtW n id j) (hn : 2 ≤ n) (hn2 : n ≤ 256) (hlen : T.cache.length = 512 * n) : lookE T = 0 := by
 have hs := fmt_sup hT hn hn2 hlen
 unfold lookE
 rw [hs, if_neg (by simp), if_neg, if_neg, if_neg]
 ·rw [Classical.not_not]
  rintro x hx (h | ⟨y, hy, _⟩)
  ·exact absurd (fmt_rootL hT x h) hx
  ·exact (no_rch (okN_zero _ _) (fmt_rootL hT) hy).elim
 ·rw [fmt_roots hT]; simp
 ·rw [Classical.not_not]
  intro b h1 h2
  rw [fmt_word hT h1 h2, dec_enc _ _ _ _ right_zero]
theorem fmt_live {T : Dev} {n id : Nat} (hT : ∀ j, T.cache.getD j 0 = fmtW n id j) {ys : List Nat} (h : ∀ x, x ∈ ys ↔ Rch (okN T (lookL T)) (ptrN T) (rootL T) x) : ys = [] :=
 List.eq_nil_iff_forall_not_mem.2 (fun x hx => no_rch (okN_zero _ _) (fmt_rootL hT) ((h x).1 hx))
theorem fmt_rewrite {T : Dev} {n id : Nat} (hT : ∀ j, T.cache.getD j 0 = fmtW n id j) (hn : 2 ≤ n) (hn2 : n ≤ 256) (hlen : T.cache.length = 512 * n) : T.rewrite (lookL T) (keepL (lookL T) []) n = ⟨T, 0⟩ := by
 have hL : lookL T = List.replicate n default := by unfold lookL; rw [fmt_sup hT hn hn2 hlen]; exact empty_hds hT
 unfold Dev.rewrite
 rw [if_pos]
 unfold chgL
 rw [List.filter_eq_nil_iff.2, List.map_nil]
 intro b _
 rw [hL]
 unfold keepL
 simp
theorem fmt_count {n : Nat} (h2 : 2 ≤ n) (h5 : n ≤ 5) : sumOf (runsOf (freeL (freeAt (List.replicate n default)) n n)) = n - 1 := by
 have : n = 2 ∨ n = 3 ∨ n = 4 ∨ n = 5 := by omega
 rcases this with rfl | rfl | rfl | rfl <;> decide
theorem zero_look {T : Dev} (h : ∀ j, j < 8 → T.cache.getD j 0 = 0) : lookE T = 20 := by
 have hd : dwordsAt T 0 8 = [0, 0, 0, 0, 0, 0, 0, 0] := by
  unfold dwordsAt
  rw [List.map_congr_left (g := fun _ => 0) (fun k hk => by rw [peek_in]; exact h _ (by simpa using hk))]
  rfl
 have : (supR T).2.2 ≠ 0 := by
  unfold supR
  rw [hd, show supD [0, 0, 0, 0, 0, 0, 0, 0] = (0, 0, 24) from by kernel_rfl, if_pos (.inl (by simp))]
  simp
 unfold lookE
 rw [if_pos this]
theorem store_lens (S : Dev) (i : Int) (x : Nat) : (S.store i x).cache.length = S.cache.length ∧ (S.store i x).dirty.length = S.dirty.length := by
 obtain ⟨_, e2, _, e4, _⟩ := S.step_rest
 unfold Dev.store
 split
 ·exact ⟨rfl, rfl⟩
 ·split
  ·rw [e2, e4]; exact ⟨rfl, rfl⟩
  ·simp [Dev.put, e2, e4]
theorem stores_err : ∀ (l : List (Nat × Nat)) (S : Dev), (∀ q ∈ l, q.1 < S.cache.length) → ((S.stores l).err = 0 ∨ (S.stores l).err = 3) ∧ (S.stores l).dev.cache.length = S.cache.length ∧ (S.stores l).dev.dirty.length = S.dirty.length
 | [], S, _ => ⟨.inl rfl, rfl, rfl⟩
 | (i, x) :: l, S, h => by
  obtain ⟨e1, e2⟩ := store_lens S (i : Int) x
  rw [stores_cons]
  by_cases c : S.storeE (i : Int) ≠ 0
  ·rw [if_pos c]
   refine ⟨.inr ?_, e1, e2⟩
   show S.storeE (i : Int) = 3
   have hi : i < S.cache.length := h _ List.mem_cons_self
   unfold Dev.storeE at c ⊢
   rw [if_neg (by omega)] at c ⊢
   split at c
   ·rename_i hs; rw [if_pos hs]
   ·exact absurd rfl c
  ·rw [if_neg c]
   have := stores_err l (S.store (i : Int) x) (fun q hq => by rw [e1]; exact h q (List.mem_cons_of_mem _ hq))
   rw [e1, e2] at this
   exact this
theorem fence_err (S : Dev) : S.fenceE = 0 ∨ S.fenceE = 3 := by
 unfold Dev.fenceE
 split
 ·exact .inr rfl
 ·exact .inl rfl
theorem flushRun_err (S : Dev) (a : Nat) : ∀ m, a + m ≤ S.dirty.length → ((S.flushRun a m).err = 0 ∨ (S.flushRun a m).err = 3) ∧ (S.flushRun a m).dev.dirty = S.dirty
 | 0, _ => ⟨.inl rfl, rfl⟩
 | m + 1, h => by
  obtain ⟨h1, h2⟩ := flushRun_err S a m (by omega)
  unfold Dev.flushRun
  by_cases c : (S.flushRun a m).err ≠ 0
  ·rw [if_pos c]; exact ⟨h1, h2⟩
  ·rw [if_neg c]
   refine ⟨?_, (Dev.flush_len _ _).2.trans h2⟩
   show Dev.flushE _ _ = 0 ∨ Dev.flushE _ _ = 3
   unfold Dev.flushE
   rw [if_neg (by rw [h2]; omega)]
   split
   ·exact .inr rfl
   ·exact .inl rfl
theorem lay_err {S : Dev} (hd : S.cache.length = 8 * S.dirty.length) {l : List (Nat × Nat)} {p n : Nat} (hk : ∀ q ∈ l, q.1 < S.cache.length) (hn : 0 < n) (hp : p + n ≤ S.cache.length) : (S.lay l p n).err = 0 ∨ (S.lay l p n).err = 3 := by
 obtain ⟨h1, h2, h3⟩ := stores_err l S hk
 unfold Dev.lay Done.bind
 split
 ·exact h1
 ·show (Dev.persist (S.stores l).dev (p : Int) (n : Int)).err = 0 ∨ (Dev.persist (S.stores l).dev (p : Int) (n : Int)).err = 3
  generalize (S.stores l).dev = T at *
  unfold Dev.persist
  rw [if_neg (by omega), if_pos (by omega)]
  unfold Dev.persistN
  obtain ⟨f1, _⟩ := flushRun_err T ((p : Int) / 8).toNat (((p : Int) + (n : Int) - 1) / 8 - (p : Int) / 8 + 1).toNat (by omega)
  split
  ·exact f1
  ·exact fence_err _
theorem format_err {S : Dev} (h : Clr S) {n id : Nat} (hn : 2 ≤ n) (hn2 : n ≤ 256) (hid : id < 18446744073709551616) (hlen : S.cache.length = 512 * n) : (S.format id).err = 0 ∨ (S.format id).err = 3 := by
 rw [Dev.format_is hn hn2 hlen h.1.wf.lenD]
 have a := lay_clr h (l := upL 256 (fun b => encN (b : Int) 0 0 0) 1 n) (upL_lt _ _ _ _ (fun j => encN_lt _ _ _ _)) (p := 257) (n := n - 1) (by omega) (fun q hq => by have := mem_upL.1 (key_mem hq); omega)
 have a' := lay_err h.1.wf.lenD (l := upL 256 (fun b => encN (b : Int) 0 0 0) 1 n) (p := 257) (n := n - 1) (fun q hq => by have := mem_upL.1 (key_mem hq); omega) (by omega) (by omega)
 unfold Done.bind
 generalize S.lay (upL 256 (fun b => encN (b : Int) 0 0 0) 1 n) 257 (n - 1) = D1 at *
 by_cases c1 : D1.err ≠ 0
 ·rw [if_pos c1]; exact a'
 rw [if_neg c1]
 try dsimp only
 obtain ⟨h1, e1⟩ := a.1 (by simpa using c1)
 have l1 : D1.dev.cache.length = 512 * n := by rw [e1, foldl_set_len, hlen]
 have b := lay_clr h1 (l := slotL 64 (fun k => (slotW 1 [0, 0, 0, 0, 0, 0, 0, 0]).getD k 0)) (slotL_lt _ _ slot1_lt) (p := 64) (n := 16) (by omega) (fun q hq => by have := mem_slotL.1 (key_mem hq); omega)
 have b' := lay_err h1.1.wf.lenD (l := slotL 64 (fun k => (slotW 1 [0, 0, 0, 0, 0, 0, 0, 0]).getD k 0)) (p := 64) (n := 16) (fun q hq => by have := mem_slotL.1 (key_mem hq); omega) (by omega) (by omega)
 generalize D1.dev.lay (slotL 64 (fun k => (slotW 1 [0, 0, 0, 0, 0, 0, 0, 0]).getD k 0)) 64 16 = D2 at *
 by_cases c2 : D2.err ≠ 0
 ·rw [if_pos c2]; exact b'
 rw [if_neg c2]
 try dsimp only
 obtain ⟨h2, e2⟩ := b.1 (by simpa using c2)
 have l2 : D2.dev.cache.length = 512 * n := by rw [e2, foldl_set_len, l1]
 rw [writeSuper_is hn hn2 l2]
 exact lay_err h2.1.wf.lenD (l := upL 0 (fun k => (supN n id).getD k 0) 0 8) (p := 0) (n := 8) (fun q hq => by have := mem_upL.1 (key_mem hq); omega) (by omega) (by omega)
theorem format_okN {S : Dev} (h : S.inv) {N : Nat} (ho : S.ok N) (id : Nat) (hid : id < 18446744073709551616) : (S.format id).dev.ok (N + 900000) := by
 unfold Dev.format
 split
 ·rename_i hc
  have h1 := fmtG_ok h ho (S.cache.length / 512) (by omega)
  have i1 := fmtG_inv h (S.cache.length / 512)
  refine Done.bind_okN h1 (by omega) ?_
  have h2 := writeSlot_ok i1 h1 64 1 [0, 0, 0, 0, 0, 0, 0, 0] (by omega)
  have i2 := writeSlot_inv i1 64 1 [0, 0, 0, 0, 0, 0, 0, 0] (by omega)
  exact Done.bind_okN h2 (by omega) ((writeSuper_ok i2 h2 _ id hid).mono (by omega))
 ·exact ho.mono (by omega)
theorem Clr.arm {S : Dev} (h : Clr S) (n : Int) : Clr (S.arm n) := ⟨⟨⟨h.1.wf.lenL, h.1.wf.lenF, h.1.wf.lenP, h.1.wf.lenD, h.1.wf.small, h.1.wf.u64L, h.1.wf.u64C, h.1.wf.u64F⟩, h.1.sound, h.1.pend⟩, h.2⟩
theorem fresh_clr {ws : List Nat} {m : Nat} (h8 : ws.length = 8 * m) (hs : ws.length ≤ 1000000) (hu : ∀ z ∈ ws, z < 18446744073709551616) : Clr (freshDev ws m) :=
 ⟨fresh_inv h8 hs hu, fun l => by unfold freshDev; simp only [List.getD_eq_getElem?_getD, List.getElem?_replicate]; split <;> rfl⟩
theorem crash_none (S : Dev) : S.crash [] = freshDev S.lasting S.dirty.length := by
 unfold Dev.crash Dev.crashW
 simp [crashTo]
theorem RvOpen.fmt {S : Dev} {F : Foot} {w w' : World} {e : Ending} (h : RvOpen S F w e w') {n id : Nat} (hT : ∀ j, S.cache.getD j 0 = fmtW n id j) (hn : 2 ≤ n) (hn2 : n ≤ 5) (hlen : S.cache.length = 512 * n) :
  Touch F.list w w' ∧ ∃ (A : AF) (nn g : Nat) (m : Al) (va : Option Addr) (vc : Nat), e = .returned (.tuple #[stV n id (valloc A) (.pointer (some ⟨g, 0, none⟩)) (.slice va 0 vc), .int .i64 0]) ∧ AlAt w' A nn n m ∧ sumOf (runsOf m.bm.free) = n - 1 := by
 obtain ⟨ht, ⟨he, _⟩ | ⟨_, ys, _, hys, h⟩⟩ := h
 ·exact absurd (fmt_look hT hn (by omega) hlen) he
 ·have := fmt_live hT hys
  subst this
  have hs := fmt_sup hT hn (by omega) hlen
  have hr := fmt_rewrite hT hn (by omega) hlen
  rw [hs] at h
  dsimp only at h
  rw [hr] at h
  rcases h with ⟨h, _⟩ | ⟨_, A, nn, g, lv, rfl, _, _, hal, _, hlv, _⟩
  ·exact absurd rfl h
  ·obtain ⟨va, vc, rfl, _⟩ := hlv.cells
   refine ⟨ht, A, nn, g, _, va, vc, rfl, hal, ?_⟩
   show sumOf (runsOf (freeL (freeAt (hds (devWord S) n)) n n)) = n - 1
   rw [empty_hds hT]
   exact fmt_count hn hn2
theorem RvOpen.zero {S : Dev} {F : Foot} {w w' : World} {e : Ending} (h : RvOpen S F w e w') (hz : ∀ j, j < 8 → S.cache.getD j 0 = 0) : Touch F.list w w' ∧ e = .returned (.tuple #[.agg stZ, .int .i64 20]) := by
 have hl := zero_look hz
 obtain ⟨ht, ⟨_, rfl, _⟩ | ⟨h, _⟩⟩ := h
 ·exact ⟨ht, by rw [hl]⟩
 ·rw [hl] at h; cases h
theorem zeros_lt (n : Nat) : ∀ z ∈ List.replicate n 0, z < 18446744073709551616 := fun z hz => by rw [List.mem_replicate] at hz; omega
def newD (n : Nat) : Dev := freshDev (List.replicate (512 * n) 0) (64 * n)
theorem newD_clr {n : Nat} (h : n ≤ 100) : Clr (newD n) := fresh_clr (by simp; omega) (by simp; omega) (zeros_lt _)
theorem stV_is (n id : Nat) (A : AF) (g : Nat) (va : Option Addr) (vc : Nat) : stV n id (valloc A) (.pointer (some ⟨g, 0, none⟩)) (.slice va 0 vc) = .agg #[.int .i64 (n : Int), vu64 id, .int .i64 (n : Int), valloc A, .pointer (some ⟨g, 0, none⟩), .slice va 0 vc] := rfl
set_option maxHeartbeats 4000000 in
set_option maxRecDepth 100000 in
theorem awake26_any (w : World) : Calls Tryz.prog 7 #[] w (Gives (.bool true) w) := by
 have HP : Hid (∀ w', Below w.heap.size w w' → Gives (.bool true) w (.returned (.bool true)) w') := LH (fun w' h => ⟨rfl, h⟩)
 generalize Gives (.bool true) w = Post at *
 go_enter Tryz.func7, Tryz.ntmps7
 go_wp2_with fail
 refine (new_any 1024 _ (by omega)).mono ?_
 rintro e w1 ⟨F, rfl, hF, hd, hb1⟩
 have HD1 : Hid (DevAt w1 F (newD 2)) := LH hd
 have HF := LH hF
 have HB1 := LH hb1
 have HC1 := LH (newD_clr (n := 2) (by omega))
 have HE := LH (format_ends HC1.out (n := 2) (id := 5) (by omega) (by omega) (by omega) rfl)
 have he0 : ((newD 2).format 5).err = 0 := format_live (n := 2) HC1.out (fresh_live _ _) (by omega) (by omega) (by omega) rfl
 have HOk := LH (format_okN HC1.out.1 (fresh_ok _ _ 0 : (newD 2).ok 0) 5 (by omega))
 have ho0 : (newD 2).ok 0 := fresh_ok _ _ _
 clear hd hF hb1
 generalize newD 2 = S at *
 unfold vdev at *
 go_wp2_with fail
 refine (rvformat_any HD1.out HC1.out.1 (N := 0) (by omega) ho0 5 (by omega)).mono ?_
 rintro e w2 ⟨rfl, hd2, ht2⟩
 rw [he0]
 obtain ⟨hcl, hlen, hT⟩ := HE.out.1 he0
 have HO := LH (rvopen_any hd2 hcl.1 hcl.2 (N := 900000) (by omega) (by simpa using HOk.out) (by rw [hlen]; omega))
 obtain ⟨n, hn⟩ : ∃ n, n = 2 := ⟨_, rfl⟩
 obtain ⟨id, hid⟩ : ∃ n, n = 5 := ⟨_, rfl⟩
 have HT : Hid (∀ j, (S.format 5).dev.cache.getD j 0 = fmtW n id j) := LH (by rw [hn, hid]; exact hT)
 have HLn : Hid ((S.format 5).dev.cache.length = 512 * n) := LH (by rw [hn]; exact hlen)
 have HId := LH hid
 have HNn := LH hn
 have hn2 : 2 ≤ n := by omega
 have hn5 : n ≤ 5 := by omega
 have HB2 : Hid (Below w.heap.size w w2) := LH (HB1.out.trans (ht2.below HB1.out.size (fun k hk => HF.out k hk)))
 clear hd2 ht2 hcl hlen hT hid hn
 go_wp2_with fail
 refine HO.out.mono ?_
 intro e w3 h3
 obtain ⟨ht3, A, nn, g, m, va, vc, rfl, hal, hsum⟩ := h3.fmt HT.out hn2 hn5 HLn.out
 rw [stV_is]
 have HB3 : Hid (Below w.heap.size w w3) := LH (HB2.out.trans (ht3.below HB2.out.size (fun k hk => HF.out k hk)))
 have HM := LH (Mem.one w3 #[.int .i64 (n : Int), vu64 id, .int .i64 (n : Int), valloc A, .pointer (some ⟨g, 0, none⟩), .slice va 0 vc] 49)
 have hbl := below_alloc w3 (.cells #[.int .i64 (n : Int), vu64 id, .int .i64 (n : Int), valloc A, .pointer (some ⟨g, 0, none⟩), .slice va 0 vc] 49)
 have HAl := LH (hal.below hbl)
 have HS : Hid (sumOf (runsOf m.bm.free) = 1) := LH (by rw [hsum, HNn.out])
 have HB4 : Hid (Below w.heap.size w (w3.alloc (.cells #[.int .i64 (n : Int), vu64 id, .int .i64 (n : Int), valloc A, .pointer (some ⟨g, 0, none⟩), .slice va 0 vc] 49))) := LH (HB3.out.trans (hbl.mono HB3.out.size))
 clear ht3 hal hsum hbl h3 HB3 HO
 go_upto_region 5 with fail
 obtain ⟨q, hq⟩ : ∃ q, q = w3.heap.size := ⟨_, rfl⟩
 rw [← hq] at HM ⊢
 generalize w3.alloc _ = w4 at *
 clear hq
 have c1 := HM.out.cell 0 1 rfl rfl
 have c3 := HM.out.cell 0 3 rfl rfl
 have c5 := HM.out.cell 0 5 rfl rfl
 have a0 := HAl.out.c0
 go_wp2_with fail
 refine (bfree_any HAl.out.man (by omega)).mono ?_
 rintro e w5 ⟨rfl, hb5⟩
 rw [HS.out, show ((1 : Nat) : Int) = 1 from rfl]
 have d1 := (HM.out.later hb5).cell 0 1 rfl rfl
 have hid' : ((id : Int) == 5) = true := by rw [HId.out]; rfl
 have HFin := LH (HP.out w5 (HB4.out.trans (hb5.mono HB4.out.size)))
 clear hb5 c1 c3 c5 a0
 go_wp2_with fail
 exact HFin.out
set_option maxHeartbeats 8000000 in
set_option maxRecDepth 100000 in
theorem reviveFormats_any (x0 x1 id fu : Int) (hx0 : 0 ≤ x0 ∧ x0 ≤ 255) (hx1 : 0 ≤ x1 ∧ x1 ≤ 255) (hid : 0 ≤ id ∧ id < 18446744073709551616) (hfu : 0 ≤ fu ∧ fu ≤ 255) (w : World) :
  Calls Tryz.prog 4 #[.agg #[.int .u8 x0, .int .u8 x1], .int .u64 id, .int .u8 fu] w (Gives (.bool true) w) := by
 have HP : Hid (∀ w', Below w.heap.size w w' → Gives (.bool true) w (.returned (.bool true)) w') := LH (fun w' h => ⟨rfl, h⟩)
 generalize Gives (.bool true) w = Post at *
 obtain ⟨a, rfl⟩ := Int.eq_ofNat_of_zero_le hx0.1
 obtain ⟨b, rfl⟩ := Int.eq_ofNat_of_zero_le hx1.1
 obtain ⟨i, rfl⟩ := Int.eq_ofNat_of_zero_le hid.1
 have hi : i < 18446744073709551616 := by omega
 have ha : a ≤ 255 := by omega
 have hb : b ≤ 255 := by omega
 clear hx0 hx1 hid
 have HM4 := LH (Mem.one w #[.int .u8 (a : Int), .int .u8 (b : Int)] 25)
 go_enter Tryz.func4, Tryz.ntmps4
 go_upto_region 1 with fail
 obtain ⟨q4, hq4⟩ : ∃ q, q = w.heap.size := ⟨_, rfl⟩
 rw [← hq4] at HM4 ⊢
 generalize w.alloc _ = w0 at *
 clear hq4
 go_wp2_with fail
 refine (awake26_any w0).mono ?_
 rintro e w1 ⟨rfl, hb1⟩
 have HM1 := LH (HM4.out.later hb1)
 have u0 := HM1.out.cell 0 0 rfl rfl
 have u1 := HM1.out.cell 0 1 rfl rfl
 obtain ⟨n, hn⟩ : ∃ n, n = a % 6 := ⟨_, rfl⟩
 obtain ⟨c, hc⟩ : ∃ n, n = b % 2 := ⟨_, rfl⟩
 have hnI : Int.tmod (a : Int) 6 = (n : Int) := by rw [hn]; exact (Int.ofNat_tmod a 6).symm
 have hcI : Int.tmod (b : Int) 2 = (c : Int) := by rw [hc]; exact (Int.ofNat_tmod b 2).symm
 have hnE : (a : Int) % 6 = (n : Int) := by omega
 have hcE : (b : Int) % 2 = (c : Int) := by omega
 have hn5 : n ≤ 5 := by omega
 have hc1 : c ≤ 1 := by omega
 obtain ⟨k, hk⟩ : ∃ k, k = 8 * c := ⟨_, rfl⟩
 have hkI : IntKind.i64.wrap (8 * (c : Int)) = (k : Int) := by rw [IntWalk.i64_in _ (by omega)]; omega
 have hk8 : k ≤ 8 := by omega
 clear hb1 HM4 hn hc
 have r0 := fun x => later_cell u0 x
 have r1 := fun x => later_cell u1 x
 go_upto_region 3 with fail
 refine wp_region_later (by kernel_rfl) (by kernel_rfl) ?_
 repeat (first | go_big_quiet_step (fail) | quiet_step (fail))
 refine wpQuiet_nil ?_
 rintro w1' ⟨z, hz⟩
 have HB1 : Hid (Below w.heap.size w w1') := LH (by rw [hz]; exact HM1.out.below.trans (z.below.mono HM1.out.below.size))
 clear u0 u1 r0 r1 hnI hcI hnE hcE hz z
 have hkE : 8 * (c : Int) = (k : Int) := by omega
 rw [hkE]
 clear hkI hkE
 go_upto_region 4 with fail
 obtain ⟨N5, hN5⟩ : ∃ k, k = 512 * n := ⟨_, rfl⟩
 have hN5I : 512 * (n : Int) = (N5 : Int) := by omega
 obtain ⟨N, hN⟩ : ∃ x, x = N5 + k := ⟨_, rfl⟩
 have hNI : (N5 : Int) + (k : Int) = (N : Int) := by omega
 have hN5b : N5 ≤ 2560 := by omega
 have hNb : N ≤ 2568 := by omega
 have HN5 := LH hN5
 have HNk := LH hN
 have HKc := LH hk
 clear hN5 hN hk
 go_wp2_with fail
 refine (new_any (N : Int) _ (by omega)).mono ?_
 rintro e w2 ⟨F, rfl, hF, hd, hb2⟩
 obtain ⟨m8, hm8⟩ : ∃ k, k = 64 * n + c := ⟨_, rfl⟩
 have hN5 := HN5.out
 have hN := HNk.out
 have hk := HKc.out
 rw [show ((N : Int).toNat + 7) / 8 = m8 by omega, show 8 * m8 = N by omega] at hd
 have HD2 := LH hd
 have HF : Hid (∀ k ∈ F.list, w.heap.size ≤ k) := LH (fun k hk => Nat.le_trans HB1.out.size (hF k hk))
 have HB2 : Hid (Below w.heap.size w w2) := LH (HB1.out.trans (hb2.mono HB1.out.size))
 have HM8 := LH hm8
 clear hd hF hb2 HM1 HB1 hN5 hN hk hm8
 unfold vdev at *
 go_upto_region 5 with fail
 have hN5 := HN5.out
 have hN := HNk.out
 have hk := HKc.out
 have hm8 := HM8.out
 by_cases hr : n < 2 ∨ 0 < k
 ·have hfm : (freshDev (List.replicate N 0) m8).format i = ⟨freshDev (List.replicate N 0) m8, 26⟩ := by
   unfold Dev.format
   rw [if_neg]
   simp only [freshDev, List.length_replicate]
   omega
  have HFm := LH (rvformat_any HD2.out (fresh_clr (by simp; omega) (by simp; omega) (zeros_lt _)).1 (N := 0) (by omega) (fresh_ok _ _ 0) i hi)
  rw [hfm] at HFm
  have hst : (freshDev (List.replicate N 0) m8).steps = 0 := rfl
  generalize freshDev (List.replicate N 0) m8 = S at *
  clear hfm hN5 hN hk hm8
  by_cases h2 : n < 2
  ·have h2' : (n : Int) < 2 := by omega
   clear hr h2
   go_wp2_with fail
   refine HFm.out.mono ?_
   rintro e w3 ⟨rfl, hd3, ht3⟩
   have HB3 := LH (HP.out w3 (HB2.out.trans (ht3.below HB2.out.size (fun k hk => HF.out k hk))))
   go_wp2_with fail
   refine (dsteps_any hd3).mono ?_
   rintro e w4 ⟨rfl, rfl⟩
   rw [hst]
   clear hd3 ht3
   go_wp2_with fail
   exact HB3.out
  ·have h2' : decide ((n : Int) < 2) = false := by simp; omega
   have h3' : 0 < (k : Int) := by omega
   clear hr h2
   go_wp2_with fail
   refine HFm.out.mono ?_
   rintro e w3 ⟨rfl, hd3, ht3⟩
   have HB3 := LH (HP.out w3 (HB2.out.trans (ht3.below HB2.out.size (fun k hk => HF.out k hk))))
   go_wp2_with fail
   refine (dsteps_any hd3).mono ?_
   rintro e w4 ⟨rfl, rfl⟩
   rw [hst]
   clear hd3 ht3
   go_wp2_with fail
   exact HB3.out
 have h2' : decide ((n : Int) < 2) = false := by simp; omega
 have h3' : decide (0 < (k : Int)) = false := by simp; omega
 have hn2 : 2 ≤ n := by omega
 obtain rfl : k = 0 := by omega
 have HD3 : Hid (DevAt w2 F (newD n)) := LH (by
  have := HD2.out
  rw [show N = 512 * n by omega, show m8 = 64 * n by omega] at this
  exact this)
 clear hr hk hNI hN hN5 hm8 HD2 HN5 HNk HKc HM8
 go_upto_region 9 with fail
 clear h2' h3'
 go_wp2_with fail
 refine (darm_any HD3.out fu).mono ?_
 rintro e w3 ⟨rfl, hd3, ht3⟩
 have HC := LH ((newD_clr (n := n) (by omega)).arm fu)
 have ho3 : ((newD n).arm fu).ok 0 := by
  unfold Dev.ok Dev.arm newD freshDev
  simp
  omega
 have HE := LH (format_ends HC.out (n := n) (id := i) hn2 (by omega) hi rfl)
 have HEr := LH (format_err HC.out (n := n) (id := i) hn2 (by omega) hi (by simp [newD, freshDev, Dev.arm]))
 have HFm := LH (rvformat_any hd3 HC.out.1 (N := 0) (by omega) ho3 i hi)
 have HB3 : Hid (Below w.heap.size w w3) := LH (HB2.out.trans (ht3.below HB2.out.size (fun k hk => HF.out k (by simp [Foot.list] at hk ⊢; simp [hk]))))
 generalize (newD n).arm fu = S at *
 clear hd3 ht3 ho3 HD3 HB2 HC
 go_upto_region 10 with fail
 go_wp2_with fail
 refine HFm.out.mono ?_
 rintro e w4 ⟨rfl, hd4, ht4⟩
 have HB4 : Hid (Below w.heap.size w w4) := LH (HB3.out.trans (ht4.below HB3.out.size (fun k hk => HF.out k hk)))
 have HD4 := LH hd4
 generalize S.format i = D at *
 clear hd4 ht4 HFm HB3
 obtain ⟨er, her⟩ : ∃ e, e = D.err := ⟨_, rfl⟩
 rw [← her] at HE HEr ⊢
 clear her
 go_upto_region 11 with fail
 go_wp2_with fail
 refine (crash_any HD4.out none 0 0 [] rfl (.inl rfl) (fun z hz => by cases hz) (by omega)).mono ?_
 rintro e w5 ⟨G, rfl, hG, hd5, hb5⟩
 rw [crash_none] at hd5
 have hwf := HD4.out.wf
 have hcl : Clr (freshDev D.dev.lasting D.dev.dirty.length) := fresh_clr (by rw [hwf.lenL]; exact hwf.lenD) (by rw [hwf.lenL]; exact hwf.small) hwf.u64L
 have HLl : Hid (D.dev.lasting.length = 512 * n) := LH (by
  by_cases c : er = 0
  ·rw [hwf.lenL]; exact (HE.out.1 c).2.1
  ·exact (HE.out.2 c).1)
 have HO := LH (rvopen_any hd5 hcl.1 hcl.2 (N := 0) (by omega) (fresh_ok _ _ 0) (by show D.dev.lasting.length ≤ 102400; rw [HLl.out]; omega))
 have HG : Hid (∀ k ∈ G.list, w.heap.size ≤ k) := LH (fun k hk => Nat.le_trans HB4.out.size (hG k hk))
 have HB5 : Hid (Below w.heap.size w w5) := LH (HB4.out.trans (hb5.mono HB4.out.size))
 clear hwf hcl hd5 hG hb5 HD4 HB4
 go_wp2_with fail
 refine HO.out.mono ?_
 intro e w6 h6
 by_cases he : er = 0
 ·subst he
  obtain ⟨f1, f2, f3⟩ := HE.out.1 rfl
  obtain ⟨ht6, A, nn, g, m, va, vc, rfl, hal, hsum⟩ := h6.fmt (n := n) (id := i) (fun j => by
   show D.dev.lasting.getD j 0 = _
   rw [f1.same]; exact f3 j) hn2 hn5 HLl.out
  rw [stV_is]
  have HB6 : Hid (Below w.heap.size w w6) := LH (HB5.out.trans (ht6.below HB5.out.size (fun k hk => HG.out k hk)))
  have HM := LH (Mem.one w6 #[.int .i64 (n : Int), vu64 i, .int .i64 (n : Int), valloc A, .pointer (some ⟨g, 0, none⟩), .slice va 0 vc] 49)
  have hbl := below_alloc w6 (.cells #[.int .i64 (n : Int), vu64 i, .int .i64 (n : Int), valloc A, .pointer (some ⟨g, 0, none⟩), .slice va 0 vc] 49)
  have HAl := LH (hal.below hbl)
  have HS : Hid (sumOf (runsOf m.bm.free) = n - 1) := LH hsum
  have HB7 : Hid (Below w.heap.size w (w6.alloc (.cells #[.int .i64 (n : Int), vu64 i, .int .i64 (n : Int), valloc A, .pointer (some ⟨g, 0, none⟩), .slice va 0 vc] 49))) := LH (HB6.out.trans (hbl.mono HB6.out.size))
  clear ht6 hal hsum hbl h6 HB6 HO f1 f2 f3 HE HEr
  go_upto_region 12 with fail
  obtain ⟨q, hq⟩ : ∃ q, q = w6.heap.size := ⟨_, rfl⟩
  rw [← hq] at HM ⊢
  generalize w6.alloc _ = w7 at *
  clear hq
  have c1 := HM.out.cell 0 1 rfl rfl
  have c3 := HM.out.cell 0 3 rfl rfl
  have c5 := HM.out.cell 0 5 rfl rfl
  have a0 := HAl.out.c0
  obtain ⟨p, hp⟩ : ∃ p, p = n - 1 := ⟨_, rfl⟩
  have hpI : (n : Int) - 1 = (p : Int) := by omega
  rw [← hp] at HS
  go_wp2_with fail
  refine (bfree_any HAl.out.man (by omega)).mono ?_
  rintro e w8 ⟨rfl, hb8⟩
  rw [HS.out]
  have HFin := LH (HP.out w8 (HB7.out.trans (hb8.mono HB7.out.size)))
  clear hb8 c1 c3 c5 a0
  go_wp2_with fail
  exact HFin.out
 ·obtain rfl : er = 3 := by have := HEr.out; omega
  obtain ⟨ht6, rfl⟩ := h6.zero (fun j hj => (HE.out.2 he).2 j hj)
  have HB6 : Hid (Below w.heap.size w w6) := LH (HB5.out.trans (ht6.below HB5.out.size (fun k hk => HG.out k hk)))
  have HB7 : Hid (Below w.heap.size w (w6.alloc (.cells #[.int .i64 0, .int .u64 0, .int .i64 0, .pointer none, .pointer none, .slice none 0 0] 49))) := LH (HB6.out.trans ((below_alloc w6 (.cells #[.int .i64 0, .int .u64 0, .int .i64 0, .pointer none, .pointer none, .slice none 0 0] 49)).mono HB6.out.size))
  rw [show stZ = #[.int .i64 0, .int .u64 0, .int .i64 0, .pointer none, .pointer none, .slice none 0 0] from rfl]
  clear ht6 h6 HB6 HO HE HEr he
  go_upto_region 12 with fail
  generalize w6.alloc _ = w7 at *
  have HFin := LH (HP.out w7 HB7.out)
  go_wp2_with fail
  exact HFin.out
end Go.Proofs.YtpohaahihdhleaaGreat
