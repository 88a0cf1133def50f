/- Parts of the proof, one behind the other: Pe, Kb, Fv, Fw, Fx, Pf, Pg, Ph, Ri, Pl, Pk. -/
import Derived.Test.YtbimcogdbafjpaaGreatPT11
set_option linter.unusedVariables false
namespace Go.Proofs.YtbimcogdbafjpaaGreat
open Go.RowKit Go.Maps
def refW (L : List Hd) (xs : List Nat) (k : Nat) : Nat := refS L xs k * clsWords (k : Int)
set_option maxHeartbeats 4000000 in
set_option maxRecDepth 20000 in
theorem rwords29_any {w : World} (a : Option Addr) (n cap : Nat) (L : List Hd) (hn : L.length = n) (hc : Cells w a (hdCs L)) (hl : n ≤ 200) (b : Option Addr) (un uc : Nat) (xs : List Nat) (hun : xs.length = un) (hx : Cells w b (xs.map vi)) (hul : un ≤ 1000000) :
  Calls Tryz.prog 68 #[.slice a n cap, .slice b un uc] w (TopPost (refW L xs) w) := by
 have HP : Hid (∀ (b k : Nat) w', TopQ (refW L xs) 0 32 b k → Below w.heap.size w w' → TopPost (refW L xs) w (.returned (.tuple #[.int .i64 (b : Int), .int .i64 (k : Int)])) w') := LH (fun b k w' h1 h2 => ⟨b, k, h1, rfl, h2⟩)
 generalize TopPost (refW L xs) w = Post at *
 have HSm := LH (fun w' (h : Below w.heap.size w w') (k : Nat) (hk : k < 32) => rsmall29_any a n cap L hn (hc.below h (Nat.le_refl _)) hl k hk b un uc xs hun (hx.below h (Nat.le_refl _)) hul)
 have HLe : Hid (∀ k, k < 32 → refS L xs k ≤ 102400 ∧ clsWords (k : Int) ≤ 256 ∧ refW L xs k ≤ 26214400) := LH (fun (k : Nat) (hk : k < 32) => by
  have h1 := (refS_le L xs hk (by omega)).2.2
  have h2 := clsWords_le (k : Int)
  have h3 : refW L xs k ≤ 102400 * 256 := Nat.mul_le_mul h1 h2
  exact ⟨h1, h2, by omega⟩)
 have HWk : Hid (∀ k, refW L xs k = refS L xs k * clsWords (k : Int)) := LH (fun _ => rfl)
 obtain ⟨f, hf⟩ : ∃ f, f = refW L xs := ⟨_, rfl⟩
 rw [← hf] at HP HLe HWk
 clear hn hc hun hx hf
 go_enter Tryz.func68, Tryz.ntmps68
 go_wp2_with fail
 go_loopw [6, 7, 8] (fun bv wv kv wr => ∃ b v j : Nat, j ≤ 32 ∧ b ≤ 26214400 ∧ v ≤ 32 ∧ bv = .int .i64 (b : Int) ∧ wv = .int .i64 (v : Int) ∧ kv = .int .i64 ((j : Int) - 1) ∧ Hid (TopQ f j 32 b v) ∧ Hid (Below w.heap.size w wr)) (fun _ _ kv _ => (intOf kv + 1).toNat)
 case atStart => exact ⟨0, 0, 32, by omega, by omega, by omega, rfl, rfl, vint (by omega), LH (TopQ.nil _ _), LH (Below.refl _ _)⟩
 case round =>
  obtain ⟨b, v, j, hj, hb, hv, rfl, rfl, rfl, HQ, HB⟩ := hrel
  cases j with
  | zero =>
   go_wp2_with fail
   exact HP.out _ _ _ HQ.out HB.out
  | succ k =>
   have hk32 : k < 32 := by omega
   have hk0 : ((k + 1 : Nat) : Int) - 1 = (k : Int) := by omega
   rw [hk0]
   obtain ⟨l1, l2, l3⟩ := HLe.out k hk32
   have HF := LH (HWk.out k)
   have HU := LH (TopQ.down HQ.out hk32)
   clear HQ
   go_wp2_with fail
   refine (HSm.out _ HB.out k hk32).mono ?_
   rintro e w2 ⟨rfl, hb2⟩
   have HB2 := LH (HB.out.trans (hb2.mono HB.out.size))
   clear hb2
   generalize refS L xs k = x at *
   go_wp2_with fail
   refine (rcwords_any (k : Int) _).mono ?_
   rintro e w3 ⟨rfl, hb3⟩
   have HB3 := LH (HB2.out.trans (hb3.mono HB2.out.size))
   clear hb3
   generalize clsWords (k : Int) = y at *
   have hxyI : (x : Int) * (y : Int) = (f k : Int) := by rw [HF.out]; push_cast; rfl
   generalize f k = z at *
   have hxy0 : (0 : Int) ≤ (x : Int) * (y : Int) := by omega
   have hxy1 : (x : Int) * (y : Int) ≤ 26214400 := by omega
   by_cases hz : 0 < z ∧ b ≤ z
   ·rw [if_pos hz, if_pos hz] at HU
    obtain ⟨hz1, hz2⟩ := hz
    have hz1' : (0 : Int) < (x : Int) * (y : Int) := by omega
    have hz2' : (b : Int) ≤ (x : Int) * (y : Int) := by omega
    go_wp2_with fail
    refine ⟨⟨z, k, k, by omega, by omega, by omega, vint (by omega), rfl, rfl, HU, HB3⟩, ?_⟩
    simp [intOf] <;> omega
   ·rw [if_neg hz, if_neg hz] at HU
    by_cases hz1 : 0 < z
    ·have hz1' : (0 : Int) < (x : Int) * (y : Int) := by omega
     have hz2' : (x : Int) * (y : Int) < (b : Int) := by omega
     go_wp2_with fail
     refine ⟨⟨b, v, k, by omega, by omega, by omega, rfl, rfl, rfl, HU, HB3⟩, ?_⟩
     simp [intOf] <;> omega
    ·have hz1' : (x : Int) * (y : Int) ≤ 0 := by omega
     go_wp2_with fail
     refine ⟨⟨b, v, k, by omega, by omega, by omega, rfl, rfl, rfl, HU, HB3⟩, ?_⟩
     simp [intOf] <;> omega
def lastC (f : Nat → Nat) : Nat → Nat
 | 0 => 0
 | n + 1 => if 0 < f n then clsWords (n : Int) else lastC f n
theorem lastC_same {f g : Nat → Nat} : ∀ n, (∀ k, k < n → f k = g k) → lastC f n = lastC g n
 | 0, _ => rfl
 | n + 1, h => by unfold lastC; rw [h n (by omega), lastC_same n (fun k hk => h k (by omega))]
def grtN (R : List (Nat × Nat)) (f : Nat → Nat) : Nat := if 0 < longOf R then min (longOf R * 512) 16448 else lastC f 32
set_option maxHeartbeats 4000000 in
set_option maxRecDepth 20000 in
theorem pgreatest_any {w : World} {A : AF} {n B : Nat} {m : Al} (h : AlAt w A n B m) (hok : AlOk B m) (hB1 : 1 ≤ B) (hB : B ≤ 200) :
  Calls Tryz.prog 69 #[valloc A] w (Gives (.int .i64 (grtN (runsOf m.bm.free) (numC m) : Nat)) w) := by
 have HP : Hid (∀ x w', x = ((grtN (runsOf m.bm.free) (numC m) : Nat) : Int) → Below w.heap.size w w' → Gives (.int .i64 (grtN (runsOf m.bm.free) (numC m) : Nat)) w (.returned (.int .i64 x)) w') := LH (fun x w' h1 h2 => by subst h1; exact ⟨rfl, h2⟩)
 have HD : Hid (grtN (runsOf m.bm.free) (numC m) = if 0 < longOf (runsOf m.bm.free) then min (longOf (runsOf m.bm.free) * 512) 16448 else lastC (numC m) 32) := LH rfl
 generalize Gives (.int .i64 (grtN (runsOf m.bm.free) (numC m) : Nat)) w = Post at *
 generalize grtN (runsOf m.bm.free) (numC m) = pd at *
 have hlo : longOf (runsOf m.bm.free) ≤ 200 := by
  refine Nat.le_trans ?_ (Nat.le_trans (sum_le hok.bm) hB)
  have hgen : ∀ (l : List (Nat × Nat)) (z : Nat), (l.map (·.2)).foldl max z ≤ z + (l.map (·.2)).sum := by
   intro l
   induction l with
   | nil => intro z; simp
   | cons x l ih =>
    intro z
    rw [List.map_cons, List.foldl_cons, List.sum_cons]
    have := ih (max z x.2)
    omega
  have := hgen (runsOf m.bm.free) 0
  unfold longOf sumOf
  omega
 have HA := LH h
 have HFc := LH (fun w' (h : AlAt w' A n B m) (k : Nat) (hk : k < 32) => afreeCells_any h (hok.upto.mono (show 512 * B ≤ 900000 by omega)) k hk)
 have HNm := LH (fun (k : Nat) (ys : List Nat) (h : ∀ a, ys.count a = m.fl.cnt k a) => numC_list h)
 have HLg := LH (blongest_any h.man (by omega))
 have HNl := LH (fun (k : Nat) (hk : k < 32) => numC_le hok hk hB1)
 have c0 := h.c0
 generalize longOf (runsOf m.bm.free) = lo at *
 clear h hok
 go_enter Tryz.func69, Tryz.ntmps69
 go_wp2_with fail
 refine HLg.out.mono ?_
 rintro e w1 ⟨rfl, hb1⟩
 have HB1 := LH hb1
 clear hb1 c0 HLg
 by_cases h0 : 0 < lo
 ·have HE : Hid (((min (lo * 512) 16448 : Nat) : Int) = (pd : Int)) := LH (by rw [HD.out, if_pos h0])
  have h0' : (0 : Int) < (lo : Int) := by omega
  have hmin : min ((lo : Int) * 512) 16448 = ((min (lo * 512) 16448 : Nat) : Int) := by omega
  by_cases hm : lo * 512 ≤ 16448
  ·have hm' : (lo : Int) * 512 ≤ 16448 := by omega
   have HE2 : Hid ((lo : Int) * 512 = (pd : Int)) := LH (by rw [← HE.out]; omega)
   clear hmin HE
   go_wp2_with fail
   first
    | exact HP.out _ _ HE2.out HB1.out
    | exact HP.out _ _ (by have := HE2.out; omega) HB1.out
  ·have hm' : (16448 : Int) < (lo : Int) * 512 := by omega
   have HE2 : Hid ((16448 : Int) = (pd : Int)) := LH (by rw [← HE.out]; omega)
   clear hmin HE
   go_wp2_with fail
   first
    | exact HP.out _ _ HE2.out HB1.out
    | exact HP.out _ _ (by have := HE2.out; omega) HB1.out
 have h0' : (lo : Int) ≤ 0 := by omega
 have HE : Hid (pd = lastC (numC m) 32) := LH (by rw [HD.out, if_neg h0])
 clear HD
 go_wp2_with fail
 go_loopw [4] (fun kv wr => ∃ j : Nat, j ≤ 32 ∧ kv = .int .i64 ((j : Int) - 1) ∧ Hid (pd = lastC (numC m) j) ∧ Hid (Below w.heap.size w wr)) (fun kv _ => (intOf kv + 1).toNat)
 case atStart => exact ⟨32, by omega, vint (by omega), HE, HB1⟩
 case round =>
  obtain ⟨j, hj, rfl, HX, HB⟩ := hrel
  cases j with
  | zero =>
   have HFin : Hid ((0 : Int) = (pd : Int)) := LH (by rw [HX.out]; rfl)
   go_wp2_with fail
   exact HP.out _ _ HFin.out HB.out
  | succ k =>
   have hk32 : k < 32 := by omega
   have hk0 : ((k + 1 : Nat) : Int) - 1 = (k : Int) := by omega
   rw [hk0]
   have HXs : Hid (pd = if 0 < numC m k then clsWords (k : Int) else lastC (numC m) k) := HX
   have hnl := HNl.out k hk32
   clear HX
   go_wp2_with fail
   refine (HFc.out _ (HA.out.below HB.out) k hk32).mono ?_
   rintro e w2 ⟨v, ys, rfl, ho, _, hcnt, _, hb⟩
   obtain ⟨a3, c3, rfl, _⟩ := ho.cells
   obtain ⟨l3, hl3⟩ : ∃ l3, l3 = ys.length := ⟨_, rfl⟩
   rw [← hl3]
   have hlN : l3 = numC m k := by rw [hl3]; exact HNm.out k ys hcnt
   have HB2 := LH (HB.out.trans (hb.mono HB.out.size))
   rw [← hlN] at HXs hnl
   clear hb hcnt ho hl3 hlN HB
   by_cases hz : 0 < l3
   ·rw [if_pos hz] at HXs
    have hz' : (0 : Int) < (l3 : Int) := by omega
    go_wp2_with fail
    refine (cwords_any (k : Int) _).mono ?_
    rintro e w3 ⟨rfl, hb3⟩
    have HFin := LH (HP.out _ w3 (congrArg Nat.cast HXs.out.symm) (HB2.out.trans (hb3.mono HB2.out.size)))
    clear hb3
    generalize clsWords (k : Int) = y at *
    go_wp2_with fail
    exact HFin.out
   ·rw [if_neg hz] at HXs
    have hz' : (l3 : Int) ≤ 0 := by omega
    go_wp2_with fail
    refine ⟨⟨k, by omega, rfl, HXs, HB2⟩, ?_⟩
    simp [intOf] <;> omega
theorem long_snoc (l : List (Nat × Nat)) (x : Nat × Nat) : longOf (l ++ [x]) = max (longOf l) x.2 := long_add l x
set_option maxHeartbeats 4000000 in
set_option maxRecDepth 20000 in
theorem rgreatest29_any {w : World} (a : Option Addr) (n cap : Nat) (L : List Hd) (hn : L.length = n) (hc : Cells w a (hdCs L)) (hl : n ≤ 200) (hS : ∀ x ∈ spansOf L, 1 ≤ x.2 ∧ x.2 ≤ 200) (b : Option Addr) (un uc : Nat) (xs : List Nat) (hun : xs.length = un) (hx : Cells w b (xs.map vi)) (hul : un ≤ 1000000) :
  Calls Tryz.prog 70 #[.slice a n cap, .slice b un uc] w (Gives (.int .i64 (grtN (spansOf L) (fun k => (freeTo (fun y => xs.contains y) L k (n - 1)).length) : Nat)) w) := by
 obtain ⟨f, hf⟩ : ∃ f, f = fun k => (freeTo (fun y => xs.contains y) L k (n - 1)).length := ⟨_, rfl⟩
 rw [← hf]
 have HF : Hid (∀ k, (freeTo (fun y => xs.contains y) L k (n - 1)).length = f k) := LH (fun k => by rw [hf])
 have HFl : Hid (∀ k, k < 32 → f k ≤ 51200) := LH (fun k hk => by
  rw [hf]
  have := freeTo_len (u := fun y => xs.contains y) (L := L) hk (n - 1)
  show (freeTo _ _ _ _).length ≤ _
  omega)
 have HP : Hid (∀ x w', x = ((grtN (spansOf L) f : Nat) : Int) → Below w.heap.size w w' → Gives (.int .i64 (grtN (spansOf L) f : Nat)) w (.returned (.int .i64 x)) w') := LH (fun x w' h1 h2 => by subst h1; exact ⟨rfl, h2⟩)
 have HD : Hid (grtN (spansOf L) f = if 0 < longOf (spansOf L) then min (longOf (spansOf L) * 512) 16448 else lastC f 32) := LH rfl
 generalize Gives (.int .i64 (grtN (spansOf L) f : Nat)) w = Post at *
 generalize grtN (spansOf L) f = pd at *
 have HSp := LH (rspans_any a n cap L hn w hc (by omega))
 have HFr := LH (fun w' (h : Below w.heap.size w w') (k : Nat) (hk : k < 32) => rfree16_any a n cap L hn (hc.below h (Nat.le_refl _)) hl k hk b un uc xs hun (hx.below h (Nat.le_refl _)) hul)
 have HEl := LH hS
 have hl9 : (spansOf L).length ≤ 200 := Nat.le_trans (spanL_len (freeAt L) L.length) (by omega)
 unfold SpansPost at HSp
 generalize spansOf L = R at *
 clear hn hc hS hun hx hf
 go_enter Tryz.func70, Tryz.ntmps70
 go_wp2_with fail
 refine HSp.out.mono ?_
 rintro e w1 ⟨v, rfl, ho, hb1⟩
 obtain ⟨a1, c1, rfl, _, _⟩ := owned_form ho
 have HC := LH (Cells.owned3 ho)
 have HB1 := LH hb1
 obtain ⟨l, hl⟩ : ∃ l, l = R.length := ⟨_, rfl⟩
 rw [← hl] at hl9 ⊢
 have HL := LH hl
 clear ho hb1 hl HSp
 go_upto_block 0 with fail
 go_cut [5] (fun bv wc => ∃ x : Nat, bv = .int .i64 (x : Int) ∧ x ≤ 16448 ∧ Hid (x = min (longOf R * 512) 16448) ∧ Hid (Below w1.heap.size w1 wc))
 case first =>
  go_wp2_with fail
  go_loopw [5, 7] (fun bv jv wr => ∃ j x : Nat, j ≤ l ∧ x ≤ 16448 ∧ jv = .int .i64 (j : Int) ∧ bv = .int .i64 (x : Int) ∧ Hid (x = min (longOf (R.take j) * 512) 16448) ∧ Hid (Below w1.heap.size w1 wr)) (fun _ jv _ => l - (intOf jv).toNat)
  case atStart => exact ⟨0, 0, Nat.zero_le _, Nat.zero_le _, rfl, rfl, LH rfl, LH (Below.refl _ _)⟩
  case round =>
   obtain ⟨j, x, hj, hx, rfl, rfl, HX, HB⟩ := hrel
   by_cases hlt : j < l
   ·have hlt' : (j : Int) < (l : Int) := by omega
    obtain ⟨⟨s, k⟩, hg⟩ : ∃ o, R[j]? = some o := ⟨_, List.getElem?_eq_getElem (by rw [← HL.out]; exact hlt)⟩
    have hgd : R.getD j (0, 0) = (s, k) := by rw [List.getD_eq_getElem?_getD, hg]; rfl
    have hk := (HEl.out (s, k) (List.mem_of_getElem? hg)).2
    dsimp only at hk
    have HNx : Hid (longOf (R.take (j + 1)) = max (longOf (R.take j)) k) := LH (by
     have h1 := (List.getElem?_eq_some_iff.1 hg).1
     rw [List.take_succ_eq_append_getElem h1, (List.getElem?_eq_some_iff.1 hg).2, long_snoc])
    obtain ⟨b2, off, rfl, e0, e1⟩ := sp_cells (HC.out.below HB.out (Nat.le_refl _)) (by rw [← HL.out]; exact hlt) hgd
    clear hg hgd
    obtain ⟨y, hy⟩ : ∃ y : Nat, y = min (512 * k) 16448 := ⟨_, rfl⟩
    obtain ⟨z, hz⟩ : ∃ z : Nat, z = max x y := ⟨_, rfl⟩
    have HZ : Hid (z = min (longOf (R.take (j + 1)) * 512) 16448) := LH (by rw [HNx.out, hz, hy, HX.out]; omega)
    have hyI : min (512 * (k : Int)) 16448 = (y : Int) := by omega
    have hyI2 : (if 16448 < 512 * (k : Int) then 16448 else 512 * (k : Int)) = (y : Int) := by split <;> omega
    have hyI3 : (if 512 * (k : Int) < 16448 then 512 * (k : Int) else 16448) = (y : Int) := by split <;> omega
    have hzI : max (x : Int) (y : Int) = (z : Int) := by omega
    have hzI2 : (if (x : Int) < (y : Int) then (y : Int) else (x : Int)) = (z : Int) := by split <;> omega
    have hzI3 : (if (y : Int) < (x : Int) then (x : Int) else (y : Int)) = (z : Int) := by split <;> omega
    have hz9 : z ≤ 16448 := by omega
    have hy9 : y ≤ 16448 := by omega
    clear hy hz
    go_wp2_with fail
    refine ⟨⟨j + 1, z, by omega, hz9, vint (by omega), rfl, HZ, HB⟩, ?_⟩
    simp [intOf] <;> omega
   ·obtain rfl : j = l := by omega
    have hlt' : decide ((j : Int) < (j : Int)) = false := by simp
    have HEnd : Hid (∃ x' : Nat, Value.int .i64 (x : Int) = .int .i64 (x' : Int) ∧ x' ≤ 16448 ∧ Hid (x' = min (longOf R * 512) 16448) ∧ Hid (Below w1.heap.size w1 wr)) := LH ⟨x, rfl, hx, LH (by rw [HX.out, HL.out, List.take_length]), HB⟩
    clear HX HB
    go_wp2_with fail
    go_meet
    exact HEnd.out
 case rest =>
  obtain ⟨x, rfl, hx9, HX, HB⟩ := hcut
  have HBc := LH (HB1.out.trans (HB.out.mono HB1.out.size))
  generalize wc = wx at *
  by_cases hl0 : l = 0
  case neg =>
   have HFin : Hid ((x : Int) = (pd : Int)) := LH (by
    obtain ⟨o, ho⟩ : ∃ o, R[0]? = some o := ⟨_, List.getElem?_eq_getElem (by rw [← HL.out]; omega)⟩
    have h1 := HEl.out o (List.mem_of_getElem? ho)
    have h2 := long_geF (List.mem_of_getElem? ho)
    rw [HD.out, if_pos (by omega), HX.out])
   have hl0' : ((l : Int) == 0) = false := by simpa using hl0
   go_wp2_with fail
   go_loopw [5, 8] (fun bv kv wr => bv = .int .i64 (x : Int) ∧ kv = .int .i64 0 ∧ Hid (Below w.heap.size w wr)) (fun _ _ _ => 0)
   case atStart => exact ⟨rfl, rfl, HBc⟩
   case round =>
    obtain ⟨rfl, rfl, HBr⟩ := hrel
    go_wp2_with fail
    exact HP.out _ _ HFin.out HBr.out
  subst hl0
  have HE : Hid (pd = lastC f 32) := LH (by
   have : R = [] := List.length_eq_zero_iff.1 HL.out.symm
   rw [HD.out, this, if_neg]
   show ¬ 0 < 0
   omega)
  have HX0 : Hid (x = 0) := LH (by
   have : R = [] := List.length_eq_zero_iff.1 HL.out.symm
   rw [HX.out, this]; rfl)
  have hx0 := HX0.out
  subst hx0
  clear HD HX HX0
  go_wp2_with fail
  go_loopw [5, 8] (fun bv kv wr => ∃ y k : Nat, k ≤ 32 ∧ y ≤ 256 ∧ bv = .int .i64 (y : Int) ∧ kv = .int .i64 (k : Int) ∧ Hid (y = lastC f k) ∧ Hid (Below w.heap.size w wr)) (fun _ kv _ => 32 - (intOf kv).toNat)
  case atStart => exact ⟨0, 0, by omega, by omega, rfl, rfl, LH rfl, HBc⟩
  case round =>
   obtain ⟨y, k, hk, hy, rfl, rfl, HY, HBr⟩ := hrel
   by_cases hlt : k < 32
   ·have HNx : Hid (lastC f (k + 1) = if 0 < f k then clsWords (k : Int) else lastC f k) := LH rfl
    have hfl := HFl.out k hlt
    go_wp2_with fail
    refine (HFr.out _ HBr.out k hlt).mono ?_
    rintro e w2 ⟨v, rfl, ho, _, hb⟩
    obtain ⟨a3, c3, rfl, _⟩ := ho.cells
    rw [HF.out k]
    have HB2 := LH (HBr.out.trans (hb.mono HBr.out.size))
    clear hb ho HBr
    generalize f k = fk at *
    by_cases hz : 0 < fk
    ·rw [if_pos hz] at HNx
     have hz' : (0 : Int) < (fk : Int) := by omega
     go_wp2_with fail
     refine (rcwords_any (k : Int) _).mono ?_
     rintro e w3 ⟨rfl, hb3⟩
     have HB3 := LH (HB2.out.trans (hb3.mono HB2.out.size))
     have hcl := clsWords_le (k : Int)
     clear hb3
     generalize clsWords (k : Int) = cw at *
     go_wp2_with fail
     refine ⟨⟨cw, k + 1, by omega, by omega, rfl, vint (by omega), LH HNx.out.symm, HB3⟩, ?_⟩
     simp [intOf] <;> omega
    ·rw [if_neg hz] at HNx
     have hz' : (fk : Int) ≤ 0 := by omega
     go_wp2_with fail
     refine ⟨⟨y, k + 1, by omega, by omega, rfl, vint (by omega), LH (HY.out.trans HNx.out.symm), HB2⟩, ?_⟩
     simp [intOf] <;> omega
   ·obtain rfl : k = 32 := by omega
    have HFin : Hid ((y : Int) = (pd : Int)) := LH (by rw [HY.out, HE.out])
    go_wp2_with fail
    exact HP.out _ _ HFin.out HBr.out
end Go.Proofs.YtbimcogdbafjpaaGreat
namespace Go.Proofs.YtbimcogdbafjpaaGreat
open Go.RowKit
def LgOk (m : Al) : Prop := ∀ q, (m.bm.list.getD q default).k = 2 → m.used.getD (512 * q) false = true
theorem LgOk.start {B : Nat} (hB2 : 2 ≤ B) (hB : B ≤ 100) : LgOk (al0 B) := fun q hq => by
 rw [al0_list hB2 hB, List.getD_eq_getElem?_getD, List.getElem?_replicate] at hq
 split at hq
 ·exact absurd hq (by decide)
 ·exact absurd hq (by decide)
section
variable {B : Nat} {m m' : Al}
theorem LgOk.made (hl : LgOk m) (h : AlOk B m) {a : Nat} {p d : Int} (hm : Made B m m' a p d) (hk : ∀ q : Nat, (m'.bm.list.getD q default).k = 2 → (m.bm.list.getD q default).k = 2 ∨ a = 512 * q) : LgOk m' := fun q hq => by
 rcases hk q hq with e | e
 ·exact (hm.others h (hl q e)).1
 ·have hp := hm.placed
  have hr := placed_room hp
  have hpos := hr.pos
  have hlen := hm.ok.lenU
  rw [hm.ok.bm.lenL] at hpos
  have hlu : a < m.used.length := by rw [h.lenU]; omega
  rw [hm.used, ← e, List.getD_eq_getElem?_getD, List.getElem?_set_self hlu]; rfl
theorem LgOk.gone (hl : LgOk m) {a : Nat} (hg : Gone B m m' a) : LgOk m' := fun q hq => by
 rcases hg.kin q with e | ⟨e, _⟩
 ·have hq2 := hq
  rw [e] at hq2
  rw [hg.used, getD_set_off, if_neg]
  ·exact hl q hq2
  ·intro c
   refine hg.k2 ?_
   rw [show a / 512 = q by omega]; exact hq
 ·rw [e] at hq; exact absurd hq (by decide)
end
section
variable {C : World → Prop} {ops : Array Oper} {rest : List Oper} {o : Oper} {a : Act} {Q : Act → Prop}
end
theorem snd_al0 {B : Nat} (hB2 : 2 ≤ B) (hB : B ≤ 100) : Snd (al0 B).bm.list := by
 intro q _ hq
 rw [al0_list hB2 hB] at hq
 simp only [List.getD_eq_getElem?_getD, List.getElem?_replicate] at hq
 split at hq <;> exact absurd hq (by decide)
section
variable {w wr w' : World} {Q : List Nat} {A : AF} {n n' B N N' : Nat} {m m' : Al}
structure Hq (w wr : World) (Q : List Nat) (A : AF) (n B N : Nat) (m : Al) : Prop where
 at_ : AlAt wr A n B m
 ok : AlOk B m
 lg : LgOk m
 snd : Snd m.bm.list
 steps : m.bm.dev.ok N
 new : ∀ k ∈ A.list, w.heap.size ≤ k ∧ k ∉ Q
 qlt : ∀ k ∈ Q, k < wr.heap.size
 below : Below w.heap.size w wr
theorem Hq.later (h : Hq w wr Q A n B N m) (hb : Below wr.heap.size wr w') : Hq w w' Q A n B N m :=
 ⟨h.at_.below hb, h.ok, h.lg, h.snd, h.steps, h.new, fun k hk => Nat.lt_of_lt_of_le (h.qlt k hk) hb.size, h.below.trans (hb.mono h.below.size)⟩
theorem Hq.mono (h : Hq w wr Q A n B N m) (hn : n ≤ n') (hN : N ≤ N') : Hq w wr Q A n' B N' m :=
 ⟨h.at_.mono hn, h.ok, h.lg, h.snd, h.steps.mono hN, h.new, h.qlt, h.below⟩
theorem Hq.go (h : Hq w wr Q A n B N m) (hg : AlGo wr w' A n' B m') (hok : AlOk B m') (hl : LgOk m') (hsn : Snd m'.bm.list) (hs : m'.bm.dev.ok N') :
  ∃ R, Hq w w' Q (A.re R) n' B N' m' ∧ Off Q wr w' := by
 obtain ⟨R, h1, h2, h3⟩ := hg
 have hlt := h.below.size
 refine ⟨R, ⟨h1, hok, hl, hsn, hs, fun k hk => ?_, fun k hk => Nat.lt_of_lt_of_le (h.qlt k hk) h2.size, below_touched h.below h2 (fun k hk => (h.new k (AF.hot_list hk)).1) (Nat.le_refl _)⟩, ⟨A.hot, h2, fun k hk hm => (h.new k (AF.hot_list hm)).2 hk⟩⟩
 rcases AF.re_list hk with c | c
 ·exact h.new k c
 ·rcases h3 k c with c | c
  ·exact h.new k (by simp [AF.list, c])
  ·exact ⟨Nat.le_trans hlt c, fun hq => by have := h.qlt k hq; omega⟩
theorem Hq.more (h : Hq w wr Q A n B N m) {Q' : List Nat} (hQ : ∀ k ∈ Q', k ∈ Q ∨ (wr.heap.size ≤ k ∧ k < w'.heap.size)) (hb : Below wr.heap.size wr w') : Hq w w' Q' A n B N m := by
 have h' := h.later hb
 refine { h' with new := fun k hk => ⟨(h.new k hk).1, fun hq => ?_⟩, qlt := fun k hk => ?_ }
 ·rcases hQ k hq with c | c
  ·exact (h.new k hk).2 c
  ·have := h.at_.mem k hk; omega
 ·rcases hQ k hk with c | c
  ·exact h'.qlt k c
  ·exact c.2
theorem Hq.less (h : Hq w wr Q A n B N m) {Q' : List Nat} (hQ : ∀ k ∈ Q', k ∈ Q) : Hq w wr Q' A n B N m :=
 { h with new := fun k hk => ⟨(h.new k hk).1, fun hq => (h.new k hk).2 (hQ k hq)⟩, qlt := fun k hk => h.qlt k (hQ k hk) }
theorem Hq.begun {w0 w w1 : World} {A : AF} {n B : Nat} (hB2 : 2 ≤ B) (hB : B ≤ 100) (h : AlAt w1 A n B (al0 B)) (hA : ∀ k ∈ A.list, w0.heap.size ≤ k) (hb0 : Below w.heap.size w w0) (hb : Below w0.heap.size w0 w1) {Q : List Nat} (hQ : ∀ k ∈ Q, k < w0.heap.size) :
  Hq w w1 Q A n B 201000 (al0 B) :=
 ⟨h, al0_ok hB2 hB, LgOk.start hB2 hB, snd_al0 hB2 hB, dev0_ok hB2 hB, fun k hk => ⟨Nat.le_trans hb0.size (hA k hk), fun hq => (by have := hQ k hq; have := hA k hk; omega)⟩, fun k hk => Nat.lt_of_lt_of_le (hQ k hk) hb.size, hb0.trans (hb.mono hb0.size)⟩
theorem alloc_cases (h : AlOk B m) (hB : B ≤ 200) (hl : LgOk m) (hs : Snd m.bm.list) (ho : m.bm.dev.ok N) (mu p d : Int) :
  (∃ m' a, m.alloc mu p d = ⟨m', ((a : Nat) : Int), 0⟩ ∧ Made B m m' a p d ∧ LgOk m' ∧ Snd m'.bm.list ∧ m'.bm.dev.ok (N + 600000)) ∨ ∃ er, m.alloc mu p d = ⟨m, 0, er⟩ ∧ er ≠ 0 := by
 by_cases hmu : mu < 0 ∨ 4 ≤ mu
 ·exact .inr ⟨1, by unfold Al.alloc; rw [if_pos hmu], by decide⟩
 ·by_cases hz : objSize p d = 0 ∨ 512 * ((m.bm.list.length : Int) - 1) < (objSize p d : Nat)
  ·exact .inr ⟨5, by unfold Al.alloc; rw [if_neg hmu, if_pos hz], by decide⟩
  ·rw [h.bm.lenL] at hz
   rcases alloc_prd h hB (mu := mu) (p := p) (d := d) (by omega) (by omega) (by omega) (by omega) with ⟨m', a, e, hm, _, hk, _⟩ | ⟨e, _⟩
   ·have hsn := snd_alloc h hs mu p d
    have hok := alloc_okN h.bm.clean.inv ho (by rw [h.bm.lenL]; omega) mu p d
    rw [e] at hsn hok
    exact .inl ⟨m', a, e, hm, hl.made h hm hk, hsn, hok⟩
   ·exact .inr ⟨4, e, by decide⟩
def HqAl (w wr : World) (Q : List Nat) (A : AF) (n B N : Nat) (m : Al) (mu p d : Int) : Ending → World → Prop := fun e w' => ∃ (m' : Al) (R : List Nat) (a er : Int),
 e = .returned (.tuple #[.int .i64 a, .int .i64 er]) ∧ Hq w w' Q (A.re R) (n + 6) B (N + 600000) m' ∧ Off Q wr w' ∧ ((∃ x : Nat, a = (x : Int) ∧ er = 0 ∧ Made B m m' x p d) ∨ (m' = m ∧ er ≠ 0)) ∧ m.alloc mu p d = ⟨m', a, er⟩
theorem Hq.alloc (h : Hq w wr Q A n B N m) (hB2 : 2 ≤ B) (hB : B ≤ 200) (hn : n < 900000000000) (hN : N ≤ 900000000) (mu p d : Int) :
  Calls Tryz.prog 64 #[valloc A, .int .i64 mu, .int .i64 p, .int .i64 d] wr (HqAl w wr Q A n B N m mu p d) := by
 refine (aalloc_any h.at_ h.ok (by omega) hB hn hN h.steps mu p d).mono ?_
 rintro e w' ⟨rfl, hg⟩
 rcases alloc_cases h.ok hB h.lg h.snd h.steps mu p d with ⟨m', a, e, hm, h1, h2, h3⟩ | ⟨er, e, he⟩
 ·rw [e] at hg ⊢
  obtain ⟨R, hq, ho⟩ := h.go hg hm.ok h1 h2 h3
  exact ⟨m', R, a, 0, rfl, hq, ho, .inl ⟨a, rfl, rfl, hm⟩, e⟩
 ·rw [e] at hg ⊢
  obtain ⟨R, hq, ho⟩ := h.go hg h.ok h.lg h.snd (h.steps.mono (Nat.le_add_right N 600000))
  exact ⟨m, R, 0, er, rfl, hq, ho, .inr ⟨rfl, he⟩, e⟩
def HqFr (w wr : World) (Q : List Nat) (A : AF) (n B N : Nat) (m : Al) (x : Int) : Ending → World → Prop := fun e w' => ∃ (m' : Al) (R : List Nat) (er : Int),
 e = .returned (.int .i64 er) ∧ Hq w w' Q (A.re R) (n + 4) B (N + 500000) m' ∧ Off Q wr w' ∧ ((∃ a : Nat, x = (a : Int) ∧ m.used.getD a false = true ∧ er = 0 ∧ Gone B m m' a) ∨ (m' = m ∧ er = 42 ∧ hasI m.used x = false))
theorem Hq.free (h : Hq w wr Q A n B N m) (hB : B ≤ 200) (hn : n < 900000000000) (hN : N ≤ 900000000) (mu x : Int) :
  Calls Tryz.prog 84 #[valloc A, .int .i64 mu, .int .i64 x] wr (HqFr w wr Q A n B N m x) := by
 refine (afree_any h.at_ h.ok hB hn hN h.steps mu x).mono ?_
 rintro e w' (⟨hx, rfl, hg⟩ | ⟨a, m', rfl, hu, rfl, hgn, ho, hg⟩)
 ·obtain ⟨R, hq, hof⟩ := h.go hg h.ok h.lg h.snd (h.steps.mono (Nat.le_add_right N 500000))
  exact ⟨m, R, 42, rfl, hq, hof, .inr ⟨rfl, rfl, hx⟩⟩
 ·obtain ⟨R, hq, hof⟩ := h.go hg hgn.ok (h.lg.gone hgn) (hgn.snd h.snd) ho
  exact ⟨m', R, 0, rfl, hq, hof, .inl ⟨a, rfl, hu, rfl, hgn⟩⟩
end
end Go.Proofs.YtbimcogdbafjpaaGreat
namespace Go.Proofs.YtbimcogdbafjpaaGreat
open Go.RowKit Go.Maps
structure Op28 where
 k : Int
 m : Int
 p : Int
 d : Int
def Op28.cs (o : Op28) : List Value := [.int .i64 o.k, .int .i64 o.m, .int .i64 o.p, .int .i64 o.d]
theorem Op28.len (o : Op28) : (Op28.cs o).length = 4 := rfl
theorem four28 (zs : List Int) (h : zs.length = 4) : (Op28.cs ⟨zs.getD 0 0, zs.getD 1 0, zs.getD 2 0, zs.getD 3 0⟩) = zs.map (Value.int .i64) := by
 obtain ⟨a, b, c, d, rfl⟩ : ∃ a b c d, zs = [a, b, c, d] := by
  match zs, h with
  | [a, b, c, d], _ => exact ⟨a, b, c, d, rfl⟩
 rfl
theorem prd_al0 : prdI (al0 2) 31 = 2 := by
 have h := frTo_sum (al0_ok (B := 2) (by omega) (by omega)).bm
 rw [al0_list (by omega) (by omega)] at h
 have h2 : frTo (List.replicate 2 (⟨0, 0, 0⟩ : Hd)) 2 = 1 := by decide
 rw [h2] at h
 rw [show (31 : Int) = ((31 : Nat) : Int) from rfl, prdI_nat _ (by omega)]
 unfold prdS
 rw [← h]
 have h3 : numC (al0 2) 31 = 0 := rfl
 rw [h3]
 decide
set_option maxHeartbeats 4000000 in
set_option maxRecDepth 100000 in
theorem awake29_any (w : World) : Calls Tryz.prog 61 #[] w (Gives (.bool true) w) := by
 have HP : Hid (∀ w', Below w.heap.size w w' → Gives (.bool true) w (.returned (.bool true)) w') := LH (fun w' h => ⟨rfl, h⟩)
 generalize Gives (.bool true) w = Post at *
 go_enter Tryz.func61, Tryz.ntmps61
 go_wp2_with fail
 refine (begun20_any 2 (by omega) (by omega) _).mono ?_
 rintro e w1 ⟨A, n, rfl, ha, hn, hA, hb⟩
 have HM := LH (Mem.one w1 #[valloc A, vdev A.X.F, .slice none 0 0] 74)
 have HA1 := LH (ha.below HM.out.below)
 have HB1 := LH (hb.trans (HM.out.below.mono hb.size))
 clear ha hn hA hb
 go_upto_region 2 with fail
 generalize w1.alloc _ = w2 at *
 have c0 := HM.out.cell 0 0 rfl rfl
 go_wp2_with fail
 refine (psmall_any HA1.out (al0_ok (by omega) (by omega)) (by omega) (by omega) 31).mono ?_
 rintro e w3 ⟨rfl, hb3⟩
 rw [prd_al0]
 have HFin := LH (HP.out _ (HB1.out.trans (hb3.mono HB1.out.size)))
 clear hb3
 go_wp2_with fail
 exact HFin.out
def Made29 (w : World) : Ending → World → Prop := fun e w' => ∃ (B : Nat) (A : AF) (n : Nat) (m : Al), 2 ≤ B ∧ B ≤ 8 ∧ e = .returned (.tuple #[valloc A, .bool true]) ∧ Hq w w' [] A n B 25000000 m ∧ n ≤ 2000000
set_option maxHeartbeats 8000000 in
set_option maxRecDepth 100000 in
theorem made29_any (n8 : Int) (hn8 : 0 ≤ n8 ∧ n8 ≤ 255) (a : Option Addr) (mm cap : Nat) (s : List Op28) (hm : s.length = mm) (w : World) (hcs : Cells w a (recs Op28.cs s)) (hmm : mm ≤ maxLen) :
  Calls Tryz.prog 62 #[.int .u8 n8, .slice a mm cap] w (Made29 w) := by
 unfold maxLen at hmm
 obtain ⟨b0, hb0, hb05⟩ : ∃ b0 : Nat, n8.tmod 7 = (b0 : Int) ∧ b0 ≤ 6 := by
  obtain ⟨k, rfl⟩ := Int.eq_ofNat_of_zero_le hn8.1
  refine ⟨k % 7, ?_, by omega⟩
  rw [Int.tmod_eq_emod_of_nonneg (by omega)]; rfl
 obtain ⟨B, hB⟩ : ∃ B, B = 2 + b0 := ⟨_, rfl⟩
 have hB2 : 2 ≤ B := by omega
 have hB8 : B ≤ 8 := by omega
 have hBI : (2 : Int) + (b0 : Int) = (B : Int) := by omega
 clear hB
 have HM := LH hm
 have HCS := LH hcs
 clear hm hcs
 have HP : Hid (∀ (A : AF) (n : Nat) (m : Al) w', Hq w w' [] A n B 25000000 m → n ≤ 2000000 → Made29 w (.returned (.tuple #[valloc A, .bool true])) w') := LH (fun A n m w' h1 h2 => ⟨B, A, n, m, hB2, hB8, rfl, h1, h2⟩)
 generalize Made29 w = Post at *
 go_enter Tryz.func62, Tryz.ntmps62
 go_wp2_with fail
 refine (begun20_any B hB2 (by omega) _).mono ?_
 rintro e w1 ⟨A, n, rfl, ha, hn, hA, hb⟩
 have hh := Hq.begun hB2 (by omega) ha hA (Below.refl w.heap.size w) hb (Q := []) (by simp)
 obtain ⟨q, hq⟩ : ∃ q, q = w1.heap.size := ⟨_, rfl⟩
 have HH : Hid (Hq w (w1.alloc (.cells #[valloc A, vdev A.X.F, .slice none 0 0] 74)) [q] A n B 201000 (al0 B)) := LH (hh.more (fun k hk => by
  simp only [List.mem_cons, List.not_mem_nil, or_false] at hk
  subst hk
  exact .inr (by simp [hq])) (below_alloc _ _))
 have HR : Hid (MemR w.heap.size (w1.alloc (.cells #[valloc A, vdev A.X.F, .slice none 0 0] 74)) [⟨q, 74, [valloc A, vdev A.X.F, .slice none 0 0], true⟩]) := LH (by
  have h0 : MemR w.heap.size w1 [] := ⟨by simp, by simp, by simp, hb.size⟩
  have := h0.alloc #[valloc A, vdev A.X.F, .slice none 0 0] 74
  rw [← hq] at this
  exact this)
 have HN := LH hn
 have HQb : Hid (∀ k ∈ [q], w.heap.size ≤ k) := LH (by intro k hk; simp at hk; rw [hk, hq]; exact hb.size)
 clear ha hA hb hh hn
 go_upto_region 2 with fail
 rw [← hq]
 generalize w1.alloc _ = w2 at *
 clear hq hb0 hb05 hBI
 go_wp2_with fail
 go_loopw [8] (fun i wr => ∃ (k : Nat) (R : List Nat) (m : Al), k ≤ mm ∧ k ≤ 40 ∧ i = .int .i64 (k : Int) ∧ Hid (Hq w wr [q] (A.re R) (n + 6 * k) B (201000 + 600000 * k) m) ∧ Hid (MemR w.heap.size wr [⟨q, 74, [valloc A, vdev A.X.F, .slice none 0 0], true⟩])) (fun i _ => 40 - (intOf i).toNat)
 case atStart => exact ⟨0, A.R, _, Nat.zero_le _, Nat.zero_le _, rfl, HH, HR⟩
 case round =>
  clear HH HR
  obtain ⟨k, R, m, hkm, hk40, rfl, HH, HMr⟩ := hrel
  have hN := HN.out
  by_cases hlt : k < mm ∧ k < 40
  ·obtain ⟨h1, h2⟩ := hlt
   have h1' : (k : Int) < (mm : Int) := by omega
   have h2' : (k : Int) < 40 := by omega
   have hkl : k < s.length := by rw [HM.out]; exact h1
   obtain ⟨b1, o1, rfl, hbl, hcell⟩ := recs_cells Op28.len (by decide) (⟨0, 0, 0, 0⟩ : Op28) (HCS.out.below HH.out.below (Nat.le_refl _)) hkl
   generalize s.getD k ⟨0, 0, 0, 0⟩ = o at *
   obtain ⟨ok, om, op, od⟩ := o
   have e0 : wr.cell? ⟨b1, o1 + k * 4, none⟩ = some (.int .i64 ok) := hcell 0 _ rfl
   have e1 : wr.cell? ⟨b1, o1 + k * 4 + 1, none⟩ = some (.int .i64 om) := hcell 1 _ rfl
   have e2 : wr.cell? ⟨b1, o1 + k * 4 + 2, none⟩ = some (.int .i64 op) := hcell 2 _ rfl
   have e3 : wr.cell? ⟨b1, o1 + k * 4 + 3, none⟩ = some (.int .i64 od) := hcell 3 _ rfl
   have HHa := LH (HH.out.later (below_alloc wr (.cells #[.int .i64 ok, .int .i64 om, .int .i64 op, .int .i64 od] 224)))
   have HMra := LH (HMr.out.later (below_alloc wr (.cells #[.int .i64 ok, .int .i64 om, .int .i64 op, .int .i64 od] 224)))
   have HMa := LH (Mem.one wr #[.int .i64 ok, .int .i64 om, .int .i64 op, .int .i64 od] 224)
   clear hcell hkl
   go_upto_region 6 with fail
   generalize wr.alloc _ = wa at *
   clear e0 e1 e2 e3
   have c0 := HMra.out.cell 0 0 rfl rfl
   go_upto_region 7 with fail
   refine (aobjects_any HHa.out.at_).mono ?_
   intro e w4 hp
   obtain ⟨au, cu, rfl, hcu, hb4, _⟩ := hp.own
   have HUl : Hid ((onesL m.used).length ≤ 4096) := LH (by
    rw [onesL_length]
    have h1 := count_le_len m.used
    have h2 := HH.out.ok.lenU
    omega)
   have HH4 := LH (HHa.out.later hb4)
   have HMr4 := LH (HMra.out.later hb4)
   have HM4 := LH (HMa.out.later hb4)
   have HCu := LH hcu
   obtain ⟨us, hus⟩ : ∃ us, us = onesL m.used := ⟨_, rfl⟩
   obtain ⟨ul, hul⟩ : ∃ ul, ul = us.length := ⟨_, rfl⟩
   rw [← hus, ← hul] at HUl
   rw [← hus] at HCu
   rw [← hus, ← hul]
   have HUs := LH hus
   have HUn := LH hul
   have hul9 := HUl.out
   clear hcu hb4 hp c0 hus hul HH HMr
   have d0 := HM4.out.cell 0 0 rfl rfl
   have d1 := HM4.out.cell 0 1 rfl rfl
   have d2 := HM4.out.cell 0 2 rfl rfl
   have d3 := HM4.out.cell 0 3 rfl rfl
   go_upto_region 8 with fail
   by_cases h0 : ok = 0
   ·subst h0
    obtain ⟨t1, ht1⟩ : ∃ t1, t1 = max op 0 := ⟨_, rfl⟩
    obtain ⟨t2, ht2⟩ : ∃ t2, t2 = min t1 63 := ⟨_, rfl⟩
    obtain ⟨t3, ht3⟩ : ∃ t3, t3 = max od 0 := ⟨_, rfl⟩
    obtain ⟨t4, ht4⟩ : ∃ t4, t4 = min t3 1500 := ⟨_, rfl⟩
    have HT1 := LH ht1.symm
    have HT2 := LH ht2.symm
    have HT3 := LH ht3.symm
    have HT4 := LH ht4.symm
    have HAl := LH (HH4.out.alloc hB2 (by omega) (by omega) (by omega) om t2 t4)
    have c0 := HMr4.out.cell 0 0 rfl rfl
    clear ht1 ht2 ht3 ht4
    go_wp2_with fail
    rw [HT1.out, HT2.out, HT3.out, HT4.out]
    refine HAl.out.mono ?_
    rintro e w5 ⟨m', R', ra, re, rfl, hh, hk, _, _⟩
    have HH5 : Hid (Hq w w5 [q] (A.re R') (n + 6 * (k + 1)) B (201000 + 600000 * (k + 1)) m') := LH (by rw [AF.re_re] at hh; exact hh.mono (by omega) (by omega))
    have HMr5 := LH (HMr4.out.off hk (by simp))
    clear hh hk d0 d1 d2 d3 c0 HAl
    go_wp2_with fail
    refine ⟨⟨k + 1, R', m', by omega, by omega, vint (by omega), HH5, HMr5⟩, ?_⟩
    simp [intOf]; omega
   have h0' : (ok == 0) = false := by simpa using h0
   have HStay : Hid (Hq w w4 [q] (A.re R) (n + 6 * (k + 1)) B (201000 + 600000 * (k + 1)) m) := LH (HH4.out.mono (by omega) (by omega))
   by_cases h1k : ok = 1
   case neg =>
    have h1k' : (ok == 1) = false := by simpa using h1k
    go_wp2_with fail
    refine ⟨⟨k + 1, R, m, by omega, by omega, vint (by omega), HStay, HMr4⟩, ?_⟩
    simp [intOf]; omega
   subst h1k
   by_cases hu0 : ul = 0
   ·have hu0' : decide ((0 : Int) < (ul : Int)) = false := by simp; omega
    go_wp2_with fail
    refine ⟨⟨k + 1, R, m, by omega, by omega, vint (by omega), HStay, HMr4⟩, ?_⟩
    simp [intOf]; omega
   have hu1 : (0 : Int) < (ul : Int) := by omega
   by_cases hp0 : 0 ≤ op
   case neg =>
    have hp0' : op < 0 := by omega
    go_wp2_with fail
    refine ⟨⟨k + 1, R, m, by omega, by omega, vint (by omega), HStay, HMr4⟩, ?_⟩
    simp [intOf]; omega
   obtain ⟨j, rfl⟩ := Int.eq_ofNat_of_zero_le hp0
   have hux0 : ((ul : Int) == 0) = false := by simpa using hu0
   have hjl : j % ul < ul := Nat.mod_lt _ (by omega)
   have hjm : (j : Int).tmod (ul : Int) = ((j % ul : Nat) : Int) := by rw [Int.tmod_eq_emod_of_nonneg (by omega)]; rfl
   obtain ⟨b2, o2, rfl, _, hcx⟩ := HCu.out.at (i := j % ul) (by rw [List.length_map, ← HUn.out]; exact hjl)
   have hcx := hcx (j % ul) (vi (us.getD (j % ul) 0)) (by rw [List.getElem?_map, List.getElem?_eq_getElem (by rw [← HUn.out]; exact hjl), List.getD_eq_getElem?_getD, List.getElem?_eq_getElem (by rw [← HUn.out]; exact hjl)]; rfl)
   generalize us.getD (j % ul) 0 = x at *
   have c0 := HMr4.out.cell 0 0 rfl rfl
   generalize j % ul = jm at *
   have r0 := fun x => later_cell c0 x
   have r1 := fun x => later_cell d1 x
   have r2 := fun x => later_cell d2 x
   have r3 := fun x => later_cell hcx x
   go_upto_region 12 with fail
   clear hcx
   refine wp_region_seg (C := fun w' => ∃ x : Later (w4), w' = x.val) [.fl [0, 1, 2, 3, 4, 5, 6, 7, 8, 9, 10, 11], .sq [12] false] (by kernel_rfl) (by kernel_rfl) (by intro c a d v w h; cases d <;> exact h) ?_
   simp only [segs, picks, List.getElem?_cons_succ, List.getElem?_cons_zero]
   have hC1 := later_drew (w4)
   refine wpSeg_fl hC1 ?_
   repeat (first | go_big_quiet_step (fail) | quiet_step (fail))
   refine wpQuiet_nil ?_
   have HH5 := LH (HH4.out.later (later_below hC1))
   have HMr5 := LH (HMr4.out.later (later_below hC1))
   clear r0 r1 r2 r3 c0 d0 d1 d2 d3
   generalize w4.drew = w5 at *
   refine wpSeg_last ?_
   go_wp2_with fail
   refine (HH5.out.free (by omega) (by omega) (by omega) om (x : Int)).mono ?_
   rintro e w6 ⟨m', R', er, rfl, hh, hk, _⟩
   have HH6 : Hid (Hq w w6 [q] (A.re R') (n + 6 * (k + 1)) B (201000 + 600000 * (k + 1)) m') := LH (by rw [AF.re_re] at hh; exact hh.mono (by omega) (by omega))
   have HMr6 := LH (HMr5.out.off hk (by simp))
   clear hh hk
   go_wp2_with fail
   refine ⟨⟨k + 1, R', m', by omega, by omega, vint (by omega), HH6, HMr6⟩, ?_⟩
   simp [intOf]; omega
  ·have hor : (k : Int) = (mm : Int) ∨ ((k : Int) < (mm : Int) ∧ (k : Int) = 40) := by omega
   have HFin : Hid (Post (.returned (.tuple #[valloc A, .bool true])) wr) := LH (HP.out (A.re R) (n + 6 * k) m wr ((HH.out.less (by simp)).mono (Nat.le_refl _) (by omega)) (by omega))
   have c0 := HMr.out.cell 0 0 rfl rfl
   clear hlt
   rcases hor with h1 | ⟨h1, h2⟩
   ·obtain rfl : k = mm := by omega
    have hlt' : decide ((k : Int) < (k : Int)) = false := by simp
    clear h1
    go_wp2_with fail
    exact HFin.out
   ·obtain rfl : k = 40 := by omega
    clear h2
    go_wp2_with fail
    exact HFin.out
theorem TopQ.same {f g : Nat → Nat} {lo hi b w : Nat} (h : TopQ f lo hi b w) (e : ∀ k, lo ≤ k → k < hi → f k = g k) : TopQ g lo hi b w := by
 rcases h with ⟨h1, h2, h3⟩ | ⟨h1, h2, h3, h4, h5, h6⟩
 ·exact .inl ⟨h1, h2, fun k k1 k2 => by rw [← e k k1 k2]; exact h3 k k1 k2⟩
 ·exact .inr ⟨h1, h2, h3, by rw [← e w h2 h3]; exact h4, fun k k1 k2 => by rw [← e k k1 (by omega)]; exact h5 k k1 k2, fun k k1 k2 => by rw [← e k k1 k2]; exact h6 k k1 k2⟩
section
variable {B : Nat} {m : Al}
theorem ones_has (U : List Bool) : (fun y => (onesL U).contains y) = fun a => U.getD a false := by
 funext y
 rw [Bool.eq_iff_iff, List.contains_iff_mem]; exact mem_onesL
theorem refS_is (h : AlOk B m) (hB : 1 ≤ B) {k : Nat} (hk : k < 32) : refS m.bm.list (onesL m.used) k = prdS m k := by
 unfold refS prdS
 rw [ones_has, h.bm.lenL, numC_free h hk hB, frTo_sum h.bm]
theorem refW_is (h : AlOk B m) (hB : 1 ≤ B) {k : Nat} (hk : k < 32) : refW m.bm.list (onesL m.used) k = wrdK m k := by
 unfold refW wrdK
 rw [refS_is h hB hk, prdI_nat m hk]
theorem refO_is (h : AlOk B m) (hB : 1 ≤ B) (p d : Int) : refO m.bm.list (onesL m.used) p d = objI m B p d := by
 unfold refO objI
 rw [h.bm.lenL]
 by_cases hz : objSize p d = 0 ∨ 512 * ((B : Int) - 1) < (objSize p d : Nat)
 ·rw [if_pos hz, if_pos hz]
 ·rw [if_neg hz, if_neg hz]
  by_cases hs : small (objSize p d)
  ·rw [if_pos hs, refS_is h hB (ofN_lt hs)]
   unfold prdN
   rw [if_pos hs]
  ·rw [if_neg hs, prdN_large hs (by omega), spans_runs h.bm]
theorem grt_is (h : AlOk B m) (hB : 1 ≤ B) : grtN (spansOf m.bm.list) (fun k => (freeTo (fun y => (onesL m.used).contains y) m.bm.list k (B - 1)).length) = grtN (runsOf m.bm.free) (numC m) := by
 have e : lastC (fun k => (freeTo (fun y => (onesL m.used).contains y) m.bm.list k (B - 1)).length) 32 = lastC (numC m) 32 :=
  lastC_same 32 (fun k hk => by rw [ones_has]; exact numC_free h hk hB)
 unfold grtN
 rw [spans_runs h.bm, e]
theorem spans_small (h : AlOk B m) (hB : B ≤ 200) : ∀ x ∈ spansOf m.bm.list, 1 ≤ x.2 ∧ x.2 ≤ 200 := fun x hx => by
 rw [spans_runs h.bm] at hx
 exact ⟨(((runsOf_is m.bm.free).mem x.1 x.2).1 hx).1, Nat.le_trans (sum_memF hx) (Nat.le_trans (sum_le h.bm) hB)⟩
end
set_option maxHeartbeats 16000000 in
set_option maxRecDepth 100000 in
theorem predictTells_any (n8 : Int) (hn8 : 0 ≤ n8 ∧ n8 ≤ 255) (a : Option Addr) (mm cap : Nat) (s : List Op28) (hm : s.length = mm) (w : World) (hcs : Cells w a (recs Op28.cs s)) (hmm : mm ≤ maxLen) (p d : Int) :
  Calls Tryz.prog 9 #[.int .u8 n8, .slice a mm cap, .agg #[.int .i64 p, .int .i64 d]] w (Gives (.bool true) w) := by
 have HP : Hid (∀ w', Below w.heap.size w w' → Gives (.bool true) w (.returned (.bool true)) w') := LH (fun w' h => ⟨rfl, h⟩)
 generalize Gives (.bool true) w = Post at *
 have HM0 := LH (Mem.one w #[.int .i64 p, .int .i64 d] 129)
 have HMd := LH (fun w' (h : Below w.heap.size w w') => made29_any n8 hn8 a mm cap s hm w' (hcs.below h (Nat.le_refl _)) hmm)
 clear hm hcs hmm
 go_enter Tryz.func9, Tryz.ntmps9
 go_upto_region 1 with fail
 obtain ⟨q, hq⟩ : ∃ q, q = w.heap.size := ⟨_, rfl⟩
 rw [← hq] at HM0 ⊢
 generalize w.alloc _ = w0 at *
 clear hq
 go_wp2_with fail
 refine (awake29_any _).mono ?_
 rintro e w1 ⟨rfl, hb1⟩
 have HM1 := LH (HM0.out.later hb1)
 clear hb1 HM0
 go_wp2_with fail
 refine (HMd.out _ HM1.out.below).mono ?_
 rintro e w2 ⟨B, A, n, m, hB2, hB8, rfl, hh, hn⟩
 have HM2 := LH (HM1.out.later hh.below)
 have HA2 := LH hh.at_
 have HOk := LH hh.ok
 have c0 := hh.at_.c0
 have c1 := hh.at_.man.c0
 have HLn : Hid (m.bm.list.length = B) := LH hh.ok.bm.lenL
 have HUl : Hid ((onesL m.used).length ≤ 4096) := LH (by
  rw [onesL_length]
  have h1 := count_le_len m.used
  have h2 := hh.ok.lenU
  omega)
 clear hh hn HM1 HMd
 go_wp2_with fail
 refine (tall_any HA2.out.man.tab (by omega)).mono ?_
 rintro e w3 ⟨gl, kl, rfl, _, _, hrow, hb3⟩
 have HM3 := LH (HM2.out.later hb3)
 have HA3 := LH (HA2.out.below hb3)
 have HC3 := LH hrow.cells
 clear hb3 hrow c0 c1 HM2 HA2
 go_wp2_with fail
 refine (refs_any _ B kl m.bm.list HLn.out _ HC3.out (by omega)).mono ?_
 rintro e w4 ⟨vr, rfl, ho, hb4⟩
 obtain ⟨ar, cr, rfl, _, _⟩ := owned_form ho
 have HM4 := LH (HM3.out.later hb4)
 have HA4 := LH (HA3.out.below hb4)
 have HC4 := LH (Cells.owned3 ho)
 clear hb4 ho HM3 HA3 HC3
 go_wp2_with fail
 refine (aobjects_any HA4.out).mono ?_
 intro e w5 hp
 obtain ⟨au, cu, rfl, hcu, hb5, _⟩ := hp.own
 have HM5 := LH (HM4.out.later hb5)
 have HA5 := LH (HA4.out.below hb5)
 have HC5 := LH (HC4.out.below hb5 (Nat.le_refl _))
 have HU5 := LH hcu
 clear hb5 hcu hp HM4 HA4 HC4
 obtain ⟨ul, hul⟩ : ∃ ul, ul = (onesL m.used).length := ⟨_, rfl⟩
 rw [← hul] at HUl ⊢
 have HUn := LH hul
 have hul9 := HUl.out
 clear hul
 -- what is called from here on
 have KW := LH (fun w' (h : Below w5.heap.size w5 w') => pwords_any (HA5.out.below h) HOk.out (by omega) (by omega))
 have RW := LH (fun w' (h : Below w5.heap.size w5 w') => rwords29_any ar B cr m.bm.list HLn.out (HC5.out.below h (Nat.le_refl _)) (by omega) au ul cu (onesL m.used) HUn.out.symm (HU5.out.below h (Nat.le_refl _)) (by omega))
 have KG := LH (fun w' (h : Below w5.heap.size w5 w') => pgreatest_any (HA5.out.below h) HOk.out (by omega) (by omega))
 have RG := LH (fun w' (h : Below w5.heap.size w5 w') => rgreatest29_any ar B cr m.bm.list HLn.out (HC5.out.below h (Nat.le_refl _)) (by omega) (spans_small HOk.out (by omega)) au ul cu (onesL m.used) HUn.out.symm (HU5.out.below h (Nat.le_refl _)) (by omega))
 rw [grt_is HOk.out (by omega)] at RG
 have KO := LH (fun w' (h : Below w5.heap.size w5 w') => pobject_any (HA5.out.below h) HOk.out (by omega) (by omega) p d)
 have hSum : sumOf (spansOf m.bm.list) ≤ 200 := by rw [spans_runs HOk.out.bm]; exact Nat.le_trans (sum_le HOk.out.bm) (by omega)
 have RO := LH (fun w' (h : Below w5.heap.size w5 w') => robject29_any ar B cr m.bm.list HLn.out (HC5.out.below h (Nat.le_refl _)) (by omega) (by omega) hSum au ul cu (onesL m.used) HUn.out.symm (HU5.out.below h (Nat.le_refl _)) (by omega) p d)
 rw [refO_is HOk.out (by omega)] at RO
 have KS := LH (fun w' (h : Below w5.heap.size w5 w') k => psmall_any (HA5.out.below h) HOk.out (by omega) (by omega) k)
 have KL := LH (fun w' (h : Below w5.heap.size w5 w') z => plarge_any (HA5.out.below h) HOk.out (by omega) z)
 have RL := LH (fun w' (h : Below w5.heap.size w5 w') z => rlarge29_any ar B cr m.bm.list HLn.out (HC5.out.below h (Nat.le_refl _)) (by omega) hSum z)
 rw [spans_runs HOk.out.bm] at RL
 have HTop : Hid (∀ b k b' k', TopQ (wrdK m) 0 32 b k → TopQ (refW m.bm.list (onesL m.used)) 0 32 b' k' → b = b' ∧ k = k') := LH (fun b k b' k' h h' => h.one (h'.same (fun k _ hk => refW_is HOk.out (by omega) hk)))
 have HS1 : Hid (prdI m 32 = 0) := LH rfl
 have HS2 : Hid (prdI m (-1) = 0) := LH rfl
 have HL0 : Hid (lrgI (runsOf m.bm.free) 0 = 0) := LH rfl
 clear hSum HUl HLn
 generalize grtN (runsOf m.bm.free) (numC m) = gr at *
 generalize objI m B p d = ob at *
 go_wp2_with fail
 refine (KW.out _ (Below.refl _ _)).mono ?_
 rintro e w6 ⟨tb, tk, hq1, rfl, hb6⟩
 have HB6 := LH hb6
 have HQ1 := LH hq1
 clear hb6 hq1 KW
 go_wp2_with fail
 refine (RW.out _ HB6.out).mono ?_
 rintro e w7 ⟨tb', tk', hq2, rfl, hb7⟩
 obtain ⟨rfl, rfl⟩ := HTop.out _ _ _ _ HQ1.out hq2
 have HB7 := LH (HB6.out.trans (hb7.mono HB6.out.size))
 have HM7 := LH (HM5.out.later HB7.out)
 clear hb7 hq2 RW HQ1 HTop HB6
 have d0 := HM7.out.cell 0 0 rfl rfl
 have d1 := HM7.out.cell 0 1 rfl rfl
 go_upto_region 9 with fail
 have r0 := fun x => later_cell d0 x
 have r1 := fun x => later_cell d1 x
 refine wp_region_seg (C := fun w' => ∃ x : Later (w7), w' = x.val) [.fl [0, 1], .sq [2, 3] false, .fl [4, 5], .sq [6, 7, 8] false, .fl [9, 11, 12], .sq [10] true, .sq [13, 14, 15, 16] false, .fl [17, 18, 20, 21, 22], .sq [19] true, .sq [23] true, .sq [24, 25, 26] false] (by kernel_rfl) (by kernel_rfl) (by intro c a d v w h; cases d <;> exact h) ?_
 simp only [segs, picks, List.getElem?_cons_succ, List.getElem?_cons_zero]
 have hC1 := later_drew (w7)
 refine wpSeg_fl hC1 ?_
 repeat (first | go_big_quiet_step (fail) | quiet_step (fail))
 refine wpQuiet_nil ?_
 have HB8 : Hid (Below w5.heap.size w5 w7.drew) := LH (HB7.out.trans ((later_below hC1).mono HB7.out.size))
 refine wpSeg_sq (fun K hK => ?_)
 go_wp2_with fail
 go_wp2_with fail
 refine hK _ _ (fun h => nomatch h) ?_
 clear hK K
 refine wpSeg_fl hC1 ?_
 repeat (first | go_big_quiet_step (fail) | quiet_step (fail))
 refine wpQuiet_nil ?_
 refine wpSeg_sq (fun K hK => ?_)
 go_wp2_with fail
 go_wp2_with fail
 refine hK _ _ (fun h => nomatch h) ?_
 clear hK K
 refine wpSeg_fl hC1 ?_
 repeat (first | go_big_quiet_step (fail) | quiet_step (fail))
 refine wpQuiet_nil ?_
 refine wpSeg_sq (fun K hK => ?_)
 go_wp2_with fail
 refine (KG.out _ HB8.out).mono ?_
 rintro e w9 ⟨rfl, hb⟩
 have HB9 := LH (HB8.out.trans (hb.mono HB8.out.size))
 have hC2 := later_step hC1 hb
 clear hb
 go_wp2_with fail
 refine hK _ _ (fun _ => hC2) ?_
 clear hK K
 refine wpSeg_sq (fun K hK => ?_)
 go_wp2_with fail
 refine (RG.out _ HB9.out).mono ?_
 rintro e w10 ⟨rfl, hb⟩
 have HB10 := LH (HB9.out.trans (hb.mono HB9.out.size))
 have hC3 := later_step hC2 hb
 clear hb
 go_wp2_with fail
 refine hK _ _ (fun h => nomatch h) ?_
 clear hK K
 refine wpSeg_fl hC3 ?_
 repeat (first | go_big_quiet_step (fail) | quiet_step (fail))
 refine wpQuiet_nil ?_
 refine wpSeg_sq (fun K hK => ?_)
 go_wp2_with fail
 refine (KO.out _ HB10.out).mono ?_
 rintro e w11 ⟨rfl, hb⟩
 have HB11 := LH (HB10.out.trans (hb.mono HB10.out.size))
 have hC4 := later_step hC3 hb
 clear hb
 go_wp2_with fail
 refine hK _ _ (fun _ => hC4) ?_
 clear hK K
 refine wpSeg_sq (fun K hK => ?_)
 go_wp2_with fail
 refine (lawref8_any p d _).mono ?_
 rintro e w12 ⟨rfl, hb⟩
 have HB12 := LH (HB11.out.trans (hb.mono HB11.out.size))
 have hC5 := later_step hC4 hb
 clear hb
 go_wp2_with fail
 refine hK _ _ (fun _ => hC5) ?_
 clear hK K
 refine wpSeg_last ?_
 go_wp2_with fail
 refine (RO.out _ HB12.out).mono ?_
 rintro e w13 ⟨rfl, hb⟩
 have HB13 := LH (HB12.out.trans (hb.mono HB12.out.size))
 have HM13 := LH (HM5.out.later HB13.out)
 clear hb hC1 hC2 hC3 hC4 hC5 HB8 HB9 HB10 HB11 HB12 KG RG KO RO r0 r1 d0 d1 HM7
 have d1 := HM13.out.cell 0 1 rfl rfl
 have r1 := fun x => later_cell d1 x
 go_upto_region 11 with fail
 refine wp_region_seg (C := fun w' => ∃ x : Later (w13), w' = x.val) [.sq [0, 1, 2, 3, 4, 5, 6, 7, 8, 9, 10, 11, 12, 13] false, .fl [14, 15, 16, 18, 19, 20], .sq [17] true, .sq [21, 22, 23, 24] false] (by kernel_rfl) (by kernel_rfl) (by intro c a d v w h; cases d <;> exact h) ?_
 simp only [segs, picks, List.getElem?_cons_succ, List.getElem?_cons_zero]
 have hC1 := later_drew (w13)
 have HB14 : Hid (Below w5.heap.size w5 w13.drew) := LH (HB13.out.trans ((later_below hC1).mono HB13.out.size))
 refine wpSeg_sq (fun K hK => ?_)
 go_wp2_with fail
 refine (KS.out _ HB14.out 32).mono ?_
 rintro e w15 ⟨rfl, hb⟩
 rw [HS1.out]
 have HB15 := LH (HB14.out.trans (hb.mono HB14.out.size))
 have hC2 := later_step hC1 hb
 clear hb
 go_wp2_with fail
 refine (KS.out _ HB15.out (-1)).mono ?_
 rintro e w16 ⟨rfl, hb⟩
 rw [HS2.out]
 have HB16 := LH (HB15.out.trans (hb.mono HB15.out.size))
 have hC3 := later_step hC2 hb
 clear hb
 go_wp2_with fail
 refine (KL.out _ HB16.out 0).mono ?_
 rintro e w17 ⟨rfl, hb⟩
 rw [HL0.out]
 have HB17 := LH (HB16.out.trans (hb.mono HB16.out.size))
 have hC4 := later_step hC3 hb
 clear hb
 go_wp2_with fail
 refine hK _ _ (fun h => nomatch h) ?_
 clear hK K
 refine wpSeg_fl hC4 ?_
 repeat (first | go_big_quiet_step (fail) | quiet_step (fail))
 refine wpQuiet_nil ?_
 refine wpSeg_sq (fun K hK => ?_)
 go_wp2_with fail
 refine (KL.out _ HB17.out d).mono ?_
 rintro e w18 ⟨rfl, hb⟩
 have HB18 := LH (HB17.out.trans (hb.mono HB17.out.size))
 have hC5 := later_step hC4 hb
 clear hb
 go_wp2_with fail
 refine hK _ _ (fun _ => hC5) ?_
 clear hK K
 refine wpSeg_last ?_
 go_wp2_with fail
 refine (RL.out _ HB18.out d).mono ?_
 rintro e w19 ⟨rfl, hb⟩
 have HFin := LH (HP.out _ (HM5.out.later (HB18.out.trans (hb.mono HB18.out.size))).below)
 clear hb
 generalize lrgI (runsOf m.bm.free) d = x at *
 go_wp2_with fail
 exact HFin.out
end Go.Proofs.YtbimcogdbafjpaaGreat
namespace Go.Proofs.YtbimcogdbafjpaaGreat
open Go.RowKit Go.ChangeShapes Go.WideShapes Go.Deep
theorem wf_bounds {x : Int} (h : (Lit.int .i64 x).wf = true) : -9223372036854775808 ≤ x ∧ x ≤ 9223372036854775807 := by
 simp [Lit.wf, IntKind.min, IntKind.max, IntKind.bits, IntKind.signed] at h
 omega
theorem list_of {α : Type} (P : Nat → α → Prop) : ∀ n, (∀ i, i < n → ∃ x, P i x) → ∃ l : List α, l.length = n ∧ ∀ i x, l[i]? = some x → P i x
 | 0, _ => ⟨[], rfl, by simp⟩
 | n + 1, h => by
  obtain ⟨l, hl, hp⟩ := list_of P n (fun i hi => h i (by omega))
  obtain ⟨x, hx⟩ := h n (by omega)
  refine ⟨l ++ [x], by simp [hl], fun i y hy => ?_⟩
  by_cases hi : i < l.length
  ·rw [List.getElem?_append_left hi] at hy; exact hp i y hy
  ·rw [List.getElem?_append_right (by omega)] at hy
   have h0 : i - l.length = 0 := by
    have := (List.getElem?_eq_some_iff.1 hy).1; simp at this; omega
   rw [h0] at hy
   simp at hy
   subst hy
   rw [show i = n by omega]; exact hx
section
variable {H : Type} {enc : TypeId × Value → H} {P : Program} {w : World} {base : Nat} {spare : Nat → Bool} {held : Bool}
theorem ints_struct {e T : TypeId} {fs : Array Field} {n fuel : Nat} {us : List Value} {z : DataW H × List MemPlace} (he : P.underlying e = some (.struct fs)) (hT : P.underlying T = some (.int .i64)) (hc : P.cellsOf T = 1)
  (hF : ((List.range n).all fun j => match fs[j]? with | some f => f.type == T && f.offset == j | none => false) = true) (hlen : us.length = n) (hz : DataW.trod enc P w base spare held fuel e us = some z) :
  ∃ zs : List Int, zs.length = n ∧ us = zs.map (Value.int .i64) ∧ ∀ x ∈ zs, -9223372036854775808 ≤ x ∧ x ≤ 9223372036854775807 := by
 obtain ⟨ys, n', _, _, _, hyl, hf⟩ := DataW.trod_struct he hz
 have each : ∀ j, j < n → ∃ x : Int, us[j]? = some (.int .i64 x) ∧ (-9223372036854775808 ≤ x ∧ x ≤ 9223372036854775807) := by
  intro j hj
  have h1 := List.all_eq_true.1 hF j (List.mem_range.2 hj)
  cases hfj : fs[j]? with
  | none => rw [hfj] at h1; cases h1
  | some f =>
   rw [hfj] at h1
   simp only [Bool.and_eq_true, beq_iff_eq] at h1
   have h2 := hf j f hfj
   rw [h1.1, h1.2, hc] at h2
   have hjs : j < ys.length := by rw [hyl]; exact (Array.getElem?_eq_some_iff.1 hfj).1
   rw [List.getElem?_eq_getElem hjs] at h2
   have hju : j < us.length := by omega
   have h3 : (us.drop j).take 1 = [us[j]] := by rw [List.drop_eq_getElem_cons hju]; rfl
   rw [h3] at h2
   obtain ⟨x, hx, _, hw⟩ := DataW.trod_int hT h2
   have hx' : us[j] = .int .i64 x := by simpa using hx
   exact ⟨x, by rw [List.getElem?_eq_getElem hju, hx'], wf_bounds hw⟩
 obtain ⟨zs, hl, hp⟩ := list_of (fun j x => us[j]? = some (.int .i64 x) ∧ (-9223372036854775808 ≤ x ∧ x ≤ 9223372036854775807)) n each
 refine ⟨zs, hl, ?_, fun x hx => ?_⟩
 ·apply List.ext_getElem?
  intro i
  by_cases hi : i < zs.length
  ·rw [(hp i _ (List.getElem?_eq_getElem hi)).1, List.getElem?_map, List.getElem?_eq_getElem hi]; rfl
  ·rw [List.getElem?_eq_none (by omega), List.getElem?_eq_none (by simp; omega)]
 ·obtain ⟨i, hi, rfl⟩ := List.mem_iff_getElem.1 hx
  exact (hp i _ (List.getElem?_eq_getElem hi)).2
theorem recs_ints_read {α : Type} {f : α → List Value} {n : Nat} (hfl : ∀ x, (f x).length = n) (hn : 0 < n) (d : α) (mk : List Int → α) (hmk : ∀ zs : List Int, zs.length = n → f (mk zs) = zs.map (Value.int .i64))
  {t e T : TypeId} {fs : Array Field} {fuel : Nat} {v : Value} {y : DataW H × List MemPlace} (ht : P.underlying t = some (.slice e)) (he : P.underlying e = some (.struct fs)) (hT : P.underlying T = some (.int .i64)) (hC : P.cellsOf e = n) (hc : P.cellsOf T = 1)
  (hF : ((List.range n).all fun j => match fs[j]? with | some f => f.type == T && f.offset == j | none => false) = true) (h : DataW.trod enc P w base spare held fuel t [v] = some y) :
  ∃ (a : Option Addr) (len cap : Nat) (l : List α), v = .slice a len cap ∧ l.length = len ∧ Cells w a (recs f l) ∧ (∀ o ∈ l, ∃ zs : List Int, o = mk zs ∧ zs.length = n ∧ ∀ x ∈ zs, -9223372036854775808 ≤ x ∧ x ≤ 9223372036854775807) ∧ len ≤ maxLen := by
 obtain ⟨a, len, cap, m, rfl, hl, hm, hcs⟩ := elems_read ht hC hn h
 rcases hcs with rfl | ⟨b, off, rfl, hcs⟩
 ·exact ⟨a, 0, cap, [], rfl, rfl, Cells.nil _ _, by simp, Nat.zero_le _⟩
 ·have each : ∀ i, i < len → ∃ x : α, (∀ r u, (f x)[r]? = some u → w.cell? ⟨b, off + i * n + r, none⟩ = some u) ∧ ∃ zs : List Int, x = mk zs ∧ zs.length = n ∧ ∀ x ∈ zs, -9223372036854775808 ≤ x ∧ x ≤ 9223372036854775807 := by
   intro i hi
   obtain ⟨us, z, hlen, hat, hz⟩ := hcs i hi
   obtain ⟨zs, h1, h2, h3⟩ := ints_struct he hT hc hF hlen hz
   exact ⟨mk zs, fun r u hr => by rw [hmk zs h1, ← h2] at hr; exact hat r u hr, zs, rfl, h1, h3⟩
  obtain ⟨l, hll, hcl, hok⟩ := recs_of hfl hn d each
  exact ⟨_, len, cap, l, rfl, hll, hcl, hok, by omega⟩
end
section
variable {H : Type} {enc : TypeId × Value → H} {w : World} {base : Nat} {spare : Nat → Bool} {held : Bool}
set_option maxRecDepth 100000 in
theorem ohob_cells {fuel : Nat} {us : List Value} {z : DataW H × List MemPlace} (hlen : us.length = 2) (h : DataW.trod enc Tryz.prog w base spare held fuel 129 us = some z) :
  ∃ p d : Int, us = [.int .i64 p, .int .i64 d] := by
 obtain ⟨ys, n', _, _, _, hyl, hf⟩ := DataW.trod_struct Tryz.underlying129 h
 have hl2 : ys.length = 2 := hyl
 match us, hlen with
 | [u0, u1], _ =>
  have c0 : Tryz.prog.cellsOf 3 = 1 := by kernel_rfl
  have h0 := hf 0 _ rfl
  have h1 := hf 1 _ rfl
  rw [List.getElem?_eq_getElem (by omega)] at h0 h1
  have h0 : DataW.trod enc Tryz.prog w base spare held n' 3 (List.take (Tryz.prog.cellsOf 3) [u0, u1]) = some _ := h0
  have h1 : DataW.trod enc Tryz.prog w base spare held n' 3 (List.take (Tryz.prog.cellsOf 3) [u1]) = some _ := h1
  rw [c0] at h0 h1
  obtain ⟨k, hk, _, _⟩ := DataW.trod_int Tryz.underlying3 h0
  obtain ⟨k', hk', _, _⟩ := DataW.trod_int Tryz.underlying3 h1
  refine ⟨k, k', ?_⟩
  have e0 : u0 = .int .i64 k := by simpa using hk
  have e1 : u1 = .int .i64 k' := by simpa using hk'
  rw [e0, e1]
end
end Go.Proofs.YtbimcogdbafjpaaGreat
namespace Go.Proofs.YtbimcogdbafjpaaGreat
open Go.RowKit Go.Maps
theorem free_fr (u : Nat → Bool) (L : List Hd) (k C : Nat) (hC : clsCells (k : Int) ≤ C) : ∀ n, (freeTo u L k n).length + frTo L (n + 1) * C ≤ n * C
 | 0 => by show 0 + (0 + 0) * C ≤ 0 * C; omega
 | n + 1 => by
  have ih := free_fr u L k C hC n
  have hf : frTo L (n + 1 + 1) = frTo L (n + 1) + if 1 ≤ n + 1 ∧ (L.getD (n + 1) default).k = 0 then 1 else 0 := rfl
  have hl := cellsTo_len (u := u) (b := n + 1) (k := k) (clsCells (k : Int))
  have hs : (freeTo u L k (n + 1)).length = (freeTo u L k n).length + if isSm L k (n + 1) then (cellsTo u (n + 1) k (clsCells (k : Int))).length else 0 := by
   show (freeTo u L k n ++ _).length = _
   rw [List.length_append]; split <;> rfl
  rw [hs, hf, Nat.add_mul, Nat.add_mul n 1 C, Nat.one_mul]
  by_cases hsm : isSm L k (n + 1)
  ·have h0 : ¬ (1 ≤ n + 1 ∧ (L.getD (n + 1) default).k = 0) := by
    rintro ⟨_, h⟩
    unfold isSm at hsm
    rw [h] at hsm
    simp at hsm
   rw [if_pos hsm, if_neg h0, Nat.zero_mul]
   omega
  ·rw [if_neg hsm]
   split
   ·rw [Nat.one_mul]; omega
   ·rw [Nat.zero_mul]; omega
section
variable {B : Nat} {m : Al}
theorem prdS_small (h : AlOk B m) (hB : 1 ≤ B) {k : Nat} (hk : k < 32) : prdS m k ≤ (B - 1) * 256 := by
 have h1 := free_fr (fun a => m.used.getD a false) m.bm.list k 256 (clsCells_256 hk) (B - 1)
 rw [numC_free h hk hB, show B - 1 + 1 = B by omega, frTo_sum h.bm] at h1
 have h2 : sumOf (runsOf m.bm.free) * clsCells (k : Int) ≤ sumOf (runsOf m.bm.free) * 256 := Nat.mul_le_mul_left _ (clsCells_256 hk)
 unfold prdS
 omega
theorem prdN_le (h : AlOk B m) (hB1 : 1 ≤ B) (hB : B ≤ 8) (n : Nat) (hn : 1 ≤ n) : prdN m n ≤ 1792 := by
 by_cases hs : small n
 ·have := prdS_small h hB1 (ofN_lt hs)
  unfold prdN
  rw [if_pos hs]
  have : (B - 1) * 256 ≤ 7 * 256 := Nat.mul_le_mul_right _ (by omega)
  omega
 ·have h1 : 1 ≤ objBlocks n := by unfold objBlocks; rw [if_neg hs]; omega
  have h2 := divs_le (runsOf m.bm.free) h1
  have h3 := sum_le h.bm
  unfold prdN
  rw [if_neg hs]
  omega
theorem objI_le (h : AlOk B m) (hB1 : 1 ≤ B) (hB : B ≤ 8) (p d : Int) : objI m B p d ≤ 1792 := by
 unfold objI
 split
 ·exact Nat.zero_le _
 ·exact prdN_le h hB1 hB _ (by omega)
end
set_option maxHeartbeats 16000000 in
set_option maxRecDepth 100000 in
theorem predictKeeps_any (n8 : Int) (hn8 : 0 ≤ n8 ∧ n8 ≤ 255) (a : Option Addr) (mm cap : Nat) (s : List Op28) (hm : s.length = mm) (w : World) (hcs : Cells w a (recs Op28.cs s)) (hmm : mm ≤ maxLen) (p d : Int) :
  Calls Tryz.prog 8 #[.int .u8 n8, .slice a mm cap, .agg #[.int .i64 p, .int .i64 d]] w (Gives (.bool true) w) := by
 have HP : Hid (∀ w', Below w.heap.size w w' → Gives (.bool true) w (.returned (.bool true)) w') := LH (fun w' h => ⟨rfl, h⟩)
 generalize Gives (.bool true) w = Post at *
 have HM0 := LH (Mem.one w #[.int .i64 p, .int .i64 d] 129)
 have HMd := LH (fun w' (h : Below w.heap.size w w') => made29_any n8 hn8 a mm cap s hm w' (hcs.below h (Nat.le_refl _)) hmm)
 clear hm hcs hmm
 go_enter Tryz.func8, Tryz.ntmps8
 go_upto_region 1 with fail
 obtain ⟨q, hq⟩ : ∃ q, q = w.heap.size := ⟨_, rfl⟩
 rw [← hq] at HM0 ⊢
 generalize w.alloc _ = w0 at *
 clear hq
 go_wp2_with fail
 refine (awake29_any _).mono ?_
 rintro e w1 ⟨rfl, hb1⟩
 have HM1 := LH (HM0.out.later hb1)
 clear hb1 HM0
 go_wp2_with fail
 refine (HMd.out _ HM1.out.below).mono ?_
 rintro e w2 ⟨B, A, n, m, hB2, hB8, rfl, hh, hn⟩
 have HM2 := LH (HM1.out.later hh.below)
 have hq1 : q < w1.heap.size := HM1.out.glt 0 rfl
 have HH2 : Hid (Hq w1 w2 [q] A n B 25000000 m) := LH { hh with new := fun k hk => ⟨(hh.new k hk).1, fun hm => by simp at hm; have := (hh.new k hk).1; omega⟩, qlt := fun k hk => by simp at hk; subst hk; have := hh.below.size; omega }
 have HR2 : Hid (MemR w.heap.size w2 [⟨q, 129, [.int .i64 p, .int .i64 d], true⟩]) := LH HM2.out.r
 have HW1 := LH HM1.out.below
 clear hh HM1 HMd hq1
 have d0 := HM2.out.cell 0 0 rfl rfl
 have d1 := HM2.out.cell 0 1 rfl rfl
 have HOb : Hid (∀ w' R n' m' N, Hq w1 w' [q] (A.re R) n' B N m' → Calls Tryz.prog 63 #[valloc A, .agg #[.int .i64 p, .int .i64 d]] w' (Gives (.int .i64 (objI m' B p d : Nat)) w')) := LH (fun w' R n' m' N h => pobject_any h.at_ h.ok (by omega) (by omega) p d)
 have hob := objI_le HH2.out.ok (by omega) hB8 p d
 have HObD : Hid (∀ m', objI m' B p d = if objSize p d = 0 ∨ 512 * ((B : Int) - 1) < (objSize p d : Nat) then 0 else prdN m' (objSize p d)) := LH (fun _ => rfl)
 have HKO := LH (pobject_any HH2.out.at_ HH2.out.ok (by omega) (by omega) p d)
 have HO0 := LH (HObD.out m)
 generalize objI m B p d = n0 at *
 go_wp2_with fail
 refine HKO.out.mono ?_
 rintro e w3 ⟨rfl, hb3⟩
 have HH3 := LH (HH2.out.later hb3)
 have HR3 := LH (HR2.out.later hb3)
 clear hb3 d0 d1 HM2 HH2 HR2 HKO
 have hn0a : decide ((n0 : Int) < 0) = false := by simp
 have hn0b : decide ((3000 : Int) < (n0 : Int)) = false := by simp; omega
 go_upto_block 0 with fail
 go_cut [] (fun wc => ∃ (R : List Nat) (m' : Al) (n' : Nat), n' ≤ 2020000 ∧ Hid (Hq w1 wc [q] (A.re R) n' B 900000000 m') ∧ Hid (MemR w.heap.size wc [⟨q, 129, [.int .i64 p, .int .i64 d], true⟩]) ∧ Hid (objI m' B p d = 0))
 case first =>
  go_wp2_with fail
  go_loopw [10] (fun iv wr => ∃ (i : Nat) (R : List Nat) (m' : Al) (N : Nat), i ≤ n0 ∧ iv = .int .i64 (i : Int) ∧ N + 600000 * sumOf (runsOf m'.bm.free) ≤ 30000000 + 20000 * i ∧ Hid (Hq w1 wr [q] (A.re R) (n + 6 * i) B N m') ∧ Hid (MemR w.heap.size wr [⟨q, 129, [.int .i64 p, .int .i64 d], true⟩]) ∧ Hid (objI m' B p d + i = n0)) (fun iv _ => n0 - (intOf iv).toNat)
  case atStart =>
   have h8 := sum_le HH3.out.ok.bm
   exact ⟨0, A.R, m, 25000000, Nat.zero_le _, rfl, by omega, HH3, HR3, LH (by rw [HObD.out m, HO0.out]; rfl)⟩
  case round =>
   clear HH3 HR3
   obtain ⟨i, R, m', N, hi, rfl, hN, HH, HR, HI⟩ := hrel
   by_cases hlt : i < n0
   ·have hlt' : (i : Int) < (n0 : Int) := by omega
    obtain ⟨mu, hmu, hmu4⟩ : ∃ mu : Nat, (i : Int).tmod 4 = (mu : Int) ∧ mu < 4 := ⟨i % 4, by rw [Int.tmod_eq_emod_of_nonneg (by omega)]; rfl, by omega⟩
    have hgood : ¬ (objSize p d = 0 ∨ 512 * ((B : Int) - 1) < (objSize p d : Nat)) := fun c => by
     have h1 := HI.out
     rw [HObD.out m', if_pos c] at h1
     omega
    have HI2 : Hid (prdN m' (objSize p d) + i = n0) := LH (by have h1 := HI.out; rw [HObD.out m', if_neg hgood] at h1; exact h1)
    have hcases := alloc_prd HH.out.ok (by omega) (mu := mu) (p := p) (d := d) (by omega) (by omega) (by omega) (by omega)
    have HAl := LH (HH.out.alloc hB2 (by omega) (by omega) (by omega) (mu : Int) p d)
    rcases hcases with ⟨m2, x, e2, hmd, hpr, hk2, hsteps⟩ | ⟨e2, hz⟩
    case inr => exfalso; have h1 := HI2.out; omega
    obtain ⟨N2, hN2, hN2b⟩ := hsteps N HH.out.steps
    have HE2 := LH e2
    have HN2 := LH hN2
    have HNx : Hid (objI m2 B p d + (i + 1) = n0) := LH (by have h1 := HI2.out; rw [HObD.out m2, if_neg hgood]; omega)
    have d0 := HR.out.cell 0 0 rfl rfl
    have d1 := HR.out.cell 0 1 rfl rfl
    clear e2 hN2 hpr hk2 hsteps hgood HI HI2
    go_wp2_with fail
    refine HAl.out.mono ?_
    rintro e w5 ⟨m3, R3, ra, re, rfl, hh, hk, _, he3⟩
    rw [HE2.out] at he3
    injection he3 with g1 g2 g3
    subst g1 g2 g3
    have HH5 : Hid (Hq w1 w5 [q] (A.re R3) (n + 6 * (i + 1)) B N2 m2) := LH (by rw [AF.re_re] at hh; exact { hh.mono (show n + 6 * i + 6 ≤ n + 6 * (i + 1) by omega) (Nat.le_refl _) with steps := HN2.out })
    have HR5 := LH (HR.out.off hk (by simp))
    clear hh hk d0 d1 HAl HH HR HE2 HN2 hmd
    go_wp2_with fail
    refine ⟨⟨i + 1, R3, m2, N2, by omega, vint (by omega), by omega, HH5, HR5, HNx⟩, ?_⟩
    simp [intOf]; omega
   ·obtain rfl : i = n0 := by omega
    have hlt' : decide ((i : Int) < (i : Int)) = false := by simp
    have HEnd : Hid (∃ (R : List Nat) (m' : Al) (n' : Nat), n' ≤ 2020000 ∧ Hid (Hq w1 wr [q] (A.re R) n' B 900000000 m') ∧ Hid (MemR w.heap.size wr [⟨q, 129, [.int .i64 p, .int .i64 d], true⟩]) ∧ Hid (objI m' B p d = 0)) :=
     LH ⟨R, m', n + 6 * i, by omega, LH (HH.out.mono (Nat.le_refl _) (by omega)), HR, LH (by have h1 := HI.out; omega)⟩
    clear HH HR HI
    go_wp2_with fail
    go_meet
    exact HEnd.out
 case rest =>
  clear HH3 HR3
  obtain ⟨R, m', n', hn', HH, HR, HZ⟩ := hcut
  generalize wc = wx at *
  obtain ⟨mu, hmu, hmu4⟩ : ∃ mu : Nat, (n0 : Int).tmod 4 = (mu : Int) ∧ mu < 4 := ⟨n0 % 4, by rw [Int.tmod_eq_emod_of_nonneg (by omega)]; rfl, by omega⟩
  have HAl := LH (HH.out.alloc hB2 (by omega) (by omega) (Nat.le_refl _) (mu : Int) p d)
  have d0 := HR.out.cell 0 0 rfl rfl
  have d1 := HR.out.cell 0 1 rfl rfl
  obtain ⟨sz, hsz⟩ : ∃ sz, sz = objSize p d := ⟨_, rfl⟩
  have HSz := LH (fun w => rosize_any p d w)
  rw [← hsz] at HSz
  have hszl : sz ≤ 16448 := by rw [hsz]; exact objSize_le _ _
  have HErr : Hid (m'.alloc mu p d = ⟨m', 0, if sz = 0 ∨ 512 * ((B : Int) - 1) < (sz : Nat) then 5 else 4⟩) := LH (by
   rw [hsz]
   by_cases hbad : objSize p d = 0 ∨ 512 * ((B : Int) - 1) < (objSize p d : Nat)
   ·rw [if_pos hbad]
    unfold Al.alloc
    rw [if_neg (by omega), if_pos (by rw [HH.out.ok.bm.lenL]; exact hbad)]
   ·rw [if_neg hbad]
    have h1 := HZ.out
    rw [HObD.out m', if_neg hbad] at h1
    rcases alloc_prd HH.out.ok (by omega) (mu := mu) (p := p) (d := d) (by omega) (by omega) (by omega) (by omega) with ⟨m2, x, _, _, hpr, _⟩ | ⟨e2, _⟩
    ·omega
    ·exact e2)
  have HN0 : Hid (sz = 0 ∨ 512 * ((B : Int) - 1) < (sz : Nat) → n0 = 0) := LH (fun c => by rw [hsz] at c; rw [HO0.out, if_pos c])
  clear hsz HObD HO0
  go_wp2_with fail
  refine HAl.out.mono ?_
  rintro e w5 ⟨m3, R3, ra, re, rfl, hh, hk, _, he3⟩
  rw [HErr.out] at he3
  injection he3 with g1 g2 g3
  subst g1 g2
  have HG3 := LH g3
  have HH5 := LH hh
  have HR5 := LH (HR.out.off hk (by simp))
  clear hh hk d0 d1 HAl HH HR HErr g3
  have d0 := HR5.out.cell 0 0 rfl rfl
  have d1 := HR5.out.cell 0 1 rfl rfl
  go_wp2_with fail
  refine (lawref8_any p d _).mono ?_
  rintro e w6 ⟨rfl, hb6⟩
  have HB6 := LH (hb6.trans ((below_alloc w6 (.cells #[.int .i64 p, .int .i64 d] 38)).mono hb6.size))
  have HM6 := LH (Mem.one w6 #[.int .i64 p, .int .i64 d] 38)
  clear hb6 d0 d1
  go_upto_region 17 with fail
  have HH6 := LH (HH5.out.later HB6.out)
  have HR6 := LH (HR5.out.later HB6.out)
  generalize w6.alloc _ = w7 at *
  clear HB6 HH5 HR5
  have e0 := HM6.out.cell 0 0 rfl rfl
  have e1 := HM6.out.cell 0 1 rfl rfl
  have r0 := fun x => later_cell e0 x
  have r1 := fun x => later_cell e1 x
  have c0 : w7.cell? ⟨A.a, 0, none⟩ = some (.pointer (some ⟨A.X.m, 0, none⟩)) := HH6.out.at_.c0
  have c1 : w7.cell? ⟨A.X.m, 0, none⟩ = some (.pointer (some ⟨A.X.t, 0, none⟩)) := HH6.out.at_.man.c0
  have r2 := fun x => later_cell c0 x
  have r3 := fun x => later_cell c1 x
  clear c0 c1
  have HD1 : Hid (Below w7.heap.size w7 w7.drew) := LH (later_below (later_drew w7))
  have e0' := r0 ⟨w7.drew, HD1.out⟩
  have e1' := r1 ⟨w7.drew, HD1.out⟩
  dsimp only at e0' e1'
  have HW6 : Hid (Below w.heap.size w w7) := LH (HW1.out.trans (HH6.out.below.mono HW1.out.size))
  by_cases hs0 : sz = 0
  ·subst hs0
   have hn0 := HN0.out (.inl rfl)
   have hre : re = 5 := by rw [← HG3.out, if_pos (.inl rfl)]
   subst hn0 hre
   clear HN0 HG3
   refine wp_region_seg (C := fun w' => ∃ x : Later (w7), w' = x.val) [.sq [0, 1, 2, 3] false, .fl [4, 6, 7, 8, 9, 10, 11, 12], .sq [5] true, .sq [13, 14, 15, 16, 17] false] (by kernel_rfl) (by kernel_rfl) (by intro c a d v w h; cases d <;> exact h) ?_
   simp only [segs, picks, List.getElem?_cons_succ, List.getElem?_cons_zero]
   have hC1 := later_drew (w7)
   refine wpSeg_sq (fun K hK => ?_)
   go_wp2_with fail
   refine (HSz.out _).mono ?_
   rintro e w8 ⟨rfl, hb8⟩
   have hC2 := later_step hC1 hb8
   have HFin := LH (HP.out w8 (HW6.out.trans ((later_below hC2).mono HW6.out.size)))
   clear hb8 e0' e1'
   go_wp2_with fail
   refine hK _ _ (fun h => nomatch h) ?_
   clear hK K
   refine wpSeg_fl hC2 ?_
   repeat (first | go_big_quiet_step (fail) | quiet_step (fail))
   refine wpQuiet_nil ?_
   refine wpSeg_sq (fun K hK => ?_)
   go_wp2_with fail
   go_wp2_with fail
   refine hK _ _ (fun _ => hC2) ?_
   clear hK K
   refine wpSeg_last ?_
   go_wp2_with fail
   exact HFin.out
  have hs0' : ((sz : Int) == 0) = false := by simpa using hs0
  refine wp_region_seg (C := fun w' => ∃ x : Later (w7), w' = x.val) [.sq [0, 1, 2, 3] false, .fl [4, 6, 7, 8, 9, 10, 11, 12], .sq [5] true, .sq [13, 14, 15, 16, 17] false] (by kernel_rfl) (by kernel_rfl) (by intro c a d v w h; cases d <;> exact h) ?_
  simp only [segs, picks, List.getElem?_cons_succ, List.getElem?_cons_zero]
  have hC1 := later_drew (w7)
  refine wpSeg_sq (fun K hK => ?_)
  go_wp2_with fail
  refine (HSz.out _).mono ?_
  rintro e w8 ⟨rfl, hb8⟩
  have hC2 := later_step hC1 hb8
  clear hb8 e0' e1'
  go_wp2_with fail
  refine hK _ _ (fun h => nomatch h) ?_
  clear hK K
  refine wpSeg_fl hC2 ?_
  repeat (first | go_big_quiet_step (fail) | quiet_step (fail))
  refine wpQuiet_nil ?_
  refine wpSeg_sq (fun K hK => ?_)
  go_wp2_with fail
  refine (HSz.out _).mono ?_
  rintro e w9 ⟨rfl, hb9⟩
  have hC3 := later_step hC2 hb9
  have HH9 := LH (HH6.out.later (later_below hC3))
  have HR9 := LH (HR6.out.later (later_below hC3))
  have HW9 : Hid (Below w.heap.size w w9) := LH (HW6.out.trans ((later_below hC3).mono HW6.out.size))
  clear hb9
  go_wp2_with fail
  refine hK _ _ (fun _ => hC3) ?_
  clear hK K
  refine wpSeg_last ?_
  go_wp2_with fail
  refine (tlen_any HH9.out.at_.man.tab).mono ?_
  rintro e w10 ⟨rfl, rfl⟩
  have HFin := LH (HP.out _ HW9.out)
  clear hC1 hC2 hC3 r0 r1 r2 r3 e0 e1 HD1 HM6 HH6 HR6 HW6
  by_cases hbig : 512 * ((B : Int) - 1) < (sz : Nat)
  ·have hn0 := HN0.out (.inr hbig)
   have hre : re = 5 := by rw [← HG3.out, if_pos (.inr hbig)]
   subst hn0 hre
   clear HN0 HG3
   go_wp2_with fail
   exact HFin.out
  have hbig' : (sz : Int) ≤ 512 * ((B : Int) - 1) := by omega
  have hre : re = 4 := by rw [← HG3.out, if_neg (by omega)]
  subst hre
  have d0 := HR9.out.cell 0 0 rfl rfl
  have d1 := HR9.out.cell 0 1 rfl rfl
  have HLast := LH (HOb.out _ _ _ _ _ HH9.out)
  rw [HZ.out] at HLast
  clear HN0 HG3 hbig hs0 hs0'
  go_wp2_with fail
  refine HLast.out.mono ?_
  rintro e w11 ⟨rfl, hb11⟩
  have HFin2 := LH (HP.out w11 (HW9.out.trans (hb11.mono HW9.out.size)))
  clear hb11
  go_wp2_with fail
  exact HFin2.out
end Go.Proofs.YtbimcogdbafjpaaGreat
