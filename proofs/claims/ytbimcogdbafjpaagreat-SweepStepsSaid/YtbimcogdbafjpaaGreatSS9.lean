/- Parts of the proof, one behind the other: Ee, Zq, En, Eo, Ep, Eq, Er, Es, Yf, Zw, Qv. -/
import Derived.Test.YtbimcogdbafjpaaGreatSS8
import Derived.Deep.Cut
import Derived.BigQuiet
set_option linter.unusedVariables false
namespace Go.Proofs.YtbimcogdbafjpaaGreat
theorem store_dirty {S : Dev} (i : Nat) (x l : Nat) (h : l ≠ i / 8) : (S.store (i : Int) x).dirty.getD l false = S.dirty.getD l false := by
 obtain ⟨_, _, _, e4, _⟩ := S.step_rest
 unfold Dev.store
 split
 ·rfl
 ·split
  ·rw [e4]
  ·show (S.step.dirty.set ((i : Int).toNat / 8) true).getD l false = _
   rw [e4, List.getD_eq_getElem?_getD, List.getElem?_set_ne (by rw [Int.toNat_natCast]; exact fun e => h e.symm), ← List.getD_eq_getElem?_getD]
theorem zeroTo_dirty {S : Dev} (a l : Nat) (h : l < a / 8) : ∀ k, (zeroTo S a k).dev.dirty.getD l false = S.dirty.getD l false
 | 0 => rfl
 | k + 1 => by
  unfold zeroTo
  split
  ·exact zeroTo_dirty a l h k
  ·dsimp only
   rw [store_dirty _ _ _ (by omega)]
   exact zeroTo_dirty a l h k
theorem init_rest {S : Dev} (h : S.live) (hi : S.inv) (a : Nat) (p d : Int) (hs : objSize p d ≠ 0) (hf : a + objSize p d ≤ S.cache.length) :
  (S.init a p d).dev.cache.length = S.cache.length ∧ (∀ j, ¬ (a ≤ j ∧ j < a + objSize p d) → (S.init a p d).dev.cache.getD j 0 = S.cache.getD j 0) ∧ ∀ l, l < a / 8 → (S.init a p d).dev.dirty.getD l false = S.dirty.getD l false := by
 have hE : S.init a p d = S.initN a (objSize p d) (oencN a p d) := by unfold Dev.init; rw [if_neg hs, if_neg (by omega)]; rfl
 rw [hE]
 obtain ⟨i1, i2, i3, i4, i5⟩ := zeroTo_live h hi a (objSize p d - 1) (by omega)
 have hI : S.initN a (objSize p d) (oencN a p d) = ⟨(zeroTo S a (objSize p d - 1)).dev.store (a : Int) (oencN a p d), (zeroTo S a (objSize p d - 1)).dev.storeE (a : Int)⟩ := by unfold Dev.initN; rw [if_neg (by rw [i1]; simp)]
 rw [hI]
 have hzd := fun l hl => zeroTo_dirty (S := S) a l hl (objSize p d - 1)
 generalize (zeroTo S a (objSize p d - 1)).dev = T at *
 obtain ⟨s1, s2⟩ := i2.store_ok a (oencN (a : Int) p d) (by omega)
 refine ⟨by dsimp only; rw [s2]; simp [i4], fun j hj => ?_, fun l hl => ?_⟩
 ·dsimp only
  rw [s2, getD_setN _ _ _ _ (by omega), if_neg (by omega), i5 j, if_neg (by omega)]
 ·dsimp only
  rw [store_dirty _ _ _ (by omega)]; exact hzd l hl
theorem BmOk.words {B : Nat} {m : Bm} (h : BmOk B m) (hB : B ≤ 200) {T : Dev} (hi : T.inv) (hl : T.cache.length = m.dev.cache.length) (hw : ∀ j, j < 512 → T.cache.getD j 0 = m.dev.cache.getD j 0) (hd : ∀ l, l < 64 → T.dirty.getD l false = m.dev.dirty.getD l false) : BmOk B ⟨T, m.list, m.free⟩ := by
 refine ⟨h.lenL, h.lenF, ⟨hi, by rw [hl]; exact h.clean.fits, fun b h1 h2 => ?_⟩, h.right, fun b h1 h2 => ?_, h.free, h.large⟩
 ·rw [hd _ (by omega)]; exact h.clean.clean b h1 h2
 ·dsimp only
  rw [hw _ (by omega)]; exact h.word b h1 h2
structure Made (B : Nat) (m m' : Al) (a : Nat) (p d : Int) : Prop where
 ok : AlOk B m'
 new : m.used.getD a false = false
 used : m'.used = m.used.set a true
 lo : 512 ≤ a
 placed : placedN m'.bm.dev m'.bm.list (a : Int) = some ⟨p, d, 0⟩
 size : objSize p d ≠ 0
 zero : ∀ i, 1 ≤ i → i < objSize p d → m'.bm.dev.cache.getD (a + i) 0 = 0
 old : ∀ j, 512 ≤ j → ¬ (a ≤ j ∧ j < a + objSize p d) → m'.bm.dev.cache.getD j 0 = m.bm.dev.cache.getD j 0
 grew : Grew m.bm.list m'.bm.list
variable {B : Nat} {m : Al}
theorem addI_new {l : List Bool} {a : Nat} (ha : a < l.length) (h : l.getD a false = false) : addI l (a : Int) = l.set a true := by
 unfold addI freshI
 rw [hasI_nat, h, if_pos]
 ·rfl
 ·simp; omega
theorem Found.apart {n a : Nat} {r : AlR} (h : AlOk B m) (hB : B ≤ 200) (hf : Found B m n r a) {L : List Hd} (hL : L = r.al.bm.list) {k : Nat} (hn : n ≤ k) (hr : RoomAt L a k) {x : Nat} (hu : m.used.getD x false = true) : x < a ∨ a + n ≤ x := by
 subst hL
 obtain ⟨o, ho⟩ := Option.isSome_iff_exists.1 (h.placed x hu)
 have hx := placed_room (placed_keep ho hf.far.len (hf.far.word x (by have := (h.used_kind hu).1; omega)) hf.grew)
 by_cases e : x < a
 ·exact .inl e
 ·by_cases e2 : x = a
  ·subst e2; rw [hf.new] at hu; cases hu
  ·have := hr.apart hx (by omega)
   omega
theorem Found.room {n a : Nat} {r : AlR} (h : AlOk B m) (hf : Found B m n r a) (hn : n ≠ 0) : ∃ k, n ≤ k ∧ RoomAt r.al.bm.list a k := by
 have hw := hf.where_
 by_cases hs : small n
 ·rw [if_pos hs] at hw
  exact ⟨_, ofN_fits hs, .cell _ (ofN_lt hs) hw rfl⟩
 ·rw [if_neg hs] at hw
  obtain ⟨h1, h2, h3, h4⟩ := hw
  refine ⟨512 * objBlocks n, ?_, .run _ h1 h2 ?_ h4 rfl⟩
  ·unfold objBlocks; rw [if_neg hs]; omega
  ·unfold objBlocks; rw [if_neg hs]; omega
theorem made_done (h : AlOk B m) (hB : B ≤ 200) {a : Nat} {p d : Int} {r : AlR} (hs : objSize p d ≠ 0) (hf : Found B m (objSize p d) r a) :
  ∃ m', r.al.made r.a p d = ⟨m', (a : Int), 0⟩ ∧ Made B m m' a p d := by
 obtain ⟨rm, hrk, hra⟩ := hf.room h hs
 obtain ⟨q1, q2, q3⟩ := hra.pos
 have hlenL := hf.bm.lenL
 rw [hlenL] at q3
 have hlen : r.al.bm.dev.cache.length = 512 * B := by rw [hf.far.len, h.len]
 have hinv := hf.bm.clean.inv
 obtain ⟨k1, k2⟩ := init_kept hf.live hinv a p d hs (by omega)
 obtain ⟨r1, r2, r3⟩ := init_rest hf.live hinv a p d hs (by omega)
 have hha := hf.at_
 have hnew := hf.new
 have hadd : addI r.al.used (a : Int) = m.used.set a true := by rw [hf.used]; exact addI_new (by rw [h.lenU]; omega) hnew
 refine ⟨⟨⟨(r.al.bm.dev.init a p d).dev, r.al.bm.list, r.al.bm.free⟩, m.used.set a true, r.al.fl⟩, ?_, ?_⟩
 ·unfold Al.made
  rw [hha, if_neg (by rw [k1]; simp), hadd]
 have hbm := hf.bm.words hB k2.inv r1 (fun j hj => r2 j (by omega)) (fun l hl => r3 l (by omega))
 have hhd := k2.headN
 have hpl : placedN (r.al.bm.dev.init a p d).dev r.al.bm.list (a : Int) = some ⟨p, d, 0⟩ := by
  unfold placedN
  rw [hhd, hlenL, if_neg (by dsimp only; omega)]
  dsimp only
  have hw := hf.where_
  by_cases hsm : small (objSize p d)
  ·rw [if_pos hsm] at hw
   rw [if_pos hsm, if_pos (by rw [Int.toNat_natCast]; exact hw)]
  ·rw [if_neg hsm] at hw
   rw [if_neg hsm, if_pos (by rw [Int.toNat_natCast]; exact ⟨hw.1, hw.2.2.2⟩)]
 have hgd : ∀ x, (m.used.set a true).getD x false = if x = a then true else m.used.getD x false := fun x => getD_set_bool _ _ _ _ (by rw [h.lenU]; omega)
 refine ⟨⟨hbm, k2.live, by dsimp only; rw [r1, hlen], by simp [h.lenU], fun x hx => ?_, fun k x hk => ?_⟩, hnew, rfl, q2, hpl, hs, fun i i1 i2 => ?_, fun j j1 j2 => ?_, hf.grew⟩
 ·dsimp only at hx ⊢
  rw [hgd] at hx
  by_cases e : x = a
  ·subst e; rw [hpl]; rfl
  ·rw [if_neg e] at hx
   obtain ⟨o, ho⟩ := Option.isSome_iff_exists.1 (h.placed x hx)
   have hap := hf.apart h hB rfl hrk hra hx
   have hx5 := h.used_kind hx
   have := placed_keep (T := (r.al.bm.dev.init a p d).dev) ho (by rw [r1, hlen, h.len]) (by rw [r2 x (by omega), hf.far.word x (by omega)]) hf.grew
   rw [this]; rfl
 ·dsimp only
  rw [hf.cells k x hk, hgd]
  by_cases e : x = a
  ·subst e; simp
  ·simp [e]
 ·have := k2.words (i - 1) (by simp; omega)
  dsimp only
  rw [show a + 1 + (i - 1) = a + i by omega] at this
  rw [this]
  simp only [List.getD_eq_getElem?_getD, List.getElem?_replicate]
  split <;> rfl
 ·dsimp only
  rw [r2 j j2, hf.far.word j (by omega)]
theorem alloc_done (h : AlOk B m) (hB : B ≤ 200) {mu p d : Int} (h0 : 0 ≤ mu) (h4 : mu < 4) (hs : objSize p d ≠ 0) (hm : (objSize p d : Int) ≤ 512 * ((B : Int) - 1)) :
  (∃ m' a, m.alloc mu p d = ⟨m', ((a : Nat) : Int), 0⟩ ∧ Made B m m' a p d) ∨ (m.alloc mu p d = ⟨m, 0, 4⟩ ∧ NoRoom m (objSize p d)) := by
 unfold Al.alloc
 rw [if_neg (by omega), h.bm.lenL, if_neg (by omega)]
 have hr : (∃ a, Found B m (objSize p d) (m.room mu.toNat (objSize p d)) a) ∨ (m.room mu.toNat (objSize p d) = ⟨m, 0, 4⟩ ∧ NoRoom m (objSize p d)) := by
  by_cases hsm : small (objSize p d)
  ·exact roomS_found h (by omega) hsm
  ·exact roomL_found h hB hsm (by omega) (objSize_le _ _)
 rcases hr with ⟨a, hf⟩ | ⟨e, hn⟩
 ·left
  rw [if_neg (by rw [hf.err]; simp)]
  obtain ⟨m', e, hm'⟩ := made_done h hB hs hf
  exact ⟨m', a, e, hm'⟩
 ·right
  rw [e, if_pos (by simp)]
  exact ⟨rfl, hn⟩
theorem Made.others {m' : Al} {a : Nat} {p d : Int} (h : AlOk B m) (hm : Made B m m' a p d) {x : Nat} (hu : m.used.getD x false = true) : m'.used.getD x false = true ∧ placedN m'.bm.dev m'.bm.list (x : Int) = placedN m.bm.dev m.bm.list (x : Int) := by
 have hxa : x ≠ a := fun e => by subst e; rw [hm.new] at hu; cases hu
 have hal : a < m.used.length := by
  have h1 := placed_room hm.placed
  have := h1.pos.2.2
  rw [hm.ok.bm.lenL] at this
  have := h1.pos.1
  rw [h.lenU]; omega
 have hux : m'.used.getD x false = true := by rw [hm.used, getD_set_bool _ _ _ _ hal, if_neg hxa]; exact hu
 refine ⟨hux, ?_⟩
 obtain ⟨o, ho⟩ := Option.isSome_iff_exists.1 (h.placed x hu)
 obtain ⟨o', ho'⟩ := Option.isSome_iff_exists.1 (hm.ok.placed x hux)
 have r1 := placed_room ho'
 have r2 := placed_room hm.placed
 have hf := room_fits hm.size
 have hap : x < a ∨ a + objSize p d ≤ x := by
  by_cases e : x < a
  ·exact .inl e
  ·have := r2.apart r1 (by omega)
   dsimp only at this
   omega
 have := placed_keep (T := m'.bm.dev) (L' := m'.bm.list) ho (by rw [hm.ok.len, h.len]) (hm.old x (h.used_kind hu).1 (by omega)) hm.grew
 rw [ho, this]
end Go.Proofs.YtbimcogdbafjpaaGreat
namespace Go.Proofs.YtbimcogdbafjpaaGreat
open Go.RowKit
def blockOf (B a : Int) : Int := if a < 0 ∨ B * 512 ≤ a then -1 else a / 512
set_option maxHeartbeats 1000000 in
theorem gblockOf_any (B : Nat) (hB : B ≤ 1000) (a : Int) (w : World) : Calls Tryz.prog 152 #[vgeom (B : Int), .int .i64 a] w fun e w' => e = .returned (.int .i64 (blockOf (B : Int) a)) ∧ Below w.heap.size w w' := by
 have HB := LH (below_alloc w (Obj.cells #[.int .i64 (B : Int)] 46))
 have c0 : (w.alloc (Obj.cells #[.int .i64 (B : Int)] 46)).cell? ⟨w.heap.size, 0, none⟩ = some (.int .i64 (B : Int)) := cell_alloc_new _ _ _ 0 _ rfl
 by_cases h1 : a < 0
 ·have HE : Hid (blockOf (B : Int) a = -1) := LH (by unfold blockOf; rw [if_pos (.inl h1)])
  go_enter Tryz.func152, Tryz.ntmps152
  go_wp2_with fail
  go_ret
  exact ⟨ret_int HE.out.symm, HB.out⟩
 by_cases h2 : (B : Int) * 512 ≤ a
 ·have HE : Hid (blockOf (B : Int) a = -1) := LH (by unfold blockOf; rw [if_pos (.inr h2)])
  go_enter Tryz.func152, Tryz.ntmps152
  go_wp2_with fail
  refine (gwords_any _ _ (by omega) (by omega)).mono ?_
  rintro e w1 ⟨rfl, hb1⟩
  have HB1 := LH (HB.out.trans (hb1.mono HB.out.size))
  clear hb1
  go_wp2_with fail
  go_ret
  exact ⟨ret_int HE.out.symm, HB1.out⟩
 have HE : Hid (blockOf (B : Int) a = a / 512) := LH (by unfold blockOf; rw [if_neg (by omega)])
 have h3 : 0 ≤ a := by omega
 have h4 : a < (B : Int) * 512 := by omega
 go_enter Tryz.func152, Tryz.ntmps152
 go_wp2_with fail
 refine (gwords_any _ _ (by omega) (by omega)).mono ?_
 rintro e w1 ⟨rfl, hb1⟩
 have HB1 := LH (HB.out.trans (hb1.mono HB.out.size))
 clear hb1
 go_wp2_with fail
 go_ret
 exact ⟨ret_int HE.out.symm, HB1.out⟩
def firstOf (B b : Int) : Int := if b < 0 ∨ B ≤ b then -1 else b * 512
set_option maxHeartbeats 1000000 in
theorem gfirst_any (B : Nat) (hB : B ≤ 1000) (b : Int) (w : World) : Calls Tryz.prog 155 #[vgeom (B : Int), .int .i64 b] w fun e w' => e = .returned (.int .i64 (firstOf (B : Int) b)) ∧ Below w.heap.size w w' := by
 by_cases h1 : b < 0
 ·have HE : Hid (firstOf (B : Int) b = -1) := LH (by unfold firstOf; rw [if_pos (.inl h1)])
  go_enter Tryz.func155, Tryz.ntmps155
  go_wp2_with fail
  go_ret
  exact ⟨ret_int HE.out.symm, below_alloc _ _⟩
 by_cases h2 : (B : Int) ≤ b
 ·have HE : Hid (firstOf (B : Int) b = -1) := LH (by unfold firstOf; rw [if_pos (.inr h2)])
  go_enter Tryz.func155, Tryz.ntmps155
  go_wp2_with fail
  go_ret
  exact ⟨ret_int HE.out.symm, below_alloc _ _⟩
 have HE : Hid (firstOf (B : Int) b = b * 512) := LH (by unfold firstOf; rw [if_neg (by omega)])
 have h3 : 0 ≤ b := by omega
 have h4 : b < (B : Int) := by omega
 go_enter Tryz.func155, Tryz.ntmps155
 go_wp2_with fail
 go_ret
 exact ⟨ret_int HE.out.symm, below_alloc _ _⟩
set_option maxHeartbeats 1000000 in
theorem gdata_any (B : Nat) (hB : B ≤ 1000) (a : Int) (w : World) : Calls Tryz.prog 200 #[vgeom (B : Int), .int .i64 a] w fun e w' => e = .returned (.bool (decide (1 ≤ blockOf (B : Int) a))) ∧ Below w.heap.size w w' := by
 have HB := LH (below_alloc w (Obj.cells #[.int .i64 (B : Int)] 46))
 go_enter Tryz.func200, Tryz.ntmps200
 go_wp2_with fail
 refine (gblockOf_any B hB a _).mono ?_
 rintro e w1 ⟨rfl, hb1⟩
 have HB1 := LH (HB.out.trans (hb1.mono HB.out.size))
 clear hb1
 go_wp2_with fail
 go_ret
 exact ⟨rfl, HB1.out⟩
set_option maxHeartbeats 1000000 in
theorem gmost_any (B : Nat) (hB1 : 1 ≤ B) (hB : B ≤ 1000) (w : World) : Calls Tryz.prog 138 #[vgeom (B : Int)] w fun e w' => e = .returned (.int .i64 (((B : Int) - 1) * 512)) ∧ Below w.heap.size w w' := by
 by_cases hB2 : B = 1
 ·subst hB2
  go_enter Tryz.func138, Tryz.ntmps138
  go_wp2_with fail
  go_ret
  exact ⟨rfl, below_alloc _ _⟩
 ·have h3 : 2 ≤ B := by omega
  have h1 : max (0 : Int) ((B : Int) - 1) = (B : Int) - 1 := by omega
  have h2 : (if (0 : Int) < (B : Int) - 1 then (B : Int) - 1 else 0) = (B : Int) - 1 := by split <;> omega
  go_enter Tryz.func138, Tryz.ntmps138
  go_wp2_with fail
  go_ret
  exact ⟨rfl, below_alloc _ _⟩
def cellAt (B k b i : Int) : Int :=
 if ¬ (0 ≤ k ∧ k < 32) ∨ b < 1 ∨ B ≤ b ∨ i < 0 ∨ (clsCells k : Int) ≤ i then -1 else b * 512 + i * (clsWords k : Int)
set_option maxHeartbeats 4000000 in
set_option maxRecDepth 20000 in
theorem caddr_any (B : Nat) (hB : B ≤ 1000) (k b i : Int) (w : World) : Calls Tryz.prog 174 #[vgeom (B : Int), .int .i64 k, .agg #[.int .i64 b, .int .i64 i]] w fun e w' => e = .returned (.int .i64 (cellAt (B : Int) k b i)) ∧ Below w.heap.size w w' := by
 have HM := LH (Mem.two w #[.int .i64 (B : Int)] 46 #[.int .i64 b, .int .i64 i] 239)
 have HP : Hid (∀ (x : Int) (w' : World), x = cellAt (B : Int) k b i → Below w.heap.size w w' → (fun e w' => e = Ending.returned (.int .i64 (cellAt (B : Int) k b i)) ∧ Below w.heap.size w w') (.returned (.int .i64 x)) w') := LH (fun x w' h1 h2 => by subst h1; exact ⟨rfl, h2⟩)
 generalize (fun e w' => e = Ending.returned (.int .i64 (cellAt (B : Int) k b i)) ∧ Below w.heap.size w w') = Post at *
 have HC : Hid (cellAt (B : Int) k b i = if ¬ (0 ≤ k ∧ k < 32) ∨ b < 1 ∨ (B : Int) ≤ b ∨ i < 0 ∨ (clsCells k : Int) ≤ i then -1 else b * 512 + i * (clsWords k : Int)) := LH rfl
 have hcl : clsCells k ≤ 512 := Nat.div_le_self _ _
 have hwl := clsWords_le k
 generalize cellAt (B : Int) k b i = x at *
 go_enter Tryz.func174, Tryz.ntmps174
 go_upto_region 1 with fail
 generalize (w.alloc _).alloc _ = w0 at *
 obtain ⟨q, hq⟩ : ∃ q, q = w.heap.size := ⟨_, rfl⟩
 rw [← hq] at HM ⊢
 clear hq
 have c0 := HM.out.cell 0 0 rfl rfl
 have c1 := HM.out.cell 1 0 rfl rfl
 have c2 := HM.out.cell 1 1 rfl rfl
 have r0 := fun x => later_cell c0 x
 have r1 := fun x => later_cell c1 x
 have r2 := fun x => later_cell c2 x
 have hpos := fun h => clsWords_pos k h
 by_cases hk : 0 ≤ k ∧ k < 32
 case neg =>
  have HE : Hid (-1 = x) := LH (by rw [HC.out, if_pos (.inl hk)])
  have HK : Hid (decide (0 ≤ k ∧ k < 32) = false) := LH (by simpa using hk)
  have HR : Hid (∀ x : Later w0, Calls Tryz.prog 145 #[.int .i64 k] x.val fun e w' => e = .returned (.bool false) ∧ Below x.val.heap.size x.val w') := LH (fun x => (cright_any k x.val).mono (by rintro e w' ⟨rfl, rfl⟩; rw [HK.out]; exact ⟨rfl, Below.refl _ _⟩))
  clear hk hpos
  refine wp_region_later (by kernel_rfl) (by kernel_rfl) ?_
  repeat (quiet_step ((rename_i x; exact calls_later (HR.out x))))
  refine wpQuiet_nil ?_
  rintro w5 ⟨x5, hx5⟩
  have HM5 := LH (HM.out.later (W' := w5) (by rw [hx5]; exact x5.below))
  clear hx5 c0 c1 c2 r0 r1 r2 HM
  go_wp2_with fail
  exact HP.out _ _ HE.out HM5.out.below
 have HR : Hid (∀ x : Later w0, Calls Tryz.prog 145 #[.int .i64 k] x.val fun e w' => e = .returned (.bool true) ∧ Below x.val.heap.size x.val w') := LH (fun x => (cright_any k x.val).mono (by rintro e w' ⟨rfl, rfl⟩; rw [decide_eq_true hk]; exact ⟨rfl, Below.refl _ _⟩))
 have hp2 := hpos hk
 clear hpos
 by_cases hout : b < 1 ∨ (B : Int) ≤ b ∨ i < 0
 ·have HE : Hid (-1 = x) := LH (by rw [HC.out, if_pos (by rcases hout with h | h | h; exact .inr (.inl h); exact .inr (.inr (.inl h)); exact .inr (.inr (.inr (.inl h))))])
  have hc : b < 1 ∨ (1 ≤ b ∧ (B : Int) ≤ b) ∨ (1 ≤ b ∧ b < (B : Int) ∧ i < 0) := by omega
  clear hout hk
  rcases hc with h1 | ⟨h1, h2⟩ | ⟨h1, h2, h3⟩
  all_goals
   refine wp_region_later (by kernel_rfl) (by kernel_rfl) ?_
   repeat (quiet_step ((rename_i x; exact calls_later (HR.out x))))
   refine wpQuiet_nil ?_
   rintro w5 ⟨x5, hx5⟩
   have HM5 := LH (HM.out.later (W' := w5) (by rw [hx5]; exact x5.below))
   clear hx5 c0 c1 c2 r0 r1 r2 HM
   go_wp2_with fail
   exact HP.out _ _ HE.out HM5.out.below
 have h1 : 1 ≤ b := by omega
 have h2 : b < (B : Int) := by omega
 have h3 : 0 ≤ i := by omega
 clear hout
 obtain ⟨cn, hcn⟩ : ∃ cn, cn = clsCells k := ⟨_, rfl⟩
 have HCl : Hid (∀ x : Later w0, Calls Tryz.prog 119 #[.int .i64 k] x.val fun e w' => e = .returned (.int .i64 (cn : Int)) ∧ Below x.val.heap.size x.val w') := LH (fun x => by rw [hcn]; exact ccells_any k x.val)
 rw [← hcn] at HC hcl
 clear hcn
 by_cases h4 : (cn : Int) ≤ i
 ·have HE : Hid (-1 = x) := LH (by rw [HC.out, if_pos (.inr (.inr (.inr (.inr h4))))])
  clear hk
  refine wp_region_later (by kernel_rfl) (by kernel_rfl) ?_
  repeat (quiet_step ((rename_i x; first | (go_at_call 145; exact calls_later (HR.out x)) | (go_at_call 119; exact calls_later (HCl.out x)))))
  refine wpQuiet_nil ?_
  rintro w5 ⟨x5, hx5⟩
  have HM5 := LH (HM.out.later (W' := w5) (by rw [hx5]; exact x5.below))
  clear hx5 c0 c1 c2 r0 r1 r2 HM
  go_wp2_with fail
  exact HP.out _ _ HE.out HM5.out.below
 ·have h5 : i < (cn : Int) := by omega
  have HE : Hid (x = b * 512 + i * (clsWords k : Int)) := LH (by rw [HC.out, if_neg (by rintro (h | h | h | h | h); exact h hk; omega; omega; omega; exact h4 h)])
  clear h4
  refine wp_region_later (by kernel_rfl) (by kernel_rfl) ?_
  repeat (quiet_step ((rename_i x; first | (go_at_call 145; exact calls_later (HR.out x)) | (go_at_call 119; exact calls_later (HCl.out x)))))
  refine wpQuiet_nil ?_
  rintro w5 ⟨x5, hx5⟩
  have HM5 := LH (HM.out.later (W' := w5) (by rw [hx5]; exact x5.below))
  clear hx5 c0 c1 c2 r0 r1 r2 HM
  go_wp2_with fail
  have c0 := HM5.out.cell 0 0 rfl rfl
  have c1 := HM5.out.cell 1 0 rfl rfl
  have c2 := HM5.out.cell 1 1 rfl rfl
  have r0 := fun x => later_cell c0 x
  have r1 := fun x => later_cell c1 x
  have r2 := fun x => later_cell c2 x
  obtain ⟨wn, hwn⟩ : ∃ wn, wn = clsWords k := ⟨_, rfl⟩
  have HFi : Hid (∀ x : Later w5, Calls Tryz.prog 155 #[vgeom (B : Int), .int .i64 b] x.val fun e w' => e = .returned (.int .i64 (b * 512)) ∧ Below x.val.heap.size x.val w') := LH (fun x => by
   have := gfirst_any B hB b x.val
   rw [show firstOf (B : Int) b = b * 512 by unfold firstOf; rw [if_neg (by omega)]] at this
   exact this)
  have HWo : Hid (∀ x : Later w5, Calls Tryz.prog 141 #[.int .i64 k] x.val fun e w' => e = .returned (.int .i64 (wn : Int)) ∧ Below x.val.heap.size x.val w') := LH (fun x => by rw [hwn]; exact cwords_any k x.val)
  rw [← hwn] at HE hwl hp2
  have hm1 : 0 ≤ i * (wn : Int) := Int.mul_nonneg h3 (by omega)
  have hm2 : i * (wn : Int) ≤ 512 * 256 := Int.mul_le_mul (by omega) (by omega) (by omega) (by omega)
  clear hwn hk
  refine wp_region_later (by kernel_rfl) (by kernel_rfl) ?_
  repeat (quiet_step ((rename_i x; first | (go_at_call 155; exact calls_later (HFi.out x)) | (go_at_call 141; exact calls_later (HWo.out x)))))
  refine wpQuiet_nil ?_
  rintro w6 ⟨x6, hx6⟩
  have HM6 := LH (HM5.out.later (W' := w6) (by rw [hx6]; exact x6.below))
  clear hx6 c0 c1 c2 r0 r1 r2 HM5
  go_wp2_with fail
  have e1 : IntKind.i64.wrap (i * (wn : Int)) = i * (wn : Int) := IntWalk.i64_in _ (by omega)
  have e2 : IntKind.i64.wrap (b * 512 + i * (wn : Int)) = b * 512 + i * (wn : Int) := IntWalk.i64_in _ (by omega)
  refine HP.out _ _ ?_ HM6.out.below
  rw [e1, e2, HE.out]
end Go.Proofs.YtbimcogdbafjpaaGreat
namespace Go.Proofs.YtbimcogdbafjpaaGreat
open Go.RowKit Go.Maps
def AF.re (A : AF) (R : List Nat) : AF := { A with R := R }
def AlGo (w w' : World) (A : AF) (n B : Nat) (m : Al) : Prop := ∃ R', AlAt w' (A.re R') n B m ∧ Touch A.hot w w' ∧ ∀ b ∈ R', b ∈ A.R ∨ w.heap.size ≤ b
theorem AlGo.refl {w : World} {A : AF} {n B : Nat} {m : Al} (h : AlAt w A n B m) : AlGo w w A n B m := ⟨A.R, h, Touch.refl _ _, fun _ h => .inl h⟩
theorem AlGo.later {w w1 w2 : World} {A : AF} {n B : Nat} {m : Al} (h : AlGo w w1 A n B m) (hb : Below w1.heap.size w1 w2) : AlGo w w2 A n B m := by
 obtain ⟨R', h1, h2, h3⟩ := h
 exact ⟨R', h1.below hb, h2.later hb, h3⟩
theorem AlGo.ahead {w w0 w1 : World} {A : AF} {n B : Nat} {m : Al} (hb : Below w.heap.size w w0) (h : AlGo w0 w1 A n B m) : AlGo w w1 A n B m := by
 obtain ⟨R', h1, h2, h3⟩ := h
 exact ⟨R', h1, (Touch.ofBelow hb).trans h2, fun b hb' => (h3 b hb').imp id (fun c => Nat.le_trans hb.size c)⟩
theorem AlAt.mono {w : World} {A : AF} {n n' B : Nat} {m : Al} (h : AlAt w A n B m) (hn : n ≤ n') : AlAt w A n' B m := { h with man := h.man.mono hn, free := h.free.mono hn }
theorem AlGo.mono {w w1 : World} {A : AF} {n n' B : Nat} {m : Al} (h : AlGo w w1 A n B m) (hn : n ≤ n') : AlGo w w1 A n' B m := by
 obtain ⟨R', h1, h2, h3⟩ := h
 exact ⟨R', h1.mono hn, h2, h3⟩
theorem AF.re_hot {A : AF} {R : List Nat} {w : World} (hR : ∀ b ∈ R, b ∈ A.R ∨ w.heap.size ≤ b) : ∀ b ∈ (A.re R).hot, w.heap.size ≤ b ∨ b ∈ A.hot := by
 intro b hb
 simp only [AF.hot, AF.re, List.mem_append] at hb ⊢
 rcases hb with hb | hb | hb
 ·exact .inr (.inl hb)
 ·exact .inr (.inr (.inl hb))
 ·exact (hR b hb).symm.imp id (fun c => .inr (.inr c))
theorem AlGo.trans {w w1 w2 : World} {A : AF} {R1 : List Nat} {n B : Nat} {m : Al} (h1 : Touch A.hot w w1) (h2 : ∀ b ∈ R1, b ∈ A.R ∨ w.heap.size ≤ b) (h : AlGo w1 w2 (A.re R1) n B m) : AlGo w w2 A n B m := by
 obtain ⟨R', g1, g2, g3⟩ := h
 refine ⟨R', g1, h1.own g2 (fun b hb => AF.re_hot h2 b hb), fun b hb => ?_⟩
 rcases g3 b hb with c | c
 ·exact h2 b c
 ·exact .inr (Nat.le_trans h1.size c)
theorem AlAt.fixlt {w : World} {A : AF} {n B : Nat} {m : Al} (h : AlAt w A n B m) {k : Nat} (hk : k ∈ A.fix) : k < w.heap.size := h.mem k (by simp [AF.list, hk])
theorem AlAt.setFree {w w' : World} {A : AF} {n n' B : Nat} {m : Al} {S : FL} (h : AlAt w A n B m) (hn : n ≤ n') (hg : FreeGo w w' A.f A.mb n' A.R S) : AlGo w w' A n' B ⟨m.bm, m.used, S⟩ := by
 obtain ⟨R', g1, g2, g3⟩ := hg
 have hk : ∀ k ∈ A.fix, w'.heap[k]? = w.heap[k]? := fun k hk => g2.block k (h.fixlt hk) (fun hm => h.nR k hm hk)
 refine ⟨R', ⟨(hk A.a (by simp [AF.fix])).trans h.head, (h.man.keep (fun k hk' => hk k (by simp [AF.fix, hk']))).mono hn, h.set.keep (fun k hk' => hk k (by simp [AF.fix, hk'])), g1, h.nd, fun b hb hf => ?_, h.lenU⟩, g2.wide (fun b hb => by simp [AF.hot, hb]), g3⟩
 rcases g3 b hb with c | c
 ·exact h.nR b c hf
 ·have := h.fixlt hf; omega
theorem AlAt.setMan {w w' : World} {A : AF} {n n' B : Nat} {m : Al} {bm : Bm} (h : AlAt w A n B m) (hn : n ≤ n') (ha : ManAt w' A.X n' B bm) (ht : Touch A.X.hot w w') (hl : bm.dev.cache.length = m.bm.dev.cache.length) : AlGo w w' A n' B ⟨bm, m.used, m.fl⟩ := by
 have nd := h.nd
 unfold AF.fix at nd
 rw [List.nodup_cons, List.nodup_append] at nd
 have hX : ∀ k ∈ A.X.hot, k ∈ A.X.list := fun k hk => MF.hot_sub hk
 refine ⟨A.R, ⟨(ht.block A.a (h.fixlt (by simp [AF.fix])) (fun hm => nd.1 (List.mem_append_left _ (hX _ hm)))).trans h.head, ha, h.set.keep (fun k hk => ht.block k (h.fixlt (by simp [AF.fix, hk])) (fun hm => nd.2.2.2 k (hX k hm) k hk rfl)), (h.free.keep (fun k hk => ht.block k (h.mem k (by simp [AF.list, hk])) (fun hm => h.nR k hk (by simp [AF.fix, hX k hm])))).mono hn, h.nd, h.nR, by rw [hl]; exact h.lenU⟩, ht.wide (fun b hb => by simp [AF.hot, hb]), fun b hb => .inl hb⟩
theorem AlAt.setUsed {w w' : World} {A : AF} {n B : Nat} {m : Al} {l : List Bool} (h : AlAt w A n B m) (hs : SetAt w' A.U l) (ht : Touch A.U.list w w') (hl : l.length = m.used.length) : AlGo w w' A n B ⟨m.bm, l, m.fl⟩ := by
 have nd := h.nd
 unfold AF.fix at nd
 rw [List.nodup_cons, List.nodup_append] at nd
 refine ⟨A.R, ⟨(ht.block A.a (h.fixlt (by simp [AF.fix])) (fun hm => nd.1 (List.mem_append_right _ hm))).trans h.head, h.man.keep (fun k hk => ht.block k (h.fixlt (by simp [AF.fix, hk])) (fun hm => nd.2.2.2 k hk k hm rfl)), hs, h.free.keep (fun k hk => ht.block k (h.mem k (by simp [AF.list, hk])) (fun hm => h.nR k hk (by simp [AF.fix, hm]))), h.nd, h.nR, by rw [hl]; exact h.lenU⟩, ht.wide (fun b hb => by simp [AF.hot, hb]), fun b hb => .inl hb⟩
theorem cellAt_of {B k b i : Nat} (hk : k < 32) (hb : 1 ≤ b) (hbB : b < B) (hi : i < clsCells k) : cellAt (B : Int) (k : Int) (b : Int) (i : Int) = (cellOf b k i : Nat) := by
 unfold cellAt cellOf
 rw [if_neg (by omega), Int.natCast_add, Int.natCast_mul, Int.natCast_mul]
 omega
set_option maxHeartbeats 2000000 in
set_option maxRecDepth 20000 in
theorem acarve_any {w : World} {A : AF} {n B : Nat} {m : Al} (h : AlAt w A n B m) (hB : B ≤ 200) (hL : m.fl.upto 900000) (b k : Nat) (hk : k < 32) (hb : 1 ≤ b) (hbB : b < B) (hlen : m.used.length = 512 * B) :
  Calls Tryz.prog 103 #[valloc A, .int .i64 (b : Int), .int .i64 (k : Int)] w fun e w' => e = .returned (.tuple #[]) ∧ AlGo w w' A n B ⟨m.bm, m.used, m.carved b k⟩ := by
 have HA := LH h
 have HUp := LH hL
 have HCN : Hid (clsCells k ≤ 256) := LH (by
  have := clsWords_pos (k : Int) (by omega)
  unfold clsCells
  exact Nat.div_le_of_le_mul (by omega))
 obtain ⟨N, hN⟩ : ∃ N, N = clsCells k := ⟨_, rfl⟩
 have HAdr : Hid (∀ i : Nat, i < N → cellAt (B : Int) (k : Int) (b : Int) (i : Int) = (cellOf b k i : Nat)) := LH (fun i hi => cellAt_of hk hb hbB (by rw [← hN]; exact hi))
 have HCar : Hid (m.carved b k = m.fl.carve (fun a => m.used.getD a false) (cellOf b k) k N) := LH (by rw [hN]; rfl)
 have HCells := LH (fun w => ccells_any (k : Int) w)
 rw [← hN] at HCN HCells
 clear h hL hN
 go_enter Tryz.func103, Tryz.ntmps103
 go_wp2_with fail
 refine (HCells.out _).mono ?_
 rintro e w1 ⟨rfl, hb1⟩
 have HB1 := LH hb1
 have hN2 := HCN.out
 clear hb1
 go_wp2_with fail
 go_loopw [6] (fun iv wr => ∃ (j : Nat) (T : FL), j ≤ N ∧ iv = .int .i64 ((j : Int) - 1) ∧ Hid (m.carved b k = T.carve (fun a => m.used.getD a false) (cellOf b k) k j) ∧ Hid (T.upto (900000 + (N - j))) ∧ Hid (AlGo w wr A n B ⟨m.bm, m.used, T⟩)) (fun iv _ => (intOf iv + 1).toNat)
 case atStart => exact ⟨N, m.fl, Nat.le_refl _, vint (by omega), HCar, LH (HUp.out.mono (by omega)), LH ((AlGo.refl HA.out).later HB1.out)⟩
 case round =>
  clear HB1
  obtain ⟨j, T, hj, rfl, HT, HTu, HGo⟩ := hrel
  cases j with
  | zero =>
   have HFin : Hid (AlGo w wr A n B ⟨m.bm, m.used, m.carved b k⟩) := LH (by rw [HT.out]; exact HGo.out)
   go_wp2_with fail
   go_end0
   exact ⟨rfl, HFin.out⟩
  | succ i =>
   have hi0 : ((i + 1 : Nat) : Int) - 1 = (i : Int) := by omega
   rw [hi0]
   obtain ⟨R1, ha1, ht1, hr1⟩ := HGo.out
   have HA1 := LH ha1
   have HT1 := LH ht1
   have HR1 := LH hr1
   have c2 := ha1.c2
   clear ha1 ht1 hr1
   have HCs : Hid (T.carve (fun a => m.used.getD a false) (cellOf b k) k (i + 1) = (if m.used.getD (cellOf b k i) false then T else T.pushed k (cellOf b k i)).carve (fun a => m.used.getD a false) (cellOf b k) k i) := LH rfl
   have HAd := LH (caddr_any B (by omega) (k : Int) (b : Int) (i : Int))
   rw [HAdr.out i (by omega)] at HAd
   have HHas := LH (hasI_nat m.used (cellOf b k i))
   generalize cellOf b k i = x at *
   change wr.cell? ⟨A.a, 2, none⟩ = some (.int .i64 (B : Int)) at c2
   go_wp2_with fail
   refine (HAd.out _).mono ?_
   rintro e w2 ⟨rfl, hb2⟩
   have HA2 := LH (HA1.out.below hb2)
   have HB2 := LH hb2
   have c3 := HA2.out.c3
   have c4 := HA2.out.c4
   change w2.cell? ⟨A.a, 3, none⟩ = some (vset A.U) at c3
   change w2.cell? ⟨A.a, 4, none⟩ = some (.pointer (some ⟨A.f, 0, none⟩)) at c4
   clear hb2 c2
   go_wp2_with fail
   refine (shas_any HA2.out.set (x : Int)).mono ?_
   rintro e w3 ⟨rfl, rfl⟩
   dsimp only
   rw [HHas.out]
   cases hu : m.used.getD x false with
   | true =>
    have HNext : Hid (m.carved b k = T.carve (fun a => m.used.getD a false) (cellOf b k) k i) := LH (by rw [HT.out, HCs.out, hu]; rfl)
    clear hu
    go_wp2_with fail
    go_roundw
    case rel => exact ⟨i, T, by omega, vint (by omega), HNext, LH (HTu.out.mono (by omega)), LH (HGo.out.later HB2.out)⟩
    case measure => simp [intOf]
   | false =>
    have HNext : Hid (m.carved b k = (T.pushed k x).carve (fun a => m.used.getD a false) (cellOf b k) k i) := LH (by rw [HT.out, HCs.out, hu]; rfl)
    clear hu
    go_wp2_with fail
    refine (fpush_any HA2.out.free (HTu.out.mono (by omega)) k x hk).mono ?_
    rintro e w4 ⟨rfl, hg4⟩
    have HGo4 : Hid (AlGo w w4 A n B ⟨m.bm, m.used, T.pushed k x⟩) := LH (AlGo.trans (HT1.out.later HB2.out) HR1.out (HA2.out.setFree (Nat.le_refl _) hg4))
    have HTu4 := LH (FL.pushed_upto HTu.out k x)
    clear hg4
    generalize (if T.has k x = true then (41 : Int) else 0) = er at *
    go_wp2_with fail
    go_roundw
    case rel => exact ⟨i, _, by omega, vint (by omega), HNext, LH (HTu4.out.mono (by omega)), HGo4⟩
    case measure => simp [intOf]
def RoomPost (w : World) (A : AF) (n B : Nat) (r : AlR) : Ending → World → Prop := fun e w' => e = .returned (.tuple #[.int .i64 r.a, .int .i64 r.err]) ∧ AlGo w w' A n B r.al
theorem atake_any {w : World} {A : AF} {n B : Nat} {m : Al} (h : AlAt w A n B m) (hL : m.fl.upto 1000000) (hn : n < 1000000000000) (mu k : Nat) (hm4 : mu < 4) (hk : k < 32) :
  Calls Tryz.prog 191 #[.pointer (some ⟨A.f, 0, none⟩), .int .i64 (mu : Int), .int .i64 (k : Int)] w (RoomPost w A (n + 2) B (m.take m.bm m.fl mu k)) := by
 refine (ftake_any h.free hL hn mu k hm4 hk).mono ?_
 rintro e w' ⟨rfl, hg⟩
 unfold RoomPost Al.take
 cases hc : m.fl.cell mu k with
 | none =>
  refine ⟨rfl, ?_⟩
  have := h.setFree (by omega) hg
  rw [FL.taken_none hc] at this
  exact this
 | some x => exact ⟨rfl, h.setFree (by omega) hg⟩
theorem FL.drain_upto {S : FL} {N : Nat} (h : S.upto N) {m : Nat} (hm : m < 4) : (S.drain m).upto (2 * N) := by
 intro i hi
 have h1 := h i hi
 unfold FL.at at h1 ⊢
 by_cases e : i < 32
 ·rw [if_pos e] at h1 ⊢
  have h2 := h (slotI m i) (by unfold slotI; omega)
  rw [S.at_c m e] at h2
  unfold FL.drain
  dsimp only
  rw [if_pos e, List.length_append]
  omega
 ·rw [if_neg e] at h1 ⊢
  unfold FL.drain
  dsimp only
  split
  ·simp
  ·omega
def FL.ownerFrom (S : FL) (k : Nat) : Nat → Option Nat
 | 0 => none
 | j + 1 => if S.c (3 - j) k ≠ [] then some (3 - j) else S.ownerFrom k j
set_option maxHeartbeats 2000000 in
set_option maxRecDepth 20000 in
theorem asteal_any {w : World} {A : AF} {n B : Nat} {m : Al} (h : AlAt w A n B m) (hL : m.fl.upto 500000) (hn : n < 1000000000000) (mu k : Nat) (hm4 : mu < 4) (hk : k < 32) :
  Calls Tryz.prog 193 #[valloc A, .int .i64 (mu : Int), .int .i64 (k : Int)] w (RoomPost w A (n + 2) B (m.steal m.bm mu k)) := by
 have HA := LH h
 have HUp := LH hL
 have HS : Hid (m.steal m.bm mu k = match m.fl.ownerFrom k 4 with | some i => m.take m.bm (m.fl.drain i) mu k | none => ⟨⟨m.bm, m.used, m.fl⟩, 0, 4⟩) := LH rfl
 have HP : Hid (∀ r e w', r = m.steal m.bm mu k → RoomPost w A (n + 2) B r e w' → RoomPost w A (n + 2) B (m.steal m.bm mu k) e w') := LH (fun r e w' h1 h2 => by rw [← h1]; exact h2)
 generalize hst : m.steal m.bm mu k = st at *
 generalize hPo : RoomPost w A (n + 2) B st = Post at *
 have HPo := LH hPo
 have c4 := h.c4
 clear h hL hst hPo
 go_enter Tryz.func193, Tryz.ntmps193
 go_wp2_with fail
 go_loop [9] (fun iv => ∃ i : Nat, i ≤ 4 ∧ iv = .int .i64 (i : Int) ∧ Hid (m.fl.ownerFrom k 4 = m.fl.ownerFrom k (4 - i))) (fun iv => 4 - (intOf iv).toNat)
 case atStart => exact ⟨0, by omega, rfl, LH rfl⟩
 case round =>
  obtain ⟨i, hi4, rfl, HO⟩ := hrel
  by_cases hlt : i < 4
  case neg =>
   obtain rfl : i = 4 := by omega
   have HE : Hid (st = ⟨⟨m.bm, m.used, m.fl⟩, 0, 4⟩) := LH (by rw [HS.out, HO.out]; rfl)
   go_wp2_with fail
   refine HP.out _ _ _ HE.out.symm ?_
   exact ⟨rfl, (AlGo.refl HA.out).mono (by omega)⟩
  obtain ⟨j, hj⟩ : ∃ j, 4 - i = j + 1 := ⟨3 - i, by omega⟩
  have hji : 3 - j = i := by omega
  have HStep : Hid (m.fl.ownerFrom k (4 - i) = if m.fl.c i k ≠ [] then some i else m.fl.ownerFrom k (4 - (i + 1))) := LH (by
   rw [hj, show 4 - (i + 1) = j by omega]
   show (if m.fl.c (3 - j) k ≠ [] then some (3 - j) else m.fl.ownerFrom k j) = _
   rw [hji])
  clear hj hji
  have HOwn := LH (fown_any HA.out.free i k hlt hk)
  obtain ⟨l, hl⟩ : ∃ l, l = (m.fl.c i k).length := ⟨_, rfl⟩
  rw [← hl] at HOwn
  have HL := LH hl
  clear hl
  go_wp2_with fail
  refine HOwn.out.mono ?_
  rintro e w1 ⟨rfl, rfl⟩
  by_cases h0 : l = 0
  ·subst h0
   have hl0 : m.fl.c i k = [] := List.length_eq_zero_iff.1 HL.out.symm
   have HO2 : Hid (m.fl.ownerFrom k 4 = m.fl.ownerFrom k (4 - (i + 1))) := LH (by rw [HO.out, HStep.out, if_neg (by rw [hl0]; simp)])
   clear hl0
   go_wp2_with fail
   go_round
   case rel => exact ⟨i + 1, by omega, vint (by omega), HO2⟩
   case measure => simp [intOf]; omega
  ·have hl0 : m.fl.c i k ≠ [] := fun e => h0 (by rw [HL.out, e]; rfl)
   have HE : Hid (st = m.take m.bm (m.fl.drain i) mu k) := LH (by rw [HS.out, HO.out, HStep.out, if_pos hl0])
   have hl1 : 0 < l := by omega
   clear hl0 h0
   go_wp2_with fail
   refine (fdrain_any HA.out.free (HUp.out.mono (by omega)) hn i hlt).mono ?_
   rintro e w2 ⟨rfl, hg2⟩
   obtain ⟨R1, ha1, ht1, hr1⟩ := HA.out.setFree (Nat.le_refl _) hg2
   have HA1 := LH ha1
   have HT1 := LH ht1
   have HR1 := LH hr1
   have c41 := ha1.c4
   change w2.cell? ⟨A.a, 4, none⟩ = some (.pointer (some ⟨A.f, 0, none⟩)) at c41
   have HUd := LH (FL.drain_upto HUp.out hlt)
   clear hg2 ha1 ht1 hr1
   go_wp2_with fail
   refine (atake_any (A := A.re R1) HA1.out (HUd.out.mono (by omega)) hn mu k hm4 hk).mono ?_
   rintro e w3 ⟨rfl, hg3⟩
   have HFin := LH (AlGo.trans HT1.out HR1.out hg3)
   clear hg3
   have HE2 : Hid (st = (⟨m.bm, m.used, m.fl.drain i⟩ : Al).take m.bm (m.fl.drain i) mu k) := LH HE.out
   dsimp only at HFin ⊢
   generalize (⟨m.bm, m.used, m.fl.drain i⟩ : Al).take m.bm (m.fl.drain i) mu k = r at *
   obtain ⟨al, a, er⟩ := r
   dsimp only at HFin ⊢
   go_wp2_with fail
   refine HP.out _ _ _ HE2.out.symm ?_
   exact ⟨rfl, HFin.out⟩
theorem putAll_okB {S : Dev} {N : Nat} (hw : S.inv) (h : S.ok N) (L : List Hd) (b : Int) (l : List Hd) : (putAll S L b l).dev.ok (N + L.length + 200000) := by
 by_cases c : L.length < l.length
 ·have : putAll S L b l = ⟨S, L, 1⟩ := by
   unfold putAll
   rw [if_pos]
   by_cases c : b < 1
   ·exact .inl c
   ·exact .inr (.inr (.inl (by omega)))
  rw [this]; exact h.mono (by omega)
 ·exact (putAll_ok hw h L b l).mono (by omega)
theorem small_okN {b : Bm} {N : Nat} (hi : b.dev.inv) (h : b.dev.ok N) (hB : b.list.length ≤ 1000) (k : Int) : (b.small k).bm.dev.ok (N + 500000) := by
 unfold Bm.small
 split
 ·exact h.mono (by omega)
 ·split
  ·exact h.mono (by omega)
  ·exact (putAll_okB hi h _ _ _).mono (by omega)
theorem large_okN {b : Bm} {N : Nat} (hi : b.dev.inv) (h : b.dev.ok N) (hB : b.list.length ≤ 1000) (k : Int) : (b.large k).bm.dev.ok (N + 500000) := by
 unfold Bm.large
 split
 ·exact h.mono (by omega)
 ·split
  ·exact h.mono (by omega)
  ·split
   ·exact (putAll_okB hi h _ _ _).mono (by omega)
   ·exact (putAll_okB (putAll_inv hi _ _ _) (putAll_okB hi h _ _ _) _ _ _).mono (by rw [putAll_len]; omega)
theorem release_okN {b : Bm} {N : Nat} (hi : b.dev.inv) (h : b.dev.ok N) (hB : b.list.length ≤ 1000) (k : Int) : (b.release k).bm.dev.ok (N + 500000) := by
 unfold Bm.release
 split
 ·exact h.mono (by omega)
 ·dsimp only
  split
  ·exact (putAll_okB hi h _ _ _).mono (by omega)
  ·split
   ·exact (putAll_okB (putAll_inv hi _ _ _) (putAll_okB hi h _ _ _) _ _ _).mono (by rw [putAll_len]; omega)
   ·exact (putAll_okB (putAll_inv hi _ _ _) (putAll_okB hi h _ _ _) _ _ _).mono (by rw [putAll_len]; omega)
theorem nodup_len : ∀ (M : Nat) (l : List Nat), (∀ x ∈ l, x < M) → (∀ a, l.count a ≤ 1) → l.length ≤ M
 | 0, l, h, _ => by
  cases l with
  | nil => simp
  | cons x l => exact absurd (h x (by simp)) (by omega)
 | M + 1, l, h, h1 => by
  have e : l.length = (l.filter (fun x => x == M)).length + (l.filter (fun x => !(x == M))).length := by
   induction l with
   | nil => rfl
   | cons x l ih =>
    have := ih (fun y hy => h y (by simp [hy])) (fun a => Nat.le_trans (List.count_le_count_cons) (h1 a))
    by_cases c : x = M <;> simp [c] <;> omega
  have h2 : (l.filter (fun x => x == M)).length ≤ 1 := by
   rw [← List.countP_eq_length_filter]
   exact h1 M
  have h3 := nodup_len M (l.filter (fun x => !(x == M))) (fun x hx => by
   obtain ⟨g1, g2⟩ := List.mem_filter.1 hx
   have := h x g1
   simp at g2
   omega) (fun a => Nat.le_trans (List.Sublist.count_le a List.filter_sublist) (h1 a))
  omega
theorem AlOk.upto {B : Nat} {m : Al} (h : AlOk B m) : m.fl.upto (512 * B) := by
 have key : ∀ k, k < 32 → ∀ l : List Nat, (∀ a, l.count a ≤ m.fl.cnt k a) → l.length ≤ 512 * B := fun k hk l hl => by
  refine nodup_len _ l (fun x hx => ?_) (fun a => ?_)
  ·have h1 := hl x
   have h2 : 0 < l.count x := List.count_pos_iff.2 hx
   have h3 := h.cells k x hk
   by_cases c : isCell m.bm.list k x ∧ m.used.getD x false = false
   ·have := c.1.2.1
    rw [h.bm.lenL] at this
    exact this
   ·rw [if_neg c] at h3; omega
  ·have h1 := hl a
   have h3 := h.cells k a hk
   split at h3 <;> omega
 intro i hi
 unfold FL.at
 by_cases e : i < 32
 ·rw [if_pos e]
  refine key i e _ (fun a => ?_)
  unfold FL.cnt; omega
 ·rw [if_neg e]
  refine key ((i - 32) % 32) (Nat.mod_lt _ (by decide)) _ (fun a => ?_)
  unfold FL.cnt
  have : (i - 32) / 32 < 4 := by omega
  rcases four this with c | c | c | c <;> rw [c] <;> omega
theorem FL.carve_upto {used : Nat → Bool} {at_ : Nat → Nat} {k : Nat} : ∀ {S : FL} {N : Nat}, S.upto N → ∀ n, (S.carve used at_ k n).upto (N + n)
 | S, N, h, 0 => h
 | S, N, h, n + 1 => by
  unfold FL.carve
  have h2 : (if used (at_ n) then S else S.pushed k (at_ n)).upto (N + 1) := by
   split
   ·exact h.mono (by omega)
   ·exact FL.pushed_upto h _ _
  exact (FL.carve_upto h2 n).mono (by omega)
set_option maxHeartbeats 1000000 in
theorem gfirstN_any (B : Nat) (hB : B ≤ 1000) (b : Nat) (hb : b < B) (w : World) : Calls Tryz.prog 155 #[vgeom (B : Int), .int .i64 (b : Int)] w fun e w' => e = .returned (.int .i64 ((b : Int) * 512)) ∧ Below w.heap.size w w' := by
 have := gfirst_any B hB (b : Int) w
 rw [show firstOf (B : Int) (b : Int) = (b : Int) * 512 by unfold firstOf; rw [if_neg (by omega)]] at this
 exact this
set_option maxHeartbeats 4000000 in
set_option maxRecDepth 20000 in
theorem aroom_any {w : World} {A : AF} {n B : Nat} {m : Al} (h : AlAt w A n B m) (hok : AlOk B m) (hB : B ≤ 200) (hn : n < 900000000000) {N : Nat} (hN : N ≤ 900000000) (ho : m.bm.dev.ok N) (mu : Nat) (hm4 : mu < 4) (p d : Int) (hs : objSize p d ≠ 0) :
  Calls Tryz.prog 139 #[valloc A, .int .i64 (mu : Int), vob p d] w (RoomPost w A (n + 6) B (m.room mu (objSize p d))) := by
 have HA := LH h
 have HOk := LH hok
 have HUp := LH hok.upto
 have HSz := LH (objSize_le p d)
 have HMem := LH (Mem.one w #[.int .i64 p, .int .i64 d] 129)
 have HA0 := LH (h.below HMem.out.below)
 have HW0 := LH HMem.out.below
 have HSm := LH (fun w => osmall_any p d w)
 have HBl := LH (fun w => oblocks_any p d w)
 have HP : Hid (∀ (a er : Int) (al : Al) w', (⟨al, a, er⟩ : AlR) = m.room mu (objSize p d) → AlGo w w' A (n + 6) B al → RoomPost w A (n + 6) B (m.room mu (objSize p d)) (.returned (.tuple #[.int .i64 a, .int .i64 er])) w') := LH (fun a er al w' h1 h2 => by rw [← h1]; exact ⟨rfl, h2⟩)
 have HR : Hid (m.room mu (objSize p d) = if small (objSize p d) then m.roomS mu (ofN (objSize p d : Nat)) else m.roomL (objBlocks (objSize p d))) := LH rfl
 generalize m.room mu (objSize p d) = r at *
 generalize RoomPost w A (n + 6) B r = Post at *
 have HOkN := LH ho
 clear h hok ho
 go_enter Tryz.func139, Tryz.ntmps139
 go_upto_region 1 with fail
 obtain ⟨q, hq⟩ : ∃ q, q = w.heap.size := ⟨_, rfl⟩
 rw [← hq] at HMem ⊢
 generalize w.alloc _ = w0 at *
 have HQh : Hid (q ∉ A.X.hot) := LH (fun hm => by
  have := HA.out.mem q (by simp [AF.list, AF.fix, MF.hot_sub hm])
  rw [hq] at this
  exact Nat.lt_irrefl _ this)
 clear hq
 have d0 := HMem.out.cell 0 0 rfl rfl
 have d1 := HMem.out.cell 0 1 rfl rfl
 go_wp2_with fail
 refine (HSm.out _).mono ?_
 rintro e w1 ⟨rfl, hb1⟩
 have HA1 := LH (HA0.out.below hb1)
 have HM1 := LH (HMem.out.later hb1)
 have HW1 := LH (HW0.out.trans (hb1.mono HW0.out.size))
 clear hb1 d0 d1
 by_cases hsm : small (objSize p d)
 case neg =>
  have HE : Hid (r = m.roomL (objBlocks (objSize p d))) := LH (by rw [HR.out, if_neg hsm])
  have HNb : Hid (1 ≤ objBlocks (objSize p d) ∧ objBlocks (objSize p d) < 256) := LH (by
   have := HSz.out
   unfold objBlocks
   rw [if_neg hsm]
   omega)
  rw [ofV_large _ hsm]
  clear hsm
  generalize objBlocks (objSize p d) = nb at *
  go_upto_region 3 with fail
  have hAn : A.a ∉ A.X.hot := fun hm => by
   have nd := HA.out.nd
   unfold AF.fix at nd
   rw [List.nodup_cons] at nd
   exact nd.1 (List.mem_append_left _ (MF.hot_sub hm))
  have d0 := HM1.out.cell 0 0 rfl rfl
  have d1 := HM1.out.cell 0 1 rfl rfl
  have r0 := fun x => near_cell (L := A.X.hot) d0 HQh.out x
  have r1 := fun x => near_cell (L := A.X.hot) d1 HQh.out x
  have r2 := fun x => near_cell (L := A.X.hot) HA1.out.c0 hAn x
  have HT1 : Hid (Touch A.X.hot w1 w1.drew) := LH (Touch.ofBelow (later_below (later_drew w1)))
  have HD1 : Hid (Below w1.heap.size w1 w1.drew) := LH (later_below (later_drew w1))
  have hC1 := near_of HT1.out
  clear d0 d1 hAn
  refine wp_region_seg (C := fun w' => ∃ x : Near A.X.hot w1, w' = x.val) [.fl [0, 1, 2, 3, 4], .sq [5] true, .sq [6, 7] false, .fl [8, 9, 10], .sq [11] false] (by kernel_rfl) (by kernel_rfl) (by intro c a d v w h; cases d <;> exact h) ?_
  simp only [segs, picks, List.getElem?_cons_succ, List.getElem?_cons_zero]
  refine wpSeg_fl hC1 ?_
  repeat (first | go_big_quiet_step (fail) | quiet_step (fail))
  refine wpQuiet_nil ?_
  clear r0 r1 r2
  generalize w1.drew = wd at *
  refine wpSeg_sq (fun K hK => ?_)
  go_wp2_with fail
  refine (HBl.out _).mono ?_
  rintro e w2 ⟨rfl, hb2⟩
  have HD2 : Hid (Below w1.heap.size w1 w2) := LH (HD1.out.trans (hb2.mono HD1.out.size))
  have hC2 : ∃ x : Near A.X.hot w1, w2 = x.val := near_of (Touch.ofBelow HD2.out)
  clear hb2
  go_wp2_with fail
  refine hK _ _ (fun _ => hC2) ?_
  clear hK K
  have HA2 := LH (HA1.out.below HD2.out)
  refine wpSeg_sq (fun K hK => ?_)
  go_wp2_with fail
  refine (blarge_any HA2.out.man (by omega) (by omega) (N := N) (by omega) HOkN.out HOk.out.bm.clean.inv (nb : Int)).mono ?_
  rintro e w3 ⟨rfl, hm3, ht3⟩
  have HT3 : Hid (Touch A.X.hot w1 w3) := LH ((Touch.ofBelow HD2.out).trans ht3)
  have hC3 := near_of HT3.out
  have HLn : Hid ((m.bm.large (nb : Int)).bm.dev.cache.length = m.bm.dev.cache.length) := LH (by
   rcases large_live HOk.out.bm HOk.out.live nb HNb.out.1 HNb.out.2 with ⟨e, _⟩ | ⟨b, _, _, _, _, _, _, _, s8, _⟩
   ·rw [e]
   ·exact s8.len)
  have HGo3 : Hid (AlGo w w3 A (n + 1) B ⟨(m.bm.large (nb : Int)).bm, m.used, m.fl⟩) := LH (AlGo.ahead (HW1.out.trans (HD2.out.mono HW1.out.size)) (HA2.out.setMan (by omega) hm3 ht3 HLn.out))
  have HRL : Hid (r = if (m.bm.large (nb : Int)).err ≠ 0 then ⟨⟨(m.bm.large (nb : Int)).bm, m.used, m.fl⟩, 0, (m.bm.large (nb : Int)).err⟩ else ⟨⟨(m.bm.large (nb : Int)).bm, m.used, m.fl⟩, 512 * (m.bm.large (nb : Int)).b, 0⟩) := LH HE.out
  have HCase : Hid (((m.bm.large (nb : Int)).err = 4 ∧ (m.bm.large (nb : Int)).b = 0) ∨ ∃ b : Nat, (m.bm.large (nb : Int)).err = 0 ∧ (m.bm.large (nb : Int)).b = (b : Int) ∧ b < B) := LH (by
   rcases large_live HOk.out.bm HOk.out.live nb HNb.out.1 HNb.out.2 with ⟨e, _⟩ | ⟨b, s1, s2, _, s4, _⟩
   ·rw [e]; exact .inl ⟨rfl, rfl⟩
   ·exact .inr ⟨b, s2, s1, by have := HNb.out; omega⟩)
  clear ht3 hm3 HLn HE
  obtain ⟨lr, hlr⟩ : ∃ lr, lr = m.bm.large (nb : Int) := ⟨_, rfl⟩
  rw [← hlr] at HGo3 HRL HCase ⊢
  clear hlr
  obtain ⟨bm, bb, er⟩ := lr
  dsimp only at HGo3 HRL HCase ⊢
  go_wp2_with fail
  refine hK _ _ (fun _ => hC3) ?_
  clear hK K
  refine wpSeg_fl hC3 ?_
  repeat (first | go_big_quiet_step (fail) | quiet_step (fail))
  refine wpQuiet_nil ?_
  rcases HCase.out with ⟨rfl, rfl⟩ | ⟨b, rfl, rfl, hbB⟩
  ·have HE : Hid (⟨⟨bm, m.used, m.fl⟩, 0, 4⟩ = r) := LH (by rw [HRL.out]; rfl)
   refine wpSeg_last ?_
   go_wp2_with fail
   exact HP.out _ _ _ _ HE.out (HGo3.out.mono (by omega))
  ·have HE : Hid (⟨⟨bm, m.used, m.fl⟩, 512 * (b : Int), 0⟩ = r) := LH (by rw [HRL.out]; rfl)
   obtain ⟨R3, ha3, _⟩ := HGo3.out
   have c2 := ha3.c2
   change w3.cell? ⟨A.a, 2, none⟩ = some (.int .i64 (B : Int)) at c2
   clear ha3
   refine wpSeg_last ?_
   go_wp2_with fail
   refine (gfirstN_any B (by omega) b hbB _).mono ?_
   rintro e w4 ⟨rfl, hb4⟩
   have HGo4 := LH (HGo3.out.later hb4)
   clear hb4 c2
   go_wp2_with fail
   refine HP.out _ _ _ _ ?_ (HGo4.out.mono (by omega))
   rw [← HE.out, Int.mul_comm]
 have hk := ofN_lt hsm
 have HE : Hid (r = m.roomS mu (ofN (objSize p d : Nat))) := LH (by rw [HR.out, if_pos hsm])
 rw [ofV_small _ hsm]
 generalize ofN (objSize p d : Nat) = k at *
 have HRS : Hid (r = if (m.fl.cell mu k).isSome then m.take m.bm m.fl mu k
  else if (m.bm.small k).err = 0 then m.take (m.bm.small k).bm (m.carved (m.bm.small k).b.toNat k) mu k
  else if (m.bm.small k).err ≠ 4 then ⟨⟨(m.bm.small k).bm, m.used, m.fl⟩, 0, (m.bm.small k).err⟩
  else m.steal (m.bm.small k).bm mu k) := LH HE.out
 clear HE HR HBl HSm
 have c4 := HA1.out.c4
 go_wp2_with fail
 refine (atake_any HA1.out (HUp.out.mono (by omega)) (by omega) mu k hm4 hk).mono ?_
 rintro e w2 ⟨rfl, hg2⟩
 have HG2 := LH (AlGo.ahead HW1.out hg2)
 clear hg2 c4
 cases hc : m.fl.cell mu k with
 | some x =>
  have HT : Hid (m.take m.bm m.fl mu k = r) := LH (by rw [HRS.out, hc]; rfl)
  have HT2 : Hid (m.take m.bm m.fl mu k = ⟨⟨m.bm, m.used, m.fl.taken mu k⟩, (x : Int), 0⟩) := LH (by unfold Al.take; rw [hc]; rfl)
  rw [HT2.out] at HG2 ⊢
  have HT3 := LH (HT2.out.symm.trans HT.out)
  clear HRS hc
  go_wp2_with fail
  exact HP.out _ _ _ _ HT3.out (HG2.out.mono (by omega))
 | none =>
  have HT2 : Hid (m.take m.bm m.fl mu k = ⟨m, 0, 4⟩) := LH (by unfold Al.take; rw [hc]; rfl)
  rw [HT2.out] at HG2 ⊢
  have HRS2 : Hid (r = if (m.bm.small k).err = 0 then m.take (m.bm.small k).bm (m.carved (m.bm.small k).b.toNat k) mu k
   else if (m.bm.small k).err ≠ 4 then ⟨⟨(m.bm.small k).bm, m.used, m.fl⟩, 0, (m.bm.small k).err⟩
   else m.steal (m.bm.small k).bm mu k) := LH (by rw [HRS.out, hc]; rfl)
  clear HRS hc HT2
  obtain ⟨R2, ha2, ht2, hr2⟩ := HG2.out
  have HA2 := LH ha2
  have HT2 := LH ht2
  have HR2 := LH hr2
  have c0 := ha2.c0
  change w2.cell? ⟨A.a, 0, none⟩ = some (.pointer (some ⟨A.X.m, 0, none⟩)) at c0
  clear ha2 ht2 hr2
  go_wp2_with fail
  refine (bsmall_any (X := A.X) HA2.out.man (by omega) (by omega) (N := N) (by omega) HOkN.out (k : Int)).mono ?_
  rintro e w3 ⟨rfl, hm3, ht3⟩
  rcases small_live HOk.out.bm HOk.out.live k hk with ⟨e, hp⟩ | ⟨b, s1, s2, s3, s4, s5, s6, s7, s8, s9, s10, s11⟩
  ·rw [e] at HRS2 hm3 ⊢
   have HE : Hid (r = m.steal m.bm mu k) := LH (by rw [HRS2.out]; rfl)
   have HG3 : Hid (AlGo w w3 A (n + 3) B m) := LH (AlGo.trans HT2.out HR2.out (HA2.out.setMan (bm := m.bm) (by omega) hm3 ht3 rfl))
   obtain ⟨R3, ha3, ht3', hr3⟩ := HG3.out
   have HA3 := LH ha3
   have HT3 := LH ht3'
   have HR3 := LH hr3
   clear ha3 ht3' hr3 hm3 ht3 e hp HRS2 c0
   dsimp only
   go_wp2_with fail
   refine (asteal_any (A := A.re R3) HA3.out (HUp.out.mono (by omega)) (by omega) mu k hm4 hk).mono ?_
   rintro e w4 ⟨rfl, hg4⟩
   have HG4 := LH (AlGo.trans HT3.out HR3.out hg4)
   clear hg4
   have HE' : Hid (m.steal m.bm mu k = r) := LH HE.out.symm
   generalize m.steal m.bm mu k = st at *
   obtain ⟨al, a, er⟩ := st
   dsimp only at HG4 ⊢
   go_wp2_with fail
   exact HP.out _ _ _ _ HE'.out (HG4.out.mono (by omega))
  ·have HE : Hid (r = m.take (m.bm.small k).bm (m.carved b k) mu k) := LH (by rw [HRS2.out, if_pos s2, s1]; rfl)
   have HG3 : Hid (AlGo w w3 A (n + 3) B ⟨(m.bm.small k).bm, m.used, m.fl⟩) := LH (AlGo.trans HT2.out HR2.out (HA2.out.setMan (by omega) hm3 ht3 s8.len))
   rw [s1, s2]
   generalize (m.bm.small k).bm = bm' at *
   clear hm3 ht3 HRS2 s2 s1 s5 s6 s7 s8 s9 s10 s11 c0
   obtain ⟨R3, ha3, ht3', hr3⟩ := HG3.out
   have HA3 := LH ha3
   have HT3 := LH ht3'
   have HR3 := LH hr3
   clear ha3 ht3' hr3
   go_wp2_with fail
   refine (acarve_any (A := A.re R3) HA3.out hB (HUp.out.mono (by omega)) b k hk s3 s4 HOk.out.lenU).mono ?_
   rintro e w4 ⟨rfl, hg4⟩
   have HG4 : Hid (AlGo w w4 A (n + 3) B ⟨bm', m.used, m.carved b k⟩) := LH (AlGo.trans HT3.out HR3.out hg4)
   obtain ⟨R4, ha4, ht4', hr4⟩ := HG4.out
   have HA4 := LH ha4
   have HT4 := LH ht4'
   have HR4 := LH hr4
   have c4 := ha4.c4
   change w4.cell? ⟨A.a, 4, none⟩ = some (.pointer (some ⟨A.f, 0, none⟩)) at c4
   have HUc : Hid ((m.carved b k).upto 1000000) := LH ((FL.carve_upto (HUp.out) (clsCells k)).mono (by
    have := clsWords_pos (k : Int) (by omega)
    have : clsCells (k : Int) ≤ 256 := Nat.div_le_of_le_mul (by omega)
    omega))
   clear ha4 ht4' hr4 hg4
   go_wp2_with fail
   refine (atake_any (A := A.re R4) HA4.out HUc.out (by omega) mu k hm4 hk).mono ?_
   rintro e w5 ⟨rfl, hg5⟩
   have HG5 := LH (AlGo.trans HT4.out HR4.out hg5)
   clear hg5
   have HE' : Hid ((⟨bm', m.used, m.carved b k⟩ : Al).take bm' (m.carved b k) mu k = r) := LH HE.out.symm
   dsimp only at HG5 ⊢
   generalize (⟨bm', m.used, m.carved b k⟩ : Al).take bm' (m.carved b k) mu k = st at *
   obtain ⟨al, a, er⟩ := st
   dsimp only at HG5 ⊢
   go_wp2_with fail
   exact HP.out _ _ _ _ HE'.out (HG5.out.mono (by omega))
theorem zeroTo_clen (S : Dev) (a : Nat) : ∀ k, (zeroTo S a k).dev.cache.length = S.cache.length
 | 0 => rfl
 | k + 1 => by
  unfold zeroTo
  split
  ·exact zeroTo_clen S a k
  ·dsimp only; rw [store_clen]; exact zeroTo_clen S a k
theorem init_clen (S : Dev) (a p d : Int) : (S.init a p d).dev.cache.length = S.cache.length := by
 unfold Dev.init
 split
 ·rfl
 ·split
  ·rfl
  ·unfold Dev.initN
   split
   ·exact zeroTo_clen _ _ _
   ·dsimp only; rw [store_clen]; exact zeroTo_clen _ _ _
theorem ManAt.setDev {w w' : World} {X : MF} {n B : Nat} {m : Bm} (h : ManAt w X n B m) {d : Dev} (hd : DevAt w' X.F d) (ht : Touch X.F.list w w') : ManAt w' X n B ⟨d, m.list, m.free⟩ ∧ Touch X.hot w w' := by
 have ap := MF.apart h.nd
 have h2 := MF.notHot ap.t
 exact h.put hd (h.tab.touch ht h2.2.2.2 ap.g) (ht.wide (fun b hb => List.mem_cons_of_mem _ hb))
theorem take_bm (m : Al) (bm : Bm) (f : FL) (mu k : Nat) : (m.take bm f mu k).al.bm = bm := by unfold Al.take; split <;> rfl
theorem room_bm (m : Al) (mu n : Nat) : (m.room mu n).al.bm = m.bm ∨ (m.room mu n).al.bm = (m.bm.small (ofN (n : Int) : Nat)).bm ∨ (m.room mu n).al.bm = (m.bm.large (objBlocks n : Nat)).bm := by
 unfold Al.room
 split
 ·unfold Al.roomS
  split
  ·exact .inl (take_bm _ _ _ _ _)
  ·split
   ·exact .inr (.inl (take_bm _ _ _ _ _))
   ·split
    ·exact .inr (.inl rfl)
    ·unfold Al.steal
     split
     ·exact .inr (.inl (take_bm _ _ _ _ _))
     ·exact .inr (.inl rfl)
 ·unfold Al.roomL
  split
  ·exact .inr (.inr rfl)
  ·exact .inr (.inr rfl)
theorem room_okN {m : Al} {N : Nat} (hi : m.bm.dev.inv) (h : m.bm.dev.ok N) (hB : m.bm.list.length ≤ 1000) (mu n : Nat) : (m.room mu n).al.bm.dev.ok (N + 500000) := by
 rcases room_bm m mu n with e | e | e <;> rw [e]
 ·exact h.mono (by omega)
 ·exact small_okN hi h hB _
 ·exact large_okN hi h hB _
theorem alloc_okN {m : Al} {N : Nat} (hi : m.bm.dev.inv) (h : m.bm.dev.ok N) (hB : m.bm.list.length ≤ 1000) (mu p d : Int) : (m.alloc mu p d).al.bm.dev.ok (N + 600000) := by
 unfold Al.alloc
 split
 ·exact h.mono (by omega)
 ·split
  ·exact h.mono (by omega)
  ·have hr := room_okN hi h hB mu.toNat (objSize p d)
   split
   ·exact hr.mono (by omega)
   ·have := init_ok hr (m.room mu.toNat (objSize p d)).a p d
    unfold Al.made
    split
    ·exact this.mono (by omega)
    ·exact this.mono (by omega)
set_option maxHeartbeats 4000000 in
set_option maxRecDepth 20000 in
theorem aalloc_any {w : World} {A : AF} {n B : Nat} {m : Al} (h : AlAt w A n B m) (hok : AlOk B m) (hB1 : 1 ≤ B) (hB : B ≤ 200) (hn : n < 900000000000) {N : Nat} (hN : N ≤ 900000000) (ho : m.bm.dev.ok N) (mu p d : Int) :
  Calls Tryz.prog 64 #[valloc A, .int .i64 mu, .int .i64 p, .int .i64 d] w (RoomPost w A (n + 6) B (m.alloc mu p d)) := by
 have HMem := LH (Mem.one w #[.int .i64 p, .int .i64 d] 129)
 have HA0 := LH (h.below HMem.out.below)
 have HW0 := LH HMem.out.below
 have HOk := LH hok
 have HOkN := LH ho
 have HSz := LH (fun w => osize_any p d w)
 have HLn : Hid (m.bm.list.length = B) := LH hok.bm.lenL
 have HP : Hid (∀ (a er : Int) (al : Al) w', (⟨al, a, er⟩ : AlR) = m.alloc mu p d → AlGo w w' A (n + 6) B al → RoomPost w A (n + 6) B (m.alloc mu p d) (.returned (.tuple #[.int .i64 a, .int .i64 er])) w') := LH (fun a er al w' h1 h2 => by rw [← h1]; exact ⟨rfl, h2⟩)
 have HR : Hid (m.alloc mu p d = if mu < 0 ∨ 4 ≤ mu then ⟨m, 0, 1⟩
  else if objSize p d = 0 ∨ 512 * ((m.bm.list.length : Int) - 1) < (objSize p d : Nat) then ⟨m, 0, 5⟩
  else if (m.room mu.toNat (objSize p d)).err ≠ 0 then ⟨(m.room mu.toNat (objSize p d)).al, 0, (m.room mu.toNat (objSize p d)).err⟩
  else (m.room mu.toNat (objSize p d)).al.made (m.room mu.toNat (objSize p d)).a p d) := LH rfl
 rw [HLn.out] at HR
 generalize m.alloc mu p d = r at *
 generalize RoomPost w A (n + 6) B r = Post at *
 have HAh := LH h
 clear h hok ho
 go_enter Tryz.func64, Tryz.ntmps64
 go_upto_region 2 with fail
 obtain ⟨q, hq⟩ : ∃ q, q = w.heap.size := ⟨_, rfl⟩
 rw [← hq] at HMem ⊢
 have HQ := LH hq
 generalize w.alloc _ = w0 at *
 clear hq
 by_cases hmu : mu < 0 ∨ 4 ≤ mu
 ·have HE : Hid (⟨m, 0, 1⟩ = r) := LH (by rw [HR.out, if_pos hmu])
  have HG : Hid (AlGo w w0 A (n + 6) B m) := LH (AlGo.ahead HW0.out ((AlGo.refl HA0.out).mono (by omega)))
  rcases hmu with hmu | hmu
  ·go_wp2_with fail
   exact HP.out _ _ _ _ HE.out HG.out
  ·have hmu0 : 0 ≤ mu := by omega
   go_wp2_with fail
   exact HP.out _ _ _ _ HE.out HG.out
 have hmu0 : 0 ≤ mu := by omega
 have hmu4 : mu < 4 := by omega
 have HR2 : Hid (r = if objSize p d = 0 ∨ 512 * ((B : Int) - 1) < (objSize p d : Nat) then ⟨m, 0, 5⟩
  else if (m.room mu.toNat (objSize p d)).err ≠ 0 then ⟨(m.room mu.toNat (objSize p d)).al, 0, (m.room mu.toNat (objSize p d)).err⟩
  else (m.room mu.toNat (objSize p d)).al.made (m.room mu.toNat (objSize p d)).a p d) := LH (by rw [HR.out, if_neg hmu])
 clear HR hmu
 obtain ⟨s, hs⟩ : ∃ s, s = objSize p d := ⟨_, rfl⟩
 rw [← hs] at HR2
 have HSzs : Hid (∀ w, Calls Tryz.prog 118 #[.agg #[.int .i64 p, .int .i64 d]] w fun e w' => e = .returned (.int .i64 (s : Int)) ∧ Below w.heap.size w w') := LH (by rw [hs]; exact HSz.out)
 have HSs := LH hs
 have hsl : s ≤ 16448 := by rw [hs]; exact objSize_le _ _
 clear hs HSz
 have d0 := HMem.out.cell 0 0 rfl rfl
 have d1 := HMem.out.cell 0 1 rfl rfl
 have r0 := fun x => later_cell d0 x
 have r1 := fun x => later_cell d1 x
 have r2 := fun x => later_cell HA0.out.c2 x
 have HD1 : Hid (Below w0.heap.size w0 w0.drew) := LH (later_below (later_drew w0))
 have d0' := r0 ⟨w0.drew, HD1.out⟩
 have d1' := r1 ⟨w0.drew, HD1.out⟩
 dsimp only at d0' d1'
 go_upto_region 4 with fail
 by_cases hs0 : s = 0
 ·subst hs0
  have HE : Hid (⟨m, 0, 5⟩ = r) := LH (by rw [HR2.out, if_pos (.inl rfl)])
  refine wp_region_seg (C := fun w' => ∃ x : Later (w0), w' = x.val) [.sq [0, 1, 2, 3] false, .fl [4, 6, 7, 8, 9], .sq [5] true, .sq [10, 11, 12, 13] false] (by kernel_rfl) (by kernel_rfl) (by intro c a d v w h; cases d <;> exact h) ?_
  simp only [segs, picks, List.getElem?_cons_succ, List.getElem?_cons_zero]
  have hC1 := later_drew (w0)
  refine wpSeg_sq (fun K hK => ?_)
  go_wp2_with fail
  refine (HSzs.out _).mono ?_
  rintro e w1 ⟨rfl, hb1⟩
  have hC2 := later_step hC1 hb1
  have HG : Hid (AlGo w w1 A (n + 6) B m) := LH (AlGo.ahead (HW0.out.trans ((HD1.out.trans (hb1.mono HD1.out.size)).mono HW0.out.size)) ((AlGo.refl (HA0.out.below (HD1.out.trans (hb1.mono HD1.out.size)))).mono (by omega)))
  clear hb1
  go_wp2_with fail
  refine hK _ _ (fun _ => hC2) ?_
  clear hK K
  refine wpSeg_fl hC2 ?_
  repeat (first | go_big_quiet_step (fail) | quiet_step (fail))
  refine wpQuiet_nil ?_
  refine wpSeg_sq (fun K hK => ?_)
  go_wp2_with fail
  go_wp2_with fail
  refine hK _ _ (fun _ => hC2) ?_
  clear hK K
  refine wpSeg_last ?_
  go_wp2_with fail
  exact HP.out _ _ _ _ HE.out HG.out
 have hs0' : ((s : Int) == 0) = false := by simpa using hs0
 refine wp_region_seg (C := fun w' => ∃ x : Later (w0), w' = x.val) [.sq [0, 1, 2, 3] false, .fl [4, 6, 7, 8, 9], .sq [5] true, .sq [10, 11, 12, 13] false] (by kernel_rfl) (by kernel_rfl) (by intro c a d v w h; cases d <;> exact h) ?_
 simp only [segs, picks, List.getElem?_cons_succ, List.getElem?_cons_zero]
 have hC1 := later_drew (w0)
 refine wpSeg_sq (fun K hK => ?_)
 go_wp2_with fail
 refine (HSzs.out _).mono ?_
 rintro e w1 ⟨rfl, hb1⟩
 have hC2 := later_step hC1 hb1
 clear hb1 d0' d1'
 go_wp2_with fail
 refine hK _ _ (fun _ => hC2) ?_
 clear hK K
 refine wpSeg_fl hC2 ?_
 repeat (first | go_big_quiet_step (fail) | quiet_step (fail))
 refine wpQuiet_nil ?_
 refine wpSeg_sq (fun K hK => ?_)
 go_wp2_with fail
 refine (HSzs.out _).mono ?_
 rintro e w2 ⟨rfl, hb2⟩
 have hC3 := later_step hC2 hb2
 clear hb2
 go_wp2_with fail
 refine hK _ _ (fun _ => hC3) ?_
 clear hK K
 refine wpSeg_last ?_
 go_wp2_with fail
 refine (gmost_any B hB1 (by omega) _).mono ?_
 rintro e w3 ⟨rfl, hb3⟩
 have hC4 := later_step hC3 hb3
 have HD4 : Hid (Below w0.heap.size w0 w3) := LH (later_below hC4)
 clear hb3 hC1 hC2 hC3 hC4 d0 d1 r0 r1 r2
 have HA3 := LH (HA0.out.below HD4.out)
 have HM3 := LH (HMem.out.later HD4.out)
 have HW3 := LH (HW0.out.trans (HD4.out.mono HW0.out.size))
 by_cases hbig : 512 * ((B : Int) - 1) < (s : Nat)
 ·have HE : Hid (⟨m, 0, 5⟩ = r) := LH (by rw [HR2.out, if_pos (.inr hbig)])
  have HG : Hid (AlGo w w3 A (n + 6) B m) := LH (AlGo.ahead HW3.out ((AlGo.refl HA3.out).mono (by omega)))
  have hbig' : ((B : Int) - 1) * 512 < (s : Int) := by omega
  go_wp2_with fail
  exact HP.out _ _ _ _ HE.out HG.out
 have hbig' : (s : Int) ≤ ((B : Int) - 1) * 512 := by omega
 have HR3 : Hid (r = if (m.room mu.toNat s).err ≠ 0 then ⟨(m.room mu.toNat s).al, 0, (m.room mu.toNat s).err⟩
  else (m.room mu.toNat s).al.made (m.room mu.toNat s).a p d) := LH (by rw [HR2.out, if_neg (by omega)])
 clear HR2
 obtain ⟨mn, hmn⟩ : ∃ mn : Nat, mu = (mn : Int) := ⟨mu.toNat, by omega⟩
 subst hmn
 rw [Int.toNat_natCast] at HR3
 have HRoom := LH (aroom_any HA3.out HOk.out hB hn hN HOkN.out mn (by omega) p d (by rw [← HSs.out]; exact hs0))
 rw [← HSs.out] at HRoom
 have HOkR : Hid ((m.room mn s).al.bm.dev.ok (N + 500000)) := LH (room_okN HOk.out.bm.clean.inv HOkN.out (by rw [HLn.out]; omega) mn s)
 have d0 := HM3.out.cell 0 0 rfl rfl
 have d1 := HM3.out.cell 0 1 rfl rfl
 have HQn : Hid (q ∉ A.hot) := LH (fun hm => by
  have : q < w.heap.size := HAh.out.mem q (by
   simp only [AF.hot, AF.list, AF.fix, List.mem_append, List.mem_cons] at hm ⊢
   rcases hm with hm | hm | hm
   ·exact .inl (.inr (.inl (MF.hot_sub hm)))
   ·exact .inl (.inr (.inr hm))
   ·exact .inr hm)
  rw [HQ.out] at this
  exact Nat.lt_irrefl _ this)
 go_wp2_with fail
 refine HRoom.out.mono ?_
 rintro e w4 ⟨rfl, hg4⟩
 have HG4 := LH (AlGo.ahead HW3.out hg4)
 have HRow4 : Hid (RowAt w4 q 129 [.int .i64 p, .int .i64 d]) := LH (by
  obtain ⟨_, _, ht, _⟩ := hg4
  exact (HM3.out.at 0 rfl).keep (ht.block q (HM3.out.glt 0 rfl) HQn.out))
 clear hg4 d0 d1 HRoom
 generalize m.room mn s = rm at *
 obtain ⟨al, a, er⟩ := rm
 dsimp only at HR3 HOkR HG4 ⊢
 by_cases her : er = 0
 case neg =>
  have her' : (er != 0) = true := by simpa using her
  have HE : Hid (⟨al, 0, er⟩ = r) := LH (by rw [HR3.out, if_pos her])
  clear her
  go_wp2_with fail
  exact HP.out _ _ _ _ HE.out HG4.out
 subst her
 have HR4 : Hid (r = al.made a p d) := LH (by rw [HR3.out, if_neg (by simp)])
 clear HR3
 obtain ⟨R4, ha4, ht4, hr4⟩ := HG4.out
 have HA4 := LH ha4
 have HT4 := LH ht4
 have HR4' := LH hr4
 clear ha4 ht4 hr4
 go_upto_region 9 with fail
 have d0 := HRow4.out.cell (i := 0) rfl
 have d1 := HRow4.out.cell (i := 1) rfl
 have c1 := HA4.out.c1
 change w4.cell? ⟨A.a, 1, none⟩ = some (vdev A.X.F) at c1
 have r0 := fun x => later_cell d0 x
 have r1 := fun x => later_cell d1 x
 have r2 := fun x => later_cell c1 x
 clear d0 d1 c1
 refine wp_region_seg (C := fun w' => ∃ x : Later (w4), w' = x.val) [.fl [0, 1, 2, 3, 4, 5], .sq [6, 7] false] (by kernel_rfl) (by kernel_rfl) (by intro c a d v w h; cases d <;> exact h) ?_
 simp only [segs, picks, List.getElem?_cons_succ, List.getElem?_cons_zero]
 have hC5 := later_drew (w4)
 refine wpSeg_fl hC5 ?_
 repeat (first | go_big_quiet_step (fail) | quiet_step (fail))
 refine wpQuiet_nil ?_
 clear r0 r1 r2
 have HD5 : Hid (Below w4.heap.size w4 w4.drew) := LH (later_below hC5)
 generalize w4.drew = w5 at *
 have HA5 := LH (HA4.out.below HD5.out)
 refine wpSeg_last ?_
 go_wp2_with fail
 refine (oinit_any HA5.out.man.dev (N := N + 500000) (by omega) HOkR.out a p d).mono ?_
 rintro e w6 ⟨rfl, hd6, ht6⟩
 obtain ⟨hm6, ht6'⟩ := HA5.out.man.setDev hd6 ht6
 have HG6 : Hid (AlGo w w6 A (n + 6) B ⟨⟨(al.bm.dev.init a p d).dev, al.bm.list, al.bm.free⟩, al.used, al.fl⟩) := LH (AlGo.trans (HT4.out.later HD5.out) HR4'.out (HA5.out.setMan (Nat.le_refl _) hm6 ht6' (init_clen _ _ _ _)))
 have HR6 : Hid (r = if (al.bm.dev.init a p d).err ≠ 0 then ⟨⟨⟨(al.bm.dev.init a p d).dev, al.bm.list, al.bm.free⟩, al.used, al.fl⟩, 0, (al.bm.dev.init a p d).err⟩
  else ⟨⟨⟨(al.bm.dev.init a p d).dev, al.bm.list, al.bm.free⟩, addI al.used a, al.fl⟩, a, 0⟩) := LH HR4.out
 clear hd6 ht6 hm6 ht6' HR4 hC5
 generalize al.bm.dev.init a p d = di at *
 obtain ⟨dv, er⟩ := di
 dsimp only at HG6 HR6 ⊢
 by_cases her : er = 0
 case neg =>
  have her' : (er != 0) = true := by simpa using her
  have HE : Hid (⟨⟨⟨dv, al.bm.list, al.bm.free⟩, al.used, al.fl⟩, 0, er⟩ = r) := LH (by rw [HR6.out, if_pos her])
  clear her
  go_wp2_with fail
  exact HP.out _ _ _ _ HE.out HG6.out
 subst her
 have HE : Hid (⟨⟨⟨dv, al.bm.list, al.bm.free⟩, addI al.used a, al.fl⟩, a, 0⟩ = r) := LH (by rw [HR6.out, if_neg (by simp)])
 obtain ⟨R6, ha6, ht6, hr6⟩ := HG6.out
 have HA6 := LH ha6
 have HT6 := LH ht6
 have HR6' := LH hr6
 have c3 := ha6.c3
 change w6.cell? ⟨A.a, 3, none⟩ = some (vset A.U) at c3
 clear ha6 ht6 hr6 HR6
 go_wp2_with fail
 refine (sadd_any HA6.out.set a).mono ?_
 rintro e w7 ⟨rfl, hs7, ht7⟩
 have hal : (addI al.used a).length = al.used.length := by
  unfold addI
  split
  ·rw [List.length_set]
  ·rfl
 have HG7 := LH (AlGo.trans HT6.out HR6'.out (HA6.out.setUsed hs7 ht7 hal))
 clear hs7 ht7 hal c3
 generalize freshI al.used a = fr at *
 go_wp2_with fail
 exact HP.out _ _ _ _ HE.out HG7.out
end Go.Proofs.YtbimcogdbafjpaaGreat
namespace Go.Proofs.YtbimcogdbafjpaaGreat
open Go.RowKit
def begins (k a : Nat) : Bool := decide (a % 512 % clsWords k = 0 ∧ a % 512 / clsWords k < clsCells k)
theorem aggCell : Agg Tryz.prog 239 #[.int .i64 0, .int .i64 0] := ⟨⟨_, Tryz.underlying239, rfl⟩, by kernel_rfl⟩
theorem begins_at {B k a : Nat} (hk : k < 32) (h1 : 512 ≤ a) (h2 : a < 512 * B) : begins k a = decide (cellAt (B : Int) (k : Int) ((a / 512 : Nat) : Int) ((a % 512 / clsWords k : Nat) : Int) = (a : Int)) := by
 have hp := clsWords_pos (k : Int) (by omega)
 unfold begins
 have e := Nat.div_add_mod (a % 512) (clsWords k)
 have hlt := Nat.mod_lt (a % 512) (show 0 < clsWords (k : Int) by omega)
 by_cases hi : a % 512 / clsWords k < clsCells k
 ·have hc := cellAt_of (B := B) hk (b := a / 512) (by omega) (by omega) hi
  rw [hc]
  unfold cellOf
  rw [Nat.mul_comm (clsWords (k : Int))] at e
  generalize a % 512 / clsWords (k : Int) * clsWords (k : Int) = y at *
  generalize hz : a % 512 % clsWords (k : Int) = z at *
  rw [Bool.eq_iff_iff, decide_eq_true_eq, decide_eq_true_eq]
  omega
 ·have hc : cellAt (B : Int) (k : Int) ((a / 512 : Nat) : Int) ((a % 512 / clsWords k : Nat) : Int) = -1 := by
   unfold cellAt
   rw [if_pos]
   exact .inr (.inr (.inr (.inr (by omega))))
  rw [hc, decide_eq_false (fun h => hi h.2), decide_eq_false (by omega)]
def AtPost (k a : Nat) (w : World) : Ending → World → Prop := fun e w' => (∃ x y : Int, e = .returned (.tuple #[.agg #[.int .i64 x, .int .i64 y], .bool (begins k a)])) ∧ Below w.heap.size w w'
set_option maxHeartbeats 2000000 in
set_option maxRecDepth 20000 in
theorem cat_any (B : Nat) (hB : B ≤ 1000) (k a : Nat) (hk : k < 32) (h1 : 512 ≤ a) (h2 : a < 512 * B) (w : World) : Calls Tryz.prog 153 #[vgeom (B : Int), .int .i64 (k : Int), .int .i64 (a : Int)] w (AtPost k a w) := by
 have HM := LH (Mem.two w #[.int .i64 (B : Int)] 46 #[.int .i64 0, .int .i64 0] 239)
 have HP : Hid (∀ (x y : Int) b w', b = begins k a → Below w.heap.size w w' → AtPost k a w (.returned (.tuple #[.agg #[.int .i64 x, .int .i64 y], .bool b])) w') := LH (fun x y b w' h1 h2 => by subst h1; exact ⟨⟨x, y, rfl⟩, h2⟩)
 generalize AtPost k a w = Post at *
 have HBe := LH (begins_at (B := B) hk h1 h2)
 have hp := clsWords_pos (k : Int) (by omega)
 have hbo : blockOf (B : Int) (a : Int) = ((a / 512 : Nat) : Int) := by unfold blockOf; rw [if_neg (by omega)]; omega
 have HData := LH (fun w => gdata_any B hB (a : Int) w)
 have HBlk := LH (fun w => gblockOf_any B hB (a : Int) w)
 rw [hbo] at HData HBlk
 rw [decide_eq_true (show (1 : Int) ≤ ((a / 512 : Nat) : Int) by omega)] at HData
 have HWd := LH (fun w => cwords_any (k : Int) w)
 have HAd := LH (fun w => caddr_any B hB (k : Int) ((a / 512 : Nat) : Int) ((a % 512 / clsWords k : Nat) : Int) w)
 have HRg := LH (fun w => cright_any (k : Int) w)
 rw [decide_eq_true (show (0 : Int) ≤ (k : Int) ∧ (k : Int) < 32 by omega)] at HRg
 have hda : a < 512000 := by omega
 obtain ⟨b, hb⟩ : ∃ b, b = a / 512 := ⟨_, rfl⟩
 obtain ⟨o, ho⟩ : ∃ o, o = a % 512 := ⟨_, rfl⟩
 have ho2 : (a : Int) % 512 = (o : Int) := by omega
 have ho5 : o < 512 := by omega
 rw [← hb] at HBlk HAd HBe
 rw [← ho] at HAd HBe
 obtain ⟨W, hW⟩ : ∃ W, W = clsWords (k : Int) := ⟨_, rfl⟩
 rw [← hW] at HWd HAd HBe hp
 obtain ⟨i, hi⟩ : ∃ i, i = o / W := ⟨_, rfl⟩
 rw [← hi] at HAd HBe
 have hi2 : (o : Int) / (W : Int) = (i : Int) := by rw [hi]; rfl
 have hi3 : i ≤ 512 := by rw [hi]; exact Nat.le_trans (Nat.div_le_self _ _) (by omega)
 generalize cellAt (B : Int) (k : Int) (b : Int) (i : Int) = ca at *
 generalize begins k a = be at *
 clear hbo hb ho hW hi h1 h2
 go_enter Tryz.func153, Tryz.ntmps153
 go_upto_region 1 with fail
 obtain ⟨q, hq⟩ : ∃ q, q = w.heap.size := ⟨_, rfl⟩
 rw [← hq] at HM ⊢
 generalize (w.alloc _).alloc _ = w0 at *
 clear hq
 have c0 := HM.out.cell 0 0 rfl rfl
 go_wp2_with fail
 refine (HRg.out _).mono ?_
 rintro e w1 ⟨rfl, rfl⟩
 go_wp2_with fail
 refine (HData.out _).mono ?_
 rintro e w1 ⟨rfl, hb1⟩
 have HM1 := LH (HM.out.later hb1)
 clear hb1 c0
 have c0 := HM1.out.cell 0 0 rfl rfl
 go_wp2_with fail
 refine (HBlk.out _).mono ?_
 rintro e w2 ⟨rfl, hb2⟩
 have HM2 := LH (HM1.out.later hb2)
 clear hb2 c0
 go_wp2_with fail
 refine (HWd.out _).mono ?_
 rintro e w3 ⟨rfl, hb3⟩
 have HM3 := LH (HM2.out.later hb3)
 clear hb3
 go_upto_region 4 with fail
 have HM4 := LH (HM3.out.alloc #[.int .i64 (b : Int), .int .i64 (i : Int)] 239)
 obtain ⟨q4, hq4⟩ : ∃ q4, q4 = w3.heap.size := ⟨_, rfl⟩
 rw [← hq4] at HM4 ⊢
 generalize w3.alloc _ = w4 at *
 clear hq4
 have d0 := HM4.out.cell 2 0 rfl rfl
 have d1 := HM4.out.cell 2 1 rfl rfl
 have c1 := HM4.out.cell 0 0 rfl rfl
 have hnd := HM4.out.nd
 simp only [List.map_cons, List.map_nil, List.cons_append, List.nil_append, List.nodup_cons, List.mem_cons, List.not_mem_nil, or_false, not_or] at hnd
 have hq1 : q ∉ [q + 1] := by simp
 have hq2 : q4 ∉ [q + 1] := by simp; exact fun e => hnd.2.1 e.symm
 have r0 := fun x => near_cell (L := [q + 1]) d0 hq2 x
 have r1 := fun x => near_cell (L := [q + 1]) d1 hq2 x
 have r2 := fun x => near_cell (L := [q + 1]) c1 hq1 x
 have HT0 : Hid (Touch [q + 1] w4 w4.drew) := LH (Touch.ofBelow (later_below (later_drew w4)))
 have HD0 : Hid (Below w4.heap.size w4 w4.drew) := LH (later_below (later_drew w4))
 have hC1 := near_of HT0.out
 clear d0 d1 c1 hnd hq1 hq2
 refine wp_region_seg (C := fun w' => ∃ x : Near [q + 1] w4, w' = x.val) [.fl [0, 1, 2, 3, 5], .sq [4] true, .fl [6], .sq [7] true, .sq [8] false] (by kernel_rfl) (by kernel_rfl) (by intro c a d v w h; cases d <;> exact h) ?_
 simp only [segs, picks, List.getElem?_cons_succ, List.getElem?_cons_zero]
 refine wpSeg_fl hC1 ?_
 repeat (first | go_big_quiet_step (fail) | quiet_step (fail))
 refine wpQuiet_nil ?_
 clear r0 r1 r2
 generalize w4.drew = w5 at *
 refine wpSeg_sq (fun K hK => ?_)
 go_wp2_with fail
 refine (HAd.out _).mono ?_
 rintro e w6 ⟨rfl, hb6⟩
 have HM6 := LH (HM4.out.later (HD0.out.trans (hb6.mono HD0.out.size)))
 have HT6 : Hid (Touch [q + 1] w4 w6) := LH (HT0.out.later hb6)
 have hC2 := near_of HT6.out
 clear hb6
 go_wp2_with fail
 refine hK _ _ (fun _ => hC2) ?_
 clear hK K
 refine wpSeg_fl hC2 ?_
 repeat (first | go_big_quiet_step (fail) | quiet_step (fail))
 refine wpQuiet_nil ?_
 refine wpSeg_sq (fun K hK => ?_)
 go_wp2_with (refine wpList_store_mem aggCell HM6.out 1 rfl rfl rfl rfl rfl rfl rfl rfl ?_; intro w7 h7 ht7; have H7 := LH h7; have HT7 := LH (HT6.out.trans ht7); clear h7 ht7)
 have hC3 := near_of HT7.out
 go_wp2_with fail
 refine hK _ _ (fun _ => hC3) ?_
 clear hK K
 refine wpSeg_last ?_
 go_wp2_with fail
 refine bodyPost_ret (results_cell_row2 (p := 6) (u := 7) rfl _ _ _ _ _ _ _ rfl (H7.out.exact 1 rfl) Tryz.underlying239 rfl (by kernel_rfl)) rfl ?_
 refine HP.out _ _ _ _ ?_ H7.out.below
 rw [HBe.out]
 rfl
def PlPost (S : Dev) (L : List Hd) (a : Int) (w : World) : Ending → World → Prop := fun e w' => (∃ p d : Int, e = .returned (.tuple #[vob p d, .bool (placedN S L a).isSome]) ∧ ∀ o, placedN S L a = some o → o = ⟨p, d, 0⟩) ∧ Below w.heap.size w w'
theorem headN_cases (S : Dev) (a : Int) : headN S a = ⟨0, 0, 22⟩ ∨ ∃ p d, headN S a = ⟨p, d, 0⟩ := by
 rcases headN_code S a with h | h
 ·refine .inr ⟨(headN S a).p, (headN S a).d, ?_⟩
  have := h.1
  generalize headN S a = o at *
  obtain ⟨p, d, c⟩ := o
  dsimp only at this
  rw [this]
 ·exact .inl h
set_option maxHeartbeats 4000000 in
set_option maxRecDepth 20000 in
theorem aplaced_any {w : World} {F : Foot} {S : Dev} (h : DevAt w F S) (a : Option Addr) (B cap : Nat) (L : List Hd) (hlen : L.length = B) (hc : Cells w a (hdCs L)) (hB : B ≤ 1000) (hS : S.cache.length ≤ 1000000) (x : Int) :
  Calls Tryz.prog 83 #[vdev F, vgeom (B : Int), .slice a B cap, .int .i64 x] w (PlPost S L x w) := by
 have HM := LH (Mem.two w #[.int .i64 (B : Int)] 46 #[.int .i64 0, .int .i64 0] 129)
 have HP : Hid (∀ (p d : Int) b w', b = (placedN S L x).isSome → (∀ o, placedN S L x = some o → o = ⟨p, d, 0⟩) → Below w.heap.size w w' → PlPost S L x w (.returned (.tuple #[vob p d, .bool b])) w') := LH (fun p d b w' h1 h2 h3 => by subst h1; exact ⟨⟨p, d, rfl, h2⟩, h3⟩)
 generalize PlPost S L x w = Post at *
 have HD0 := LH (h.below HM.out.below)
 have HC0 := LH (hc.below HM.out.below (Nat.le_refl _))
 have HLen := LH hlen
 have HBlk := LH (fun w => gblockOf_any B hB x w)
 clear h hc hlen
 go_enter Tryz.func83, Tryz.ntmps83
 go_upto_region 1 with fail
 obtain ⟨q, hq⟩ : ∃ q, q = w.heap.size := ⟨_, rfl⟩
 rw [← hq] at HM ⊢
 generalize (w.alloc _).alloc _ = w0 at *
 clear hq
 have c0 := HM.out.cell 0 0 rfl rfl
 by_cases hin : x < 512 ∨ 512 * (B : Int) ≤ x
 ·have HN : Hid (placedN S L x = none) := LH (by unfold placedN; rw [if_pos (by rw [HLen.out]; omega)])
  have hbb : blockOf (B : Int) x < 1 := by unfold blockOf; split <;> omega
  have HBb := LH HBlk.out
  generalize blockOf (B : Int) x = bb at *
  clear hin
  go_wp2_with fail
  refine (HBlk.out _).mono ?_
  rintro e w1 ⟨rfl, hb1⟩
  have HM1 := LH (HM.out.later hb1)
  clear hb1 c0
  go_wp2_with (refine wpList_store_mem aggOb HM1.out 1 rfl rfl rfl rfl rfl rfl rfl rfl ?_; intro w7 h7 ht7; have H7 := LH h7; clear h7 ht7)
  refine bodyPost_ret (results_cell_row2 (p := 8) (u := 9) rfl _ _ _ _ _ _ _ rfl (H7.out.exact 1 rfl) Tryz.underlying129 rfl (by kernel_rfl)) rfl ?_
  refine HP.out _ _ _ _ (by rw [HN.out]; rfl) (fun o ho => by rw [HN.out] at ho; cases ho) H7.out.below
 obtain ⟨y, hy⟩ : ∃ y : Nat, x = (y : Int) := ⟨x.toNat, by omega⟩
 subst hy
 have h1 : 512 ≤ y := by omega
 have h2 : y < 512 * B := by omega
 have hbo : blockOf (B : Int) (y : Int) = ((y / 512 : Nat) : Int) := by unfold blockOf; rw [if_neg (by omega)]; omega
 rw [hbo] at HBlk
 obtain ⟨b, hb⟩ : ∃ b, b = y / 512 := ⟨_, rfl⟩
 have hb1 : 1 ≤ b := by omega
 have hb2 : b < B := by omega
 rw [← hb] at HBlk
 have HBy := LH hb
 have HPl : Hid (placedN S L (y : Int) = if (headN S (y : Int)).code ≠ 0 then none
  else if small (objSize (headN S (y : Int)).p (headN S (y : Int)).d) then (if isCell L (ofN (objSize (headN S (y : Int)).p (headN S (y : Int)).d : Nat)) y then some (headN S (y : Int)) else none)
  else if y % 512 = 0 ∧ wholeN L b = objBlocks (objSize (headN S (y : Int)).p (headN S (y : Int)).d) then some (headN S (y : Int)) else none) := LH (by
  unfold placedN
  rw [Int.toNat_natCast, ← hb, HLen.out]
  by_cases c : (headN S (y : Int)).code ≠ 0
  ·rw [if_pos (.inr (.inr c)), if_pos c]
  ·rw [if_neg (by omega), if_neg c])
 clear hbo hin hb
 go_wp2_with fail
 refine (HBlk.out _).mono ?_
 rintro e w1 ⟨rfl, hb1'⟩
 have HM1 := LH (HM.out.later hb1')
 have HD1 := LH (HD0.out.below hb1')
 have HC1 := LH (HC0.out.below hb1' (Nat.le_refl _))
 clear hb1' c0
 go_wp2_with fail
 refine (ohead_any HD1.out (y : Int)).mono ?_
 rintro e w2 ⟨rfl, hb2'⟩
 have HM2 := LH (HM1.out.later hb2')
 have HD2 := LH (HD1.out.below hb2')
 have HC2 := LH (HC1.out.below hb2' (Nat.le_refl _))
 clear hb2'
 unfold Odec.val
 rcases headN_cases S (y : Int) with hh | ⟨p, d, hh⟩
 ·have HN : Hid (placedN S L (y : Int) = none) := LH (by rw [HPl.out, hh]; rfl)
  rw [hh]
  dsimp only
  go_upto_region 5 with fail
  have HM3 := LH (HM2.out.alloc #[.int .i64 0, .int .i64 0] 129)
  generalize w2.alloc _ = w3 at *
  go_wp2_with (refine wpList_store_mem aggOb HM3.out 1 rfl rfl rfl rfl rfl rfl rfl rfl ?_; intro w7 h7 ht7; have H7 := LH h7; clear h7 ht7)
  refine bodyPost_ret (results_cell_row2 (p := 8) (u := 9) rfl _ _ _ _ _ _ _ rfl (H7.out.exact 1 rfl) Tryz.underlying129 rfl (by kernel_rfl)) rfl ?_
  refine HP.out _ _ _ _ (by rw [HN.out]; rfl) (fun o ho => by rw [HN.out] at ho; cases ho) H7.out.below
 have HS0 : Hid (objSize p d ≠ 0) := LH (by
  have := headN_code S (y : Int)
  rw [hh] at this
  rcases this with h | h
  ·exact h.2.2.2.1
  ·injection h with _ _ h3; cases h3)
 rw [hh]
 have HPl2 : Hid (placedN S L (y : Int) = if small (objSize p d) then (if isCell L (ofN (objSize p d : Nat)) y then some ⟨p, d, 0⟩ else none)
  else if y % 512 = 0 ∧ wholeN L b = objBlocks (objSize p d) then some ⟨p, d, 0⟩ else none) := LH (by rw [HPl.out, hh, if_neg (by simp)])
 dsimp only
 clear HPl HBlk
 have HSm := LH (fun w => osmall_any p d w)
 have HBl := LH (fun w => oblocks_any p d w)
 generalize objSize p d = s at *
 go_upto_region 7 with fail
 have HB3 := LH (below_alloc w2 (Obj.cells #[.int .i64 p, .int .i64 d] 129))
 have HM3 := LH (HM2.out.alloc #[.int .i64 p, .int .i64 d] 129)
 have HC3 := LH (HC2.out.below HB3.out (Nat.le_refl _))
 obtain ⟨q3, hq3⟩ : ∃ q3, q3 = w2.heap.size := ⟨_, rfl⟩
 rw [← hq3] at HM3 ⊢
 generalize w2.alloc _ = w3 at *
 clear hq3
 obtain ⟨k, c, z, he⟩ := hdGetD L b
 obtain ⟨b1, o1, rfl, e0, e1, e2⟩ := hd_cells HC3.out (by rw [HLen.out]; exact hb2) he
 have HEb := LH he
 clear he
 have hbB : (b : Int) < (B : Int) := by omega
 go_upto_region 8 with fail
 have HB4 := LH (below_alloc w3 (Obj.cells #[.int .i64 k, .int .i64 c, .int .i64 z] 104))
 have HM4 := LH (HM3.out.alloc #[.int .i64 k, .int .i64 c, .int .i64 z] 104)
 have HC4 := LH (HC3.out.below HB4.out (Nat.le_refl _))
 obtain ⟨q4, hq4⟩ : ∃ q4, q4 = w3.heap.size := ⟨_, rfl⟩
 rw [← hq4] at HM4 ⊢
 generalize w3.alloc _ = w4 at *
 clear hq4 e0 e1 e2
 have d0 := HM4.out.cell 2 0 rfl rfl
 have d1 := HM4.out.cell 2 1 rfl rfl
 go_wp2_with fail
 refine (HSm.out _).mono ?_
 rintro e w5 ⟨rfl, hb5⟩
 have HM5 := LH (HM4.out.later hb5)
 have HC5 := LH (HC4.out.below hb5 (Nat.le_refl _))
 clear hb5 d0 d1
 have hnd := HM5.out.nd
 simp only [List.map_cons, List.map_nil, List.cons_append, List.nil_append, List.nodup_cons, List.mem_cons, List.not_mem_nil, or_false, not_or] at hnd
 have hn0 : q ∉ [q + 1] := by simp
 have hn2 : q3 ∉ [q + 1] := by simp; exact fun e => hnd.2.1.1 e.symm
 have hn3 : q4 ∉ [q + 1] := by simp; exact fun e => hnd.2.1.2 e.symm
 have HNs := LH (And.intro hn0 (And.intro hn2 hn3))
 clear hnd hn0 hn2 hn3
 by_cases hsm : small s
 ·have hk := ofN_lt hsm
  rw [ofV_small _ hsm]
  have HPl3 : Hid (placedN S L (y : Int) = if isCell L (ofN (s : Int)) y then some ⟨p, d, 0⟩ else none) := LH (by rw [HPl2.out, if_pos hsm])
  generalize ofN (s : Int) = kk at *
  have HIs : Hid (isCell L kk y ↔ begins kk y = true ∧ (⟨k, c, z⟩ : Hd) = ⟨1, kk, 0⟩) := LH (by
   unfold isCell begins
   rw [← HBy.out, HEb.out, decide_eq_true_eq, HLen.out]
   constructor
   ·rintro ⟨_, _, h3, h4, h5⟩; exact ⟨⟨h4, h5⟩, h3⟩
   ·rintro ⟨⟨h4, h5⟩, h3⟩; exact ⟨h1, h2, h3, h4, h5⟩)
  have HAt := LH (fun w => cat_any B hB kk y hk h1 h2 w)
  clear HPl2 hsm HSm HBl
  have c0 := HM5.out.cell 0 0 rfl rfl
  go_wp2_with fail
  refine (HAt.out _).mono ?_
  rintro e w6 ⟨⟨ax, ay, rfl⟩, hb6⟩
  have HM6 := LH (HM5.out.later hb6)
  clear hb6 c0 HAt
  go_upto_region 11 with fail
  have HM7 := LH (HM6.out.alloc #[.int .i64 ax, .int .i64 ay] 239)
  generalize w6.alloc _ = w7 at *
  have d0 := HM7.out.cell 2 0 rfl rfl
  have d1 := HM7.out.cell 2 1 rfl rfl
  have d3 := HM7.out.cell 3 0 rfl rfl
  have d4 := HM7.out.cell 3 1 rfl rfl
  have d5 := HM7.out.cell 3 2 rfl rfl
  have r0 := fun x => near_cell (L := [q + 1]) d0 HNs.out.2.1 x
  have r1 := fun x => near_cell (L := [q + 1]) d1 HNs.out.2.1 x
  have r3 := fun x => near_cell (L := [q + 1]) d3 HNs.out.2.2 x
  have r4 := fun x => near_cell (L := [q + 1]) d4 HNs.out.2.2 x
  have r5 := fun x => near_cell (L := [q + 1]) d5 HNs.out.2.2 x
  have HT0 : Hid (Touch [q + 1] w7 w7.drew) := LH (Touch.ofBelow (later_below (later_drew w7)))
  have HD0 : Hid (Below w7.heap.size w7 w7.drew) := LH (later_below (later_drew w7))
  have hC1 := near_of HT0.out
  clear d0 d1 d3 d4 d5
  have hgd := gsBh
  cases hbg : begins kk y with
  | false =>
   have HN : Hid (placedN S L (y : Int) = none) := LH (by rw [HPl3.out, if_neg (fun h => by have := (HIs.out.1 h).1; rw [hbg] at this; cases this)])
   clear hbg HPl3 HIs
   refine wp_region_seg (C := fun w' => ∃ x : Near [q + 1] w7, w' = x.val) [.fl [0, 1, 2, 3, 4, 5, 6, 7], .sq [8] true, .sq [9] false] (by kernel_rfl) (by kernel_rfl) (by intro c a d v w h; cases d <;> exact h) ?_
   simp only [segs, picks, List.getElem?_cons_succ, List.getElem?_cons_zero]
   refine wpSeg_fl hC1 ?_
   repeat (first | go_big_quiet_step (fail) | quiet_step (fail))
   refine wpQuiet_nil ?_
   refine wpSeg_sq (fun K hK => ?_)
   go_wp2_with (refine wpList_store_mem aggOb (HM7.out.later HD0.out) 1 rfl rfl rfl rfl rfl rfl rfl rfl ?_; intro w8 h8 ht8; have H8 := LH h8; have HT8 := LH (HT0.out.trans ht8); clear h8 ht8)
   have hC2 := near_of HT8.out
   go_wp2_with fail
   refine hK _ _ (fun _ => hC2) ?_
   clear hK K
   refine wpSeg_last ?_
   go_wp2_with fail
   refine bodyPost_ret (results_cell_row2 (p := 8) (u := 9) rfl _ _ _ _ _ _ _ rfl (H8.out.exact 1 rfl) Tryz.underlying129 rfl (by kernel_rfl)) rfl ?_
   refine HP.out _ _ _ _ (by rw [HN.out]; rfl) (fun o ho => by rw [HN.out] at ho; cases ho) H8.out.below
  | true =>
   by_cases hq : (⟨k, c, z⟩ : Hd) = ⟨1, kk, 0⟩
   ·have heq : ∀ w', (Op.equalIn 10000 104 (.agg #[.int .i64 k, .int .i64 c, .int .i64 z]) (.agg #[.int .i64 1, .int .i64 (kk : Int), .int .i64 0])).run Tryz.prog w' = .ok true w' := fun w' => equalBh w' _ _ _ _ _ _ _ (by rw [← hd_beq]; simp [hq])
    have HN : Hid (placedN S L (y : Int) = some ⟨p, d, 0⟩) := LH (by rw [HPl3.out, if_pos (HIs.out.2 ⟨hbg, hq⟩)])
    clear hbg HPl3 HIs hq
    refine wp_region_seg (C := fun w' => ∃ x : Near [q + 1] w7, w' = x.val) [.fl [0, 1, 2, 3, 4, 5, 6, 7], .sq [8] true, .sq [9] false] (by kernel_rfl) (by kernel_rfl) (by intro c a d v w h; cases d <;> exact h) ?_
    simp only [segs, picks, List.getElem?_cons_succ, List.getElem?_cons_zero]
    refine wpSeg_fl hC1 ?_
    repeat (first | go_big_quiet_step (fail) | quiet_step (fail))
    refine wpQuiet_nil ?_
    refine wpSeg_sq (fun K hK => ?_)
    go_wp2_with (refine wpList_store_mem aggOb (HM7.out.later HD0.out) 1 rfl rfl rfl rfl rfl rfl rfl rfl ?_; intro w8 h8 ht8; have H8 := LH h8; have HT8 := LH (HT0.out.trans ht8); clear h8 ht8)
    have hC2 := near_of HT8.out
    go_wp2_with fail
    refine hK _ _ (fun _ => hC2) ?_
    clear hK K
    refine wpSeg_last ?_
    go_wp2_with fail
    refine bodyPost_ret (results_cell_row2 (p := 8) (u := 9) rfl _ _ _ _ _ _ _ rfl (H8.out.exact 1 rfl) Tryz.underlying129 rfl (by kernel_rfl)) rfl ?_
    refine HP.out _ _ _ _ (by rw [HN.out]; rfl) (fun o ho => by rw [HN.out] at ho; cases ho; rfl) H8.out.below
   ·have heq : ∀ w', (Op.equalIn 10000 104 (.agg #[.int .i64 k, .int .i64 c, .int .i64 z]) (.agg #[.int .i64 1, .int .i64 (kk : Int), .int .i64 0])).run Tryz.prog w' = .ok false w' := fun w' => equalBh w' _ _ _ _ _ _ _ (by rw [← hd_beq]; simp [hq])
    have HN : Hid (placedN S L (y : Int) = none) := LH (by rw [HPl3.out, if_neg (fun h => hq (HIs.out.1 h).2)])
    clear hbg HPl3 HIs hq
    refine wp_region_seg (C := fun w' => ∃ x : Near [q + 1] w7, w' = x.val) [.fl [0, 1, 2, 3, 4, 5, 6, 7], .sq [8] true, .sq [9] false] (by kernel_rfl) (by kernel_rfl) (by intro c a d v w h; cases d <;> exact h) ?_
    simp only [segs, picks, List.getElem?_cons_succ, List.getElem?_cons_zero]
    refine wpSeg_fl hC1 ?_
    repeat (first | go_big_quiet_step (fail) | quiet_step (fail))
    refine wpQuiet_nil ?_
    refine wpSeg_sq (fun K hK => ?_)
    go_wp2_with (refine wpList_store_mem aggOb (HM7.out.later HD0.out) 1 rfl rfl rfl rfl rfl rfl rfl rfl ?_; intro w8 h8 ht8; have H8 := LH h8; have HT8 := LH (HT0.out.trans ht8); clear h8 ht8)
    have hC2 := near_of HT8.out
    go_wp2_with fail
    refine hK _ _ (fun _ => hC2) ?_
    clear hK K
    refine wpSeg_last ?_
    go_wp2_with fail
    refine bodyPost_ret (results_cell_row2 (p := 8) (u := 9) rfl _ _ _ _ _ _ _ rfl (H8.out.exact 1 rfl) Tryz.underlying129 rfl (by kernel_rfl)) rfl ?_
    refine HP.out _ _ _ _ (by rw [HN.out]; rfl) (fun o ho => by rw [HN.out] at ho; cases ho) H8.out.below
 rw [ofV_large _ hsm]
 have HNb : Hid (1 ≤ objBlocks s) := LH (by
  unfold objBlocks
  rw [if_neg hsm]
  have := HS0.out
  omega)
 have HPl3 : Hid (placedN S L (y : Int) = if y % 512 = 0 ∧ wholeN L b = objBlocks s then some ⟨p, d, 0⟩ else none) := LH (by rw [HPl2.out, if_neg hsm])
 clear HPl2 hsm HSm
 have HWh := LH (bwhole_any (some ⟨b1, o1, none⟩) B cap L HLen.out w5 HC5.out hB b hb2)
 go_wp2_with fail
 refine HWh.out.mono ?_
 rintro e w6 hp6
 obtain ⟨hv6, hb6⟩ := hp6
 have HM6 := LH (HM5.out.later hb6)
 clear hb6 HWh
 have c0 := HM6.out.cell 0 0 rfl rfl
 have d0 := HM6.out.cell 2 0 rfl rfl
 have d1 := HM6.out.cell 2 1 rfl rfl
 have r0 := fun x => near_cell (L := [q + 1]) d0 HNs.out.2.1 x
 have r1 := fun x => near_cell (L := [q + 1]) d1 HNs.out.2.1 x
 have r2 := fun x => near_cell (L := [q + 1]) c0 HNs.out.1 x
 have HT0 : Hid (Touch [q + 1] w6 w6.drew) := LH (Touch.ofBelow (later_below (later_drew w6)))
 have HD0 : Hid (Below w6.heap.size w6 w6.drew) := LH (later_below (later_drew w6))
 have hC1 := near_of HT0.out
 clear c0 d0 d1
 have HFi := LH (fun w => gfirstN_any B hB b hb2 w)
 obtain ⟨nb, hnb⟩ : ∃ nb, nb = objBlocks s := ⟨_, rfl⟩
 rw [← hnb] at HPl3 HNb HBl
 obtain ⟨wn, hwn⟩ : ∃ wn, wn = wholeN L b := ⟨_, rfl⟩
 rw [← hwn] at HPl3 hv6
 clear hnb hwn
 by_cases hw0 : wn = 0
 ·subst hw0
  have hv7 : e = .returned (.tuple #[.int .i64 0, .bool false]) := by rw [hv6]; rfl
  have HN : Hid (placedN S L (y : Int) = none) := LH (by rw [HPl3.out, if_neg (by have := HNb.out; omega)])
  subst hv7
  clear hv6
  go_upto_region 13 with fail
  refine wp_region_seg (C := fun w' => ∃ x : Near [q + 1] w6, w' = x.val) [.fl [0, 1, 2, 3, 4, 5], .sq [6] true, .fl [7, 8, 9, 10, 11], .sq [12] true, .fl [13, 14], .sq [15] true, .sq [16] false] (by kernel_rfl) (by kernel_rfl) (by intro c a d v w h; cases d <;> exact h) ?_
  simp only [segs, picks, List.getElem?_cons_succ, List.getElem?_cons_zero]
  refine wpSeg_fl hC1 ?_
  repeat (first | go_big_quiet_step (fail) | quiet_step (fail))
  refine wpQuiet_nil ?_
  refine wpSeg_sq (fun K hK => ?_)
  go_wp2_with fail
  go_wp2_with fail
  refine hK _ _ (fun _ => hC1) ?_
  clear hK K
  refine wpSeg_fl hC1 ?_
  repeat (first | go_big_quiet_step (fail) | quiet_step (fail))
  refine wpQuiet_nil ?_
  refine wpSeg_sq (fun K hK => ?_)
  go_wp2_with fail
  go_wp2_with fail
  refine hK _ _ (fun _ => hC1) ?_
  clear hK K
  refine wpSeg_fl hC1 ?_
  repeat (first | go_big_quiet_step (fail) | quiet_step (fail))
  refine wpQuiet_nil ?_
  refine wpSeg_sq (fun K hK => ?_)
  go_wp2_with (refine wpList_store_mem aggOb (HM6.out.later HD0.out) 1 rfl rfl rfl rfl rfl rfl rfl rfl ?_; intro w8 h8 ht8; have H8 := LH h8; have HT8 := LH (HT0.out.trans ht8); clear h8 ht8)
  have hC2 := near_of HT8.out
  go_wp2_with fail
  refine hK _ _ (fun _ => hC2) ?_
  clear hK K
  refine wpSeg_last ?_
  go_wp2_with fail
  refine bodyPost_ret (results_cell_row2 (p := 8) (u := 9) rfl _ _ _ _ _ _ _ rfl (H8.out.exact 1 rfl) Tryz.underlying129 rfl (by kernel_rfl)) rfl ?_
  refine HP.out _ _ _ _ (by rw [HN.out]; rfl) (fun o ho => by rw [HN.out] at ho; cases ho) H8.out.below
 have hv7 : e = .returned (.tuple #[.int .i64 (wn : Int), .bool true]) := by rw [hv6, decide_eq_true hw0]
 subst hv7
 clear hv6
 have hb512 : b < 1000 := by omega
 go_upto_region 13 with fail
 by_cases hy5 : y = b * 512
 case neg =>
  have hy6 : ((y : Int) == (b : Int) * 512) = false := by simp; omega
  have HN : Hid (placedN S L (y : Int) = none) := LH (by rw [HPl3.out, if_neg (by have := HBy.out; omega)])
  clear hy5
  refine wp_region_seg (C := fun w' => ∃ x : Near [q + 1] w6, w' = x.val) [.fl [0, 1, 2, 3, 4, 5], .sq [6] true, .fl [7, 8, 9, 10, 11], .sq [12] true, .fl [13, 14], .sq [15] true, .sq [16] false] (by kernel_rfl) (by kernel_rfl) (by intro c a d v w h; cases d <;> exact h) ?_
  simp only [segs, picks, List.getElem?_cons_succ, List.getElem?_cons_zero]
  refine wpSeg_fl hC1 ?_
  repeat (first | go_big_quiet_step (fail) | quiet_step (fail))
  refine wpQuiet_nil ?_
  refine wpSeg_sq (fun K hK => ?_)
  go_wp2_with fail
  refine (HFi.out _).mono ?_
  rintro e w7 ⟨rfl, hb7⟩
  have HD7 := LH (HD0.out.trans (hb7.mono HD0.out.size))
  have HT7 := LH (HT0.out.later hb7)
  have hC2 := near_of HT7.out
  clear hb7
  go_wp2_with fail
  refine hK _ _ (fun _ => hC2) ?_
  clear hK K
  refine wpSeg_fl hC2 ?_
  repeat (first | go_big_quiet_step (fail) | quiet_step (fail))
  refine wpQuiet_nil ?_
  refine wpSeg_sq (fun K hK => ?_)
  go_wp2_with fail
  go_wp2_with fail
  refine hK _ _ (fun _ => hC2) ?_
  clear hK K
  refine wpSeg_fl hC2 ?_
  repeat (first | go_big_quiet_step (fail) | quiet_step (fail))
  refine wpQuiet_nil ?_
  refine wpSeg_sq (fun K hK => ?_)
  go_wp2_with (refine wpList_store_mem aggOb (HM6.out.later HD7.out) 1 rfl rfl rfl rfl rfl rfl rfl rfl ?_; intro w8 h8 ht8; have H8 := LH h8; have HT8 := LH (HT7.out.trans ht8); clear h8 ht8)
  have hC3 := near_of HT8.out
  go_wp2_with fail
  refine hK _ _ (fun _ => hC3) ?_
  clear hK K
  refine wpSeg_last ?_
  go_wp2_with fail
  refine bodyPost_ret (results_cell_row2 (p := 8) (u := 9) rfl _ _ _ _ _ _ _ rfl (H8.out.exact 1 rfl) Tryz.underlying129 rfl (by kernel_rfl)) rfl ?_
  refine HP.out _ _ _ _ (by rw [HN.out]; rfl) (fun o ho => by rw [HN.out] at ho; cases ho) H8.out.below
 have hy6 : ((y : Int) == (b : Int) * 512) = true := by simp; omega
 have HN : Hid (placedN S L (y : Int) = if wn = nb then some ⟨p, d, 0⟩ else none) := LH (by
  rw [HPl3.out]
  by_cases c : wn = nb
  ·rw [if_pos ⟨by omega, c⟩, if_pos c]
  ·rw [if_neg (fun h => c h.2), if_neg c])
 clear hy5
 refine wp_region_seg (C := fun w' => ∃ x : Near [q + 1] w6, w' = x.val) [.fl [0, 1, 2, 3, 4, 5], .sq [6] true, .fl [7, 8, 9, 10, 11], .sq [12] true, .fl [13, 14], .sq [15] true, .sq [16] false] (by kernel_rfl) (by kernel_rfl) (by intro c a d v w h; cases d <;> exact h) ?_
 simp only [segs, picks, List.getElem?_cons_succ, List.getElem?_cons_zero]
 refine wpSeg_fl hC1 ?_
 repeat (first | go_big_quiet_step (fail) | quiet_step (fail))
 refine wpQuiet_nil ?_
 refine wpSeg_sq (fun K hK => ?_)
 go_wp2_with fail
 refine (HFi.out _).mono ?_
 rintro e w7 ⟨rfl, hb7⟩
 have HD7 := LH (HD0.out.trans (hb7.mono HD0.out.size))
 have HT7 := LH (HT0.out.later hb7)
 have hC2 := near_of HT7.out
 clear hb7
 go_wp2_with fail
 refine hK _ _ (fun _ => hC2) ?_
 clear hK K
 refine wpSeg_fl hC2 ?_
 repeat (first | go_big_quiet_step (fail) | quiet_step (fail))
 refine wpQuiet_nil ?_
 refine wpSeg_sq (fun K hK => ?_)
 go_wp2_with fail
 refine (HBl.out _).mono ?_
 rintro e w8 ⟨rfl, hb8⟩
 have HD8 := LH (HD7.out.trans (hb8.mono HD7.out.size))
 have HT8 := LH (HT7.out.later hb8)
 have hC3 := near_of HT8.out
 clear hb8
 go_wp2_with fail
 refine hK _ _ (fun _ => hC3) ?_
 clear hK K
 refine wpSeg_fl hC3 ?_
 repeat (first | go_big_quiet_step (fail) | quiet_step (fail))
 refine wpQuiet_nil ?_
 refine wpSeg_sq (fun K hK => ?_)
 go_wp2_with (refine wpList_store_mem aggOb (HM6.out.later HD8.out) 1 rfl rfl rfl rfl rfl rfl rfl rfl ?_; intro w9 h9 ht9; have H9 := LH h9; have HT9 := LH (HT8.out.trans ht9); clear h9 ht9)
 have hC4 := near_of HT9.out
 go_wp2_with fail
 refine hK _ _ (fun _ => hC4) ?_
 clear hK K
 refine wpSeg_last ?_
 go_wp2_with fail
 refine bodyPost_ret (results_cell_row2 (p := 8) (u := 9) rfl _ _ _ _ _ _ _ rfl (H9.out.exact 1 rfl) Tryz.underlying129 rfl (by kernel_rfl)) rfl ?_
 refine HP.out _ _ _ _ ?_ (fun o ho => ?_) H9.out.below
 ·rw [HN.out]
  by_cases c : wn = nb
  ·subst c; simp
  ·rw [if_neg c]; simp; omega
 ·rw [HN.out] at ho
  split at ho
  ·cases ho; rfl
  ·cases ho
set_option maxHeartbeats 2000000 in
set_option maxRecDepth 20000 in
theorem aplace_any {w : World} {A : AF} {n B : Nat} {m : Al} (h : AlAt w A n B m) (hB : B ≤ 1000) (x : Int) :
  Calls Tryz.prog 101 #[valloc A, .int .i64 x] w (PlPost m.bm.dev m.bm.list x w) := by
 have HM := LH (Mem.one w #[.int .i64 0, .int .i64 0] 129)
 have HP : Hid (∀ (p d : Int) b w', b = (placedN m.bm.dev m.bm.list x).isSome → (∀ o, placedN m.bm.dev m.bm.list x = some o → o = ⟨p, d, 0⟩) → Below w.heap.size w w' → PlPost m.bm.dev m.bm.list x w (.returned (.tuple #[vob p d, .bool b])) w') := LH (fun p d b w' h1 h2 h3 => by subst h1; exact ⟨⟨p, d, rfl, h2⟩, h3⟩)
 have HLn : Hid (m.bm.list.length = B) := LH h.man.tab.len
 have HSm : Hid (m.bm.dev.cache.length ≤ 1000000) := LH h.man.dev.small
 generalize PlPost m.bm.dev m.bm.list x w = Post at *
 have HA0 := LH (h.below HM.out.below)
 have HAh := LH h
 clear h
 go_enter Tryz.func101, Tryz.ntmps101
 go_upto_region 1 with fail
 obtain ⟨q, hq⟩ : ∃ q, q = w.heap.size := ⟨_, rfl⟩
 have HQn : Hid (∀ k ∈ A.list, k ∉ [q]) := LH (fun k hk hm => by
  have := HAh.out.mem k hk
  simp at hm
  omega)
 rw [← hq] at HM ⊢
 generalize w.alloc _ = w0 at *
 clear hq
 have c0 := HA0.out.c0
 have c1 := HA0.out.c1
 have c2 := HA0.out.c2
 have c3 := HA0.out.man.c0
 have r0 := fun x => near_cell (L := [q]) c0 (HQn.out _ (by simp [AF.list, AF.fix])) x
 have r1 := fun x => near_cell (L := [q]) c1 (HQn.out _ (by simp [AF.list, AF.fix])) x
 have r2 := fun x => near_cell (L := [q]) c2 (HQn.out _ (by simp [AF.list, AF.fix])) x
 have r3 := fun x => near_cell (L := [q]) c3 (HQn.out _ (by simp [AF.list, AF.fix, MF.list])) x
 have HT0 : Hid (Touch [q] w0 w0.drew) := LH (Touch.ofBelow (later_below (later_drew w0)))
 have HD0 : Hid (Below w0.heap.size w0 w0.drew) := LH (later_below (later_drew w0))
 have hC1 := near_of HT0.out
 clear c0 c1 c2 c3
 refine wp_region_seg (C := fun w' => ∃ x : Near [q] w0, w' = x.val) [.fl [0, 1, 2, 3, 4, 5, 6, 7, 8, 9, 10, 11, 12, 13, 14, 16], .sq [15] true, .sq [17] false, .fl [18, 19], .sq [20, 21] false] (by kernel_rfl) (by kernel_rfl) (by intro c a d v w h; cases d <;> exact h) ?_
 simp only [segs, picks, List.getElem?_cons_succ, List.getElem?_cons_zero]
 refine wpSeg_fl hC1 ?_
 repeat (first | go_big_quiet_step (fail) | quiet_step (fail))
 refine wpQuiet_nil ?_
 clear r0 r1 r2 r3
 generalize w0.drew = w1 at *
 have HA1 := LH (HA0.out.below HD0.out)
 refine wpSeg_sq (fun K hK => ?_)
 go_wp2_with fail
 refine (tall_any HA1.out.man.tab hB).mono ?_
 rintro e w2 ⟨g, cg, rfl, hg1, hg2, hrow, hb2⟩
 have HD2 := LH (HD0.out.trans (hb2.mono HD0.out.size))
 have HT2 := LH (HT0.out.later hb2)
 have hC2 := near_of HT2.out
 have HR2 := LH hrow.cells
 clear hb2 hrow
 go_wp2_with fail
 refine hK _ _ (fun _ => hC2) ?_
 clear hK K
 have HA2 := LH (HA0.out.below HD2.out)
 refine wpSeg_sq (fun K hK => ?_)
 go_wp2_with fail
 refine (aplaced_any HA2.out.man.dev _ B cg m.bm.list HLn.out HR2.out hB HSm.out x).mono ?_
 rintro e w3 ⟨⟨p, d, rfl, ho⟩, hb3⟩
 have HO := LH ho
 have HD3 := LH (HD2.out.trans (hb3.mono HD2.out.size))
 have HT3 := LH (HT2.out.later hb3)
 have hC3 := near_of HT3.out
 clear ho hb3
 go_wp2_with fail
 refine hK _ _ (fun _ => hC3) ?_
 clear hK K
 refine wpSeg_fl hC3 ?_
 repeat (first | go_big_quiet_step (fail) | quiet_step (fail))
 refine wpQuiet_nil ?_
 refine wpSeg_last ?_
 go_wp2_with (refine wpList_store_mem aggOb (HM.out.later HD3.out) 0 rfl rfl rfl rfl rfl rfl rfl rfl ?_; intro w9 h9 ht9; have H9 := LH h9; clear h9 ht9)
 refine bodyPost_ret (results_cell_row2 (p := 4) (u := 5) rfl _ _ _ _ _ _ _ rfl (H9.out.exact 0 rfl) Tryz.underlying129 rfl (by kernel_rfl)) rfl ?_
 exact HP.out _ _ _ _ rfl HO.out H9.out.below
def bmOf (S : Dev) (B : Nat) : Bm := ⟨S, hds (devWord S) B, freeL (freeAt (hds (devWord S) B)) B B⟩
def OpenBm (w : World) (F : Foot) (S : Dev) (B : Nat) : Ending → World → Prop := fun e w' => Below w.heap.size w w' ∧
  ((AllOk (devWord S) B ∧ soundN (hds (devWord S) B) B 1 = 0 ∧ ∃ (X : MF) (n : Nat), e = .returned (.tuple #[.pointer (some ⟨X.m, 0, none⟩), .int .i64 0]) ∧ X.F = F ∧ ManAt w' X n B (bmOf S B) ∧ n ≤ 1000000 ∧
      (∀ k ∈ X.list, k ∈ F.list ∨ w.heap.size ≤ k)) ∨
   (AllOk (devWord S) B ∧ soundN (hds (devWord S) B) B 1 ≠ 0 ∧ e = .returned (.tuple #[.pointer none, .int .i64 40])) ∨
   (¬ AllOk (devWord S) B ∧ e = .returned (.tuple #[.pointer none, .int .i64 21])))
theorem bspans_fill (l : List Hd) (B : Nat) (h : l.length = B) : fillR (op2s (spansOf l)) (List.replicate B false) = (freeL (freeAt l) B B, 0) := by
 unfold spansOf
 rw [h]
 exact fill_spans (freeAt l) B B (Nat.le_refl _)
set_option maxHeartbeats 4000000 in
set_option maxRecDepth 20000 in
theorem bopen_any {w : World} {F : Foot} {S : Dev} (h : DevAt w F S) (B : Nat) (hB1 : 1 ≤ B) (hB : B ≤ 1000) :
    Calls Tryz.prog 16 #[vdev F, vgeom B] w (OpenBm w F S B) := by
  have HM := LH (Mem.one w #[.int .i64 (B : Int)] 46)
  have HD := LH (h.below HM.out.below)
  have HMF := LH h.mem
  have HNF := LH h.nodup
  have HL : Hid ((hds (devWord S) B).length = B) := LH (hds_length _ _)
  have HFill := LH (bspans_fill (hds (devWord S) B) B HL.out)
  have HBm : Hid (bmOf S B = ⟨S, hds (devWord S) B, freeL (freeAt (hds (devWord S) B)) B B⟩) := LH rfl
  have HFl : Hid ((freeL (freeAt (hds (devWord S) B)) B B).length = B) := LH (freeL_len _ _ _)
  have HPE : Hid (OpenBm w F S B = fun e w' => Below w.heap.size w w' ∧
  ((AllOk (devWord S) B ∧ soundN (hds (devWord S) B) B 1 = 0 ∧ ∃ (X : MF) (n : Nat), e = .returned (.tuple #[.pointer (some ⟨X.m, 0, none⟩), .int .i64 0]) ∧ X.F = F ∧ ManAt w' X n B (bmOf S B) ∧ n ≤ 1000000 ∧
      (∀ k ∈ X.list, k ∈ F.list ∨ w.heap.size ≤ k)) ∨
   (AllOk (devWord S) B ∧ soundN (hds (devWord S) B) B 1 ≠ 0 ∧ e = .returned (.tuple #[.pointer none, .int .i64 40])) ∨
   (¬ AllOk (devWord S) B ∧ e = .returned (.tuple #[.pointer none, .int .i64 21])))) := LH rfl
  generalize hP : OpenBm w F S B = Post at *
  clear h hP
  go_enter Tryz.func16, Tryz.ntmps16
  go_upto_region 1 with fail
  generalize hw0 : w.alloc _ = w0 at *
  clear hw0
  obtain ⟨q, hq⟩ : ∃ q, q = w.heap.size := ⟨_, rfl⟩
  rw [← hq] at HM ⊢
  have HQ := LH hq
  clear hq
  have c0 := HM.out.cell 0 0 rfl rfl
  unfold vdev at *
  go_wp2_with fail
  refine (open_tabG HD.out B hB1 hB).mono ?_
  rintro e w1 ⟨hb1, ⟨hok, p, g, cc, rfl, hp, hg, hpg, htab⟩ | ⟨b, hb0, hbB, hok, hbad, rfl⟩⟩
  case inr =>
    have HE : Hid (¬ AllOk (devWord S) B) := LH (fun h => hbad (h b hb0 hbB))
    have HB1 := LH (HM.out.later hb1)
    clear hok hbad hb1
    go_wp2_with fail
    rw [HPE.out]
    exact ⟨HB1.out.below, .inr (.inr ⟨HE.out, rfl⟩)⟩
  have HM1 := LH (HM.out.later hb1)
  have HD1 := LH (HD.out.below hb1)
  have HT1 := LH htab
  have HOK := LH hok
  have HG : Hid (w0.heap.size ≤ p ∧ w0.heap.size ≤ g ∧ p ≠ g) := LH ⟨hp, hg, hpg⟩
  have HW0 : Hid (w.heap.size + 1 ≤ w0.heap.size) := LH (by have := HM.out.glt 0 rfl; have := HQ.out; omega)
  clear hb1 htab hok hp hg hpg c0 HM HD
  generalize hds (devWord S) B = L at *
  go_wp2_with fail
  refine (tall_any HT1.out hB).mono ?_
  rintro e w2 ⟨a2, k2, rfl, hq2, hk2, hr2, hb2⟩
  have HM2 := LH (HM1.out.later hb2)
  have HD2 := LH (HD1.out.below hb2)
  have HT2 := LH (HT1.out.keep (hb2.block p HT1.out.lt.1) (hb2.block g HT1.out.lt.2))
  have HR2 := LH hr2
  clear hq2 hk2 hr2 hb2 HM1 HD1 HT1
  go_wp2_with fail
  refine (bsound_any _ B k2 L HL.out w2 HR2.out.cells hB).mono ?_
  rintro e w3 ⟨rfl, hb3⟩
  rw [HL.out]
  have HM3 := LH (HM2.out.later hb3)
  have HD3 := LH (HD2.out.below hb3)
  have HT3 := LH (HT2.out.keep (hb3.block p HT2.out.lt.1) (hb3.block g HT2.out.lt.2))
  clear hb3 HM2 HD2 HT2 HR2
  obtain ⟨sn, hsn⟩ : ∃ sn, sn = soundN L B 1 := ⟨_, rfl⟩
  rw [← hsn] at HPE ⊢
  clear hsn
  by_cases hs : sn = 0
  case neg =>
    have hs' : decide (sn = 0) = false := by simpa using hs
    rw [hs']
    have HS := LH hs
    clear hs hs'
    go_wp2_with fail
    rw [HPE.out]
    exact ⟨HM3.out.below, .inr (.inl ⟨HOK.out, HS.out, rfl⟩)⟩
  have hs' : decide (sn = 0) = true := by simpa using hs
  rw [hs']
  have HS := LH hs
  clear hs hs'
  have c0 := HM3.out.cell 0 0 rfl rfl
  go_upto_region 7 with fail
  have r0 := fun x => later_cell c0 x
  clear c0
  refine wp_region_seg (C := fun w' => ∃ x : Later (w3), w' = x.val) [.fl [0, 1, 2], .sq [3] true, .sq [4, 5] false, .fl [6, 7, 8], .sq [9] false] (by kernel_rfl) (by kernel_rfl) (by intro c a d v w h; cases d <;> exact h) ?_
  simp only [segs, picks, List.getElem?_cons_succ, List.getElem?_cons_zero]
  have hC1 := later_drew (w3)
  refine wpSeg_fl hC1 ?_
  repeat (first | go_big_quiet_step (fail) | quiet_step (fail))
  refine wpQuiet_nil ?_
  refine wpSeg_sq (fun K hK => ?_)
  go_wp2_with fail
  refine (tspans_any ((HT3.out.keep ((later_below hC1).block p HT3.out.lt.1) ((later_below hC1).block g HT3.out.lt.2)).at HG.out.2.2) (by rw [HL.out]; exact hB)).mono ?_
  rintro e w4 ⟨v, rfl, ho4, hb4⟩
  have hC2 := later_step hC1 hb4
  obtain ⟨a4, c4, rfl, _, hm4⟩ := owned_form ho4
  have HC4 : Hid (Cells w4 a4 (recs Op2.cs (op2s (spansOf L)))) := LH (by rw [op2s_cs]; exact Cells.owned2 ho4)
  have HSl : Hid ((op2s (spansOf L)).length = (spansOf L).length) := LH (by simp [op2s])
  have HSl2 : Hid ((spansOf L).length ≤ 1000000) := LH (by
    have := spanL_len (freeAt L) L.length
    unfold spansOf
    rw [HL.out] at this ⊢
    omega)
  generalize (spansOf L).length = nl at *
  clear ho4 hb4 hm4
  go_wp2_with fail
  refine hK _ _ (fun _ => hC2) ?_
  clear hK K
  refine wpSeg_sq (fun K hK => ?_)
  go_wp2_with fail
  refine (ifill_any (B : Int) (by omega) a4 nl c4 (op2s (spansOf L)) HSl.out _ HC4.out HSl2.out).mono ?_
  rw [show (B : Int).toNat = B from rfl, HFill.out]
  rintro e w5 ⟨hb5, ⟨_, T, kk, rfl, hix, hkk, hT⟩ | ⟨hne, _⟩⟩
  case inr => exact absurd rfl hne
  have hC3 := later_step hC2 hb5
  have HIx := LH hix
  have HTt := LH hT
  have HW4 : Hid (w3.heap.size ≤ w4.heap.size) := LH ((later_below hC2).size)
  clear hix hT hb5 HC4 HSl HSl2
  go_wp2_with fail
  refine hK _ _ (fun _ => hC3) ?_
  clear hK K
  refine wpSeg_fl hC3 ?_
  repeat (first | go_big_quiet_step (fail) | quiet_step (fail))
  refine wpQuiet_nil ?_
  have HM5 := LH (HM3.out.later (later_below hC3))
  have HD5 := LH (HD3.out.below (later_below hC3))
  have HT5 := LH (HT3.out.keep ((later_below hC3).block p HT3.out.lt.1) ((later_below hC3).block g HT3.out.lt.2))
  have HFl3 : Hid (∀ k ∈ F.list, k < w.heap.size) := HMF
  have HT3l : Hid (p < w3.heap.size ∧ g < w3.heap.size) := LH HT3.out.lt
  have c0 := HM5.out.cell 0 0 rfl rfl
  clear hC1 hC2 hC3 r0 HM3 HD3 HT3
  refine wpSeg_last ?_
  go_wp2_with fail
  rw [HPE.out]
  have hbx := below_alloc w5 (.cells #[.pointer (some ⟨p, 0, none⟩), .pointer (some ⟨T.p, 0, none⟩), .int .i64 (B : Int)] 70)
  have hTl := HIx.out.mem
  have hsz := HW4.out
  obtain ⟨hG1, hG2, hG3⟩ := HG.out
  have hW0 := HW0.out
  have h3 := HT3l.out
  have hw05 : w0.heap.size ≤ w5.heap.size := by have := HT5.out.lt; omega
  refine ⟨HM5.out.below.trans (hbx.mono HM5.out.below.size), .inl ⟨HOK.out, HS.out, ⟨w5.heap.size, p, g, cc, F, T⟩, kk, rfl, rfl, ?_, hkk, ?_⟩⟩
  · rw [HBm.out]
    refine ⟨heap_alloc_new _ _, HT5.out.keep (hbx.block p HT5.out.lt.1) (hbx.block g HT5.out.lt.2), HD5.out.below hbx, HIx.out.below hbx, HFl.out, ?_⟩
    obtain ⟨M, E, hmp, _⟩ := HIx.out
    have e1 := hmp.ne1
    have e2 := hmp.ne2
    have e3 := hmp.ne3
    have t1 := HTt.out T.p (by simp [Tri.list])
    have t2 := HTt.out T.s (by simp [Tri.list])
    have t3 := HTt.out T.e (by simp [Tri.list])
    have l1 := hTl T.p (by simp [Tri.list])
    have l2 := hTl T.s (by simp [Tri.list])
    have l3 := hTl T.e (by simp [Tri.list])
    have lp := HT5.out.lt
    have hF : ∀ k, w.heap.size ≤ k → k ∉ F.list := fun k hk hm => by have := HFl3.out k hm; omega
    simp only [MF.list, List.nodup_cons, List.mem_cons, not_or]
    refine ⟨⟨by omega, by omega, by omega, by omega, by omega, hF _ (by omega)⟩, ⟨by omega, by omega, by omega, by omega, hF _ (by omega)⟩, ⟨by omega, e1, e2, hF _ (by omega)⟩, ⟨by omega, by omega, hF _ (by omega)⟩, ⟨e3, hF _ (by omega)⟩, hF _ (by omega), HNF.out⟩
  · intro k hk
    have t1 := HTt.out T.p (by simp [Tri.list])
    have t2 := HTt.out T.s (by simp [Tri.list])
    have t3 := HTt.out T.e (by simp [Tri.list])
    simp only [MF.list, List.mem_cons] at hk
    rcases hk with rfl | rfl | rfl | rfl | rfl | rfl | hk
    · right; omega
    · right; omega
    · right; omega
    · right; omega
    · right; omega
    · right; omega
    · exact .inl hk
theorem fmtTo_dirty {S : Dev} (hS : ∀ l, S.dirty.getD l false = false) (hD : S.cache.length = 8 * S.dirty.length) : ∀ k l, (∀ b, 1 ≤ b → b < k → (256 + b) / 8 ≠ l) → (S.fmtTo k).dirty.getD l false = false
 | 0, l, _ => hS l
 | k + 1, l, h => by
  have ih := fmtTo_dirty hS hD k l (fun b h1 h2 => h b h1 (by omega))
  unfold Dev.fmtTo
  split
  ·exact hS l
  ·rename_i hk
   unfold Dev.store
   by_cases c : (((256 + k : Nat) : Int)) < 0 ∨ (((S.fmtTo k).cache.length : Nat) : Int) ≤ ((256 + k : Nat) : Int)
   ·rw [if_pos c]; exact ih
   ·rw [if_neg c]
    split
    ·rw [(S.fmtTo k).step_rest.2.2.2.1]; exact ih
    ·show ((S.fmtTo k).step.dirty.set (((256 + k : Nat) : Int).toNat / 8) true).getD l false = false
     rw [(S.fmtTo k).step_rest.2.2.2.1, List.getD_eq_getElem?_getD, List.getElem?_set_ne (by have := h k (by omega) (by omega); omega), ← List.getD_eq_getElem?_getD]
     exact ih
structure Formed (S : Dev) (B : Nat) : Prop where
 inv : S.inv
 live : S.live
 ok : S.ok 201000
 len : S.cache.length = 512 * B
 dlen : S.dirty.length = 64 * B
 last : S.lasting = S.cache
 dirty : S.dirty = List.replicate (64 * B) false
 pending : S.pending = List.replicate (64 * B) false
 clean : Clean S B
 allOk : AllOk (devWord S) B
 hds : hds (devWord S) B = List.replicate B ⟨0, 0, 0⟩
 word : ∀ b, 1 ≤ b → b < B → devWord S b = encN b 0 0 0
theorem fmt_formed {B : Nat} (hB2 : 2 ≤ B) (hB : B ≤ 100) : Formed ((freshDev (List.replicate (512 * B) 0) (64 * B)).fmt B) B := by
 obtain ⟨S, hS⟩ : ∃ S, S = freshDev (List.replicate (512 * B) 0) (64 * B) := ⟨_, rfl⟩
 rw [← hS]
 have hl : S.cache.length = 512 * B := by rw [hS]; simp [freshDev]
 have hd : S.dirty.length = 64 * B := by rw [hS]; simp [freshDev]
 have hi : S.inv := by rw [hS]; exact fresh_inv (by simp; omega) (by simp; omega) (fun z hz => by simp at hz; omega)
 have hv : S.live := by rw [hS]; exact fresh_live _ _
 have ho : S.ok 100 := by rw [hS]; exact fresh_ok _ _ _
 have hf : ∀ l, S.dirty.getD l false = false := fun l => by
  rw [hS]; unfold freshDev; simp only [List.getD_eq_getElem?_getD, List.getElem?_replicate]; split <;> rfl
 obtain ⟨p1, p2, p3, p5, p4⟩ := fmtTo_props hv ho B (by rw [hl]; omega)
 have hti := fmtTo_inv hi B
 have he := (p1.persist 257 (B - 1) (by omega) (by rw [p3, p5]; exact hi.wf.lenD) (by rw [p3, hl]; omega)).1
 obtain ⟨q1, q2, q3, q4, q5⟩ := Dev.persist_clean hti 257 (B - 1) (by omega) he
 have hfm : S.fmt B = ((S.fmtTo B).persist ((257 : Nat) : Int) ((B - 1 : Nat) : Int)).dev := by unfold Dev.fmt; rw [show ((B : Int) - 1) = ((B - 1 : Nat) : Int) by omega]; rfl
 rw [← hfm] at q1 q3 q4 q5
 have hinv : (S.fmt B).inv := by rw [hfm]; exact Dev.persist_inv hti _ _
 have hdl : (S.fmt B).dirty.length = 64 * B := by rw [q3, p5, hd]
 have hdirty : ∀ l, (S.fmt B).dirty.getD l false = false := by
  intro l
  by_cases c : ∃ b, 1 ≤ b ∧ b < B ∧ (256 + b) / 8 = l
  ·obtain ⟨b, b1, b2, rfl⟩ := c
   exact q4 (256 + b) (by omega) (by omega)
  ·exact q5 l (fmtTo_dirty hf hi.wf.lenD B l (fun b b1 b2 e => c ⟨b, b1, b2, e⟩))
 have hrep : ∀ n l, (List.replicate n false).getD l false = false := fun n l => by simp only [List.getD_eq_getElem?_getD, List.getElem?_replicate]; split <;> rfl
 refine ⟨hinv, ?_, ?_, by rw [q1, p3, hl], hdl, ?_, ?_, ?_, fmt_clean hi hv ho hB2 (by rw [hl]; omega), fmt_ok hv ho B hB2 hi.wf.lenD (by rw [hl]; omega), fmt_hds hv ho B hB2 hi.wf.lenD (by rw [hl]; omega), fmt_words hv ho B hB2 hi.wf.lenD (by rw [hl]; omega)⟩
 ·rw [hfm]; exact p1.persist_live 257 (B - 1) (by omega) (by rw [p3, p5]; exact hi.wf.lenD) (by rw [p3, hl]; omega)
 ·exact (Dev.persist_ok hti.wf p2 _ _).mono (by omega)
 ·exact nat_ext (hinv.wf.lenL) (fun i => hinv.sound i (hdirty _))
 ·exact bool_ext (by rw [hdl]; simp) (fun l => by rw [hdirty, hrep])
 ·refine bool_ext (by rw [hinv.wf.lenP, hdl]; simp) (fun l => ?_)
  rw [hrep]
  cases hp : (S.fmt B).pending.getD l false with
  | false => rfl
  | true => have := hinv.pend l hp; rw [hdirty] at this; cases this
theorem sound_zero (B : Nat) : ∀ f b, soundN (List.replicate B ⟨0, 0, 0⟩) f b = 0
 | 0, _ => rfl
 | f + 1, b => by
  have hz : (List.replicate B (⟨0, 0, 0⟩ : Hd)).getD b default = ⟨0, 0, 0⟩ := by
   simp only [List.getD_eq_getElem?_getD, List.getElem?_replicate]; split <;> rfl
  rw [soundN, hz, sound_zero B f (b + 1)]
  split
  ·rfl
  ·rw [if_neg (by decide), if_neg (by decide)]
theorem Formed.bm {S : Dev} {B : Nat} (h : Formed S B) (hB : 2 ≤ B) : BmOk B (bmOf S B) := by
 have hz : ∀ b, (List.replicate B (⟨0, 0, 0⟩ : Hd)).getD b default = ⟨0, 0, 0⟩ := fun b => by
  simp only [List.getD_eq_getElem?_getD, List.getElem?_replicate]; split <;> rfl
 unfold bmOf
 rw [h.hds]
 refine ⟨by simp, freeL_len _ _ _, h.clean, fun b _ => by dsimp only; rw [hz]; decide, fun b h1 h2 => ?_, fun b => ?_, fun b h1 h2 hk => ?_⟩
 ·dsimp only
  rw [hz]
  have := h.word b h1 h2
  unfold devWord at this
  rw [show (256 + (b : Int)) = ((256 + b : Nat) : Int) by omega, peek_in] at this
  exact this
 ·dsimp only
  rw [freeL_fb, hz]
  unfold freeAt
  rw [hz]
  constructor
  ·rintro ⟨_, h2, h3, _⟩; exact ⟨h2, h3, rfl⟩
  ·rintro ⟨h2, h3, _⟩; exact ⟨h3, h2, h3, rfl⟩
 ·dsimp only at hk; rw [hz] at hk; cases hk
section
variable {P : Program} {C : World → Prop} {ops : Array Oper} {rest : List Oper} {o : Oper} {a : Act}
variable {Q : Exit → Act → World → Prop} {w W : World} {L : List Ent}
end
theorem MemR.upto {B : Nat} {W : World} {L : List Ent} (h : MemR B W L) (k : Nat) : MemR B W (L.take k) := MemR.front (E := L.drop k) (by rw [List.take_append_drop]; exact h)
end Go.Proofs.YtbimcogdbafjpaaGreat
