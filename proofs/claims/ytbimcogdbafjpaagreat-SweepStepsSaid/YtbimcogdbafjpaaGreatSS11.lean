/- Parts of the proof, one behind the other: Pb, Kb, Fv, Fw, Fx, Pf, Kc, Kd, Kf, Kg, Kh, Ki, Kj, Kk, Kl. -/
import Derived.Test.YtbimcogdbafjpaaGreatSS10
set_option linter.unusedVariables false
namespace Go.Proofs.YtbimcogdbafjpaaGreat
open Go.RowKit
theorem objBlocks_33 {n : Nat} (h : n ≤ 16448) : objBlocks n ≤ 33 := by unfold objBlocks; split <;> omega
theorem small_free {b : Bm} {k : Int} (h : (b.small k).err = 0) : (b.small k).bm.free = (takeR b.free 1).1 ∧ (takeR b.free 1).2.2 = 0 := by
 unfold Bm.small at h ⊢
 split at h
 ·cases h
 ·next c1 =>
  rw [if_neg c1]
  split at h
  ·next c2 => exact absurd h c2
  ·next c2 => rw [if_neg c2]; exact ⟨rfl, by simpa using c2⟩
theorem large_free {b : Bm} {n : Int} (h : (b.large n).err = 0) : (b.large n).bm.free = (takeR b.free n).1 ∧ (takeR b.free n).2.2 = 0 ∧ 1 ≤ n := by
 unfold Bm.large at h ⊢
 split at h
 ·cases h
 ·next c1 =>
  rw [if_neg c1]
  split at h
  ·next c2 => exact absurd h c2
  ·next c2 =>
   rw [if_neg c2]
   have c2' : (takeR b.free n).2.2 = 0 := by simpa using c2
   split
   ·exact ⟨rfl, c2', by omega⟩
   ·exact ⟨rfl, c2', by omega⟩
theorem taken_len {S : FL} {m k x : Nat} (hm : m < 4) (h : S.cell m k = some x) : (S.all k).length = ((S.taken m k).all k).length + 1 := by
 have := count_len (x := S.all k) (y := x :: (S.taken m k).all k) (fun a => by
  rw [FL.all_count, FL.taken_cnt hm h k a, List.count_cons, FL.all_count]
  by_cases e : a = x
  ·subst e; simp
  ·rw [if_neg (by rintro ⟨_, h⟩; exact e h), if_neg (by simpa using fun h => e h.symm)])
 rw [this, List.length_cons]
theorem drain_len {S : FL} {m k : Nat} (hm : m < 4) (hk : k < 32) : ((S.drain m).all k).length = (S.all k).length :=
 count_len (fun a => by rw [FL.all_count, FL.all_count, FL.drain_cnt _ hm hk])
theorem count_mapRange {f : Nat → Nat} (hf : ∀ i j, f i = f j → i = j) (a : Nat) : ∀ n, ((List.range n).map f).count a = if ∃ i, i < n ∧ a = f i then 1 else 0
 | 0 => by rw [if_neg (by rintro ⟨i, hi, _⟩; omega)]; rfl
 | n + 1 => by
  rw [List.range_succ, List.map_append, List.count_append, count_mapRange hf a n]
  by_cases e : a = f n
  ·subst e
   rw [if_neg (by rintro ⟨i, hi, e⟩; have := hf _ _ e; omega), if_pos ⟨n, by omega, rfl⟩]; simp
  ·have h0 : ([n].map f).count a = 0 := by
    rw [List.count_eq_zero]; simpa using e
   rw [h0, Nat.add_zero]
   congr 1
   refine propext ⟨fun ⟨i, hi, h⟩ => ⟨i, by omega, h⟩, fun ⟨i, hi, h⟩ => ⟨i, ?_, h⟩⟩
   by_cases c : i = n
   ·subst c; exact absurd h e
   ·omega
section
variable {B : Nat} {m : Al}
theorem carved_len (h : AlOk B m) {b k : Nat} (hk : k < 32) (hb : 1 ≤ b) (hbB : b < B) (hz : (m.bm.list.getD b default).k = 0) : ((m.carved b k).all k).length = numC m k + clsCells (k : Int) := by
 have h0 : ∀ i, i < clsCells (k : Int) → m.fl.cnt k (cellOf b k i) = 0 := fun i hi => by
  rw [h.cells k _ hk, if_neg]
  rintro ⟨hc, _⟩
  have := isCell_kind hc
  rw [(cellOf_at hk hi).1, hz] at this
  cases this
 have hu : ∀ i, i < clsCells (k : Int) → m.used.getD (cellOf b k i) false = false := fun i hi => by
  cases hc : m.used.getD (cellOf b k i) false with
  | false => rfl
  | true =>
   have := (h.used_kind hc).2.2
   rw [(cellOf_at hk hi).1] at this
   exact absurd hz this
 have := count_len (x := (m.carved b k).all k) (y := m.fl.all k ++ (List.range (clsCells (k : Int))).map (cellOf b k)) (fun a => by
  rw [FL.all_count, List.count_append, FL.all_count, count_mapRange (cellOf_inj hk)]
  unfold Al.carved
  rw [FL.carve_cnt (cellOf_inj hk) h0]
  congr 2
  refine propext ⟨fun ⟨_, _, i, hi, e⟩ => ⟨i, hi, e⟩, fun ⟨i, hi, e⟩ => ⟨rfl, by rw [e]; exact hu i hi, i, hi, e⟩⟩)
 rw [this, List.length_append, List.length_map, List.length_range]; rfl
theorem room_prd (h : AlOk B m) (hB : B ≤ 200) {mu n : Nat} (hmu : mu < 4) (h1 : 1 ≤ n) (h9 : n ≤ 16448) (he : (m.room mu n).err = 0) :
  prdN m n = prdN (m.room mu n).al n + 1 ∧ ((m.room mu n).al.bm = m.bm ∨ sumOf (runsOf (m.room mu n).al.bm.free) + 1 ≤ sumOf (runsOf m.bm.free)) ∧ (m.room mu n).al.used = m.used ∧
   ∀ q : Nat, ((m.room mu n).al.bm.list.getD q default).k = 2 → (m.bm.list.getD q default).k = 2 ∨ (m.room mu n).a = ((512 * q : Nat) : Int) := by
 unfold Al.room at he ⊢
 unfold prdN
 by_cases hs : small n
 ·rw [if_pos hs] at he
  rw [if_pos hs, if_pos hs, if_pos hs]
  have hk := ofN_lt hs
  generalize ofN (n : Int) = k at *
  have htk : ∀ (bm : Bm) (f : FL), (m.take bm f mu k).err = 0 → ∃ x, f.cell mu k = some x ∧ (m.take bm f mu k).al = ⟨bm, m.used, f.taken mu k⟩ := fun bm f hz => by
   unfold Al.take at hz ⊢
   cases hc : f.cell mu k with
   | none => rw [hc] at hz; rw [if_neg (by simp)] at hz; cases hz
   | some x => exact ⟨x, rfl, by rw [if_pos (by simp)]⟩
  unfold Al.roomS at he ⊢
  cases hc : m.fl.cell mu k with
  | some x =>
   rw [hc, if_pos (by rfl)] at he
   rw [if_pos (by rfl)]
   obtain ⟨y, hy, e⟩ := htk _ _ he
   rw [e]
   have := taken_len hmu hy
   exact ⟨by unfold prdS numC; dsimp only; omega, .inl rfl, rfl, fun q hq => .inl hq⟩
  | none =>
   rw [hc, if_neg (by simp)] at he
   rw [if_neg (by simp)]
   by_cases hz : (m.bm.small k).err = 0
   ·rw [if_pos hz] at he ⊢
    obtain ⟨y, hy, e⟩ := htk _ _ he
    rw [e]
    rcases small_live h.bm h.live k hk with ⟨e2, hp⟩ | ⟨b, s1, s2, s3, s4, s5, s6, s7, s8, s9, s10, s11⟩
    ·rw [e2] at hz; cases hz
    ·obtain ⟨f1, f2⟩ := small_free hz
     obtain ⟨a, kk, g1, g2, g3, _⟩ := takeR_fit (Nat.le_refl 1) f2
     rw [show ((1 : Nat) : Int) = 1 from rfl] at g1
     rw [g1] at f1
     dsimp only at f1
     have hsum := sum_take g2 (Nat.le_refl 1) g3
     rw [← f1] at hsum
     have hl := taken_len hmu hy
     rw [s1, Int.toNat_natCast] at hl
     rw [s1, Int.toNat_natCast]
     rw [carved_len h hk s3 s4 ((h.bm.free b).1 s5).2.2] at hl
     refine ⟨?_, .inr ?_, rfl, fun q hq => .inl ?_⟩
     ·unfold prdS
      show numC m k + _ = ((FL.taken _ mu k).all k).length + _ + 1
      rw [hsum, Nat.add_mul, Nat.one_mul]
      dsimp only at hl ⊢
      omega
     ·show sumOf (runsOf (m.bm.small k).bm.free) + 1 ≤ _
      omega
     ·have hq' : ((m.bm.small k).bm.list.getD q default).k = 2 := hq
      rw [s9 q] at hq'
      split at hq'
      ·cases hq'
      ·exact hq'
   ·rw [if_neg hz] at he ⊢
    by_cases hz4 : (m.bm.small k).err ≠ 4
    ·rw [if_pos hz4] at he
     exact absurd he hz
    ·rw [if_neg hz4] at he ⊢
     have hbm : (m.bm.small k).bm = m.bm := by
      rcases small_live h.bm h.live k hk with ⟨e2, _⟩ | ⟨b, _, s2, _⟩
      ·rw [e2]
      ·exact absurd s2 hz
     unfold Al.steal at he ⊢
     cases ho : m.fl.owner k with
     | none => rw [ho] at he; cases he
     | some i =>
      rw [ho] at he
      dsimp only at he ⊢
      have hi : i < 4 := by
       unfold FL.owner at ho
       repeat' split at ho
       all_goals cases ho
       all_goals omega
      obtain ⟨y, hy, e⟩ := htk _ _ he
      rw [e, hbm]
      have h1 := taken_len hmu hy
      rw [drain_len hi hk] at h1
      exact ⟨by unfold prdS numC; dsimp only; omega, .inl rfl, rfl, fun q hq => .inl hq⟩
 ·rw [if_neg hs] at he
  rw [if_neg hs, if_neg hs, if_neg hs]
  unfold Al.roomL at he ⊢
  by_cases hz : (m.bm.large (objBlocks n)).err ≠ 0
  ·rw [if_pos hz] at he; exact absurd he hz
  ·rw [if_neg hz]
   obtain ⟨f1, f2, f3⟩ := large_free (show (m.bm.large (objBlocks n)).err = 0 by simpa using hz)
   obtain ⟨a, kk, g1, g2, g3, _⟩ := takeR_fit (z := objBlocks n) (by omega) f2
   rw [g1] at f1
   dsimp only at f1
   have hsum := sum_take g2 (by omega) g3
   have hdiv := divs_take g2 (by omega) g3
   have hlive := large_live h.bm h.live (objBlocks n) (by omega) (by have := objBlocks_33 h9; omega)
   dsimp only
   refine ⟨by rw [f1]; exact hdiv, .inr (by rw [f1]; omega), rfl, fun q hq => ?_⟩
   rcases hlive with ⟨e2, _⟩ | ⟨b, s1, s2, s3, s4, s5, s6, s7, s8, s9, s10, s11⟩
   ·rw [e2] at hz; exact absurd (show (4 : Int) ≠ 0 by decide) hz
   ·rw [s9 q] at hq
    split at hq
    ·next c => right; rw [s1, c]; omega
    ·split at hq
     ·cases hq
     ·exact .inl hq
theorem alloc_prd (h : AlOk B m) (hB : B ≤ 200) {mu p d : Int} (h0 : 0 ≤ mu) (h4 : mu < 4) (hs : objSize p d ≠ 0) (hm : (objSize p d : Int) ≤ 512 * ((B : Int) - 1)) :
  (∃ m' a, m.alloc mu p d = ⟨m', ((a : Nat) : Int), 0⟩ ∧ Made B m m' a p d ∧ prdN m (objSize p d) = prdN m' (objSize p d) + 1 ∧ (∀ q : Nat, (m'.bm.list.getD q default).k = 2 → (m.bm.list.getD q default).k = 2 ∨ a = 512 * q) ∧ ∀ N, m.bm.dev.ok N → ∃ N', m'.bm.dev.ok N' ∧ N' + 600000 * sumOf (runsOf m'.bm.free) ≤ N + 20000 + 600000 * sumOf (runsOf m.bm.free)) ∨
  (m.alloc mu p d = ⟨m, 0, 4⟩ ∧ prdN m (objSize p d) = 0) := by
 have hz : 1 ≤ objSize p d ∧ objSize p d ≤ 16448 := by
  refine ⟨by omega, ?_⟩
  have h1 := objSize_is hs
  have h2 := obj_small hs
  omega
 rcases alloc_room h hB h0 h4 hs hm with ⟨m', a, e, hmd, hr⟩ | ⟨e, hr⟩
 ·refine .inl ⟨m', a, e, hmd, ?_⟩
  have hra := e
  unfold Al.alloc at hra
  rw [if_neg (by omega), if_neg (by rw [h.bm.lenL]; omega)] at hra
  by_cases he : (m.room mu.toNat (objSize p d)).err ≠ 0
  ·rw [if_pos he] at hra
   injection hra with _ _ h3
   exact absurd h3 he
  ·rw [if_neg he] at hra
   have he0 : (m.room mu.toNat (objSize p d)).err = 0 := by simpa using he
   obtain ⟨p1, p2, _, p4⟩ := room_prd h hB (mu := mu.toNat) (by omega) hz.1 hz.2 he0
   have hfl : m'.fl = (m.room mu.toNat (objSize p d)).al.fl ∧ m'.bm.free = (m.room mu.toNat (objSize p d)).al.bm.free ∧ m'.bm.dev = ((m.room mu.toNat (objSize p d)).al.bm.dev.init (m.room mu.toNat (objSize p d)).a p d).dev ∧ m'.bm.list = (m.room mu.toNat (objSize p d)).al.bm.list ∧ (m.room mu.toNat (objSize p d)).a = (a : Int) := by
    unfold Al.made at hra
    split at hra
    ·next c => injection hra with _ _ h3; exact absurd h3 c
    ·injection hra with h1 h2 _; subst h1; exact ⟨rfl, rfl, rfl, rfl, h2⟩
   obtain ⟨f1, f2, f3, f4, f5⟩ := hfl
   refine ⟨?_, fun q hq => ?_, fun N hN => ?_⟩
   ·rw [p1]
    unfold prdN prdS numC
    rw [f1, f2]
   ·rw [f4] at hq
    exact (p4 q hq).imp id (fun h => by rw [f5] at h; omega)
   ·rw [f2, f3]
    rcases p2 with p2 | p2
    ·rw [p2]
     exact ⟨N + 20000, init_ok hN _ _ _, by omega⟩
    ·exact ⟨N + 500000 + 20000, init_ok (room_okN h.bm.clean.inv hN (by rw [h.bm.lenL]; omega) _ _) _ _ _, by omega⟩
 ·refine .inr ⟨e, ?_⟩
  unfold roomy16 at hr
  unfold prdN
  by_cases c : small (objSize p d)
  ·rw [if_pos c] at hr ⊢
   unfold prdS numC
   have e1 : (m.fl.all (ofN (objSize p d : Nat))).length = 0 := by omega
   have e2 : sumOf (runsOf m.bm.free) = 0 := by omega
   rw [e1, e2, Nat.zero_mul]
  ·rw [if_neg c] at hr ⊢
   refine divs_none (fun x hx => ?_)
   have := long_geF hx
   omega
end
def LgOk (m : Al) : Prop := ∀ q, (m.bm.list.getD q default).k = 2 → m.used.getD (512 * q) false = true
theorem LgOk.start {B : Nat} (hB2 : 2 ≤ B) (hB : B ≤ 100) : LgOk (al0 B) := fun q hq => by
 rw [al0_list hB2 hB, List.getD_eq_getElem?_getD, List.getElem?_replicate] at hq
 split at hq
 ·exact absurd hq (by decide)
 ·exact absurd hq (by decide)
section
variable {B : Nat} {m m' : Al}
theorem LgOk.made (hl : LgOk m) (h : AlOk B m) {a : Nat} {p d : Int} (hm : Made B m m' a p d) (hk : ∀ q : Nat, (m'.bm.list.getD q default).k = 2 → (m.bm.list.getD q default).k = 2 ∨ a = 512 * q) : LgOk m' := fun q hq => by
 rcases hk q hq with e | e
 ·exact (hm.others h (hl q e)).1
 ·have hp := hm.placed
  have hr := placed_room hp
  have hpos := hr.pos
  have hlen := hm.ok.lenU
  rw [hm.ok.bm.lenL] at hpos
  have hlu : a < m.used.length := by rw [h.lenU]; omega
  rw [hm.used, ← e, List.getD_eq_getElem?_getD, List.getElem?_set_self hlu]; rfl
theorem LgOk.gone (hl : LgOk m) {a : Nat} (hg : Gone B m m' a) : LgOk m' := fun q hq => by
 rcases hg.kin q with e | ⟨e, _⟩
 ·have hq2 := hq
  rw [e] at hq2
  rw [hg.used, getD_set_off, if_neg]
  ·exact hl q hq2
  ·intro c
   refine hg.k2 ?_
   rw [show a / 512 = q by omega]; exact hq
 ·rw [e] at hq; exact absurd hq (by decide)
theorem LgOk.trim (hl : LgOk m) {b : Nat} (ht : Trimmed B m m' b) : LgOk m' := fun q hq => by
 rw [ht.list q] at hq
 split at hq
 ·exact absurd hq (by decide)
 ·rw [ht.used]; exact hl q hq
end
def Kin (m m' : Al) : Prop := ∀ q, m'.bm.list.getD q default = m.bm.list.getD q default ∨ (m'.bm.list.getD q default = ⟨0, 0, 0⟩ ∧ 2 ≤ (m.bm.list.getD q default).k)
theorem Kin.refl (m : Al) : Kin m m := fun _ => .inl rfl
theorem Kin.trans {m m1 m2 : Al} (h : Kin m m1) (k : Kin m1 m2) : Kin m m2 := fun q => by
 rcases k q with e | ⟨e, g⟩
 ·rw [e]; exact h q
 ·rcases h q with e1 | ⟨e1, g1⟩
  ·rw [e1] at g; exact .inr ⟨e, g⟩
  ·exact .inr ⟨e, g1⟩
theorem Kin.small {m m' : Al} (h : Kin m m') {q : Nat} (hq : (m.bm.list.getD q default).k = 1) : m'.bm.list.getD q default = m.bm.list.getD q default := by
 rcases h q with e | ⟨_, g⟩
 ·exact e
 ·rw [hq] at g; exact absurd g (by decide)
theorem Kin.back {m m' : Al} (h : Kin m m') {q : Nat} (hq : (m'.bm.list.getD q default).k = 1) : (m.bm.list.getD q default).k = 1 := by
 rcases h q with e | ⟨e, _⟩
 ·rw [← e]; exact hq
 ·rw [e] at hq; exact absurd hq (by decide)
def offs (U : List Bool) (ws : List Nat) : List Bool := ws.foldl (fun u a => u.set a false) U
theorem offs_len : ∀ (ws : List Nat) (U : List Bool), (offs U ws).length = U.length
 | [], _ => rfl
 | a :: ws, U => by
  show (offs (U.set a false) ws).length = _
  rw [offs_len ws, List.length_set]
theorem offs_getD : ∀ (ws : List Nat) (U : List Bool) (x : Nat), (offs U ws).getD x false = (U.getD x false && !ws.contains x)
 | [], U, x => by show U.getD x false = _; simp
 | a :: ws, U, x => by
  show (offs (U.set a false) ws).getD x false = _
  rw [offs_getD ws, getD_set_off]
  by_cases e : x = a
  ·subst e; simp
  ·rw [if_neg e]; simp [e]
theorem offs_snoc (U : List Bool) (ws : List Nat) (a : Nat) : offs U (ws ++ [a]) = (offs U ws).set a false := by unfold offs; rw [List.foldl_append]; rfl
theorem onesL_offs (U : List Bool) (ws : List Nat) : onesL (offs U ws) = (onesL U).filter (fun a => !ws.contains a) := by
 unfold onesL
 rw [offs_len, List.filter_filter]
 congr 1
 funext i
 rw [offs_getD, Bool.and_comm]
def whiteL (U : List Bool) (M : Mk) (b : Nat) : List Nat := (onesL U).filter (fun a => decide (a / 512 = b) && decide (M.colour a = 0))
theorem whiteL_mem {U : List Bool} {M : Mk} {b a : Nat} : a ∈ whiteL U M b ↔ U.getD a false = true ∧ a / 512 = b ∧ M.colour a = 0 := by
 unfold whiteL
 rw [List.mem_filter, mem_onesL, Bool.and_eq_true, decide_eq_true_iff, decide_eq_true_iff]
theorem whiteL_nodup (U : List Bool) (M : Mk) (b : Nat) : (whiteL U M b).Nodup := (List.Nodup.sublist List.filter_sublist (List.Nodup.sublist List.filter_sublist List.nodup_range))
structure Marked (M : Mk) (mk : List Nat) : Prop where
 nd : mk.Nodup
 is : ∀ a, M.colour a = 0 ↔ a ∉ mk
structure Swept (B : Nat) (U0 : List Bool) (M : Mk) (m : Al) (b : Nat) : Prop where
 ok : AlOk B m
 lg : LgOk m
 us : ∀ x, m.used.getD x false = true ↔ U0.getD x false = true ∧ (x / 512 < b → M.colour x ≠ 0)
 sm : ∀ q, 1 ≤ q → q < b → (m.bm.list.getD q default).k = 1 → ∃ x, m.used.getD x false = true ∧ x / 512 = q
theorem Swept.start {B : Nat} {m : Al} (h : AlOk B m) (hl : LgOk m) (M : Mk) : Swept B m.used M m 1 :=
 ⟨h, hl, fun x => ⟨fun hx => ⟨hx, fun c => by have := (h.used_kind hx).1; omega⟩, fun hx => hx.1⟩, fun q h1 h2 => by omega⟩
section
variable {C : World → Prop} {ops : Array Oper} {rest : List Oper} {o : Oper} {a : Act} {Q : Act → Prop}
end
theorem snd_al0 {B : Nat} (hB2 : 2 ≤ B) (hB : B ≤ 100) : Snd (al0 B).bm.list := by
 intro q _ hq
 rw [al0_list hB2 hB] at hq
 simp only [List.getD_eq_getElem?_getD, List.getElem?_replicate] at hq
 split at hq <;> exact absurd hq (by decide)
section
variable {w wr w' : World} {Q : List Nat} {A : AF} {n n' B N N' : Nat} {m m' : Al}
structure Hq (w wr : World) (Q : List Nat) (A : AF) (n B N : Nat) (m : Al) : Prop where
 at_ : AlAt wr A n B m
 ok : AlOk B m
 lg : LgOk m
 snd : Snd m.bm.list
 steps : m.bm.dev.ok N
 new : ∀ k ∈ A.list, w.heap.size ≤ k ∧ k ∉ Q
 qlt : ∀ k ∈ Q, k < wr.heap.size
 below : Below w.heap.size w wr
theorem Hq.later (h : Hq w wr Q A n B N m) (hb : Below wr.heap.size wr w') : Hq w w' Q A n B N m :=
 ⟨h.at_.below hb, h.ok, h.lg, h.snd, h.steps, h.new, fun k hk => Nat.lt_of_lt_of_le (h.qlt k hk) hb.size, h.below.trans (hb.mono h.below.size)⟩
theorem Hq.mono (h : Hq w wr Q A n B N m) (hn : n ≤ n') (hN : N ≤ N') : Hq w wr Q A n' B N' m :=
 ⟨h.at_.mono hn, h.ok, h.lg, h.snd, h.steps.mono hN, h.new, h.qlt, h.below⟩
theorem Hq.own (h : Hq w wr Q A n B N m) (ht : Touch Q wr w') (hQ : ∀ k ∈ Q, w.heap.size ≤ k) : Hq w w' Q A n B N m :=
 ⟨h.at_.keep (fun k hk => ht.block k (h.at_.mem k hk) (h.new k hk).2), h.ok, h.lg, h.snd, h.steps, h.new, fun k hk => Nat.lt_of_lt_of_le (h.qlt k hk) ht.size, below_touched h.below ht hQ (Nat.le_refl _)⟩
theorem Hq.go (h : Hq w wr Q A n B N m) (hg : AlGo wr w' A n' B m') (hok : AlOk B m') (hl : LgOk m') (hsn : Snd m'.bm.list) (hs : m'.bm.dev.ok N') :
  ∃ R, Hq w w' Q (A.re R) n' B N' m' ∧ Off Q wr w' := by
 obtain ⟨R, h1, h2, h3⟩ := hg
 have hlt := h.below.size
 refine ⟨R, ⟨h1, hok, hl, hsn, hs, fun k hk => ?_, fun k hk => Nat.lt_of_lt_of_le (h.qlt k hk) h2.size, below_touched h.below h2 (fun k hk => (h.new k (AF.hot_list hk)).1) (Nat.le_refl _)⟩, ⟨A.hot, h2, fun k hk hm => (h.new k (AF.hot_list hm)).2 hk⟩⟩
 rcases AF.re_list hk with c | c
 ·exact h.new k c
 ·rcases h3 k c with c | c
  ·exact h.new k (by simp [AF.list, c])
  ·exact ⟨Nat.le_trans hlt c, fun hq => by have := h.qlt k hq; omega⟩
theorem Hq.more (h : Hq w wr Q A n B N m) {Q' : List Nat} (hQ : ∀ k ∈ Q', k ∈ Q ∨ (wr.heap.size ≤ k ∧ k < w'.heap.size)) (hb : Below wr.heap.size wr w') : Hq w w' Q' A n B N m := by
 have h' := h.later hb
 refine { h' with new := fun k hk => ⟨(h.new k hk).1, fun hq => ?_⟩, qlt := fun k hk => ?_ }
 ·rcases hQ k hq with c | c
  ·exact (h.new k hk).2 c
  ·have := h.at_.mem k hk; omega
 ·rcases hQ k hk with c | c
  ·exact h'.qlt k c
  ·exact c.2
theorem Hq.begun {w0 w w1 : World} {A : AF} {n B : Nat} (hB2 : 2 ≤ B) (hB : B ≤ 100) (h : AlAt w1 A n B (al0 B)) (hA : ∀ k ∈ A.list, w0.heap.size ≤ k) (hb0 : Below w.heap.size w w0) (hb : Below w0.heap.size w0 w1) {Q : List Nat} (hQ : ∀ k ∈ Q, k < w0.heap.size) :
  Hq w w1 Q A n B 201000 (al0 B) :=
 ⟨h, al0_ok hB2 hB, LgOk.start hB2 hB, snd_al0 hB2 hB, dev0_ok hB2 hB, fun k hk => ⟨Nat.le_trans hb0.size (hA k hk), fun hq => (by have := hQ k hq; have := hA k hk; omega)⟩, fun k hk => Nat.lt_of_lt_of_le (hQ k hk) hb.size, hb0.trans (hb.mono hb0.size)⟩
theorem alloc_cases (h : AlOk B m) (hB : B ≤ 200) (hl : LgOk m) (hs : Snd m.bm.list) (ho : m.bm.dev.ok N) (mu p d : Int) :
  (∃ m' a, m.alloc mu p d = ⟨m', ((a : Nat) : Int), 0⟩ ∧ Made B m m' a p d ∧ LgOk m' ∧ Snd m'.bm.list ∧ m'.bm.dev.ok (N + 600000)) ∨ ∃ er, m.alloc mu p d = ⟨m, 0, er⟩ ∧ er ≠ 0 := by
 by_cases hmu : mu < 0 ∨ 4 ≤ mu
 ·exact .inr ⟨1, by unfold Al.alloc; rw [if_pos hmu], by decide⟩
 ·by_cases hz : objSize p d = 0 ∨ 512 * ((m.bm.list.length : Int) - 1) < (objSize p d : Nat)
  ·exact .inr ⟨5, by unfold Al.alloc; rw [if_neg hmu, if_pos hz], by decide⟩
  ·rw [h.bm.lenL] at hz
   rcases alloc_prd h hB (mu := mu) (p := p) (d := d) (by omega) (by omega) (by omega) (by omega) with ⟨m', a, e, hm, _, hk, _⟩ | ⟨e, _⟩
   ·have hsn := snd_alloc h hs mu p d
    have hok := alloc_okN h.bm.clean.inv ho (by rw [h.bm.lenL]; omega) mu p d
    rw [e] at hsn hok
    exact .inl ⟨m', a, e, hm, hl.made h hm hk, hsn, hok⟩
   ·exact .inr ⟨4, e, by decide⟩
def HqAl (w wr : World) (Q : List Nat) (A : AF) (n B N : Nat) (m : Al) (mu p d : Int) : Ending → World → Prop := fun e w' => ∃ (m' : Al) (R : List Nat) (a er : Int),
 e = .returned (.tuple #[.int .i64 a, .int .i64 er]) ∧ Hq w w' Q (A.re R) (n + 6) B (N + 600000) m' ∧ Off Q wr w' ∧ ((∃ x : Nat, a = (x : Int) ∧ er = 0 ∧ Made B m m' x p d) ∨ (m' = m ∧ er ≠ 0)) ∧ m.alloc mu p d = ⟨m', a, er⟩
theorem Hq.alloc (h : Hq w wr Q A n B N m) (hB2 : 2 ≤ B) (hB : B ≤ 200) (hn : n < 900000000000) (hN : N ≤ 900000000) (mu p d : Int) :
  Calls Tryz.prog 64 #[valloc A, .int .i64 mu, .int .i64 p, .int .i64 d] wr (HqAl w wr Q A n B N m mu p d) := by
 refine (aalloc_any h.at_ h.ok (by omega) hB hn hN h.steps mu p d).mono ?_
 rintro e w' ⟨rfl, hg⟩
 rcases alloc_cases h.ok hB h.lg h.snd h.steps mu p d with ⟨m', a, e, hm, h1, h2, h3⟩ | ⟨er, e, he⟩
 ·rw [e] at hg ⊢
  obtain ⟨R, hq, ho⟩ := h.go hg hm.ok h1 h2 h3
  exact ⟨m', R, a, 0, rfl, hq, ho, .inl ⟨a, rfl, rfl, hm⟩, e⟩
 ·rw [e] at hg ⊢
  obtain ⟨R, hq, ho⟩ := h.go hg h.ok h.lg h.snd (h.steps.mono (Nat.le_add_right N 600000))
  exact ⟨m, R, 0, er, rfl, hq, ho, .inr ⟨rfl, he⟩, e⟩
def HqFr (w wr : World) (Q : List Nat) (A : AF) (n B N : Nat) (m : Al) (x : Int) : Ending → World → Prop := fun e w' => ∃ (m' : Al) (R : List Nat) (er : Int),
 e = .returned (.int .i64 er) ∧ Hq w w' Q (A.re R) (n + 4) B (N + 500000) m' ∧ Off Q wr w' ∧ ((∃ a : Nat, x = (a : Int) ∧ m.used.getD a false = true ∧ er = 0 ∧ Gone B m m' a) ∨ (m' = m ∧ er = 42 ∧ hasI m.used x = false))
theorem Hq.free (h : Hq w wr Q A n B N m) (hB : B ≤ 200) (hn : n < 900000000000) (hN : N ≤ 900000000) (mu x : Int) :
  Calls Tryz.prog 84 #[valloc A, .int .i64 mu, .int .i64 x] wr (HqFr w wr Q A n B N m x) := by
 refine (afree_any h.at_ h.ok hB hn hN h.steps mu x).mono ?_
 rintro e w' (⟨hx, rfl, hg⟩ | ⟨a, m', rfl, hu, rfl, hgn, ho, hg⟩)
 ·obtain ⟨R, hq, hof⟩ := h.go hg h.ok h.lg h.snd (h.steps.mono (Nat.le_add_right N 500000))
  exact ⟨m, R, 42, rfl, hq, hof, .inr ⟨rfl, rfl, hx⟩⟩
 ·obtain ⟨R, hq, hof⟩ := h.go hg hgn.ok (h.lg.gone hgn) (hgn.snd h.snd) ho
  exact ⟨m', R, 0, rfl, hq, hof, .inl ⟨a, rfl, hu, rfl, hgn⟩⟩
end
structure Hs (w wr : World) (Q : List Nat) (A : AF) (n B N : Nat) (m : Al) (K : MkF) (M : Mk) : Prop where
 hp : Hq w wr (Q ++ K.list) A n B N m
 mr : MkAt wr A K M
 lo : ∀ k ∈ Q ++ K.list, w.heap.size ≤ k
 qk : ∀ k ∈ Q, k ∉ K.list
 lm : M.ms.length = m.used.length
 ls : M.sc.length = m.used.length
section
variable {w wr w' : World} {Q Q' R : List Nat} {A : AF} {n n' B N N' : Nat} {m m' : Al} {K : MkF} {M M' : Mk}
theorem Hs.ma (h : Hs w wr Q A n B N m K M) : MA wr A n B m K M := ⟨h.hp.at_, h.mr, fun k hk hm => (h.hp.new k hk).2 (List.mem_append_right _ hm), h.lm, h.ls⟩
theorem Hs.later (h : Hs w wr Q A n B N m K M) (hb : Below wr.heap.size wr w') : Hs w w' Q A n B N m K M := ⟨h.hp.later hb, h.mr.below hb, h.lo, h.qk, h.lm, h.ls⟩
theorem Hs.mono (h : Hs w wr Q A n B N m K M) (hn : n ≤ n') (hN : N ≤ N') : Hs w wr Q A n' B N' m K M := ⟨h.hp.mono hn hN, h.mr, h.lo, h.qk, h.lm, h.ls⟩
theorem Hs.below (h : Hs w wr Q A n B N m K M) : Below w.heap.size w wr := h.hp.below
theorem Hs.go (h : Hs w wr Q A n B N m K M) (hg : MAGo wr w' A n B m K M') : ∃ v', Hs w w' Q A n B N m (K.re v') M' ∧ Off Q wr w' := by
 obtain ⟨v', h1, h2, h3⟩ := hg
 have hm' := h1.mr.mem
 have hp' := h.hp.own (h2.wide (fun b hb => List.mem_append_right _ hb)) h.lo
 have hsz := h.hp.below.size
 have key : ∀ k ∈ (K.re v').list, k ∈ K.list ∨ wr.heap.size ≤ k := fun k hk => by
  rcases MkF.list_re hk with c | c
  ·exact .inl (by simp [MkF.list, c])
  ·rcases h3 k c with c | c
   ·exact .inl (by simp [MkF.list, c])
   ·exact .inr c
 refine ⟨v', ⟨{ hp' with new := fun k hk => ⟨(hp'.new k hk).1, fun hq => ?_⟩, qlt := fun k hk => ?_ }, h1.mr, fun k hk => ?_, fun k hk hm => ?_, h1.lm, h1.ls⟩, ⟨K.list, h2, h.qk⟩⟩
 ·rcases List.mem_append.1 hq with c | c
  ·exact (h.hp.new k hk).2 (List.mem_append_left _ c)
  ·exact h1.ap k hk c
 ·rcases List.mem_append.1 hk with c | c
  ·exact hp'.qlt k (List.mem_append_left _ c)
  ·exact hm' k c
 ·rcases List.mem_append.1 hk with c | c
  ·exact h.lo k (List.mem_append_left _ c)
  ·rcases key k c with c | c
   ·exact h.lo k (List.mem_append_right _ c)
   ·omega
 ·rcases key k hm with c | c
  ·exact h.qk k hk c
  ·have := h.hp.qlt k (List.mem_append_left _ hk); omega
theorem MkAt.reA (h : MkAt wr A K M) : MkAt wr (A.re R) K M := ⟨h.head, h.sx, h.sy, h.st, h.nd, h.nv⟩
theorem Hs.heap (h : Hs w wr Q A n B N m K M) (hq : Hq w w' (Q ++ K.list) (A.re R) n' B N' m') (ho : Off (Q ++ K.list) wr w') (hu : m'.used.length = m.used.length) : Hs w w' Q (A.re R) n' B N' m' K M ∧ Off Q wr w' :=
 ⟨⟨hq, (h.mr.keep (fun k hk => ho.block (List.mem_append_right _ hk) (h.mr.mem k hk))).reA, h.lo, h.qk, by rw [hu]; exact h.lm, by rw [hu]; exact h.ls⟩, ho.less (fun k hk => List.mem_append_left _ hk)⟩
theorem Hs.grow (h : Hs w wr Q A n B N m K M) (ht : Touch Q wr w') (hQ : ∀ k ∈ Q', k ∈ Q ∨ (wr.heap.size ≤ k ∧ k < w'.heap.size)) : Hs w w' Q' A n B N m K M := by
 have hs := h.hp.below.size
 have hp' := h.hp.own (ht.wide (fun b hb => List.mem_append_left _ hb)) h.lo
 refine ⟨{ hp' with new := fun k hk => ⟨(hp'.new k hk).1, fun hq => ?_⟩, qlt := fun k hk => ?_ }, h.mr.keep (fun k hk => ht.block k (h.mr.mem k hk) (fun hq => h.qk k hq hk)), fun k hk => ?_, fun k hk hm => ?_, h.lm, h.ls⟩
 ·rcases List.mem_append.1 hq with c | c
  ·rcases hQ k c with c | c
   ·exact (h.hp.new k hk).2 (List.mem_append_left _ c)
   ·have := h.hp.at_.mem k hk; omega
  ·exact (h.hp.new k hk).2 (List.mem_append_right _ c)
 ·rcases List.mem_append.1 hk with c | c
  ·rcases hQ k c with c | c
   ·exact hp'.qlt k (List.mem_append_left _ c)
   ·exact c.2
  ·exact hp'.qlt k (List.mem_append_right _ c)
 ·rcases List.mem_append.1 hk with c | c
  ·rcases hQ k c with c | c
   ·exact h.lo k (List.mem_append_left _ c)
   ·omega
  ·exact h.lo k (List.mem_append_right _ c)
 ·rcases hQ k hk with c | c
  ·exact h.qk k c hm
  ·have := h.mr.mem k hm; omega
theorem Hs.more (h : Hs w wr Q A n B N m K M) (hQ : ∀ k ∈ Q', k ∈ Q ∨ (wr.heap.size ≤ k ∧ k < w'.heap.size)) (hb : Below wr.heap.size wr w') : Hs w w' Q' A n B N m K M :=
 h.grow (Touch.ofBelow hb) hQ
theorem Hs.less (h : Hs w wr Q A n B N m K M) (hQ : ∀ k ∈ Q', k ∈ Q) : Hs w wr Q' A n B N m K M :=
 h.grow (Touch.refl _ _) (fun k hk => .inl (hQ k hk))
theorem Hs.new (h : Hq w wr Q A n B N m) (hq : ∀ k ∈ Q, w.heap.size ≤ k) (hb : Below wr.heap.size wr w') (hm : MA w' A n B m K M) (hk : ∀ k ∈ K.list, wr.heap.size ≤ k) : Hs w w' Q A n B N m K M := by
 have hs := h.below.size
 refine ⟨h.more (fun k hk' => ?_) hb, hm.mr, fun k hk' => ?_, fun k hk' hm' => ?_, hm.lm, hm.ls⟩
 ·rcases List.mem_append.1 hk' with c | c
  ·exact .inl c
  ·exact .inr ⟨hk k c, hm.mr.mem k c⟩
 ·rcases List.mem_append.1 hk' with c | c
  ·exact hq k c
  ·exact Nat.le_trans hs (hk k c)
 ·have := h.qlt k hk'
  have := hk k hm'
  omega
end
structure OwnQ (wr : World) (Q : List Nat) (v : Value) (xs : List Nat) : Prop where
 own : OwnI wr v xs
 row : ∀ b, rowOf v = some b → b ∈ Q
section
variable {w wr w' : World} {Q Q' : List Nat} {v : Value} {xs : List Nat}
theorem OwnQ.off (h : OwnQ wr Q v xs) (ho : Off Q wr w') : OwnQ w' Q v xs := ⟨h.own.keep (fun b hb => ho.block (h.row b hb) (h.own.lt b hb)), h.row⟩
theorem OwnQ.below (h : OwnQ wr Q v xs) (hb : Below wr.heap.size wr w') : OwnQ w' Q v xs := ⟨h.own.keep (fun b hb' => hb.block b (h.own.lt b hb')), h.row⟩
end
structure SwAt (w : World) (s : Nat) (A : AF) (K : MkF) (b : Nat) (vg : Value) (G : List Nat) : Prop where
 head : w.heap[s]? = some (.cells #[valloc A, vmark K, .int .i64 (b : Int), vg] 208 (0, 0))
 own : OwnI w vg G
 nv : ∀ x, rowOf vg = some x → x ≠ s
def swL (s : Nat) (vg : Value) : List Nat := s :: (rowOf vg).toList
abbrev vsw (s : Nat) : Value := .pointer (some ⟨s, 0, none⟩)
section
variable {w w' : World} {s b : Nat} {A : AF} {K : MkF} {vg : Value} {G Q : List Nat}
theorem SwAt.lt (h : SwAt w s A K b vg G) : ∀ k ∈ swL s vg, k < w.heap.size := fun k hk => by
 simp only [swL, List.mem_cons, Option.mem_toList] at hk
 rcases hk with rfl | hk
 ·exact lt_of_block h.head
 ·exact h.own.lt k hk
theorem SwAt.keep (h : SwAt w s A K b vg G) (hk : ∀ k ∈ swL s vg, w'.heap[k]? = w.heap[k]?) : SwAt w' s A K b vg G :=
 ⟨(hk s (by simp [swL])).trans h.head, h.own.keep (fun x hx => hk x (by simp [swL, hx])), h.nv⟩
theorem SwAt.off (h : SwAt w s A K b vg G) (ho : Off Q w w') (hQ : ∀ k ∈ swL s vg, k ∈ Q) : SwAt w' s A K b vg G := h.keep (fun k hk => ho.block (hQ k hk) (h.lt k hk))
theorem SwAt.below (h : SwAt w s A K b vg G) (hb : Below w.heap.size w w') : SwAt w' s A K b vg G := h.keep (fun k hk => hb.block k (h.lt k hk))
theorem SwAt.c0 (h : SwAt w s A K b vg G) : w.cell? ⟨s, 0, none⟩ = some (valloc A) := cell_of_row _ _ 0 _ _ _ h.head
theorem SwAt.c1 (h : SwAt w s A K b vg G) : w.cell? ⟨s, 1, none⟩ = some (vmark K) := cell_of_row _ _ 1 _ _ _ h.head
theorem SwAt.c2 (h : SwAt w s A K b vg G) : w.cell? ⟨s, 2, none⟩ = some (.int .i64 (b : Int)) := cell_of_row _ _ 2 _ _ _ h.head
theorem SwAt.c3 (h : SwAt w s A K b vg G) : w.cell? ⟨s, 3, none⟩ = some vg := cell_of_row _ _ 3 _ _ _ h.head
theorem SwAt.row (h : SwAt w s A K b vg G) : RowAt w s 208 [valloc A, vmark K, .int .i64 (b : Int), vg] := ⟨_, h.head, [], by simp⟩
end
end Go.Proofs.YtbimcogdbafjpaaGreat
namespace Go.Proofs.YtbimcogdbafjpaaGreat
open Go.RowKit Go.Maps
section
variable {w : World} {A : AF} {n B : Nat} {m : Al} {K : MkF} {M : Mk}
set_option maxHeartbeats 2000000 in
set_option maxRecDepth 20000 in
theorem anext_any (h : AlAt w A n B m) (a : Nat) : Calls Tryz.prog 183 #[valloc A, .int .i64 (a : Int)] w fun e w' => e = .returned (.tuple #[.int .i64 (((nextB m.used a).getD 0 : Nat) : Int), .bool (nextB m.used a).isSome]) ∧ w = w' := by
 have c3 := h.c3
 have HN := LH (snext_any h.set (a : Int))
 rw [Int.toNat_natCast, nextV_eq] at HN
 generalize nextB m.used a = o at *
 clear h
 go_enter Tryz.func183, Tryz.ntmps183
 go_wp2_with fail
 refine HN.out.mono ?_
 rintro e w1 ⟨rfl, rfl⟩
 go_wp2_with fail
 go_ret2
 exact ⟨rfl, rfl⟩
end
structure WhIt (U : List Bool) (f : Nat) (pre : List Nat) (o : Option Nat) : Prop where
 eq : onesF U f = pre ++ (match o with | some i => i :: onesF U (i + 1) | none => [])
 lt : ∀ x ∈ pre, x < f + 512
section
variable {U : List Bool} {f : Nat} {pre : List Nat} {i : Nat} {M : Mk}
theorem WhIt.start (U : List Bool) (f : Nat) : WhIt U f [] (nextB U f) := ⟨by rw [List.nil_append]; exact onesF_next, fun x hx => by cases hx⟩
theorem WhIt.next (h : WhIt U f pre (some i)) (hi : i < f + 512) : WhIt U f (pre ++ [i]) (nextB U (i + 1)) := by
 refine ⟨?_, fun x hx => ?_⟩
 ·have e := @onesF_next U (i + 1)
  rw [h.eq, List.append_assoc]
  show pre ++ (i :: onesF U (i + 1)) = _
  rw [e]; rfl
 ·rcases List.mem_append.1 hx with c | c
  ·exact h.lt x c
  ·simp at c; subst c; exact hi
theorem WhIt.in_ (h : WhIt U f pre (some i)) : U.getD i false = true := by
 have : i ∈ onesF U f := by rw [h.eq]; simp
 unfold onesF at this
 exact mem_onesL.1 (List.mem_filter.1 this).1
theorem WhIt.len (h : WhIt U f pre (some i)) : pre.length < U.length := by
 have h1 : (onesF U f).length ≤ (onesL U).length := List.length_filter_le _ _
 rw [h.eq, onesL_length] at h1
 have := count_le_len U
 simp at h1
 omega
theorem whiteL_onesF (U : List Bool) (M : Mk) (b : Nat) : whiteL U M b = ((onesF U (512 * b)).filter (fun a => decide (a < 512 * b + 512))).filter (fun a => decide (M.colour a = 0)) := by
 unfold whiteL onesF
 rw [List.filter_filter, List.filter_filter]
 refine List.filter_congr (fun x _ => ?_)
 rw [Bool.eq_iff_iff]
 simp only [Bool.and_eq_true, decide_eq_true_iff]
 constructor
 ·rintro ⟨h1, h2⟩; exact ⟨⟨h2, by omega⟩, by omega⟩
 ·rintro ⟨⟨h2, h1⟩, h3⟩; exact ⟨by omega, h2⟩
theorem WhIt.done {o : Option Nat} {b : Nat} (h : WhIt U (512 * b) pre o) (ho : ∀ i, o = some i → 512 * b + 512 ≤ i) : whiteL U M b = pre.filter (fun a => decide (M.colour a = 0)) := by
 rw [whiteL_onesF, h.eq, List.filter_append]
 have h1 : pre.filter (fun a => decide (a < 512 * b + 512)) = pre := List.filter_eq_self.2 (fun x hx => decide_eq_true (h.lt x hx))
 have h2 : (match o with | some i => i :: onesF U (i + 1) | none => []).filter (fun a => decide (a < 512 * b + 512)) = [] := by
  refine List.filter_eq_nil_iff.2 (fun x hx => ?_)
  cases o with
  | none => cases hx
  | some i =>
   have hi := ho i rfl
   rcases List.mem_cons.1 hx with c | c
   ·subst c; simp; omega
   ·unfold onesF at c
    have := (List.mem_filter.1 c).2
    simp at this ⊢; omega
 rw [h1, h2, List.append_nil]
end
section
variable {w : World} {A : AF} {n B : Nat} {m : Al} {K : MkF} {M : Mk} {s b : Nat} {vg : Value} {G : List Nat}
set_option maxHeartbeats 4000000 in
set_option maxRecDepth 100000 in
theorem swhite_any (h : AlAt w A n B m) (hmk : MkAt w A K M) (hs : SwAt w s A K b vg G) (hu : m.used.length ≤ 1000000) (hb : b ≤ 1000) :
  Calls Tryz.prog 123 #[vsw s, .int .i64 (b : Int)] w (NewI w (whiteL m.used M b)) := by
 have HP : Hid (∀ v w', OwnI w' v (whiteL m.used M b) → (∀ b, rowOf v = some b → w.heap.size ≤ b) → Below w.heap.size w w' → NewI w (whiteL m.used M b) (.returned v) w') := LH (fun v w' h1 h2 h3 => ⟨v, rfl, h1, h2, h3⟩)
 generalize NewI w (whiteL m.used M b) = Post at *
 have HA := LH h
 have HM := LH hmk
 have HS := LH hs
 have c0 := hs.c0
 obtain ⟨f, hf⟩ : ∃ f, f = 512 * b := ⟨_, rfl⟩
 have hfm : (b : Int) * 512 = (f : Int) := by omega
 have HN0 := LH (anext_any h f)
 have HW0 := LH (WhIt.start m.used f)
 have HF := LH hf
 have hf9 : f ≤ 512000 := by omega
 generalize nextB m.used f = o0 at *
 clear h hmk hs hf
 go_enter Tryz.func123, Tryz.ntmps123
 go_wp2_with fail
 refine HN0.out.mono ?_
 rintro e w1 ⟨rfl, rfl⟩
 go_wp2_with fail
 go_loopw [5, 7, 8] (fun v a bb wr => ∃ (pre : List Nat) (o : Option Nat), a = .int .i64 ((o.getD 0 : Nat) : Int) ∧ bb = .bool o.isSome ∧ Hid (WhIt m.used f pre o) ∧ Hid (OwnI wr v (pre.filter (fun a => decide (M.colour a = 0)))) ∧ Hid (∀ b, rowOf v = some b → w.heap.size ≤ b) ∧ Hid (Below w.heap.size w wr)) (fun _ a bb _ => leftB m.used.length a bb)
 case atStart => exact ⟨[], o0, rfl, rfl, HW0, LH (OwnI.nil _), LH (fun b hb => by cases hb), LH (Below.refl _ _)⟩
 case round =>
  clear HN0 HW0 c0
  obtain ⟨pre, o, rfl, rfl, HW, HO, HR, HB⟩ := hrel
  have hs1 := HS.out.below HB.out
  have c0 := hs1.c0
  have c1 := hs1.c1
  clear hs1
  cases o with
  | none =>
   simp only [Option.isSome_none, Option.getD_none]
   have HFin := LH (HP.out _ wr (by have := HW.out; rw [HF.out] at this; rw [this.done (fun i hi => by cases hi)]; exact HO.out) HR.out HB.out)
   go_wp2_with fail
   exact HFin.out
  | some i =>
   simp only [Option.isSome_some, Option.getD_some]
   have hin := HW.out.in_
   have hil : i < m.used.length := by
    rcases Nat.lt_or_ge i m.used.length with c | c
    ·exact c
    ·rw [List.getD_eq_getElem?_getD, List.getElem?_eq_none c] at hin; cases hin
   clear hin
   by_cases hif : i < f + 512
   case neg =>
    have hif' : decide ((i : Int) < (f : Int) + 512) = false := by simp; omega
    have HFin := LH (HP.out _ wr (by have := HW.out; rw [HF.out] at this; rw [this.done (fun j hj => by cases hj; have := HF.out; omega)]; exact HO.out) HR.out HB.out)
    go_wp2_with fail
    exact HFin.out
   have hif' : (i : Int) < (f : Int) + 512 := by omega
   have HN := LH (fun w' (hb' : Below w.heap.size w w') => anext_any (HA.out.below hb') (i + 1))
   have HW' := LH (HW.out.next hif)
   have HL : Hid (leftB m.used.length (.int .i64 (((nextB m.used (i + 1)).getD 0 : Nat) : Int)) (.bool (nextB m.used (i + 1)).isSome) < leftB m.used.length (.int .i64 (i : Int)) (.bool true)) := LH (by
    cases ho : nextB m.used (i + 1) with
    | none => (show 0 < m.used.length + 1 - ((i : Nat) : Int).toNat; omega)
    | some j =>
     have := nextB_is ho
     show m.used.length + 1 - ((j : Nat) : Int).toNat < m.used.length + 1 - ((i : Nat) : Int).toNat
     omega)
   have HCo := LH (mcolour_any (HM.out.below HB.out) i)
   have HLe := LH HW.out.len
   generalize nextB m.used (i + 1) = o at *
   clear hif
   go_wp2_with fail
   refine HCo.out.mono ?_
   rintro e w2 ⟨rfl, rfl⟩
   by_cases hco : M.colour i = 0
   ·have hco' : ((M.colour i : Int) == 0) = true := by simp; omega
    have HO2 : Hid ((pre ++ [i]).filter (fun a => decide (M.colour a = 0)) = pre.filter (fun a => decide (M.colour a = 0)) ++ [i]) := LH (by rw [List.filter_append]; simp [hco])
    have HLn : Hid ((pre.filter (fun a => decide (M.colour a = 0))).length + 1 ≤ 1000000000000) := LH (by have := List.length_filter_le (fun a => decide (M.colour a = 0)) pre; have := HLe.out; omega)
    have HBa := LH (below_alloc wr (.cells #[.int .i64 (i : Int)] 3))
    go_wp2_with (at_builtin; refine wpList_append_newI (ys := [i]) (m := 1) (B := w.heap.size) HO.out HBa.out HR.out (Nat.le_trans HB.out.size HBa.out.size) (RowAt.cells ⟨_, heap_alloc_new _ _, [], rfl⟩) rfl HLn.out rfl rfl rfl rfl ?_; intro v4 w4 ho4 hb4 hr4; have HO4 := LH ho4; have HR4 := LH hr4; have hw4 := (HB.out.trans (HBa.out.mono HB.out.size)).trans hb4; have HW4 := LH hw4; have c04 := (HS.out.below hw4).c0; clear hw4)
    refine (HN.out w4 HW4.out).mono ?_
    rintro e w5 ⟨rfl, rfl⟩
    go_wp2_with fail
    refine ⟨⟨pre ++ [i], o, rfl, rfl, HW', LH (by rw [HO2.out]; exact HO4.out), HR4, HW4⟩, ?_⟩
    exact HL.out
   ·have hco' : ((M.colour i : Int) == 0) = false := by simp; omega
    have HO2 : Hid ((pre ++ [i]).filter (fun a => decide (M.colour a = 0)) = pre.filter (fun a => decide (M.colour a = 0))) := LH (by rw [List.filter_append]; simp [hco])
    go_wp2_with fail
    refine (HN.out wr HB.out).mono ?_
    rintro e w5 ⟨rfl, rfl⟩
    go_wp2_with fail
    refine ⟨⟨pre ++ [i], o, rfl, rfl, HW', LH (by rw [HO2.out]; exact HO.out), HR, HB⟩, ?_⟩
    exact HL.out
end
section
variable {w : World} {A : AF} {n B : Nat} {m : Al} {K : MkF} {M : Mk} {s b : Nat} {vg : Value} {G : List Nat}
theorem SwAt.setB (h : SwAt w s A K b vg G) (x : Nat) : SwAt (w.setCell ⟨s, 2, none⟩ (.int .i64 (x : Int))) s A K x vg G ∧ Touch [s] w (w.setCell ⟨s, 2, none⟩ (.int .i64 (x : Int))) :=
 ⟨⟨by rw [heap_setCell_same w s 2 _ _ _ h.head]; rfl, h.own.keep (fun k hk => Below.heap_setCell _ _ _ k (h.nv k hk)), h.nv⟩, Touch.setCell _ (by simp) _⟩
theorem SwAt.setG (h : SwAt w s A K b vg G) {v' : Value} {G' : List Nat} (ho : OwnI w v' G') (hn : ∀ x, rowOf v' = some x → x ≠ s) : SwAt (w.setCell ⟨s, 3, none⟩ v') s A K b v' G' ∧ Touch [s] w (w.setCell ⟨s, 3, none⟩ v') :=
 ⟨⟨by rw [heap_setCell_same w s 3 _ _ _ h.head]; rfl, ho.keep (fun k hk => Below.heap_setCell _ _ _ k (hn k hk)), hn⟩, Touch.setCell _ (by simp) _⟩
def SNewPost (w : World) (A : AF) (B : Nat) (K : MkF) : Ending → World → Prop := fun e w' => e = .returned (vsw w.heap.size) ∧ SwAt w' w.heap.size A K B (.slice none 0 0) [] ∧ Below w.heap.size w w' ∧ w'.heap.size = w.heap.size + 1
set_option maxHeartbeats 2000000 in
set_option maxRecDepth 20000 in
theorem swnew_any (h : AlAt w A n B m) : Calls Tryz.prog 39 #[valloc A, vmark K] w (SNewPost w A B K) := by
 have HP : Hid (SNewPost w A B K (.returned (vsw w.heap.size)) (w.alloc (.cells #[valloc A, vmark K, .int .i64 (B : Int), .slice none 0 0] 208))) := LH ⟨rfl, ⟨heap_alloc_new _ _, OwnI.nil _, fun x hx => by cases hx⟩, below_alloc _ _, by simp⟩
 generalize SNewPost w A B K = Post at *
 have c0 := h.c0
 have c1 := h.man.c0
 have HT := LH (tlen_any h.man.tab)
 clear h
 go_enter Tryz.func39, Tryz.ntmps39
 go_wp2_with fail
 refine HT.out.mono ?_
 rintro e w1 ⟨rfl, rfl⟩
 go_wp2_with fail
 exact HP.out
set_option maxHeartbeats 2000000 in
set_option maxRecDepth 20000 in
theorem sbegin_any (h : SwAt w s A K b vg G) : Calls Tryz.prog 40 #[vsw s] w fun e w' => e = .returned (.tuple #[]) ∧ SwAt w' s A K 1 (.slice none 0 0) [] ∧ Touch [s] w w' := by
 have c2 := h.c2
 have c3 := h.c3
 have f2 := h.row.frozen 2
 obtain ⟨h1, t1⟩ := h.setB 1
 obtain ⟨h2, t2⟩ := h1.setG (OwnI.nil _) (fun x hx => by cases hx)
 have d3 := h1.c3
 have f3 := h1.row.frozen 3
 have HF : Hid (SwAt ((w.setCell ⟨s, 2, none⟩ (.int .i64 1)).setCell ⟨s, 3, none⟩ (.slice none 0 0)) s A K 1 (.slice none 0 0) []) := LH h2
 have HT := LH (t1.trans t2)
 clear h1 h2 t1 t2 h
 change (w.setCell ⟨s, 2, none⟩ (.int .i64 1)).cell? _ = _ at d3
 change (w.setCell ⟨s, 2, none⟩ (.int .i64 1)).frozen? _ = _ at f3
 go_enter Tryz.func40, Tryz.ntmps40
 go_wp2_with fail
 go_end0
 exact ⟨rfl, HF.out, HT.out⟩
set_option maxHeartbeats 2000000 in
set_option maxRecDepth 20000 in
theorem sblock_any (h : SwAt w s A K b vg G) : Calls Tryz.prog 47 #[vsw s] w fun e w' => e = .returned (.int .i64 (b : Int)) ∧ w = w' := by
 have c2 := h.c2
 clear h
 go_enter Tryz.func47, Tryz.ntmps47
 go_wp2_with fail
 go_ret
 exact ⟨rfl, rfl⟩
set_option maxHeartbeats 2000000 in
set_option maxRecDepth 20000 in
theorem spassed_any (h : SwAt w s A K b vg G) (hb : b ≤ 1000000) (x : Nat) (hx : x ≤ 1000000) : Calls Tryz.prog 48 #[vsw s, .int .i64 (x : Int)] w fun e w' => e = .returned (.bool (decide (x / 512 < b))) ∧ w = w' := by
 have c2 := h.c2
 clear h
 have hd : decide (x / 512 < b) = decide (((x / 512 : Nat) : Int) < (b : Int)) := by rw [Bool.eq_iff_iff]; simp only [decide_eq_true_iff]; omega
 rw [hd]
 have hq : (x : Int).tdiv 512 = ((x / 512 : Nat) : Int) := by rw [Int.tdiv_eq_ediv_of_nonneg (by omega)]; rfl
 go_enter Tryz.func48, Tryz.ntmps48
 go_wp2_with fail
 go_ret
 exact ⟨rfl, rfl⟩
set_option maxHeartbeats 2000000 in
set_option maxRecDepth 20000 in
theorem sdone_any (ha : AlAt w A n B m) (h : SwAt w s A K b vg G) (hb : b ≤ 1000000) (hB : B ≤ 1000000) : Calls Tryz.prog 41 #[vsw s] w fun e w' => e = .returned (.bool (decide (B ≤ b))) ∧ Below w.heap.size w w' := by
 have hd : decide (B ≤ b) = decide ((B : Int) ≤ (b : Int)) := by rw [Bool.eq_iff_iff]; simp only [decide_eq_true_iff]; omega
 rw [hd]
 have c0 := h.c0
 have c2 := h.c2
 have a0 := ha.c0
 have a1 := ha.man.c0
 have HT := LH (fun w' (hb' : Below w.heap.size w w') => tlen_any (ha.below hb').man.tab)
 clear h ha
 have r0 := fun x => later_cell c0 x
 have r2 := fun x => later_cell c2 x
 have s0 := fun x => later_cell a0 x
 have s1 := fun x => later_cell a1 x
 have HP : Hid (∀ w', Below w.heap.size w w' → (fun e w' => e = Ending.returned (.bool (decide ((B : Int) ≤ (b : Int)))) ∧ Below w.heap.size w w') (.returned (.bool (decide ((B : Int) ≤ (b : Int))))) w') := LH (fun w' h => ⟨rfl, h⟩)
 generalize (fun e w' => e = Ending.returned (.bool (decide ((B : Int) ≤ (b : Int)))) ∧ Below w.heap.size w w') = Post at *
 go_enter Tryz.func41, Tryz.ntmps41
 go_upto_region 1 with fail
 refine wp_region_seg (C := fun w' => ∃ x : Later (w), w' = x.val) [.fl [0, 1, 2, 3, 4, 5, 6, 7, 8, 9, 10, 11, 12, 13], .sq [14] true, .sq [15, 16] false] (by kernel_rfl) (by kernel_rfl) (by intro c a d v w h; cases d <;> exact h) ?_
 simp only [segs, picks, List.getElem?_cons_succ, List.getElem?_cons_zero]
 have hC1 := later_drew (w)
 refine wpSeg_fl hC1 ?_
 repeat (first | go_big_quiet_step (fail) | quiet_step (fail))
 refine wpQuiet_nil ?_
 refine wpSeg_sq (fun K hK => ?_)
 go_wp2_with fail
 refine (HT.out _ (later_below hC1)).mono ?_
 rintro e w8 ⟨rfl, rfl⟩
 have HFin := LH (HP.out _ (later_below hC1))
 go_wp2_with fail
 refine hK _ _ (fun _ => hC1) ?_
 clear hK K
 refine wpSeg_last ?_
 go_wp2_with fail
 exact HFin.out
end
section
variable {w wr w' : World} {Q Q' R : List Nat} {A : AF} {n n' B N N' : Nat} {m m' : Al} {K : MkF} {M M' : Mk}
def HsAl (w wr : World) (Q : List Nat) (A : AF) (n B N : Nat) (m : Al) (K : MkF) (M : Mk) (p d : Int) : Ending → World → Prop := fun e w' => ∃ (m' : Al) (R : List Nat) (a er : Int),
 e = .returned (.tuple #[.int .i64 a, .int .i64 er]) ∧ Hs w w' Q (A.re R) (n + 6) B (N + 600000) m' K M ∧ Off Q wr w' ∧ ((∃ x : Nat, a = (x : Int) ∧ er = 0 ∧ Made B m m' x p d) ∨ (m' = m ∧ er ≠ 0))
theorem Hs.alloc (h : Hs w wr Q A n B N m K M) (hB2 : 2 ≤ B) (hB : B ≤ 200) (hn : n < 900000000000) (hN : N ≤ 900000000) (mu p d : Int) :
  Calls Tryz.prog 64 #[valloc A, .int .i64 mu, .int .i64 p, .int .i64 d] wr (HsAl w wr Q A n B N m K M p d) := by
 refine (h.hp.alloc hB2 hB hn hN mu p d).mono ?_
 rintro e w' ⟨m', R, a, er, rfl, hq, ho, hc, _⟩
 have hu : m'.used.length = m.used.length := by
  rcases hc with ⟨x, _, _, hm⟩ | ⟨rfl, _⟩
  ·rw [hm.used, List.length_set]
  ·rfl
 obtain ⟨h1, h2⟩ := h.heap hq ho hu
 exact ⟨m', R, a, er, rfl, h1, h2, hc⟩
def HsFr (w wr : World) (Q : List Nat) (A : AF) (n B N : Nat) (m : Al) (K : MkF) (M : Mk) (x : Nat) : Ending → World → Prop := fun e w' => ∃ (m' : Al) (R : List Nat),
 e = .returned (.int .i64 0) ∧ Hs w w' Q (A.re R) (n + 4) B (N + 500000) m' K M ∧ Off Q wr w' ∧ Gone B m m' x
theorem Hs.free (h : Hs w wr Q A n B N m K M) (hB : B ≤ 200) (hn : n < 900000000000) (hN : N ≤ 900000000) (mu : Int) {x : Nat} (hx : m.used.getD x false = true) :
  Calls Tryz.prog 84 #[valloc A, .int .i64 mu, .int .i64 (x : Int)] wr (HsFr w wr Q A n B N m K M x) := by
 refine (h.hp.free hB hn hN mu x).mono ?_
 rintro e w' ⟨m', R, er, rfl, hq, ho, ⟨a, ha, _, rfl, hg⟩ | ⟨_, _, hc⟩⟩
 ·obtain rfl : x = a := by omega
  obtain ⟨h1, h2⟩ := h.heap hq ho (by rw [hg.used, List.length_set])
  exact ⟨m', R, rfl, h1, h2, hg⟩
 ·rw [hasI_nat, hx] at hc; cases hc
def HsTr (w wr : World) (Q : List Nat) (A : AF) (n B N : Nat) (m : Al) (K : MkF) (M : Mk) (b : Nat) : Ending → World → Prop := fun e w' => ∃ (m' : Al) (R : List Nat) (tb : Bool),
 e = .returned (.tuple #[.bool tb, .int .i64 0]) ∧ Hs w w' Q (A.re R) (n + 5) B (N + 500000) m' K M ∧ Off Q wr w' ∧ ((TrimOk m b ∧ Trimmed B m m' b) ∨ (¬ TrimOk m b ∧ m' = m))
theorem Hs.trim (h : Hs w wr Q A n B N m K M) (hB : B ≤ 200) (hn : n < 900000000000) (hN : N ≤ 900000000) (b : Nat) :
  Calls Tryz.prog 91 #[valloc A, .int .i64 (b : Int)] wr (HsTr w wr Q A n B N m K M b) := by
 refine (atrim_any h.hp.at_ h.hp.ok hB hn hN h.hp.steps b).mono ?_
 rintro e w' (⟨hc, rfl, hg⟩ | ⟨bn, m', hb, _, _, hc, rfl, ht, ho, hg⟩)
 ·obtain ⟨R, hq, hof⟩ := h.hp.go hg h.hp.ok h.hp.lg h.hp.snd (h.hp.steps.mono (Nat.le_add_right N 500000))
  obtain ⟨h1, h2⟩ := h.heap hq hof rfl
  exact ⟨m, R, false, rfl, h1, h2, .inr ⟨hc, rfl⟩⟩
 ·obtain rfl : b = bn := by omega
  obtain ⟨R, hq, hof⟩ := h.hp.go hg ht.ok (h.hp.lg.trim ht) (ht.snd h.hp.snd) ho
  obtain ⟨h1, h2⟩ := h.heap hq hof (by rw [ht.used])
  exact ⟨m', R, true, rfl, h1, h2, .inl ⟨hc, ht⟩⟩
end
structure SwStep (M : Mk) (b : Nat) (m m' : Al) : Prop where
 used : m'.used = offs m.used (whiteL m.used M b)
 list : ∃ m1 : Al, Kin m m1 ∧ m1.used = m'.used ∧ ((TrimOk m1 b ∧ ∀ q, m'.bm.list.getD q default = if q = b then ⟨0, 0, 0⟩ else m1.bm.list.getD q default) ∨ (¬ TrimOk m1 b ∧ m' = m1))
theorem SwAt.reA {w : World} {s b : Nat} {A : AF} {K : MkF} {vg : Value} {G R : List Nat} (h : SwAt w s A K b vg G) : SwAt w s (A.re R) K b vg G := ⟨h.head, h.own, h.nv⟩
structure GoneTo (m m1 : Al) (ws : List Nat) (i : Nat) : Prop where
 used : m1.used = offs m.used (ws.take i)
 kin : Kin m m1
section
variable {B : Nat} {m m1 m2 : Al} {ws : List Nat} {i x : Nat}
theorem GoneTo.start (m : Al) (ws : List Nat) : GoneTo m m ws 0 := ⟨rfl, Kin.refl m⟩
theorem GoneTo.next (h : GoneTo m m1 ws i) (hx : ws[i]? = some x) (hg : Gone B m1 m2 x) : GoneTo m m2 ws (i + 1) := by
 refine ⟨?_, h.kin.trans hg.kin⟩
 rw [hg.used, h.used, ← offs_snoc]
 congr 1
 rw [List.take_add_one, hx]; rfl
theorem GoneTo.in_ (h : GoneTo m m1 ws i) (hx : ws[i]? = some x) (hn : ws.Nodup) (hu : m.used.getD x false = true) : m1.used.getD x false = true := by
 rw [h.used, offs_getD, hu]
 have : x ∉ ws.take i := fun hm => by
  obtain ⟨j, hj, hjx⟩ := List.mem_iff_getElem.1 hm
  rw [List.length_take] at hj
  have hil : i < ws.length := (List.getElem?_eq_some_iff.1 hx).1
  have h1 : ws[j]? = some x := by rw [List.getElem?_eq_getElem (by omega)]; rw [List.getElem_take] at hjx; rw [hjx]
  have := (List.getElem?_inj hil hn).1 (hx.trans h1.symm)
  omega
 simpa using this
end
section
variable {w w3 w4 w5 : World} {A : AF} {n B N : Nat} {m : Al} {K : MkF} {M : Mk} {s b : Nat} {vg v2 : Value} {G G2 Q : List Nat}
theorem SwAt.app (h : SwAt w3 s A K b vg G) (hb : Below w3.heap.size w3 w4) (ho : OwnI w5 v2 G2) (hgr : w4.grownBy w5 (rowOf vg)) (hr : ∀ b, rowOf v2 = some b → rowOf vg = some b ∨ b = w4.heap.size) :
  w5.heap[s]? = w3.heap[s]? ∧ SwAt (w5.setCell ⟨s, 3, none⟩ v2) s A K b v2 G2 ∧ Touch (swL s vg) w3 (w5.setCell ⟨s, 3, none⟩ v2) ∧ ∀ k ∈ swL s v2, k ∈ swL s vg ∨ (w3.heap.size ≤ k ∧ k < (w5.setCell ⟨s, 3, none⟩ v2).heap.size) := by
 have hs3 : s < w3.heap.size := h.lt s (by simp [swL])
 have e : w5.heap[s]? = w3.heap[s]? := (hgr.block s (Nat.lt_of_lt_of_le hs3 hb.size) (fun e => h.nv s e.symm rfl)).trans (hb.block s hs3)
 have hn2 : ∀ x, rowOf v2 = some x → x ≠ s := fun x hx => by
  rcases hr x hx with c | c
  ·exact h.nv x c
  ·have := hb.size; omega
 have hh : SwAt w5 s A K b v2 G2 → SwAt (w5.setCell ⟨s, 3, none⟩ v2) s A K b v2 G2 := fun h => (h.setG h.own h.nv).1
 have ht5 : Touch (swL s vg) w3 w5 := (Touch.ofBelow hb).trans ((grown_touchO hgr).wide (fun k hk => by simp [swL] at hk ⊢; exact .inr hk))
 have hz : (w5.setCell ⟨s, 3, none⟩ v2).heap.size = w5.heap.size := (Touch.setCell (L := [s]) ⟨s, 3, none⟩ (by simp) v2 : Touch [s] w5 _).size |> fun h1 => by simp
 refine ⟨e, ⟨?_, ho.keep (fun k hk => Below.heap_setCell _ _ _ k (hn2 k hk)), hn2⟩, ht5.trans (Touch.setCell _ (by simp [swL]) _), fun k hk => ?_⟩
 ·rw [heap_setCell_same w5 s 3 _ _ _ (e.trans h.head)]; rfl
 ·simp only [swL, List.mem_cons, Option.mem_toList] at hk
  rcases hk with rfl | hk
  ·exact .inl (by simp [swL])
  ·rcases hr k hk with c | c
   ·exact .inl (by simp [swL, c])
   ·exact .inr ⟨by rw [c]; exact hb.size, by rw [hz]; exact ho.lt k hk⟩
theorem Off.chain {Q : List Nat} {w w1 w2 : World} (h : Off Q w w1) (h' : Off Q w1 w2) : Off Q w w2 := by
 obtain ⟨L, h1, h2⟩ := h
 obtain ⟨L', h3, h4⟩ := h'
 exact ⟨L ++ L', (h1.wide (fun b hb => List.mem_append_left _ hb)).trans (h3.wide (fun b hb => List.mem_append_right _ hb)), fun k hk hm => (List.mem_append.1 hm).elim (h2 k hk) (h4 k hk)⟩
structure NearO (Q : List Nat) (w : World) where
 val : World
 off : Off Q w val
instance (Q : List Nat) (w : World) : Nonempty (NearO Q w) := ⟨⟨w, Off.ofBelow (Below.refl _ _)⟩⟩
def SwStepP (w w0 : World) (Q : List Nat) (A : AF) (n B N : Nat) (m : Al) (K : MkF) (M : Mk) (s b : Nat) (G : List Nat) : Ending → World → Prop := fun e w' => ∃ (R : List Nat) (m' : Al) (vg' : Value),
 e = .returned (.int .i64 0) ∧ Hs w w' (Q ++ swL s vg') (A.re R) (n + 200) B (N + 500000 * ((whiteL m.used M b).length + 1)) m' K M ∧ SwAt w' s A K (b + 1) vg' (G ++ whiteL m.used M b) ∧ (∀ k ∈ swL s vg', k ∉ Q) ∧ Off Q w0 w' ∧ SwStep M b m m'
theorem whiteL_len (U : List Bool) (M : Mk) (b : Nat) : (whiteL U M b).length ≤ U.count true := by
 unfold whiteL
 exact Nat.le_trans (List.length_filter_le _ _) (by rw [onesL_length]; exact Nat.le_refl _)
set_option maxHeartbeats 8000000 in
set_option maxRecDepth 100000 in
theorem sstep_any {w0 : World} (hh : Hs w w0 (Q ++ swL s vg) A n B N m K M) (hs : SwAt w0 s A K b vg G) (hd : ∀ k ∈ swL s vg, k ∉ Q) (hb1 : 1 ≤ b) (hbB : b < B) (hB : B ≤ 100) (hn : n ≤ 100000000) (hN : N ≤ 400000000) (hc : m.used.count true ≤ 40) (hG : G.length ≤ 1000000) :
  Calls Tryz.prog 42 #[vsw s] w0 (SwStepP w w0 Q A n B N m K M s b G) := by
 have HUl := LH hh.hp.ok.lenU
 have HWl := LH (whiteL_len m.used M b)
 have HWi : Hid (∀ x ∈ whiteL m.used M b, m.used.getD x false = true) := LH (fun x hx => (whiteL_mem.1 hx).1)
 have HWn := LH (whiteL_nodup m.used M b)
 obtain ⟨ws, hws⟩ : ∃ ws, ws = whiteL m.used M b := ⟨_, rfl⟩
 have HP : Hid (∀ (R : List Nat) (m' : Al) (vg' : Value) w', Hs w w' (Q ++ swL s vg') (A.re R) (n + 200) B (N + 500000 * (ws.length + 1)) m' K M → SwAt w' s A K (b + 1) vg' (G ++ ws) → (∀ k ∈ swL s vg', k ∉ Q) → Off Q w0 w' → SwStep M b m m' → SwStepP w w0 Q A n B N m K M s b G (.returned (.int .i64 0)) w') :=
  LH (fun R m' vg' w' h1 h2 h3 h4 h5 => ⟨R, m', vg', rfl, by rw [← hws]; exact h1, by rw [← hws]; exact h2, h3, h4, h5⟩)
 generalize SwStepP w w0 Q A n B N m K M s b G = Post at *
 have HD := LH (sdone_any hh.hp.at_ hs (by omega) (by omega))
 have hlt' : decide (B ≤ b) = false := by simp; omega
 have HH0 := LH hh
 have HS0 := LH hs
 have HDi := LH hd
 have HGl := LH hG
 rw [← hws] at HWl HWi HWn
 have HWs := LH hws
 obtain ⟨wl, hwl⟩ : ∃ wl, wl = ws.length := ⟨_, rfl⟩
 rw [← hwl] at HWl
 have hwl9 : wl ≤ 40 := Nat.le_trans HWl.out hc
 have HWk := LH hwl
 rw [← hwl] at HP
 clear hh hs hd hG hws hwl hc HWl
 go_enter Tryz.func42, Tryz.ntmps42
 go_wp2_with fail
 refine HD.out.mono ?_
 rw [hlt']
 rintro e w1 ⟨rfl, hb1⟩
 have HH1 := LH (HH0.out.later hb1)
 have HS1 := LH (HS0.out.below hb1)
 have HO1 : Hid (Off Q w0 w1) := LH (Off.ofBelow hb1)
 have c2 := HS1.out.c2
 have HWh := LH (swhite_any HH1.out.hp.at_ HH1.out.mr HS1.out (by rw [HUl.out]; omega) (by omega))
 rw [← HWs.out] at HWh
 clear hb1 hlt' HH0 HS0 HD
 go_wp2_with fail
 refine HWh.out.mono ?_
 rintro e w2 ⟨vw, rfl, how, hrw, hb2⟩
 have HH2 : Hid (Hs w w2 (((rowOf vw).toList ++ Q) ++ swL s vg) A n B N m K M) := LH (HH1.out.more (fun k hk => by
  simp only [List.mem_append, Option.mem_toList] at hk ⊢
  rcases hk with (hk | hk) | hk
  ·exact .inr ⟨hrw k hk, how.lt k hk⟩
  ·exact .inl (.inl hk)
  ·exact .inl (.inr hk)) hb2)
 have HS2 := LH (HS1.out.below hb2)
 have HO2 := LH (HO1.out.chain (Off.ofBelow hb2))
 have HDi2 : Hid (∀ k ∈ swL s vg, k ∉ (rowOf vw).toList ++ Q) := LH (fun k hk hm => by
  rcases List.mem_append.1 hm with c | c
  ·have h1 := HS1.out.lt k hk
   have h2 := hrw k (by simpa using c)
   omega
  ·exact HDi.out k hk c)
 have HOw : Hid (OwnQ w2 ((rowOf vw).toList ++ Q) vw ws) := LH ⟨how, fun b hb => by simp [hb]⟩
 obtain ⟨aw, cw, rfl, hcw, _, _⟩ := how.cells
 rw [← HWk.out]
 clear how hrw hb2 hcw c2 HWh HH1 HS1 HO1
 go_wp2_with fail
 go_loopw [17] (fun i wr => ∃ (j : Nat) (R : List Nat) (m1 : Al) (vg' : Value), j ≤ wl ∧ i = .int .i64 (j : Int) ∧ Hid (Hs w wr (((rowOf (.slice aw ws.length cw)).toList ++ Q) ++ swL s vg') (A.re R) (n + 4 * j) B (N + 500000 * j) m1 K M) ∧ Hid (SwAt wr s A K b vg' (G ++ ws.take j)) ∧ Hid (∀ k ∈ swL s vg', k ∉ (rowOf (.slice aw ws.length cw)).toList ++ Q) ∧ Hid (Off ((rowOf (.slice aw ws.length cw)).toList ++ Q) w2 wr) ∧ Hid (GoneTo m m1 ws j)) (fun i _ => wl - (RowKit.intOf i).toNat)
 case atStart => exact ⟨0, A.R, m, vg, Nat.zero_le _, rfl, HH2, LH (by simpa using HS2.out), HDi2, LH (Off.ofBelow (Below.refl _ _)), LH (GoneTo.start m ws)⟩
 case round =>
  clear HH2 HS2 HDi2
  obtain ⟨j, R, m1, vg', hj, rfl, HH, HS, HDi1, HO, HGo⟩ := hrel
  have hs' := HS.out
  have c0 := hs'.c0
  have c2 := hs'.c2
  clear hs'
  by_cases hlt : j < wl
  case neg =>
   obtain rfl : j = wl := by omega
   have hlt' : decide ((j : Int) < (j : Int)) = false := by simp
   have HTr := LH (fun w' (h' : Below wr.heap.size wr w') => (HH.out.later h').trim (by omega) (by omega) (by omega) b)
   have HSo : Hid (∀ w', Off ((rowOf (.slice aw ws.length cw)).toList ++ Q ++ swL s vg') wr w' → SwAt w' s A K b vg' (G ++ ws.take j)) := LH (fun w' ho => HS.out.off ho (fun k hk => List.mem_append_right _ hk))
   have HSp : Hid (∀ w6, Off ((rowOf (.slice aw ws.length cw)).toList ++ Q ++ swL s vg') wr w6 → ∃ K', Hid (SwAt w6 s A K' b vg' (G ++ ws)) ∧ K' = K) := LH (fun w6 ho6 => ⟨_, LH (by
    have h := HSo.out w6 ho6
    have e : ws.take j = ws := by rw [HWk.out]; exact List.take_length
    rw [e] at h; exact h), rfl⟩)
   have r0 := fun x : NearO ((rowOf (.slice aw ws.length cw)).toList ++ Q ++ swL s vg') wr => (HSo.out x.val x.off).c0
   have r2 := fun x : NearO ((rowOf (.slice aw ws.length cw)).toList ++ Q ++ swL s vg') wr => (HSo.out x.val x.off).c2
   have HOd := LH (later_below (later_drew wr))
   have hC1 : ∃ x : NearO ((rowOf (.slice aw ws.length cw)).toList ++ Q ++ swL s vg') wr, wr.drew = x.val := ⟨⟨_, Off.ofBelow HOd.out⟩, rfl⟩
   go_upto_region 11 with fail
   refine wp_region_seg (C := fun w' => ∃ x : NearO ((rowOf (.slice aw ws.length cw)).toList ++ Q ++ swL s vg') wr, w' = x.val) [.fl [0, 1, 2, 3, 4, 5, 6, 7], .sq [8, 9] false, .fl [10, 11, 12], .sq [13] false] (by kernel_rfl) (by kernel_rfl) (by intro c a d v w h; cases d <;> exact h) ?_
   simp only [segs, picks, List.getElem?_cons_succ, List.getElem?_cons_zero]
   refine wpSeg_fl hC1 ?_
   repeat (first | go_big_quiet_step (fail) | quiet_step (fail))
   refine wpQuiet_nil ?_
   refine wpSeg_sq (fun K hK => ?_)
   go_wp2_with fail
   refine (HTr.out _ HOd.out).mono ?_
   rintro e w6 ⟨m', R6, tb, rfl, hh6, ho6, hcs⟩
   have ho16 := (Off.ofBelow (Q := (rowOf (.slice aw ws.length cw)).toList ++ Q ++ swL s vg') HOd.out).chain ho6
   have hC6 : ∃ x : NearO ((rowOf (.slice aw ws.length cw)).toList ++ Q ++ swL s vg') wr, w6 = x.val := ⟨⟨_, ho16⟩, rfl⟩
   obtain ⟨K', HS6, hK'⟩ := HSp.out w6 ho16
   have HFin : Hid (Post (.returned (.int .i64 0)) (w6.setCell ⟨s, 2, none⟩ (.int .i64 ((b : Int) + 1)))) := LH (by
    obtain ⟨h2, t2⟩ := HS6.out.setB (b + 1)
    rw [AF.re_re] at hh6
    subst hK'
    have hg := hh6.grow (Q' := Q ++ swL s vg') (t2.wide (fun k hk => List.mem_append_right _ (by simp only [List.mem_singleton] at hk; subst hk; simp [swL]))) (fun k hk => .inl (by
     rcases List.mem_append.1 hk with c | c
     ·exact List.mem_append_left _ (List.mem_append_right _ c)
     ·exact List.mem_append_right _ c))
    refine HP.out R6 m' vg' _ (hg.mono (by omega) (by rw [Nat.mul_add]; omega)) h2 (fun k hk hm => HDi1.out k hk (List.mem_append_right _ hm)) ?_ ⟨?_, m1, HGo.out.kin, ?_, ?_⟩
    ·refine ((HO2.out.chain (HO.out.less (fun k hk => List.mem_append_right _ hk))).chain (Off.ofBelow HOd.out)).chain ((ho6.less (fun k hk => List.mem_append_left _ (List.mem_append_right _ hk))).chain ⟨[s], t2, fun k hk hm => ?_⟩)
     simp only [List.mem_singleton] at hm
     subst hm
     exact HDi1.out k (by simp [swL]) (List.mem_append_right _ hk)
    ·have e : m1.used = offs m.used (whiteL m.used M b) := by
      have e : ws.take j = ws := by rw [HWk.out]; exact List.take_length
      rw [HGo.out.used, e, HWs.out]
     rcases hcs with ⟨_, ht⟩ | ⟨_, rfl⟩
     ·rw [ht.used, e]
     ·exact e
    ·rcases hcs with ⟨_, ht⟩ | ⟨_, rfl⟩
     ·rw [ht.used]
     ·rfl
    ·rcases hcs with ⟨h1, ht⟩ | ⟨h1, h2⟩
     ·exact .inl ⟨h1, ht.list⟩
     ·exact .inr ⟨h1, h2⟩)
   have d2 := HS6.out.c2
   have f2 := HS6.out.row.frozen 2
   clear hh6 ho6 ho16 hcs r0 r2 c0 c2 HS HH
   go_wp2_with fail
   refine hK _ _ (fun h => nomatch h) ?_
   clear hK K
   refine wpSeg_fl hC6 ?_
   repeat (first | go_big_quiet_step (fail) | quiet_step (fail))
   refine wpQuiet_nil ?_
   refine wpSeg_last ?_
   go_wp2_with fail
   exact HFin.out
  have hlt' : (j : Int) < (wl : Int) := by omega
  have HOwr := LH (HOw.out.off HO.out)
  have hown := HOwr.out.own
  obtain ⟨x, hx⟩ : ∃ x, ws[j]? = some x := ⟨_, List.getElem?_eq_getElem (by rw [← HWk.out]; exact hlt)⟩
  have hcw : Cells wr aw (ws.map vi) := by
   obtain ⟨a', c', he, h, _, _⟩ := hown.cells
   cases he
   exact h
  obtain ⟨b1, o1, e1, _, hcx⟩ := hcw.at (i := j) (by rw [List.length_map, ← HWk.out]; exact hlt)
  have hcx := hcx j (vi x) (by rw [List.getElem?_map, hx]; rfl)
  have HXu : Hid (m1.used.getD x false = true) := LH (HGo.out.in_ hx HWn.out (HWi.out x (List.mem_of_getElem? hx)))
  have HXs : Hid (G ++ ws.take (j + 1) = (G ++ ws.take j) ++ [x]) := LH (by rw [List.take_add_one, hx, List.append_assoc]; rfl)
  have HGn := LH (fun m2 (hg : Gone B m1 m2 x) => HGo.out.next hx hg)
  have HXl : Hid ((G ++ ws.take j).length + 1 ≤ 1000000000000) := LH (by have := HGl.out; have := HWk.out; rw [List.length_append, List.length_take]; omega)
  have hx9 : x ≤ 1000000 := by
   have h1 := HXu.out
   rcases Nat.lt_or_ge x m1.used.length with c | c
   ·have := HH.out.hp.ok.lenU; omega
   ·rw [List.getD_eq_getElem?_getD, List.getElem?_eq_none c] at h1; cases h1
  have HFr := LH (HH.out.free (by omega) (by omega) (by omega) (-1) HXu.out)
  generalize hga : G ++ ws.take j = Gj at *
  clear hown hcw hx HGo
  subst e1
  go_wp2_with fail
  refine HFr.out.mono ?_
  rintro e w6 ⟨m2, R2, rfl, hh6, ho6, hg6⟩
  rw [AF.re_re] at hh6
  have HS6 := LH (HS.out.off ho6 (fun k hk => List.mem_append_right _ hk))
  have HH6 := LH hh6
  have HO6 := LH (HO.out.chain (ho6.less (fun k hk => List.mem_append_left _ hk)))
  have HG6 := LH (HGn.out m2 hg6)
  have d3 := HS6.out.c3
  clear hh6 ho6 hg6 c0 c2 hcx HS HH HO HGn HFr HXu HOwr
  have HBa := LH (below_alloc w6 (.cells #[.int .i64 (x : Int)] 3))
  have HO1 : Hid (OwnI (w6.alloc (.cells #[.int .i64 (x : Int)] 3)) vg' Gj) := LH ((HS6.out.below HBa.out).own)
  have HSz : Hid (s < w6.heap.size) := LH (HS6.out.lt s (by simp [swL]))
  go_wp2_with (at_builtin; refine wpList_append_ownI (ys := [x]) (m := 1) HO1.out (RowAt.cells ⟨_, heap_alloc_new _ _, [], rfl⟩) rfl HXl.out rfl rfl rfl rfl ?_; intro v4 w7 ho7 hg7 hr7; have HO7 := LH ho7; have HG7 := LH hg7; have HR7 := LH hr7; have hs7 := (HS6.out.app HBa.out ho7 hg7 hr7).1; have cx : w7.cell? ⟨s, 3, none⟩ = some vg' := cell_of_row _ _ 3 _ _ _ (hs7.trans HS6.out.head); have fx : w7.frozen? ⟨s, 3, none⟩ = false := (show RowAt w7 s 208 [valloc A, vmark K, .int .i64 (b : Int), vg'] from ⟨_, hs7.trans HS6.out.head, [], by simp⟩).frozen 3; clear ho7 hg7 hr7 hs7; obtain ⟨a4, c4, e4, _⟩ := HO7.out.cells; generalize (Gj ++ [x]).length = l4 at e4; subst e4)
  obtain ⟨_, hs8, ht8, hk8⟩ := HS6.out.app HBa.out HO7.out HG7.out HR7.out
  have hd8 : ∀ k ∈ swL s (.slice a4 l4 c4), k ∉ (rowOf (.slice (some ⟨b1, o1, none⟩) ws.length cw)).toList ++ Q := fun k hk hm => by
   rcases hk8 k hk with c | c
   ·exact HDi1.out k c hm
   ·have := HH6.out.hp.qlt k (List.mem_append_left _ (List.mem_append_left _ hm)); omega
  have hh8 := HH6.out.grow (Q' := ((rowOf (.slice (some ⟨b1, o1, none⟩) ws.length cw)).toList ++ Q) ++ swL s (.slice a4 l4 c4)) (ht8.wide (fun k hk => List.mem_append_right _ hk)) (fun k hk => by
   rcases List.mem_append.1 hk with c | c
   ·exact .inl (List.mem_append_left _ c)
   ·exact (hk8 k c).imp (fun c => List.mem_append_right _ c) id)
  refine ⟨⟨j + 1, R2, m2, .slice a4 l4 c4, by omega, rfl, LH (hh8.mono (by omega) (by omega)), LH (by rw [HXs.out]; exact hs8), LH hd8, LH (HO6.out.chain ⟨_, ht8, fun k hk hm => HDi1.out k hm hk⟩), HG6⟩, ?_⟩
  simp [RowKit.intOf]; omega
end
structure Ob23 where
 p : Int
 d : Int
 k : Bool
def Ob23.cs (o : Ob23) : List Value := [.int .i64 o.p, .int .i64 o.d, .bool o.k]
theorem Ob23.len (o : Ob23) : (Ob23.cs o).length = 3 := rfl
theorem Marked.start (n most : Nat) : Marked (Mk.new n most) [] := ⟨List.nodup_nil, fun a => by
 have h : ∀ k : Nat, (List.replicate k false).getD a false = false := fun k => by
  rw [List.getD_eq_getElem?_getD, List.getElem?_replicate]; split <;> rfl
 constructor
 ·intro _; simp
 ·intro _
  unfold Mk.colour Mk.new
  dsimp only
  rw [h n]; rfl⟩
theorem Marked.black {M : Mk} {mk : List Nat} (h : Marked M mk) {a : Nat} (ha : a < M.ms.length) (hb : a < M.sc.length) (hn : a ∉ mk) : Marked (M.blacken a) (mk ++ [a]) := by
 refine ⟨List.nodup_append.2 ⟨h.nd, by simp, fun x hx y hy e => ?_⟩, fun x => ?_⟩
 ·simp at hy; subst hy; subst e; exact hn hx
 ·by_cases e : x = a
  ·subst e
   have : (M.blacken x).colour x = 2 := by
    unfold Mk.colour Mk.blacken
    rw [if_pos]
    show (M.sc.set x true).getD x false = true
    rw [List.getD_eq_getElem?_getD, List.getElem?_set_self hb]; rfl
   rw [this]; simp
  ·rw [Mk.blacken_other e, h.is x]; simp [e]
section
variable {w w3 w4 w5 : World} {A : AF} {n B N : Nat} {m : Al} {K : MkF} {M : Mk} {v v2 : Value} {xs : List Nat} {Q : List Nat}
theorem Hs.app (h : Hs w w3 (Q ++ (rowOf v).toList) A n B N m K M) (hb : Below w3.heap.size w3 w4) (ho : OwnI w5 v2 xs) (hgr : w4.grownBy w5 (rowOf v)) (hr : ∀ b, rowOf v2 = some b → rowOf v = some b ∨ b = w4.heap.size) (hd : ∀ b, rowOf v = some b → b ∉ Q) :
  Hs w w5 (Q ++ (rowOf v2).toList) A n B N m K M ∧ Off Q w3 w5 ∧ ∀ b, rowOf v2 = some b → b ∉ Q := by
 have ht : Touch (rowOf v).toList w3 w5 := (Touch.ofBelow hb).trans (grown_touchO hgr)
 refine ⟨h.grow (ht.wide (fun k hk => List.mem_append_right _ hk)) (fun k hk => ?_), ⟨_, ht, fun k hk hm => hd k (by simpa using hm) hk⟩, fun b hb2 hm => ?_⟩
 ·rcases List.mem_append.1 hk with c | c
  ·exact .inl (List.mem_append_left _ c)
  ·rcases hr k (by simpa using c) with e | e
   ·exact .inl (List.mem_append_right _ (by simpa using e))
   ·exact .inr ⟨by rw [e]; exact hb.size, ho.lt k (by simpa using c)⟩
 ·rcases hr b hb2 with e | e
  ·exact hd b e hm
  ·have := h.hp.qlt b (List.mem_append_left _ (List.mem_append_left _ hm))
   have := hb.size
   omega
end
theorem count_set_le (l : List Bool) (a : Nat) : (l.set a true).count true ≤ l.count true + 1 := by
 by_cases ha : a < l.length
 ·rw [List.count_set ha]
  split <;> split <;> omega
 ·rw [List.set_eq_of_length_le (by omega)]; omega
structure Mem23 (w wr : World) (Q : List Nat) (A : AF) (n B N : Nat) (m : Al) (K : MkF) (M : Mk) (vm : Value) (mk : List Nat) (c : Nat) : Prop where
 hs : Hs w wr (Q ++ (rowOf vm).toList) A n B N m K M
 own : OwnI wr vm mk
 apart : ∀ b, rowOf vm = some b → b ∉ Q
 mkd : Marked M mk
 us : ∀ x ∈ mk, m.used.getD x false = true
 cnt : m.used.count true ≤ c
 len : mk.length ≤ c
section
variable {w wr w' : World} {Q Q' : List Nat} {A : AF} {n n' B N N' c c' : Nat} {m m' : Al} {K : MkF} {M M' : Mk} {vm : Value} {mk : List Nat}
theorem Mem23.mono (h : Mem23 w wr Q A n B N m K M vm mk c) (hn : n ≤ n') (hN : N ≤ N') (hc : c ≤ c') : Mem23 w wr Q A n' B N' m K M vm mk c' :=
 ⟨h.hs.mono hn hN, h.own, h.apart, h.mkd, h.us, Nat.le_trans h.cnt hc, Nat.le_trans h.len hc⟩
theorem Mem23.more (h : Mem23 w wr Q A n B N m K M vm mk c) (hQ : ∀ k ∈ Q', k ∈ Q ∨ (wr.heap.size ≤ k ∧ k < w'.heap.size)) (hb : Below wr.heap.size wr w') : Mem23 w w' Q' A n B N m K M vm mk c :=
 ⟨h.hs.more (fun k hk => (List.mem_append.1 hk).elim (fun c => (hQ k c).imp (fun c => List.mem_append_left _ c) id) (fun c => .inl (List.mem_append_right _ c))) hb, h.own.keep (fun b hb' => hb.block b (h.own.lt b hb')),
  fun b hb hm => (hQ b hm).elim (h.apart b hb) (fun c => by have := h.own.lt b hb; omega), h.mkd, h.us, h.cnt, h.len⟩
theorem Mem23.less (h : Mem23 w wr Q A n B N m K M vm mk c) (hQ : ∀ k ∈ Q', k ∈ Q) : Mem23 w wr Q' A n B N m K M vm mk c :=
 h.more (fun k hk => .inl (hQ k hk)) (Below.refl _ _)
theorem Mem23.alloc (h : Mem23 w wr Q A n B N m K M vm mk c) (hB2 : 2 ≤ B) (hB : B ≤ 200) (hn : n < 900000000000) (hN : N ≤ 900000000) (mu p d : Int) :
  Calls Tryz.prog 64 #[valloc A, .int .i64 mu, .int .i64 p, .int .i64 d] wr fun e w' => ∃ (m' : Al) (R : List Nat) (a er : Int),
   e = .returned (.tuple #[.int .i64 a, .int .i64 er]) ∧ Mem23 w w' Q (A.re R) (n + 6) B (N + 600000) m' K M vm mk (c + 1) ∧ Off Q wr w' ∧ ((∃ x : Nat, a = (x : Int) ∧ er = 0 ∧ m'.used.getD x false = true ∧ x < m'.used.length ∧ x ∉ mk) ∨ er ≠ 0) := by
 refine (h.hs.alloc hB2 hB hn hN mu p d).mono ?_
 rintro e w' ⟨m', R, a, er, rfl, hh, ho, hc⟩
 have hown : OwnI w' vm mk := h.own.keep (fun b hb => ho.block (List.mem_append_right _ (by simpa using hb)) (h.own.lt b hb))
 refine ⟨m', R, a, er, rfl, ⟨hh, hown, h.apart, h.mkd, fun x hx => ?_, ?_, Nat.le_succ_of_le h.len⟩, ho.less (fun k hk => List.mem_append_left _ hk), ?_⟩
 ·rcases hc with ⟨y, _, _, hm⟩ | ⟨rfl, _⟩
  ·exact (hm.others h.hs.hp.ok (h.us x hx)).1
  ·exact h.us x hx
 ·rcases hc with ⟨y, _, _, hm⟩ | ⟨rfl, _⟩
  ·rw [hm.used]; exact Nat.le_trans (count_set_le _ _) (Nat.succ_le_succ h.cnt)
  ·exact Nat.le_succ_of_le h.cnt
 ·rcases hc with ⟨y, e1, e2, hm⟩ | ⟨_, e⟩
  ·have hl := hm.lt
   refine .inl ⟨y, e1, e2, ?_, ?_, fun hy => ?_⟩
   ·rw [hm.used, List.getD_eq_getElem?_getD, List.getElem?_set_self hl]; rfl
   ·rw [hm.used, List.length_set]; exact hl
   ·have := hm.new
    rw [h.us y hy] at this; cases this
  ·exact .inr e
end
theorem results_cell_row4 {P : Program} {fn : Func} {p u z y : Tmp} {ty : TypeId} (h : fn.results = #[.cell p ty, .tmp u, .tmp z, .tmp y]) (tmps : Array Value) (w : World) (g : Nat) (t : TypeId) (cs : Array Value) (fr : Nat × Nat) (d : TypeDesc)
  (hp : tmps.getD p undef = .pointer (some ⟨g, 0, none⟩)) (hg : w.heap[g]? = some (.cells cs t fr))
  (hu : P.underlying ty = some d) (hd : (match d with | .struct _ | .array _ _ => true | _ => false) = true) (hi : (P.info? ty).map (·.size) = some cs.size) :
  (results fn tmps).run P w = .ok (.tuple #[.agg cs, tmps.getD u undef, tmps.getD z undef, tmps.getD y undef]) w := by
 have hp' : tmps[p]?.getD undef = .pointer (some ⟨g, 0, none⟩) := by simpa using hp
 simp [results, h, hp', asAddr, run_loadVar_row w g t ty cs fr d hg hu hd hi]
def Made23 (w : World) (n8 : Int) : Ending → World → Prop := fun e w' => ∃ (B : Nat) (A : AF) (n : Nat) (m : Al) (K : MkF) (M : Mk) (a : Option Addr) (l cap : Nat) (mk : List Nat), 2 ≤ B ∧ B ≤ 8 ∧ (B : Int) = 2 + n8.tmod 7 ∧
 e = .returned (.tuple #[vworld A (.slice none 0 0), vmark K, .slice a l cap, .bool true]) ∧ Mem23 w w' [] A n B 25000000 m K M (.slice a l cap) mk 40 ∧ n ≤ 2000000 ∧ l = mk.length
set_option maxHeartbeats 8000000 in
set_option maxRecDepth 100000 in
theorem made23_any (n8 : Int) (hn8 : 0 ≤ n8 ∧ n8 ≤ 255) (a : Option Addr) (mm cap : Nat) (s : List Ob23) (hm : s.length = mm) (w : World) (hcs : Cells w a (recs Ob23.cs s)) (hmm : mm ≤ maxLen) :
  Calls Tryz.prog 38 #[.int .u8 n8, .slice a mm cap] w (Made23 w n8) := by
 unfold maxLen at hmm
 obtain ⟨b0, hb0, hb05⟩ : ∃ b0 : Nat, n8.tmod 7 = (b0 : Int) ∧ b0 ≤ 6 := by
  obtain ⟨k, rfl⟩ := Int.eq_ofNat_of_zero_le hn8.1
  refine ⟨k % 7, ?_, by omega⟩
  rw [Int.tmod_eq_emod_of_nonneg (by omega)]; rfl
 obtain ⟨B, hB⟩ : ∃ B, B = 2 + b0 := ⟨_, rfl⟩
 have hB2 : 2 ≤ B := by omega
 have hB8 : B ≤ 8 := by omega
 have hBI : (2 : Int) + (b0 : Int) = (B : Int) := by omega
 clear hB
 have HM := LH hm
 have HCS := LH hcs
 clear hm hcs
 have HP : Hid (∀ (A : AF) (n : Nat) (m : Al) (K : MkF) (M : Mk) (a : Option Addr) (l cap : Nat) (mk : List Nat) w', Mem23 w w' [] A n B 25000000 m K M (.slice a l cap) mk 40 → n ≤ 2000000 → l = mk.length → Made23 w n8 (.returned (.tuple #[vworld A (.slice none 0 0), vmark K, .slice a l cap, .bool true])) w') := LH (fun A n m K M a l cap mk w' h1 h2 h3 => ⟨B, A, n, m, K, M, a, l, cap, mk, hB2, hB8, by rw [hb0]; exact hBI.symm, rfl, h1, h2, h3⟩)
 generalize Made23 w n8 = Post at *
 have HB0 := LH (below_alloc w (.cells zeroW 74))
 have HR0 : Hid (RowX (w.alloc (.cells zeroW 74)) ⟨w.heap.size, 74, zeroW.toList, true⟩) := LH ⟨_, heap_alloc_new _ _, [], by simp, by simp⟩
 obtain ⟨q, hq⟩ : ∃ q, q = w.heap.size := ⟨_, rfl⟩
 go_enter Tryz.func38, Tryz.ntmps38
 go_upto_region 1 with fail
 rw [show (#[.pointer none, .pointer none, .slice none 0 0] : Array Value) = zeroW from rfl]
 have HQ0 : Hid ((w.alloc (.cells zeroW 74)).heap.size = q + 1) := LH (by simp [hq])
 rw [← hq] at HR0 ⊢
 have HQ := LH hq
 generalize w.alloc _ = w0 at *
 clear hq
 go_wp2_with fail
 refine (begun20_any B hB2 (by omega) _).mono ?_
 rintro e w1 ⟨A, n, rfl, ha, hn, hA, hb⟩
 have hh := Hq.begun hB2 (by omega) ha hA HB0.out hb (Q := [q]) (by intro k hk; simp at hk; have := HQ0.out; omega)
 obtain ⟨p, hp⟩ : ∃ p, p = w1.heap.size := ⟨_, rfl⟩
 have HH : Hid (Hq w (w1.alloc (.cells #[valloc A, vdev A.X.F, .slice none 0 0] 74)) [q, p] A n B 201000 (al0 B)) := LH (hh.more (fun k hk => by
  simp only [List.mem_cons, List.not_mem_nil, or_false] at hk
  rcases hk with rfl | rfl
  ·exact .inl (by simp)
  ·exact .inr (by simp [hp])) (below_alloc _ _))
 have HR1 : Hid (MemR w.heap.size (w1.alloc (.cells #[valloc A, vdev A.X.F, .slice none 0 0] 74)) [⟨q, 74, zeroW.toList, true⟩, ⟨p, 74, [valloc A, vdev A.X.F, .slice none 0 0], true⟩]) := LH (by
  have h0 : MemR w.heap.size w1 [⟨q, 74, zeroW.toList, true⟩] := ⟨by
   intro x hx
   simp at hx; subst hx
   exact HR0.out.keep (hb.block q (by have := HQ0.out; omega)), by intro x hx; simp at hx; subst hx; have := HQ.out; exact Nat.le_of_eq this.symm, by simp, hh.below.size⟩
  have := h0.alloc #[valloc A, vdev A.X.F, .slice none 0 0] 74
  rw [← hp] at this
  exact this)
 have HN := LH hn
 have HQb : Hid (∀ k ∈ [q, p], w.heap.size ≤ k) := LH (by
  intro k hk
  simp only [List.mem_cons, List.not_mem_nil, or_false] at hk
  rcases hk with rfl | rfl
  ·exact HR1.out.gbase 0 rfl
  ·exact HR1.out.gbase 1 rfl)
 clear ha hA hb hh hn HR0 HB0
 go_upto_region 2 with fail
 rw [← hp]
 generalize w1.alloc _ = w2 at *
 clear hp HQ0 hb0 hb05 hBI
 have c0 := HR1.out.cell 1 0 rfl rfl
 go_wp2_with fail
 refine (mnew_any HH.out.at_ (by rw [HH.out.ok.lenU]; omega) 3 (by omega)).mono ?_
 rintro e w3 ⟨K, rfl, hma, hb3, hk3⟩
 have HS3 : Hid (Mem23 w w3 [q, p] A n B 201000 (al0 B) K (Mk.new (al0 B).used.length (3 : Int).toNat) (.slice none 0 0) [] 0) := LH ⟨(Hs.new HH.out HQb.out hb3 hma hk3).less (fun k hk => by
   have : rowOf (.slice none 0 0) = none := rfl
   rw [this] at hk; simpa using hk), OwnI.nil _, fun b hb => (by cases hb), Marked.start _ _, fun x hx => (by cases hx), by
  rw [← onesL_length]
  have h : ∀ a ∈ onesL (al0 B).used, False := fun a ha => (by have := full_begun B a (mem_onesL.1 ha); cases this)
  have : onesL (al0 B).used = [] := List.eq_nil_iff_forall_not_mem.2 (fun a ha => h a ha)
  rw [this]; simp, by simp⟩
 have HR3 := LH (HR1.out.later hb3)
 clear hma hb3 hk3 c0 HH HR1
 generalize Mk.new (al0 B).used.length (3 : Int).toNat = M0 at *
 generalize al0 B = m0 at *
 go_wp2_with fail
 go_loopw [11, 12] (fun vm i wr => ∃ (k : Nat) (R : List Nat) (m : Al) (vk : Value) (M : Mk) (sa : Option Addr) (l sc : Nat) (mk : List Nat), k ≤ mm ∧ k ≤ 40 ∧ vm = .slice sa l sc ∧ i = .int .i64 (k : Int) ∧ Hid (Mem23 w wr [q, p] (A.re R) (n + 6 * k) B (201000 + 600000 * k) m (K.re vk) M (.slice sa l sc) mk k) ∧ Hid (l = mk.length) ∧ Hid (MemR w.heap.size wr [⟨q, 74, zeroW.toList, true⟩, ⟨p, 74, [valloc A, vdev A.X.F, .slice none 0 0], true⟩])) (fun _ i _ => 40 - (RowKit.intOf i).toNat)
 case atStart => exact ⟨0, A.R, m0, K.v, M0, none, 0, 0, [], Nat.zero_le _, Nat.zero_le _, rfl, rfl, HS3, LH rfl, HR3⟩
 case round =>
  clear HS3 HR3
  obtain ⟨k, R, m, vk, M, sa, l, sc, mk, hkm, hk40, rfl, rfl, HS, HL, HMr⟩ := hrel
  have hN := HN.out
  by_cases hlt : k < mm ∧ k < 40
  case neg =>
   have hor : (k : Int) = (mm : Int) ∨ ((k : Int) < (mm : Int) ∧ (k : Int) = 40) := by omega
   have HEnd : Hid (∀ w6, Touch [q] wr w6 → Post (.returned (.tuple #[vworld A (.slice none 0 0), vmark K, .slice sa l sc, .bool true])) w6) := LH (fun w6 ht => HP.out (A.re R) (n + 6 * k) m (K.re vk) M sa l sc mk w6 (by
    have h := HS.out
    have ho : Off (rowOf (.slice sa l sc)).toList wr w6 := ⟨[q], ht, fun x hx hm => by
     have := h.apart x (by simpa using hx)
     simp at hm
     exact this (by simp [hm])⟩
    exact Mem23.mono ⟨(h.hs.grow (Q' := (rowOf (.slice sa l sc)).toList) (ht.wide (by simp)) (fun x hx => .inl (by simp at hx ⊢; exact .inr (.inr hx)))), h.own.keep (fun b hb => ho.block (by simp [hb]) (h.own.lt b hb)), fun b hb => by simp, h.mkd, h.us, h.cnt, h.len⟩ (Nat.le_refl _) (by omega) hk40) (by omega) HL.out)
   clear hlt
   rcases hor with h1 | ⟨h1, h2⟩
   ·obtain rfl : k = mm := by omega
    have hlt' : decide ((k : Int) < (k : Int)) = false := by simp
    clear h1
    go_wp2_with (first
     | (refine wpList_load_r aggW HMr.out 1 rfl rfl rfl rfl rfl ?_)
     | (refine wpList_store_r aggW HMr.out 0 rfl rfl rfl rfl rfl rfl rfl rfl ?_; intro w6 h6 ht6; have H6 := LH h6; have HT6 := LH ht6; clear h6 ht6))
    refine bodyPost_ret (results_cell_row4 (p := 4) (u := 5) (z := 6) (y := 7) rfl _ _ _ _ _ _ _ rfl (H6.out.exact 0 rfl) Tryz.underlying74 rfl (by kernel_rfl)) rfl ?_
    exact HEnd.out _ HT6.out
   ·obtain rfl : k = 40 := by omega
    clear h2
    go_wp2_with (first
     | (refine wpList_load_r aggW HMr.out 1 rfl rfl rfl rfl rfl ?_)
     | (refine wpList_store_r aggW HMr.out 0 rfl rfl rfl rfl rfl rfl rfl rfl ?_; intro w6 h6 ht6; have H6 := LH h6; have HT6 := LH ht6; clear h6 ht6))
    refine bodyPost_ret (results_cell_row4 (p := 4) (u := 5) (z := 6) (y := 7) rfl _ _ _ _ _ _ _ rfl (H6.out.exact 0 rfl) Tryz.underlying74 rfl (by kernel_rfl)) rfl ?_
    exact HEnd.out _ HT6.out
  obtain ⟨h1, h2⟩ := hlt
  have h1' : (k : Int) < (mm : Int) := by omega
  have h2' : (k : Int) < 40 := by omega
  have hkl : k < s.length := by rw [HM.out]; exact h1
  obtain ⟨b1, o1, rfl, hbl, hcell⟩ := recs_cells Ob23.len (by decide) (⟨0, 0, false⟩ : Ob23) (HCS.out.below HS.out.hs.below (Nat.le_refl _)) hkl
  generalize s.getD k ⟨0, 0, false⟩ = o at *
  obtain ⟨op, od, ok⟩ := o
  have e0 : wr.cell? ⟨b1, o1 + k * 3, none⟩ = some (.int .i64 op) := hcell 0 _ rfl
  have e1 : wr.cell? ⟨b1, o1 + k * 3 + 1, none⟩ = some (.int .i64 od) := hcell 1 _ rfl
  have e2 : wr.cell? ⟨b1, o1 + k * 3 + 2, none⟩ = some (.bool ok) := hcell 2 _ rfl
  have HLk : Hid (mk.length ≤ k) := LH HS.out.len
  obtain ⟨ob, hob⟩ : ∃ ob, ob = wr.heap.size := ⟨_, rfl⟩
  have HSa : Hid (Mem23 w (wr.alloc (.cells #[.int .i64 op, .int .i64 od, .bool ok] 205)) [q, p, ob] (A.re R) (n + 6 * k) B (201000 + 600000 * k) m (K.re vk) M (.slice sa l sc) mk k) := LH (HS.out.more (fun x hx => by
   simp only [List.mem_cons, List.not_mem_nil, or_false] at hx
   rcases hx with rfl | rfl | rfl
   ·exact .inl (by simp)
   ·exact .inl (by simp)
   ·exact .inr (by simp [hob])) (below_alloc _ _))
  have HMra : Hid (MemR w.heap.size (wr.alloc (.cells #[.int .i64 op, .int .i64 od, .bool ok] 205)) [⟨q, 74, zeroW.toList, true⟩, ⟨p, 74, [valloc A, vdev A.X.F, .slice none 0 0], true⟩, ⟨ob, 205, [.int .i64 op, .int .i64 od, .bool ok], true⟩]) := LH (by
   have h := HMr.out.alloc #[.int .i64 op, .int .i64 od, .bool ok] 205
   rw [← hob] at h
   exact h)
  clear hcell hkl
  go_upto_region 12 with fail
  rw [← hob]
  generalize wr.alloc _ = wa at *
  clear e0 e1 e2 hob HS HMr
  have c0 := HMra.out.cell 1 0 rfl rfl
  have d0 := HMra.out.cell 2 0 rfl rfl
  have d1 := HMra.out.cell 2 1 rfl rfl
  obtain ⟨t1, ht1⟩ : ∃ t1, t1 = max op 0 := ⟨_, rfl⟩
  obtain ⟨t2, ht2⟩ : ∃ t2, t2 = min t1 20 := ⟨_, rfl⟩
  obtain ⟨t3, ht3⟩ : ∃ t3, t3 = max od 0 := ⟨_, rfl⟩
  obtain ⟨t4, ht4⟩ : ∃ t4, t4 = min t3 1500 := ⟨_, rfl⟩
  have HT1 := LH ht1.symm
  have HT2 := LH ht2.symm
  have HT3 := LH ht3.symm
  have HT4 := LH ht4.symm
  have HAl := LH (fun mu => HSa.out.alloc hB2 (by omega) (by omega) (by omega) mu t2 t4)
  clear ht1 ht2 ht3 ht4
  go_wp2_with fail
  rw [HT1.out, HT2.out, HT3.out, HT4.out]
  refine (HAl.out _).mono ?_
  rintro e w5 ⟨m', R', ra, re, rfl, hs, ho, hc⟩
  have HMr5 := LH (HMra.out.off ho (by simp))
  have HS5 : Hid (Mem23 w w5 [q, p, ob] (A.re R') (n + 6 * (k + 1)) B (201000 + 600000 * (k + 1)) m' (K.re vk) M (.slice sa l sc) mk (k + 1)) := LH (by rw [AF.re_re] at hs; exact hs.mono (by omega) (by omega) (Nat.le_refl _))
  have d2 := HMr5.out.cell 2 2 rfl rfl
  have HStay : Hid (Mem23 w w5 [q, p] (A.re R') (n + 6 * (k + 1)) B (201000 + 600000 * (k + 1)) m' (K.re vk) M (.slice sa l sc) mk (k + 1)) := LH (HS5.out.less (by intro x hx; simp at hx ⊢; rcases hx with rfl | rfl <;> simp))
  have HMs : Hid (MemR w.heap.size w5 [⟨q, 74, zeroW.toList, true⟩, ⟨p, 74, [valloc A, vdev A.X.F, .slice none 0 0], true⟩]) := LH (HMr5.out.upto 2)
  clear hs ho d0 d1 HAl c0 HSa HMra HT1 HT2 HT3 HT4
  have hstep : 40 - (k + 1) < 40 - k := by omega
  rcases hc with ⟨x, rfl, rfl, hux, hxl, hxn⟩ | hre
  ·cases ok with
   | false =>
    go_wp2_with fail
    refine ⟨⟨k + 1, R', m', vk, M, sa, l, sc, mk, by omega, by omega, rfl, vint (by omega), HStay, HL, HMs⟩, ?_⟩
    simp [RowKit.intOf]; omega
   | true =>
    go_wp2_with fail
    refine (mblacken_any HS5.out.hs.ma x).mono ?_
    rintro e w6 ⟨rfl, hg6⟩
    obtain ⟨v6, hh6, ho6⟩ := HS5.out.hs.go hg6
    have HH6 : Hid (Hs w w6 ([q, p, ob] ++ (rowOf (.slice sa l sc)).toList) (A.re R') (n + 6 * (k + 1)) B (201000 + 600000 * (k + 1)) m' (K.re v6) (M.blacken x)) := LH hh6
    have HO6 : Hid (OwnI w6 (.slice sa l sc) mk) := LH (HS5.out.own.keep (fun b hb => ho6.block (List.mem_append_right _ (by simpa using hb)) (HS5.out.own.lt b hb)))
    have HMr6 := LH (HMs.out.off (ho6.less (Q' := [q, p]) (by intro y hy; simp at hy ⊢; rcases hy with rfl | rfl <;> simp)) (by simp))
    have HBa := LH (below_alloc w6 (.cells #[.int .i64 (x : Int)] 3))
    have HO1 : Hid (OwnI (w6.alloc (.cells #[.int .i64 (x : Int)] 3)) (.slice sa l sc) mk) := LH (HO6.out.keep (fun b hb => HBa.out.block b (HO6.out.lt b hb)))
    have HXl : Hid (mk.length + 1 ≤ 1000000000000) := LH (by have := HS5.out.len; omega)
    have HMk : Hid (Marked (M.blacken x) (mk ++ [x])) := LH (HS5.out.mkd.black (by rw [HS5.out.hs.lm]; exact hxl) (by rw [HS5.out.hs.ls]; exact hxl) hxn)
    have HUx := LH hux
    clear hg6 hh6 ho6 d2 hux hxl hxn HStay HMr5
    go_wp2_with (at_builtin; refine wpList_append_ownI (ys := [x]) (m := 1) HO1.out (RowAt.cells ⟨_, heap_alloc_new _ _, [], rfl⟩) rfl HXl.out rfl rfl rfl rfl ?_; intro v7 w7 ho7 hg7 hr7; have HO7 := LH ho7; have HG7 := LH hg7; have HR7 := LH hr7; clear ho7 hg7 hr7)
    obtain ⟨a7, c7, rfl, _⟩ := HO7.out.cells
    obtain ⟨hh8, ho8, hd8⟩ := HH6.out.app HBa.out HO7.out HG7.out HR7.out HS5.out.apart
    have hlen := HS5.out.len
    have hnew : mk.length + 1 ≤ k + 1 := by
     have := HLk.out; omega
    have hM8 : Mem23 w w7 [q, p, ob] (A.re R') (n + 6 * (k + 1)) B (201000 + 600000 * (k + 1)) m' (K.re v6) (M.blacken x) (.slice a7 (mk ++ [x]).length c7) (mk ++ [x]) (k + 1) :=
     ⟨hh8, HO7.out, hd8, HMk.out, fun y hy => (List.mem_append.1 hy).elim (HS5.out.us y) (fun c => by simp at c; subst c; exact HUx.out), HS5.out.cnt, by simpa using hnew⟩
    refine ⟨⟨k + 1, R', m', v6, M.blacken x, a7, (mk ++ [x]).length, c7, mk ++ [x], by omega, by omega, rfl, vint (by omega), LH (hM8.less (by intro y hy; simp at hy ⊢; rcases hy with rfl | rfl <;> simp)), LH rfl, LH (HMr6.out.off (ho8.less (Q' := [q, p]) (by intro y hy; simp at hy ⊢; rcases hy with rfl | rfl <;> simp)) (by simp))⟩, ?_⟩
    simp [RowKit.intOf]; omega
  ·have hre' : (re == 0) = false := by simpa using hre
   go_wp2_with fail
   refine ⟨⟨k + 1, R', m', vk, M, sa, l, sc, mk, by omega, by omega, rfl, vint (by omega), HStay, HL, HMs⟩, ?_⟩
   simp [RowKit.intOf]; omega
theorem take_contains {ys : List Nat} {k y x : Nat} (h : ys[k]? = some y) : (ys.take (k + 1)).contains x = ((ys.take k).contains x || y == x) := by
 rw [List.take_add_one, h]
 simp only [Option.toList_some]
 rw [Bool.eq_iff_iff]
 simp only [List.contains_iff_mem, List.mem_append, List.mem_singleton, Bool.or_eq_true, beq_iff_eq]
 constructor
 ·rintro (h | h)
  ·exact .inl h
  ·exact .inr h.symm
 ·rintro (h | h)
  ·exact .inl h
  ·exact .inr h.symm
theorem take_filter {xs : List Nat} {i x : Nat} {f : Nat → Bool} (h : xs[i]? = some x) : (xs.take (i + 1)).filter f = (xs.take i).filter f ++ (if f x then [x] else []) := by
 rw [List.take_add_one, h, List.filter_append]
 congr 1
 cases hf : f x <;> simp [hf]
set_option maxHeartbeats 8000000 in
set_option maxRecDepth 100000 in
theorem without_any {w : World} {a1 a2 : Option Addr} {l1 c1 l2 c2 : Nat} {xs ys : List Nat} (h1 : Cells w a1 (xs.map vi)) (h2 : Cells w a2 (ys.map vi)) (e1 : l1 = xs.length) (e2 : l2 = ys.length) (s1 : l1 ≤ 100000) (s2 : l2 ≤ 100000) :
    Calls Tryz.prog 43 #[.slice a1 l1 c1, .slice a2 l2 c2] w (NewI w (xs.filter (fun x => !ys.contains x))) := by
  have HP : Hid (∀ v w', OwnI w' v (xs.filter (fun x => !ys.contains x)) → (∀ b, rowOf v = some b → w.heap.size ≤ b) → Below w.heap.size w w' → NewI w (xs.filter (fun x => !ys.contains x)) (.returned v) w') := LH (fun v w' h1 h2 h3 => ⟨v, rfl, h1, h2, h3⟩)
  generalize NewI w (xs.filter (fun x => !ys.contains x)) = Post at *
  have H1 := LH h1
  have H2 := LH h2
  have E1 := LH e1
  have E2 := LH e2
  clear h1 h2 e1 e2
  go_enter Tryz.func43, Tryz.ntmps43
  go_wp2_with fail
  go_loopw [5, 6] (fun v iv wr => ∃ i : Nat, i ≤ l1 ∧ iv = .int .i64 (i : Int) ∧ Hid (OwnI wr v ((xs.take i).filter (fun x => !ys.contains x))) ∧ Hid (∀ b, rowOf v = some b → w.heap.size ≤ b) ∧ Hid (Below w.heap.size w wr)) (fun _ iv _ => l1 - (RowKit.intOf iv).toNat)
  case atStart => exact ⟨0, Nat.zero_le _, rfl, LH (OwnI.nil _), LH (fun b hb => by cases hb), LH (Below.refl _ _)⟩
  case round =>
    obtain ⟨i, hi, rfl, HO, HR, HB⟩ := hrel
    by_cases hlt : i < l1
    case neg =>
      obtain rfl : i = l1 := by omega
      have hlt' : decide ((i : Int) < (i : Int)) = false := by simp
      have HFin := LH (HP.out _ wr (by have h := HO.out; rw [E1.out, List.take_length] at h; exact h) HR.out HB.out)
      go_wp2_with fail
      exact HFin.out
    have hlt' : (i : Int) < (l1 : Int) := by omega
    obtain ⟨x, hx⟩ : ∃ x, xs[i]? = some x := ⟨_, List.getElem?_eq_getElem (by rw [← E1.out]; exact hlt)⟩
    obtain ⟨b1, o1, q1, _, hc1⟩ := (H1.out.below HB.out (Nat.le_refl _)).at (i := i) (by rw [List.length_map, ← E1.out]; exact hlt)
    have hc1 := hc1 i (vi x) (by rw [List.getElem?_map, hx]; rfl)
    have HC1 := LH hc1
    have HX : Hid ((xs.take (i + 1)).filter (fun x => !ys.contains x) = (xs.take i).filter (fun x => !ys.contains x) ++ (if !ys.contains x then [x] else [])) := LH (take_filter hx)
    have HLn : Hid (((xs.take i).filter (fun x => !ys.contains x)).length + 1 ≤ 1000000000000) := LH (by have := List.length_filter_le (fun x => !ys.contains x) (xs.take i); rw [List.length_take] at this; omega)
    generalize (xs.take i).filter (fun x => !ys.contains x) = out at *
    subst q1
    rename World => wo
    rename Value => ov
    clear hx hc1
    go_wp2_with fail
    go_loopw [7, 8] (fun bv kv wr2 => ∃ k : Nat, k ≤ l2 ∧ bv = .bool ((ys.take k).contains x) ∧ kv = .int .i64 (k : Int) ∧ Hid (Below wo.heap.size wo wr2)) (fun _ kv _ => l2 - (RowKit.intOf kv).toNat)
    case atStart => exact ⟨0, Nat.zero_le _, by simp, rfl, LH (Below.refl _ _)⟩
    case round =>
      obtain ⟨k, hk, rfl, rfl, HB2⟩ := hrel
      have HBr : Hid (Below w.heap.size w wr) := LH (HB.out.trans (HB2.out.mono HB.out.size))
      have cx : wr.cell? ⟨b1, o1 + i, none⟩ = some (vi x) := by rw [HB2.out.cell (World.block_lt_of_cell? _ _ HC1.out)]; exact HC1.out
      have HOr := LH (HO.out.keep (fun b hb => HB2.out.block b (HO.out.lt b hb)))
      by_cases hkl : k < l2
      case pos =>
        have hkl' : (k : Int) < (l2 : Int) := by omega
        obtain ⟨y, hy⟩ : ∃ y, ys[k]? = some y := ⟨_, List.getElem?_eq_getElem (by rw [← E2.out]; exact hkl)⟩
        obtain ⟨b2, o2, q2, _, hc2⟩ := (H2.out.below HBr.out (Nat.le_refl _)).at (i := k) (by rw [List.length_map, ← E2.out]; exact hkl)
        have cy := hc2 k (vi y) (by rw [List.getElem?_map, hy]; rfl)
        have HT : Hid ((ys.take (k + 1)).contains x = ((ys.take k).contains x || y == x)) := LH (take_contains hy)
        have HBy : Hid ((((y : Int) == (x : Int)) : Bool) = (y == x)) := LH (by rw [Bool.eq_iff_iff]; simp only [beq_iff_eq]; omega)
        subst q2
        generalize (ys.take k).contains x = bk at *
        have r1 := fun x => later_cell cx x
        have r2 := fun x => later_cell cy x
        clear hc2 hy
        cases bk with
        | true =>
          go_upto_region 9 with fail
          refine wp_region_later (by kernel_rfl) (by kernel_rfl) ?_
          repeat (first | go_big_quiet_step (fail) | quiet_step (fail))
          refine wpQuiet_nil ?_
          rintro w1 ⟨z1, hz1⟩
          have HB3 : Hid (Below wo.heap.size wo w1) := LH (HB2.out.trans ((by rw [hz1]; exact z1.below : Below wr.heap.size wr w1).mono HB2.out.size))
          clear hz1 r1 r2 cx cy
          go_wp2_with fail
          refine ⟨⟨k + 1, by omega, by rw [HT.out]; rfl, vint (by omega), HB3⟩, ?_⟩
          simp [RowKit.intOf]; omega
        | false =>
          go_upto_region 9 with fail
          refine wp_region_later (by kernel_rfl) (by kernel_rfl) ?_
          repeat (first | go_big_quiet_step (fail) | quiet_step (fail))
          refine wpQuiet_nil ?_
          rintro w1 ⟨z1, hz1⟩
          rw [HBy.out]
          have HB3 : Hid (Below wo.heap.size wo w1) := LH (HB2.out.trans ((by rw [hz1]; exact z1.below : Below wr.heap.size wr w1).mono HB2.out.size))
          clear hz1 r1 r2 cx cy
          go_wp2_with fail
          refine ⟨⟨k + 1, by omega, by rw [HT.out]; rfl, vint (by omega), HB3⟩, ?_⟩
          simp [RowKit.intOf]; omega
      case neg =>
        obtain rfl : k = l2 := by omega
        have hkl' : decide ((k : Int) < (k : Int)) = false := by simp
        have HT : Hid ((ys.take k).contains x = ys.contains x) := LH (by rw [E2.out, List.take_length])
        rw [HT.out]
        generalize ys.contains x = bk at *
        have HBa := LH (below_alloc wr (.cells #[.int .i64 (x : Int)] 3))
        cases bk with
        | true =>
           have HXe : Hid ((xs.take (i + 1)).filter (fun x => !ys.contains x) = out) := LH (by rw [HX.out]; simp)
           go_wp2_with fail
           refine ⟨⟨i + 1, by omega, vint (by omega), LH (by rw [HXe.out]; exact HOr.out), HR, HBr⟩, ?_⟩
           simp [RowKit.intOf]; omega
        | false =>
           have HXe : Hid ((xs.take (i + 1)).filter (fun x => !ys.contains x) = out ++ [x]) := LH (by rw [HX.out]; simp)
           go_wp2_with (at_builtin; refine wpList_append_newI (ys := [x]) (m := 1) (B := w.heap.size) HOr.out HBa.out HR.out (Nat.le_trans HBr.out.size HBa.out.size) (RowAt.cells ⟨_, heap_alloc_new _ _, [], rfl⟩) rfl HLn.out rfl rfl rfl rfl ?_; intro v4 w4 ho4 hb4 hr4; have HO4 := LH ho4; have HB4 := LH hb4; have HR4 := LH hr4; clear ho4 hb4 hr4)
           refine ⟨⟨i + 1, by omega, vint (by omega), LH (by rw [HXe.out]; exact HO4.out), HR4, LH ((HBr.out.trans (HBa.out.mono HBr.out.size)).trans HB4.out)⟩, ?_⟩
           simp [RowKit.intOf]; omega
set_option maxHeartbeats 8000000 in
set_option maxRecDepth 100000 in
theorem rwhite_any {w : World} {a1 a2 : Option Addr} {l1 c1 l2 c2 : Nat} {xs ys : List Nat} (h1 : Cells w a1 (xs.map vi)) (h2 : Cells w a2 (ys.map vi)) (e1 : l1 = xs.length) (e2 : l2 = ys.length) (s1 : l1 ≤ 100000) (s2 : l2 ≤ 100000) (s3 : ∀ x ∈ xs, x ≤ 1000000) {b : Nat} :
    Calls Tryz.prog 46 #[.slice a1 l1 c1, .slice a2 l2 c2, .int .i64 (b : Int)] w (NewI w (xs.filter (fun x => decide (x / 512 = b) && !ys.contains x))) := by
  have HP : Hid (∀ v w', OwnI w' v (xs.filter (fun x => decide (x / 512 = b) && !ys.contains x)) → (∀ b, rowOf v = some b → w.heap.size ≤ b) → Below w.heap.size w w' → NewI w (xs.filter (fun x => decide (x / 512 = b) && !ys.contains x)) (.returned v) w') := LH (fun v w' h1 h2 h3 => ⟨v, rfl, h1, h2, h3⟩)
  generalize NewI w (xs.filter (fun x => decide (x / 512 = b) && !ys.contains x)) = Post at *
  have H1 := LH h1
  have H2 := LH h2
  have E1 := LH e1
  have E2 := LH e2
  have HS := LH s3
  clear h1 h2 e1 e2 s3
  go_enter Tryz.func46, Tryz.ntmps46
  go_wp2_with fail
  go_loopw [7, 8] (fun v iv wr => ∃ i : Nat, i ≤ l1 ∧ iv = .int .i64 (i : Int) ∧ Hid (OwnI wr v ((xs.take i).filter (fun x => decide (x / 512 = b) && !ys.contains x))) ∧ Hid (∀ b, rowOf v = some b → w.heap.size ≤ b) ∧ Hid (Below w.heap.size w wr)) (fun _ iv _ => l1 - (RowKit.intOf iv).toNat)
  case atStart => exact ⟨0, Nat.zero_le _, rfl, LH (OwnI.nil _), LH (fun b hb => by cases hb), LH (Below.refl _ _)⟩
  case round =>
    obtain ⟨i, hi, rfl, HO, HR, HB⟩ := hrel
    by_cases hlt : i < l1
    case neg =>
      obtain rfl : i = l1 := by omega
      have hlt' : decide ((i : Int) < (i : Int)) = false := by simp
      have HFin := LH (HP.out _ wr (by have h := HO.out; rw [E1.out, List.take_length] at h; exact h) HR.out HB.out)
      go_wp2_with fail
      exact HFin.out
    have hlt' : (i : Int) < (l1 : Int) := by omega
    obtain ⟨x, hx⟩ : ∃ x, xs[i]? = some x := ⟨_, List.getElem?_eq_getElem (by rw [← E1.out]; exact hlt)⟩
    obtain ⟨b1, o1, q1, _, hc1⟩ := (H1.out.below HB.out (Nat.le_refl _)).at (i := i) (by rw [List.length_map, ← E1.out]; exact hlt)
    have hc1 := hc1 i (vi x) (by rw [List.getElem?_map, hx]; rfl)
    have HC1 := LH hc1
    have HX : Hid ((xs.take (i + 1)).filter (fun x => decide (x / 512 = b) && !ys.contains x) = (xs.take i).filter (fun x => decide (x / 512 = b) && !ys.contains x) ++ (if decide (x / 512 = b) && !ys.contains x then [x] else [])) := LH (take_filter hx)
    have HLn : Hid (((xs.take i).filter (fun x => decide (x / 512 = b) && !ys.contains x)).length + 1 ≤ 1000000000000) := LH (by have := List.length_filter_le (fun x => decide (x / 512 = b) && !ys.contains x) (xs.take i); rw [List.length_take] at this; omega)
    generalize (xs.take i).filter (fun x => decide (x / 512 = b) && !ys.contains x) = out at *
    subst q1
    rename World => wo
    rename Value => ov
    have hq : (x : Int).tdiv 512 = ((x / 512 : Nat) : Int) := by rw [Int.tdiv_eq_ediv_of_nonneg (by omega)]; rfl
    have hx9 : x ≤ 1000000 := HS.out x (List.mem_of_getElem? hx)
    clear hx hc1
    go_wp2_with fail
    go_loopw [9, 10] (fun bv kv wr2 => ∃ k : Nat, k ≤ l2 ∧ bv = .bool ((ys.take k).contains x) ∧ kv = .int .i64 (k : Int) ∧ Hid (Below wo.heap.size wo wr2)) (fun _ kv _ => l2 - (RowKit.intOf kv).toNat)
    case atStart => exact ⟨0, Nat.zero_le _, by simp, rfl, LH (Below.refl _ _)⟩
    case round =>
      obtain ⟨k, hk, rfl, rfl, HB2⟩ := hrel
      have HBr : Hid (Below w.heap.size w wr) := LH (HB.out.trans (HB2.out.mono HB.out.size))
      have cx : wr.cell? ⟨b1, o1 + i, none⟩ = some (vi x) := by rw [HB2.out.cell (World.block_lt_of_cell? _ _ HC1.out)]; exact HC1.out
      have HOr := LH (HO.out.keep (fun b hb => HB2.out.block b (HO.out.lt b hb)))
      by_cases hkl : k < l2
      case pos =>
        have hkl' : (k : Int) < (l2 : Int) := by omega
        obtain ⟨y, hy⟩ : ∃ y, ys[k]? = some y := ⟨_, List.getElem?_eq_getElem (by rw [← E2.out]; exact hkl)⟩
        obtain ⟨b2, o2, q2, _, hc2⟩ := (H2.out.below HBr.out (Nat.le_refl _)).at (i := k) (by rw [List.length_map, ← E2.out]; exact hkl)
        have cy := hc2 k (vi y) (by rw [List.getElem?_map, hy]; rfl)
        have HT : Hid ((ys.take (k + 1)).contains x = ((ys.take k).contains x || y == x)) := LH (take_contains hy)
        have HBy : Hid ((((y : Int) == (x : Int)) : Bool) = (y == x)) := LH (by rw [Bool.eq_iff_iff]; simp only [beq_iff_eq]; omega)
        subst q2
        generalize (ys.take k).contains x = bk at *
        have r1 := fun x => later_cell cx x
        have r2 := fun x => later_cell cy x
        clear hc2 hy
        cases bk with
        | true =>
          go_upto_region 9 with fail
          refine wp_region_later (by kernel_rfl) (by kernel_rfl) ?_
          repeat (first | go_big_quiet_step (fail) | quiet_step (fail))
          refine wpQuiet_nil ?_
          rintro w1 ⟨z1, hz1⟩
          have HB3 : Hid (Below wo.heap.size wo w1) := LH (HB2.out.trans ((by rw [hz1]; exact z1.below : Below wr.heap.size wr w1).mono HB2.out.size))
          clear hz1 r1 r2 cx cy
          go_wp2_with fail
          refine ⟨⟨k + 1, by omega, by rw [HT.out]; rfl, vint (by omega), HB3⟩, ?_⟩
          simp [RowKit.intOf]; omega
        | false =>
          go_upto_region 9 with fail
          refine wp_region_later (by kernel_rfl) (by kernel_rfl) ?_
          repeat (first | go_big_quiet_step (fail) | quiet_step (fail))
          refine wpQuiet_nil ?_
          rintro w1 ⟨z1, hz1⟩
          rw [HBy.out]
          have HB3 : Hid (Below wo.heap.size wo w1) := LH (HB2.out.trans ((by rw [hz1]; exact z1.below : Below wr.heap.size wr w1).mono HB2.out.size))
          clear hz1 r1 r2 cx cy
          go_wp2_with fail
          refine ⟨⟨k + 1, by omega, by rw [HT.out]; rfl, vint (by omega), HB3⟩, ?_⟩
          simp [RowKit.intOf]; omega
      case neg =>
        obtain rfl : k = l2 := by omega
        have hkl' : decide ((k : Int) < (k : Int)) = false := by simp
        have HT : Hid ((ys.take k).contains x = ys.contains x) := LH (by rw [E2.out, List.take_length])
        rw [HT.out]
        generalize ys.contains x = bk at *
        have HBa := LH (below_alloc wr (.cells #[.int .i64 (x : Int)] 3))
        obtain ⟨xq, hxq⟩ : ∃ xq, xq = x / 512 := ⟨_, rfl⟩
        rw [← hxq] at HX hq
        by_cases hqb : xq = b
        · have hqb' : ((xq : Int) == (b : Int)) = true := by simp; omega
          cases bk with
          | true =>
             have HXe : Hid ((xs.take (i + 1)).filter (fun x => decide (x / 512 = b) && !ys.contains x) = out) := LH (by rw [HX.out]; simp)
             go_wp2_with fail
             refine ⟨⟨i + 1, by omega, vint (by omega), LH (by rw [HXe.out]; exact HOr.out), HR, HBr⟩, ?_⟩
             simp [RowKit.intOf]; omega
          | false =>
             have HXe : Hid ((xs.take (i + 1)).filter (fun x => decide (x / 512 = b) && !ys.contains x) = out ++ [x]) := LH (by rw [HX.out]; simp [← hxq, hqb])
             go_wp2_with (at_builtin; refine wpList_append_newI (ys := [x]) (m := 1) (B := w.heap.size) HOr.out HBa.out HR.out (Nat.le_trans HBr.out.size HBa.out.size) (RowAt.cells ⟨_, heap_alloc_new _ _, [], rfl⟩) rfl HLn.out rfl rfl rfl rfl ?_; intro v4 w4 ho4 hb4 hr4; have HO4 := LH ho4; have HB4 := LH hb4; have HR4 := LH hr4; clear ho4 hb4 hr4)
             refine ⟨⟨i + 1, by omega, vint (by omega), LH (by rw [HXe.out]; exact HO4.out), HR4, LH ((HBr.out.trans (HBa.out.mono HBr.out.size)).trans HB4.out)⟩, ?_⟩
             simp [RowKit.intOf]; omega
        · have hqb' : ((xq : Int) == (b : Int)) = false := by simp; omega
          have HXe : Hid ((xs.take (i + 1)).filter (fun x => decide (x / 512 = b) && !ys.contains x) = out) := LH (by rw [HX.out]; simp [← hxq, hqb])
          go_wp2_with fail
          refine ⟨⟨i + 1, by omega, vint (by omega), LH (by rw [HXe.out]; exact HOr.out), HR, HBr⟩, ?_⟩
          simp [RowKit.intOf]; omega
section
variable {w : World} {A : AF} {n B : Nat} {m : Al} {K : MkF} {M : Mk} {s b : Nat} {vg : Value} {G : List Nat}
set_option maxHeartbeats 2000000 in
set_option maxRecDepth 20000 in
theorem sgone_any (h : SwAt w s A K b vg G) (hG : G.length ≤ 1000000) : Calls Tryz.prog 50 #[vsw s] w (NewI w G) := by
 have HP : Hid (∀ v w', OwnI w' v G → (∀ b, rowOf v = some b → w.heap.size ≤ b) → Below w.heap.size w w' → NewI w G (.returned v) w') := LH (fun v w' h1 h2 h3 => ⟨v, rfl, h1, h2, h3⟩)
 generalize NewI w G = Post at *
 obtain ⟨a, c, rfl, hc, _, _⟩ := h.own.cells
 have HO : Hid (OwnI (w.alloc (.cells #[] 3)) (.slice (some ⟨w.heap.size, 0, none⟩) 0 0) []) :=
  LH (.inl ⟨rfl, .inr ⟨w.heap.size, 0, #[], rfl, Nat.zero_le _, heap_alloc_new w _, Nat.le_refl _, Nat.zero_le _, rfl, rfl⟩⟩)
 have HB := LH (below_alloc w (.cells #[] 3))
 have HC : Hid (Cells (w.alloc (.cells #[] 3)) a (G.map vi)) := LH (hc.below HB.out (Nat.le_refl _))
 have HN : Hid (([] : List Nat).length + G.length ≤ 1000000000000) := LH (by simp; omega)
 have hs : s < w.heap.size := h.lt s (by simp [swL])
 have c3 : (w.alloc (.cells #[] 3)).cell? ⟨s, 3, none⟩ = some (.slice a G.length c) := by rw [HB.out.cell (p := ⟨s, 3, none⟩) hs]; exact h.c3
 obtain ⟨l, hl⟩ : ∃ l, l = G.length := ⟨_, rfl⟩
 rw [← hl] at HN c3
 have HL := LH hl.symm
 clear h hc hG hl hs
 go_enter Tryz.func50, Tryz.ntmps50
 go_wp2_with (at_builtin; refine wpList_append_ownI (m := l) HO.out HC.out HL.out HN.out rfl rfl rfl rfl ?_; intro v' w2 ho hg hr; have HO2 := LH ho; have HG2 := LH hg; have HR2 := LH hr; clear ho hg hr)
 refine HP.out _ _ (by simpa using HO2.out) (fun b hb => ?_) ?_
 ·rcases HR2.out b hb with h | h
  ·have : rowOf (.slice (some ⟨w.heap.size, 0, none⟩) 0 0) = none := rfl
   rw [this] at h; cases h
  ·rw [h]; exact HB.out.size
 ·have hg : World.grownBy _ w2 none := HG2.out
  exact HB.out.trans ((below_grown hg (Nat.le_refl _)).mono HB.out.size)
set_option maxHeartbeats 2000000 in
set_option maxRecDepth 20000 in
theorem sstepd_any (ha : AlAt w A n B m) (h : SwAt w s A K B vg G) (hB : B ≤ 1000000) : Calls Tryz.prog 42 #[vsw s] w fun e w' => e = .returned (.int .i64 0) ∧ Below w.heap.size w w' := by
 have HD := LH (sdone_any ha h hB hB)
 rw [decide_eq_true (Nat.le_refl B)] at HD
 clear ha h
 have HP : Hid (∀ w', Below w.heap.size w w' → (fun e w' => e = Ending.returned (.int .i64 0) ∧ Below w.heap.size w w') (.returned (.int .i64 0)) w') := LH (fun w' h => ⟨rfl, h⟩)
 generalize (fun e w' => e = Ending.returned (.int .i64 0) ∧ Below w.heap.size w w') = Post at *
 go_enter Tryz.func42, Tryz.ntmps42
 go_wp2_with fail
 refine HD.out.mono ?_
 rintro e w1 ⟨rfl, hb1⟩
 have HFin := LH (HP.out _ hb1)
 go_wp2_with fail
 exact HFin.out
end
theorem filter_parts {α : Type} (p : α → Bool) : ∀ l : List α, (l.filter p).length + (l.filter (fun a => !p a)).length = l.length
 | [] => rfl
 | a :: l => by
  have := filter_parts p l
  cases h : p a <;> simp [h] <;> omega
theorem offs_count (U : List Bool) (M : Mk) (b : Nat) : (whiteL U M b).length + (offs U (whiteL U M b)).count true = U.count true := by
 rw [← onesL_length, ← onesL_length, onesL_offs]
 have h := filter_parts (fun a => (whiteL U M b).contains a) (onesL U)
 have e : (onesL U).filter (fun a => (whiteL U M b).contains a) = whiteL U M b := by
  conv => rhs; unfold whiteL
  refine List.filter_congr (fun x hx => ?_)
  rw [Bool.eq_iff_iff, List.contains_iff_mem, whiteL_mem, Bool.and_eq_true, decide_eq_true_iff, decide_eq_true_iff]
  exact ⟨fun h => h.2, fun h => ⟨mem_onesL.1 hx, h⟩⟩
 rw [e] at h
 exact h
theorem hdGet_nat {l : List Hd} {b : Nat} (h1 : 1 ≤ b) (h2 : b < l.length) : hdGet l (b : Int) = l.getD b default := by
 unfold hdGet
 rw [if_neg (by omega), Int.toNat_natCast]
section
variable {B : Nat} {U0 : List Bool} {M : Mk} {m m' : Al} {b : Nat}
theorem SwStep.at (h : SwStep M b m m') (x : Nat) : m'.used.getD x false = true ↔ m.used.getD x false = true ∧ (x / 512 = b → M.colour x ≠ 0) := by
 rw [h.used, offs_getD, Bool.and_eq_true, Bool.not_eq_true', ← Bool.not_eq_true, List.contains_iff_mem, whiteL_mem]
 constructor
 ·rintro ⟨h1, h2⟩; exact ⟨h1, fun e c => h2 ⟨h1, e, c⟩⟩
 ·rintro ⟨h1, h2⟩; exact ⟨h1, fun c => h2 c.2.1 c.2.2⟩
theorem SwStep.small (h : SwStep M b m m') (hok : AlOk B m) (hok' : AlOk B m') (h1 : 1 ≤ b) (h2 : b < B) (hk : (m.bm.list.getD b default).k = 1) : (m'.bm.list.getD b default).k = 0 ↔ ∀ x, m'.used.getD x false = true → x / 512 ≠ b := by
 obtain ⟨m1, k1, u1, c⟩ := h.list
 have e1 := k1.small hk
 rcases c with ⟨ht, hl⟩ | ⟨ht, rfl⟩
 ·rw [hl b, if_pos rfl]
  refine ⟨fun _ x hx e => ?_, fun _ => rfl⟩
  have := ht.2 x (by rw [e])
  rw [u1, hx] at this; cases this
 ·rw [e1, hk]
  refine ⟨fun c => absurd c (by decide), fun hx => absurd ?_ ht⟩
  refine ⟨by rw [hdGet_nat h1 (by rw [hok'.bm.lenL]; exact h2), e1, hk], fun x hxb => ?_⟩
  rcases hu : m'.used.getD x false with _ | _
  ·rfl
  ·exact absurd (by omega) (hx x hu)
theorem Swept.step (h : Swept B U0 M m b) (hs : SwStep M b m m') (hok : AlOk B m') (hl : LgOk m') (h1 : 1 ≤ b) (h2 : b < B) : Swept B U0 M m' (b + 1) := by
 refine ⟨hok, hl, fun x => ?_, fun q q1 q2 hk => ?_⟩
 ·rw [hs.at x, h.us x]
  constructor
  ·rintro ⟨⟨a, c⟩, d⟩
   refine ⟨a, fun e => ?_⟩
   rcases Nat.lt_or_ge (x / 512) b with f | f
   ·exact c f
   ·exact d (by omega)
  ·rintro ⟨a, c⟩
   exact ⟨⟨a, fun e => c (by omega)⟩, fun e => c (by omega)⟩
 ·obtain ⟨m1, k1, u1, c⟩ := hs.list
  by_cases e : q = b
  ·subst e
   rcases c with ⟨_, hq⟩ | ⟨ht, rfl⟩
   ·rw [hq q, if_pos rfl] at hk; exact absurd hk (by decide)
   ·refine Classical.byContradiction fun hn => ht ⟨by rw [hdGet_nat h1 (by rw [hok.bm.lenL]; exact h2)]; exact hk, fun x hx => ?_⟩
    rcases hu : m'.used.getD x false with _ | _
    ·rfl
    ·exact absurd ⟨x, hu, by omega⟩ hn
  ·have hk1 : (m1.bm.list.getD q default).k = 1 := by
    rcases c with ⟨_, hq⟩ | ⟨_, rfl⟩
    ·rw [hq q, if_neg e] at hk; exact hk
    ·exact hk
   obtain ⟨x, hx, hxq⟩ := h.sm q q1 (by omega) (k1.back hk1)
   exact ⟨x, (hs.at x).2 ⟨hx, fun c => absurd (hxq.symm.trans c) e⟩, hxq⟩
end
def hereN (b : Nat) (xs : List Nat) : Nat := xs.countP (fun x => decide (x / 512 = b))
theorem hereN_take {xs : List Nat} {b i x : Nat} (h : xs[i]? = some x) : hereN b (xs.take (i + 1)) = hereN b (xs.take i) + (if x / 512 = b then 1 else 0) := by
 unfold hereN
 rw [List.take_add_one, h, List.countP_append]
 by_cases e : x / 512 = b <;> simp [e]
theorem hereN_le (b : Nat) (xs : List Nat) : hereN b xs ≤ xs.length := List.countP_le_length
theorem hereN_pos {U : List Bool} {b : Nat} : 0 < hereN b (onesL U) ↔ ∃ x, U.getD x false = true ∧ x / 512 = b := by
 unfold hereN
 rw [List.countP_pos_iff]
 constructor
 ·rintro ⟨x, hx, h⟩; exact ⟨x, mem_onesL.1 hx, of_decide_eq_true h⟩
 ·rintro ⟨x, hx, h⟩; exact ⟨x, mem_onesL.2 hx, decide_eq_true h⟩
theorem white_is {U : List Bool} {M : Mk} {mk : List Nat} (hm : Marked M mk) (b : Nat) : (onesL U).filter (fun x => decide (x / 512 = b) && !mk.contains x) = whiteL U M b := by
 unfold whiteL
 refine List.filter_congr (fun x _ => ?_)
 congr 1
 rw [Bool.eq_iff_iff, decide_eq_true_iff, hm.is x]
 simp
end Go.Proofs.YtbimcogdbafjpaaGreat
