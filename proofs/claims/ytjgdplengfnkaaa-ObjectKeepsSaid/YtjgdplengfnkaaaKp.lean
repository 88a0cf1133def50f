/- Plain: an object on a device that never stops. -/
import Derived.Test.YtjgdplengfnkaaaOd
import Derived.Test.YtjgdplengfnkaaaAw
namespace Go.Proofs.Ytjgdplengfnkaaa
set_option linter.unusedVariables false

theorem odec_enc {a p d : Int} (h : objSize p d ≠ 0) : odecN a (oencN a p d) = ⟨p, d, 0⟩ := by
  obtain ⟨⟨p0, p1⟩, d0, d1⟩ := obj_small h
  have hlt := obN_lt h
  have hn2 : ((obN p d : Nat) : Int) = 165 + 256 * p + 16384 * d := by unfold obN; omega
  have he : oencN a p d = sealN (obN p d) (pl a) := by unfold oencN; rw [if_neg h]
  generalize obN p d = n at *
  have ho : openN (oencN a p d) (pl a) = some n := by
    unfold openN; rw [he, sealN_mod n _ hlt, if_pos rfl]
  have e2 : ((n / 256 % 64 : Nat) : Int) = p := by omega
  have e3 : ((n / 16384 % 32768 : Nat) : Int) = d := by omega
  rw [odecN_some ho]
  unfold odecS
  rw [e2, e3, if_pos rfl]

/-- A live device of len words with an object at a: its words of fields are ws. -/
structure Kept (S : Dev) (a : Nat) (p d : Int) (ws : List Nat) : Prop where
  live : S.live
  inv : S.inv
  size : objSize p d = ws.length + 1
  fits : a + 1 + ws.length ≤ S.cache.length
  head : S.cache.getD a 0 = oencN (a : Int) p d
  words : ∀ j, j < ws.length → S.cache.getD (a + 1 + j) 0 = ws.getD j 0

theorem Kept.headN {S : Dev} {a : Nat} {p d : Int} {ws : List Nat} (h : Kept S a p d ws) : headN S a = ⟨p, d, 0⟩ := by
  have hs := h.size
  have hf := h.fits
  have hne : objSize p d ≠ 0 := by omega
  have hd := odec_enc (a := (a : Int)) hne
  unfold Go.Proofs.Ytjgdplengfnkaaa.headN
  rw [if_neg (by omega)]
  have hp : peek S.cache (a : Int) = oencN (a : Int) p d := by rw [peek_in]; exact h.head
  rw [hp, hd]
  dsimp only
  rw [if_neg (by rw [hs]; intro h; rcases h with h | h; exact h rfl; omega)]
theorem Kept.sizes {S : Dev} {a : Nat} {p d : Int} {ws : List Nat} (h : Kept S a p d ws) : (0 ≤ p ∧ p < 64) ∧ (0 ≤ d ∧ d ≤ 16384) ∧ (ws.length : Int) = p + d := by
  have hs := h.size
  have hne : objSize p d ≠ 0 := by omega
  have hsm := obj_small hne
  refine ⟨hsm.1, hsm.2, ?_⟩
  unfold objSize at hs
  rw [if_neg (by omega)] at hs
  omega

theorem Kept.store {S : Dev} {a : Nat} {p d : Int} {ws : List Nat} (h : Kept S a p d ws) (j x : Nat) (hj : j < ws.length) (hx : x < 18446744073709551616) :
    S.storeE ((a + 1 + j : Nat) : Int) = 0 ∧ Kept (S.store ((a + 1 + j : Nat) : Int) x) a p d (ws.set j x) := by
  have hf := h.fits
  obtain ⟨h1, h2⟩ := h.live.store_ok (a + 1 + j) x (by omega)
  refine ⟨h1, ⟨h.live.store _ _, Dev.store_inv h.inv _ _ hx, by simp [h.size], by rw [h2]; simp; omega, ?_, fun i hi => ?_⟩⟩
  · rw [h2, getD_setN _ _ _ _ (by omega), if_neg (by omega)]; exact h.head
  · simp at hi
    rw [h2, getD_setN _ _ _ _ (by omega), getD_setN _ _ _ _ (by omega)]
    by_cases e : i = j
    · subst e; rw [if_pos rfl, if_pos rfl]
    · rw [if_neg (by omega), if_neg e]; exact h.words i hi

theorem Kept.setPtr {S : Dev} {a : Nat} {p d : Int} {ws : List Nat} (h : Kept S a p d ws) (i x : Nat) (hi : (i : Int) < p) (hx : x < 18446744073709551616) :
    (S.setPtr a i x).err = 0 ∧ Kept (S.setPtr a i x).dev a p d (ws.set i x) ∧ (S.setPtr a i x).dev = S.store ((a + 1 + i : Nat) : Int) x := by
  obtain ⟨hp, hd, hl⟩ := h.sizes
  have hst := h.store i x (by omega) hx
  have hpl : placeN S a i false = ⟨((a + 1 + i : Nat) : Int), 0⟩ := by
    unfold placeN
    rw [h.headN, if_neg (by simp), if_neg (by simp)]
    dsimp only
    rw [if_pos (by omega)]
    congr 1
    omega
  have : S.setPtr a i x = ⟨S.store ((a + 1 + i : Nat) : Int) x, S.storeE ((a + 1 + i : Nat) : Int)⟩ := by
    unfold Dev.setPtr
    rw [hpl]
    dsimp only
    rw [if_neg (by simp), if_neg (by omega)]
    rfl
  rw [this]
  exact ⟨hst.1, hst.2, rfl⟩
theorem Kept.setData {S : Dev} {a : Nat} {p d : Int} {ws : List Nat} (h : Kept S a p d ws) (i x : Nat) (hi : p ≤ (i : Int)) (hi2 : i < ws.length) (hx : x < 18446744073709551616) :
    (S.setData a ((i : Int) - p) x).err = 0 ∧ Kept (S.setData a ((i : Int) - p) x).dev a p d (ws.set i x) ∧ (S.setData a ((i : Int) - p) x).dev = S.store ((a + 1 + i : Nat) : Int) x := by
  obtain ⟨hp, hd, hl⟩ := h.sizes
  have hst := h.store i x hi2 hx
  have hpl : placeN S a ((i : Int) - p) true = ⟨((a + 1 + i : Nat) : Int), 0⟩ := by
    unfold placeN
    rw [h.headN, if_neg (by simp), if_pos rfl]
    dsimp only
    rw [if_pos (by omega)]
    congr 1
    omega
  have : S.setData a ((i : Int) - p) x = ⟨S.store ((a + 1 + i : Nat) : Int) x, S.storeE ((a + 1 + i : Nat) : Int)⟩ := by
    unfold Dev.setData
    rw [hpl]
    dsimp only
    rw [if_neg (by simp)]
  rw [this]
  exact ⟨hst.1, hst.2, rfl⟩

theorem zeroTo_live {S : Dev} (h : S.live) (hi : S.inv) (a : Nat) : ∀ k, a + 1 + k ≤ S.cache.length → (zeroTo S a k).err = 0 ∧ (zeroTo S a k).dev.live ∧ (zeroTo S a k).dev.inv ∧ (zeroTo S a k).dev.cache.length = S.cache.length ∧
    ∀ j, (zeroTo S a k).dev.cache.getD j 0 = if a + 1 ≤ j ∧ j < a + 1 + k then 0 else S.cache.getD j 0
  | 0, _ => ⟨rfl, h, hi, rfl, fun j => by rw [if_neg (by omega)]; rfl⟩
  | k + 1, hk => by
    obtain ⟨i1, i2, i3, i4, i5⟩ := zeroTo_live h hi a k (by omega)
    have hst : zeroTo S a (k + 1) = ⟨(zeroTo S a k).dev.store ((a + 1 + k : Nat) : Int) 0, (zeroTo S a k).dev.storeE ((a + 1 + k : Nat) : Int)⟩ := by
      rw [zeroTo, if_neg (by rw [i1]; simp)]
    rw [hst]
    generalize (zeroTo S a k).dev = T at *
    obtain ⟨s1, s2⟩ := i2.store_ok (a + 1 + k) 0 (by omega)
    refine ⟨s1, i2.store _ _, Dev.store_inv i3 _ _ (by decide), by rw [s2]; simp [i4], fun j => ?_⟩
    rw [s2, getD_setN _ _ _ _ (by omega), i5 j]
    by_cases e : j = a + 1 + k
    · subst e; rw [if_pos rfl, if_pos (by omega)]
    · rw [if_neg e]
      by_cases c : a + 1 ≤ j ∧ j < a + 1 + k
      · rw [if_pos c, if_pos (by omega)]
      · rw [if_neg c, if_neg (by omega)]
theorem init_kept {S : Dev} (h : S.live) (hi : S.inv) (a : Nat) (p d : Int) (hs : objSize p d ≠ 0) (hf : a + objSize p d ≤ S.cache.length) :
    (S.init a p d).err = 0 ∧ Kept (S.init a p d).dev a p d (List.replicate (objSize p d - 1) 0) := by
  have hE : S.init a p d = S.initN a (objSize p d) (oencN a p d) := by unfold Dev.init; rw [if_neg hs, if_neg (by omega)]; rfl
  rw [hE]
  obtain ⟨i1, i2, i3, i4, i5⟩ := zeroTo_live h hi a (objSize p d - 1) (by omega)
  have hlt := oencN_lt (a : Int) p d
  have hI : S.initN a (objSize p d) (oencN a p d) = ⟨(zeroTo S a (objSize p d - 1)).dev.store (a : Int) (oencN a p d), (zeroTo S a (objSize p d - 1)).dev.storeE (a : Int)⟩ := by unfold Dev.initN; rw [if_neg (by rw [i1]; simp)]
  rw [hI]
  generalize (zeroTo S a (objSize p d - 1)).dev = T at *
  generalize hx : oencN (a : Int) p d = x at *
  obtain ⟨s1, s2⟩ := i2.store_ok a x (by omega)
  refine ⟨s1, ⟨i2.store _ _, Dev.store_inv i3 _ _ hlt, by simp; omega, by rw [s2]; simp; omega, ?_, fun j hj => ?_⟩⟩
  · rw [s2, getD_setN _ _ _ _ (by omega), if_pos rfl, hx]
  · simp at hj
    rw [s2, getD_setN _ _ _ _ (by omega), if_neg (by omega), i5, if_pos (by omega)]
    simp [List.getD_eq_getElem?_getD, List.getElem?_replicate, hj]
theorem init_ok {S : Dev} {N : Nat} (h : S.ok N) (a p d : Int) : (S.init a p d).dev.ok (N + 20000) := by
  unfold Dev.init
  split
  · exact h.mono (by omega)
  · split
    · exact h.mono (by omega)
    · have hs := objSize_le p d
      unfold Dev.initN
      split
      · exact (zeroTo_ok h _ _).mono (by omega)
      · exact (Dev.store_okN (zeroTo_ok h _ _) _ _).mono (by omega)

/-- What was persisted lasts. -/
theorem Kept.persist {S : Dev} {a : Nat} {p d : Int} {ws : List Nat} (h : Kept S a p d ws) : (S.opersist a).err = 0 ∧ Kept (S.opersist a).dev a p d ws ∧ ∀ j, a ≤ j → j < a + 1 + ws.length → (S.opersist a).dev.dirty.getD (j / 8) false = false := by
  have hf := h.fits
  have hs := h.size
  have hE : S.opersist a = S.persist a ((ws.length + 1 : Nat) : Int) := by
    unfold Dev.opersist
    rw [h.headN, if_neg (by simp)]
    dsimp only
    rw [hs]
  rw [hE]
  have hl := h.live.persist a (ws.length + 1) (by omega) h.inv.wf.lenD (by omega)
  obtain ⟨q1, q2, q3, q4, q5⟩ := Dev.persist_clean h.inv a (ws.length + 1) (by omega) hl.1
  refine ⟨hl.1, ⟨?_, Dev.persist_inv h.inv _ _, hs, by rw [q1]; exact hf, by rw [q1]; exact h.head, by rw [q1]; exact h.words⟩, fun j h1 h2 => q4 j h1 (by omega)⟩
  exact h.live.persist_live a (ws.length + 1) (by omega) h.inv.wf.lenD (by omega)
theorem Kept.lasts {S : Dev} {a : Nat} {p d : Int} {ws : List Nat} (h : Kept S a p d ws) (hc : ∀ j, a ≤ j → j < a + 1 + ws.length → S.dirty.getD (j / 8) false = false) : S.olasts a = true := by
  unfold Dev.olasts
  rw [h.headN]
  refine decide_eq_true ⟨rfl, fun i hi => ?_⟩
  rw [h.size] at hi
  rw [show (a : Int) + (i : Int) = ((a + i : Nat) : Int) by omega, peek_in, peek_in]
  exact h.inv.sound _ (hc _ (by omega) (by omega))
theorem Kept.crash {S : Dev} {a : Nat} {p d : Int} {ws : List Nat} (h : Kept S a p d ws) (hc : ∀ j, a ≤ j → j < a + 1 + ws.length → S.dirty.getD (j / 8) false = false) (cs : List Nat) : Kept (S.crash cs) a p d ws := by
  have hw := Dev.crash_wf h.inv.wf cs
  have hD := h.inv.wf.lenD
  have hf := h.fits
  refine ⟨fresh_live _ _, fresh_inv (by rw [hw.1]; exact hD) (by rw [hw.1]; exact h.inv.wf.small) hw.2, h.size, ?_, ?_, fun j hj => ?_⟩
  · show a + 1 + ws.length ≤ (S.crashW cs).length
    rw [hw.1]; exact hf
  · show (S.crashW cs).getD a 0 = _
    rw [Dev.crash_clean h.inv cs a (hc a (by omega) (by omega))]; exact h.head
  · show (S.crashW cs).getD (a + 1 + j) 0 = _
    rw [Dev.crash_clean h.inv cs _ (hc _ (by omega) (by omega))]; exact h.words j hj

end Go.Proofs.Ytjgdplengfnkaaa
