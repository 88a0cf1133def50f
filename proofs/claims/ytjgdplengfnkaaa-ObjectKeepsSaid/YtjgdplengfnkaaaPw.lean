/- Plain: bytes as words, the lowest first, and back. -/
import Derived.Laws.BitsAllLaws
namespace Go.Proofs.Ytjgdplengfnkaaa
set_option linter.unusedVariables false

/-- The word of eight bytes from 8 * j on; noughts behind. -/
def wordAt (zs : List Nat) (j : Nat) : Nat :=
  zs.getD (8 * j) 0 + zs.getD (8 * j + 1) 0 * 256 + zs.getD (8 * j + 2) 0 * 65536 + zs.getD (8 * j + 3) 0 * 16777216 + zs.getD (8 * j + 4) 0 * 4294967296 +
    zs.getD (8 * j + 5) 0 * 1099511627776 + zs.getD (8 * j + 6) 0 * 281474976710656 + zs.getD (8 * j + 7) 0 * 72057594037927936

def packW (zs : List Nat) : List Nat := (List.range ((zs.length + 7) / 8)).map (wordAt zs)

def bytes8 (w : Nat) : List Nat :=
  [w % 256, w / 256 % 256, w / 65536 % 256, w / 16777216 % 256, w / 4294967296 % 256, w / 1099511627776 % 256, w / 281474976710656 % 256, w / 72057594037927936 % 256]

def unpack (ws : List Nat) : List Nat := ws.flatMap bytes8

theorem getD_take (zs : List Nat) (k i : Nat) : (zs.take k).getD i 0 = if i < k then zs.getD i 0 else 0 := by
  rw [List.getD_eq_getElem?_getD, List.getElem?_take, List.getD_eq_getElem?_getD]
  split <;> simp

theorem getD_lt (zs : List Nat) (hz : ∀ z ∈ zs, z < 256) (i : Nat) : zs.getD i 0 < 256 := by
  rw [List.getD_eq_getElem?_getD]
  by_cases h : i < zs.length
  · rw [List.getElem?_eq_getElem h]; exact hz _ (List.getElem_mem h)
  · rw [List.getElem?_eq_none (by omega)]; simp

theorem wordAt_lt (zs : List Nat) (hz : ∀ z ∈ zs, z < 256) (j : Nat) : wordAt zs j < 18446744073709551616 := by
  unfold wordAt
  have h := getD_lt zs hz
  have h0 := h (8 * j); have h1 := h (8 * j + 1); have h2 := h (8 * j + 2); have h3 := h (8 * j + 3)
  have h4 := h (8 * j + 4); have h5 := h (8 * j + 5); have h6 := h (8 * j + 6); have h7 := h (8 * j + 7)
  omega

theorem wordAt_other (zs : List Nat) (k j : Nat) (h : j ≠ k / 8) : wordAt (zs.take (k + 1)) j = wordAt (zs.take k) j := by
  have e : ∀ t, t < 8 → (zs.take (k + 1)).getD (8 * j + t) 0 = (zs.take k).getD (8 * j + t) 0 := by
    intro t ht
    rw [getD_take, getD_take]
    by_cases c : 8 * j + t < k
    · rw [if_pos (by omega), if_pos c]
    · rw [if_neg (by omega), if_neg c]
  have e0 := e 0 (by omega)
  simp only [Nat.add_zero] at e0
  simp only [wordAt, e0, e 1 (by omega), e 2 (by omega), e 3 (by omega), e 4 (by omega), e 5 (by omega), e 6 (by omega), e 7 (by omega)]

theorem or_join (a z i m : Nat) (hm : m = 2 ^ i) (ha : a < m) : a ||| (z * m) = a + z * m := by
  subst hm
  rw [Nat.or_comm, ← Nat.shiftLeft_eq, ← Nat.shiftLeft_add_eq_or_of_lt ha, Nat.add_comm]

theorem wordAt_step (zs : List Nat) (hz : ∀ z ∈ zs, z < 256) (k : Nat) :
    wordAt (zs.take k) (k / 8) ||| (zs.getD k 0 * 2 ^ (8 * (k % 8))) = wordAt (zs.take (k + 1)) (k / 8) := by
  obtain ⟨q, r, hr, rfl⟩ : ∃ q r, r < 8 ∧ k = 8 * q + r := ⟨k / 8, k % 8, by omega, by omega⟩
  have e1 : (8 * q + r) / 8 = q := by omega
  have e2 : (8 * q + r) % 8 = r := by omega
  rw [e1, e2]
  have h := getD_lt zs hz
  have h0 := h (8 * q); have h1 := h (8 * q + 1); have h2 := h (8 * q + 2); have h3 := h (8 * q + 3)
  have h4 := h (8 * q + 4); have h5 := h (8 * q + 5); have h6 := h (8 * q + 6); have h7 := h (8 * q + 7)
  have l0 : ∀ j, (8 * q < 8 * q + j) = (0 < j) := fun j => by simp
  simp only [wordAt, getD_take, Nat.add_assoc, Nat.add_lt_add_iff_left, l0]
  have c : r = 0 ∨ r = 1 ∨ r = 2 ∨ r = 3 ∨ r = 4 ∨ r = 5 ∨ r = 6 ∨ r = 7 := by omega
  clear h hz e1 e2 hr l0
  rcases c with rfl | rfl | rfl | rfl | rfl | rfl | rfl | rfl
  · simp only [Nat.add_zero, Nat.mul_zero, Nat.reduceMul, Nat.reducePow, Nat.reduceAdd, Nat.reduceLT, if_true, if_false, Nat.zero_mul, Nat.zero_add, Nat.lt_irrefl, Nat.zero_lt_one, Nat.not_lt_zero]
    simp
  · simp only [Nat.add_zero, Nat.mul_zero, Nat.reduceMul, Nat.reducePow, Nat.reduceAdd, Nat.reduceLT, if_true, if_false, Nat.zero_mul, Nat.zero_add, Nat.lt_irrefl, Nat.zero_lt_one, Nat.not_lt_zero]
    rw [or_join _ _ 8 256 (by decide) (by omega)]
  · simp only [Nat.add_zero, Nat.mul_zero, Nat.reduceMul, Nat.reducePow, Nat.reduceAdd, Nat.reduceLT, if_true, if_false, Nat.zero_mul, Nat.zero_add, Nat.lt_irrefl, Nat.zero_lt_one, Nat.not_lt_zero]
    rw [or_join _ _ 16 65536 (by decide) (by omega)]
    simp only [Nat.add_assoc]
  · simp only [Nat.add_zero, Nat.mul_zero, Nat.reduceMul, Nat.reducePow, Nat.reduceAdd, Nat.reduceLT, if_true, if_false, Nat.zero_mul, Nat.zero_add, Nat.lt_irrefl, Nat.zero_lt_one, Nat.not_lt_zero]
    rw [or_join _ _ 24 16777216 (by decide) (by omega)]
    simp only [Nat.add_assoc]
  · simp only [Nat.add_zero, Nat.mul_zero, Nat.reduceMul, Nat.reducePow, Nat.reduceAdd, Nat.reduceLT, if_true, if_false, Nat.zero_mul, Nat.zero_add, Nat.lt_irrefl, Nat.zero_lt_one, Nat.not_lt_zero]
    rw [or_join _ _ 32 4294967296 (by decide) (by omega)]
    simp only [Nat.add_assoc]
  · simp only [Nat.add_zero, Nat.mul_zero, Nat.reduceMul, Nat.reducePow, Nat.reduceAdd, Nat.reduceLT, if_true, if_false, Nat.zero_mul, Nat.zero_add, Nat.lt_irrefl, Nat.zero_lt_one, Nat.not_lt_zero]
    rw [or_join _ _ 40 1099511627776 (by decide) (by omega)]
    simp only [Nat.add_assoc]
  · simp only [Nat.add_zero, Nat.mul_zero, Nat.reduceMul, Nat.reducePow, Nat.reduceAdd, Nat.reduceLT, if_true, if_false, Nat.zero_mul, Nat.zero_add, Nat.lt_irrefl, Nat.zero_lt_one, Nat.not_lt_zero]
    rw [or_join _ _ 48 281474976710656 (by decide) (by omega)]
    simp only [Nat.add_assoc]
  · simp only [Nat.add_zero, Nat.mul_zero, Nat.reduceMul, Nat.reducePow, Nat.reduceAdd, Nat.reduceLT, if_true, if_false, Nat.zero_mul, Nat.zero_add, Nat.lt_irrefl, Nat.zero_lt_one, Nat.not_lt_zero]
    rw [or_join _ _ 56 72057594037927936 (by decide) (by omega)]
    simp only [Nat.add_assoc]

theorem pow_small (r : Nat) (h : r < 8) : 2 ^ (8 * r) ≤ 72057594037927936 := by
  have c : r = 0 ∨ r = 1 ∨ r = 2 ∨ r = 3 ∨ r = 4 ∨ r = 5 ∨ r = 6 ∨ r = 7 := by omega
  rcases c with rfl | rfl | rfl | rfl | rfl | rfl | rfl | rfl <;> simp

theorem shl_small (zs : List Nat) (hz : ∀ z ∈ zs, z < 256) (k : Nat) : zs.getD k 0 * 2 ^ (8 * (k % 8)) < 18446744073709551616 := by
  have h := getD_lt zs hz k
  have h1 := pow_small (k % 8) (by omega)
  generalize zs.getD k 0 = z at *
  generalize 2 ^ (8 * (k % 8)) = p at *
  have h2 := Nat.mul_le_mul (show z ≤ 255 by omega) h1
  omega

/-- What the words are behind k bytes. -/
def packTo (zs : List Nat) (m k : Nat) : List Nat := (List.range m).map (wordAt (zs.take k))

theorem packTo_zero (zs : List Nat) (m : Nat) : packTo zs m 0 = List.replicate m 0 := by
  unfold packTo
  apply List.ext_getElem
  · simp
  · intro i h1 h2; simp [wordAt]

theorem packTo_length (zs : List Nat) (m k : Nat) : (packTo zs m k).length = m := by simp [packTo]

theorem getD_map_range (f : Nat → Nat) (m j : Nat) (h : j < m) : ((List.range m).map f).getD j 0 = f j := by simp [h]

theorem packTo_get (zs : List Nat) (m k j : Nat) (h : j < m) : (packTo zs m k).getD j 0 = wordAt (zs.take k) j := getD_map_range _ m j h

theorem packTo_step (zs : List Nat) (hz : ∀ z ∈ zs, z < 256) (m k : Nat) (h : k / 8 < m) :
    (packTo zs m k).set (k / 8) ((packTo zs m k).getD (k / 8) 0 ||| (zs.getD k 0 * 2 ^ (8 * (k % 8)))) = packTo zs m (k + 1) := by
  rw [packTo_get _ _ _ _ h, wordAt_step zs hz k]
  apply List.ext_getElem
  · simp [packTo]
  · intro i h1 h2
    rw [List.getElem_set]
    split
    · rename_i e; subst e; simp only [packTo, List.getElem_map, List.getElem_range]
    · rename_i e; simp only [packTo, List.getElem_map, List.getElem_range]; exact (wordAt_other zs k i (fun c => e c.symm)).symm

theorem packTo_end (zs : List Nat) : packTo zs ((zs.length + 7) / 8) zs.length = packW zs := by simp only [packTo, packW, List.take_length]

theorem packW_length (zs : List Nat) : (packW zs).length = (zs.length + 7) / 8 := by simp [packW]
theorem packW_lt (zs : List Nat) (hz : ∀ z ∈ zs, z < 256) : ∀ x ∈ packW zs, x < 18446744073709551616 := by
  intro x hx
  simp only [packW, List.mem_map] at hx
  obtain ⟨j, _, rfl⟩ := hx
  exact wordAt_lt zs hz j

theorem unpack_length (ws : List Nat) : (unpack ws).length = 8 * ws.length := by
  induction ws with
  | nil => rfl
  | cons a l ih => simp [unpack, List.flatMap_cons] at ih ⊢; rw [ih]; simp [bytes8]; omega

theorem unpack_lt (ws : List Nat) : ∀ x ∈ unpack ws, x < 256 := by
  intro x hx
  simp only [unpack, List.mem_flatMap, bytes8] at hx
  obtain ⟨a, _, hx⟩ := hx
  simp at hx
  omega

theorem unpack_get (ws : List Nat) (i : Nat) (h : i < 8 * ws.length) : (unpack ws).getD i 0 = (bytes8 (ws.getD (i / 8) 0)).getD (i % 8) 0 := by
  induction ws generalizing i with
  | nil => simp at h
  | cons a l ih =>
    have e : unpack (a :: l) = bytes8 a ++ unpack l := by simp [unpack]
    rw [e]
    by_cases c : i < 8
    · have h0 : i / 8 = 0 := by omega
      have h1 : i % 8 = i := by omega
      rw [h0, h1, List.getD_eq_getElem?_getD, List.getElem?_append_left (by simpa [bytes8] using c)]
      simp
    · obtain ⟨j, rfl⟩ : ∃ j, i = j + 8 := ⟨i - 8, by omega⟩
      have h0 : (j + 8) / 8 = j / 8 + 1 := by omega
      have h1 : (j + 8) % 8 = j % 8 := by omega
      rw [h0, h1, List.getD_eq_getElem?_getD, List.getElem?_append_right (by simp [bytes8])]
      have := ih j (by simp at h; omega)
      rw [List.getD_eq_getElem?_getD] at this
      simpa [bytes8] using this

theorem low_high (x y : Nat) (h : x < 256) : (x + y * 256) % 256 = x ∧ (x + y * 256) / 256 = y := by omega

theorem bytes8_nat (x0 x1 x2 x3 x4 x5 x6 x7 : Nat) (h0 : x0 < 256) (h1 : x1 < 256) (h2 : x2 < 256) (h3 : x3 < 256) (h4 : x4 < 256) (h5 : x5 < 256) (h6 : x6 < 256) (h7 : x7 < 256) :
    bytes8 (x0 + x1 * 256 + x2 * 65536 + x3 * 16777216 + x4 * 4294967296 + x5 * 1099511627776 + x6 * 281474976710656 + x7 * 72057594037927936) = [x0, x1, x2, x3, x4, x5, x6, x7] := by
  have e : x0 + x1 * 256 + x2 * 65536 + x3 * 16777216 + x4 * 4294967296 + x5 * 1099511627776 + x6 * 281474976710656 + x7 * 72057594037927936 =
      x0 + (x1 + (x2 + (x3 + (x4 + (x5 + (x6 + x7 * 256) * 256) * 256) * 256) * 256) * 256) * 256 := by omega
  rw [e]
  clear e
  have d : ∀ n a b c : Nat, c = a * b → n / c = n / a / b := fun n a b c h => by rw [h, Nat.div_div_eq_div_mul]
  unfold bytes8
  simp only [d _ 256 256 65536 rfl, d _ 65536 256 16777216 rfl, d _ 16777216 256 4294967296 rfl, d _ 4294967296 256 1099511627776 rfl, d _ 1099511627776 256 281474976710656 rfl, d _ 281474976710656 256 72057594037927936 rfl]
  rw [(low_high x0 _ h0).2, (low_high x0 _ h0).1, (low_high x1 _ h1).2, (low_high x1 _ h1).1, (low_high x2 _ h2).2, (low_high x2 _ h2).1, (low_high x3 _ h3).2, (low_high x3 _ h3).1, (low_high x4 _ h4).2, (low_high x4 _ h4).1,
    (low_high x5 _ h5).2, (low_high x5 _ h5).1, (low_high x6 _ h6).2, (low_high x6 _ h6).1, Nat.mod_eq_of_lt h7]

theorem bytes8_word (zs : List Nat) (hz : ∀ z ∈ zs, z < 256) (j t : Nat) (ht : t < 8) : (bytes8 (wordAt zs j)).getD t 0 = zs.getD (8 * j + t) 0 := by
  have h := getD_lt zs hz
  unfold wordAt
  rw [bytes8_nat _ _ _ _ _ _ _ _ (h _) (h _) (h _) (h _) (h _) (h _) (h _) (h _)]
  have c : t = 0 ∨ t = 1 ∨ t = 2 ∨ t = 3 ∨ t = 4 ∨ t = 5 ∨ t = 6 ∨ t = 7 := by omega
  rcases c with rfl | rfl | rfl | rfl | rfl | rfl | rfl | rfl <;> rfl

end Go.Proofs.Ytjgdplengfnkaaa
