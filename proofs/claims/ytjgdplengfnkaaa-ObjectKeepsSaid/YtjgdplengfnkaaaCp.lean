/- CRC-32, plainly: bit by bit, and by a table of sixteen. -/
import Derived.Test.YtjgdplengfnkaaaRow
namespace Go.Proofs.Ytjgdplengfnkaaa
set_option linter.unusedVariables false

def poly : Nat := 3988292384

/-- One bit. -/
def bitN (s : Nat) : Nat := if s % 2 = 1 then (s / 2) ^^^ poly else s / 2

theorem bitN_xor (x y : Nat) : bitN (x ^^^ y) = bitN x ^^^ bitN y := by
  have hd : (x ^^^ y) / 2 = x / 2 ^^^ y / 2 := Nat.xor_div_two
  have hm : (x ^^^ y) % 2 = (x % 2 + y % 2) % 2 := by
    have h := @Nat.xor_mod_two_eq_one x y
    omega
  unfold bitN
  rw [hd, hm]
  rcases Nat.mod_two_eq_zero_or_one x with hx | hx <;> rcases Nat.mod_two_eq_zero_or_one y with hy | hy <;> rw [hx, hy] <;> simp
  · rw [Nat.xor_assoc]
  · rw [Nat.xor_assoc, Nat.xor_assoc, Nat.xor_comm poly]
  · generalize x / 2 = a
    generalize y / 2 = b
    rw [show a ^^^ poly ^^^ (b ^^^ poly) = a ^^^ b ^^^ (poly ^^^ poly) by
      rw [Nat.xor_assoc, Nat.xor_assoc, ← Nat.xor_assoc poly b poly, Nat.xor_comm poly b, Nat.xor_assoc]]
    simp

theorem bitN_two (q : Nat) : bitN (2 * q) = q := by unfold bitN; rw [if_neg (by omega)]; omega

def bit4 (s : Nat) : Nat := bitN (bitN (bitN (bitN s)))
theorem bit4_xor (x y : Nat) : bit4 (x ^^^ y) = bit4 x ^^^ bit4 y := by unfold bit4; rw [bitN_xor, bitN_xor, bitN_xor, bitN_xor]

theorem bit4_up (q : Nat) : bit4 (16 * q) = q := by
  unfold bit4
  rw [show 16 * q = 2 * (2 * (2 * (2 * q))) by omega, bitN_two, bitN_two, bitN_two, bitN_two]

def tableL : List Nat := [0, 498536548, 997073096, 651767980, 1994146192, 1802195444, 1303535960, 1342533948, 3988292384, 4027552580, 3604390888, 3412177804, 2607071920, 2262029012, 2685067896, 3183342108]

theorem bit4_low : ∀ i : Nat, i < 16 → bit4 i = tableL.getD i 0 := by decide

theorem split16 (x : Nat) : x = (16 * (x / 16)) ^^^ (x % 16) := by
  have h : 16 * (x / 16) ||| x % 16 = 16 * (x / 16) + x % 16 := by
    have := Nat.two_pow_add_eq_or_of_lt (i := 4) (b := x % 16) (Nat.mod_lt _ (by decide)) (x / 16)
    simpa using this.symm
  have h2 : 16 * (x / 16) ^^^ x % 16 = 16 * (x / 16) ||| x % 16 := by
    apply Nat.eq_of_testBit_eq
    intro i
    rw [Nat.testBit_xor, Nat.testBit_or]
    by_cases hi : i < 4
    · have : (16 * (x / 16)).testBit i = false := by
        rw [show 16 * (x / 16) = 2 ^ 4 * (x / 16) by rfl, Nat.testBit_two_pow_mul]
        simp; omega
      rw [this]; simp
    · have : (x % 16).testBit i = false := by
        rw [show x % 16 = x % 2 ^ 4 by rfl, Nat.testBit_mod_two_pow]
        simp; omega
      rw [this]; simp
  rw [h2, h]; omega

theorem bit4_eq (x : Nat) : bit4 x = tableL.getD (x % 16) 0 ^^^ (x / 16) := by
  conv => lhs; rw [split16 x]
  rw [bit4_xor, bit4_up, bit4_low _ (Nat.mod_lt _ (by decide)), Nat.xor_comm]

def tabN (i : Nat) : Nat := tableL.getD (i % 16) 0

/-- One nibble, as the program does it: the low four bits of a byte b. -/
def nib (s b : Nat) : Nat := tabN (s % 256 ^^^ b) ^^^ (s / 16)

theorem xor_mod16 (s b : Nat) : (s % 256 ^^^ b) % 16 = (s ^^^ b) % 16 := by
  have h := fun x y => @Nat.xor_mod_two_pow x y 4
  simp only [show (2:Nat) ^ 4 = 16 by rfl] at h
  rw [h, h, Nat.mod_mod_of_dvd _ (by decide : 16 ∣ 256)]

theorem bit4_nib (s b : Nat) : bit4 (s ^^^ b) = nib s b ^^^ (b / 16) := by
  have hd : (s ^^^ b) / 16 = s / 16 ^^^ b / 16 := by
    have := @Nat.xor_div_two_pow s b 4
    simpa using this
  rw [bit4_eq, nib, tabN, xor_mod16, hd, Nat.xor_assoc]

/-- One byte. -/
def byteN (s b : Nat) : Nat := bit4 (bit4 (s ^^^ b))

theorem byteN_nib (s b : Nat) (h : b < 256) : nib (nib s b) (b / 16) = byteN s b := by
  have h0 : b / 16 / 16 = 0 := by omega
  unfold byteN
  rw [bit4_nib, bit4_nib, h0, Nat.xor_zero]

theorem poly_lt : poly < 2 ^ 32 := by decide
theorem bitN_lt (s : Nat) (h : s < 2 ^ 32) : bitN s < 2 ^ 32 := by
  unfold bitN
  split
  · exact Nat.xor_lt_two_pow (by omega) poly_lt
  · omega

theorem bit4_lt (s : Nat) (h : s < 2 ^ 32) : bit4 s < 2 ^ 32 := bitN_lt _ (bitN_lt _ (bitN_lt _ (bitN_lt _ h)))
theorem byteN_lt (s b : Nat) (h : s < 2 ^ 32) (hb : b < 256) : byteN s b < 2 ^ 32 := bit4_lt _ (bit4_lt _ (Nat.xor_lt_two_pow h (by omega)))
theorem tableL_lt (i : Nat) : tableL.getD i 0 < 2 ^ 32 := by
  by_cases h : i < 16
  · have : ∀ i : Nat, i < 16 → tableL.getD i 0 < 2 ^ 32 := by decide
    exact this i h
  · rw [List.getD_eq_getElem?_getD, List.getElem?_eq_none (by show 16 ≤ i; omega)]; decide
theorem nib_lt (s b : Nat) (h : s < 2 ^ 32) : nib s b < 2 ^ 32 := Nat.xor_lt_two_pow (tableL_lt _) (by omega)

theorem not32 (x : Nat) (h : x < 2 ^ 32) : 4294967295 ^^^ x = 4294967295 - x := by
  apply Nat.eq_of_testBit_eq
  intro i
  have e1 : (4294967295 : Nat) = 2 ^ 32 - 1 := by decide
  have e2 : 4294967295 - x = 2 ^ 32 - (x + 1) := by omega
  rw [e2, Nat.testBit_two_pow_sub_succ h, Nat.testBit_xor, e1, Nat.testBit_two_pow_sub_one]
  by_cases hi : i < 32
  · simp [hi]
  · have : x.testBit i = false := Nat.testBit_lt_two_pow (Nat.lt_of_lt_of_le h (Nat.pow_le_pow_right (by decide) (by omega)))
    simp [hi, this]

/-- The sum of bytes behind others. -/
def foldN (s : Nat) (l : List Nat) : Nat := l.foldl byteN s
def moreN (s : Nat) (l : List Nat) : Nat := 4294967295 - foldN (4294967295 - s) l
theorem foldN_lt (l : List Nat) (h : ∀ z ∈ l, z < 256) : ∀ s, s < 2 ^ 32 → foldN s l < 2 ^ 32 := by
  induction l with
  | nil => intro s hs; exact hs
  | cons z l ih => intro s hs; exact ih (fun y hy => h y (by simp [hy])) _ (byteN_lt s z hs (h z (by simp)))
theorem foldN_take (s : Nat) (l : List Nat) (k : Nat) (h : k < l.length) : foldN s (l.take (k + 1)) = byteN (foldN s (l.take k)) (l.getD k 0) := by
  have e : l.getD k 0 = l[k] := by simp [h]
  rw [List.take_succ_eq_append_getElem h, e]
  unfold foldN
  rw [List.foldl_append]; rfl
theorem moreN_lt (s : Nat) (l : List Nat) : moreN s l < 2 ^ 32 := by unfold moreN; omega

end Go.Proofs.Ytjgdplengfnkaaa
