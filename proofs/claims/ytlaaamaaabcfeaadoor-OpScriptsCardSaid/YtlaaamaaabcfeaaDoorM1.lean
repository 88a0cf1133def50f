/- Parts of the proof, one behind the other: Oa, Ob, Row, Ra, Reg, Aa, Mem, Mix, Mr. -/
import Derived.Lib.ItoaNum
import Derived.Lib.ItoaLen
import Derived.Lib.SplitLaws
import Derived.Test.YtlaaamaaabcfeaaDoorRows
import Derived.WalkKit
import Derived.WalkSpells
import Derived.WalkLawsBesides
import Derived.Lib.Hide
import Derived.Deep.Onto
import Derived.Lib.ConvBytes
import Derived.Laws.AppendOwnNone
import Derived.Deep.WholeRow
import Derived.Laws.BytesArg
import Derived.Deep.QuietTactic
import Derived.BigQuiet
import Derived.OwnWalk
import Derived.Laws.CopyOwn
import Derived.Laws.OwnMore

/- Plain: numbers as text, and texts that are cut at one sign. -/
namespace Go.Proofs.YtlaaamaaabcfeaaDoor
open Go.Lib
set_option linter.unusedVariables false

/-- A text cut at each sign of one kind; `cur`: what lies ahead of it. -/
def cutGo (c : UInt8) : List UInt8 → List UInt8 → List (List UInt8)
  | cur, [] => [cur]
  | cur, b :: l => if b = c then cur :: cutGo c [] l else cutGo c (cur ++ [b]) l

def onHead (b : List UInt8) : List (List UInt8) → List (List UInt8)
  | [] => []
  | h :: t => (b ++ h) :: t

theorem cutGo_head (c : UInt8) (x : List UInt8) : ∀ (l cur : List UInt8), cutGo c (x ++ cur) l = onHead x (cutGo c cur l)
  | [], _ => rfl
  | b :: l, cur => by
    unfold cutGo
    split
    · rfl
    · rw [List.append_assoc]; exact cutGo_head c x l _

theorem index_cons_eq (c : UInt8) (l : List UInt8) : index (c :: l) [c] = ((0 : Nat) : Int) := by rw [index]; simp [List.isPrefixOf]

theorem splitK_cut (c : UInt8) : ∀ s : List UInt8, splitK [c] 0 (count s [c]) s = cutGo c [] s
  | [] => by rw [count_one]; rfl
  | b :: l => by
    have ih := splitK_cut c l
    unfold cutGo
    by_cases h : b = c
    · subst h
      rw [if_pos rfl, count_cons_eq, Nat.add_comm, splitK, index_cons_eq]
      rw [if_neg (by decide)]
      exact congrArg _ ih
    · rw [if_neg h, count_cons_ne b c l h, show ([] ++ [b] : List UInt8) = [b] ++ [] from rfl, cutGo_head, ← ih]
      have hp : ([c] : List UInt8).isPrefixOf (b :: l) = false := by simp [List.isPrefixOf, Ne.symm h]
      have hix : index (b :: l) [c] = if index l [c] == -1 then -1 else index l [c] + 1 := by rw [index, hp]; simp
      cases hk : count l [c] with
      | zero => rfl
      | succ k =>
        by_cases hm : index l [c] = -1
        · rw [count_miss hm] at hk; omega
        · have hge := index_ge l [c]
          obtain ⟨j, hj⟩ : ∃ j : Nat, index l [c] = j := ⟨(index l [c]).toNat, by omega⟩
          have hix' : index (b :: l) [c] = ((j + 1 : Nat) : Int) := by rw [hix, if_neg (fun e => hm (beq_iff_eq.1 e)), hj]; omega
          unfold splitK
          rw [hix', hj, if_neg (by simp <;> omega), if_neg (by simp <;> omega)]
          simp [onHead]

theorem cutGo_word {c : UInt8} {x : List UInt8} (hx : c ∉ x) : ∀ (cur l : List UInt8), cutGo c cur (x ++ c :: l) = (cur ++ x) :: cutGo c [] l := by
  induction x with
  | nil => intro cur l; simp [cutGo]
  | cons b x ih =>
    intro cur l
    have hb : b ≠ c := fun e => hx (by simp [e])
    rw [List.cons_append, cutGo, if_neg hb, ih (fun e => hx (List.mem_cons_of_mem _ e))]
    simp

theorem cutGo_last {c : UInt8} {x : List UInt8} (hx : c ∉ x) : ∀ cur : List UInt8, cutGo c cur x = [cur ++ x] := by
  induction x with
  | nil => intro cur; simp [cutGo]
  | cons b x ih =>
    intro cur
    have hb : b ≠ c := fun e => hx (by simp [e])
    rw [cutGo, if_neg hb, ih (fun e => hx (List.mem_cons_of_mem _ e))]
    simp

theorem cutGo_ne (c : UInt8) : ∀ (l cur : List UInt8), cutGo c cur l ≠ []
  | [], _ => by simp [cutGo]
  | b :: l, cur => by
    unfold cutGo
    split
    · simp
    · exact cutGo_ne c l _

theorem cutGo_length (c : UInt8) : ∀ (l cur : List UInt8), (cutGo c cur l).length ≤ l.length + 1
  | [], _ => by simp [cutGo]
  | b :: l, cur => by
    unfold cutGo
    split
    · have := cutGo_length c l []; simp; omega
    · have := cutGo_length c l (cur ++ [b]); simp; omega

/-! ### Numbers -/
def isDigit (b : UInt8) : Bool := decide (48 ≤ b.toNat) && decide (b.toNat ≤ 57)

def digitsVal : Nat → List UInt8 → Option Nat
  | acc, [] => some acc
  | acc, b :: l => if isDigit b then digitsVal (acc * 10 + (b.toNat - 48)) l else none

theorem digitsVal_append : ∀ (a : List UInt8) (acc : Nat) (l : List UInt8), digitsVal acc (a ++ l) = (digitsVal acc a).bind fun n => digitsVal n l
  | [], _, _ => rfl
  | b :: a, acc, l => by
    rw [List.cons_append, digitsVal, digitsVal]
    split
    · exact digitsVal_append a _ l
    · rfl

theorem dig_toNat (d : Nat) (h : d < 10) : (UInt8.ofNat (48 + d)).toNat = 48 + d := by simp [UInt8.toNat_ofNat']; omega
theorem dig_is (d : Nat) (h : d < 10) : isDigit (UInt8.ofNat (48 + d)) = true := by unfold isDigit; rw [dig_toNat d h]; simp; omega

theorem val_dec : ∀ u : Nat, digitsVal 0 (decDigits u) = some u := by
  intro u
  induction u using Nat.strongRecOn with
  | _ u ih =>
    rw [decDigits]
    split
    · rename_i h
      rw [digitsVal, dig_is u h, if_pos rfl, digitsVal, dig_toNat u h]; congr 1; omega
    · rename_i h
      rw [digitsVal_append, ih (u / 10) (by omega)]
      have hd : u % 10 < 10 := by omega
      show digitsVal (u / 10) [_] = _
      rw [digitsVal, dig_is _ hd, if_pos rfl, digitsVal, dig_toNat _ hd]; congr 1; omega

theorem digit_back {b : UInt8} (h : isDigit b = true) : UInt8.ofNat (48 + (b.toNat - 48)) = b := by
  unfold isDigit at h; simp at h
  apply UInt8.toNat_inj.1
  rw [dig_toNat _ (by omega)]; omega

theorem dec_ne (u : Nat) : decDigits u ≠ [] := by rw [decDigits]; split <;> simp

theorem dec_head : ∀ u : Nat, (decDigits u).head? = some 48 → u = 0 := by
  intro u
  induction u using Nat.strongRecOn with
  | _ u ih =>
    rw [decDigits]
    split
    · rename_i h
      intro e
      have e' : UInt8.ofNat (48 + u) = 48 := by simpa using e
      have := congrArg UInt8.toNat e'
      rw [dig_toNat u h] at this
      have h48 : (48 : UInt8).toNat = 48 := rfl
      omega
    · rename_i h
      intro e
      have hne := dec_ne (u / 10)
      have := ih (u / 10) (by omega) (by cases hx : decDigits (u / 10) with | nil => exact absurd hx hne | cons a t => rw [hx] at e; simpa using e)
      omega

theorem dec_val (r : List UInt8) : r ≠ [] → (r.length = 1 ∨ r.head? ≠ some 48) → ∀ n, digitsVal 0 r = some n → decDigits n = r := by
  obtain ⟨q, rfl⟩ : ∃ q : List UInt8, r = q.reverse := ⟨r.reverse, by simp⟩
  induction q with
  | nil => intro h; exact absurd rfl h
  | cons b q ih =>
    intro _ h0 n hn
    rw [List.reverse_cons, digitsVal_append] at hn
    by_cases hq : q = []
    · subst hq
      simp only [List.reverse_nil, digitsVal, Option.bind_some, Nat.zero_mul, Nat.zero_add] at hn
      by_cases hb : isDigit b = true
      · rw [if_pos hb] at hn
        have hb' := hb
        unfold isDigit at hb'; simp at hb'
        have hn' : b.toNat - 48 = n := by simpa using hn
        rw [← hn', decDigits, dif_pos (by omega), digit_back hb]; rfl
      · rw [if_neg hb] at hn; exact absurd hn (by simp)
    · have hqr : q.reverse ≠ [] := by simpa using hq
      have hh : q.reverse.head? ≠ some 48 := by
        rcases h0 with h0 | h0
        · simp at h0; exact absurd h0 hq
        · intro e; apply h0
          cases hx : q.reverse with
          | nil => exact absurd hx hqr
          | cons a t => rw [hx] at e; rw [List.reverse_cons, hx]; simpa using e
      cases hv : digitsVal 0 q.reverse with
      | none => rw [hv] at hn; exact absurd hn (by simp)
      | some n' =>
        rw [hv] at hn
        simp only [digitsVal, Option.bind_some] at hn
        by_cases hb : isDigit b = true
        · rw [if_pos hb] at hn
          have hb' := hb
          unfold isDigit at hb'; simp at hb'
          have hn' : n' * 10 + (b.toNat - 48) = n := by simpa using hn
          have h1 := ih hqr (.inr hh) n' hv
          have hpos : n' ≠ 0 := by
            rintro rfl
            apply hh; rw [← h1, decDigits, dif_pos (by omega)]; rfl
          rw [← hn', decDigits, dif_neg (by omega), show (n' * 10 + (b.toNat - 48)) / 10 = n' by omega, h1, show (n' * 10 + (b.toNat - 48)) % 10 = b.toNat - 48 by omega, digit_back hb, List.reverse_cons]
        · rw [if_neg hb] at hn; exact absurd hn (by simp)

theorem nDigits_le (k : Nat) : ∀ u, u < 10 ^ k → 1 ≤ k → nDigits u ≤ k := by
  induction k with
  | zero => intro u h hk; omega
  | succ k ih =>
    intro u h _
    by_cases hu : u < 10
    · rw [nDigits_small hu]; omega
    · rw [nDigits_big hu]
      rw [Nat.pow_succ] at h
      by_cases hk : k = 0
      · subst hk; simp at h; omega
      · have := ih (u / 10) (by omega) (by omega); omega

theorem dec_length (u : Nat) : (decDigits u).length = nDigits u := by rw [decDigits_eq]; simp

/-- op.Number. -/
def numP (s : List UInt8) : Option Int :=
  if s.head? = some 45 then
    if s.drop 1 = [] ∨ 19 < (s.drop 1).length ∨ (s.drop 1).head? = some 48 then none
    else match digitsVal 0 (s.drop 1) with
      | none => none
      | some n => if n ≤ 9223372036854775808 then some (-(n : Int)) else none
  else
    if s = [] ∨ 19 < s.length ∨ (s.head? = some 48 ∧ 1 < s.length) then none
    else match digitsVal 0 s with
      | none => none
      | some n => if n < 9223372036854775808 then some (n : Int) else none

def In64 (n : Int) : Prop := -9223372036854775808 ≤ n ∧ n < 9223372036854775808

theorem dec_no (u : Nat) (b : UInt8) (hb : b ∈ decDigits u) : isDigit b = true := by
  induction u using Nat.strongRecOn with
  | _ u ih =>
    rw [decDigits] at hb
    split at hb
    · rename_i h
      rw [List.mem_singleton.1 hb]; exact dig_is u h
    · rename_i h
      rcases List.mem_append.1 hb with h1 | h1
      · exact ih (u / 10) (by omega) h1
      · rw [List.mem_singleton.1 h1]; exact dig_is _ (by omega)

theorem dec_head45 (u : Nat) : (decDigits u).head? ≠ some 45 := by
  intro e
  have := dec_no u 45 (List.mem_of_mem_head? (by rw [e]; rfl))
  exact absurd this (by decide)

theorem numP_iff (s : List UInt8) (n : Int) : numP s = some n ↔ In64 n ∧ itoa n = s := by
  unfold numP In64
  constructor
  · intro h
    split at h
    · rename_i hm
      split at h
      · exact absurd h (by simp)
      · rename_i hc
        cases hv : digitsVal 0 (s.drop 1) with
        | none => rw [hv] at h; exact absurd h (by simp)
        | some u =>
          rw [hv] at h
          simp only at h
          split at h
          · rename_i hu
            have hn : -(u : Int) = n := by simpa using h
            have hd := dec_val (s.drop 1) (fun e => hc (.inl e)) (.inr fun e => hc (.inr (.inr e))) u hv
            have hu0 : u ≠ 0 := by
              rintro rfl
              apply hc; right; right; rw [← hd, decDigits, dif_pos (by omega)]; rfl
            refine ⟨⟨by omega, by omega⟩, ?_⟩
            unfold itoa
            rw [if_pos (by omega), show n.natAbs = u by omega, hd]
            cases s with
            | nil => exact absurd hm (by simp)
            | cons a t => have : a = 45 := by simpa using hm
                          rw [this]; rfl
          · exact absurd h (by simp)
    · rename_i hm
      split at h
      · exact absurd h (by simp)
      · rename_i hc
        cases hv : digitsVal 0 s with
        | none => rw [hv] at h; exact absurd h (by simp)
        | some u =>
          rw [hv] at h
          simp only at h
          split at h
          · rename_i hu
            have hn : (u : Int) = n := by simpa using h
            have hs0 : s ≠ [] := fun e => hc (.inl e)
            have hl : 1 ≤ s.length := by cases s with | nil => exact absurd rfl hs0 | cons a t => simp
            have hd := dec_val s hs0 (by
              by_cases h1 : s.length = 1
              · exact .inl h1
              · exact .inr fun e => hc (.inr (.inr ⟨e, by omega⟩))) u hv
            refine ⟨⟨by omega, by omega⟩, ?_⟩
            unfold itoa
            rw [if_neg (by omega), show n.toNat = u by omega, hd]
          · exact absurd h (by simp)
  · rintro ⟨⟨h1, h2⟩, rfl⟩
    unfold itoa
    by_cases hn : n < 0
    · rw [if_pos hn]
      have hl : (decDigits n.natAbs).length ≤ 19 := by rw [dec_length]; exact nDigits_le 19 _ (by omega) (by omega)
      rw [if_pos (by rfl)]
      simp only [List.drop_succ_cons, List.drop_zero]
      rw [if_neg (by
        rintro (h | h | h)
        · exact dec_ne _ h
        · omega
        · have := dec_head _ h; omega), val_dec]
      simp only
      rw [if_pos (by omega)]; congr 1; omega
    · rw [if_neg hn, if_neg (dec_head45 _)]
      have hl : (decDigits n.toNat).length ≤ 19 := by rw [dec_length]; exact nDigits_le 19 _ (by omega) (by omega)
      rw [if_neg (by
        rintro (h | h | ⟨h, h'⟩)
        · exact dec_ne _ h
        · omega
        · have := dec_head _ h
          rw [this, decDigits, dif_pos (by omega)] at h'
          simp at h'), val_dec]
      simp only
      rw [if_pos (by omega)]; congr 1; omega

/-- taprootref31.Number's loop. -/
def over (n d : Int) : Bool := decide (n > 922337203685477580) || decide (n < -922337203685477580) || (decide (n = 922337203685477580) && decide (d > 7)) || (decide (n = -922337203685477580) && decide (d < -8))

def digOf (m : Bool) (b : UInt8) : Int := if m then -((b.toNat : Int) - 48) else (b.toNat : Int) - 48

def numG (m : Bool) : Int → List UInt8 → Option Int
  | n, [] => some n
  | n, b :: l => if isDigit b then if over n (digOf m b) then none else numG m (n * 10 + digOf m b) l else none

theorem numG_in {m : Bool} : ∀ (l : List UInt8) (n r : Int), In64 n → numG m n l = some r → In64 r
  | [], n, r, h, e => by simp only [numG, Option.some.injEq] at e; rw [← e]; exact h
  | b :: l, n, r, h, e => by
    rw [numG] at e
    split at e
    · rename_i hb
      split at e
      · exact absurd e (by simp)
      · rename_i ho
        refine numG_in l _ r ?_ e
        unfold isDigit at hb; simp at hb
        unfold over at ho; simp at ho
        unfold In64 digOf at *
        split <;> rename_i hm <;> simp [hm] at ho <;> omega
    · exact absurd e (by simp)

theorem numG_append {m : Bool} : ∀ (a : List UInt8) (n : Int) (l : List UInt8), numG m n (a ++ l) = (numG m n a).bind fun r => numG m r l
  | [], _, _ => rfl
  | b :: a, n, l => by
    rw [List.cons_append, numG, numG]
    split
    · split
      · rfl
      · exact numG_append a _ l
    · rfl

def sgn (m : Bool) (u : Nat) : Int := if m then -(u : Int) else u

theorem numG_dec (m : Bool) : ∀ u : Nat, In64 (sgn m u) → numG m 0 (decDigits u) = some (sgn m u) := by
  intro u
  induction u using Nat.strongRecOn with
  | _ u ih =>
    intro hi
    rw [decDigits]
    split
    · rename_i h
      rw [numG, dig_is u h, if_pos rfl, numG, if_neg (by unfold over digOf; rw [dig_toNat u h]; cases m <;> simp <;> omega)]
      unfold digOf sgn; rw [dig_toNat u h]; cases m <;> simp <;> omega
    · rename_i h
      have hd : u % 10 < 10 := by omega
      have h1 : In64 (sgn m (u / 10)) := by unfold In64 sgn at *; cases m <;> simp at * <;> omega
      rw [numG_append, ih (u / 10) (by omega) h1]
      show numG m (sgn m (u / 10)) [_] = _
      rw [numG, dig_is _ hd, if_pos rfl, numG, if_neg (by unfold In64 over digOf sgn at *; rw [dig_toNat _ hd]; cases m <;> simp at * <;> omega)]
      unfold digOf sgn; rw [dig_toNat _ hd]; cases m <;> simp <;> omega

/-- taprootref31.Number. -/
def numR (s : List UInt8) : Option Int :=
  if s.length ≤ 20 then
    match numG (decide (s.head? = some 45)) 0 (if s.head? = some 45 then s.drop 1 else s) with
    | none => none
    | some n => if itoa n = s then some n else none
  else none

theorem numR_iff (s : List UInt8) (n : Int) : numR s = some n ↔ In64 n ∧ itoa n = s := by
  unfold numR
  constructor
  · intro h
    split at h
    · split at h
      · exact absurd h (by simp)
      · rename_i r hr
        split at h
        · rename_i he
          have : r = n := by simpa using h
          subst this
          exact ⟨numG_in _ 0 _ (by unfold In64; omega) hr, he⟩
        · exact absurd h (by simp)
    · exact absurd h (by simp)
  · rintro ⟨hi, rfl⟩
    have hl : (itoa n).length ≤ 20 := by
      unfold itoa In64 at *
      split
      · rw [List.length_cons, dec_length]; have := nDigits_le 19 n.natAbs (by omega) (by omega); omega
      · rw [dec_length]; have := nDigits_le 19 n.toNat (by omega) (by omega); omega
    rw [if_pos hl]
    by_cases hn : n < 0
    · have hh : (itoa n).head? = some 45 := by unfold itoa; rw [if_pos hn]; rfl
      have hd : (itoa n).drop 1 = decDigits n.natAbs := by unfold itoa; rw [if_pos hn]; rfl
      have hs : sgn true n.natAbs = n := by unfold sgn; simp; omega
      rw [if_pos hh, hd, decide_eq_true hh, numG_dec true _ (by rw [hs]; exact hi), hs]
      simp
    · have e : itoa n = decDigits n.toNat := by unfold itoa; rw [if_neg hn]
      have hh : (itoa n).head? ≠ some 45 := by rw [e]; exact dec_head45 _
      have hs : sgn false n.toNat = n := by unfold sgn; simp; omega
      rw [if_neg hh, e, decide_eq_false (by rw [← e]; exact hh), numG_dec false _ (by rw [hs]; exact hi), hs]
      simp [e]

theorem num_same (s : List UInt8) : numP s = numR s := by
  apply Option.ext
  intro n
  rw [numP_iff, numR_iff]

theorem itoa_no {n : Int} {c : UInt8} (hc : isDigit c = false) (h45 : c ≠ 45) : c ∉ itoa n := by
  unfold itoa
  intro h
  split at h
  · rcases List.mem_cons.1 h with h | h
    · exact h45 h
    · rw [dec_no _ _ h] at hc; cases hc
  · rw [dec_no _ _ h] at hc; cases hc

end Go.Proofs.YtlaaamaaabcfeaaDoor

/- Plain: ops, lines and scripts. -/
namespace Go.Proofs.YtlaaamaaabcfeaaDoor
open Go.Lib
set_option linter.unusedVariables false

/-- The words of all kinds, from 1 on. -/
def names : List (List UInt8) := [
  [97, 108, 108, 111, 99],
  [100, 114, 111, 112],
  [99, 111, 112, 121],
  [102, 114, 101, 101],
  [108, 111, 97, 100],
  [115, 116, 111, 114, 101],
  [100, 97, 116, 97],
  [115, 101, 116],
  [112, 101, 114, 115, 105, 115, 116],
  [115, 101, 116, 114, 111, 111, 116],
  [114, 111, 111, 116],
  [114, 101, 97, 100, 121],
  [99, 111, 109, 109, 105, 116],
  [99, 111, 108, 108, 101, 99, 116],
  [101, 118, 105, 99, 116],
  [97, 114, 109],
  [99, 114, 97, 115, 104],
  [99, 104, 101, 99, 107],
  [112, 114, 101, 100, 105, 99, 116],
  [115, 116, 97, 116, 115],
  [100, 117, 109, 112]]
/-- How many numbers each has; below 0: any. -/
def arities : List Int := [4, 2, 4, 2, 5, 5, 3, 4, 2, 3, 3, 0, 0, 1, 1, 1, -1, 0, 1, 0, 0]

def wordOf (k : Int) : List UInt8 := if 1 ≤ k then names.getD (k.toNat - 1) [] else []
def arityOf (k : Int) : Option Int := if 1 ≤ k then arities[k.toNat - 1]? else none

def kindFrom (w : List UInt8) : Nat → List (List UInt8) → Nat
  | _, [] => 0
  | k, a :: l => if a = w then k else kindFrom w (k + 1) l
def kindOf (w : List UInt8) : Nat := kindFrom w 1 names

def rightOp (k : Int) (n : Nat) : Bool := match arityOf k with
  | none => false
  | some a => decide (n ≤ 600) && (decide (a < 0) || decide (a = n))

def lineL (w : List UInt8) (ns : List Int) : List UInt8 := w ++ ns.flatMap fun n => 32 :: itoa n

theorem cut_nums (ns : List Int) : ∀ w, 32 ∉ w → cutGo 32 [] (lineL w ns) = w :: ns.map itoa := by
  induction ns with
  | nil => intro w hw; unfold lineL; simp only [List.flatMap_nil, List.append_nil]; rw [cutGo_last hw]; rfl
  | cons n ns ih =>
    intro w hw
    have e : lineL w (n :: ns) = w ++ 32 :: lineL (itoa n) ns := by simp [lineL, List.flatMap_cons]
    rw [e, cutGo_word hw, ih (itoa n) (itoa_no (by decide) (by decide))]; rfl

def numsGo : List (List UInt8) → Option (List Int)
  | [] => some []
  | s :: l => match numP s with
    | none => none
    | some n => match numsGo l with
      | none => none
      | some r => some (n :: r)

theorem numP_itoa {n : Int} (h : In64 n) : numP (itoa n) = some n := (numP_iff _ _).2 ⟨h, rfl⟩

theorem numsGo_itoa : ∀ ns : List Int, (∀ n ∈ ns, In64 n) → numsGo (ns.map itoa) = some ns
  | [], _ => rfl
  | n :: ns, h => by
    rw [List.map_cons, numsGo, numP_itoa (h n (by simp)), numsGo_itoa ns fun m hm => h m (by simp [hm])]

theorem numsGo_length : ∀ (l : List (List UInt8)) (r : List Int), numsGo l = some r → r.length = l.length
  | [], r, h => by simp only [numsGo, Option.some.injEq] at h; rw [← h]; rfl
  | s :: l, r, h => by
    rw [numsGo] at h
    split at h
    · exact absurd h (by simp)
    · rename_i n0 _
      split at h
      · exact absurd h (by simp)
      · rename_i r' hr
        have e : n0 :: r' = r := by simpa using h
        rw [← e, List.length_cons, List.length_cons, numsGo_length l r' hr]

theorem numsGo_in : ∀ (l : List (List UInt8)) (r : List Int), numsGo l = some r → ∀ n ∈ r, In64 n
  | [], r, h => by simp only [numsGo, Option.some.injEq] at h; rw [← h]; intro n hn; exact absurd hn (by simp)
  | s :: l, r, h => by
    rw [numsGo] at h
    split at h
    · exact absurd h (by simp)
    · rename_i n0 hn0
      split at h
      · exact absurd h (by simp)
      · rename_i r' hr
        have e : n0 :: r' = r := by simpa using h
        rw [← e]
        intro n hn
        rcases List.mem_cons.1 hn with rfl | hn
        · exact ((numP_iff _ _).1 hn0).1
        · exact numsGo_in l r' hr n hn

def parseW : List (List UInt8) → Option (Int × List Int)
  | [] => none
  | w :: l => match numsGo l with
    | none => none
    | some ns => if rightOp (kindOf w) ns.length then some (kindOf w, ns) else none

/-- The op of a line. -/
def parseL (line : List UInt8) : Option (Int × List Int) := parseW (cutGo 32 [] line)

theorem word_spaces : ∀ k : Fin 22, (32 : UInt8) ∉ wordOf (k.val : Nat) ∧ (10 : UInt8) ∉ wordOf (k.val : Nat) := by decide +kernel
theorem word_kind : ∀ k : Fin 21, kindOf (wordOf ((k.val + 1 : Nat) : Int)) = k.val + 1 ∧ wordOf ((k.val + 1 : Nat) : Int) ≠ [] ∧ (wordOf ((k.val + 1 : Nat) : Int)).head? ≠ some 35 := by decide +kernel

theorem arity_range {k a : Int} (h : arityOf k = some a) : 1 ≤ k ∧ k < 22 := by
  unfold arityOf at h
  split at h
  · rename_i h1
    obtain ⟨hl, _⟩ := List.getElem?_eq_some_iff.1 h
    have : arities.length = 21 := rfl
    omega
  · exact absurd h (by simp)

theorem right_range {k : Int} {n : Nat} (h : rightOp k n = true) : 1 ≤ k ∧ k < 22 ∧ n ≤ 600 := by
  unfold rightOp at h
  split at h
  · cases h
  · rename_i a ha
    have := arity_range ha
    simp at h
    omega

theorem parse_line {k : Int} {ns : List Int} (h : rightOp k ns.length = true) (hn : ∀ n ∈ ns, In64 n) : parseL (lineL (wordOf k) ns) = some (k, ns) := by
  have hr := right_range h
  obtain ⟨j, rfl⟩ : ∃ j : Fin 21, k = ((j.val + 1 : Nat) : Int) := ⟨⟨k.toNat - 1, by omega⟩, by simp; omega⟩
  unfold parseL
  have hs := (word_spaces ⟨j.val + 1, by omega⟩).1
  rw [cut_nums ns _ hs, parseW, numsGo_itoa ns hn]
  simp only
  rw [(word_kind j).1, if_pos h]

theorem parseW_long {l : List (List UInt8)} (h : 601 < l.length) : parseW l = none := by
  cases l with
  | nil => rfl
  | cons w l =>
    rw [parseW]
    split
    · rfl
    · rename_i ns hns
      have hl := numsGo_length _ _ hns
      rw [if_neg]
      intro hr
      have := (right_range hr).2.2
      simp at h; omega

theorem parseW_some {l : List (List UInt8)} {o : Int × List Int} (h : parseW l = some o) : rightOp o.1 o.2.length = true ∧ ∀ n ∈ o.2, In64 n := by
  cases l with
  | nil => cases h
  | cons w l =>
    rw [parseW] at h
    split at h
    · exact absurd h (by simp)
    · rename_i ns hns
      split at h
      · rename_i hr
        have e : ((kindOf w : Int), ns) = o := by simpa using h
        rw [← e]
        exact ⟨hr, numsGo_in _ _ hns⟩
      · exact absurd h (by simp)

theorem kind_nil : kindOf [] = 0 := by decide +kernel
theorem parse_nil : parseL [] = none := by
  unfold parseL
  simp only [cutGo, parseW, numsGo]
  rw [kind_nil]; rfl

/-! ### Scripts -/
/-- The ops of lines, or the number of the first one that is none. -/
def scriptGo (i : Nat) : List (List UInt8) → List (Int × List Int) ⊕ Nat
  | [] => .inl []
  | l :: ls => if l = [] ∨ l.head? = some 35 then scriptGo (i + 1) ls else match parseL l with
    | none => .inr (i + 1)
    | some o => match scriptGo (i + 1) ls with
      | .inl r => .inl (o :: r)
      | .inr n => .inr n

def scriptL (text : List UInt8) : List (Int × List Int) ⊕ Nat := scriptGo 0 (cutGo 10 [] text)

def opLine (o : Int × List Int) : List UInt8 := lineL (wordOf o.1) o.2
def textL (ops : List (Int × List Int)) : List UInt8 := ops.flatMap fun o => opLine o ++ [10]

theorem line_no {k : Int} {ns : List Int} (h : 1 ≤ k ∧ k < 22) : (10 : UInt8) ∉ lineL (wordOf k) ns := by
  obtain ⟨j, rfl⟩ : ∃ j : Fin 22, k = ((j.val : Nat) : Int) := ⟨⟨k.toNat, by omega⟩, by simp; omega⟩
  intro hm
  unfold lineL at hm
  rcases List.mem_append.1 hm with hm | hm
  · exact (word_spaces j).2 hm
  · obtain ⟨n, _, hn⟩ := List.mem_flatMap.1 hm
    rcases List.mem_cons.1 hn with hn | hn
    · exact absurd hn (by decide)
    · exact itoa_no (by decide) (by decide) hn

theorem script_text : ∀ (ops : List (Int × List Int)) (i : Nat), (∀ o ∈ ops, rightOp o.1 o.2.length = true ∧ ∀ n ∈ o.2, In64 n) → scriptGo i (cutGo 10 [] (textL ops)) = .inl ops
  | [], i, _ => by simp [textL, cutGo, scriptGo]
  | o :: ops, i, h => by
    obtain ⟨h1, h2⟩ := h o (by simp)
    have hr := right_range h1
    have e : textL (o :: ops) = opLine o ++ 10 :: textL ops := by simp [textL, List.flatMap_cons]
    have hline : opLine o = lineL (wordOf o.1) o.2 := rfl
    rw [e, hline, cutGo_word (line_no ⟨hr.1, hr.2.1⟩), scriptGo, List.nil_append, if_neg, parse_line h1 h2, script_text ops (i + 1) fun x hx => h x (by simp [hx])]
    obtain ⟨j, hj⟩ : ∃ j : Fin 21, o.1 = ((j.val + 1 : Nat) : Int) := ⟨⟨o.1.toNat - 1, by omega⟩, by simp; omega⟩
    have hw := (word_kind j).2
    rw [← hj] at hw
    rintro (hx | hx)
    · unfold lineL at hx
      exact hw.1 (List.append_eq_nil_iff.1 hx).1
    · apply hw.2
      unfold lineL at hx
      cases hc : wordOf o.1 with
      | nil => exact absurd hc hw.1
      | cons a t => rw [hc] at hx; simpa using hx

end Go.Proofs.YtlaaamaaabcfeaaDoor

/- What a slice reads as in a world, and how that stays while only new memory is written. -/
namespace Go.Proofs.YtlaaamaaabcfeaaDoor
open Go.RowKit
set_option linter.unusedVariables false

abbrev vu64 (n : Nat) : Value := .int .u64 (n : Int)
abbrev vu8 (n : Nat) : Value := .int .u8 (n : Int)

/-- The bytes of a text, as numbers; and back. -/
def bytesOf (s : ByteArray) : List Nat := s.data.toList.map UInt8.toNat
def strOf (ns : List Nat) : ByteArray := ⟨(ns.map UInt8.ofNat).toArray⟩

theorem bytesOf_length (s : ByteArray) : (bytesOf s).length = s.size := by simp [bytesOf]
theorem bytesOf_lt (s : ByteArray) : ∀ z ∈ bytesOf s, z < 256 := by
  intro z hz
  simp only [bytesOf, List.mem_map] at hz
  obtain ⟨u, _, rfl⟩ := hz
  exact u.toNat_lt
theorem strOf_bytesOf (s : ByteArray) : strOf (bytesOf s) = s := by
  have e : (UInt8.ofNat ∘ UInt8.toNat) = id := by funext u; simp
  simp [strOf, bytesOf, e]

/-- From address a on the cells hold the values vs. -/
def Cells (w : World) (a : Option Addr) (vs : List Value) : Prop :=
  vs = [] ∨ ∃ b off, a = some ⟨b, off, none⟩ ∧ ∀ i v, vs[i]? = some v → w.cell? ⟨b, off + i, none⟩ = some v

theorem Cells.nil (w : World) (a : Option Addr) : Cells w a [] := .inl rfl

theorem Cells.at {w : World} {a : Option Addr} {vs : List Value} (h : Cells w a vs) {i : Nat} (hi : i < vs.length) :
    ∃ b off, a = some ⟨b, off, none⟩ ∧ b < w.heap.size ∧ ∀ i v, vs[i]? = some v → w.cell? ⟨b, off + i, none⟩ = some v := by
  rcases h with rfl | ⟨b, off, rfl, hc⟩
  · simp at hi
  · exact ⟨b, off, rfl, World.block_lt_of_cell? _ _ (hc i _ (List.getElem?_eq_getElem hi)), hc⟩

/-- The same over a list of data, each of one cell. -/
theorem Cells.atMap {α : Type} {f : α → Value} {w : World} {a : Option Addr} {xs : List α} (h : Cells w a (xs.map f)) (d : α) {i : Nat} (hi : i < xs.length) :
    ∃ b off, a = some ⟨b, off, none⟩ ∧ b < w.heap.size ∧ ∀ i, i < xs.length → w.cell? ⟨b, off + i, none⟩ = some (f (xs.getD i d)) := by
  obtain ⟨b, off, rfl, hb, hc⟩ := h.at (i := i) (by simpa using hi)
  exact ⟨b, off, rfl, hb, fun j hj => hc j _ (by simp [hj])⟩

theorem Cells.below {w w' : World} {a : Option Addr} {vs : List Value} {B : Nat} (h : Cells w a vs) (hb : Below B w w') (hB : w.heap.size ≤ B) : Cells w' a vs := by
  rcases h with hn | ⟨b, off, rfl, hc⟩
  · exact .inl hn
  · refine .inr ⟨b, off, rfl, fun i v hi => ?_⟩
    rw [hb.cell (p := ⟨b, off + i, none⟩) (Nat.lt_of_lt_of_le (World.block_lt_of_cell? _ _ (hc i v hi)) hB)]
    exact hc i v hi

/-- A row that the call owns can be read. -/
theorem Cells.owned {w : World} {base e n cap : Nat} {a : Option Addr} {xs : List Value} (h : w.ownsRow base e 1 (.slice a n cap) n xs) : Cells w a xs := by
  rcases h.2 with ⟨_, h0⟩ | ⟨g, cap', cur, hv, _⟩
  · exact .inl (List.eq_nil_of_length_eq_zero (by have := h.1; omega))
  · refine .inr ⟨g, 0, by simp at hv; exact hv.1, fun i v hi => ?_⟩
    simp at hv
    obtain ⟨rfl, _⟩ := hv
    have := h.cells (g := g) rfl i v hi
    have ha : (⟨g, 0, none⟩ : Addr).add i = ⟨g, 0 + i, none⟩ := by unfold Addr.add; split <;> simp_all
    rwa [ha] at this

theorem Cells.drop {w : World} {b off : Nat} {vs : List Value} (h : Cells w (some ⟨b, off, none⟩) vs) (k : Nat) : Cells w (some ⟨b, off + k, none⟩) (vs.drop k) := by
  rcases h with rfl | ⟨b', off', he, hc⟩
  · exact .inl (by simp)
  · simp at he
    obtain ⟨rfl, rfl⟩ := he
    refine .inr ⟨b, off + k, rfl, fun i v hi => ?_⟩
    rw [List.getElem?_drop] at hi
    rw [Nat.add_assoc]
    exact hc _ _ hi

theorem Cells.take {w : World} {a : Option Addr} {vs : List Value} (h : Cells w a vs) (k : Nat) : Cells w a (vs.take k) := by
  rcases h with rfl | ⟨b, off, rfl, hc⟩
  · exact .inl (by simp)
  · refine .inr ⟨b, off, rfl, fun i v hi => ?_⟩
    rw [List.getElem?_take] at hi
    split at hi
    · exact hc _ _ hi
    · simp at hi

/-- The value of a slice that the call owns. -/
theorem owned_form {w : World} {base e size n : Nat} {v : Value} {xs : List Value} (h : w.ownsRow base e size v n xs) : ∃ a cap, v = .slice a n cap ∧ n ≤ cap ∧ cap ≤ maxLen := by
  rcases h.2 with ⟨rfl, rfl⟩ | ⟨g, cap, cur, rfl, _, _, h1, h2, _⟩
  · exact ⟨none, 0, rfl, Nat.le_refl _, Nat.zero_le _⟩
  · exact ⟨_, _, rfl, h1, h2⟩

theorem owned_below {w w' : World} {base e size n B : Nat} {v : Value} {xs : List Value} (h : w.ownsRow base e size v n xs) (hb : Below B w w') (hB : w.heap.size ≤ B) : w'.ownsRow base e size v n xs := by
  refine ⟨h.1, ?_⟩
  rcases h.2 with hn | ⟨g, cap, cur, rfl, h1, hg, r⟩
  · exact .inl hn
  · exact .inr ⟨g, cap, cur, rfl, h1, by rw [hb.block g (Nat.lt_of_lt_of_le (Array.getElem?_eq_some_iff.1 hg).1 hB)]; exact hg, r⟩

theorem cell_alloc_new (w : World) (cs : Array Value) (t : TypeId) (j : Nat) (v : Value) (h : cs[j]? = some v) : (w.alloc (.cells cs t)).cell? ⟨w.heap.size, j, none⟩ = some v := by
  rw [cell_of_row _ _ j cs t (0, 0) (heap_alloc_new w _)]; exact h

theorem below_alloc (w : World) (o : Obj) : Below w.heap.size w (w.alloc o) := (Below.refl _ _).alloc (Nat.le_refl _) o

theorem grown_heap {w w' : World} {v : Value} {base e size n g : Nat} {xs : List Value} {o : Obj} (hg : w.grownBy w' v.ownBlock) (ho : w.ownsRow base e size v n xs) (hb : g < base) (h : w.heap[g]? = some o) : w'.heap[g]? = some o := by
  rw [hg.block g (Array.getElem?_eq_some_iff.1 h).1 (fun c => by have := (ho.lt g c.symm).1; omega)]; exact h

theorem below_grown {B : Nat} {w w' : World} (h : w.grownBy w' none) (hB : B ≤ w.heap.size) : Below B w w' := (Below.refl B w).grown h hB (fun _ e => by cases e)

theorem made_cells (v : Value) (n : Nat) (h : v.cells = #[v]) : (madeCells v.cells (n * 1)).toList = List.replicate n v := by
  rw [h, Nat.mul_one]
  apply List.ext_getElem
  · simp [madeCells]
  · intro i h1 h2; simp [madeCells, Nat.mod_one]

/-- A slice type t of elements e: the element's zero cells, how many cells, how many bytes. -/
structure Elem (P : Program) (t e : TypeId) (z : Value) (size bytes : Nat) : Prop where
  under : P.underlying t = some (.slice e)
  info : ∃ i, P.info? e = some i ∧ i.zero = some z ∧ i.size = size ∧ i.bytes = bytes
  cells : z.cells.size = size
  pos : 0 < size

theorem Elem.mk' {P : Program} {t e : TypeId} {z : Value} {size bytes : Nat} (h1 : P.underlying t = some (.slice e)) (h2 : (P.info? e).map (fun i => (i.zero, i.size, i.bytes)) = some (some z, size, bytes)) (h3 : z.cells.size = size) (h4 : 0 < size) : Elem P t e z size bytes :=
  ⟨h1, info_parts h2, h3, h4⟩

section laws
variable {P : Program} {w : World} {ops : Array Oper} {rest : List Oper} {o : Oper} {a : Act} {Q : Exit → Act → World → Prop}

theorem grownBy_of_alloc {w w' : World} {ob : Obj} {row : Option Nat} (h : (w.alloc ob).grownBy w' row) : w.grownBy w' row :=
  ⟨h.os, h.tape, h.output, Nat.le_trans (by simp) h.size, fun k hk hr => (h.block k (by simp; omega) hr).trans (Below.heap_alloc w ob k hk)⟩

/-- 'append(xs, x)', x of one cell: it was laid into a new block of one cell just before. -/
theorem wpList_append_one {s x : Operand} {t e : TypeId} {z : Value} {bytes base n : Nat} {v u : Value} {xs : List Value} (E : Elem P t e z 1 bytes)
    (hown : w.ownsRow base e 1 v n xs) (hu : u.oneCell' = true) (hn : n < 1000000000000) (hby : bytes ≤ 64) (hbase : base ≤ w.heap.size)
    (hgd : o.guard = none) (ho : o.op = .call { callee := .builtin .append, args := #[s, x], argTypes := #[t, t] })
    (hs : a.eval s = v) (hx : a.eval x = .slice (some ⟨w.heap.size, 0, none⟩) 1 1)
    (hK : ∀ v' w', w'.ownsRow base e 1 v' (n + 1) (xs ++ [u]) → w.grownBy w' v.ownBlock → v' ≠ .slice none 0 0 → wpList P ops Q rest (a.put o.dst v') w') :
    wpList P ops Q (o :: rest) a (w.alloc (.cells #[u] e)) := by
  obtain ⟨i, h1, h2, h3, h4⟩ := E.info
  refine wpList_append_own _ hgd s x t ho base e i z 1 bytes E.under h1 h2 h3 h4 E.cells (by decide) v n xs hs (hown.alloc _) ⟨w.heap.size, 0, none⟩ 1 1 [u] hx rfl (cell_one_new w u e) (by simpa using hu) (by unfold maxLen; omega) ?_ (by simp; omega) ?_
  · have : (n + 1) * bytes ≤ 1000000000000 * 64 := Nat.mul_le_mul (by omega) hby
    omega
  · intro v' w' h1 h2 h3
    exact hK v' w' h1 (grownBy_of_alloc h2) (fun e => by have := (h3.1 e).2; omega)

/-- 'append(xs, T{..})': the element was laid into a new block just before. -/
theorem wpList_append_built {s x : Operand} {t e : TypeId} {z : Value} {size bytes base n : Nat} {v : Value} {xs : List Value} {us : Array Value} (E : Elem P t e z size bytes)
    (hown : w.ownsRow base e size v n xs) (hus : us.size = size) (hu : ∀ u ∈ us.toList, u.oneCell' = true) (hn : n < 1000000000000) (hby : bytes ≤ 64) (hbase : base ≤ w.heap.size)
    (hgd : o.guard = none) (ho : o.op = .call { callee := .builtin .append, args := #[s, x], argTypes := #[t, t] })
    (hs : a.eval s = v) (hx : a.eval x = .slice (some ⟨w.heap.size, 0, none⟩) 1 1)
    (hK : ∀ v' w', w'.ownsRow base e size v' (n + 1) (xs ++ us.toList) → w.grownBy w' v.ownBlock → v' ≠ .slice none 0 0 → wpList P ops Q rest (a.put o.dst v') w') :
    wpList P ops Q (o :: rest) a (w.alloc (.cells us e)) := by
  obtain ⟨i, h1, h2, h3, h4⟩ := E.info
  refine wpList_append_own _ hgd s x t ho base e i z size bytes E.under h1 h2 h3 h4 E.cells E.pos v n xs hs (hown.alloc _) ⟨w.heap.size, 0, none⟩ 1 1 us.toList hx (by simpa using hus) ?_ hu (by unfold maxLen; omega) ?_ (by simp; omega) ?_
  · intro j u hj
    have e : (⟨w.heap.size, 0, none⟩ : Addr).add j = ⟨w.heap.size, j, none⟩ := by unfold Addr.add; split <;> simp_all
    rw [e]
    exact cell_alloc_new w us _ j u (by simpa using hj)
  · have : (n + 1) * bytes ≤ 1000000000000 * 64 := Nat.mul_le_mul (by omega) hby
    omega
  · intro v' w' h1 h2 h3
    exact hK v' w' h1 (grownBy_of_alloc h2) (fun e => by have := (h3.1 e).2; omega)

/-- 'append(xs, ys...)', ys not nil. -/
theorem wpList_append_many {s x : Operand} {t e : TypeId} {z : Value} {size bytes base n m c : Nat} {v : Value} {xs ys : List Value} {ad : Addr} (E : Elem P t e z size bytes)
    (hown : w.ownsRow base e size v n xs) (hl : ys.length = m * size) (hys : ∀ j u, ys[j]? = some u → w.cell? (ad.add j) = some u) (h1 : ∀ u ∈ ys, u.oneCell' = true)
    (hn : n + m < 1000000000000) (hby : bytes ≤ 64) (hbase : base ≤ w.heap.size)
    (hgd : o.guard = none) (ho : o.op = .call { callee := .builtin .append, args := #[s, x], argTypes := #[t, t] })
    (hs : a.eval s = v) (hx : a.eval x = .slice (some ad) m c)
    (hK : ∀ v' w', w'.ownsRow base e size v' (n + m) (xs ++ ys) → w.grownBy w' v.ownBlock → (v' = .slice none 0 0 ↔ v = .slice none 0 0 ∧ m = 0) → wpList P ops Q rest (a.put o.dst v') w') :
    wpList P ops Q (o :: rest) a w := by
  obtain ⟨i, i1, i2, i3, i4⟩ := E.info
  refine wpList_append_own _ hgd s x t ho base e i z size bytes E.under i1 i2 i3 i4 E.cells E.pos v n xs hs hown ad m c ys hx hl hys h1 (by unfold maxLen; omega) ?_ hbase hK
  have : (n + m) * bytes ≤ 1000000000000 * 64 := Nat.mul_le_mul (by omega) hby
  omega

/-- 'make([]T, 0, n)'. -/
theorem wpList_make_cap {l c : Operand} {t e : TypeId} {z : Value} {size bytes : Nat} (E : Elem P t e z size bytes) (base n : Nat) {kl kc : IntKind} {C : Int}
    (hC : C = (n : Int)) (hn : n < 1000000000000) (hby : bytes ≤ 64) (hbase : base ≤ w.heap.size)
    (hgd : o.guard = none) (ho : o.op = .makeSlice t l c) (hl : a.eval l = .int kl 0) (hc : a.eval c = .int kc C)
    (hK : ∀ w', w'.ownsRow base e size (.slice (some ⟨w.heap.size, 0, none⟩) 0 n) 0 [] → w.grownBy w' none → wpList P ops Q rest (a.put o.dst (.slice (some ⟨w.heap.size, 0, none⟩) 0 n)) w') :
    wpList P ops Q (o :: rest) a w := by
  obtain ⟨i, i1, i2, i3, i4⟩ := E.info
  refine wpList_make_own _ hgd l c t ho base e i z size E.under i1 i2 i3 kl kc C n hl hc hC ?_ (by unfold maxLen; omega) hbase hK
  rw [i4]
  have : bytes * n ≤ 64 * 1000000000000 := Nat.mul_le_mul hby (by omega)
  omega

/-- 'make([]T, n)', T of one cell. -/
theorem wpList_make_len {l c : Operand} {t e : TypeId} {z : Value} {bytes : Nat} (E : Elem P t e z 1 bytes) (base n : Nat) {kl kc : IntKind} {L C : Int} (hz : z.cells = #[z])
    (hL : L = (n : Int)) (hC : C = (n : Int)) (hn : n < 1000000000000) (hby : bytes ≤ 64) (hbase : base ≤ w.heap.size)
    (hgd : o.guard = none) (ho : o.op = .makeSlice t l c) (hl : a.eval l = .int kl L) (hc : a.eval c = .int kc C)
    (hK : ∀ w', w'.ownsRow base e 1 (.slice (some ⟨w.heap.size, 0, none⟩) n n) n (List.replicate n z) → w.grownBy w' none → wpList P ops Q rest (a.put o.dst (.slice (some ⟨w.heap.size, 0, none⟩) n n)) w') :
    wpList P ops Q (o :: rest) a w := by
  obtain ⟨i, i1, i2, i3, i4⟩ := E.info
  refine wpList_make_full _ hgd l c t ho base e i z 1 E.under i1 i2 i3 kl kc L C n hl hc hL hC ?_ (by unfold maxLen; omega) hbase ?_
  · rw [i4]
    have : bytes * n ≤ 64 * 1000000000000 := Nat.mul_le_mul hby (by omega)
    omega
  · rw [made_cells z n hz]
    exact hK

/-- 'append(xs, ys...)', both rows that the call made, either of them nil or not. -/
theorem wpList_append_rows {s x : Operand} {t e : TypeId} {z : Value} {size bytes base base2 n m : Nat} {v v2 : Value} {xs ys : List Value} (E : Elem P t e z size bytes)
    (hown : w.ownsRow base e size v n xs) (hsrc : w.ownsRow base2 e size v2 m ys) (h1 : ∀ u ∈ ys, u.oneCell' = true)
    (hn : n + m < 1000000000000) (hby : bytes ≤ 64) (hbase : base ≤ w.heap.size)
    (hgd : o.guard = none) (ho : o.op = .call { callee := .builtin .append, args := #[s, x], argTypes := #[t, t] })
    (hs : a.eval s = v) (hx : a.eval x = v2)
    (hK : ∀ v' w', w'.ownsRow base e size v' (n + m) (xs ++ ys) → w.grownBy w' v.ownBlock → wpList P ops Q rest (a.put o.dst v') w') :
    wpList P ops Q (o :: rest) a w := by
  rcases hsrc.2 with ⟨rfl, rfl⟩ | ⟨g, cap, cur, rfl, _⟩
  · obtain ⟨i, i1, _⟩ := E.info
    have hy : ys = [] := List.eq_nil_of_length_eq_zero (by have := hsrc.1; simpa using this)
    subst hy
    refine wpList_append_own_none hgd s x t ho base e i size E.under i1 v n xs hs hown hx (hK v w (by simpa using hown) ⟨rfl, rfl, rfl, Nat.le_refl _, fun _ _ _ => rfl⟩)
  · exact wpList_append_many E hown hsrc.1 (fun j u hj => hsrc.cells (g := g) rfl j u hj) h1 hn hby hbase hgd ho hs hx (fun v' w' a b _ => hK v' w' a b)

theorem run_slice_any {t e : TypeId} {z : Value} {size bytes : Nat} (E : Elem P t e z size bytes) (ad : Option Addr) (n cap l h : Nat) (low high : Option Value)
    (hb : (Instr.sliceBounds true n cap low high none).run P w = .ok (l, h, cap) w) :
    (Instr.sliceAt t (.slice ad n cap) low high none).run P w = .ok (.slice (if cap = l then ad else ad.map (·.add (l * size))) (h - l) (cap - l)) w := by
  obtain ⟨i, i1, i2, i3, i4⟩ := E.info
  simp [Instr.sliceAt, Instr.slice, run_underlying E.under, hb, sizeOf, typeInfo, i1, i3]

theorem Cells.shift {w : World} {ad : Option Addr} {vs : List Value} (h : Cells w ad vs) (k : Nat) (c : Prop) [Decidable c] (hc : c → vs.length ≤ k) : Cells w (if c then ad else ad.map (·.add k)) (vs.drop k) := by
  split
  · rename_i hc'
    rw [List.drop_eq_nil_of_le (hc hc')]
    exact Cells.nil _ _
  · rcases h with rfl | ⟨b, off, rfl, hcs⟩
    · simp; exact Cells.nil _ _
    · have e : (⟨b, off, none⟩ : Addr).add k = ⟨b, off + k, none⟩ := by unfold Addr.add; split <;> simp_all
      simp only [Option.map_some, e]
      exact Cells.drop (.inr ⟨b, off, rfl, hcs⟩) k

/-- 'xs[lo:]'. -/
theorem wpList_slice_from {x lo : Operand} {t e : TypeId} {z : Value} {size bytes : Nat} (E : Elem P t e z size bytes) {ad : Option Addr} {n cap : Nat} {k : IntKind} {L : Int} (l : Nat) {vs : List Value}
    (hc : Cells w ad vs) (hlen : vs.length = n * size) (hL : L = (l : Int)) (hl : l ≤ n) (hn : n ≤ cap)
    (hgd : o.guard = none) (ho : o.op = .slice t x (some lo) none none) (hx : a.eval x = .slice ad n cap) (hlo : a.eval lo = .int k L)
    (hK : ∀ ad', Cells w ad' (vs.drop (l * size)) → wpList P ops Q rest (a.put o.dst (.slice ad' (n - l) (cap - l))) w) :
    wpList P ops Q (o :: rest) a w := by
  refine wpList_plain hgd fun K hK' => ?_
  subst hL
  have hr := run_slice_any (w := w) E ad n cap l n (some (.int k l)) none (by
    have : (0 : Int) ≤ (l : Int) ∧ (l : Int) ≤ (n : Int) := by omega
    simp [Instr.sliceBounds, Instr.sliceBound, asIntOf, hl, hn, Nat.le_trans hl hn])
  unfold Oper.wp
  simp only [execOp, ho, hx, hlo, Option.map_some, Option.map_none]
  simp [hr, Result.andThen]
  exact hK' _ _ (hK _ (hc.shift (l * size) (cap = l) (fun h => by rw [hlen]; exact Nat.mul_le_mul_right _ (by omega))))

/-- 'xs[:hi]'. -/
theorem wpList_slice_to {x hi : Operand} {t e : TypeId} {z : Value} {size bytes : Nat} (E : Elem P t e z size bytes) {ad : Option Addr} {n cap : Nat} {k : IntKind} {H : Int} (h : Nat) {vs : List Value}
    (hc : Cells w ad vs) (hlen : vs.length = n * size) (hH : H = (h : Int)) (hl : h ≤ n) (hn : n ≤ cap)
    (hgd : o.guard = none) (ho : o.op = .slice t x none (some hi) none) (hx : a.eval x = .slice ad n cap) (hlo : a.eval hi = .int k H)
    (hK : Cells w ad (vs.take (h * size)) → wpList P ops Q rest (a.put o.dst (.slice ad h cap)) w) :
    wpList P ops Q (o :: rest) a w := by
  refine wpList_plain hgd fun K hK' => ?_
  subst hH
  have hr := run_slice_any (w := w) E ad n cap 0 h none (some (.int k h)) (by
    have : (0 : Int) ≤ (h : Int) ∧ (h : Int) ≤ (cap : Int) := by omega
    simp [Instr.sliceBounds, Instr.sliceBound, asIntOf, hl, hn, Nat.le_trans hl hn])
  have e : (if cap = 0 then ad else ad.map (·.add (0 * size))) = ad := by
    split
    · rfl
    · cases ad <;> simp [Addr.add]
  rw [e] at hr
  unfold Oper.wp
  simp only [execOp, ho, hx, hlo, Option.map_some, Option.map_none]
  simp [hr, Result.andThen]
  exact hK' _ _ (hK (hc.take _))

/-- 'xs[lo:hi]'. -/
theorem wpList_slice_mid {x lo hi : Operand} {t e : TypeId} {z : Value} {size bytes : Nat} (E : Elem P t e z size bytes) {ad : Option Addr} {n cap : Nat} {k k' : IntKind} {L H : Int} (l h : Nat) {vs : List Value}
    (hc : Cells w ad vs) (hlen : vs.length = n * size) (hL : L = (l : Int)) (hH : H = (h : Int)) (hl : l ≤ h) (hh : h ≤ n) (hn : n ≤ cap)
    (hgd : o.guard = none) (ho : o.op = .slice t x (some lo) (some hi) none) (hx : a.eval x = .slice ad n cap) (hlo : a.eval lo = .int k L) (hhi : a.eval hi = .int k' H)
    (hK : ∀ ad', ad' = (if cap = l then ad else ad.map (·.add (l * size))) → Cells w ad' ((vs.drop (l * size)).take ((h - l) * size)) → wpList P ops Q rest (a.put o.dst (.slice ad' (h - l) (cap - l))) w) :
    wpList P ops Q (o :: rest) a w := by
  refine wpList_plain hgd fun K hK' => ?_
  subst hL
  subst hH
  have hr := run_slice_any (w := w) E ad n cap l h (some (.int k l)) (some (.int k' h)) (by
    have h1 : (0 : Int) ≤ (l : Int) ∧ (l : Int) ≤ (h : Int) := by omega
    have h2 : (0 : Int) ≤ (h : Int) ∧ (h : Int) ≤ (cap : Int) := by omega
    simp [Instr.sliceBounds, Instr.sliceBound, asIntOf, hl, Nat.le_trans hh hn])
  unfold Oper.wp
  simp only [execOp, ho, hx, hlo, hhi, Option.map_some]
  simp [hr, Result.andThen]
  exact hK' _ _ (hK _ rfl ((hc.shift (l * size) (cap = l) (fun h => by rw [hlen]; exact Nat.mul_le_mul_right _ (by omega))).take _))

/-- A struct or array type: its zero, its cells. -/
structure Agg (P : Program) (ty : TypeId) (zs : Array Value) : Prop where
  desc : ∃ d, P.underlying ty = some d ∧ (match d with | .struct _ | .array _ _ => true | _ => false) = true
  info : (P.info? ty).map (fun i => (i.zero, i.size)) = some (some (.agg zs), zs.size)

theorem Agg.size {ty : TypeId} {zs : Array Value} (A : Agg P ty zs) : (P.info? ty).map (·.size) = some zs.size := (zero_of_info A.info).2

/-- 'var x T', T a struct or an array, its address taken. -/
theorem wpList_alloc_agg {ty : TypeId} {zs : Array Value} (A : Agg P ty zs) (hgd : o.guard = none) (ho : o.op = .alloc ty)
    (hK : ∀ w', w'.heap[w.heap.size]? = some (.cells zs ty (0, 0)) → w.grownBy w' none → w'.heap.size = w.heap.size + 1 → wpList P ops Q rest (a.put o.dst (.pointer (some ⟨w.heap.size, 0, none⟩))) w') :
    wpList P ops Q (o :: rest) a w := by
  refine wpList_plain hgd fun K hK' => ?_
  have hz := (zero_of_info A.info).1
  have hr : (Instr.alloc ty true (.tuple #[])).run P w = .ok (.pointer (some ⟨w.heap.size, 0, none⟩)) (w.alloc (.cells zs ty)) := by
    simp [Instr.alloc, hz, newVar, newRow, Value.cells]
  unfold Oper.wp
  simp only [execOp, ho]
  simp [hr, Result.andThen]
  exact hK' _ _ (hK _ (heap_alloc_new w _) (World.grownBy_alloc w _ none) (by simp))

/-- A struct or an array, whole, into a block of its own. -/
theorem wpList_store_row {ty : TypeId} {zs : Array Value} (A : Agg P ty zs) {p x : Operand} {g : Nat} {t : TypeId} {old cs : Array Value} (hg : w.heap[g]? = some (.cells old t (0, 0)))
    (hs : cs.size = zs.size) (hold : old.size = cs.size) (h1 : cs.all (·.oneCell') = true)
    (hgd : o.guard = none) (ho : o.op = .store ty p x) (hp : a.eval p = .pointer (some ⟨g, 0, none⟩)) (hx : a.eval x = .agg cs)
    (hK : ∀ w', w'.heap[g]? = some (.cells cs t (0, 0)) → w.grownBy w' (some g) → w'.heap.size = w.heap.size → wpList P ops Q rest (a.put o.dst undef) w') :
    wpList P ops Q (o :: rest) a w := by
  refine wpList_plain hgd fun K hK' => ?_
  have hr := run_storeVar_row (P := P) w g t ty old cs hg (by rw [A.size, hs]) hold h1
  have hr2 : (Instr.storeAt ty (.pointer (some ⟨g, 0, none⟩)) (.agg cs)).run P w = .ok () (w.setRow g cs) := by
    simp only [Instr.storeAt, Instr.sureAddr, Sem.run_bind, Sem.run_pure, Result.andThen]
    exact hr
  unfold Oper.wp
  simp only [execOp, ho, hp, hx]
  simp only [Sem.run_bind, hr2, Result.andThen, Sem.run_pure]
  exact hK' _ _ (hK _ (setRow_heap w g old cs t _ hg) ⟨rfl, rfl, rfl, by simp, fun k _ hk => setRow_other w g k _ (fun e => hk (by rw [e]))⟩ (by simp))

/-- 'arr[i]', arr an array by value, its elements of one cell. -/
theorem wpList_index_arr {ty e : TypeId} {n : Nat} {d : TypeDesc} {x ix : Operand} {cs : Array Value} {k : IntKind} {I : Int} (i : Nat) (hu : P.underlying ty = some (.array n e)) (he : P.underlying e = some d)
    (hd : (match d with | .struct _ | .array _ _ => true | _ => false) = false) (hi : (P.info? e).map (·.size) = some 1) (hI : I = (i : Int)) (hn : i < n) {v : Value} (hv : cs[i]? = some v)
    (hgd : o.guard = none) (ho : o.op = .index ty x ix) (hx : a.eval x = .agg cs) (hix : a.eval ix = .int k I)
    (hK : wpList P ops Q rest (a.put o.dst v) w) : wpList P ops Q (o :: rest) a w := by
  refine wpList_plain hgd fun K hK' => ?_
  subst hI
  have hagg : (isAgg e).run P w = .ok false w := by
    unfold isAgg
    rw [Sem.run_bind, run_underlying he w]
    cases d <;> simp_all
  have hr : (Instr.index ty (.agg cs) (.int k i)).run P w = .ok v w := by
    cases hq : P.info? e with
    | none => simp [hq] at hi
    | some inf =>
      have hs : inf.size = 1 := by simpa [hq] using hi
      have h2 : (i : Int) < (n : Int) := by omega
      simp [Instr.index, asIntOf, run_underlying hu, sizeOf, typeInfo, hq, hs, hn, part, hagg, hv]
  unfold Oper.wp
  simp only [execOp, ho, hx, hix]
  simp [hr, Result.andThen]
  exact hK' _ _ hK

/-- '[]byte(s)': a new row. -/
theorem wpList_bytes_of {x : Operand} {src dst e : TypeId} {s : ByteArray} (h1 : P.underlying src = some .string) (h2 : P.underlying dst = some (.slice e)) (h3 : P.underlying e = some (.int .u8))
    (hgd : o.guard = none) (ho : o.op = .convert src dst x) (hx : a.eval x = .string s)
    (hK : ∀ c w', Cells w' (some ⟨w.heap.size, 0, none⟩) ((bytesOf s).map vu8) → w.grownBy w' none → w'.heap.size = w.heap.size + 1 → wpList P ops Q rest (a.put o.dst (.slice (some ⟨w.heap.size, 0, none⟩) s.size c)) w') :
    wpList P ops Q (o :: rest) a w := by
  refine wpList_plain hgd fun K hK' => ?_
  have hr := Lib.run_convert_string_bytes (P := P) w src dst e s h1 h2 h3
  unfold Oper.wp
  simp only [execOp, ho, hx]
  simp [hr, Result.andThen]
  refine hK' _ _ (hK _ _ ?_ ?_ (Lib.bytesWorld_size w e s))
  · refine .inr ⟨_, _, rfl, fun i v hi => ?_⟩
    rw [List.getElem?_map] at hi
    obtain ⟨n, hn, rfl⟩ := Option.map_eq_some_iff.1 hi
    unfold bytesOf at hn
    rw [List.getElem?_map] at hn
    obtain ⟨u, hu, rfl⟩ := Option.map_eq_some_iff.1 hn
    have hl : i < s.size := by
      have := (List.getElem?_eq_some_iff.1 hu).1
      simpa using this
    rw [Nat.zero_add, Lib.bytesWorld_cell w e s i hl]
    simp only [List.getD_eq_getElem?_getD, hu, Option.getD_some]
  · exact ⟨rfl, rfl, rfl, by rw [Lib.bytesWorld_size]; omega, fun k hk _ => Lib.bytesWorld_at_old w e s k hk⟩

/-- 'string(b)'. -/
theorem wpList_string_of {x : Operand} {src dst e : TypeId} {ad : Option Addr} {c : Nat} {ns : List Nat} (h1 : P.underlying src = some (.slice e)) (h2 : P.underlying e = some (.int .u8)) (h3 : P.underlying dst = some .string)
    (hc : Cells w ad (ns.map vu8)) (hgd : o.guard = none) (ho : o.op = .convert src dst x) (hx : a.eval x = .slice ad ns.length c)
    (hK : wpList P ops Q rest (a.put o.dst (.string (strOf ns))) w) :
    wpList P ops Q (o :: rest) a w := by
  refine wpList_plain hgd fun K hK' => ?_
  have hr : (convert src dst (.slice ad ns.length c)).run P w = .ok (.string (strOf ns)) w := by
    rcases hc with h0 | ⟨b, off, rfl, hc⟩
    · have hn : ns = [] := by simpa using h0
      subst hn
      cases ad with
      | none => rw [run_convert_bytes_nil w src e h1 h2 _ _ dst h3]; rfl
      | some d =>
        rw [run_convert_bytes_string w src dst e (some d) _ c h1 h2 h3]
        have := run_bytesToString (P := P) w d 0 c [] (by simp [loadCells, loadCellsFrom])
        simp only [List.length_nil]
        rw [this]; rfl
    · rw [run_convert_bytes_arg w src e h1 h2 b off ns.length c (ns.map (fun n : Nat => (n : Int))) (by simp) ?_ dst h3]
      · congr 2
        simp [strOfNums, strOf]
      · intro i hi
        rw [hc i (vu8 (ns.getD i 0)) (by simp [hi])]
        simp [hi]
  unfold Oper.wp
  simp only [execOp, ho, hx]
  simp [hr, Result.andThen]
  exact hK' _ _ hK
end laws

theorem below_grownBy {B : Nat} {w0 w w' : World} {base e size n : Nat} {v : Value} {xs : List Value} (h : Below B w0 w) (ho : w.ownsRow base e size v n xs) (hg : w.grownBy w' v.ownBlock) (hB : B ≤ w0.heap.size) (hb : B ≤ base) : Below B w0 w' :=
  h.grown hg (Nat.le_trans hB h.size) (fun k e => Nat.le_trans hb (ho.lt k e).1)

theorem one_cells {k : IntKind} (ns : List Nat) : ∀ u ∈ ns.map (fun n : Nat => Value.int k (n : Int)), u.oneCell' = true := by
  intro u hu
  simp only [List.mem_map] at hu
  obtain ⟨n, _, rfl⟩ := hu
  rfl

theorem vint {k : IntKind} {a b : Int} (h : a = b) : Value.int k a = Value.int k b := by rw [h]
theorem ret_int {k : IntKind} {a b : Int} (h : a = b) : Ending.returned (.int k a) = .returned (.int k b) := by rw [h]
theorem ret_bool {a b : Bool} (h : a = b) : Ending.returned (.bool a) = .returned (.bool b) := by rw [h]

end Go.Proofs.YtlaaamaaabcfeaaDoor

/- What lies in a block; which blocks have changed. -/
namespace Go.Proofs.YtlaaamaaabcfeaaDoor
open Go.RowKit
set_option linter.unusedVariables false

/-- In block g lie, from its beginning on, these cells (more may follow). -/
def RowAt (w : World) (g e : Nat) (vs : List Value) : Prop := ∃ xs : Array Value, w.heap[g]? = some (.cells xs e (0, 0)) ∧ ∃ more, xs.toList = vs ++ more

theorem RowAt.cell {w : World} {g e : Nat} {vs : List Value} (h : RowAt w g e vs) {i : Nat} {v : Value} (hi : vs[i]? = some v) : w.cell? ⟨g, i, none⟩ = some v := by
  obtain ⟨xs, hg, more, hx⟩ := h
  rw [cell_of_row _ _ i xs e (0, 0) hg, ← Array.getElem?_toList, hx, List.getElem?_append_left (List.getElem?_eq_some_iff.1 hi).1]
  exact hi
theorem RowAt.frozen {w : World} {g e : Nat} {vs : List Value} (h : RowAt w g e vs) (i : Nat) : w.frozen? ⟨g, i, none⟩ = false := by
  obtain ⟨xs, hg, _⟩ := h
  exact frozen_of_row _ _ _ _ _ hg
theorem RowAt.lt {w : World} {g e : Nat} {vs : List Value} (h : RowAt w g e vs) : g < w.heap.size := by
  obtain ⟨xs, hg, _⟩ := h
  exact (Array.getElem?_eq_some_iff.1 hg).1
theorem RowAt.keep {w w' : World} {g e : Nat} {vs : List Value} (h : RowAt w g e vs) (hk : w'.heap[g]? = w.heap[g]?) : RowAt w' g e vs := by
  obtain ⟨xs, hg, r⟩ := h
  exact ⟨xs, hk.trans hg, r⟩
theorem RowAt.set {w : World} {g e : Nat} {vs : List Value} (h : RowAt w g e vs) (i : Nat) (hi : i < vs.length) (v : Value) : RowAt (w.setCell ⟨g, i, none⟩ v) g e (vs.set i v) := by
  obtain ⟨xs, hg, more, hx⟩ := h
  refine ⟨_, heap_setCell_same w g i xs e v hg, more, ?_⟩
  rw [Array.toList_setIfInBounds, hx, List.set_append_left _ _ hi]
theorem RowAt.cells {w : World} {g e : Nat} {vs : List Value} (h : RowAt w g e vs) : Cells w (some ⟨g, 0, none⟩) vs :=
  .inr ⟨g, 0, rfl, fun i v hi => by rw [Nat.zero_add]; exact h.cell hi⟩

/-- Nothing but some blocks has changed. -/
structure Touch (L : List Nat) (w w' : World) : Prop where
  os : w'.os = w.os
  tape : w'.tape = w.tape
  output : w'.output = w.output
  size : w.heap.size ≤ w'.heap.size
  block : ∀ k, k < w.heap.size → k ∉ L → w'.heap[k]? = w.heap[k]?

theorem Touch.refl (L : List Nat) (w : World) : Touch L w w := ⟨rfl, rfl, rfl, Nat.le_refl _, fun _ _ _ => rfl⟩
theorem Touch.trans {L : List Nat} {a b c : World} (h : Touch L a b) (k : Touch L b c) : Touch L a c :=
  ⟨k.os.trans h.os, k.tape.trans h.tape, k.output.trans h.output, Nat.le_trans h.size k.size, fun i hi hn => (k.block i (Nat.lt_of_lt_of_le hi h.size) hn).trans (h.block i hi hn)⟩
theorem Touch.setCell {L : List Nat} {w : World} (p : Addr) (hp : p.block ∈ L) (u : Value) : Touch L w (w.setCell p u) :=
  ⟨rfl, rfl, rfl, by simp [World.setCell], fun k _ hn => Below.heap_setCell _ _ _ _ (fun e => hn (e ▸ hp))⟩
theorem Touch.below {L : List Nat} {B : Nat} {w w' : World} (h : Touch L w w') (hB : B ≤ w.heap.size) (hL : ∀ k ∈ L, B ≤ k) : Below B w w' :=
  ⟨h.os, h.tape, h.output, h.size, fun k hk => h.block k (by omega) (fun hm => by have := hL k hm; omega)⟩
theorem Touch.ofBelow {L : List Nat} {w w' : World} (h : Below w.heap.size w w') : Touch L w w' := ⟨h.os, h.tape, h.output, h.size, fun k hk _ => h.block k hk⟩

end Go.Proofs.YtlaaamaaabcfeaaDoor

/- Regions that draw their order: operations that only read, then one new row that may come earlier, then operations in a forced order: one walk in the text's order serves every order. And a class of worlds for reading regions with calls that make memory. -/
namespace Go.Proofs.YtlaaamaaabcfeaaDoor
open Go.RowKit
set_option linter.unusedVariables false

/-- Worlds in which all that was there is as it was. -/
structure Later (w : World) where
  val : World
  below : Below w.heap.size w val
instance (w : World) : Nonempty (Later w) := ⟨⟨w, Below.refl _ _⟩⟩

theorem later_cell {w : World} {p : Addr} {v : Value} (h : w.cell? p = some v) (x : Later w) : x.val.cell? p = some v := by
  rw [x.below.cell (World.block_lt_of_cell? _ _ h)]; exact h

section
variable {P : Program} {ops : Array Oper} {md : Region.Mode} {C : World → Prop} {Q : Exit → Act → World → Prop}

/-- A region whose operations and callees give one value each in every later world. -/
theorem wp_region_later {id : Nat} {a : Act} {w : World} {l : List Oper} (hm : P.follows .mixedOrders = true) (hB : Region.lexB .any l.toArray = true)
    (h : wpQuiet P l.toArray (fun w' => ∃ x : Later w, w' = x.val) (fun a' => ∀ w', (∃ x : Later w, w' = x.val) → Q .normal a' w') l a) : (Code.region id l.toArray true).wp P Q a w :=
  wp_region_quiet (C := fun w' => ∃ x : Later w, w' = x.val) hm hB ⟨⟨w.drew, (Below.refl _ _).drew⟩, rfl⟩ (by simpa using h)

/-- A callee's contract, met in a later world. -/
theorem calls_later {f : FuncId} {args : Array Value} {w : World} {x : Later w} {v : Value} (h : Calls P f args x.val fun e w' => e = .returned v ∧ Below x.val.heap.size x.val w') :
    Calls P f args x.val fun e w'' => e = .returned v ∧ ∃ y : Later w, w'' = y.val :=
  h.mono fun _ w' ⟨he, hb⟩ => ⟨he, ⟨w', x.below.trans (hb.mono x.below.size)⟩, rfl⟩

theorem owned_some {w : World} {base e size n : Nat} {v : Value} {xs : List Value} (h : w.ownsRow base e size v n xs) (hn : 0 < n) : ∃ g c, v = .slice (some ⟨g, 0, none⟩) n c ∧ n ≤ c ∧ c ≤ maxLen ∧ base ≤ g ∧ g < w.heap.size := by
  rcases h.2 with ⟨rfl, rfl⟩ | ⟨g, cap, cur, rfl, hb, hg, h1, h2, _⟩
  · omega
  · exact ⟨_, _, rfl, h1, h2, hb, (Array.getElem?_eq_some_iff.1 hg).1⟩

/-- 'append(xs, x)', the element laid into a new block just before: the slice that comes out is written out. -/
theorem wpList_append_new {w : World} {rest : List Oper} {o : Oper} {a : Act} {s x : Operand} {t e : TypeId} {z : Value} {size bytes base n : Nat} {v : Value} {xs : List Value} {us : Array Value} (E : Elem P t e z size bytes)
    (hown : w.ownsRow base e size v n xs) (hus : us.size = size) (hu : ∀ u ∈ us.toList, u.oneCell' = true) (hn : n < 1000000000000) (hby : bytes ≤ 64) (hbase : base ≤ w.heap.size)
    (hgd : o.guard = none) (ho : o.op = .call { callee := .builtin .append, args := #[s, x], argTypes := #[t, t] })
    (hs : a.eval s = v) (hx : a.eval x = .slice (some ⟨w.heap.size, 0, none⟩) 1 1)
    (hK : ∀ g c w', w'.ownsRow base e size (.slice (some ⟨g, 0, none⟩) (n + 1) c) (n + 1) (xs ++ us.toList) → w.grownBy w' v.ownBlock → n + 1 ≤ c → c ≤ maxLen → base ≤ g → g < w'.heap.size →
      wpList P ops Q rest (a.put o.dst (.slice (some ⟨g, 0, none⟩) (n + 1) c)) w') :
    wpList P ops Q (o :: rest) a (w.alloc (.cells us e)) := by
  refine wpList_append_built E hown hus hu hn hby hbase hgd ho hs hx ?_
  intro v' w' h1 h2 _
  obtain ⟨g, c, rfl, hc, hm, hb, hg⟩ := owned_some h1 (by omega)
  exact hK g c w' h1 h2 hc hm hb hg

/-- Operations that neither call nor write. -/
def calm : Op → Bool
  | .move _ | .assign _ | .pick .. | .build .. | .load .. | .unOp .. | .slice .. | .fieldAddr .. | .field .. | .indexAddr .. | .index .. | .extract .. | .binOp .. | .convert .. | .nilCheck _ => true
  | .call { callee := .builtin .len, .. } => true
  | _ => false

theorem calm_value {o : Oper} (h : calm o.op = true) {ρ : Operand → Value} {w w' : World} {n : Next} (hr : (execOp ρ o).run P w = .ok n w') : ∃ v, n = .value v := by
  have key : ∀ (s : Sem Value), (do pure (Next.value (← s)) : Sem Next).run P w = .ok n w' → ∃ v, n = .value v := by
    intro s hs
    rw [Sem.run_bind] at hs
    cases hq : s.run P w with
    | ok v w1 => rw [hq] at hs; simp [Result.andThen] at hs; exact ⟨v, hs.1.symm⟩
    | halt x w1 => rw [hq] at hs; simp [Result.andThen] at hs
  obtain ⟨dst, op, type, pos, after, guard⟩ := o
  cases op with
  | move x => simp [execOp] at hr; exact ⟨_, hr.1.symm⟩
  | assign x => simp [execOp] at hr; exact ⟨_, hr.1.symm⟩
  | pick c x y =>
    simp only [execOp, Sem.run_bind] at hr
    cases hq : (asBool (ρ c)).run P w with
    | ok v w1 => rw [hq] at hr; simp [Result.andThen] at hr; exact ⟨_, hr.1.symm⟩
    | halt x w1 => rw [hq] at hr; simp [Result.andThen] at hr
  | call c =>
    obtain ⟨callee, args, tys⟩ := c
    cases callee with
    | builtin b =>
      cases b with
      | len =>
        simp only [execOp, resolve, Sem.run_bind, Sem.run_pure, Result.andThen_ok, invoke, builtin] at hr
        exact key _ (by rw [Sem.run_bind]; exact hr)
      | _ => simp [calm] at h
    | _ => simp [calm] at h
  | build t ps => exact key _ hr
  | load t x => exact key _ hr
  | unOp x t y => exact key _ hr
  | slice t x l h m => exact key _ hr
  | fieldAddr t x f => exact key _ hr
  | field t x f => exact key _ hr
  | indexAddr t x i => exact key _ hr
  | index t x i => exact key _ hr
  | extract x i => exact key _ hr
  | binOp o t x y u => exact key _ hr
  | convert x y z => exact key _ hr
  | nilCheck x =>
    simp only [execOp] at hr
    split at hr
    · simp [go_sem] at hr
    · simp [go_sem] at hr
    · simp [go_sem] at hr
    · split at hr
      · simp [go_sem] at hr
      · simp only [Sem.run_bind] at hr
        cases hq : (program : Sem Program).run P w with
        | ok v w1 =>
          rw [hq] at hr
          simp only [Result.andThen] at hr
          split at hr
          · rename_i a w2 _
            by_cases hc : (a != some false) = true
            · rw [if_pos hc] at hr; simp [go_sem] at hr
            · rw [if_neg hc] at hr; simp at hr; exact ⟨_, hr.1.symm⟩
          · cases hr
        | halt x w1 => rw [hq] at hr; simp [Result.andThen] at hr
      · simp at hr; exact ⟨_, hr.1.symm⟩
    · simp at hr; exact ⟨_, hr.1.symm⟩
  | _ => simp [calm] at h

theorem buildSlice_world {t : TypeId} {len : Nat} {parts : Array (Nat × Value)} {w w' : World} {v : Value} (h : (Instr.buildSlice t len parts).run P w = .ok v w') : ∃ ob, w' = w.alloc ob := by
  unfold Instr.buildSlice at h
  rw [Sem.run_bind] at h
  cases hd : P.underlying t with
  | none => simp [underlying, hd, Result.andThen] at h
  | some d =>
    rw [run_underlying hd w] at h
    cases d <;> simp [Result.andThen] at h
    rename_i elem
    cases hi : P.info? elem with
    | none => simp [sizeOf, typeInfo, hi, Result.andThen] at h
    | some inf =>
      simp [sizeOf, typeInfo, hi, Result.andThen] at h
      have key : ∀ x : Option (Array Value), Sem.run P (match x with | some cells => (fun a => Value.slice (some a) len len) <$> newRow elem cells | _ => stuck "buildSlice: a part of the wrong size") w = Result.ok v w' → ∃ ob, w' = w.alloc ob := by
        intro x hx
        cases x with
        | none => simp at hx
        | some c =>
          simp [newRow] at hx
          exact ⟨_, hx.2.symm⟩
      split at h
      · cases h
      · split at h
        · exact key _ h
        · cases hz : inf.zero with
          | none => simp [zeroValue, typeInfo, hi, hz] at h
          | some z =>
            simp [zeroValue, typeInfo, hi, hz] at h
            exact key _ h

/-- A new row of written elements. -/
def rowB : Op → Bool
  | .buildSlice .. => true
  | _ => false

theorem rowB_world {o : Oper} (h : rowB o.op = true) {ρ : Operand → Value} {w w' : World} {n : Next} (hr : (execOp ρ o).run P w = .ok n w') : ∃ v ob, n = .value v ∧ w' = w.alloc ob := by
  obtain ⟨dst, op, type, pos, after, guard⟩ := o
  cases op with
  | buildSlice t len parts =>
    simp only [execOp] at hr
    rw [Sem.run_bind] at hr
    cases hq : (Instr.buildSlice t len (parts.map fun (i, x) => (i, ρ x))).run P w with
    | ok v w1 =>
      rw [hq] at hr
      simp [Result.andThen] at hr
      obtain ⟨ob, hob⟩ := buildSlice_world hq
      exact ⟨v, ob, hr.1.symm, by rw [← hr.2]; exact hob⟩
    | halt x w1 => rw [hq] at hr; simp [Result.andThen] at hr
  | _ => simp [rowB] at h

/-- Does j wait for i, directly or through others? -/
def waitsFor (md : Region.Mode) (ops : Array Oper) : Nat → Nat → Nat → Bool
  | 0, _, _ => false
  | f + 1, j, i => match ops[j]? with
    | none => false
    | some o => o.after.toList.any fun e => Region.binds md e && (e.on == i || waitsFor md ops f e.on i)

/-- What has come up has all that it waits for behind it. -/
def Shut (md : Region.Mode) (ops : Array Oper) (listed : Array Bool) : Prop :=
  ∀ j o, ops[j]? = some o → listed.getD j false = true → ∀ e ∈ o.after, Region.binds md e = true → listed.getD e.on false = true

theorem waitsFor_listed {listed : Array Bool} (hs : Shut md ops listed) : ∀ (f j i : Nat) (o : Oper), ops[j]? = some o → (∀ e ∈ o.after, Region.binds md e = true → listed.getD e.on false = true) →
    waitsFor md ops f j i = true → listed.getD i false = true := by
  intro f
  induction f with
  | zero => intro j i o _ _ h; simp [waitsFor] at h
  | succ f ih =>
    intro j i o ho hp h
    simp only [waitsFor, ho, List.any_eq_true, Array.mem_toList_iff, Bool.and_eq_true, Bool.or_eq_true, beq_iff_eq] at h
    obtain ⟨e, he, hb, h⟩ := h
    have h1 := hp e he hb
    rcases h with rfl | h
    · exact h1
    · cases hq : ops[e.on]? with
      | none => cases f <;> simp [waitsFor, hq] at h
      | some oe => exact ih e.on i oe hq (hs e.on oe hq h1) h

theorem Shut.set {listed : Array Bool} (hs : Shut md ops listed) {i : Nat} (hi : i ∈ Region.ready md ops listed) : Shut md ops (listed.setIfInBounds i true) := by
  intro j o ho hj e he hb
  by_cases hij : i = j
  · subst hij
    obtain ⟨_, o', ho', hall⟩ := mem_ready.1 hi
    rw [ho] at ho'
    cases ho'
    exact getD_set_true (hall e he hb)
  · rw [getD_set_ne false hij] at hj
    exact getD_set_true (hs j o ho hj e he hb)

/-- Whatever order is picked from here on; behind each operation that is 'loose' the world is of the class. -/
def wpAnyF (P : Program) (md : Region.Mode) (ops : Array Oper) (Q : Exit → Act → World → Prop) (C : World → Prop) (loose : Nat → Bool) : Nat → Array Bool → Act → World → Prop
  | 0, listed, a, w => Region.ready md ops listed = [] ∧ Q .normal a w
  | fuel + 1, listed, a, w =>
    (Region.ready md ops listed = [] → Q .normal a w) ∧
    ∀ i ∈ Region.ready md ops listed, wpOp P ops Q i (fun a' w' => (loose i = true → C w') ∧ wpAnyF P md ops Q C loose fuel (listed.setIfInBounds i true) a' w') a w

theorem wpAny_of_F {loose : Nat → Bool} : ∀ (fuel : Nat) (listed : Array Bool) (a : Act) (w : World), wpAnyF P md ops Q C loose fuel listed a w → wpAny P md ops Q fuel listed a w
  | 0, _, _, _, h => h
  | fuel + 1, _, _, _, h => ⟨h.1, fun i hi => wpOp_mono (fun a' w' h' => wpAny_of_F fuel _ a' w' h'.2) (h.2 i hi)⟩

/-- In every world of the class o leaves v, and the world as it was. -/
def Stays (P : Program) (ops : Array Oper) (C : World → Prop) (o : Oper) (v : Value) (a : Act) : Prop :=
  (Region.wanted o (yielded ops a.tmps) = true ∧ ∀ w, C w → (execOp a.eval o).run P w = .ok (.value v) w) ∨ (Region.wanted o (yielded ops a.tmps) = false ∧ v = undef)

theorem Stays.same {o : Oper} {v : Value} {a a' : Act} (hy : Stays P ops C o v a) (he : execOp a'.eval o = execOp a.eval o) (hw : Region.wanted o (yielded ops a'.tmps) = Region.wanted o (yielded ops a.tmps)) : Stays P ops C o v a' := by
  unfold Stays at *; rw [he, hw]; exact hy

theorem Stays.wpOp {i : Nat} {o : Oper} {v : Value} {a : Act} (hi : ops[i]? = some o) (hy : Stays P ops C o v a) {K : Act → World → Prop} {w : World} (hC : C w) (h : K (a.put o.dst v) w) : wpOp P ops Q i K a w := by
  unfold Go.wpOp
  simp only [hi]
  rcases hy with ⟨hw, hv⟩ | ⟨hw, rfl⟩
  · simp only [hw, if_true, Oper.wp, hv w hC, Oper.upon]; exact .inl h
  · simp only [hw, Bool.false_eq_true, if_false]; exact h

theorem wpOp_putF {j : Nat} {oi oj : Oper} {v : Value} (hj : ops[j]? = some oj) (hap : oi.apart ops oj = true)
    (hsi : ∀ cs b, oi.op ≠ .select cs b) (hsj : ∀ cs b, oj.op ≠ .select cs b) (hQ : ∀ c a d v w, Q (.panic c) (a.put d v) w → Q (.panic c) a w) {K : Act → World → Prop} {a : Act} {w : World}
    (hy : Stays P ops C oi v a) (h : wpOp P ops Q j K (a.put oi.dst v) w) :
    wpOp P ops Q j (fun a' w' => Stays P ops C oi v a' ∧ K (a'.put oi.dst v) w') a w := by
  obtain ⟨h1, h2, h3⟩ := Oper.apart_spec hap
  have keep : ∀ (a : Act), Stays P ops C oi v a → ∀ u, Stays P ops C oi v (a.put oj.dst u) := fun a hy u => hy.same (execOp_put oi hsi a oj.dst u h3) (wanted_put oi a oj.dst u h3)
  have keepD : ∀ d, Stays P ops C oi v { a with defers := d :: a.defers } := fun d => hy.same rfl rfl
  unfold Go.wpOp at *
  simp only [hj] at *
  rw [wanted_put oj a oi.dst v h1] at h
  split
  · rename_i hw
    simp only [hw, if_true] at h
    rcases h with h | ⟨hasks, hlets⟩
    case inr => exact .inr ⟨by unfold Oper.asks at *; rw [execOp_put oj hsj a oi.dst v h1] at hasks; exact hasks, hlets⟩
    refine .inl ?_
    unfold Oper.wp at *
    rw [execOp_put oj hsj a oi.dst v h1] at h
    generalize (execOp a.eval oj).run P w = r at *
    cases r with
    | ok n w' =>
      cases n <;> simp only [Oper.upon] at h ⊢
      case value u => exact ⟨keep a hy u, by rw [← Act.put_comm a v u h2]; exact h⟩
      case skip => exact ⟨keep a hy _, by rw [← Act.put_comm a v undef h2]; exact h⟩
      case defer d =>
        refine ⟨keep _ (keepD d) _, ?_⟩
        rw [← Act.put_comm _ v undef h2, ← Act.put_defers]
        exact h
      case enter f args =>
        refine Calls.mono h fun e w'' he => ?_
        cases e with
        | returned u => exact ⟨keep a hy u, by rw [← Act.put_comm a v u h2]; exact he⟩
        | panicked c => exact hQ _ _ _ _ _ he
        | outgrown => exact he
      case row row args => exact Rows.mono h fun u w'' he => ⟨keep a hy u, by rw [← Act.put_comm a v u h2]; exact he⟩
    | halt x w' =>
      cases x <;> simp only [Oper.upon] at h ⊢
      case panic u => exact hQ _ _ _ _ _ h
  · rename_i hw
    simp only [hw] at h
    exact ⟨keep a hy _, by rw [← Act.put_comm a v undef h2]; exact h⟩

/-- Such an operation may be taken first, if whatever may come ahead of it is loose. -/
theorem wpAnyF_first {loose : Nat → Bool} {i f : Nat} {oi : Oper} {v : Value} (hi : ops[i]? = some oi) (hsel : ∀ (j : Nat) (o : Oper) cs b, ops[j]? = some o → o.op ≠ .select cs b)
    (hQ : ∀ c a d v w, Q (.panic c) (a.put d v) w → Q (.panic c) a w) (hl : ∀ j oj, ops[j]? = some oj → j ≠ i → waitsFor md ops f j i = true ∨ loose j = true) :
    ∀ (fuel : Nat) (listed : Array Bool) (a : Act) (w : World),
      (∀ j oj, ops[j]? = some oj → j ≠ i → listed.getD j true = false → (∀ e ∈ oj.after, Region.binds md e = true → e.on ≠ i) → oi.apart ops oj = true) →
      i ∈ Region.ready md ops listed → Shut md ops listed → Stays P ops C oi v a → C w →
      wpAnyF P md ops Q C loose fuel (listed.setIfInBounds i true) (a.put oi.dst v) w → wpAnyF P md ops Q C loose (fuel + 1) listed a w := by
  intro fuel
  induction fuel with
  | zero =>
    intro listed a w _ hr _ hy hC H
    refine ⟨fun h => (by rw [h] at hr; cases hr), fun j hj => ?_⟩
    by_cases hji : j = i
    · subst hji; exact hy.wpOp hi hC ⟨fun _ => hC, H⟩
    · have := ready_mono hj hji
      rw [H.1] at this
      cases this
  | succ fuel ih =>
    intro listed a w hfree hr hsh hy hC H
    refine ⟨fun h => (by rw [h] at hr; cases hr), fun j hj => ?_⟩
    by_cases hji : j = i
    · subst hji; exact hy.wpOp hi hC ⟨fun _ => hC, H⟩
    · have h1 := H.2 j (ready_mono hj hji)
      obtain ⟨hjun, oj, hoj, hall⟩ := mem_ready.1 hj
      have hiun : listed.getD i false = false := by
        have h0 := (mem_ready.1 hr).1
        rcases Nat.lt_or_ge i listed.size with h' | h'
        · simp [h'] at h0 ⊢; exact h0
        · simp [Array.getElem?_eq_none h']
      have hnot : ∀ e ∈ oj.after, Region.binds md e = true → e.on ≠ i := fun e he hb heq => by
        have h1 := hall e he hb
        rw [heq, hiun] at h1
        cases h1
      have hlo : loose j = true := by
        rcases hl j oj hoj hji with h | h
        · have := waitsFor_listed hsh f j i oj hoj hall h
          rw [hiun] at this
          cases this
        · exact h
      have h2 := wpOp_putF (C := C) hoj (hfree j oj hoj hji hjun hnot) (fun cs b => hsel i oi cs b hi) (fun cs b => hsel j oj cs b hoj) hQ hy h1
      have hfree' : ∀ k ok, ops[k]? = some ok → k ≠ i → (listed.setIfInBounds j true).getD k true = false →
          (∀ e ∈ ok.after, Region.binds md e = true → e.on ≠ i) → oi.apart ops ok = true := fun k ok hk hki hun hno => by
        refine hfree k ok hk hki ?_ hno
        by_cases hjk : j = k
        · subst hjk; exact hjun
        · rw [getD_set_ne true hjk] at hun; exact hun
      refine wpOp_mono (fun a' w' h3 => ⟨h3.2.1, ih (listed.setIfInBounds j true) a' w' hfree' (ready_mono hr (Ne.symm hji)) (hsh.set hj) h3.1 (h3.2.1 hlo) ?_⟩) h2
      rw [Array.setIfInBounds_comm _ _ hji]
      exact h3.2.2

/-- The operations from k on come up one by one, in the text's order. -/
def tailFrom (md : Region.Mode) (ops : Array Oper) : Nat → Nat → Array Bool → Bool
  | 0, _, listed => (Region.ready md ops listed).isEmpty
  | f + 1, k, listed => (Region.ready md ops listed == [k]) && tailFrom md ops f (k + 1) (listed.setIfInBounds k true)

/-- The first n operations, and a new row behind them, may float. -/
def looseAt (ops : Array Oper) (n j : Nat) : Bool := decide (j < n) || (j == n && (match ops[n]? with | some o => rowB o.op | none => false))

def headFrom (md : Region.Mode) (ops : Array Oper) (n : Nat) : Nat → Nat → Array Bool → Bool
  | 0, k, listed => tailFrom md ops (ops.size - k) k listed
  | m + 1, k, listed => (Region.ready md ops listed).contains k && Region.free md ops listed k && (match ops[k]? with | some o => calm o.op | none => false) &&
      ((List.range ops.size).all fun j => j == k || waitsFor md ops ops.size j k || looseAt ops n j) && headFrom md ops n m (k + 1) (listed.setIfInBounds k true)

def floatB (md : Region.Mode) (ops : Array Oper) (n : Nat) : Bool := Region.noSelect ops && headFrom md ops n n 0 (Array.replicate ops.size false)

theorem tail_ok {n : Nat} (hA : ∀ w ob, C w → C (w.alloc ob)) : ∀ (l : List Oper) (k : Nat) (listed : Array Bool) (a : Act) (w : World), (∀ j, l[j]? = ops[k + j]?) → n ≤ k → (k = n → C w) →
    tailFrom md ops l.length k listed = true → wpList P ops Q l a w → wpAnyF P md ops Q C (looseAt ops n) l.length listed a w
  | [], _, _, _, _, _, _, _, hB, h => ⟨by simpa [tailFrom] using hB, h⟩
  | o :: l, k, listed, a, w, hl, hk, hC, hB, h => by
    have h0 : ops[k]? = some o := by simpa using (hl 0).symm
    simp only [List.length_cons, tailFrom, Bool.and_eq_true, beq_iff_eq] at hB
    obtain ⟨hr, hB'⟩ := hB
    refine ⟨fun he => (by rw [hr] at he; cases he), fun i hi => ?_⟩
    rw [hr] at hi
    obtain rfl : i = k := by simpa using hi
    have hnext : ∀ a' w', wpList P ops Q l a' w' → wpAnyF P md ops Q C (looseAt ops n) l.length (listed.setIfInBounds i true) a' w' := fun a' w' h' =>
      tail_ok hA l (i + 1) _ a' w' (fun j => by have := hl (j + 1); simpa [Nat.add_assoc, Nat.add_comm 1 j] using this) (by omega) (by omega) hB' h'
    by_cases hlo : looseAt ops n i = true
    · have hin : i = n ∧ rowB o.op = true := by
        simp only [looseAt, Bool.or_eq_true, decide_eq_true_eq, Bool.and_eq_true, beq_iff_eq] at hlo
        rcases hlo with h | ⟨rfl, h⟩
        · omega
        · rw [h0] at h; exact ⟨rfl, h⟩
      have hCw := hC hin.1
      unfold wpOp
      simp only [h0]
      unfold wpList at h
      by_cases hw : Region.wanted o (yielded ops a.tmps) = true
      · rw [if_pos hw] at h ⊢
        rcases h with h | h
        · refine .inl ?_
          unfold Oper.wp at *
          cases hr : (execOp a.eval o).run P w with
          | ok m w' =>
            obtain ⟨v, ob, rfl, rfl⟩ := rowB_world hin.2 hr
            rw [hr] at h
            simp only [Oper.upon] at h ⊢
            exact ⟨fun _ => hA w ob hCw, hnext _ _ h⟩
          | halt x w' =>
            rw [hr] at h
            cases x <;> simp only [Oper.upon] at h ⊢ <;> exact h
        · exact .inr h
      · rw [if_neg hw] at h ⊢
        exact ⟨fun _ => hCw, hnext _ _ h⟩
    · unfold wpOp
      simp only [h0]
      unfold wpList at h
      by_cases hw : Region.wanted o (yielded ops a.tmps) = true
      · rw [if_pos hw] at h ⊢
        exact h.imp (Oper.wp_mono (fun a' w' h' => ⟨fun hc => absurd hc hlo, hnext _ _ h'⟩)) id
      · rw [if_neg hw] at h ⊢
        exact ⟨fun hc => absurd hc hlo, hnext _ _ h⟩

theorem head_ok {n : Nat} (hs : Region.noSelect ops = true) (hQ : ∀ c a d v w, Q (.panic c) (a.put d v) w → Q (.panic c) a w) (hA : ∀ w ob, C w → C (w.alloc ob)) {w : World} (hC : C w) :
    ∀ (m : Nat) (l : List Oper) (k : Nat) (listed : Array Bool) (a : Act), (∀ j, l[j]? = ops[k + j]?) → l.length = ops.size - k → k + m = n → Shut md ops listed → headFrom md ops n m k listed = true →
      wpQuiet P ops C (fun a' => wpList P ops Q (l.drop m) a' w) (l.take m) a → wpAnyF P md ops Q C (looseAt ops n) l.length listed a w := by
  intro m
  induction m with
  | zero =>
    intro l k listed a hl hlen hk _ hB h
    simp only [headFrom] at hB
    rw [← hlen] at hB
    exact tail_ok hA l k listed a w hl (by omega) (fun _ => hC) hB (by simpa [wpQuiet] using h)
  | succ m ih =>
    intro l k listed a hl hlen hk hsh hB h
    simp only [headFrom, Bool.and_eq_true] at hB
    obtain ⟨⟨⟨⟨hr, hf⟩, hcalm⟩, hlo⟩, hB'⟩ := hB
    cases l with
    | nil =>
      have : ops[k]? = none := by simpa using (hl 0).symm
      rw [this] at hcalm
      cases hcalm
    | cons o l =>
      have h0 : ops[k]? = some o := by simpa using (hl 0).symm
      rw [h0] at hcalm
      have hrk : k ∈ Region.ready md ops listed := by simpa using hr
      simp only [List.take_succ_cons, wpQuiet, List.drop_succ_cons] at h
      obtain ⟨v, hy, hK⟩ : ∃ v, Stays P ops C o v a ∧ wpQuiet P ops C (fun a' => wpList P ops Q (l.drop m) a' w) (l.take m) (a.put o.dst v) := by
        by_cases hw : Region.wanted o (yielded ops a.tmps) = true
        · rw [if_pos hw] at h
          obtain ⟨v, h1, h2⟩ := h
          refine ⟨v, .inl ⟨hw, fun w' hw' => ?_⟩, h2⟩
          have h3 := h1 w' hw'
          unfold Oper.quietAt at h3
          cases hq : (execOp a.eval o).run P w' with
          | ok nx w2 =>
            obtain ⟨u, rfl⟩ := calm_value hcalm hq
            rw [hq] at h3
            simp only [Oper.quietUpon] at h3
            rw [h3.1, h3.2]
          | halt x w2 => rw [hq] at h3; simp only [Oper.quietUpon] at h3
        · rw [if_neg hw] at h
          exact ⟨undef, .inr ⟨by simpa using hw, rfl⟩, h⟩
      have hloose : ∀ j oj, ops[j]? = some oj → j ≠ k → waitsFor md ops ops.size j k = true ∨ looseAt ops n j = true := by
        intro j oj hj hjk
        simp only [List.all_eq_true, List.mem_range, Bool.or_eq_true, beq_iff_eq] at hlo
        have := hlo j (Array.getElem?_eq_some_iff.1 hj).1
        rcases this with (h | h) | h
        · exact absurd h hjk
        · exact .inl h
        · exact .inr h
      exact wpAnyF_first (f := ops.size) h0 (Region.noSelect_spec hs) hQ hloose l.length listed a w (Region.free_spec h0 hf) hrk hsh hy hC
        (ih l (k + 1) _ _ (fun j => by have := hl (j + 1); simpa [Nat.add_assoc, Nat.add_comm 1 j] using this) (by simp at hlen; omega) (by omega) (hsh.set hrk) hB' hK)

theorem shut_none (n : Nat) : Shut md ops (Array.replicate n false) := by
  intro j o _ hj
  exfalso
  by_cases h : j < n <;> simp [h] at hj

/-- One walk in the text's order serves every order: n operations that only read, then (it may float ahead of them) a new row, then the rest, one by one. -/
theorem wp_region_float {id : Nat} {a : Act} {w : World} {l : List Oper} (n : Nat) (hm : P.follows .mixedOrders = true) (hB : floatB .any l.toArray n = true)
    (hQ : ∀ c a d v w, Q (.panic c) (a.put d v) w → Q (.panic c) a w)
    (h : wpQuiet P l.toArray (fun w' => ∃ x : Later w, w' = x.val) (fun a' => wpList P l.toArray Q (l.drop n) a' w.drew) (l.take n) a) : (Code.region id l.toArray true).wp P Q a w := by
  simp only [floatB, Bool.and_eq_true] at hB
  refine wp_region_any hm (wpAny_of_F (C := fun w' => ∃ x : Later w, w' = x.val) (loose := looseAt l.toArray n) _ _ _ _ ?_)
  have hCw : (fun w' => ∃ x : Later w, w' = x.val) w.drew := ⟨⟨w.drew, (Below.refl _ _).drew⟩, rfl⟩
  have hA : ∀ w1 ob, (fun w' => ∃ x : Later w, w' = x.val) w1 → (fun w' => ∃ x : Later w, w' = x.val) (w1.alloc ob) := by
    rintro w1 ob ⟨x, rfl⟩
    exact ⟨⟨_, x.below.alloc x.below.size ob⟩, rfl⟩
  have := head_ok (md := .any) (n := n) (C := fun w' => ∃ x : Later w, w' = x.val) hB.1 hQ hA (w := w.drew) hCw n l 0 (Array.replicate l.toArray.size false) a (by simp) (by simp) (by omega) (shut_none _) hB.2 h
  simpa using this

end
end Go.Proofs.YtlaaamaaabcfeaaDoor

/- Structs and arrays within rows: loaded, stored, made. -/
namespace Go.Proofs.YtlaaamaaabcfeaaDoor
open Go.RowKit
set_option linter.unusedVariables false

theorem made_same (cs : Array Value) (z : Value) (n : Nat) (h0 : 0 < cs.size) (h : ∀ i, i < cs.size → cs[i]? = some z) : (madeCells cs (n * cs.size)).toList = List.replicate (n * cs.size) z := by
  apply List.ext_getElem?
  intro i
  by_cases hi : i < n * cs.size
  · have hm : i % cs.size < cs.size := Nat.mod_lt _ h0
    have hz := h (i % cs.size) hm
    have hz' : cs[i % cs.size] = z := by
      have := Array.getElem?_eq_getElem (xs := cs) hm
      rw [this] at hz
      exact Option.some.inj hz
    simp [madeCells, hi, hz', hm]
  · simp [madeCells, hi]

theorem add_none (b off j : Nat) : (⟨b, off, none⟩ : Addr).add j = ⟨b, off + j, none⟩ := by unfold Addr.add; split <;> simp_all

section
variable {P : Program} {w : World} {ops : Array Oper} {rest : List Oper} {o : Oper} {a : Act} {Q : Exit → Act → World → Prop}

/-- A struct or an array is loaded from its cells. -/
theorem wpList_load_part {ty : TypeId} {zs : Array Value} (A : Agg P ty zs) {p : Operand} {g off : Nat} (cs : List Value) (hc : ∀ i v, cs[i]? = some v → w.cell? ⟨g, off + i, none⟩ = some v) (hs : cs.length = zs.size)
    (hgd : o.guard = none) (ho : o.op = .load ty p) (hp : a.eval p = .pointer (some ⟨g, off, none⟩))
    (hK : wpList P ops Q rest (a.put o.dst (.agg cs.toArray)) w) : wpList P ops Q (o :: rest) a w := by
  refine wpList_plain hgd fun K hK' => ?_
  obtain ⟨d, hu, hd⟩ := A.desc
  have hl : (loadCells ⟨g, off, none⟩ cs.length).run P w = .ok cs.toArray w := run_loadCells_list (P := P) w ⟨g, off, none⟩ cs (fun j v hv => by rw [add_none]; exact hc j v hv)
  have hagg : (isAgg ty).run P w = .ok true w := by
    unfold isAgg
    rw [Sem.run_bind, run_underlying hu w]
    cases d <;> simp_all
  have hsz := A.size
  have hr : (loadVar ty ⟨g, off, none⟩).run P w = .ok (.agg cs.toArray) w := by
    cases hq : P.info? ty with
    | none => simp [hq] at hsz
    | some inf =>
      have e : inf.size = cs.length := by simp [hq] at hsz; rw [hsz, hs]
      simp [loadVar, hagg, sizeOf, typeInfo, hq, e, hl]
  have hr2 : (Instr.loadAt ty (.pointer (some ⟨g, off, none⟩))).run P w = .ok (.agg cs.toArray) w := by
    simp only [Instr.loadAt, Instr.sureAddr, Sem.run_bind, Sem.run_pure, Result.andThen]
    exact hr
  unfold Oper.wp
  simp only [execOp, ho, hp]
  simp only [Sem.run_bind, hr2, Result.andThen, Sem.run_pure]
  exact hK' _ _ hK

theorem run_storeCells_row {g off t : Nat} : ∀ (cs : List Value) (i : Nat) (w : World) (vs : List Value), RowAt w g t vs → off + i + cs.length ≤ vs.length → (∀ u ∈ cs, u.oneCell' = true) →
    ∃ w', (storeCells ⟨g, off, none⟩ cs i).run P w = .ok () w' ∧ RowAt w' g t (splice vs (off + i) cs) ∧ Touch [g] w w' := by
  intro cs
  induction cs with
  | nil =>
    intro i w vs hr hl h1
    refine ⟨w, by simp [storeCells], ?_, Touch.refl _ _⟩
    simpa [splice] using hr
  | cons c cs ih =>
    intro i w vs hr hl h1
    simp only [List.length_cons] at hl
    have hlt : off + i < vs.length := by omega
    have h2 := hr.set (off + i) hlt c
    obtain ⟨w', hw', hr', ht'⟩ := ih (i + 1) (w.setCell ⟨g, off + i, none⟩ c) (vs.set (off + i) c) h2 (by simp; omega) (fun u hu => h1 u (List.mem_cons_of_mem _ hu))
    refine ⟨w', ?_, ?_, (Touch.setCell _ (by simp) _).trans ht'⟩
    · have hcell : w.cell? ⟨g, off + i, none⟩ = some (vs[off + i]) := hr.cell (List.getElem?_eq_getElem hlt)
      have hfz : w.frozen? ⟨g, off + i, none⟩ = false := hr.frozen _
      simp only [storeCells, Sem.run_bind, add_none]
      rw [run_store P w _ c .plain (h1 c (by simp))]
      simp only [hcell, hfz, Result.andThen]
      exact hw'
    · have e : splice (vs.set (off + i) c) (off + (i + 1)) cs = splice vs (off + i) (c :: cs) := by
        unfold splice
        rw [show off + (i + 1) = (off + i) + 1 by omega, List.take_set, List.drop_set_of_lt (by omega), List.length_cons, show off + i + 1 + cs.length = off + i + (cs.length + 1) by omega]
        have e1 : (vs.take (off + i + 1)).set (off + i) c = vs.take (off + i) ++ [c] := by
          have hm : min (off + i) vs.length = off + i := Nat.min_eq_left (Nat.le_of_lt hlt)
          rw [List.take_succ_eq_append_getElem hlt, List.set_append_right _ _ (by simp; omega)]
          simp [hm]
        rw [e1]
        simp
      rw [← e]; exact hr'

/-- A struct or an array is stored into a part of a row. -/
theorem wpList_store_part {ty : TypeId} {zs : Array Value} (A : Agg P ty zs) {p x : Operand} {g off t : Nat} {vs : List Value} {cs : Array Value} (hr : RowAt w g t vs) (hs : cs.size = zs.size) (hfit : off + cs.size ≤ vs.length) (h1 : ∀ u ∈ cs.toList, u.oneCell' = true)
    (hgd : o.guard = none) (ho : o.op = .store ty p x) (hp : a.eval p = .pointer (some ⟨g, off, none⟩)) (hx : a.eval x = .agg cs)
    (hK : ∀ w', RowAt w' g t (splice vs off cs.toList) → Touch [g] w w' → wpList P ops Q rest (a.put o.dst undef) w') :
    wpList P ops Q (o :: rest) a w := by
  refine wpList_plain hgd fun K hK' => ?_
  obtain ⟨w', hw', hr', ht'⟩ := run_storeCells_row (P := P) (off := off) cs.toList 0 w vs hr (by simpa using hfit) h1
  have hsz := A.size
  have hr2 : (storeVar ty ⟨g, off, none⟩ (.agg cs)).run P w = .ok () w' := by
    cases hq : P.info? ty with
    | none => simp [hq] at hsz
    | some inf =>
      have e : inf.size = cs.size := by simp [hq] at hsz; rw [hsz, hs]
      simp only [storeVar, Sem.run_bind, sizeOf, typeInfo]
      simp [hq, e, Value.cells, hw', Result.andThen]
  have hr3 : (Instr.storeAt ty (.pointer (some ⟨g, off, none⟩)) (.agg cs)).run P w = .ok () w' := by
    simp only [Instr.storeAt, Instr.sureAddr, Sem.run_bind, Sem.run_pure, Result.andThen]
    exact hr2
  unfold Oper.wp
  simp only [execOp, ho, hp, hx]
  simp only [Sem.run_bind, hr3, Result.andThen, Sem.run_pure]
  exact hK' _ _ (hK w' (by simpa using hr') ht')

/-- 'make([]T, n)', T of cells that are all alike at first. -/
theorem wpList_make_rows {l c : Operand} {t e : TypeId} {zs : Array Value} {z : Value} {bytes : Nat} (E : Elem P t e (.agg zs) zs.size bytes) (base n : Nat) {kl kc : IntKind} {L C : Int} (hz : ∀ i, i < zs.size → zs[i]? = some z)
    (hL : L = (n : Int)) (hC : C = (n : Int)) (hn : n < 1000000000000) (hby : bytes ≤ 64) (hbase : base ≤ w.heap.size)
    (hgd : o.guard = none) (ho : o.op = .makeSlice t l c) (hl : a.eval l = .int kl L) (hc : a.eval c = .int kc C)
    (hK : ∀ w', w'.ownsRow base e zs.size (.slice (some ⟨w.heap.size, 0, none⟩) n n) n (List.replicate (n * zs.size) z) → w.grownBy w' none → wpList P ops Q rest (a.put o.dst (.slice (some ⟨w.heap.size, 0, none⟩) n n)) w') :
    wpList P ops Q (o :: rest) a w := by
  obtain ⟨i, i1, i2, i3, i4⟩ := E.info
  refine wpList_make_full _ hgd l c t ho base e i (.agg zs) zs.size E.under i1 i2 i3 kl kc L C n hl hc hL hC ?_ (by unfold maxLen; omega) hbase ?_
  · rw [i4]
    have : bytes * n ≤ 64 * 1000000000000 := Nat.mul_le_mul hby (by omega)
    omega
  · have e : (madeCells (Value.agg zs).cells (n * zs.size)).toList = List.replicate (n * zs.size) z := made_same zs z n E.pos hz
    rw [e]
    exact hK

/-- A row that the call owns, as a block. -/
theorem owned_row {w : World} {base e size n g c : Nat} {vs : List Value} (h : w.ownsRow base e size (.slice (some ⟨g, 0, none⟩) n c) n vs) : RowAt w g e vs := by
  rcases h.2 with ⟨h0, _⟩ | ⟨g', cap, cur, hv, hb, hg, h1, h2, h3, h4⟩
  · cases h0
  · simp at hv
    obtain ⟨rfl, rfl⟩ := hv
    exact ⟨cur, hg, cur.toList.drop (n * size), by rw [← h4, List.take_append_drop]⟩
end

theorem below_cells {B : Nat} {w w1 : World} (hb : Below B w w1) {p : Addr} {v : Value} (h : w.cell? p = some v) (hB : w.heap.size ≤ B := by omega) : w1.cell? p = some v := by
  rw [hb.cell (Nat.lt_of_lt_of_le (World.block_lt_of_cell? _ _ h) hB)]; exact h

end Go.Proofs.YtlaaamaaabcfeaaDoor

/- The blocks that a call has made, as a list: what lies in each of them; all else is as it was. -/
namespace Go.Proofs.YtlaaamaaabcfeaaDoor
open Go.RowKit
set_option linter.unusedVariables false

/-- A block: its number, its elements' type, its first cells; are these all? -/
structure Ent where
  g : Nat
  e : Nat
  vs : List Value
  ex : Bool

def RowX (W : World) (x : Ent) : Prop := ∃ xs : Array Value, W.heap[x.g]? = some (.cells xs x.e (0, 0)) ∧ ∃ more, xs.toList = x.vs ++ more ∧ (x.ex = true → more = [])

theorem RowX.row {W : World} {x : Ent} (h : RowX W x) : RowAt W x.g x.e x.vs := by
  obtain ⟨xs, h1, more, h2, _⟩ := h
  exact ⟨xs, h1, more, h2⟩
theorem RowX.of {W : World} {g e : Nat} {vs : List Value} (h : RowAt W g e vs) : RowX W ⟨g, e, vs, false⟩ := by
  obtain ⟨xs, h1, more, h2⟩ := h
  exact ⟨xs, h1, more, h2, fun h => by cases h⟩
theorem RowX.lt {W : World} {x : Ent} (h : RowX W x) : x.g < W.heap.size := h.row.lt
theorem RowX.keep {W W' : World} {x : Ent} (h : RowX W x) (hk : W'.heap[x.g]? = W.heap[x.g]?) : RowX W' x := by
  obtain ⟨xs, h1, r⟩ := h
  exact ⟨xs, hk.trans h1, r⟩
theorem RowX.exact {W : World} {g e : Nat} {vs : List Value} (h : RowX W ⟨g, e, vs, true⟩) : W.heap[g]? = some (.cells vs.toArray e (0, 0)) := by
  obtain ⟨xs, h1, more, h2, h3⟩ := h
  have := h3 rfl
  subst this
  simp at h2
  subst h2
  simpa using h1

structure Mem (w W : World) (L : List Ent) : Prop where
  below : Below w.heap.size w W
  rows : ∀ x ∈ L, RowX W x
  base : ∀ x ∈ L, w.heap.size ≤ x.g
  nd : (L.map Ent.g).Nodup

theorem Mem.start (w : World) : Mem w w [] := ⟨Below.refl _ _, by simp, by simp, by simp⟩
theorem Mem.lt {w W : World} {L : List Ent} (h : Mem w W L) : ∀ x ∈ L, x.g < W.heap.size := fun x hx => (h.rows x hx).lt
theorem Mem.later {w W W' : World} {L : List Ent} (h : Mem w W L) (hb : Below W.heap.size W W') : Mem w W' L :=
  ⟨h.below.trans (hb.mono h.below.size), fun x hx => (h.rows x hx).keep (hb.block _ (h.lt x hx)), h.base, h.nd⟩
theorem Mem.add {w W W' : World} {L : List Ent} (h : Mem w W L) (hb : Below W.heap.size W W') {x : Ent} (hx : RowX W' x) (hg : W.heap.size ≤ x.g) : Mem w W' (L ++ [x]) := by
  have h' := h.later hb
  refine ⟨h'.below, fun y hy => ?_, fun y hy => ?_, ?_⟩
  · rcases List.mem_append.1 hy with hy | hy
    · exact h'.rows y hy
    · obtain rfl : y = x := by simpa using hy
      exact hx
  · rcases List.mem_append.1 hy with hy | hy
    · exact h.base y hy
    · obtain rfl : y = x := by simpa using hy
      exact Nat.le_trans h.below.size hg
  · rw [List.map_append, List.nodup_append]
    refine ⟨h.nd, by simp, ?_⟩
    intro a ha b hb' e
    simp at hb'
    subst hb'
    subst e
    obtain ⟨y, hy, rfl'⟩ := List.mem_map.1 ha
    have := h.lt y hy
    omega
theorem Mem.alloc {w W : World} {L : List Ent} (h : Mem w W L) (cs : Array Value) (t : Nat) : Mem w (W.alloc (.cells cs t)) (L ++ [⟨W.heap.size, t, cs.toList, true⟩]) :=
  h.add (below_alloc W _) ⟨cs, heap_alloc_new W _, [], by simp, fun _ => rfl⟩ (Nat.le_refl _)
theorem Mem.one (w : World) (cs : Array Value) (t : Nat) : Mem w (w.alloc (.cells cs t)) [⟨w.heap.size, t, cs.toList, true⟩] := (Mem.start w).alloc cs t
theorem Mem.two (w : World) (cs : Array Value) (t : Nat) (cs' : Array Value) (t' : Nat) : Mem w ((w.alloc (.cells cs t)).alloc (.cells cs' t')) [⟨w.heap.size, t, cs.toList, true⟩, ⟨w.heap.size + 1, t', cs'.toList, true⟩] := by
  have h := (Mem.one w cs t).alloc cs' t'
  simpa using h
/-- A new row. -/
theorem Mem.row {w W W' : World} {L : List Ent} (h : Mem w W L) (hb : Below W.heap.size W W') {g e : Nat} {vs : List Value} (hx : RowAt W' g e vs) (hg : W.heap.size ≤ g) : Mem w W' (L ++ [⟨g, e, vs, false⟩]) :=
  h.add hb (RowX.of hx) hg

theorem Mem.at {w W : World} {L : List Ent} (h : Mem w W L) (k : Nat) {g e : Nat} {vs : List Value} {ex : Bool} (hk : L[k]? = some ⟨g, e, vs, ex⟩) : RowAt W g e vs := (h.rows _ (List.mem_of_getElem? hk)).row
theorem Mem.exact {w W : World} {L : List Ent} (h : Mem w W L) (k : Nat) {g e : Nat} {vs : List Value} (hk : L[k]? = some ⟨g, e, vs, true⟩) : W.heap[g]? = some (.cells vs.toArray e (0, 0)) := (h.rows _ (List.mem_of_getElem? hk)).exact
theorem Mem.cell {w W : World} {L : List Ent} (h : Mem w W L) (k i : Nat) {g e : Nat} {vs : List Value} {ex : Bool} {v : Value} (hk : L[k]? = some ⟨g, e, vs, ex⟩) (hi : vs[i]? = some v) : W.cell? ⟨g, i, none⟩ = some v := (h.at k hk).cell hi
theorem Mem.frozen {w W : World} {L : List Ent} (h : Mem w W L) (k i : Nat) {g e : Nat} {vs : List Value} {ex : Bool} (hk : L[k]? = some ⟨g, e, vs, ex⟩) : W.frozen? ⟨g, i, none⟩ = false := (h.at k hk).frozen i
theorem Mem.glt {w W : World} {L : List Ent} (h : Mem w W L) (k : Nat) {g e : Nat} {vs : List Value} {ex : Bool} (hk : L[k]? = some ⟨g, e, vs, ex⟩) : g < W.heap.size := (h.at k hk).lt
theorem Mem.gbase {w W : World} {L : List Ent} (h : Mem w W L) (k : Nat) {g e : Nat} {vs : List Value} {ex : Bool} (hk : L[k]? = some ⟨g, e, vs, ex⟩) : w.heap.size ≤ g := h.base _ (List.mem_of_getElem? hk)

theorem below_touched {B : Nat} {L : List Nat} {w w1 w2 : World} (h : Below B w w1) (ht : Touch L w1 w2) (hL : ∀ k ∈ L, B ≤ k) (hB : B ≤ w.heap.size) : Below B w w2 :=
  h.trans (ht.below (Nat.le_trans hB h.size) hL)
/-- One block changes. -/
theorem Mem.upd {w W W' : World} {L : List Ent} (h : Mem w W L) (k : Nat) {x y : Ent} (hk : L[k]? = some x) (hg : y.g = x.g) (ht : Touch [x.g] W W') (hy : RowX W' y) : Mem w W' (L.set k y) := by
  have hx := List.mem_of_getElem? hk
  have hkl : k < L.length := (List.getElem?_eq_some_iff.1 hk).1
  have hmap : (L.set k y).map Ent.g = L.map Ent.g := by
    rw [List.map_set]
    apply List.ext_getElem?
    intro i
    rw [List.getElem?_set]
    split
    · rename_i e
      subst e
      simp [hkl, hg]
      have := (List.getElem?_eq_some_iff.1 hk).2
      rw [this]
    · rfl
  refine ⟨below_touched h.below ht (by simpa using h.base x hx) (Nat.le_refl _), fun z hz => ?_, fun z hz => ?_, by rw [hmap]; exact h.nd⟩
  · obtain ⟨j, hj, rfl⟩ := List.mem_iff_getElem.1 hz
    rw [List.getElem_set] at hz ⊢
    split
    · exact hy
    · rename_i hne
      have hj' : j < L.length := by simpa using hj
      refine (h.rows _ (List.getElem_mem hj')).keep (ht.block _ (h.lt _ (List.getElem_mem hj')) ?_)
      simp
      intro e
      have e1 : (L.map Ent.g)[j]'(by simpa using hj') = (L.map Ent.g)[k]'(by simpa using hkl) := by
        simp [e, (List.getElem?_eq_some_iff.1 hk).2]
      exact hne (((List.getElem_inj h.nd).1 e1).symm)
  · obtain ⟨j, hj, rfl⟩ := List.mem_iff_getElem.1 hz
    rw [List.getElem_set]
    split
    · rw [hg]; exact h.base x hx
    · exact h.base _ (List.getElem_mem _)

theorem Mem.set {w W : World} {L : List Ent} (h : Mem w W L) (k i : Nat) (v : Value) {g e : Nat} {vs : List Value} {ex : Bool} (hk : L[k]? = some ⟨g, e, vs, ex⟩) (hi : i < vs.length) : Mem w (W.setCell ⟨g, i, none⟩ v) (L.set k ⟨g, e, vs.set i v, ex⟩) := by
  refine h.upd k hk rfl (Touch.setCell _ (by simp) _) ?_
  obtain ⟨xs, h1, more, h2, h3⟩ := h.rows _ (List.mem_of_getElem? hk)
  dsimp only at h1 h2 h3
  refine ⟨_, heap_setCell_same W g i xs e v h1, more, ?_, h3⟩
  dsimp only
  rw [Array.toList_setIfInBounds, h2, List.set_append_left _ _ hi]

section
variable {P : Program} {w W : World} {ops : Array Oper} {rest : List Oper} {o : Oper} {a : Act} {Q : Exit → Act → World → Prop} {L : List Ent}

/-- A struct or an array is loaded from such a block. -/
theorem wpList_load_mem {ty : TypeId} {zs : Array Value} (A : Agg P ty zs) (h : Mem w W L) (k : Nat) {p : Operand} {g e : Nat} {vs : List Value} {ex : Bool}
    (hgd : o.guard = none) (ho : o.op = .load ty p) (hp : a.eval p = .pointer (some ⟨g, 0, none⟩)) (hk : L[k]? = some ⟨g, e, vs, ex⟩) (hs : vs.length = zs.size)
    (hK : wpList P ops Q rest (a.put o.dst (.agg vs.toArray)) W) : wpList P ops Q (o :: rest) a W :=
  wpList_load_part A vs (fun i v hi => by rw [Nat.zero_add]; exact h.cell k i hk hi) hs hgd ho hp hK

/-- A struct or an array is stored into such a block, whole. -/
theorem wpList_store_mem {ty : TypeId} {zs : Array Value} (A : Agg P ty zs) (h : Mem w W L) (k : Nat) {p x : Operand} {g e : Nat} {vs : List Value} {cs : Array Value}
    (hgd : o.guard = none) (ho : o.op = .store ty p x) (hp : a.eval p = .pointer (some ⟨g, 0, none⟩)) (hx : a.eval x = .agg cs) (hk : L[k]? = some ⟨g, e, vs, true⟩) (hs : cs.size = zs.size) (hv : vs.length = cs.size) (h1 : cs.toList.all (·.oneCell') = true)
    (hK : ∀ W', Mem w W' (L.set k ⟨g, e, cs.toList, true⟩) → Touch [g] W W' → wpList P ops Q rest (a.put o.dst undef) W') : wpList P ops Q (o :: rest) a W := by
  refine wpList_store_row A (h.exact k hk) hs (by simpa using hv) (by rw [← Array.all_toList]; exact h1) hgd ho hp hx ?_
  intro W' hg hgr hsz
  have ht : Touch [g] W W' := ⟨hgr.os, hgr.tape, hgr.output, hgr.size, fun j hj hn => hgr.block j hj (fun e => hn (by simp at e; simp [e]))⟩
  exact hK W' (h.upd k hk rfl ht ⟨cs, hg, [], by simp, fun _ => rfl⟩) ht

/-- .. into a part of it. -/
theorem wpList_store_mem_part {ty : TypeId} {zs : Array Value} (A : Agg P ty zs) (h : Mem w W L) (k : Nat) {p x : Operand} {g e off : Nat} {vs : List Value} {ex : Bool} {cs : Array Value}
    (hgd : o.guard = none) (ho : o.op = .store ty p x) (hp : a.eval p = .pointer (some ⟨g, off, none⟩)) (hx : a.eval x = .agg cs) (hk : L[k]? = some ⟨g, e, vs, ex⟩) (hs : cs.size = zs.size) (hfit : off + cs.size ≤ vs.length) (h1 : cs.toList.all (·.oneCell') = true)
    (hK : ∀ W', Mem w W' (L.set k ⟨g, e, splice vs off cs.toList, false⟩) → Touch [g] W W' → wpList P ops Q rest (a.put o.dst undef) W') : wpList P ops Q (o :: rest) a W :=
  wpList_store_part A (h.at k hk) hs hfit (fun u hu => List.all_eq_true.1 h1 u hu) hgd ho hp hx (fun W' hr ht => hK W' (h.upd k hk rfl ht (RowX.of hr)) ht)

theorem run_append_owned_none' {base t ty e : Nat} {i : TypeInfo} {size c : Nat} (ht : P.underlying t = some (.slice e)) (hi : P.info? e = some i)
    {v : Value} {n : Nat} {xs : List Value} (hown : W.ownsRow base e size v n xs) : (Builtin.append_ #[t, t] ty #[v, .slice none 0 c]).run P W = .ok v W := by
  rcases hown.2 with ⟨rfl, rfl⟩ | ⟨g, cap, cur, rfl, _, _, hnc, _⟩
  · simp [Builtin.append_, run_underlying ht, sizeOf, typeInfo, hi, Builtin.lenOf, Builtin.firstCells]
  · simp [Builtin.append_, run_underlying ht, sizeOf, typeInfo, hi, Builtin.lenOf, Builtin.firstCells, hnc, storeCells]

/-- 'append(xs, ys...)', ys any slice whose cells are known. -/
theorem wpList_append_cells {s x : Operand} {t e : TypeId} {z : Value} {size bytes base n m c : Nat} {v : Value} {xs ys : List Value} {ad : Option Addr} (E : Elem P t e z size bytes)
    (hown : W.ownsRow base e size v n xs) (hc : Cells W ad ys) (hl : ys.length = m * size) (h1 : ∀ u ∈ ys, u.oneCell' = true)
    (hn : n + m < 1000000000000) (hby : bytes ≤ 64) (hbase : base ≤ W.heap.size)
    (hgd : o.guard = none) (ho : o.op = .call { callee := .builtin .append, args := #[s, x], argTypes := #[t, t] })
    (hs : a.eval s = v) (hx : a.eval x = .slice ad m c)
    (hK : ∀ v' w', w'.ownsRow base e size v' (n + m) (xs ++ ys) → W.grownBy w' v.ownBlock → (v' = .slice none 0 0 → v = .slice none 0 0 ∧ m = 0) → wpList P ops Q rest (a.put o.dst v') w') :
    wpList P ops Q (o :: rest) a W := by
  cases ad with
  | none =>
    have hy : ys = [] := by rcases hc with h | ⟨b, off, h, _⟩; exact h; cases h
    subst hy
    have hm : m = 0 := by
      have := E.pos
      rcases Nat.mul_eq_zero.1 hl.symm with h | h
      · exact h
      · omega
    subst hm
    obtain ⟨i, i1, _⟩ := E.info
    refine wpList_plain hgd fun K hK' => ?_
    have hrun := run_append_owned_none' (P := P) (W := W) (ty := o.type) (c := c) E.under i1 hown
    unfold Oper.wp
    simp [execOp, ho, resolve, invoke, builtin, hs, hx, hrun, Result.andThen]
    exact hK' _ _ (hK v W (by simpa using hown) ⟨rfl, rfl, rfl, Nat.le_refl _, fun _ _ _ => rfl⟩ (fun h => ⟨h, rfl⟩))
  | some d =>
    refine wpList_append_many E hown hl ?_ h1 hn hby hbase hgd ho hs hx (fun v' w' a b c => hK v' w' a b c.1)
    intro j u hj
    rcases hc with h | ⟨b, off, h, hc⟩
    · rw [h] at hj; simp at hj
    · cases h
      rw [add_none]
      exact hc j u hj

/-- An owned row that is not nil, as a new block. -/
theorem owned_new {w w' : World} {e size n : Nat} {v : Value} {xs : List Value} (h : w'.ownsRow w.heap.size e size v n xs) (hv : v ≠ .slice none 0 0) :
    ∃ g c, v = .slice (some ⟨g, 0, none⟩) n c ∧ w.heap.size ≤ g ∧ n ≤ c ∧ c ≤ maxLen ∧ RowAt w' g e xs := by
  rcases h.2 with ⟨h0, _⟩ | ⟨g, cap, cur, rfl, hb, hg, h1, h2, h3, h4⟩
  · exact absurd h0 hv
  · exact ⟨g, cap, rfl, hb, h1, h2, cur, hg, cur.toList.drop (n * size), by rw [← h4, List.take_append_drop]⟩
end

/-- What a function leaves that copies a slice. -/
def Copied (e n : Nat) (vs : List Value) (w : World) : Ending → World → Prop := fun r w' => ∃ g c, r = .returned (.slice (some ⟨g, 0, none⟩) n c) ∧ w.heap.size ≤ g ∧ n ≤ c ∧ c ≤ maxLen ∧ RowAt w' g e vs ∧ Below w.heap.size w w'

end Go.Proofs.YtlaaamaaabcfeaaDoor

/- Regions that draw their order: operations that only read may float; all others come one behind the other. One walk, the reading ones as early as can be, serves every order. -/
namespace Go.Proofs.YtlaaamaaabcfeaaDoor
open Go.RowKit
set_option linter.unusedVariables false

section
variable {P : Program} {ops : Array Oper} {md : Region.Mode} {C : World → Prop} {Q : Exit → Act → World → Prop}

/-- Such an operation may be taken first, if whatever may still come ahead of it is loose. -/
theorem wpAnyF_early {loose : Nat → Bool} {i f : Nat} {oi : Oper} {v : Value} (hi : ops[i]? = some oi) (hsel : ∀ (j : Nat) (o : Oper) cs b, ops[j]? = some o → o.op ≠ .select cs b)
    (hQ : ∀ c a d v w, Q (.panic c) (a.put d v) w → Q (.panic c) a w) :
    ∀ (fuel : Nat) (listed : Array Bool) (a : Act) (w : World),
      (∀ j oj, ops[j]? = some oj → j ≠ i → listed.getD j true = false → waitsFor md ops f j i = true ∨ loose j = true) →
      (∀ j oj, ops[j]? = some oj → j ≠ i → listed.getD j true = false → (∀ e ∈ oj.after, Region.binds md e = true → e.on ≠ i) → oi.apart ops oj = true) →
      i ∈ Region.ready md ops listed → Shut md ops listed → Stays P ops C oi v a → C w →
      wpAnyF P md ops Q C loose fuel (listed.setIfInBounds i true) (a.put oi.dst v) w → wpAnyF P md ops Q C loose (fuel + 1) listed a w := by
  intro fuel
  induction fuel with
  | zero =>
    intro listed a w _ _ hr _ hy hC H
    refine ⟨fun h => (by rw [h] at hr; cases hr), fun j hj => ?_⟩
    by_cases hji : j = i
    · subst hji; exact hy.wpOp hi hC ⟨fun _ => hC, H⟩
    · have := ready_mono hj hji
      rw [H.1] at this
      cases this
  | succ fuel ih =>
    intro listed a w hl hfree hr hsh hy hC H
    refine ⟨fun h => (by rw [h] at hr; cases hr), fun j hj => ?_⟩
    by_cases hji : j = i
    · subst hji; exact hy.wpOp hi hC ⟨fun _ => hC, H⟩
    · have h1 := H.2 j (ready_mono hj hji)
      obtain ⟨hjun, oj, hoj, hall⟩ := mem_ready.1 hj
      have hiun : listed.getD i false = false := by
        have h0 := (mem_ready.1 hr).1
        rcases Nat.lt_or_ge i listed.size with h' | h'
        · simp [h'] at h0 ⊢; exact h0
        · simp [Array.getElem?_eq_none h']
      have hnot : ∀ e ∈ oj.after, Region.binds md e = true → e.on ≠ i := fun e he hb heq => by
        have h1 := hall e he hb
        rw [heq, hiun] at h1
        cases h1
      have hlo : loose j = true := by
        rcases hl j oj hoj hji hjun with h | h
        · have := waitsFor_listed hsh f j i oj hoj hall h
          rw [hiun] at this
          cases this
        · exact h
      have h2 := wpOp_putF (C := C) hoj (hfree j oj hoj hji hjun hnot) (fun cs b => hsel i oi cs b hi) (fun cs b => hsel j oj cs b hoj) hQ hy h1
      have hun' : ∀ k, (listed.setIfInBounds j true).getD k true = false → listed.getD k true = false := fun k hun => by
        by_cases hjk : j = k
        · subst hjk; exact hjun
        · rw [getD_set_ne true hjk] at hun; exact hun
      refine wpOp_mono (fun a' w' h3 => ⟨h3.2.1, ih (listed.setIfInBounds j true) a' w' (fun k ok hk hki hun => hl k ok hk hki (hun' k hun)) (fun k ok hk hki hun hno => hfree k ok hk hki (hun' k hun) hno) (ready_mono hr (Ne.symm hji)) (hsh.set hj) h3.1 (h3.2.1 hlo) ?_⟩) h2
      rw [Array.setIfInBounds_comm _ _ hji]
      exact h3.2.2

/-- Is there an operation that only reads and that may come ahead of j as well as behind it? -/
def looseOf (md : Region.Mode) (ops : Array Oper) (j : Nat) : Bool :=
  (List.range ops.size).any fun i => i != j && (match ops[i]? with | some o => calm o.op | none => false) && !waitsFor md ops ops.size j i && !waitsFor md ops ops.size i j

def mixFrom (md : Region.Mode) (ops : Array Oper) : List (Nat × Bool) → Array Bool → Bool
  | [], listed => (Region.ready md ops listed).isEmpty
  | (k, lo) :: is, listed => (lo == looseOf md ops k) && (match ops[k]? with
      | none => false
      | some o => if calm o.op then (Region.ready md ops listed).contains k && Region.free md ops listed k && ((List.range ops.size).all fun j => j == k || listed.getD j true || waitsFor md ops ops.size j k || looseOf md ops j)
        else Region.ready md ops listed == [k]) && mixFrom md ops is (listed.setIfInBounds k true)
def mixB (md : Region.Mode) (ops : Array Oper) (is : List (Nat × Bool)) : Bool := Region.noSelect ops && is.length == ops.size && mixFrom md ops is (Array.replicate ops.size false)

/-- The walk, in an order in which reading operations come as early as they can. The Boolean: is it loose? -/
def wpMix (P : Program) (ops : Array Oper) (C : World → Prop) (Q : Exit → Act → World → Prop) : List (Oper × Bool) → Act → World → Prop
  | [], a, w => Q .normal a w
  | (o, lo) :: rest, a, w => if calm o.op then ∃ v, Stays P ops C o v a ∧ C w ∧ wpMix P ops C Q rest (a.put o.dst v) w
      else wpList P ops (Exit.then (fun a' w' => (lo = true → C w') ∧ wpMix P ops C Q rest a' w') Q) [o] a w

def mixList (l : List Oper) : List (Nat × Bool) → List (Oper × Bool)
  | [] => []
  | (k, lo) :: is => match l[k]? with
    | some o => (o, lo) :: mixList l is
    | none => mixList l is

theorem mix_ok (hs : Region.noSelect ops = true) (hQ : ∀ c a d v w, Q (.panic c) (a.put d v) w → Q (.panic c) a w) : ∀ (is : List (Nat × Bool)) (listed : Array Bool) (a : Act) (w : World), Shut md ops listed →
    mixFrom md ops is listed = true → wpMix P ops C Q (mixList ops.toList is) a w → wpAnyF P md ops Q C (looseOf md ops) is.length listed a w := by
  intro is
  induction is with
  | nil =>
    intro listed a w _ hB h
    exact ⟨by simpa [mixFrom] using hB, by simpa [wpMix, mixList] using h⟩
  | cons p is ih =>
    obtain ⟨k, lo⟩ := p
    intro listed a w hsh hB h
    simp only [mixFrom, Bool.and_eq_true, beq_iff_eq] at hB
    obtain ⟨⟨rfl, hB1⟩, hB2⟩ := hB
    cases hk : ops[k]? with
    | none => rw [hk] at hB1; cases hB1
    | some o =>
      rw [hk] at hB1
      have e : mixList ops.toList ((k, looseOf md ops k) :: is) = (o, looseOf md ops k) :: mixList ops.toList is := by simp [mixList, hk]
      rw [e] at h
      by_cases hc : calm o.op = true
      · simp only [hc, if_true, Bool.and_eq_true] at hB1
        simp only [wpMix, hc, if_true] at h
        obtain ⟨⟨hr, hf⟩, hlo⟩ := hB1
        obtain ⟨v, hy, hC, h⟩ := h
        have hrk : k ∈ Region.ready md ops listed := by simpa using hr
        refine wpAnyF_early (f := ops.size) hk (Region.noSelect_spec hs) hQ is.length listed a w ?_ (Region.free_spec hk hf) hrk hsh hy hC (ih _ _ _ (hsh.set hrk) hB2 h)
        intro j oj hj hjk hun
        simp only [List.all_eq_true, List.mem_range, Bool.or_eq_true, beq_iff_eq] at hlo
        rcases hlo j (Array.getElem?_eq_some_iff.1 hj).1 with ((h | h) | h) | h
        · exact absurd h hjk
        · rw [hun] at h; cases h
        · exact .inl h
        · exact .inr h
      · simp only [hc, Bool.false_eq_true, if_false, beq_iff_eq] at hB1
        simp only [wpMix, hc, Bool.false_eq_true, if_false] at h
        have hrk : k ∈ Region.ready md ops listed := by rw [hB1]; simp
        refine ⟨fun h' => (by rw [hB1] at h'; cases h'), fun i hi => ?_⟩
        rw [hB1] at hi
        obtain rfl : i = k := by simpa using hi
        unfold wpOp
        simp only [hk]
        unfold wpList at h
        have hmono : ∀ a' w', wpList P ops (Exit.then (fun a' w' => (looseOf md ops i = true → C w') ∧ wpMix P ops C Q (mixList ops.toList is) a' w') Q) [] a' w' →
            (looseOf md ops i = true → C w') ∧ wpAnyF P md ops Q C (looseOf md ops) is.length (listed.setIfInBounds i true) a' w' := by
          intro a' w' h'
          unfold wpList at h'
          exact ⟨h'.1, ih _ _ _ (hsh.set hrk) hB2 h'.2⟩
        by_cases hw : Region.wanted o (yielded ops a.tmps) = true
        · rw [if_pos hw] at h ⊢
          rcases h with h | h
          · refine .inl ?_
            have h := Oper.wp_mono hmono h
            unfold Oper.wp at *
            generalize (execOp a.eval o).run P w = r at *
            cases r with
            | ok n w' =>
              cases n <;> simp only [Oper.upon] at h ⊢ <;> try exact h
            | halt x w' => cases x <;> simp only [Oper.upon] at h ⊢ <;> exact h
          · exact .inr h
        · rw [if_neg hw] at h ⊢
          exact hmono _ _ h

/-- One walk serves every order. -/
theorem wp_region_mix {id : Nat} {a : Act} {w : World} {l : List Oper} (is : List (Nat × Bool)) (hm : P.follows .mixedOrders = true) (hB : mixB .any l.toArray is = true)
    (hQ : ∀ c a d v w, Q (.panic c) (a.put d v) w → Q (.panic c) a w) 
    (h : wpMix P l.toArray C Q (mixList l is) a w.drew) : (Code.region id l.toArray true).wp P Q a w := by
  simp only [mixB, Bool.and_eq_true, beq_iff_eq] at hB
  refine wp_region_any hm (wpAny_of_F (C := C) (loose := looseOf .any l.toArray) _ _ _ _ ?_)
  have := mix_ok (md := .any) (C := C) hB.1.1 hQ is (Array.replicate l.toArray.size false) a w.drew (shut_none _) hB.2 h
  rw [hB.1.2] at this
  exact this

theorem wpMix_nil {a : Act} {w : World} (h : Q .normal a w) : wpMix P ops C Q [] a w := h
theorem wpMix_calm {o : Oper} {lo : Bool} {rest : List (Oper × Bool)} {a : Act} {w : World} (hcal : calm o.op = true) (hC : C w) (h : wpQuiet P ops C (fun a' => wpMix P ops C Q rest a' w) [o] a) : wpMix P ops C Q ((o, lo) :: rest) a w := by
  unfold wpMix
  rw [if_pos hcal]
  unfold wpQuiet at h
  by_cases hw : Region.wanted o (yielded ops a.tmps) = true
  · rw [if_pos hw] at h
    obtain ⟨v, h1, h2⟩ := h
    refine ⟨v, .inl ⟨hw, fun x hx => ?_⟩, hC, h2⟩
    have h3 := h1 x hx
    unfold Oper.quietAt at h3
    cases hq : (execOp a.eval o).run P x with
    | ok nx w2 =>
      obtain ⟨u, rfl⟩ := calm_value hcal hq
      rw [hq] at h3
      simp only [Oper.quietUpon] at h3
      rw [h3.1, h3.2]
    | halt x' w2 => rw [hq] at h3; simp only [Oper.quietUpon] at h3
  · rw [if_neg hw] at h
    exact ⟨undef, .inr ⟨by simpa using hw, rfl⟩, hC, h⟩
theorem wpMix_hard {o : Oper} {lo : Bool} {rest : List (Oper × Bool)} {a : Act} {w : World} (hcal : calm o.op = false)
    (h : ∀ K : Act → World → Prop, (∀ a' w', (lo = true → C w') → wpMix P ops C Q rest a' w' → K a' w') → wpList P ops (Exit.then K Q) [o] a w) : wpMix P ops C Q ((o, lo) :: rest) a w := by
  unfold wpMix
  simp only [hcal, Bool.false_eq_true, if_false]
  exact h _ (fun _ _ h1 h2 => ⟨h1, h2⟩)

end

theorem later_step {w v v' : World} (h : ∃ x : Later w, v = x.val) (hb : Below v.heap.size v v') : ∃ x : Later w, v' = x.val := by
  obtain ⟨x, rfl⟩ := h
  exact ⟨⟨v', x.below.trans (hb.mono x.below.size)⟩, rfl⟩
theorem later_below {w v : World} (h : ∃ x : Later w, v = x.val) : Below w.heap.size w v := by
  obtain ⟨x, rfl⟩ := h
  exact x.below
theorem later_drew (w : World) : ∃ x : Later w, w.drew = x.val := ⟨⟨w.drew, (Below.refl _ _).drew⟩, rfl⟩
theorem later_drewN {w v : World} (h : ∃ x : Later w, v = x.val) (q : Nat) : ∃ x : Later w, v.drewN q = x.val := by
  obtain ⟨x, rfl⟩ := h
  exact ⟨⟨_, by have := x.below; exact ⟨this.os, this.tape, this.output, by simpa using this.size, by simpa using this.block⟩⟩, rfl⟩

/-- What the worlds of a region have in common: nothing but some blocks differs. -/
structure Near (L : List Nat) (w : World) where
  val : World
  size : w.heap.size ≤ val.heap.size
  block : ∀ k, k < w.heap.size → k ∉ L → val.heap[k]? = w.heap[k]?
instance (L : List Nat) (w : World) : Nonempty (Near L w) := ⟨⟨w, Nat.le_refl _, fun _ _ _ => rfl⟩⟩
theorem near_cell {L : List Nat} {w : World} {p : Addr} {v : Value} (h : w.cell? p = some v) (hL : p.block ∉ L) (x : Near L w) : x.val.cell? p = some v := by
  have := x.block p.block (World.block_lt_of_cell? _ _ h) hL
  unfold World.cell? at *
  rw [this]; exact h

end Go.Proofs.YtlaaamaaabcfeaaDoor

/- The same without the rest of the memory: blocks from B on, where older ones may change. -/
namespace Go.Proofs.YtlaaamaaabcfeaaDoor
open Go.RowKit
set_option linter.unusedVariables false

structure MemR (B : Nat) (W : World) (L : List Ent) : Prop where
  rows : ∀ x ∈ L, RowX W x
  base : ∀ x ∈ L, B ≤ x.g
  nd : (L.map Ent.g).Nodup
  size : B ≤ W.heap.size

theorem Mem.r {w W : World} {L : List Ent} (h : Mem w W L) : MemR w.heap.size W L := ⟨h.rows, h.base, h.nd, h.below.size⟩
theorem MemR.lt {B : Nat} {W : World} {L : List Ent} (h : MemR B W L) : ∀ x ∈ L, x.g < W.heap.size := fun x hx => (h.rows x hx).lt
theorem MemR.later {B : Nat} {W W' : World} {L : List Ent} (h : MemR B W L) (hb : Below W.heap.size W W') : MemR B W' L :=
  ⟨fun x hx => (h.rows x hx).keep (hb.block _ (h.lt x hx)), h.base, h.nd, Nat.le_trans h.size hb.size⟩
/-- Older blocks change. -/
theorem MemR.touch {B : Nat} {W W' : World} {L : List Ent} (h : MemR B W L) {X : List Nat} (ht : Touch X W W') (hX : ∀ k ∈ X, k < B) : MemR B W' L :=
  ⟨fun x hx => (h.rows x hx).keep (ht.block _ (h.lt x hx) (fun hm => by have := hX _ hm; have := h.base x hx; omega)), h.base, h.nd, Nat.le_trans h.size ht.size⟩
/-- Blocks of others change. -/
theorem MemR.apart {B : Nat} {W W' : World} {L : List Ent} (h : MemR B W L) {X : List Nat} (ht : Touch X W W') (hX : ∀ x ∈ L, x.g ∉ X) : MemR B W' L :=
  ⟨fun x hx => (h.rows x hx).keep (ht.block _ (h.lt x hx) (hX x hx)), h.base, h.nd, Nat.le_trans h.size ht.size⟩
theorem MemR.add {B : Nat} {W W' : World} {L : List Ent} (h : MemR B W L) (hb : Below W.heap.size W W') {x : Ent} (hx : RowX W' x) (hg : W.heap.size ≤ x.g) : MemR B W' (L ++ [x]) := by
  have h' := h.later hb
  refine ⟨fun y hy => ?_, fun y hy => ?_, ?_, h'.size⟩
  · rcases List.mem_append.1 hy with hy | hy
    · exact h'.rows y hy
    · obtain rfl : y = x := by simpa using hy
      exact hx
  · rcases List.mem_append.1 hy with hy | hy
    · exact h.base y hy
    · obtain rfl : y = x := by simpa using hy
      exact Nat.le_trans h.size hg
  · rw [List.map_append, List.nodup_append]
    refine ⟨h.nd, by simp, ?_⟩
    intro a ha b hb' e
    simp at hb'
    subst hb'
    subst e
    obtain ⟨y, hy, rfl'⟩ := List.mem_map.1 ha
    have := h.lt y hy
    omega
theorem MemR.front {B : Nat} {W : World} {L E : List Ent} (h : MemR B W (L ++ E)) : MemR B W L :=
  ⟨fun x hx => h.rows x (List.mem_append_left _ hx), fun x hx => h.base x (List.mem_append_left _ hx), (List.nodup_append.1 (by have := h.nd; rwa [List.map_append] at this)).1, h.size⟩
theorem near_of {X : List Nat} {w W : World} (h : Touch X w W) : ∃ x : Near X w, W = x.val := ⟨⟨W, h.size, h.block⟩, rfl⟩
theorem MemR.alloc {B : Nat} {W : World} {L : List Ent} (h : MemR B W L) (cs : Array Value) (t : Nat) : MemR B (W.alloc (.cells cs t)) (L ++ [⟨W.heap.size, t, cs.toList, true⟩]) :=
  h.add (below_alloc W _) ⟨cs, heap_alloc_new W _, [], by simp, fun _ => rfl⟩ (Nat.le_refl _)
theorem MemR.row {B : Nat} {W W' : World} {L : List Ent} (h : MemR B W L) (hb : Below W.heap.size W W') {g e : Nat} {vs : List Value} (hx : RowAt W' g e vs) (hg : W.heap.size ≤ g) : MemR B W' (L ++ [⟨g, e, vs, false⟩]) :=
  h.add hb (RowX.of hx) hg
theorem MemR.at {B : Nat} {W : World} {L : List Ent} (h : MemR B W L) (k : Nat) {g e : Nat} {vs : List Value} {ex : Bool} (hk : L[k]? = some ⟨g, e, vs, ex⟩) : RowAt W g e vs := (h.rows _ (List.mem_of_getElem? hk)).row
theorem MemR.exact {B : Nat} {W : World} {L : List Ent} (h : MemR B W L) (k : Nat) {g e : Nat} {vs : List Value} (hk : L[k]? = some ⟨g, e, vs, true⟩) : W.heap[g]? = some (.cells vs.toArray e (0, 0)) := (h.rows _ (List.mem_of_getElem? hk)).exact
theorem MemR.cell {B : Nat} {W : World} {L : List Ent} (h : MemR B W L) (k i : Nat) {g e : Nat} {vs : List Value} {ex : Bool} {v : Value} (hk : L[k]? = some ⟨g, e, vs, ex⟩) (hi : vs[i]? = some v) : W.cell? ⟨g, i, none⟩ = some v := (h.at k hk).cell hi
theorem MemR.frozen {B : Nat} {W : World} {L : List Ent} (h : MemR B W L) (k i : Nat) {g e : Nat} {vs : List Value} {ex : Bool} (hk : L[k]? = some ⟨g, e, vs, ex⟩) : W.frozen? ⟨g, i, none⟩ = false := (h.at k hk).frozen i
theorem MemR.glt {B : Nat} {W : World} {L : List Ent} (h : MemR B W L) (k : Nat) {g e : Nat} {vs : List Value} {ex : Bool} (hk : L[k]? = some ⟨g, e, vs, ex⟩) : g < W.heap.size := (h.at k hk).lt
theorem MemR.gbase {B : Nat} {W : World} {L : List Ent} (h : MemR B W L) (k : Nat) {g e : Nat} {vs : List Value} {ex : Bool} (hk : L[k]? = some ⟨g, e, vs, ex⟩) : B ≤ g := h.base _ (List.mem_of_getElem? hk)
theorem MemR.upd {B : Nat} {W W' : World} {L : List Ent} (h : MemR B W L) (k : Nat) {x y : Ent} (hk : L[k]? = some x) (hg : y.g = x.g) (ht : Touch [x.g] W W') (hy : RowX W' y) : MemR B W' (L.set k y) := by
  have hx := List.mem_of_getElem? hk
  have hkl : k < L.length := (List.getElem?_eq_some_iff.1 hk).1
  have hmap : (L.set k y).map Ent.g = L.map Ent.g := by
    rw [List.map_set]
    apply List.ext_getElem?
    intro i
    rw [List.getElem?_set]
    split
    · rename_i e
      subst e
      simp [hkl, hg]
      have := (List.getElem?_eq_some_iff.1 hk).2
      rw [this]
    · rfl
  refine ⟨fun z hz => ?_, fun z hz => ?_, by rw [hmap]; exact h.nd, Nat.le_trans h.size ht.size⟩
  · obtain ⟨j, hj, rfl⟩ := List.mem_iff_getElem.1 hz
    rw [List.getElem_set] at hz ⊢
    split
    · exact hy
    · rename_i hne
      have hj' : j < L.length := by simpa using hj
      refine (h.rows _ (List.getElem_mem hj')).keep (ht.block _ (h.lt _ (List.getElem_mem hj')) ?_)
      simp
      intro e
      have e1 : (L.map Ent.g)[j]'(by simpa using hj') = (L.map Ent.g)[k]'(by simpa using hkl) := by
        simp [e, (List.getElem?_eq_some_iff.1 hk).2]
      exact hne (((List.getElem_inj h.nd).1 e1).symm)
  · obtain ⟨j, hj, rfl⟩ := List.mem_iff_getElem.1 hz
    rw [List.getElem_set]
    split
    · rw [hg]; exact h.base x hx
    · exact h.base _ (List.getElem_mem _)
theorem MemR.set {B : Nat} {W : World} {L : List Ent} (h : MemR B W L) (k i : Nat) (v : Value) {g e : Nat} {vs : List Value} {ex : Bool} (hk : L[k]? = some ⟨g, e, vs, ex⟩) (hi : i < vs.length) : MemR B (W.setCell ⟨g, i, none⟩ v) (L.set k ⟨g, e, vs.set i v, ex⟩) := by
  refine h.upd k hk rfl (Touch.setCell _ (by simp) _) ?_
  obtain ⟨xs, h1, more, h2, h3⟩ := h.rows _ (List.mem_of_getElem? hk)
  dsimp only at h1 h2 h3
  refine ⟨_, heap_setCell_same W g i xs e v h1, more, ?_, h3⟩
  dsimp only
  rw [Array.toList_setIfInBounds, h2, List.set_append_left _ _ hi]

/-- Newer blocks do not matter. -/
theorem Touch.own {X : List Nat} {w W W' : World} (h : Touch X w W) {Y : List Nat} (ht : Touch Y W W') (hY : ∀ k ∈ Y, w.heap.size ≤ k ∨ k ∈ X) : Touch X w W' :=
  ⟨ht.os.trans h.os, ht.tape.trans h.tape, ht.output.trans h.output, Nat.le_trans h.size ht.size, fun k hk hn => (ht.block k (Nat.lt_of_lt_of_le hk h.size) (fun hm => (hY k hm).elim (fun h => by omega) hn)).trans (h.block k hk hn)⟩
theorem Touch.later {X : List Nat} {w W W' : World} (h : Touch X w W) (hb : Below W.heap.size W W') : Touch X w W' := h.trans (Touch.ofBelow hb)

section
variable {P : Program} {B : Nat} {W : World} {ops : Array Oper} {rest : List Oper} {o : Oper} {a : Act} {Q : Exit → Act → World → Prop} {L : List Ent}

theorem wpList_load_r {ty : TypeId} {zs : Array Value} (A : Agg P ty zs) (h : MemR B W L) (k : Nat) {p : Operand} {g e : Nat} {vs : List Value} {ex : Bool}
    (hgd : o.guard = none) (ho : o.op = .load ty p) (hp : a.eval p = .pointer (some ⟨g, 0, none⟩)) (hk : L[k]? = some ⟨g, e, vs, ex⟩) (hs : vs.length = zs.size)
    (hK : wpList P ops Q rest (a.put o.dst (.agg vs.toArray)) W) : wpList P ops Q (o :: rest) a W :=
  wpList_load_part A vs (fun i v hi => by rw [Nat.zero_add]; exact h.cell k i hk hi) hs hgd ho hp hK
theorem wpList_store_r {ty : TypeId} {zs : Array Value} (A : Agg P ty zs) (h : MemR B W L) (k : Nat) {p x : Operand} {g e : Nat} {vs : List Value} {cs : Array Value}
    (hgd : o.guard = none) (ho : o.op = .store ty p x) (hp : a.eval p = .pointer (some ⟨g, 0, none⟩)) (hx : a.eval x = .agg cs) (hk : L[k]? = some ⟨g, e, vs, true⟩) (hs : cs.size = zs.size) (hv : vs.length = cs.size) (h1 : cs.toList.all (·.oneCell') = true)
    (hK : ∀ W', MemR B W' (L.set k ⟨g, e, cs.toList, true⟩) → Touch [g] W W' → wpList P ops Q rest (a.put o.dst undef) W') : wpList P ops Q (o :: rest) a W := by
  refine wpList_store_row A (h.exact k hk) hs (by simpa using hv) (by rw [← Array.all_toList]; exact h1) hgd ho hp hx ?_
  intro W' hg hgr hsz
  have ht : Touch [g] W W' := ⟨hgr.os, hgr.tape, hgr.output, hgr.size, fun j hj hn => hgr.block j hj (fun e => hn (by simp at e; simp [e]))⟩
  exact hK W' (h.upd k hk rfl ht ⟨cs, hg, [], by simp, fun _ => rfl⟩) ht
end

end Go.Proofs.YtlaaamaaabcfeaaDoor
