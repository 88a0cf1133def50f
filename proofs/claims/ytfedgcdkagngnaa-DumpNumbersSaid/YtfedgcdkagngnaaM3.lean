/- Parts of the proof, one behind the other: Zj, Sb, Js, Zh, Zm, Zn, Bt, Cp, Cr, Cs, HdA, HdB, HdC, Bk, Ch, Zf, Za, Zb, Ze, HdD, Rk, Bo, Sa, Sc, Sp, Sq, Fm, Pu. -/
import Derived.Test.YtfedgcdkagngnaaM2
import Derived.Shelf.Strings.Builder1
import Derived.Test.YtfedgcdkagngnaaProg
import Derived.Maps.OwnOps
import Derived.Maps.OwnSet
import Derived.Maps.Views
import Derived.Laws.BitsAllLaws
import Derived.Deep.Cut
import Derived.DeepKeys4
import Derived.Outline
import Derived.Deep.QuietTactic
import Derived.BigQuiet
import Derived.WalkKit

/- dump: Number, Hex; the document's Number, Hex. -/
namespace Go.Proofs.Ytfedgcdkagngnaa
open Go.RowKit
set_option linter.unusedVariables false
open Go.Lib (decDigits itoa nDigits)

section
variable {P : Program} {w : World} {ops : Array Oper} {rest : List Oper} {o : Oper} {a : Act} {Q : Exit → Act → World → Prop}
/-- A byte of a text. -/
theorem wpList_index_str {ty : TypeId} {x ix : Operand} {s : ByteArray} {k : IntKind} {I : Int} (i : Nat) {b : UInt8} (hu : P.underlying ty = some .string) (hI : I = (i : Int)) (hb : s[i]? = some b)
    (hgd : o.guard = none) (ho : o.op = .index ty x ix) (hx : a.eval x = .string s) (hix : a.eval ix = .int k I)
    (hK : wpList P ops Q rest (a.put o.dst (.int .u8 (b.toNat : Int))) w) : wpList P ops Q (o :: rest) a w := by
  refine wpList_plain hgd fun K hK' => ?_
  subst hI
  have hr : (Instr.index ty (.string s) (.int k i)).run P w = .ok (.int .u8 (b.toNat : Int)) w := by
    simp [Instr.index, asIntOf, run_underlying hu, hb]
  unfold Oper.wp
  simp [execOp, ho, hx, hix, hr, Result.andThen]
  exact hK' _ _ hK
end

theorem digits10d_any (u : Nat) (hu : u < 18446744073709551616) (w : World) : Calls Try.prog 11 #[.int .u64 (u : Int), .int .u64 10, .int .i64 1] w (Gives (strV (decDigits u)) w) := by
  refine (digits10_any u 1 hu (by omega) (by omega) w).mono ?_
  rintro e w' ⟨T, h1, _, rfl, hb⟩
  rw [dec_digW h1]
  exact ⟨rfl, hb⟩
theorem digits16d_any (u : Nat) (hu : u < 18446744073709551616) (w : World) : Calls Try.prog 11 #[.int .u64 (u : Int), .int .u64 16, .int .i64 16] w (Gives (strV (digW 16 u 16)) w) := by
  refine (digits16_any u 16 hu (by omega) (by omega) w).mono ?_
  rintro e w' ⟨T, h1, _, rfl, hb⟩
  rw [hex_digW hu h1]
  exact ⟨rfl, hb⟩

set_option maxHeartbeats 1000000 in
theorem dhex_any (u : Nat) (hu : u < 18446744073709551616) (w : World) : Calls Try.prog 7 #[vu64 u] w (Gives (strV (digW 16 u 16)) w) := by
  have HP : Hid (∀ w', Below w.heap.size w w' → Gives (strV (digW 16 u 16)) w (.returned (strV (digW 16 u 16))) w') := Lib.hid (fun w' h => ⟨rfl, h⟩)
  generalize Gives (strV (digW 16 u 16)) w = Post at *
  go_enter Try.func7, Try.ntmps7
  go_wp2_with fail
  refine (digits16d_any u hu _).mono ?_
  rintro e w1 ⟨rfl, hb1⟩
  have HB1 := Lib.hid hb1
  generalize digW 16 u 16 = l at *
  clear hb1
  go_wp2_with fail
  exact HP.out _ HB1.out

set_option maxHeartbeats 2000000 in
theorem dnumber_any (n : Int) (hn : In64 n) (w : World) : Calls Try.prog 5 #[.int .i64 n] w (Gives (strV (itoa n)) w) := by
  obtain ⟨h1, h2⟩ := hn
  have HP : Hid (∀ (l : List UInt8) (w' : World), itoa n = l → Below w.heap.size w w' → Gives (strV (itoa n)) w (.returned (strV l)) w') := Lib.hid (fun l w' h hb => by subst h; exact ⟨rfl, hb⟩)
  generalize Gives (strV (itoa n)) w = Post at *
  by_cases h0 : n < 0
  · obtain ⟨u, hu⟩ : ∃ u : Nat, n = -(u : Int) := ⟨n.natAbs, by omega⟩
    subst hu
    have hu1 : 1 ≤ u := by omega
    have HI : Hid (itoa (-(u : Int)) = 45 :: decDigits u) := Lib.hid (itoa_neg hu1)
    by_cases hm : u = 9223372036854775808
    · subst hm
      go_enter Try.func5, Try.ntmps5
      go_wp2_with fail
      rw [show IntKind.u64.wrap (wrap64 9223372036854775808) = ((9223372036854775808 : Nat) : Int) from by decide +kernel]
      refine (digits10d_any 9223372036854775808 (by omega) _).mono ?_
      rintro e w1 ⟨rfl, hb1⟩
      have HB1 := Lib.hid hb1
      have HL := Lib.hid (dec_len20 (u := 9223372036854775808) (by omega))
      generalize decDigits 9223372036854775808 = l at *
      have hl : (bstr l).size ≤ 20 := by rw [bstr_size]; exact HL.out
      clear hb1
      go_wp2_with fail
      show Post (.returned (.string (bstr [45] ++ bstr l))) w1
      rw [bstr_append]
      exact HP.out _ _ HI.out HB1.out
    · have hu2 : u < 9223372036854775808 := by omega
      go_enter Try.func5, Try.ntmps5
      go_wp2_with fail
      refine (digits10d_any u (by omega) _).mono ?_
      rintro e w1 ⟨rfl, hb1⟩
      have HB1 := Lib.hid hb1
      have HL := Lib.hid (dec_len20 (u := u) (by omega))
      generalize decDigits u = l at *
      have hl : (bstr l).size ≤ 20 := by rw [bstr_size]; exact HL.out
      clear hb1
      go_wp2_with fail
      show Post (.returned (.string (bstr [45] ++ bstr l))) w1
      rw [bstr_append]
      exact HP.out _ _ HI.out HB1.out
  · obtain ⟨u, rfl⟩ := Int.eq_ofNat_of_zero_le (show 0 ≤ n by omega)
    have HI : Hid (itoa (u : Int) = decDigits u) := Lib.hid (itoa_pos u)
    go_enter Try.func5, Try.ntmps5
    go_wp2_with fail
    refine (digits10d_any u (by omega) _).mono ?_
    rintro e w1 ⟨rfl, hb1⟩
    have HB1 := Lib.hid hb1
    generalize decDigits u = l at *
    clear hb1
    go_wp2_with fail
    exact HP.out _ _ HI.out HB1.out

set_option maxHeartbeats 1000000 in
theorem rnumber_any (n : Int) (hn : In64 n) (w : World) : Calls Try.prog 6 #[.int .i64 n] w (Gives (strV (itoa n)) w) := by
  have HP : Hid (∀ w', Below w.heap.size w w' → Gives (strV (itoa n)) w (.returned (strV (itoa n))) w') := Lib.hid (fun w' h => ⟨rfl, h⟩)
  have HT := Lib.hid (fun w => rtext_any n hn w)
  generalize Gives (strV (itoa n)) w = Post at *
  obtain ⟨h1, h2⟩ := hn
  go_enter Try.func6, Try.ntmps6
  go_wp2_with fail
  refine (HT.out _).mono ?_
  rintro e w1 ⟨rfl, hb1⟩
  have HB1 := Lib.hid hb1
  generalize itoa n = l at *
  clear hb1
  go_wp2_with fail
  exact HP.out _ HB1.out

def hexS : ByteArray := ⟨#[48, 49, 50, 51, 52, 53, 54, 55, 56, 57, 97, 98, 99, 100, 101, 102]⟩
theorem hexS_at : ∀ d : Fin 16, hexS[d.val]? = some (chrN d.val) := by decide +kernel

set_option maxHeartbeats 2000000 in
theorem rhex_any (n : Nat) (hn : n < 18446744073709551616) (w : World) : Calls Try.prog 8 #[vu64 n] w (Gives (strV (digW 16 n 16)) w) := by
  have HP : Hid (∀ w', Below w.heap.size w w' → Gives (strV (digW 16 n 16)) w (.returned (strV (digW 16 n 16))) w') := Lib.hid (fun w' h => ⟨rfl, h⟩)
  generalize Gives (strV (digW 16 n 16)) w = Post at *
  go_enter Try.func8, Try.ntmps8
  go_wp2_with fail
  go_loopw [0, 3, 4] (fun nv sv iv wr => ∃ v t : Nat, nv = .int .u64 (v : Int) ∧ sv = .string (bstr (digW 16 n t)) ∧ iv = .int .i64 (t : Int) ∧ t ≤ 16 ∧ v < 18446744073709551616 ∧ Hid (v = n / 16 ^ t) ∧ Hid (Below w.heap.size w wr)) (fun _ _ iv _ => 16 - (intOf iv).toNat)
  case atStart => exact ⟨n, 0, rfl, rfl, rfl, by omega, hn, Lib.hid (by simp), Lib.hid (Below.refl _ _)⟩
  case round =>
    obtain ⟨v, t, rfl, rfl, rfl, ht, hv, HV, HB⟩ := hrel
    by_cases hlt : t < 16
    · have HF : Hid (digW 16 n (t + 1) = chrN (v % 16) :: digW 16 n t) := Lib.hid (by rw [digW_front, ← HV.out])
      have HL : Hid ((digW 16 n t).length = t) := Lib.hid (digW_len _ _ _)
      have hsz : (bstr (digW 16 n t)).size ≤ 16 := by rw [bstr_size, HL.out]; exact ht
      have HX := Lib.hid (hexS_at ⟨v % 16, by omega⟩)
      have HV2 : Hid (v / 16 = n / 16 ^ (t + 1)) := Lib.hid (by rw [HV.out, Nat.div_div_eq_div_mul, Nat.pow_succ])
      have HM : Hid ((v : Int) % 16 = ((v % 16 : Nat) : Int)) := Lib.hid (by omega)
      dsimp only at HX
      generalize digW 16 n t = l at *
      generalize chrN (v % 16) = b at *
      have HS : Hid (strOf [b.toNat] ++ bstr l = bstr (b :: l)) := Lib.hid (by rw [one_byte, bstr_append]; rfl)
      have hs1 : (strOf [b.toNat]).size = 1 := rfl
      have HCb : Hid (Cells (wr.alloc (.cells #[.int .u8 (b.toNat : Int)] 5)) (some ⟨wr.heap.size, 0, none⟩) ([b.toNat].map vu8)) := Lib.hid (((Mem.one wr #[.int .u8 (b.toNat : Int)] 5).at 0 rfl).cells)
      have HB1 := Lib.hid (HB.out.trans ((below_alloc wr (.cells #[.int .u8 (b.toNat : Int)] 5)).mono HB.out.size))
      have hlt' : (t : Int) < 16 := by omega
      go_wp2_with (first
        | (refine wpList_index_str (v % 16) Try.underlying9 HM.out HX.out rfl rfl rfl rfl ?_)
        | (refine wpList_string_of (ns := [b.toNat]) Try.underlying37 Try.underlying5 Try.underlying9 HCb.out rfl rfl rfl ?_))
      go_roundw
      case rel => exact ⟨v / 16, t + 1, vint (by omega), by rw [HF.out, ← HS.out], vint (by omega), by omega, by omega, HV2, HB1⟩
      case measure => simp [intOf]; omega
    · obtain rfl : t = 16 := by omega
      generalize digW 16 n 16 = l at *
      go_wp2_with fail
      exact HP.out _ HB.out

end Go.Proofs.Ytfedgcdkagngnaa

/-
  DERIVED: THE SHELF's CONTRACTS AT THIS DUMP, IN PLAIN WORDS (tools/lay-plain.mjs out of 'TmpShelf.lean', which tools/lay-shelf.mjs wrote): THE SAME DECLARATIONS UNDER THE SAME NAMES: 'import', 'namespace', 'open', 'def', 'theorem' AND NOTHING ELSE: no command of the shelf's: FOR A HAND-IN. Each laying: the table of numbers ('.._ren') and one theorem, a field a fact of the dump's own or the kernel's comparison; each contract: ONE APPLICATION.
-/
namespace Go.Proofs
open Go.Shelf
def Try.lays169_ren : Go.Shelf.Ren := ⟨fun | 169 => 21 | n => n, fun | 70 => 53 | 9 => 9 | 0 => 0 | 72 => 55 | 37 => 37 | 127 => 97 | 3 => 3 | 5 => 5 | n => n, fun | n => n⟩
theorem Try.lays169 : Go.Proofs.Lays.n169 Try.prog Try.lays169_ren := {
  mixed := by kernel_rfl
  f169 := Try.func21.trans (congrArg some (by kernel_rfl))
  t0 := Try.underlying0
  a0 := Try.isAgg0
  z0 := Try.sizeOf0
  v0 := Try.zeroValue0
  t3 := Try.underlying3
  a3 := Try.isAgg3
  z3 := Try.sizeOf3
  v3 := Try.zeroValue3
  t9 := Try.underlying9
  a9 := Try.isAgg9
  z9 := Try.sizeOf9
  v9 := Try.zeroValue9
  t37 := Try.underlying37
  a37 := Try.isAgg37
  z37 := Try.sizeOf37
  v37 := Try.zeroValue37
  t70 := Try.underlying53
  a70 := Try.isAgg53
  z70 := Try.sizeOf53
  v70 := Try.zeroValue53
  t72 := Try.underlying55
  a72 := Try.isAgg55
  z72 := Try.sizeOf55
  v72 := Try.zeroValue55
  t127 := Try.underlying97
  a127 := Try.isAgg97
  z127 := Try.sizeOf97
  v127 := Try.zeroValue97 }
end Go.Proofs

/- strings.Builder's contracts, laid at this program. -/
namespace Go.Proofs.Ytfedgcdkagngnaa
open Go.RowKit Go.Shelf
set_option linter.unusedVariables false

theorem extraS : Go.Proofs.Builder.Extra Try.prog Try.lays169_ren := {
  sizeBuilder := by kernel_rfl
  liesBuilder := by kernel_rfl
  t5 := Try.underlying5
  a5 := Try.isAgg5
  z5 := Try.sizeOf5
  v5 := Try.zeroValue5
  infoByte := by kernel_rfl
  cellsByte := by kernel_rfl
  sizeByte := by kernel_rfl
  neB5 := by decide }

abbrev Bld (B b : Nat) (l : List UInt8) (w : World) : Prop := Lib.IsBuilder 55 5 B b (Lib.byteCells l) w

theorem bstring_any (B b : Nat) (l : List UInt8) (w : World) (h : Bld B b l w) (hB : B ≤ w.heap.size) :
    Calls Try.prog 21 #[.pointer (some ⟨b, 0, none⟩)] w fun e w' => e = .returned (.string ⟨l.toArray⟩) ∧ Below B w w' :=
  Any.Builder_String_any Try.lays169 extraS B b l w h hB

end Go.Proofs.Ytfedgcdkagngnaa

/- strings.Builder: WriteByte, laid at this program; builders while other blocks are made. -/
namespace Go.Proofs.Ytfedgcdkagngnaa
open Go.RowKit Go.Shelf
set_option linter.unusedVariables false

def renB : Go.Shelf.Ren := ⟨fun | 167 => 19 | 240 => 41 | 276 => 60 | n => n, fun | 0 => 0 | 3 => 3 | 4 => 4 | 5 => 5 | 9 => 9 | 20 => 20 | 37 => 37 | 70 => 53 | 72 => 55 | 75 => 61 | 80 => 64 | 164 => 125 | n => n, fun | n => n⟩
theorem laysB : Go.Proofs.Lays.n167 Try.prog renB := {
  mixed := by kernel_rfl
  f167 := Try.func19.trans (congrArg some (by kernel_rfl))
  f240 := Try.func41.trans (congrArg some (by kernel_rfl))
  f276 := Try.func60.trans (congrArg some (by kernel_rfl))
  t0 := Try.underlying0
  a0 := Try.isAgg0
  z0 := Try.sizeOf0
  v0 := Try.zeroValue0
  t4 := Try.underlying4
  a4 := Try.isAgg4
  z4 := Try.sizeOf4
  v4 := Try.zeroValue4
  t5 := Try.underlying5
  a5 := Try.isAgg5
  z5 := Try.sizeOf5
  v5 := Try.zeroValue5
  t9 := Try.underlying9
  a9 := Try.isAgg9
  z9 := Try.sizeOf9
  v9 := Try.zeroValue9
  t20 := Try.underlying20
  a20 := Try.isAgg20
  z20 := Try.sizeOf20
  v20 := Try.zeroValue20
  t37 := Try.underlying37
  a37 := Try.isAgg37
  z37 := Try.sizeOf37
  v37 := Try.zeroValue37
  t70 := Try.underlying53
  a70 := Try.isAgg53
  z70 := Try.sizeOf53
  v70 := Try.zeroValue53
  t72 := Try.underlying55
  a72 := Try.isAgg55
  z72 := Try.sizeOf55
  v72 := Try.zeroValue55
  t75 := Try.underlying61
  a75 := Try.isAgg61
  z75 := Try.sizeOf61
  v75 := Try.zeroValue61
  t164 := Try.underlying125
  a164 := Try.isAgg125
  z164 := Try.sizeOf125
  v164 := Try.zeroValue125 }
theorem extraB : Go.Proofs.Builder.Extra Try.prog renB := {
  sizeBuilder := by kernel_rfl
  liesBuilder := by kernel_rfl
  t5 := Try.underlying5
  a5 := Try.isAgg5
  z5 := Try.sizeOf5
  v5 := Try.zeroValue5
  infoByte := by kernel_rfl
  cellsByte := by kernel_rfl
  sizeByte := by kernel_rfl
  neB5 := by decide }

theorem bbyte_any (B b : Nat) (l : List UInt8) (c : UInt8) (w : World) (h : Bld B b l w) (hlen : l.length + 1 ≤ 140737488355328) (hB : B ≤ w.heap.size) :
    Calls Try.prog 19 #[.pointer (some ⟨b, 0, none⟩), .int .u8 (c.toNat : Int)] w fun e w' => e = .returned .nilIface ∧ Bld B b (l ++ [c]) w' ∧ Below B w w' := by
  have h1 := Any.Builder_WriteByte laysB extraB B b (Lib.byteCells l) (c.toNat : Int) w h (by rw [Lib.byteCells_length]; exact hlen) hB
  refine Calls.mono (f := 19) h1 ?_
  rintro e w' ⟨h2, h3, h4⟩
  refine ⟨h2, .inr ?_, h4⟩
  have e1 : Lib.byteCells (l ++ [c]) = Lib.byteCells l ++ [.int .u8 (c.toNat : Int)] := by simp [Lib.byteCells]
  rw [e1]; exact h3

theorem bld_keep {B b : Nat} {l : List UInt8} {w w' : World} (h : Bld B b l w) (hb : Below w.heap.size w w') : Bld B b l w' := by
  rcases h with ⟨h1, v, h2, h3, h4⟩ | ⟨h1, v, h2, h3, h4⟩
  · exact .inl ⟨h1, v, by rw [hb.block b (Array.getElem?_eq_some_iff.1 h2).1]; exact h2, owned_below h3 hb (Nat.le_refl _), h4⟩
  · exact .inr ⟨h1, v, by rw [hb.block b (Array.getElem?_eq_some_iff.1 h2).1]; exact h2, owned_below h3 hb (Nat.le_refl _), h4⟩
theorem bld_fresh (w : World) : Bld w.heap.size w.heap.size [] (w.alloc (.cells #[.pointer none, .slice none 0 0] 55)) :=
  .inl ⟨Nat.le_refl _, .slice none 0 0, heap_alloc_new w _, ⟨rfl, .inl ⟨rfl, rfl⟩⟩, by simp [Value.ownBlock]⟩

end Go.Proofs.Ytfedgcdkagngnaa

/- Maps whose elements are opaque values (slices), keyed by whatever is keyed: one fact for the block, and the laws at the operations. -/
namespace Go.Proofs.Ytfedgcdkagngnaa
open Go.Maps Go.ChangeMaps
set_option linter.unusedVariables false

/-- An element reads as itself. -/
def rawElem (v : Value) : Option (DataW Value × List MemPlace) := some (.held v, [])

open Classical in
/-- One entry is another one. -/
noncomputable def putL (M : Lit → Option Value) (x : Lit) (v : Option Value) : Lit → Option Value := fun y => if y = x then v else M y
/-- The datum of a map tells M. -/
structure TellsV (D : DataW Value) (M : Lit → Option Value) : Prop where
  isMap : IsMap D
  has : ∀ x, WideAt.IsKeyLit x → has D x = (M x).isSome
  val : ∀ x v, WideAt.IsKeyLit x → M x = some v → ∀ z, D.atKey x z = .held v

theorem tellsV_nil : TellsV (.map []) fun _ => none := ⟨isMap_empty, fun _ _ => rfl, fun _ _ _ h => by cases h⟩
/-- Block b is a map of at most n entries: M. -/
def VMap (P : Program) (k : TypeId) (w : World) (b n : Nat) (M : Lit → Option Value) : Prop :=
  ∃ D : DataW Value, w.ownsMap P k rawElem b n D ∧ TellsV D M

section
variable {P : Program} {k e t : TypeId} {w : World} {b n : Nat} {M : Lit → Option Value} {ops : Array Oper} {rest : List Oper} {o : Oper} {a : Act} {Q : Exit → Act → World → Prop}

theorem VMap.mono {n' : Nat} (h : VMap P k w b n M) (hn : n ≤ n') : VMap P k w b n' M := by
  obtain ⟨D, ho, ht⟩ := h; exact ⟨D, ho.mono hn, ht⟩
theorem VMap.made (w : World) (P : Program) (k : TypeId) : VMap P k (w.alloc (.map #[] 0)) w.heap.size 0 fun _ => none :=
  ⟨.map [], World.ownsMap_made w P k _, tellsV_nil⟩
theorem VMap.block (h : VMap P k w b n M) {w' : World} (he : w'.heap[b]? = w.heap[b]?) : VMap P k w' b n M := by
  obtain ⟨D, ⟨es, clock, hb, F, hs, hD⟩, ht⟩ := h; exact ⟨D, ⟨es, clock, he.trans hb, F, hs, hD⟩, ht⟩

end

/-- A key of two numbers: its text. -/
def pairKey (a b : Int) : Lit := .string (keyBytes [.int .i64 a, .int .i64 b])

end Go.Proofs.Ytfedgcdkagngnaa

/- Plain: free cells, by classes, and those that mutators keep. -/
namespace Go.Proofs.Ytfedgcdkagngnaa
set_option linter.unusedVariables false

/-- All free cells. -/
structure FL where
  g : Nat → List Nat
  c : Nat → Nat → List Nat
def FL.empty : FL := ⟨fun _ => [], fun _ _ => []⟩
end Go.Proofs.Ytfedgcdkagngnaa

/- bits: mask, Get, Put. -/
namespace Go.Proofs.Ytfedgcdkagngnaa
open Go.RowKit
set_option linter.unusedVariables false

theorem pow_lt64 {k : Nat} (h : k < 64) : 2 ^ k < 18446744073709551616 := Nat.pow_lt_pow_right (by decide : 1 < 2) (show k < 64 from h)

set_option maxHeartbeats 400000 in
theorem mask_any (k : Nat) (h0 : 0 < k) (h : k < 64) (w : World) : Calls Try.prog 62 #[.int .i64 (k : Int)] w fun e w' => e = .returned (vu64 (2 ^ k - 1)) ∧ w = w' := by
  have hp := pow_lt64 h
  have h1 : 0 < 2 ^ k := Nat.two_pow_pos k
  have e1 : (2 : Int) ^ k = ((2 ^ k : Nat) : Int) := by push_cast; rfl
  have E := Lib.hid e1
  clear e1
  go_enter Try.func62, Try.ntmps62
  go_wp2_with fail
  go_ret
  refine ⟨ret_int ?_, rfl⟩
  rw [E.out, IntKind.wrap_u64, IntKind.wrap_u64]
  omega

/-- A field. -/
def fieldN (x at_ k : Nat) : Nat := x / 2 ^ at_ % 2 ^ k
theorem and_mask (y k : Nat) (hy : y < 18446744073709551616) (h : k < 64) : bits BinOp.and IntKind.u64 (y : Int) ((2 ^ k - 1 : Nat) : Int) = ((y % 2 ^ k : Nat) : Int) := by
  have hp := pow_lt64 h
  rw [u64_and_nat y (2 ^ k - 1) hy (by omega), Nat.and_two_pow_sub_one_eq_mod]

set_option maxHeartbeats 400000 in
theorem get_any (x a k : Nat) (hx : x < 18446744073709551616) (ha : a < 64) (h0 : 0 < k) (h : k < 64) (w : World) :
    Calls Try.prog 82 #[vu64 x, .int .i64 (a : Int), .int .i64 (k : Int)] w fun e w' => e = .returned (vu64 (fieldN x a k)) ∧ w = w' := by
  have hy : x / 2 ^ a < 18446744073709551616 := Nat.lt_of_le_of_lt (Nat.div_le_self _ _) hx
  have HY : Hid ((x : Int) / 2 ^ a = ((x / 2 ^ a : Nat) : Int)) := Lib.hid (by push_cast; rfl)
  have HF : Hid (fieldN x a k = x / 2 ^ a % 2 ^ k) := Lib.hid rfl
  have HM := Lib.hid (and_mask _ k hy h)
  obtain ⟨m, hm⟩ : ∃ m, m = 2 ^ k - 1 := ⟨_, rfl⟩
  rw [← hm] at HM
  have HMM := Lib.hid hm
  clear hm
  go_enter Try.func82, Try.ntmps82
  go_wp2_with fail
  refine (mask_any k h0 h _).mono ?_
  rintro e w1 ⟨rfl, rfl⟩
  rw [← HMM.out]
  go_wp2_with fail
  go_ret
  refine ⟨ret_int ?_, rfl⟩
  rw [HY.out, HM.out, HF.out]

/-- A field above others is set: what was there of it is nought. -/
theorem put_val (x a k n : Nat) (hx : x < 2 ^ a) (hn : n < 2 ^ k) (h : a + k < 64) :
    bits BinOp.or IntKind.u64 (bits BinOp.andNot IntKind.u64 (x : Int) (((2 ^ k - 1) * 2 ^ a : Nat) : Int)) (bits BinOp.and IntKind.u64 ((n * 2 ^ a : Nat) : Int) (((2 ^ k - 1) * 2 ^ a : Nat) : Int)) = ((x + n * 2 ^ a : Nat) : Int) := by
  have p1 := pow_lt64 (show a < 64 by omega)
  have p2 : 2 ^ k * 2 ^ a < 18446744073709551616 := by rw [← Nat.pow_add, Nat.add_comm]; exact pow_lt64 h
  have q1 : n * 2 ^ a ≤ 2 ^ k * 2 ^ a := Nat.mul_le_mul_right _ (by omega)
  have q2 : (2 ^ k - 1) * 2 ^ a ≤ 2 ^ k * 2 ^ a := Nat.mul_le_mul_right _ (by omega)
  have z : x < 18446744073709551616 := by omega
  rw [u64_andNot_nat _ _ z (by omega), u64_and_nat _ _ (by omega) (by omega)]
  have e1 : x &&& (18446744073709551615 - (2 ^ k - 1) * 2 ^ a) = x := by
    apply Nat.eq_of_testBit_eq
    intro i
    have e : 18446744073709551615 - (2 ^ k - 1) * 2 ^ a = 2 ^ 64 - ((2 ^ k - 1) * 2 ^ a + 1) := by omega
    rw [Nat.testBit_and, e, Nat.testBit_two_pow_sub_succ (by omega)]
    by_cases hi : i < a
    · have : ((2 ^ k - 1) * 2 ^ a).testBit i = false := by rw [Nat.mul_comm, Nat.testBit_two_pow_mul]; simp; omega
      rw [this]; simp; omega
    · have : x.testBit i = false := Nat.testBit_lt_two_pow (Nat.lt_of_lt_of_le hx (Nat.pow_le_pow_right (by decide) (by omega)))
      rw [this]; simp
  have e2 : n * 2 ^ a &&& (2 ^ k - 1) * 2 ^ a = n * 2 ^ a := by
    rw [← Nat.shiftLeft_eq, ← Nat.shiftLeft_eq, ← Nat.shiftLeft_and_distrib, Nat.and_two_pow_sub_one_eq_mod, Nat.mod_eq_of_lt hn]
  rw [e1, e2, u64_or_nat _ _ z (by omega)]
  congr 1
  have := Nat.two_pow_add_eq_or_of_lt (i := a) hx n
  rw [Nat.or_comm, Nat.mul_comm n, ← this, Nat.add_comm]

set_option maxHeartbeats 400000 in
theorem put_any (x a k n : Nat) (hx : x < 2 ^ a) (hn : n < 2 ^ k) (h : a + k < 64) (h0 : 0 < k) (w : World) :
    Calls Try.prog 45 #[vu64 x, .int .i64 (a : Int), .int .i64 (k : Int), vu64 n] w fun e w' => e = .returned (vu64 (x + n * 2 ^ a)) ∧ w = w' := by
  have hv := put_val x a k n hx hn h
  have p2 : 2 ^ k * 2 ^ a < 18446744073709551616 := by rw [← Nat.pow_add, Nat.add_comm]; exact pow_lt64 h
  have q1 : n * 2 ^ a ≤ 2 ^ k * 2 ^ a := Nat.mul_le_mul_right _ (by omega)
  have q2 : (2 ^ k - 1) * 2 ^ a ≤ 2 ^ k * 2 ^ a := Nat.mul_le_mul_right _ (by omega)
  have z : x < 18446744073709551616 := Nat.lt_trans hx (pow_lt64 (by omega))
  have w1 : IntKind.u64.wrap (((2 ^ k - 1 : Nat) : Int) * 2 ^ a) = (((2 ^ k - 1) * 2 ^ a : Nat) : Int) := by
    rw [show ((2 ^ k - 1 : Nat) : Int) * 2 ^ a = (((2 ^ k - 1) * 2 ^ a : Nat) : Int) by push_cast; rfl, IntKind.wrap_u64]; omega
  have w2 : IntKind.u64.wrap ((n : Int) * 2 ^ a) = ((n * 2 ^ a : Nat) : Int) := by
    rw [show (n : Int) * 2 ^ a = ((n * 2 ^ a : Nat) : Int) by push_cast; rfl, IntKind.wrap_u64]; omega
  obtain ⟨m, hm⟩ : ∃ m, m = 2 ^ k - 1 := ⟨_, rfl⟩
  rw [← hm] at hv w1
  have HM := Lib.hid hm
  have HV := Lib.hid hv
  have W1 := Lib.hid w1
  have W2 := Lib.hid w2
  have ha : a < 64 := by omega
  have hk : k < 64 := by omega
  clear hm hv w1 w2 p2 q1 q2
  go_enter Try.func45, Try.ntmps45
  go_wp2_with fail
  refine (mask_any k h0 hk _).mono ?_
  rintro e w1 ⟨rfl, rfl⟩
  rw [← HM.out]
  go_wp2_with fail
  go_ret
  refine ⟨ret_int ?_, rfl⟩
  rw [W1.out, W2.out, HV.out]

end Go.Proofs.Ytfedgcdkagngnaa

/- CRC-32, plainly: bit by bit, and by a table of sixteen. -/
namespace Go.Proofs.Ytfedgcdkagngnaa
set_option linter.unusedVariables false

def poly : Nat := 3988292384

/-- One bit. -/
def bitN (s : Nat) : Nat := if s % 2 = 1 then (s / 2) ^^^ poly else s / 2

theorem bitN_xor (x y : Nat) : bitN (x ^^^ y) = bitN x ^^^ bitN y := by
  have hd : (x ^^^ y) / 2 = x / 2 ^^^ y / 2 := Nat.xor_div_two
  have hm : (x ^^^ y) % 2 = (x % 2 + y % 2) % 2 := by
    have h := @Nat.xor_mod_two_eq_one x y
    omega
  unfold bitN
  rw [hd, hm]
  rcases Nat.mod_two_eq_zero_or_one x with hx | hx <;> rcases Nat.mod_two_eq_zero_or_one y with hy | hy <;> rw [hx, hy] <;> simp
  · rw [Nat.xor_assoc]
  · rw [Nat.xor_assoc, Nat.xor_assoc, Nat.xor_comm poly]
  · generalize x / 2 = a
    generalize y / 2 = b
    rw [show a ^^^ poly ^^^ (b ^^^ poly) = a ^^^ b ^^^ (poly ^^^ poly) by
      rw [Nat.xor_assoc, Nat.xor_assoc, ← Nat.xor_assoc poly b poly, Nat.xor_comm poly b, Nat.xor_assoc]]
    simp

theorem bitN_two (q : Nat) : bitN (2 * q) = q := by unfold bitN; rw [if_neg (by omega)]; omega

def bit4 (s : Nat) : Nat := bitN (bitN (bitN (bitN s)))
theorem bit4_xor (x y : Nat) : bit4 (x ^^^ y) = bit4 x ^^^ bit4 y := by unfold bit4; rw [bitN_xor, bitN_xor, bitN_xor, bitN_xor]

theorem bit4_up (q : Nat) : bit4 (16 * q) = q := by
  unfold bit4
  rw [show 16 * q = 2 * (2 * (2 * (2 * q))) by omega, bitN_two, bitN_two, bitN_two, bitN_two]

def tableL : List Nat := [0, 498536548, 997073096, 651767980, 1994146192, 1802195444, 1303535960, 1342533948, 3988292384, 4027552580, 3604390888, 3412177804, 2607071920, 2262029012, 2685067896, 3183342108]

theorem bit4_low : ∀ i : Nat, i < 16 → bit4 i = tableL.getD i 0 := by decide

theorem split16 (x : Nat) : x = (16 * (x / 16)) ^^^ (x % 16) := by
  have h : 16 * (x / 16) ||| x % 16 = 16 * (x / 16) + x % 16 := by
    have := Nat.two_pow_add_eq_or_of_lt (i := 4) (b := x % 16) (Nat.mod_lt _ (by decide)) (x / 16)
    simpa using this.symm
  have h2 : 16 * (x / 16) ^^^ x % 16 = 16 * (x / 16) ||| x % 16 := by
    apply Nat.eq_of_testBit_eq
    intro i
    rw [Nat.testBit_xor, Nat.testBit_or]
    by_cases hi : i < 4
    · have : (16 * (x / 16)).testBit i = false := by
        rw [show 16 * (x / 16) = 2 ^ 4 * (x / 16) by rfl, Nat.testBit_two_pow_mul]
        simp; omega
      rw [this]; simp
    · have : (x % 16).testBit i = false := by
        rw [show x % 16 = x % 2 ^ 4 by rfl, Nat.testBit_mod_two_pow]
        simp; omega
      rw [this]; simp
  rw [h2, h]; omega

theorem bit4_eq (x : Nat) : bit4 x = tableL.getD (x % 16) 0 ^^^ (x / 16) := by
  conv => lhs; rw [split16 x]
  rw [bit4_xor, bit4_up, bit4_low _ (Nat.mod_lt _ (by decide)), Nat.xor_comm]

def tabN (i : Nat) : Nat := tableL.getD (i % 16) 0

/-- One nibble, as the program does it: the low four bits of a byte b. -/
def nib (s b : Nat) : Nat := tabN (s % 256 ^^^ b) ^^^ (s / 16)

theorem xor_mod16 (s b : Nat) : (s % 256 ^^^ b) % 16 = (s ^^^ b) % 16 := by
  have h := fun x y => @Nat.xor_mod_two_pow x y 4
  simp only [show (2:Nat) ^ 4 = 16 by rfl] at h
  rw [h, h, Nat.mod_mod_of_dvd _ (by decide : 16 ∣ 256)]

theorem bit4_nib (s b : Nat) : bit4 (s ^^^ b) = nib s b ^^^ (b / 16) := by
  have hd : (s ^^^ b) / 16 = s / 16 ^^^ b / 16 := by
    have := @Nat.xor_div_two_pow s b 4
    simpa using this
  rw [bit4_eq, nib, tabN, xor_mod16, hd, Nat.xor_assoc]

/-- One byte. -/
def byteN (s b : Nat) : Nat := bit4 (bit4 (s ^^^ b))

theorem byteN_nib (s b : Nat) (h : b < 256) : nib (nib s b) (b / 16) = byteN s b := by
  have h0 : b / 16 / 16 = 0 := by omega
  unfold byteN
  rw [bit4_nib, bit4_nib, h0, Nat.xor_zero]

theorem poly_lt : poly < 2 ^ 32 := by decide
theorem bitN_lt (s : Nat) (h : s < 2 ^ 32) : bitN s < 2 ^ 32 := by
  unfold bitN
  split
  · exact Nat.xor_lt_two_pow (by omega) poly_lt
  · omega

theorem bit4_lt (s : Nat) (h : s < 2 ^ 32) : bit4 s < 2 ^ 32 := bitN_lt _ (bitN_lt _ (bitN_lt _ (bitN_lt _ h)))
theorem byteN_lt (s b : Nat) (h : s < 2 ^ 32) (hb : b < 256) : byteN s b < 2 ^ 32 := bit4_lt _ (bit4_lt _ (Nat.xor_lt_two_pow h (by omega)))
theorem tableL_lt (i : Nat) : tableL.getD i 0 < 2 ^ 32 := by
  by_cases h : i < 16
  · have : ∀ i : Nat, i < 16 → tableL.getD i 0 < 2 ^ 32 := by decide
    exact this i h
  · rw [List.getD_eq_getElem?_getD, List.getElem?_eq_none (by show 16 ≤ i; omega)]; decide
theorem nib_lt (s b : Nat) (h : s < 2 ^ 32) : nib s b < 2 ^ 32 := Nat.xor_lt_two_pow (tableL_lt _) (by omega)

theorem not32 (x : Nat) (h : x < 2 ^ 32) : 4294967295 ^^^ x = 4294967295 - x := by
  apply Nat.eq_of_testBit_eq
  intro i
  have e1 : (4294967295 : Nat) = 2 ^ 32 - 1 := by decide
  have e2 : 4294967295 - x = 2 ^ 32 - (x + 1) := by omega
  rw [e2, Nat.testBit_two_pow_sub_succ h, Nat.testBit_xor, e1, Nat.testBit_two_pow_sub_one]
  by_cases hi : i < 32
  · simp [hi]
  · have : x.testBit i = false := Nat.testBit_lt_two_pow (Nat.lt_of_lt_of_le h (Nat.pow_le_pow_right (by decide) (by omega)))
    simp [hi, this]

/-- The sum of bytes behind others. -/
def foldN (s : Nat) (l : List Nat) : Nat := l.foldl byteN s
def moreN (s : Nat) (l : List Nat) : Nat := 4294967295 - foldN (4294967295 - s) l
theorem foldN_lt (l : List Nat) (h : ∀ z ∈ l, z < 256) : ∀ s, s < 2 ^ 32 → foldN s l < 2 ^ 32 := by
  induction l with
  | nil => intro s hs; exact hs
  | cons z l ih => intro s hs; exact ih (fun y hy => h y (by simp [hy])) _ (byteN_lt s z hs (h z (by simp)))
theorem foldN_take (s : Nat) (l : List Nat) (k : Nat) (h : k < l.length) : foldN s (l.take (k + 1)) = byteN (foldN s (l.take k)) (l.getD k 0) := by
  have e : l.getD k 0 = l[k] := by simp [h]
  rw [List.take_succ_eq_append_getElem h, e]
  unfold foldN
  rw [List.foldl_append]; rfl
theorem moreN_lt (s : Nat) (l : List Nat) : moreN s l < 2 ^ 32 := by unfold moreN; omega

end Go.Proofs.Ytfedgcdkagngnaa

/- crc: its table, its sums. -/
namespace Go.Proofs.Ytfedgcdkagngnaa
open Go.RowKit
set_option linter.unusedVariables false

abbrev vu32 (n : Nat) : Value := .int .u32 (n : Int)

def tableV : Array Value := (tableL.map vu32).toArray
theorem tableV_at (k : Nat) (h : k < 16) : tableV[k]? = some (vu32 (tableL.getD k 0)) := by
  have hj : k < tableL.length := h
  simp only [tableV, List.getElem?_toArray, List.getElem?_map, List.getElem?_eq_getElem hj, Option.map_some, List.getD_eq_getElem?_getD, Option.getD_some]

set_option maxHeartbeats 400000 in
set_option maxRecDepth 100000 in
theorem table_any (x : Nat) (hx : x < 256) (w : World) : Calls Try.prog 94 #[vu8 x] w fun e w' => e = .returned (vu32 (tabN x)) ∧ w = w' := by
  have HV := Lib.hid (tableV_at (x % 16) (Nat.mod_lt _ (by decide)))
  go_enter Try.func94, Try.ntmps94
  go_wp2_with (refine wpList_index_arr (x % 16) Try.underlying160 Try.underlying104 rfl (by kernel_rfl) (by omega) (by omega) HV.out rfl rfl rfl rfl ?_)
  go_ret
  exact ⟨ret_int (by rw [tabN, List.getD_eq_getElem?_getD]), rfl⟩

theorem not_val (s : Nat) (h : s < 2 ^ 32) : bits BinOp.xor IntKind.u32 IntKind.u32.max (s : Int) = ((4294967295 - s : Nat) : Int) := by
  have e : IntKind.u32.max = ((4294967295 : Nat) : Int) := by decide
  rw [e, u32_xor_nat _ _ (by decide) h, not32 s h]

theorem nib_val1 (s b : Nat) (h : s < 2 ^ 32) (hb : b < 256) : bits BinOp.xor IntKind.u8 ((s : Int) % 256) (b : Int) = ((s % 256 ^^^ b : Nat) : Int) := by
  rw [show (s : Int) % 256 = ((s % 256 : Nat) : Int) by omega, u8_xor_nat _ _ (Nat.mod_lt _ (by decide)) hb]

theorem nib_val2 (s b : Nat) (h : s < 2 ^ 32) : bits BinOp.xor IntKind.u32 ((tabN (s % 256 ^^^ b) : Nat) : Int) ((s : Int) / 16) = ((nib s b : Nat) : Int) := by
  rw [show (s : Int) / 16 = ((s / 16 : Nat) : Int) by omega, u32_xor_nat _ _ (show tabN _ < 4294967296 from tableL_lt _) (by omega)]; rfl

set_option maxHeartbeats 400000 in
theorem more_any (s : Nat) (hs : s < 2 ^ 32) (a : Option Addr) {n : Nat} (cap : Nat) (zs : List Nat) (hn : zs.length = n) (w : World) (hcs : Cells w a (zs.map vu8)) (hz : ∀ z ∈ zs, z < 256) (hl : zs.length ≤ 1000000) :
    Calls Try.prog 89 #[vu32 s, .slice a n cap] w fun e w' => e = .returned (vu32 (moreN s zs)) ∧ w = w' := by
  subst hn
  have HZ := Lib.hid hz
  clear hz
  go_enter Try.func89, Try.ntmps89
  go_wp2_with fail
  rw [not_val s hs]
  have hs0 : 4294967295 - s < 2 ^ 32 := by omega
  obtain ⟨q, hq⟩ : ∃ q, q = 4294967295 - s := ⟨_, rfl⟩
  rw [← hq] at hs0 ⊢
  have HQ := Lib.hid hq
  clear hq
  go_loop [0, 11] (fun v i => ∃ k : Nat, k ≤ zs.length ∧ i = .int .i64 k ∧ v = vu32 (foldN q (zs.take k))) (fun _ i => zs.length - (intOf i).toNat)
  case atStart => exact ⟨0, Nat.zero_le _, rfl, rfl⟩
  case round =>
    obtain ⟨k, hk, rfl, rfl⟩ := hrel
    by_cases hlt : k < zs.length
    · obtain ⟨b, off, rfl, hbs, hc⟩ := hcs.atMap 0 hlt
      have hcell : w.cell? ⟨b, off + k, none⟩ = some (.int .u8 (zs.getD k 0 : Nat)) := hc k hlt
      have hx := HZ.out (zs.getD k 0) (by simp [hlt])
      have hf := foldN_lt (zs.take k) (fun z hz => HZ.out z (List.mem_of_mem_take hz)) q hs0
      have HS := Lib.hid (foldN_take q zs k hlt)
      clear hc
      generalize zs.getD k 0 = x at *
      generalize foldN q (zs.take k) = s1 at *
      have HB := Lib.hid (byteN_nib s1 x hx)
      have hn1 := nib_lt s1 x hf
      go_wp2_with fail
      rw [nib_val1 s1 x hf hx]
      refine (table_any _ (Nat.xor_lt_two_pow (n := 8) (Nat.mod_lt _ (by decide)) hx) _).mono ?_
      rintro e w1 ⟨rfl, rfl⟩
      go_wp2_with fail
      rw [nib_val2 s1 x hf]
      generalize nib s1 x = s2 at *
      have hx2 : x / 16 < 256 := by omega
      rw [show (x : Int) / 16 = ((x / 16 : Nat) : Int) by omega]
      generalize x / 16 = x2 at *
      go_wp2_with fail
      rw [nib_val1 s2 x2 hn1 hx2]
      refine (table_any _ (Nat.xor_lt_two_pow (n := 8) (Nat.mod_lt _ (by decide)) hx2) _).mono ?_
      rintro e w1 ⟨rfl, rfl⟩
      go_wp2_with fail
      rw [nib_val2 s2 x2 hn1, HB.out, ← HS.out]
      exact ⟨⟨k + 1, by omega, vint (by omega), rfl⟩, by simp [intOf]; omega⟩
    · obtain rfl : k = zs.length := by omega
      rw [List.take_length]
      have hf := foldN_lt zs HZ.out q hs0
      have HM : Hid (moreN s zs = 4294967295 - foldN q zs) := Lib.hid (by rw [HQ.out]; rfl)
      generalize foldN q zs = s1 at *
      go_wp2_with fail
      go_ret
      exact ⟨ret_int (by rw [not_val s1 hf, HM.out]), rfl⟩

set_option maxHeartbeats 400000 in
theorem sum_any (a : Option Addr) {n : Nat} (cap : Nat) (zs : List Nat) (hn : zs.length = n) (w : World) (hcs : Cells w a (zs.map vu8)) (hz : ∀ z ∈ zs, z < 256) (hl : zs.length ≤ 1000000) :
    Calls Try.prog 79 #[.slice a n cap] w fun e w' => e = .returned (vu32 (moreN 0 zs)) ∧ w = w' := by
  go_enter Try.func79, Try.ntmps79
  go_wp2_with fail
  refine (more_any 0 (by decide) a cap zs hn w hcs hz hl).mono ?_
  rintro e w2 ⟨rfl, rfl⟩
  go_wp2_with fail
  go_ret
  exact ⟨rfl, rfl⟩

def wordsN (ws : List Nat) : Nat := moreN 0 (unpack ws)

set_option maxHeartbeats 400000 in
theorem crcWords_any (a : Option Addr) {n : Nat} (cap : Nat) (ws : List Nat) (hn : ws.length = n) (w : World) (h : Cells w a (ws.map vu64)) (hz : ∀ z ∈ ws, z < 18446744073709551616) (hl : ws.length ≤ 1000) :
    Calls Try.prog 63 #[.slice a n cap] w fun e w' => e = .returned (vu32 (wordsN ws)) ∧ Below w.heap.size w w' := by
  go_enter Try.func63, Try.ntmps63
  go_wp2_with fail
  refine (bytes_any a cap ws hn w h hz (by omega)).mono ?_
  rintro e w1 ⟨v, rfl, ho, hb⟩
  obtain ⟨a1, c1, rfl, _, _⟩ := owned_form ho
  have hcs := Cells.owned ho
  have hl1 : (unpack ws).length ≤ 1000000 := by rw [unpack_length]; omega
  have hz1 := unpack_lt ws
  clear ho
  go_wp2_with fail
  refine (sum_any a1 c1 (unpack ws) rfl w1 hcs hz1 hl1).mono ?_
  rintro e w2 ⟨rfl, rfl⟩
  go_wp2_with fail
  go_ret
  exact ⟨rfl, hb⟩

/-- A number below its sum. -/
def sealN (n place : Nat) : Nat := wordsN [n, place] * 4294967296 + n

theorem wordsN_lt (ws : List Nat) : wordsN ws < 4294967296 := moreN_lt _ _

/-- A place, as a word. -/
def pl (p : Int) : Nat := (p % 18446744073709551616).toNat
theorem pl_lt (p : Int) : pl p < 18446744073709551616 := by unfold pl; omega

theorem pl_wrap (p : Int) : IntKind.u64.wrap p = (pl p : Int) := by rw [IntKind.wrap_u64]; unfold pl; omega

theorem seal_val (n : Nat) (h : n < 4294967296) (x : Nat) (hx : x < 4294967296) : bits BinOp.or IntKind.u64 ((x : Int) * 4294967296) (n : Int) = ((x * 4294967296 + n : Nat) : Int) := by
  have e : ((x : Int) * 4294967296) = ((x * 4294967296 : Nat) : Int) := by omega
  rw [e, u64_or_nat _ _ (by omega) (by omega)]
  have := Nat.two_pow_add_eq_or_of_lt (i := 32) (b := n) h x
  congr 1
  rw [Nat.mul_comm x]
  exact this.symm

set_option maxHeartbeats 400000 in
theorem seal_any (n : Nat) (p : Int) (hn : n < 4294967296) (w : World) :
    Calls Try.prog 46 #[vu32 n, .int .i64 p] w fun e w' => e = .returned (vu64 (sealN n (pl p))) ∧ Below w.heap.size w w' := by
  go_enter Try.func46, Try.ntmps46
  go_wp2_with fail
  rw [pl_wrap p]
  have hp := pl_lt p
  obtain ⟨q, hq⟩ : ∃ q, q = pl p := ⟨_, rfl⟩
  rw [← hq] at hp ⊢
  have HQ := Lib.hid hq
  clear hq
  have HS : Hid (sealN n q = wordsN [n, q] * 4294967296 + n) := Lib.hid rfl
  have hb0 := below_alloc w (Obj.cells #[Value.int IntKind.u64 (n : Int), Value.int IntKind.u64 (q : Int)] 22)
  have hc0 : Cells (w.alloc (Obj.cells #[Value.int IntKind.u64 (n : Int), Value.int IntKind.u64 (q : Int)] 22)) (some ⟨w.heap.size, 0, none⟩) ([n, q].map vu64) := by
    refine .inr ⟨_, _, rfl, fun i v hi => ?_⟩
    rw [Nat.zero_add]
    refine cell_alloc_new _ _ _ _ _ ?_
    simpa using hi
  generalize w.alloc (Obj.cells #[Value.int IntKind.u64 (n : Int), Value.int IntKind.u64 (q : Int)] 22) = w0 at *
  refine (crcWords_any _ 2 [n, q] rfl w0 hc0 (by simp; omega) (by simp)).mono ?_
  rintro e w1 ⟨rfl, hb1⟩
  have hb := hb0.trans (hb1.mono hb0.size)
  have hw := wordsN_lt [n, q]
  generalize wordsN [n, q] = x at *
  clear hb0 hb1 hc0
  go_wp2_with fail
  go_ret
  exact ⟨ret_int (by rw [seal_val n hn x hw, ← HQ.out, HS.out]), hb⟩

theorem sealN_lt (n q : Nat) (h : n < 4294967296) : sealN n q < 18446744073709551616 := by have := wordsN_lt [n, q]; unfold sealN; omega

/-- The number of a sealed word. -/
def openN (x q : Nat) : Option Nat := if sealN (x % 4294967296) q = x then some (x % 4294967296) else none

/-- What crc.Open answers. -/
def openV : Option Nat → Value
  | some n => .tuple #[vu32 n, .bool true]
  | none => .tuple #[vu32 0, .bool false]

set_option maxHeartbeats 400000 in
theorem open_any (x : Nat) (p : Int) (hx : x < 18446744073709551616) (w : World) :
    Calls Try.prog 81 #[vu64 x, .int .i64 p] w fun e w' => e = .returned (openV (openN x (pl p))) ∧ Below w.heap.size w w' := by
  go_enter Try.func81, Try.ntmps81
  go_wp2_with fail
  rw [show (x : Int) % 4294967296 = ((x % 4294967296 : Nat) : Int) by omega]
  have hn : x % 4294967296 < 4294967296 := Nat.mod_lt _ (by decide)
  have HO : Hid (openN x (pl p) = if sealN (x % 4294967296) (pl p) = x then some (x % 4294967296) else none) := Lib.hid rfl
  generalize x % 4294967296 = n at *
  refine (seal_any n p hn w).mono ?_
  rintro e w1 ⟨rfl, hb⟩
  have hs := sealN_lt n (pl p) hn
  generalize sealN n (pl p) = y at *
  by_cases he : y = x
  · have HV : Hid (openV (openN x (pl p)) = .tuple #[vu32 n, .bool true]) := Lib.hid (by rw [HO.out, if_pos he]; rfl)
    subst he
    go_wp2_with fail
    go_ret2
    exact ⟨by rw [HV.out]; rfl, hb⟩
  · have HV : Hid (openV (openN x (pl p)) = .tuple #[vu32 0, .bool false]) := Lib.hid (by rw [HO.out, if_neg he]; rfl)
    have he' : ¬ ((y : Int) = (x : Int)) := by omega
    clear he
    go_wp2_with fail
    go_ret2
    exact ⟨by rw [HV.out]; rfl, hb⟩

end Go.Proofs.Ytfedgcdkagngnaa

/- The reference's crc. -/
namespace Go.Proofs.Ytfedgcdkagngnaa
open Go.RowKit
set_option linter.unusedVariables false

end Go.Proofs.Ytfedgcdkagngnaa

/- Headers of blocks: their words; the reference's. -/
namespace Go.Proofs.Ytfedgcdkagngnaa
open Go.RowKit
set_option linter.unusedVariables false

/-- May a header be? -/
def HdRight (k c l : Int) : Prop := (k = 0 ∧ c = 0 ∧ l = 0) ∨ (k = 1 ∧ (0 ≤ c ∧ c < 32) ∧ l = 0) ∨ ((k = 2 ∨ k = 3) ∧ c = 0 ∧ 1 ≤ l ∧ l < 256)
instance (k c l : Int) : Decidable (HdRight k c l) := by unfold HdRight; infer_instance
def hdRight (k c l : Int) : Bool := decide (HdRight k c l)

abbrev vhd (k c l : Int) : Value := .agg #[.int .i64 k, .int .i64 c, .int .i64 l]

theorem hdR_t {k c l : Int} (h : HdRight k c l) : true = hdRight k c l := (decide_eq_true h).symm
theorem hdR_f {k c l : Int} (h : ¬ HdRight k c l) : false = hdRight k c l := (decide_eq_false h).symm

set_option maxHeartbeats 1000000 in
theorem bright_any (k c l : Int) (w : World) : Calls Try.prog 44 #[vhd k c l] w fun e w' => e = .returned (.bool (hdRight k c l)) ∧ Below w.heap.size w w' := by
  have HB := Lib.hid (below_alloc w)
  by_cases h1 : k = 1
  · subst h1
    have HR : Hid (hdRight 1 c l = (decide (0 ≤ c ∧ c < 32) && decide (l = 0))) := Lib.hid (by unfold hdRight HdRight; simp)
    go_enter Try.func44, Try.ntmps44
    go_wp2_with fail
    refine (cright_any _ _).mono ?_
    rintro e w1 ⟨rfl, rfl⟩
    by_cases hc : 0 ≤ c ∧ c < 32
    · rw [decide_eq_true hc] at HR ⊢
      clear hc
      go_wp2_with fail
      all_goals
        go_ret
        exact ⟨ret_bool (by rw [HR.out]; rw [Bool.eq_iff_iff]; simp [*]), HB.out _⟩
    · rw [decide_eq_false hc] at HR ⊢
      clear hc
      go_wp2_with fail
      all_goals
        go_ret
        exact ⟨ret_bool (by rw [HR.out]; rw [Bool.eq_iff_iff]; simp [*]), HB.out _⟩
  go_enter Try.func44, Try.ntmps44
  go_wp2_with fail
  all_goals
    go_ret
    refine ⟨ret_bool ?_, HB.out _⟩
    clear HB
    simp only [beq_iff_eq, beq_eq_false_iff_ne] at *
    first
      | exact hdR_t (by unfold HdRight; omega)
      | exact hdR_f (by unfold HdRight; omega)
      | (by_cases hl : l < 256
         · exact (decide_eq_true hl).trans (hdR_t (by unfold HdRight; omega))
         · exact (decide_eq_false hl).trans (hdR_f (by unfold HdRight; omega)))

/-- A header's number; its word. -/
def hdN (k c l : Int) : Nat := (k + 4 * c + 256 * l).toNat
def encN (b k c l : Int) : Nat := if hdRight k c l = true then sealN (hdN k c l) (pl (256 + b)) else 0

theorem hd_small {k c l : Int} (h : hdRight k c l = true) : (0 ≤ k ∧ k < 4) ∧ (0 ≤ c ∧ c < 64) ∧ (0 ≤ l ∧ l < 65536) := by
  have := of_decide_eq_true h
  unfold HdRight at this
  omega

theorem hdN_lt {k c l : Int} (h : hdRight k c l = true) : hdN k c l < 4294967296 := by
  have := hd_small h
  unfold hdN
  omega

theorem encN_lt (b k c l : Int) : encN b k c l < 18446744073709551616 := by
  unfold encN
  split
  · rename_i h; exact sealN_lt _ _ (hdN_lt h)
  · decide

set_option maxHeartbeats 1000000 in
theorem bencode_any (b k c l : Int) (hb0 : 0 ≤ b) (hb1 : b ≤ 1000000) (w : World) : Calls Try.prog 26 #[.int .i64 b, vhd k c l] w fun e w' => e = .returned (vu64 (encN b k c l)) ∧ Below w.heap.size w w' := by
  have hb := below_alloc w (Obj.cells #[Value.int .i64 k, Value.int .i64 c, Value.int .i64 l] 73)
  have hg := heap_alloc_new w (Obj.cells #[Value.int .i64 k, Value.int .i64 c, Value.int .i64 l] 73)
  go_enter Try.func26, Try.ntmps26
  go_wp2_with fail
  generalize w.alloc (Obj.cells #[Value.int .i64 k, Value.int .i64 c, Value.int .i64 l] 73) = w0 at *
  refine (bright_any k c l w0).mono ?_
  rintro e w1 ⟨rfl, hb1⟩
  have hgl : w.heap.size < w0.heap.size := (Array.getElem?_eq_some_iff.1 hg).1
  have hbb := hb.trans (hb1.mono hb.size)
  have hg1 : w1.heap[w.heap.size]? = _ := (hb1.block _ hgl).trans hg
  have c0 : w1.cell? ⟨w.heap.size, 0, none⟩ = some (.int .i64 k) := cell_of_row _ _ 0 _ _ _ hg1
  have c1 : w1.cell? ⟨w.heap.size, 1, none⟩ = some (.int .i64 c) := cell_of_row _ _ 1 _ _ _ hg1
  have c2 : w1.cell? ⟨w.heap.size, 2, none⟩ = some (.int .i64 l) := cell_of_row _ _ 2 _ _ _ hg1
  clear hb hb1 hg hgl hg1
  cases hr : hdRight k c l
  · have HE : Hid (encN b k c l = 0) := Lib.hid (by unfold encN; rw [hr]; rfl)
    clear hr
    go_wp2_with fail
    go_ret
    exact ⟨ret_int (by rw [HE.out]; rfl), hbb⟩
  · have HE : Hid (encN b k c l = sealN (hdN k c l) (pl (256 + b))) := Lib.hid (by unfold encN; rw [hr]; rfl)
    have hn := hdN_lt hr
    obtain ⟨⟨k0, k1⟩, ⟨c0', c1'⟩, l0, l1⟩ := hd_small hr
    have HN : Hid (hdN k c l = (k.toNat + c.toNat * 4 + l.toNat * 256)) := Lib.hid (by unfold hdN; omega)
    clear hr
    obtain ⟨k, rfl⟩ := Int.eq_ofNat_of_zero_le k0
    obtain ⟨c, rfl⟩ := Int.eq_ofNat_of_zero_le c0'
    obtain ⟨l, rfl⟩ := Int.eq_ofNat_of_zero_le l0
    simp only [Int.toNat_natCast] at HN
    have P0 : Hid (Calls Try.prog 45 #[vu64 0, .int .i64 0, .int .i64 2, vu64 k] w1 fun e w' => e = .returned (vu64 k) ∧ w1 = w') := Lib.hid (by have := put_any 0 0 2 k (by decide) (by omega) (by decide) (by decide) w1; simpa using this)
    have P1 : Hid (Calls Try.prog 45 #[vu64 k, .int .i64 2, .int .i64 6, vu64 c] w1 fun e w' => e = .returned (vu64 (k + c * 4)) ∧ w1 = w') := Lib.hid (put_any k 2 6 c (by omega) (by omega) (by decide) (by decide) w1)
    have P2 : Hid (Calls Try.prog 45 #[vu64 (k + c * 4), .int .i64 8, .int .i64 16, vu64 l] w1 fun e w' => e = .returned (vu64 (k + c * 4 + l * 256)) ∧ w1 = w') := Lib.hid (put_any (k + c * 4) 8 16 l (by omega) (by omega) (by decide) (by decide) w1)
    go_wp2_with fail
    refine P0.out.mono ?_
    rintro e w2 ⟨rfl, rfl⟩
    go_wp2_with fail
    refine P1.out.mono ?_
    rintro e w2 ⟨rfl, rfl⟩
    go_wp2_with fail
    refine P2.out.mono ?_
    rintro e w2 ⟨rfl, rfl⟩
    rw [← HN.out]
    generalize hdN (k : Int) (c : Int) (l : Int) = n at *
    clear P0 P1 P2
    go_wp2_with fail
    refine (seal_any n _ hn _).mono ?_
    rintro e w2 ⟨rfl, hb2⟩
    rw [← HE.out]
    go_wp2_with fail
    go_ret
    exact ⟨rfl, hbb.trans (hb2.mono hbb.size)⟩

end Go.Proofs.Ytfedgcdkagngnaa

/- Headers of blocks: decoded. -/
namespace Go.Proofs.Ytfedgcdkagngnaa
open Go.RowKit
set_option linter.unusedVariables false

/-- Two results: a struct or an array in a block of its own, and a slot. -/
theorem results_cell_row2 {P : Program} {fn : Func} {p u : Tmp} {ty : TypeId} (h : fn.results = #[.cell p ty, .tmp u]) (tmps : Array Value) (w : World) (g : Nat) (t : TypeId) (cs : Array Value) (fr : Nat × Nat) (d : TypeDesc)
    (hp : tmps.getD p undef = .pointer (some ⟨g, 0, none⟩)) (hg : w.heap[g]? = some (.cells cs t fr))
    (hu : P.underlying ty = some d) (hd : (match d with | .struct _ | .array _ _ => true | _ => false) = true) (hi : (P.info? ty).map (·.size) = some cs.size) :
    (results fn tmps).run P w = .ok (.tuple #[.agg cs, tmps.getD u undef]) w := by
  have hp' : tmps[p]?.getD undef = .pointer (some ⟨g, 0, none⟩) := by simpa using hp
  simp [results, h, hp', asAddr, run_loadVar_row w g t ty cs fr d hg hu hd hi]

theorem aggHd : Agg Try.prog 73 #[.int .i64 0, .int .i64 0, .int .i64 0] := ⟨⟨_, Try.underlying73, rfl⟩, by kernel_rfl⟩
/-- What a word is as a block's header: kind, class, length, the error's number. -/
structure Dec where
  k : Int
  c : Int
  l : Int
  code : Int
/-- Of a sealed number. -/
def decS (b : Int) (x n : Nat) : Dec :=
  if encN b (n % 4 : Nat) (n / 4 % 64 : Nat) (n / 256 % 65536 : Nat) = x then (if hdRight (n % 4 : Nat) (n / 4 % 64 : Nat) (n / 256 % 65536 : Nat) = true then ⟨(n % 4 : Nat), (n / 4 % 64 : Nat), (n / 256 % 65536 : Nat), 0⟩ else ⟨0, 0, 0, 26⟩) else ⟨0, 0, 0, 26⟩
def decN (b : Int) (x : Nat) : Dec := ((openN x (pl (256 + b))).map (decS b x)).getD ⟨0, 0, 0, 25⟩
def Dec.val (d : Dec) : Value := .tuple #[vhd d.k d.c d.l, .int .i64 d.code]

theorem decN_none {b : Int} {x : Nat} (h : openN x (pl (256 + b)) = none) : (decN b x).val = .tuple #[vhd 0 0 0, .int .i64 25] := by unfold decN; rw [h]; rfl
theorem decN_some {b : Int} {x n : Nat} (h : openN x (pl (256 + b)) = some n) : decN b x = decS b x n := by unfold decN; rw [h]; rfl
theorem openN_some {x q n : Nat} (h : openN x q = some n) : n < 4294967296 ∧ n = x % 4294967296 := by
  unfold openN at h
  split at h
  · cases h; exact ⟨Nat.mod_lt _ (by decide), rfl⟩
  · cases h
theorem right_zero : hdRight 0 0 0 = true := by decide
/-- A word that is its header's word: then that one may be. -/
theorem enc_right {b : Int} {x n : Nat} (h : openN x (pl (256 + b)) = some n) (he : encN b (n % 4 : Nat) (n / 4 % 64 : Nat) (n / 256 % 65536 : Nat) = x) : hdRight (n % 4 : Nat) (n / 4 % 64 : Nat) (n / 256 % 65536 : Nat) = true := by
  obtain ⟨h1, h2⟩ := openN_some h
  cases hr : hdRight (n % 4 : Nat) (n / 4 % 64 : Nat) (n / 256 % 65536 : Nat)
  · unfold encN at he
    rw [hr] at he
    simp at he
    subst he
    subst h2
    exact absurd right_zero (by simpa using hr)
  · rfl
theorem decN_ok {b : Int} {x n : Nat} (h : openN x (pl (256 + b)) = some n) (he : encN b (n % 4 : Nat) (n / 4 % 64 : Nat) (n / 256 % 65536 : Nat) = x) :
    (decN b x).val = .tuple #[vhd (n % 4 : Nat) (n / 4 % 64 : Nat) (n / 256 % 65536 : Nat), .int .i64 0] := by
  have hr := enc_right h he
  rw [decN_some h, decS, if_pos he, if_pos hr]; rfl
theorem decN_bad {b : Int} {x n : Nat} (h : openN x (pl (256 + b)) = some n) (he : encN b (n % 4 : Nat) (n / 4 % 64 : Nat) (n / 256 % 65536 : Nat) ≠ x) :
    (decN b x).val = .tuple #[vhd 0 0 0, .int .i64 26] := by
  rw [decN_some h, decS, if_neg he]; rfl

end Go.Proofs.Ytfedgcdkagngnaa

/- bhead.Decode. -/
namespace Go.Proofs.Ytfedgcdkagngnaa
open Go.RowKit
set_option linter.unusedVariables false

theorem bits_sum (n : Nat) : n % 4 < 4 ∧ n / 4 % 64 < 64 ∧ n / 256 % 65536 < 65536 := by omega

set_option maxHeartbeats 1000000 in
theorem bdecode_any (b : Int) (x : Nat) (hb0 : 0 ≤ b) (hb1' : b ≤ 1000000) (hx : x < 18446744073709551616) (w : World) :
    Calls Try.prog 66 #[.int .i64 b, vu64 x] w fun e w' => e = .returned (decN b x).val ∧ Below w.heap.size w w' := by
  have hbA := below_alloc w (Obj.cells #[Value.int .i64 0, Value.int .i64 0, Value.int .i64 0] 73)
  have hg := heap_alloc_new w (Obj.cells #[Value.int .i64 0, Value.int .i64 0, Value.int .i64 0] 73)
  go_enter Try.func66, Try.ntmps66
  go_wp2_with fail
  generalize w.alloc (Obj.cells #[Value.int .i64 0, Value.int .i64 0, Value.int .i64 0] 73) = w0 at *
  refine (open_any x _ hx w0).mono ?_
  rintro e w1 ⟨rfl, hbo⟩
  have hgl : w.heap.size < w0.heap.size := (Array.getElem?_eq_some_iff.1 hg).1
  have hbb := hbA.trans (hbo.mono hbA.size)
  have hg1 : w1.heap[w.heap.size]? = _ := (hbo.block _ hgl).trans hg
  clear hbA hbo hg hgl
  cases ho : openN x (pl (256 + b)) with
  | none =>
    have HV := Lib.hid (decN_none ho)
    clear ho
    simp only [openV]
    go_wp2_with (refine wpList_store_row (cs := #[.int .i64 0, .int .i64 0, .int .i64 0]) aggHd hg1 rfl rfl (by simp [Value.oneCell']) rfl rfl rfl rfl ?_; intro w2 hg2 hgr2 hs2)
    refine bodyPost_ret (results_cell_row2 (p := 4) (u := 5) rfl _ _ _ _ _ _ _ rfl hg2 Try.underlying73 rfl (by kernel_rfl)) rfl ⟨by rw [HV.out]; rfl, ?_⟩
    exact hbb.grown hgr2 hbb.size (fun k e => by cases e; omega)
  | some n =>
    obtain ⟨hn, -⟩ := openN_some ho
    have HK := Lib.hid (decN_ok ho)
    have HL := Lib.hid (decN_bad ho)
    clear ho
    simp only [openV]
    have G0 : Hid (∀ w, Calls Try.prog 82 #[vu64 n, .int .i64 0, .int .i64 2] w fun e w' => e = .returned (vu64 (n % 4)) ∧ w = w') := Lib.hid (fun w => by have := get_any n 0 2 (by omega) (by decide) (by decide) (by decide) w; simpa [fieldN] using this)
    have G1 : Hid (∀ w, Calls Try.prog 82 #[vu64 n, .int .i64 2, .int .i64 6] w fun e w' => e = .returned (vu64 (n / 4 % 64)) ∧ w = w') := Lib.hid (fun w => get_any n 2 6 (by omega) (by decide) (by decide) (by decide) w)
    have G2 : Hid (∀ w, Calls Try.prog 82 #[vu64 n, .int .i64 8, .int .i64 16] w fun e w' => e = .returned (vu64 (n / 256 % 65536)) ∧ w = w') := Lib.hid (fun w => get_any n 8 16 (by omega) (by decide) (by decide) (by decide) w)
    obtain ⟨h4, h64, h6⟩ := bits_sum n
    generalize n % 4 = k at *
    generalize n / 4 % 64 = c at *
    generalize n / 256 % 65536 = l at *
    go_wp2_with fail
    refine (G0.out _).mono ?_
    rintro e w2 ⟨rfl, rfl⟩
    go_wp2_with fail
    refine (G1.out _).mono ?_
    rintro e w2 ⟨rfl, rfl⟩
    go_wp2_with fail
    refine (G2.out _).mono ?_
    rintro e w2 ⟨rfl, rfl⟩
    clear G0 G1 G2
    go_wp2_with fail
    have hb1 := below_alloc w1 (Obj.cells #[Value.int .i64 (k : Int), Value.int .i64 (c : Int), Value.int .i64 (l : Int)] 73)
    have hg2 := heap_alloc_new w1 (Obj.cells #[Value.int .i64 (k : Int), Value.int .i64 (c : Int), Value.int .i64 (l : Int)] 73)
    generalize w1.alloc (Obj.cells #[Value.int .i64 (k : Int), Value.int .i64 (c : Int), Value.int .i64 (l : Int)] 73) = w2 at *
    refine (bencode_any b k c l hb0 hb1' w2).mono ?_
    rintro e w3 ⟨rfl, hb3⟩
    have hgl : w.heap.size < w1.heap.size := (Array.getElem?_eq_some_iff.1 hg1).1
    have hgl2 : w1.heap.size < w2.heap.size := (Array.getElem?_eq_some_iff.1 hg2).1
    have hb3' := hbb.trans ((hb1.trans (hb3.mono hb1.size)).mono hbb.size)
    have hg3 : w3.heap[w.heap.size]? = _ := (hb3.block _ (by omega)).trans ((hb1.block _ hgl).trans hg1)
    have hg4 : w3.heap[w1.heap.size]? = _ := (hb3.block _ hgl2).trans hg2
    have he := encN_lt b k c l
    clear hb1 hb3 hg1 hg2 hbb
    generalize encN b k c l = y at *
    by_cases hyx : y = x
    · have HV := Lib.hid (HK.out hyx)
      subst hyx
      have d0 : w3.cell? ⟨w1.heap.size, 0, none⟩ = some (.int .i64 k) := cell_of_row _ _ 0 _ _ _ hg4
      have d1 : w3.cell? ⟨w1.heap.size, 1, none⟩ = some (.int .i64 c) := cell_of_row _ _ 1 _ _ _ hg4
      have d2 : w3.cell? ⟨w1.heap.size, 2, none⟩ = some (.int .i64 l) := cell_of_row _ _ 2 _ _ _ hg4
      go_wp2_with (refine wpList_store_row (cs := #[.int .i64 k, .int .i64 c, .int .i64 l]) aggHd hg3 rfl rfl (by simp [Value.oneCell']) rfl rfl rfl rfl ?_; intro w4 hg5 hgr4 hs4)
      refine bodyPost_ret (results_cell_row2 (p := 4) (u := 5) rfl _ _ _ _ _ _ _ rfl hg5 Try.underlying73 rfl (by kernel_rfl)) rfl ⟨by rw [HV.out]; rfl, ?_⟩
      exact hb3'.grown hgr4 hb3'.size (fun k e => by cases e; omega)
    · have HV := Lib.hid (HL.out hyx)
      have hne : ¬ ((y : Int) = (x : Int)) := by omega
      clear hyx
      go_wp2_with (refine wpList_store_row (cs := #[.int .i64 0, .int .i64 0, .int .i64 0]) aggHd hg3 rfl rfl (by simp [Value.oneCell']) rfl rfl rfl rfl ?_; intro w4 hg5 hgr4 hs4)
      refine bodyPost_ret (results_cell_row2 (p := 4) (u := 5) rfl _ _ _ _ _ _ _ rfl hg5 Try.underlying73 rfl (by kernel_rfl)) rfl ⟨by rw [HV.out]; rfl, ?_⟩
      exact hb3'.grown hgr4 hb3'.size (fun k e => by cases e; omega)

end Go.Proofs.Ytfedgcdkagngnaa

/- blocks: Read, Open. -/
namespace Go.Proofs.Ytfedgcdkagngnaa
open Go.RowKit
set_option linter.unusedVariables false

/-- A block's header. -/
structure Hd where
  k : Int
  c : Int
  l : Int
deriving DecidableEq
instance : Inhabited Hd := ⟨⟨0, 0, 0⟩⟩
def Hd.cs (h : Hd) : List Value := [.int .i64 h.k, .int .i64 h.c, .int .i64 h.l]
def hdCs (l : List Hd) : List Value := l.flatMap Hd.cs
theorem hdCs_length (l : List Hd) : (hdCs l).length = 3 * l.length := by
  induction l with
  | nil => rfl
  | cons h l ih => simp only [hdCs, List.flatMap_cons, List.length_append, List.length_cons] at *; rw [ih]; simp [Hd.cs]; omega
theorem hdCs_append (l m : List Hd) : hdCs (l ++ m) = hdCs l ++ hdCs m := by simp [hdCs]
theorem hdCs_at (l : List Hd) (i : Nat) (hi : i < l.length) : ∀ j v, (l.getD i default).cs[j]? = some v → (hdCs l)[i * 3 + j]? = some v := by
  intro j v hj
  have e : l = l.take i ++ (l[i] :: l.drop (i + 1)) := by simp
  have hl : (hdCs (l.take i)).length = i * 3 := by rw [hdCs_length, List.length_take, Nat.min_eq_left (by omega)]; omega
  have hg : l.getD i default = l[i] := by simp [hi]
  rw [hg] at hj
  have hj3 : j < (l[i]).cs.length := (List.getElem?_eq_some_iff.1 hj).1
  rw [e, hdCs_append, List.getElem?_append_right (by omega), hl, show i * 3 + j - i * 3 = j by omega]
  simp only [hdCs, List.flatMap_cons]
  rw [List.getElem?_append_left hj3]
  exact hj
theorem hdCs_one (l : List Hd) : ∀ u ∈ hdCs l, u.oneCell' = true := by
  intro u hu
  simp only [hdCs, List.mem_flatMap, Hd.cs, List.mem_cons, List.not_mem_nil, or_false] at hu
  obtain ⟨h, _, rfl | rfl | rfl⟩ := hu <;> rfl

/-- The header that a word is; of block 0 none. -/
def hdF (f : Nat → Nat) (b : Nat) : Hd := if b = 0 then ⟨0, 0, 0⟩ else ⟨(decN b (f b)).k, (decN b (f b)).c, (decN b (f b)).l⟩
def hds (f : Nat → Nat) (k : Nat) : List Hd := (List.range k).map (hdF f)
theorem hds_length (f : Nat → Nat) (k : Nat) : (hds f k).length = k := by simp [hds]
theorem hds_succ (f : Nat → Nat) (k : Nat) : hds f (k + 1) = hds f k ++ [hdF f k] := by simp [hds, List.range_succ]
def AllOk (f : Nat → Nat) (k : Nat) : Prop := ∀ b, 1 ≤ b → b < k → (decN b (f b)).code = 0

/-- What reading all headers answers. -/
def ReadPost (t : Nat) (f : Nat → Nat) (B : Nat) (w : World) : Ending → World → Prop := fun en w' => Below w.heap.size w w' ∧
  ((AllOk f B ∧ ∃ g c, en = .returned (.tuple #[.slice (some ⟨g, 0, none⟩) B c, .int .i64 0, .int .i64 0]) ∧ w.heap.size ≤ g ∧ B ≤ c ∧ RowAt w' g t (hdCs (hds f B))) ∨
   (∃ b : Nat, 1 ≤ b ∧ b < B ∧ AllOk f b ∧ (decN b (f b)).code ≠ 0 ∧ en = .returned (.tuple #[.slice none 0 0, .int .i64 b, .int .i64 21])))

theorem AllOk.succ {f : Nat → Nat} {k : Nat} (h : AllOk f k) (hk : (decN k (f k)).code = 0) : AllOk f (k + 1) := by
  intro b h1 h2
  by_cases e : b = k
  · subst e; exact hk
  · exact h b h1 (by omega)

theorem elHd : Elem Try.prog 79 73 (.agg #[.int .i64 0, .int .i64 0, .int .i64 0]) 3 24 := Elem.mk' Try.underlying79 (by kernel_rfl) rfl (by decide)

theorem row_step (f : Nat → Nat) (B k : Nat) (hk : k < B) (h : Hd) (he : h = hdF f k) : splice (hdCs (hds f k) ++ List.replicate (3 * (B - k)) (.int .i64 0)) (k * 3) h.cs = hdCs (hds f (k + 1)) ++ List.replicate (3 * (B - (k + 1))) (.int .i64 0) := by
  subst he
  have hl : (hdCs (hds f k)).length = k * 3 := by rw [hdCs_length, hds_length]; omega
  rw [hds_succ, hdCs_append]
  unfold splice
  rw [List.take_left' hl, ← hl, List.drop_length_add_append]
  have : List.drop (hdF f k).cs.length (List.replicate (3 * (B - k)) (Value.int .i64 0)) = List.replicate (3 * (B - (k + 1))) (.int .i64 0) := by
    simp [Hd.cs]; omega
  rw [this]
  simp [hdCs]

theorem peek_lt {l : List Nat} (h : ∀ z ∈ l, z < 18446744073709551616) (i : Int) : peek l i < 18446744073709551616 := by
  unfold peek
  split
  · by_cases hi : i.toNat < l.length
    · simp only [List.getD_eq_getElem?_getD, List.getElem?_eq_getElem hi, Option.getD_some]
      exact h _ (List.getElem_mem hi)
    · simp only [List.getD_eq_getElem?_getD, List.getElem?_eq_none (by omega : l.length ≤ i.toNat), Option.getD_none]
      decide
  · decide

theorem cell_of_touch {L : List Nat} {w w' : World} (h : Touch L w w') {p : Addr} {v : Value} (hp : p.block ∉ L) (hc : w.cell? p = some v) : w'.cell? p = some v := by
  rw [World.cell?_of_block (w := w) (h.block p.block (World.block_lt_of_cell? _ _ hc) hp)]; exact hc
theorem below_touch {B : Nat} {L : List Nat} {w w1 w2 : World} (h : Below B w w1) (ht : Touch L w1 w2) (hL : ∀ k ∈ L, B ≤ k) (hB : B ≤ w.heap.size) : Below B w w2 :=
  h.trans (ht.below (Nat.le_trans hB h.size) hL)

def devWord (S : Dev) (b : Nat) : Nat := peek S.cache (256 + (b : Int))

set_option maxHeartbeats 2000000 in
set_option maxRecDepth 100000 in
theorem read_any {w : World} {F : Foot} {S : Dev} (h : DevAt w F S) (B : Nat) (hB1 : 1 ≤ B) (hB : B ≤ 1000) :
    Calls Try.prog 49 #[vdev F, vgeom B] w (ReadPost 73 (devWord S) B w) := by
  have HD := Lib.hid h
  have HP : Hid (ReadPost 73 (devWord S) B w = ReadPost 73 (devWord S) B w) := Lib.hid rfl
  generalize hP : ReadPost 73 (devWord S) B w = Post at HP ⊢
  have HPE := Lib.hid hP
  clear h hP HP
  go_enter Try.func49, Try.ntmps49
  have hbx : Below w.heap.size w (w.alloc (.cells #[.int .i64 (B : Int)] 39)) := below_alloc _ _
  have hcx : (w.alloc (.cells #[.int .i64 (B : Int)] 39)).cell? ⟨w.heap.size, 0, none⟩ = some (.int .i64 (B : Int)) := cell_alloc_new _ _ _ 0 _ rfl
  have hsx : (w.alloc (.cells #[.int .i64 (B : Int)] 39)).heap.size = w.heap.size + 1 := by simp
  have HSX := Lib.hid hsx
  clear hsx
  go_wp2_with (first
    | (at_make; refine wpList_make_rows elHd (w.heap.size + 1) B (z := .int .i64 0) (by intro i hi; simp at hi; rcases i with _ | _ | _ | i <;> first | rfl | omega) (by omega) (by omega) (by omega) (by decide) (by simp) rfl rfl rfl rfl ?_; intro w1 hown hgrow))
  try rw [HSX.out] at hown
  try rw [HSX.out]
  have hb1 : Below w.heap.size w w1 := hbx.trans (below_grown hgrow (by rw [HSX.out]; omega))
  have hc1 : w1.cell? ⟨w.heap.size, 0, none⟩ = some (.int .i64 (B : Int)) := by
    rw [(below_grown hgrow (Nat.le_refl _)).cell (p := ⟨w.heap.size, 0, none⟩) (by rw [HSX.out]; simp)]; exact hcx
  have hr1 : RowAt w1 (w.heap.size + 1) 73 (List.replicate (B * 3) (.int .i64 0)) := owned_row hown
  have HR1 := Lib.hid hr1
  have HB1 := Lib.hid hb1
  clear hbx hcx hown hgrow hr1 hb1 HSX
  obtain ⟨gx, hgx⟩ : ∃ gx, gx = w.heap.size := ⟨_, rfl⟩
  obtain ⟨g, hg⟩ : ∃ g, g = w.heap.size + 1 := ⟨_, rfl⟩
  have HG : Hid (gx = w.heap.size ∧ g = w.heap.size + 1) := Lib.hid ⟨hgx, hg⟩
  rw [← hg] at HR1 ⊢
  rw [← hgx] at hc1 ⊢
  have hgne : gx ≠ g := by omega
  clear hgx hg
  go_loopw [8] (fun i wr => ∃ k : Nat, 1 ≤ k ∧ k ≤ B ∧ i = .int .i64 k ∧ AllOk (devWord S) k ∧ RowAt wr g 73 (hdCs (hds (devWord S) k) ++ List.replicate (3 * (B - k)) (.int .i64 0)) ∧ wr.cell? ⟨gx, 0, none⟩ = some (.int .i64 (B : Int)) ∧ Below w.heap.size w wr) (fun i _ => B - (intOf i).toNat)
  case atStart => exact ⟨1, Nat.le_refl _, hB1, rfl, (fun b h1 h2 => by omega), by
      have e : hdCs (hds (devWord S) 1) ++ List.replicate (3 * (B - 1)) (Value.int .i64 0) = List.replicate (B * 3) (Value.int .i64 0) := by
        have : hdCs (hds (devWord S) 1) = List.replicate 3 (Value.int .i64 0) := rfl
        rw [this, List.replicate_append_replicate]
        congr 1
        omega
      rw [e]; exact HR1.out, hc1, HB1.out⟩
  case round =>
    clear hc1 HR1 HB1
    obtain ⟨k, hk1, hk2, rfl, hok, hr, hcx, hb⟩ := hrel
    have HOK := Lib.hid hok
    have HR := Lib.hid hr
    have HB := Lib.hid hb
    have HDr := Lib.hid (HD.out.below hb)
    clear hok hr hb
    by_cases hlt : k < B
    · have hlt' : (k : Int) < (B : Int) := by omega
      go_wp2_with fail
      refine (gheader_any _ _ _ (by omega)).mono ?_
      rintro e w2 ⟨rfl, hb2⟩
      have HH : Hid (hdAt (B : Int) (k : Int) = 256 + (k : Int)) := Lib.hid (by unfold hdAt; rw [if_neg (by omega)])
      rw [HH.out]
      have HD2 := Lib.hid (HDr.out.below hb2)
      have HB2 := Lib.hid hb2
      clear hb2
      go_wp2_with fail
      refine (dget_any HD2.out _).mono ?_
      rintro e w3 ⟨rfl, rfl⟩
      have hx : devWord S k < 18446744073709551616 := peek_lt HD2.out.u64C _
      have HX : Hid (peek S.cache (256 + (k : Int)) = devWord S k) := Lib.hid rfl
      rw [HX.out]
      go_wp2_with fail
      refine (bdecode_any (k : Int) (devWord S k) (by omega) (by omega) hx _).mono ?_
      rintro e w4 ⟨rfl, hb4⟩
      have HF : Hid (⟨(decN k (devWord S k)).k, (decN k (devWord S k)).c, (decN k (devWord S k)).l⟩ = hdF (devWord S) k) := Lib.hid (by unfold hdF; rw [if_neg (by omega)])
      have HC : Hid ((decN k (devWord S k)).code = 0 ∨ (decN k (devWord S k)).code ≠ 0) := Lib.hid (by omega)
      have HOK2 : Hid ((decN k (devWord S k)).code = 0 → AllOk (devWord S) (k + 1)) := Lib.hid (fun h => HOK.out.succ h)
      have HBad : Hid ((decN k (devWord S k)).code ≠ 0 → ∀ w', Below w.heap.size w w' → Post (.returned (.tuple #[.slice none 0 0, .int .i64 k, .int .i64 21])) w') := Lib.hid (fun h w' hw' => by
        rw [← HPE.out]; exact ⟨hw', .inr ⟨k, hk1, hlt, HOK.out, h, rfl⟩⟩)
      unfold Dec.val
      generalize decN k (devWord S k) = dd at *
      obtain ⟨dk, dc, dl, dcode⟩ := dd
      dsimp only at *
      have hb24 : Below wr.heap.size wr w4 := HB2.out.trans (hb4.mono HB2.out.size)
      have HB4 := Lib.hid hb24
      clear hb4 hb24 HB2 HD2
      rcases HC.out with hz | hz
      · subst hz
        have hok2 := HOK2.out rfl
        have HOK3 := Lib.hid hok2
        have hr4 : RowAt w4 g 73 _ := HR.out.keep (HB4.out.block g HR.out.lt)
        have hcx4 : w4.cell? ⟨gx, 0, none⟩ = some (.int .i64 (B : Int)) := below_cells HB4.out hcx (Nat.le_refl _)
        have hgl : g < w4.heap.size := hr4.lt
        have hgxl : gx < w4.heap.size := World.block_lt_of_cell? _ _ hcx4
        have HR4 := Lib.hid hr4
        have HCX4 := Lib.hid hcx4
        clear hok2 hr4 hcx hcx4
        have hb5 := below_alloc w4 (Obj.cells #[Value.int .i64 dk, Value.int .i64 dc, Value.int .i64 dl] 73)
        have HR5 : Hid (RowAt (w4.alloc (Obj.cells #[Value.int .i64 dk, Value.int .i64 dc, Value.int .i64 dl] 73)) g 73 (hdCs (hds (devWord S) k) ++ List.replicate (3 * (B - k)) (.int .i64 0))) := Lib.hid (HR4.out.keep (hb5.block g hgl))
        have HCX5 : Hid ((w4.alloc (Obj.cells #[Value.int .i64 dk, Value.int .i64 dc, Value.int .i64 dl] 73)).cell? ⟨gx, 0, none⟩ = some (.int .i64 (B : Int))) := Lib.hid (below_cells hb5 HCX4.out (Nat.le_refl _))
        have HB5 : Hid (Below w.heap.size w (w4.alloc (Obj.cells #[Value.int .i64 dk, Value.int .i64 dc, Value.int .i64 dl] 73))) := Lib.hid (HB.out.trans ((HB4.out.trans (hb5.mono HB4.out.size)).mono HB.out.size))
        have hlen : Hid (k * 3 + 3 ≤ (hdCs (hds (devWord S) k) ++ List.replicate (3 * (B - k)) (Value.int .i64 0)).length) := Lib.hid (by rw [List.length_append, hdCs_length, hds_length, List.length_replicate]; omega)
        have hone : Hid (∀ u ∈ (#[Value.int .i64 dk, Value.int .i64 dc, Value.int .i64 dl] : Array Value).toList, u.oneCell' = true) := Lib.hid (by intro u hu; simp at hu; rcases hu with rfl | rfl | rfl <;> rfl)
        clear hb5 HR4 HCX4 HB4
        go_wp2_with (refine wpList_store_part (off := k * 3) (cs := #[.int .i64 dk, .int .i64 dc, .int .i64 dl]) aggHd HR5.out rfl hlen.out hone.out rfl rfl rfl rfl ?_; intro w6 hr6 ht6; have HR6 := Lib.hid hr6; have HT6 := Lib.hid ht6; clear hr6 ht6)
        refine ⟨⟨k + 1, by omega, by omega, vint (by omega), HOK3.out, ?_, ?_, ?_⟩, by simp [intOf]; omega⟩
        · have := HR6.out
          rw [show #[Value.int .i64 dk, Value.int .i64 dc, Value.int .i64 dl].toList = (⟨dk, dc, dl⟩ : Hd).cs from rfl, row_step _ _ _ hlt _ HF.out] at this
          exact this
        · exact cell_of_touch HT6.out (by simp; exact hgne) HCX5.out
        · exact below_touch HB5.out HT6.out (by have := HG.out; simp; omega) (Nat.le_refl _)
      · have hz1 : (dcode != 0) = true := by simpa using hz
        have HZ := Lib.hid (HBad.out hz)
        have HBE : Hid (Below w.heap.size w w4) := Lib.hid (HB.out.trans (HB4.out.mono HB.out.size))
        clear hz HBad HC HOK2
        go_wp2_with fail
        go_ret3
        exact HZ.out _ (HBE.out.alloc (HBE.out.size) _)
    · obtain rfl : k = B := by omega
      have hlt' : decide ((k : Int) < (k : Int)) = false := by simp
      go_wp2_with fail
      go_ret3
      rw [← HPE.out]
      refine ⟨HB.out, .inl ⟨HOK.out, g, k, rfl, by have := HG.out; omega, Nat.le_refl _, ?_⟩⟩
      have := HR.out
      simpa using this

end Go.Proofs.Ytfedgcdkagngnaa

/- nvm: Dirty, Crash. -/
namespace Go.Proofs.Ytfedgcdkagngnaa
open Go.RowKit
set_option linter.unusedVariables false

abbrev vi (n : Nat) : Value := .int .i64 (n : Int)

structure Dev.wf (S : Dev) : Prop where
  lenL : S.lasting.length = S.cache.length
  lenF : S.flushed.length = S.cache.length
  lenP : S.pending.length = S.dirty.length
  lenD : S.cache.length = 8 * S.dirty.length
  small : S.cache.length ≤ 1000000
  u64L : ∀ z ∈ S.lasting, z < 18446744073709551616
  u64C : ∀ z ∈ S.cache, z < 18446744073709551616
  u64F : ∀ z ∈ S.flushed, z < 18446744073709551616
end Go.Proofs.Ytfedgcdkagngnaa

/- free: the free cells in memory; New. -/
namespace Go.Proofs.Ytfedgcdkagngnaa
open Go.RowKit Go.Maps
set_option linter.unusedVariables false

/-- A slice value holds these numbers, in a row of its own, or nothing. -/
def OwnI (w : World) (v : Value) (xs : List Nat) : Prop := w.ownsRow 0 3 1 v xs.length (xs.map vi) ∨ (∃ a, v = .slice (some a) 0 0 ∧ xs = [])
/-- The row that it may write to. -/
def rowOf : Value → Option Nat
  | .slice (some a) _ c => if c = 0 then none else some a.block
  | _ => none
theorem OwnI.nil (w : World) : OwnI w (.slice none 0 0) [] := .inl ⟨rfl, .inl ⟨rfl, rfl⟩⟩
theorem OwnI.keep {w w' : World} {v : Value} {xs : List Nat} (h : OwnI w v xs) (hk : ∀ b, rowOf v = some b → w'.heap[b]? = w.heap[b]?) : OwnI w' v xs := by
  rcases h with h | h
  · rcases h.2 with ⟨rfl, h0⟩ | ⟨g, cap, cur, rfl, hb, hg, h1, h2, h3, h4⟩
    · exact .inl ⟨h.1, .inl ⟨rfl, h0⟩⟩
    · by_cases hc : cap = 0
      · subst hc
        have : xs = [] := List.length_eq_zero_iff.1 (by omega)
        subst this
        exact .inr ⟨_, rfl, rfl⟩
      · exact .inl ⟨h.1, .inr ⟨g, cap, cur, rfl, hb, (hk g (by show (if cap = 0 then none else some g) = some g; rw [if_neg hc])).trans hg, h1, h2, h3, h4⟩⟩
  · exact .inr h
/-- The place of a list: of all, by classes; of a mutator, by classes. -/
def slotI (m k : Nat) : Nat := 32 + 32 * m + k
def FL.at (S : FL) (i : Nat) : List Nat := if i < 32 then S.g i else S.c ((i - 32) / 32) ((i - 32) % 32)
/-- The lists' values: of all, by classes; and what is the map's. -/
structure FreeIn (w : World) (f mb n : Nat) (V : Nat → Value) (S : FL) : Prop where
  head : w.heap[f]? = some (.cells ((List.range 32).map V ++ [Value.map (some mb)]).toArray 119 (0, 0))
  map : ∃ M, VMap Try.prog 154 w mb n M ∧ ∀ m k : Nat, m < 4 → k < 32 → (M (pairKey m k)).getD (.slice none 0 0) = V (slotI m k)
  rows : ∀ i, i < 160 → OwnI w (V i) (S.at i)
  apart : ∀ i j, i < 160 → j < 160 → i ≠ j → ∀ b, rowOf (V i) = some b → rowOf (V j) ≠ some b
  neF : ∀ i, i < 160 → rowOf (V i) ≠ some f ∧ rowOf (V i) ≠ some mb
  ne : f ≠ mb

/-- The free cells lie in these blocks. -/
def FreeAt (w : World) (f mb n : Nat) (R : List Nat) (S : FL) : Prop := ∃ V, FreeIn w f mb n V S ∧ f ∈ R ∧ mb ∈ R ∧ (∀ b ∈ R, b < w.heap.size) ∧ ∀ i, i < 160 → ∀ b, rowOf (V i) = some b → b ∈ R

theorem FreeAt.keep {w w' : World} {f mb n : Nat} {R : List Nat} {S : FL} (h : FreeAt w f mb n R S) (hk : ∀ k ∈ R, w'.heap[k]? = w.heap[k]?) : FreeAt w' f mb n R S := by
  obtain ⟨V, hi, h1, h2, h3, h4⟩ := h
  obtain ⟨M, hm, hv⟩ := hi.map
  refine ⟨V, ⟨(hk f h1).trans hi.head, ⟨M, hm.block (hk mb h2), hv⟩, fun i hi' => (hi.rows i hi').keep fun b hb => hk b (h4 i hi' b hb), hi.apart, hi.neF, hi.ne⟩, h1, h2, fun b hb => ?_, h4⟩
  have hb3 := h3 b hb
  have : w'.heap[b]? ≠ none := by rw [hk b hb, Array.getElem?_eq_getElem hb3]; simp
  apply Classical.byContradiction
  intro c
  exact this (Array.getElem?_eq_none (by omega))
theorem FreeAt.below {w w' : World} {f mb n : Nat} {R : List Nat} {S : FL} (h : FreeAt w f mb n R S) (hb : Below w.heap.size w w') : FreeAt w' f mb n R S := by
  obtain ⟨V, _, _, _, h3, _⟩ := id h
  exact h.keep (fun k hk => hb.block k (h3 k hk))
theorem FreeAt.mem {w : World} {f mb n : Nat} {R : List Nat} {S : FL} (h : FreeAt w f mb n R S) : ∀ b ∈ R, b < w.heap.size := by
  obtain ⟨V, _, _, _, h3, _⟩ := h; exact h3
theorem FreeAt.mono {w : World} {f mb n n' : Nat} {R : List Nat} {S : FL} (h : FreeAt w f mb n R S) (hn : n ≤ n') : FreeAt w f mb n' R S := by
  obtain ⟨V, hi, r⟩ := h
  obtain ⟨M, hm, hv⟩ := hi.map
  exact ⟨V, { hi with map := ⟨M, hm.mono hn, hv⟩ }, r⟩

/-- New free lists. -/
def NewFree (w : World) : Ending → World → Prop := fun e w' => ∃ f mb, e = .returned (.pointer (some ⟨f, 0, none⟩)) ∧ FreeAt w' f mb 0 [f, mb] FL.empty ∧ Below w.heap.size w w' ∧ w.heap.size ≤ f ∧ w.heap.size ≤ mb

theorem FL.at_empty (i : Nat) : FL.empty.at i = [] := by unfold FL.at FL.empty; split <;> rfl

set_option maxHeartbeats 1000000 in
theorem fnew_any (w : World) : Calls Try.prog 36 #[] w (NewFree w) := by
  have HV := Lib.hid (VMap.made w Try.prog 154)
  have HB := Lib.hid (below_alloc w (.map #[] 0))
  have HP : Hid (∀ f mb w', FreeAt w' f mb 0 [f, mb] FL.empty → Below w.heap.size w w' → w.heap.size ≤ f → w.heap.size ≤ mb → NewFree w (.returned (.pointer (some ⟨f, 0, none⟩))) w') := Lib.hid (fun f mb w' a b c d => ⟨f, mb, rfl, a, b, c, d⟩)
  generalize NewFree w = Post at *
  have hmm := @run_makeMap Try.prog
  go_enter Try.func36, Try.ntmps36
  go_wp2_with fail
  have hs : (w.alloc (.map #[] 0)).heap.size = w.heap.size + 1 := by simp
  generalize w.alloc _ = w1 at *
  have hb2 := below_alloc w1 (Obj.cells ((List.range 32).map (fun _ => Value.slice none 0 0) ++ [Value.map (some w.heap.size)]).toArray 119)
  have hh := heap_alloc_new w1 (Obj.cells ((List.range 32).map (fun _ => Value.slice none 0 0) ++ [Value.map (some w.heap.size)]).toArray 119)
  rw [hs] at hh
  refine HP.out (w.heap.size + 1) w.heap.size _ ⟨fun _ => .slice none 0 0, ⟨hh, ⟨_, HV.out.block (hb2.block _ (by omega)), fun _ _ _ _ => rfl⟩, fun i _ => (by rw [FL.at_empty]; exact OwnI.nil _), fun i j _ _ _ b hb => (by cases hb), fun i _ => ⟨(by intro h; cases h), (by intro h; cases h)⟩, by omega⟩, by simp, by simp, ?_, fun i _ b hb => (by cases hb)⟩ ?_ (by omega) (Nat.le_refl _)
  · intro b hb
    simp only [List.mem_cons, List.not_mem_nil, or_false] at hb
    rcases hb with rfl | rfl <;> simp <;> omega
  · exact HB.out.trans (hb2.mono (by omega))

end Go.Proofs.Ytfedgcdkagngnaa

/- Plain: sets of addresses, as words of bits. -/
namespace Go.Proofs.Ytfedgcdkagngnaa
set_option linter.unusedVariables false

/-- The bit of an address. -/
def bitW (ws : List Nat) (i : Nat) : Bool := (ws.getD (i / 64) 0).testBit (i % 64)

/-- Words are a set: l tells of each address below the limit whether it is in. -/
structure BitsOf (ws : List Nat) (l : List Bool) : Prop where
  len : ws.length = (l.length + 63) / 64
  lt : ∀ z ∈ ws, z < 18446744073709551616
  bit : ∀ i, bitW ws i = l.getD i false

theorem bits_new (n : Nat) : BitsOf (List.replicate ((n + 63) / 64) 0) (List.replicate n false) := by
  refine ⟨by simp, fun z hz => by rw [List.eq_of_mem_replicate hz]; decide, fun i => ?_⟩
  have h1 : (List.replicate ((n + 63) / 64) 0).getD (i / 64) 0 = 0 := by
    rw [List.getD_eq_getElem?_getD, List.getElem?_replicate]; split <;> rfl
  have h2 : (List.replicate n false).getD i false = false := by
    rw [List.getD_eq_getElem?_getD, List.getElem?_replicate]; split <;> rfl
  unfold bitW
  rw [h1, h2, Nat.zero_testBit]

end Go.Proofs.Ytfedgcdkagngnaa

/- bitmap: a set in memory: in, Has, Len, Limit. -/
namespace Go.Proofs.Ytfedgcdkagngnaa
open Go.RowKit
set_option linter.unusedVariables false

/-- Where a set lies. -/
structure SetF where
  u : Nat
  b : Nat
  c : Nat
def SetF.list (X : SetF) : List Nat := [X.u, X.b]
def setV (X : SetF) (n : Nat) (l : List Bool) : Array Value := #[.slice (some ⟨X.b, 0, none⟩) n X.c, .int .i64 (l.length : Int), .int .i64 (l.count true : Int)]

structure SetIn (w : World) (X : SetF) (ws : List Nat) (l : List Bool) : Prop where
  bits : BitsOf ws l
  head : w.heap[X.u]? = some (.cells (setV X ws.length l) 115 (0, 0))
  row : RowAt w X.b 22 (ws.map vu64)
  ne : X.u ≠ X.b
  small : l.length ≤ 1000000
def SetAt (w : World) (X : SetF) (l : List Bool) : Prop := ∃ ws, SetIn w X ws l
abbrev vset (X : SetF) : Value := .pointer (some ⟨X.u, 0, none⟩)

theorem SetIn.keep {w w' : World} {X : SetF} {ws : List Nat} {l : List Bool} (h : SetIn w X ws l) (hk : ∀ k ∈ X.list, w'.heap[k]? = w.heap[k]?) : SetIn w' X ws l :=
  ⟨h.bits, (hk X.u (by simp [SetF.list])).trans h.head, h.row.keep (hk X.b (by simp [SetF.list])), h.ne, h.small⟩
theorem SetAt.keep {w w' : World} {X : SetF} {l : List Bool} (h : SetAt w X l) (hk : ∀ k ∈ X.list, w'.heap[k]? = w.heap[k]?) : SetAt w' X l := by
  obtain ⟨ws, h⟩ := h; exact ⟨ws, h.keep hk⟩
theorem SetAt.mem {w : World} {X : SetF} {l : List Bool} (h : SetAt w X l) : ∀ k ∈ X.list, k < w.heap.size := by
  obtain ⟨ws, h⟩ := h
  have h1 := (Array.getElem?_eq_some_iff.1 h.head).1
  have h2 := h.row.lt
  simp only [SetF.list, List.mem_cons, List.not_mem_nil, or_false, forall_eq_or_imp, forall_eq]
  exact ⟨h1, h2⟩
theorem SetAt.below {w w' : World} {X : SetF} {l : List Bool} (h : SetAt w X l) (hb : Below w.heap.size w w') : SetAt w' X l := h.keep (fun k hk => hb.block k (h.mem k hk))
end Go.Proofs.Ytfedgcdkagngnaa

/- bits: Count, Lowest; bitmap: New, Clear, Next. -/
namespace Go.Proofs.Ytfedgcdkagngnaa
open Go.RowKit
set_option linter.unusedVariables false

theorem up64 (n : Nat) : upN (n : Int) 64 = (((n + 63) / 64 : Nat) : Int) := by
  unfold upN
  split <;> omega

/-- A new set. -/
def NewSet (n : Nat) (w : World) : Ending → World → Prop := fun e w' => ∃ X : SetF, e = .returned (vset X) ∧ SetAt w' X (List.replicate n false) ∧ Below w.heap.size w w' ∧ ∀ k ∈ X.list, w.heap.size ≤ k

set_option maxHeartbeats 1000000 in
theorem snew_any (n : Nat) (h1 : 1 ≤ n) (hn : n ≤ 1000000) (w : World) : Calls Try.prog 34 #[.int .i64 (n : Int)] w (NewSet n w) := by
  have HUp := Lib.hid (up64 n)
  have HBits := Lib.hid (bits_new n)
  have hm1 : 1 ≤ (n + 63) / 64 := by omega
  have hm2 : (n + 63) / 64 ≤ 1000000 := by omega
  generalize (n + 63) / 64 = m at *
  have HP : Hid (∀ (X : SetF) (w' : World), SetAt w' X (List.replicate n false) → Below w.heap.size w w' → (∀ k ∈ X.list, w.heap.size ≤ k) → NewSet n w (.returned (vset X)) w') := Lib.hid (fun X w' a b c => ⟨X, rfl, a, b, c⟩)
  generalize NewSet n w = Post at *
  have hmx : max (n : Int) 0 = (n : Int) := by omega
  go_enter Try.func34, Try.ntmps34
  go_wp2_with fail
  refine (up_any _ _ _ (by omega) (by omega)).mono ?_
  rintro e w1 ⟨rfl, rfl⟩
  rw [HUp.out]
  go_wp2_with (at_make; refine wpList_make_len el64 w.heap.size m rfl rfl rfl (by omega) (by decide) (Nat.le_refl _) rfl rfl rfl rfl ?_; intro w1 hown hgrow; have HR : Hid (RowAt w1 w.heap.size 22 ((List.replicate m 0).map vu64)) := Lib.hid (by rw [List.map_replicate]; exact owned_row hown); have HB := Lib.hid (below_grown hgrow (Nat.le_refl _)); clear hown hgrow)
  have hb := below_alloc w1 (Obj.cells #[Value.slice (some ⟨w.heap.size, 0, none⟩) m m, Value.int IntKind.i64 (n : Int), Value.int IntKind.i64 0] 115)
  have hs := HB.out.size
  have hl := HR.out.lt
  refine HP.out ⟨w1.heap.size, w.heap.size, m⟩ _ ⟨List.replicate m 0, HBits.out, ?_, HR.out.keep (hb.block _ hl), by dsimp only; omega, by simpa using hn⟩ (HB.out.trans (hb.mono hs)) ?_
  · have e : setV ⟨w1.heap.size, w.heap.size, m⟩ (List.replicate m 0).length (List.replicate n false) = #[Value.slice (some ⟨w.heap.size, 0, none⟩) m m, Value.int IntKind.i64 (n : Int), Value.int IntKind.i64 0] := by simp [setV, List.count_replicate]
    rw [e]
    exact heap_alloc_new _ _
  · intro k hk
    simp only [SetF.list, List.mem_cons, List.not_mem_nil, or_false] at hk
    rcases hk with rfl | rfl
    · exact hs
    · exact Nat.le_refl _

end Go.Proofs.Ytfedgcdkagngnaa

/- The reference's headers of blocks. -/
namespace Go.Proofs.Ytfedgcdkagngnaa
open Go.RowKit
set_option linter.unusedVariables false

end Go.Proofs.Ytfedgcdkagngnaa

/- The reference's device, read: Get; all headers. -/
namespace Go.Proofs.Ytfedgcdkagngnaa
open Go.RowKit
set_option linter.unusedVariables false

theorem peek_in (l : List Nat) (j : Nat) : peek l (j : Int) = l.getD j 0 := by unfold peek; rw [if_pos (by omega)]; rfl

end Go.Proofs.Ytfedgcdkagngnaa

/- blocks: Open, Get, Count; law07: Ref, Refs. -/
namespace Go.Proofs.Ytfedgcdkagngnaa
open Go.RowKit
set_option linter.unusedVariables false

/-- A table of headers in memory. -/
structure TabAt (w : World) (p : Nat) (F : Foot) (B : Nat) (l : List Hd) : Prop where
  ex : ∃ g c, w.heap[p]? = some (.cells #[vdev F, .int .i64 (B : Int), .slice (some ⟨g, 0, none⟩) l.length c] 96 (0, 0)) ∧ l.length ≤ c ∧ RowAt w g 73 (hdCs l) ∧ p ≠ g

def Hd.val (h : Hd) : Value := .agg #[.int .i64 h.k, .int .i64 h.c, .int .i64 h.l]
/-- A header, where there is one. -/
def hdGet (l : List Hd) (b : Int) : Hd := if b < 1 ∨ (l.length : Int) ≤ b then ⟨0, 0, 0⟩ else l.getD b.toNat default

set_option maxHeartbeats 1000000 in
theorem tget_any {w : World} {p B : Nat} {F : Foot} {l : List Hd} (h : TabAt w p F B l) (b : Int) (hl : l.length ≤ 1000) :
    Calls Try.prog 39 #[.pointer (some ⟨p, 0, none⟩), .int .i64 b] w fun e w' => e = .returned (hdGet l b).val ∧ Below w.heap.size w w' := by
  obtain ⟨g, c, hp, hc, hr, hne⟩ := h.ex
  have c2 : w.cell? ⟨p, 2, none⟩ = some (.slice (some ⟨g, 0, none⟩) l.length c) := cell_of_row _ _ 2 _ _ _ hp
  have hpl : p < w.heap.size := (Array.getElem?_eq_some_iff.1 hp).1
  have hgl := hr.lt
  by_cases h1 : b < 1
  · have HE : Hid (hdGet l b = ⟨0, 0, 0⟩) := Lib.hid (by unfold hdGet; rw [if_pos (.inl h1)])
    clear hp hr h
    go_enter Try.func39, Try.ntmps39
    go_wp2_with fail
    exact bodyPost_ret (v := .agg #[.int .i64 0, .int .i64 0, .int .i64 0]) (by simp [results, Try.results39, go_sem]) rfl ⟨by rw [HE.out]; rfl, below_alloc _ _⟩
  by_cases h2 : (l.length : Int) ≤ b
  · have HE : Hid (hdGet l b = ⟨0, 0, 0⟩) := Lib.hid (by unfold hdGet; rw [if_pos (.inr h2)])
    clear hp hr h
    go_enter Try.func39, Try.ntmps39
    go_wp2_with fail
    exact bodyPost_ret (v := .agg #[.int .i64 0, .int .i64 0, .int .i64 0]) (by simp [results, Try.results39, go_sem]) rfl ⟨by rw [HE.out]; rfl, below_alloc _ _⟩
  obtain ⟨j, rfl⟩ := Int.eq_ofNat_of_zero_le (show 0 ≤ b by omega)
  have hj : j < l.length := by omega
  have HE : Hid (hdGet l (j : Int) = l.getD j default) := Lib.hid (by unfold hdGet; rw [if_neg (by omega)]; rfl)
  have HA := hdCs_at l j hj
  generalize l.getD j default = hd at *
  obtain ⟨hk, hcl, hln⟩ := hd
  have d0 : w.cell? ⟨g, j * 3, none⟩ = some (.int .i64 hk) := hr.cell (HA 0 _ rfl)
  have d1 : w.cell? ⟨g, j * 3 + 1, none⟩ = some (.int .i64 hcl) := hr.cell (HA 1 _ rfl)
  have d2 : w.cell? ⟨g, j * 3 + 2, none⟩ = some (.int .i64 hln) := hr.cell (HA 2 _ rfl)
  clear hp hr h HA
  go_enter Try.func39, Try.ntmps39
  go_wp2_with fail
  exact bodyPost_ret (v := .agg #[.int .i64 hk, .int .i64 hcl, .int .i64 hln]) (by simp [results, Try.results39, go_sem]) rfl ⟨by rw [HE.out]; rfl, below_alloc _ _⟩

end Go.Proofs.Ytfedgcdkagngnaa

/- law07: Ref, Refs; ref10: Same. -/
namespace Go.Proofs.Ytfedgcdkagngnaa
open Go.RowKit
set_option linter.unusedVariables false

theorem hdGetD (l : List Hd) (j : Nat) : ∃ k c n, l.getD j default = ⟨k, c, n⟩ := ⟨_, _, _, rfl⟩

theorem fsBh : (Try.prog.fieldsOf 73) = #[{ name := "Kind", type := 3, offset := 0, embedded := false, tag := "", pkgPath := "", byteOffset := 0 },
        { name := "Class", type := 3, offset := 1, embedded := false, tag := "", pkgPath := "", byteOffset := 8 },
        { name := "Len", type := 3, offset := 2, embedded := false, tag := "", pkgPath := "", byteOffset := 16 }] := by kernel_rfl
theorem usBh : Try.prog.underlying 73 = some (.struct (Try.prog.fieldsOf 73)) := by kernel_rfl
theorem ssBh : Try.prog.stoodInHeld 73 = false := by kernel_rfl
theorem gsBh : Try.prog.eqGuardType Try.prog.depth 73 = false := by kernel_rfl
theorem equalBh (w : World) (a b c a' b' c' : Int) (r : Bool) (hr : r = ((a == a') && (b == b') && (c == c'))) : (Op.equalIn 10000 73 (.agg #[.int .i64 a, .int .i64 b, .int .i64 c]) (.agg #[.int .i64 a', .int .i64 b', .int .i64 c'])).run Try.prog w = .ok r w := by
  rw [hr, show (10000 : Nat) = 9999 + 1 from rfl, run_equalIn_agg w 9999 73 _ _ usBh ssBh, fsBh]
  by_cases h1 : a = a' <;> by_cases h2 : b = b' <;> by_cases h3 : c = c' <;> simp [Op.eqFields, go_sem, h1, h2, h3, Try.underlying3, part]
theorem hd_beq (k c n k' c' n' : Int) : decide ((⟨k, c, n⟩ : Hd) = ⟨k', c', n'⟩) = ((k == k') && (c == c') && (n == n')) := by
  rw [Bool.eq_iff_iff]; simp [Hd.mk.injEq, and_assoc]

theorem hd_cells {w : World} {a : Option Addr} {l : List Hd} (h : Cells w a (hdCs l)) {j : Nat} (hj : j < l.length) {k c n : Int} (he : l.getD j default = ⟨k, c, n⟩) :
    ∃ b off, a = some ⟨b, off, none⟩ ∧ w.cell? ⟨b, off + j * 3, none⟩ = some (.int .i64 k) ∧ w.cell? ⟨b, off + j * 3 + 1, none⟩ = some (.int .i64 c) ∧ w.cell? ⟨b, off + j * 3 + 2, none⟩ = some (.int .i64 n) := by
  have HA := hdCs_at l j hj
  rw [he] at HA
  rcases h with h | ⟨b, off, rfl, h⟩
  · have := congrArg List.length h
    rw [hdCs_length] at this
    simp only [List.length_nil] at this
    omega
  · exact ⟨b, off, rfl, h _ _ (HA 0 _ rfl), h _ _ (HA 1 _ rfl), h _ _ (HA 2 _ rfl)⟩

end Go.Proofs.Ytfedgcdkagngnaa

/- Spans: their cells; law10.Spans at alike spans. -/
namespace Go.Proofs.Ytfedgcdkagngnaa
open Go.RowKit
set_option linter.unusedVariables false

/-- A span: its first block, how many. -/
abbrev Sp := Nat × Nat
def spCs (l : List Sp) : List Value := l.flatMap fun s => [.int .i64 s.1, .int .i64 s.2]
theorem spCs_length (l : List Sp) : (spCs l).length = 2 * l.length := by
  induction l with
  | nil => rfl
  | cons h l ih => simp only [spCs, List.flatMap_cons, List.length_append, List.length_cons] at *; rw [ih]; simp; omega
theorem spCs_append (l m : List Sp) : spCs (l ++ m) = spCs l ++ spCs m := by simp [spCs]
theorem spCs_last (l : List Sp) (s n : Nat) : (spCs (l ++ [(s, n)]))[l.length * 2]? = some (.int .i64 (s : Int)) ∧ (spCs (l ++ [(s, n)]))[l.length * 2 + 1]? = some (.int .i64 (n : Int)) := by
  have hl := spCs_length l
  rw [spCs_append]
  constructor
  · rw [List.getElem?_append_right (by omega), show l.length * 2 - (spCs l).length = 0 by omega]; rfl
  · rw [List.getElem?_append_right (by omega), show l.length * 2 + 1 - (spCs l).length = 1 by omega]; rfl
theorem spCs_bump (l : List Sp) (s n m : Nat) : (spCs (l ++ [(s, n)])).set (l.length * 2 + 1) (.int .i64 (m : Int)) = spCs (l ++ [(s, m)]) := by
  have hl := spCs_length l
  rw [spCs_append, spCs_append, List.set_append_right _ _ (by omega), show l.length * 2 + 1 - (spCs l).length = 1 by omega]
  rfl

def bump (l : List Sp) : List Sp := match l.getLast? with
  | none => l
  | some s => l.dropLast ++ [(s.1, s.2 + 1)]
theorem bump_last (l : List Sp) (s n : Nat) : bump (l ++ [(s, n)]) = l ++ [(s, n + 1)] := by simp [bump]
end Go.Proofs.Ytfedgcdkagngnaa

/- Spans of free blocks: the plain law. -/
namespace Go.Proofs.Ytfedgcdkagngnaa
open Go.RowKit
set_option linter.unusedVariables false

/-- Spans of free blocks below b. -/
def spanL (ks : Nat → Bool) : Nat → List Sp
  | 0 => []
  | b + 1 => if b = 0 ∨ ks b = false then spanL ks b else if 1 < b ∧ ks (b - 1) = true then bump (spanL ks b) else spanL ks b ++ [(b, 1)]
/-- The last span ends at b, or ahead of it. -/
theorem spanL_last (ks : Nat → Bool) (b : Nat) (hb : 1 ≤ b) : if 1 < b ∧ ks (b - 1) = true then ∃ l s n, spanL ks b = l ++ [(s, n)] ∧ s + n = b ∧ l.length < b else (spanL ks b = [] ∨ ∃ l s n, spanL ks b = l ++ [(s, n)] ∧ s + n < b ∧ l.length < b) := by
  induction b with
  | zero => omega
  | succ b ih =>
    by_cases h0 : b = 0
    · subst h0; rw [if_neg (by omega)]; left; rfl
    have ih := ih (by omega)
    rw [Nat.add_sub_cancel]
    by_cases hk : ks b = true
    · rw [if_pos ⟨by omega, hk⟩]
      by_cases hp : 1 < b ∧ ks (b - 1) = true
      · rw [if_pos hp] at ih
        obtain ⟨l, s, n, h1, h2, h3⟩ := ih
        refine ⟨l, s, n + 1, ?_, by omega, by omega⟩
        rw [spanL, if_neg (by simp [h0, hk]), if_pos hp, h1, bump_last]
      · rw [if_neg hp] at ih
        refine ⟨spanL ks b, b, 1, ?_, rfl, ?_⟩
        · rw [spanL, if_neg (by simp [h0, hk]), if_neg hp]
        · rcases ih with h | ⟨l, s, n, h1, h2, h3⟩
          · rw [h]; simp
          · rw [h1]; simp; omega
    · have hk' : ks b = false := by simpa using hk
      rw [if_neg (by simp [hk'])]
      have he : spanL ks (b + 1) = spanL ks b := by rw [spanL, if_pos (.inr hk')]
      rw [he]
      split at ih
      · obtain ⟨l, s, n, h1, h2, h3⟩ := ih
        exact .inr ⟨l, s, n, h1, by omega, by omega⟩
      · rcases ih with h | ⟨l, s, n, h1, h2, h3⟩
        · exact .inl h
        · exact .inr ⟨l, s, n, h1, by omega, by omega⟩
theorem spanL_len (ks : Nat → Bool) (b : Nat) : (spanL ks b).length ≤ b := by
  induction b with
  | zero => simp [spanL]
  | succ b ih =>
    unfold spanL
    split
    · omega
    · split
      · unfold bump
        split
        · omega
        · simp; omega
      · simp; omega

def freeAt (l : List Hd) (b : Nat) : Bool := (l.getD b default).k == 0
def spansOf (l : List Hd) : List Sp := spanL (freeAt l) l.length

end Go.Proofs.Ytfedgcdkagngnaa

/- Spans of free blocks: the walks. -/
namespace Go.Proofs.Ytfedgcdkagngnaa
open Go.RowKit
set_option linter.unusedVariables false

theorem elBs : Elem Try.prog 83 112 (.agg #[.int .i64 0, .int .i64 0]) 2 16 := Elem.mk' Try.underlying83 (by kernel_rfl) rfl (by decide)

def SpansPost (t : Nat) (l : List Sp) (w : World) : Ending → World → Prop := fun e w' => ∃ v, e = .returned v ∧ w'.ownsRow w.heap.size t 2 v l.length (spCs l) ∧ Below w.heap.size w w'

/-- What a round meets. -/
theorem span_round (ks : Nat → Bool) (b : Nat) (hb : 1 ≤ b) :
    (ks b = false ∧ spanL ks (b + 1) = spanL ks b) ∨
    (ks b = true ∧ 1 < b ∧ ks (b - 1) = true ∧ ∃ l s n, spanL ks b = l ++ [(s, n)] ∧ s + n = b ∧ spanL ks (b + 1) = l ++ [(s, n + 1)]) ∨
    (ks b = true ∧ ¬ (1 < b ∧ ks (b - 1) = true) ∧ spanL ks b = [] ∧ spanL ks (b + 1) = [(b, 1)]) ∨
    (ks b = true ∧ ¬ (1 < b ∧ ks (b - 1) = true) ∧ ∃ l s n, spanL ks b = l ++ [(s, n)] ∧ s + n < b ∧ spanL ks (b + 1) = l ++ [(s, n)] ++ [(b, 1)]) := by
  have h := spanL_last ks b hb
  by_cases hk : ks b = true
  · by_cases hp : 1 < b ∧ ks (b - 1) = true
    · rw [if_pos hp] at h
      obtain ⟨l, s, n, h1, h2, h3⟩ := h
      exact .inr (.inl ⟨hk, hp.1, hp.2, l, s, n, h1, h2, by rw [spanL, if_neg (by simp [hk]; omega), if_pos hp, h1, bump_last]⟩)
    · rw [if_neg hp] at h
      have e : spanL ks (b + 1) = spanL ks b ++ [(b, 1)] := by rw [spanL, if_neg (by simp [hk]; omega), if_neg hp]
      rcases h with h | ⟨l, s, n, h1, h2, h3⟩
      · exact .inr (.inr (.inl ⟨hk, hp, h, by rw [e, h]; rfl⟩))
      · exact .inr (.inr (.inr ⟨hk, hp, l, s, n, h1, h2, by rw [e, h1]⟩))
  · have hk' : ks b = false := by simpa using hk
    exact .inl ⟨hk', by rw [spanL, if_pos (.inr hk')]⟩

theorem hd_kind {w : World} {a : Option Addr} {l : List Hd} (h : Cells w a (hdCs l)) {j : Nat} (hj : j < l.length) :
    ∃ b off, a = some ⟨b, off, none⟩ ∧ ∃ k, freeAt l j = (k == 0) ∧ w.cell? ⟨b, off + j * 3, none⟩ = some (.int .i64 k) := by
  obtain ⟨k, c, n, he⟩ := hdGetD l j
  obtain ⟨b, off, rfl, h0, _, _⟩ := hd_cells h hj he
  exact ⟨b, off, rfl, k, by unfold freeAt; rw [he], h0⟩

set_option maxHeartbeats 2000000 in
set_option maxRecDepth 20000 in
theorem bspans_any (a : Option Addr) (n cap : Nat) (l : List Hd) (hn : l.length = n) (w : World) (hc : Cells w a (hdCs l)) (hl : n ≤ 1000) :
    Calls Try.prog 53 #[.slice a n cap] w (SpansPost 112 (spansOf l) w) := by
  have HN := Lib.hid hn
  have HC := Lib.hid hc
  generalize hP : SpansPost 112 (spansOf l) w = Post
  have HP := Lib.hid hP
  clear hn hc hP
  go_enter Try.func53, Try.ntmps53
  go_wp2_with fail
  go_loopw [3, 4] (fun v i wr => ∃ b : Nat, 1 ≤ b ∧ (b ≤ n ∨ b = 1) ∧ i = .int .i64 b ∧ wr.ownsRow w.heap.size 112 2 v (spanL (freeAt l) b).length (spCs (spanL (freeAt l) b)) ∧ Below w.heap.size w wr) (fun _ i _ => n - (intOf i).toNat)
  case atStart => exact ⟨1, Nat.le_refl _, .inr rfl, rfl, ⟨rfl, .inl ⟨rfl, rfl⟩⟩, Below.refl _ _⟩
  case round =>
    obtain ⟨b, hb1, hbn, rfl, ho, hb⟩ := hrel
    by_cases hlt : b < n
    · have hlt' : (b : Int) < (n : Int) := by omega
      have HB := Lib.hid hb
      obtain ⟨bl, off, rfl, kd, hfk, d0⟩ := hd_kind (HC.out.below hb (Nat.le_refl _)) (j := b) (by rw [HN.out]; exact hlt)
      have hr := span_round (freeAt l) b hb1
      rw [hfk] at hr
      have HLb := Lib.hid (spanL_len (freeAt l) b)
      clear hfk hbn hb
      rcases hr with ⟨hk, hs⟩ | ⟨hk, h1b, hk2, pl, s, m, hs1, hs2, hs3⟩ | ⟨hk, hp, hs1, hs3⟩ | ⟨hk, hp, pl, s, m, hs1, hs2, hs3⟩
      · have hk1 : (kd != 0) = true := by simpa using hk
        obtain ⟨a1, c1, rfl, hc1, hm1⟩ := owned_form ho
        have HO : Hid (wr.ownsRow w.heap.size 112 2 (.slice a1 (spanL (freeAt l) b).length c1) (spanL (freeAt l) (b + 1)).length (spCs (spanL (freeAt l) (b + 1)))) := Lib.hid (by rw [hs]; exact ho)
        clear ho hs hk HLb
        go_wp2_with fail
        exact ⟨⟨b + 1, by omega, by omega, vint (by omega), HO.out, HB.out⟩, by simp [intOf]; omega⟩
      · have hk1 : (kd != 0) = false := by simpa using hk
        rw [hs1] at ho
        obtain ⟨L, hL⟩ : ∃ L, L = pl.length := ⟨_, rfl⟩
        rw [show (pl ++ [(s, m)]).length = L + 1 by simp [hL]] at ho
        obtain ⟨g, c1, rfl, hc1, hm1, hg1, hg2⟩ := owned_some ho (by omega)
        have hr := owned_row ho
        have hla := spCs_last pl s m
        rw [← hL] at hla
        have e0 : wr.cell? ⟨g, L * 2, none⟩ = some (.int .i64 (s : Int)) := hr.cell hla.1
        have e1 : wr.cell? ⟨g, L * 2 + 1, none⟩ = some (.int .i64 (m : Int)) := hr.cell hla.2
        have f1 : wr.frozen? ⟨g, L * 2 + 1, none⟩ = false := hr.frozen _
        have hsm : ((s : Int) + (m : Int) == (b : Int)) = true := by simp; omega
        have HL := Lib.hid hL
        have HS3 := Lib.hid hs3
        have HO1 := Lib.hid ho
        have hsb : (s : Int) ≤ 1000 := by omega
        have hmb : (m : Int) ≤ 1000 := by omega
        have hLb : L < 1000 := by have := HLb.out; rw [hs1] at this; simp [← hL] at this; omega
        clear ho hs1 hs2 hs3 hL hla hr hk hk2 HLb
        have hw1 : IntKind.i64.wrap (L : Int) = L := IntWalk.i64_in _ (by omega)
        have hw2 : IntKind.i64.wrap ((s : Int) + (m : Int)) = s + m := IntWalk.i64_in _ (by omega)
        go_wp2_with fail
        go_quiet (fail)
        clear hw1 hw2
        have HO2 : Hid ((wr.drewN nq).ownsRow w.heap.size 112 2 (.slice (some ⟨g, 0, none⟩) (L + 1) c1) (L + 1) (spCs (pl ++ [(s, m)]))) := Lib.hid HO1.out
        go_wp2_with fail
        refine ⟨⟨b + 1, by omega, by omega, vint (by omega), ?_, ?_⟩, by simp [intOf]; omega⟩
        · rw [HS3.out, ← show ((m + 1 : Nat) : Int) = (m : Int) + 1 from rfl, ← spCs_bump pl s m (m + 1), show (pl ++ [(s, m + 1)] : List Sp).length = L + 1 by simp [HL.out], ← HL.out]
          exact (HO2.out.stored (L * 2 + 1) _).1
        · exact below_grownBy (below_drewN HB.out _) HO2.out (HO2.out.stored (L * 2 + 1) _).2 (Nat.le_refl _) (Nat.le_refl _)
      · have hk1 : (kd != 0) = false := by simpa using hk
        rw [hs1] at ho
        obtain ⟨a1, c1, rfl, hc1, hm1⟩ := owned_form ho
        have HO := Lib.hid ho
        have HS3 := Lib.hid hs3
        have hone : Hid (∀ u ∈ (#[Value.int .i64 (b : Int), Value.int .i64 1] : Array Value).toList, u.oneCell' = true) := Lib.hid (by intro u hu; simp at hu; rcases hu with rfl | rfl <;> rfl)
        clear ho hs1 hs3 hk hp HLb
        go_wp2_with fail
        go_quiet (fail)
        have HO1 : Hid ((wr.drewN nq).ownsRow w.heap.size 112 2 (.slice a1 0 c1) 0 []) := Lib.hid HO.out
        have hbase : Hid (w.heap.size ≤ (wr.drewN nq).heap.size) := Lib.hid HB.out.size
        go_wp2_with (at_builtin; refine wpList_append_new (us := #[.int .i64 (b : Int), .int .i64 1]) elBs HO1.out rfl hone.out (by omega) (by decide) hbase.out rfl rfl rfl (by simp [Act.eval]) ?_; intro g6 c6 w6 ho6 hg6 hc6 hm6 hb6 hl6; have HO6 := Lib.hid ho6; have HG6 := Lib.hid hg6; clear ho6 hg6)
        refine ⟨⟨b + 1, by omega, by omega, vint (by omega), ?_, below_grownBy (below_drewN HB.out _) HO1.out HG6.out (Nat.le_refl _) (Nat.le_refl _)⟩, by simp [intOf]; omega⟩
        rw [HS3.out]
        exact HO6.out
      · have hk1 : (kd != 0) = false := by simpa using hk
        rw [hs1] at ho
        obtain ⟨L, hL⟩ : ∃ L, L = pl.length := ⟨_, rfl⟩
        rw [show (pl ++ [(s, m)]).length = L + 1 by simp [hL]] at ho
        obtain ⟨g, c1, rfl, hc1, hm1, hg1, hg2⟩ := owned_some ho (by omega)
        have hr := owned_row ho
        have hla := spCs_last pl s m
        rw [← hL] at hla
        have e0 : wr.cell? ⟨g, L * 2, none⟩ = some (.int .i64 (s : Int)) := hr.cell hla.1
        have e1 : wr.cell? ⟨g, L * 2 + 1, none⟩ = some (.int .i64 (m : Int)) := hr.cell hla.2
        have hsm : ((s : Int) + (m : Int) == (b : Int)) = false := by simp; omega
        have HL := Lib.hid hL
        have HS3 := Lib.hid hs3
        have HO := Lib.hid ho
        have hsb : (s : Int) ≤ 1000 := by omega
        have hmb : (m : Int) ≤ 1000 := by omega
        have hone : Hid (∀ u ∈ (#[Value.int .i64 (b : Int), Value.int .i64 1] : Array Value).toList, u.oneCell' = true) := Lib.hid (by intro u hu; simp at hu; rcases hu with rfl | rfl <;> rfl)
        have hLb : L < 1000 := by have := HLb.out; rw [hs1] at this; simp [← hL] at this; omega
        have hL9 : L + 1 < 1000000000000 := by omega
        clear ho hs1 hs2 hs3 hL hla hr hk hp HLb
        have hw1 : IntKind.i64.wrap (L : Int) = L := IntWalk.i64_in _ (by omega)
        have hw2 : IntKind.i64.wrap ((s : Int) + (m : Int)) = s + m := IntWalk.i64_in _ (by omega)
        go_wp2_with fail
        go_quiet (fail)
        clear hw1 hw2
        have HO1 : Hid ((wr.drewN nq).ownsRow w.heap.size 112 2 (.slice (some ⟨g, 0, none⟩) (L + 1) c1) (L + 1) (spCs (pl ++ [(s, m)]))) := Lib.hid HO.out
        have hbase : Hid (w.heap.size ≤ (wr.drewN nq).heap.size) := Lib.hid HB.out.size
        go_wp2_with (at_builtin; refine wpList_append_new (us := #[.int .i64 (b : Int), .int .i64 1]) elBs HO1.out rfl hone.out hL9 (by decide) hbase.out rfl rfl rfl (by simp [Act.eval]) ?_; intro g6 c6 w6 ho6 hg6 hc6 hm6 hb6 hl6; have HO6 := Lib.hid ho6; have HG6 := Lib.hid hg6; clear ho6 hg6)
        refine ⟨⟨b + 1, by omega, by omega, vint (by omega), ?_, below_grownBy (below_drewN HB.out _) HO1.out HG6.out (Nat.le_refl _) (Nat.le_refl _)⟩, by simp [intOf]; omega⟩
        rw [HS3.out, spCs_append, show (pl ++ [(s, m)] ++ [(b, 1)] : List Sp).length = L + 1 + 1 by simp [HL.out]]
        exact HO6.out
    · have hlt' : decide (b < n) = false := by simp; omega
      have hlt2 : n ≤ b := by omega
      obtain ⟨a1, c1, rfl, hc1, hm1⟩ := owned_form ho
      have HE : Hid (spansOf l = spanL (freeAt l) b) := Lib.hid (by
        unfold spansOf; rw [HN.out]
        rcases hbn with h | h
        · rw [show n = b by omega]
        · by_cases h0 : n = 0
          · rw [h0, h]; rfl
          · rw [show n = b by omega])
      have HO := Lib.hid ho
      have HB := Lib.hid hb
      clear ho hb
      go_wp2_with fail
      rw [← HP.out]
      refine ⟨_, rfl, ?_, HB.out⟩
      rw [HE.out]
      exact HO.out

end Go.Proofs.Ytfedgcdkagngnaa

/- blocks.Format, on a device that never stops. -/
namespace Go.Proofs.Ytfedgcdkagngnaa
open Go.RowKit
set_option linter.unusedVariables false

/-- What was encoded is decoded. -/
theorem dec_enc (b k c l : Int) (h : hdRight k c l = true) : decN b (encN b k c l) = ⟨k, c, l, 0⟩ := by
  have hr : HdRight k c l := by simpa [hdRight] using h
  obtain ⟨n, hn⟩ : ∃ n, n = hdN k c l := ⟨_, rfl⟩
  have hn2 : (n : Int) = k + 4 * c + 256 * l := by rw [hn]; unfold hdN; unfold HdRight at hr; omega
  have hlt : n < 4294967296 := by unfold HdRight at hr; omega
  have he : encN b k c l = sealN n (pl (256 + b)) := by unfold encN; rw [if_pos h, hn]
  have hm : sealN n (pl (256 + b)) % 4294967296 = n := by
    unfold sealN
    rw [Nat.mul_comm, Nat.mul_add_mod, Nat.mod_eq_of_lt hlt]
  have ho : openN (encN b k c l) (pl (256 + b)) = some n := by
    unfold openN; rw [he, hm, if_pos rfl]
  have e1 : ((n % 4 : Nat) : Int) = k := by unfold HdRight at hr; omega
  have e2 : ((n / 4 % 64 : Nat) : Int) = c := by unfold HdRight at hr; omega
  have e3 : ((n / 256 % 65536 : Nat) : Int) = l := by unfold HdRight at hr; omega
  rw [decN_some ho]
  unfold decS
  rw [e1, e2, e3, if_pos rfl, if_pos h]

def Dev.live (S : Dev) : Prop := S.dead = false ∧ S.armed = false
theorem Dev.live.stop {S : Dev} (h : S.live) : S.stop = false := by unfold Dev.stop; rw [h.1, h.2]; rfl
theorem Dev.live.step {S : Dev} (h : S.live) : S.step.live := by unfold Dev.step; rw [h.stop]; exact h
theorem Dev.live.store {S : Dev} (h : S.live) (i : Int) (x : Nat) : (S.store i x).live := by
  unfold Dev.store
  split
  · exact h
  · rw [h.stop]; exact h.step
theorem Dev.live.store_ok {S : Dev} (h : S.live) (i : Nat) (x : Nat) (hi : i < S.cache.length) : S.storeE i = 0 ∧ (S.store i x).cache = S.cache.set i x := by
  constructor
  · unfold Dev.storeE; rw [if_neg (by omega), h.stop]; rfl
  · unfold Dev.store; rw [if_neg (by omega), h.stop]
    simp only [Bool.false_eq_true, if_false, Dev.put, (Dev.step_rest S).2.1, Int.toNat_natCast]
theorem Dev.store_okN {S : Dev} {N : Nat} (h : S.ok N) (i : Int) (x : Nat) : (S.store i x).ok (N + 1) := by
  unfold Dev.store
  split
  · exact h.mono (by omega)
  · split
    · exact Dev.step_ok h
    · exact (Dev.step_ok h : S.step.ok (N + 1))

/-- Blocks 1 .. k - 1 are free. -/
def Dev.fmtTo (S : Dev) : Nat → Dev
  | 0 => S
  | k + 1 => if k = 0 then S else (S.fmtTo k).store ((256 + k : Nat) : Int) (encN k 0 0 0)
theorem fmtTo_props {S : Dev} (h : S.live) {N : Nat} (ho : S.ok N) (k : Nat) (hk : 256 + k ≤ S.cache.length) : (S.fmtTo k).live ∧ (S.fmtTo k).ok (N + k) ∧ (S.fmtTo k).cache.length = S.cache.length ∧ (S.fmtTo k).dirty.length = S.dirty.length ∧ (∀ b, 1 ≤ b → b < k → (S.fmtTo k).cache.getD (256 + b) 0 = encN b 0 0 0) := by
  induction k with
  | zero => exact ⟨h, ho, rfl, rfl, fun b h1 h2 => by omega⟩
  | succ k ih =>
    obtain ⟨i1, i2, i3, i5, i4⟩ := ih (by omega)
    unfold Dev.fmtTo
    split
    · exact ⟨h, ho.mono (by omega), rfl, rfl, fun b h1 h2 => by omega⟩
    · have hs := i1.store_ok (256 + k) (encN k 0 0 0) (by omega)
      refine ⟨i1.store _ _, Dev.store_okN i2 _ _, by rw [hs.2, List.length_set, i3], ?_, fun b h1 h2 => ?_⟩
      · rw [← i5]
        unfold Dev.store
        split
        · rfl
        · split
          · rw [(Dev.step_rest _).2.2.2.1]
          · simp [Dev.put, (Dev.step_rest _).2.2.2.1]
      · rw [hs.2]
        by_cases e : b = k
        · subst e; rw [List.getD_eq_getElem?_getD, List.getElem?_set_self (by omega)]; rfl
        · rw [List.getD_eq_getElem?_getD, List.getElem?_set_ne (by omega), ← List.getD_eq_getElem?_getD]
          exact i4 b h1 (by omega)

/-- A live device does all that it is told within its words. -/
theorem Dev.live.flush {S : Dev} (h : S.live) (j : Int) : (S.flush j).live := by
  unfold Dev.flush
  split
  · exact h
  · rw [h.stop]
    simp only [Bool.false_eq_true, if_false]
    unfold Dev.hold
    split
    · exact h.step
    · exact h.step
theorem Dev.live.flushE {S : Dev} (h : S.live) (j : Nat) (hj : j < S.dirty.length) : S.flushE j = 0 := by unfold Dev.flushE; rw [if_neg (by omega), h.stop]; rfl
theorem Dev.live.flushRun {S : Dev} (h : S.live) (a : Nat) : ∀ m, a + m ≤ S.dirty.length → (S.flushRun a m).err = 0 ∧ (S.flushRun a m).dev.live ∧ (S.flushRun a m).dev.cache = S.cache ∧ (S.flushRun a m).dev.dirty = S.dirty := by
  intro m
  induction m with
  | zero => intro _; exact ⟨rfl, h, rfl, rfl⟩
  | succ m ih =>
    intro hm
    obtain ⟨i1, i2, i3, i4⟩ := ih (by omega)
    unfold Dev.flushRun
    rw [if_neg (by rw [i1]; simp)]
    refine ⟨i2.flushE _ (by rw [i4]; omega), i2.flush _, ?_, ?_⟩
    · exact (Dev.flush_len _ _).1.trans i3
    · exact (Dev.flush_len _ _).2.trans i4
theorem Dev.live.persist {S : Dev} (h : S.live) (p n : Nat) (hn : 0 < n) (hd : S.cache.length = 8 * S.dirty.length) (hp : p + n ≤ S.cache.length) : (S.persist p n).err = 0 ∧ (S.persist p n).dev.cache = S.cache := by
  unfold Dev.persist
  rw [if_neg (by omega), if_pos (by omega)]
  unfold Dev.persistN
  obtain ⟨i1, i2, i3, i4⟩ := h.flushRun ((p : Int) / 8).toNat (((p : Int) + (n : Int) - 1) / 8 - (p : Int) / 8 + 1).toNat (by omega)
  rw [if_neg (by rw [i1]; simp)]
  constructor
  · show Dev.fenceE _ = 0
    unfold Dev.fenceE; rw [i2.stop]; rfl
  · show (Dev.fence _).cache = _
    unfold Dev.fence; rw [i2.stop]
    simp only [Bool.false_eq_true, if_false]
    rw [(fenceTo_len _ _).2.1, (Dev.step_rest _).2.1, i3]

def Dev.fmt (S : Dev) (B : Nat) : Dev := ((S.fmtTo B).persist 257 ((B : Int) - 1)).dev

set_option maxHeartbeats 2000000 in
set_option maxRecDepth 100000 in
theorem format_any {w : World} {F : Foot} {S : Dev} (h : DevAt w F S) (hv : S.live) (ho : S.ok 100) (B : Nat) (hB2 : 2 ≤ B) (hB : B ≤ 1000) (hlen : 256 + B ≤ S.cache.length) :
    Calls Try.prog 15 #[vdev F, vgeom B] w fun e w' => e = .returned (.int .i64 0) ∧ DevAt w' F (S.fmt B) ∧ Touch F.list w w' := by
  have hbx := below_alloc w (.cells #[.int .i64 (B : Int)] 39)
  have hcx : (w.alloc (.cells #[.int .i64 (B : Int)] 39)).cell? ⟨w.heap.size, 0, none⟩ = some (.int .i64 (B : Int)) := cell_alloc_new _ _ _ 0 _ rfl
  have HD := Lib.hid (h.below hbx)
  have HT : Hid (Touch F.list w (w.alloc (.cells #[.int .i64 (B : Int)] 39))) := Lib.hid (Touch.ofBelow hbx)
  have HF : Hid (∀ k ∈ F.list, k < w.heap.size) := Lib.hid h.mem
  have HP := Lib.hid (fun k hk => fmtTo_props hv ho k (Nat.le_trans (show 256 + k ≤ 256 + B by exact Nat.add_le_add_left hk _) hlen))
  have HL := Lib.hid h.lenD
  clear h hbx hv ho
  go_enter Try.func15, Try.ntmps15
  go_wp2_with fail
  go_loopw [5] (fun i wr => ∃ b : Nat, 1 ≤ b ∧ b ≤ B ∧ i = .int .i64 b ∧ DevAt wr F (S.fmtTo b) ∧ Touch F.list w wr ∧ wr.cell? ⟨w.heap.size, 0, none⟩ = some (.int .i64 (B : Int))) (fun i _ => B - (intOf i).toNat)
  case atStart => exact ⟨1, Nat.le_refl _, by omega, rfl, HD.out, HT.out, hcx⟩
  case round =>
    obtain ⟨b, hb1, hb2, rfl, hd, ht, hc⟩ := hrel
    have HDr := Lib.hid hd
    have HTr := Lib.hid ht
    clear hd ht hcx
    by_cases hlt : b < B
    · have hlt' : (b : Int) < (B : Int) := by omega
      go_wp2_with fail
      refine (gheader_any _ _ _ (by omega)).mono ?_
      rintro e w1 ⟨rfl, hb1'⟩
      have HH : Hid (hdAt (B : Int) (b : Int) = 256 + (b : Int)) := Lib.hid (by unfold hdAt; rw [if_neg (by omega)])
      rw [HH.out]
      have hc1 := below_cells hb1' hc (Nat.le_refl _)
      have HD1 := Lib.hid (HDr.out.below hb1')
      have HT1 : Hid (Touch F.list w w1) := Lib.hid (HTr.out.trans (Touch.ofBelow hb1'))
      clear hb1' hc HDr HTr
      go_wp2_with fail
      refine (bencode_any (b : Int) 0 0 0 (by omega) (by omega) _).mono ?_
      rintro e w2 ⟨rfl, hb2'⟩
      have hc2 := below_cells hb2' hc1 (Nat.le_refl _)
      have HD2 := Lib.hid (HD1.out.below hb2')
      have HT2 : Hid (Touch F.list w w2) := Lib.hid (HT1.out.trans (Touch.ofBelow hb2'))
      clear hb2' hc1 HD1 HT1
      go_wp2_with fail
      refine (store_any HD2.out (N := 100 + b) (by omega) (HP.out b hb2).2.1 _ _ (encN_lt _ _ _ _)).mono ?_
      rintro e w3 ⟨rfl, hd3, ht3⟩
      have HE : Hid ((S.fmtTo b).storeE (256 + (b : Int)) = 0) := Lib.hid ((HP.out b hb2).1.store_ok (256 + b) 0 (by rw [(HP.out b hb2).2.2.1]; omega)).1
      rw [HE.out]
      have hc3 : w3.cell? ⟨w.heap.size, 0, none⟩ = some (.int .i64 (B : Int)) := cell_of_touch ht3 (fun hm => by have := HF.out _ hm; simp at this) hc2
      have HD3 : Hid (DevAt w3 F (S.fmtTo (b + 1))) := Lib.hid (by unfold Dev.fmtTo; rw [if_neg (by omega)]; exact hd3)
      have HT3 : Hid (Touch F.list w w3) := Lib.hid (HT2.out.trans ht3)
      clear hd3 ht3 hc2 HD2 HT2
      go_wp2_with fail
      exact ⟨⟨b + 1, by omega, by omega, vint (by omega), HD3.out, HT3.out, hc3⟩, by simp [intOf]; omega⟩
    · obtain rfl : b = B := by omega
      have hlt' : decide ((b : Int) < (b : Int)) = false := by simp
      have hw1 : IntKind.i64.wrap ((b : Int) - 1) = (b : Int) - 1 := IntWalk.i64_in _ (by omega)
      go_wp2_with fail
      have hcl : ∀ x : Later wr, x.val.cell? ⟨w.heap.size, 0, none⟩ = some (.int .i64 (b : Int)) := fun x => later_cell hc x
      refine wp_region_later_tail 6 ?hn ?hm ?hB ?_
      case hn => exact Nat.le_of_ble_eq_true rfl
      case hm => kernel_rfl
      case hB => kernel_rfl
      simp only [List.take_succ_cons, List.take_zero, List.drop_succ_cons, List.drop_zero]
      repeat (quiet_step ((rename_i x; exact calls_later (gheader_any _ _ _ (by omega)))))
      refine wpQuiet_nil ?_
      rintro w5 ⟨x, hx5⟩
      have hd5 := HDr.out.below x.below
      have ht5 : Touch F.list w x.val := HTr.out.trans (Touch.ofBelow x.below)
      rw [← hx5] at hd5 ht5
      have HD5 := Lib.hid hd5
      have HT5 := Lib.hid ht5
      have HH : Hid (hdAt (b : Int) 1 = 257) := Lib.hid (by unfold hdAt; rw [if_neg (by omega)]; rfl)
      rw [HH.out]
      clear hx5 x HDr HTr hd5 ht5 hw1
      have HQ : Hid (((S.fmtTo b).persist 257 ((b : Int) - 1)).err = 0) := Lib.hid (by
        have := ((HP.out b (Nat.le_refl _)).1.persist 257 (b - 1) (by omega) (by rw [(HP.out b (Nat.le_refl _)).2.2.1, (HP.out b (Nat.le_refl _)).2.2.2.1]; exact HL.out) (by rw [(HP.out b (Nat.le_refl _)).2.2.1]; omega)).1
        rw [show ((b - 1 : Nat) : Int) = (b : Int) - 1 by omega] at this
        exact this)
      go_wp2_with fail
      refine (persist_any HD5.out (N := 100 + b) (by omega) (HP.out b (Nat.le_refl _)).2.1 _ _ (by omega) (by omega)).mono ?_
      rintro e w6 ⟨rfl, hd6, ht6⟩
      rw [HQ.out]
      have HD6 := Lib.hid hd6
      have HT6 : Hid (Touch F.list w w6) := Lib.hid (HT5.out.trans ht6)
      clear hd6 ht6
      go_wp2_with fail
      go_ret
      exact ⟨rfl, HD6.out, HT6.out⟩

end Go.Proofs.Ytfedgcdkagngnaa

/- blocks: Put. -/
namespace Go.Proofs.Ytfedgcdkagngnaa
open Go.RowKit
set_option linter.unusedVariables false

/-- A table of headers in memory, its row in block g. -/
structure TabG (w : World) (p g c : Nat) (F : Foot) (B : Nat) (l : List Hd) : Prop where
  head : w.heap[p]? = some (.cells #[vdev F, .int .i64 (B : Int), .slice (some ⟨g, 0, none⟩) B c] 96 (0, 0))
  len : l.length = B
  cap : B ≤ c
  row : RowAt w g 73 (hdCs l)
theorem TabG.at {w : World} {p g c B : Nat} {F : Foot} {l : List Hd} (h : TabG w p g c F B l) (hne : p ≠ g) : TabAt w p F B l := ⟨g, c, by rw [h.len]; exact h.head, by rw [h.len]; exact h.cap, h.row, hne⟩
theorem TabG.keep {w w' : World} {p g c B : Nat} {F : Foot} {l : List Hd} (h : TabG w p g c F B l) (h1 : w'.heap[p]? = w.heap[p]?) (h2 : w'.heap[g]? = w.heap[g]?) : TabG w' p g c F B l :=
  ⟨h1.trans h.head, h.len, h.cap, h.row.keep h2⟩
theorem TabG.lt {w : World} {p g c B : Nat} {F : Foot} {l : List Hd} (h : TabG w p g c F B l) : p < w.heap.size ∧ g < w.heap.size := ⟨(Array.getElem?_eq_some_iff.1 h.head).1, h.row.lt⟩
/-- What opening answers, its row told. -/
def OpenPostG (f : Nat → Nat) (F : Foot) (B : Nat) (w : World) : Ending → World → Prop := fun en w' => Below w.heap.size w w' ∧
  ((AllOk f B ∧ ∃ p g c, en = .returned (.tuple #[.pointer (some ⟨p, 0, none⟩), .int .i64 0]) ∧ w.heap.size ≤ p ∧ w.heap.size ≤ g ∧ p ≠ g ∧ TabG w' p g c F B (hds f B)) ∨
   (∃ b : Nat, 1 ≤ b ∧ b < B ∧ AllOk f b ∧ (decN b (f b)).code ≠ 0 ∧ en = .returned (.tuple #[.pointer none, .int .i64 21])))

set_option maxHeartbeats 1000000 in
set_option maxRecDepth 100000 in
theorem open_tabG {w : World} {F : Foot} {S : Dev} (h : DevAt w F S) (B : Nat) (hB1 : 1 ≤ B) (hB : B ≤ 1000) :
    Calls Try.prog 28 #[vdev F, vgeom B] w (OpenPostG (devWord S) F B w) := by
  have hbx := below_alloc w (.cells #[.int .i64 (B : Int)] 39)
  have HD := Lib.hid (h.below hbx)
  have HB := Lib.hid hbx
  have hcx : (w.alloc (.cells #[.int .i64 (B : Int)] 39)).cell? ⟨w.heap.size, 0, none⟩ = some (.int .i64 (B : Int)) := cell_alloc_new _ _ _ 0 _ rfl
  generalize hP : OpenPostG (devWord S) F B w = Post
  have HPE := Lib.hid hP
  clear h hP hbx
  go_enter Try.func28, Try.ntmps28
  go_wp2_with fail
  refine (read_any HD.out B hB1 hB).mono ?_
  rintro e w1 ⟨hb1, ⟨hok, g, c, rfl, hg, hgc, hr⟩ | ⟨b, hb0, hbB, hok, hbad, rfl⟩⟩
  · have hcx1 : w1.cell? ⟨w.heap.size, 0, none⟩ = some (.int .i64 (B : Int)) := below_cells hb1 hcx (Nat.le_refl _)
    have HB1 := Lib.hid (HB.out.trans (hb1.mono HB.out.size))
    have HOK := Lib.hid hok
    have HR := Lib.hid hr
    have hgl := hr.lt
    clear hcx hok hr hb1 HD
    go_wp2_with fail
    rw [← HPE.out]
    refine ⟨HB1.out.alloc HB1.out.size _, .inl ⟨HOK.out, w1.heap.size, g, c, rfl, HB1.out.size, by simp at hg; omega, by omega, ⟨?_, hds_length _ _, hgc, HR.out.keep (Below.heap_alloc _ _ _ hgl)⟩⟩⟩
    rw [heap_alloc_new]
  · have HB1 := Lib.hid (HB.out.trans (hb1.mono HB.out.size))
    have HOK := Lib.hid hok
    have HBad := Lib.hid hbad
    clear hok hbad hb1 HD
    go_wp2_with fail
    rw [← HPE.out]
    exact ⟨HB1.out, .inr ⟨b, hb0, hbB, HOK.out, HBad.out, rfl⟩⟩

def allRight (l : List Hd) (k : Nat) : Prop := ∀ i, i < k → hdRight (l.getD i default).k (l.getD i default).c (l.getD i default).l = true
instance (l : List Hd) (k : Nat) : Decidable (allRight l k) := Nat.decidableBallLT k _
end Go.Proofs.Ytfedgcdkagngnaa
