/- Parts of the proof, one behind the other: Zj, Sb, Js, Zh, Zk, Ga, Gb, Go, Gp, Gh, Gq. -/
import Derived.Test.YtfedgcdkagngnaaGreatDT10
import Derived.Shelf.Strings.Builder1
import Derived.Test.YtfedgcdkagngnaaGreatProg

/- dump: Number, Hex; the document's Number, Hex. -/
namespace Go.Proofs.YtfedgcdkagngnaaGreat
open Go.RowKit
set_option linter.unusedVariables false
open Go.Lib (decDigits itoa nDigits)

section
variable {P : Program} {w : World} {ops : Array Oper} {rest : List Oper} {o : Oper} {a : Act} {Q : Exit → Act → World → Prop}
/-- A byte of a text. -/
theorem wpList_index_str {ty : TypeId} {x ix : Operand} {s : ByteArray} {k : IntKind} {I : Int} (i : Nat) {b : UInt8} (hu : P.underlying ty = some .string) (hI : I = (i : Int)) (hb : s[i]? = some b)
    (hgd : o.guard = none) (ho : o.op = .index ty x ix) (hx : a.eval x = .string s) (hix : a.eval ix = .int k I)
    (hK : wpList P ops Q rest (a.put o.dst (.int .u8 (b.toNat : Int))) w) : wpList P ops Q (o :: rest) a w := by
  refine wpList_plain hgd fun K hK' => ?_
  subst hI
  have hr : (Instr.index ty (.string s) (.int k i)).run P w = .ok (.int .u8 (b.toNat : Int)) w := by
    simp [Instr.index, asIntOf, run_underlying hu, hb]
  unfold Oper.wp
  simp [execOp, ho, hx, hix, hr, Result.andThen]
  exact hK' _ _ hK
end

theorem digits10d_any (u : Nat) (hu : u < 18446744073709551616) (w : World) : Calls Tryz.prog 153 #[.int .u64 (u : Int), .int .u64 10, .int .i64 1] w (Gives (strV (decDigits u)) w) := by
  refine (digits10_any u 1 hu (by omega) (by omega) w).mono ?_
  rintro e w' ⟨T, h1, _, rfl, hb⟩
  rw [dec_digW h1]
  exact ⟨rfl, hb⟩
theorem digits16d_any (u : Nat) (hu : u < 18446744073709551616) (w : World) : Calls Tryz.prog 153 #[.int .u64 (u : Int), .int .u64 16, .int .i64 16] w (Gives (strV (digW 16 u 16)) w) := by
  refine (digits16_any u 16 hu (by omega) (by omega) w).mono ?_
  rintro e w' ⟨T, h1, _, rfl, hb⟩
  rw [hex_digW hu h1]
  exact ⟨rfl, hb⟩

set_option maxHeartbeats 1000000 in
theorem dhex_any (u : Nat) (hu : u < 18446744073709551616) (w : World) : Calls Tryz.prog 85 #[vu64 u] w (Gives (strV (digW 16 u 16)) w) := by
  have HP : Hid (∀ w', Below w.heap.size w w' → Gives (strV (digW 16 u 16)) w (.returned (strV (digW 16 u 16))) w') := Lib.hid (fun w' h => ⟨rfl, h⟩)
  generalize Gives (strV (digW 16 u 16)) w = Post at *
  go_enter Tryz.func85, Tryz.ntmps85
  go_wp2_with fail
  refine (digits16d_any u hu _).mono ?_
  rintro e w1 ⟨rfl, hb1⟩
  have HB1 := Lib.hid hb1
  generalize digW 16 u 16 = l at *
  clear hb1
  go_wp2_with fail
  exact HP.out _ HB1.out

set_option maxHeartbeats 2000000 in
theorem dnumber_any (n : Int) (hn : In64 n) (w : World) : Calls Tryz.prog 82 #[.int .i64 n] w (Gives (strV (itoa n)) w) := by
  obtain ⟨h1, h2⟩ := hn
  have HP : Hid (∀ (l : List UInt8) (w' : World), itoa n = l → Below w.heap.size w w' → Gives (strV (itoa n)) w (.returned (strV l)) w') := Lib.hid (fun l w' h hb => by subst h; exact ⟨rfl, hb⟩)
  generalize Gives (strV (itoa n)) w = Post at *
  by_cases h0 : n < 0
  · obtain ⟨u, hu⟩ : ∃ u : Nat, n = -(u : Int) := ⟨n.natAbs, by omega⟩
    subst hu
    have hu1 : 1 ≤ u := by omega
    have HI : Hid (itoa (-(u : Int)) = 45 :: decDigits u) := Lib.hid (itoa_neg hu1)
    by_cases hm : u = 9223372036854775808
    · subst hm
      go_enter Tryz.func82, Tryz.ntmps82
      go_wp2_with fail
      rw [show IntKind.u64.wrap (wrap64 9223372036854775808) = ((9223372036854775808 : Nat) : Int) from by decide +kernel]
      refine (digits10d_any 9223372036854775808 (by omega) _).mono ?_
      rintro e w1 ⟨rfl, hb1⟩
      have HB1 := Lib.hid hb1
      have HL := Lib.hid (dec_len20 (u := 9223372036854775808) (by omega))
      generalize decDigits 9223372036854775808 = l at *
      have hl : (bstr l).size ≤ 20 := by rw [bstr_size]; exact HL.out
      clear hb1
      go_wp2_with fail
      show Post (.returned (.string (bstr [45] ++ bstr l))) w1
      rw [bstr_append]
      exact HP.out _ _ HI.out HB1.out
    · have hu2 : u < 9223372036854775808 := by omega
      go_enter Tryz.func82, Tryz.ntmps82
      go_wp2_with fail
      refine (digits10d_any u (by omega) _).mono ?_
      rintro e w1 ⟨rfl, hb1⟩
      have HB1 := Lib.hid hb1
      have HL := Lib.hid (dec_len20 (u := u) (by omega))
      generalize decDigits u = l at *
      have hl : (bstr l).size ≤ 20 := by rw [bstr_size]; exact HL.out
      clear hb1
      go_wp2_with fail
      show Post (.returned (.string (bstr [45] ++ bstr l))) w1
      rw [bstr_append]
      exact HP.out _ _ HI.out HB1.out
  · obtain ⟨u, rfl⟩ := Int.eq_ofNat_of_zero_le (show 0 ≤ n by omega)
    have HI : Hid (itoa (u : Int) = decDigits u) := Lib.hid (itoa_pos u)
    go_enter Tryz.func82, Tryz.ntmps82
    go_wp2_with fail
    refine (digits10d_any u (by omega) _).mono ?_
    rintro e w1 ⟨rfl, hb1⟩
    have HB1 := Lib.hid hb1
    generalize decDigits u = l at *
    clear hb1
    go_wp2_with fail
    exact HP.out _ _ HI.out HB1.out

set_option maxHeartbeats 1000000 in
theorem rnumber_any (n : Int) (hn : In64 n) (w : World) : Calls Tryz.prog 91 #[.int .i64 n] w (Gives (strV (itoa n)) w) := by
  have HP : Hid (∀ w', Below w.heap.size w w' → Gives (strV (itoa n)) w (.returned (strV (itoa n))) w') := Lib.hid (fun w' h => ⟨rfl, h⟩)
  have HT := Lib.hid (fun w => rtext_any n hn w)
  generalize Gives (strV (itoa n)) w = Post at *
  obtain ⟨h1, h2⟩ := hn
  go_enter Tryz.func91, Tryz.ntmps91
  go_wp2_with fail
  refine (HT.out _).mono ?_
  rintro e w1 ⟨rfl, hb1⟩
  have HB1 := Lib.hid hb1
  generalize itoa n = l at *
  clear hb1
  go_wp2_with fail
  exact HP.out _ HB1.out

def hexS : ByteArray := ⟨#[48, 49, 50, 51, 52, 53, 54, 55, 56, 57, 97, 98, 99, 100, 101, 102]⟩
theorem hexS_at : ∀ d : Fin 16, hexS[d.val]? = some (chrN d.val) := by decide +kernel

set_option maxHeartbeats 2000000 in
theorem rhex_any (n : Nat) (hn : n < 18446744073709551616) (w : World) : Calls Tryz.prog 159 #[vu64 n] w (Gives (strV (digW 16 n 16)) w) := by
  have HP : Hid (∀ w', Below w.heap.size w w' → Gives (strV (digW 16 n 16)) w (.returned (strV (digW 16 n 16))) w') := Lib.hid (fun w' h => ⟨rfl, h⟩)
  generalize Gives (strV (digW 16 n 16)) w = Post at *
  go_enter Tryz.func159, Tryz.ntmps159
  go_wp2_with fail
  go_loopw [0, 3, 4] (fun nv sv iv wr => ∃ v t : Nat, nv = .int .u64 (v : Int) ∧ sv = .string (bstr (digW 16 n t)) ∧ iv = .int .i64 (t : Int) ∧ t ≤ 16 ∧ v < 18446744073709551616 ∧ Hid (v = n / 16 ^ t) ∧ Hid (Below w.heap.size w wr)) (fun _ _ iv _ => 16 - (intOf iv).toNat)
  case atStart => exact ⟨n, 0, rfl, rfl, rfl, by omega, hn, Lib.hid (by simp), Lib.hid (Below.refl _ _)⟩
  case round =>
    obtain ⟨v, t, rfl, rfl, rfl, ht, hv, HV, HB⟩ := hrel
    by_cases hlt : t < 16
    · have HF : Hid (digW 16 n (t + 1) = chrN (v % 16) :: digW 16 n t) := Lib.hid (by rw [digW_front, ← HV.out])
      have HL : Hid ((digW 16 n t).length = t) := Lib.hid (digW_len _ _ _)
      have hsz : (bstr (digW 16 n t)).size ≤ 16 := by rw [bstr_size, HL.out]; exact ht
      have HX := Lib.hid (hexS_at ⟨v % 16, by omega⟩)
      have HV2 : Hid (v / 16 = n / 16 ^ (t + 1)) := Lib.hid (by rw [HV.out, Nat.div_div_eq_div_mul, Nat.pow_succ])
      have HM : Hid ((v : Int) % 16 = ((v % 16 : Nat) : Int)) := Lib.hid (by omega)
      dsimp only at HX
      generalize digW 16 n t = l at *
      generalize chrN (v % 16) = b at *
      have HS : Hid (strOf [b.toNat] ++ bstr l = bstr (b :: l)) := Lib.hid (by rw [one_byte, bstr_append]; rfl)
      have hs1 : (strOf [b.toNat]).size = 1 := rfl
      have HCb : Hid (Cells (wr.alloc (.cells #[.int .u8 (b.toNat : Int)] 5)) (some ⟨wr.heap.size, 0, none⟩) ([b.toNat].map vu8)) := Lib.hid (((Mem.one wr #[.int .u8 (b.toNat : Int)] 5).at 0 rfl).cells)
      have HB1 := Lib.hid (HB.out.trans ((below_alloc wr (.cells #[.int .u8 (b.toNat : Int)] 5)).mono HB.out.size))
      have hlt' : (t : Int) < 16 := by omega
      go_wp2_with (first
        | (refine wpList_index_str (v % 16) Tryz.underlying9 HM.out HX.out rfl rfl rfl rfl ?_)
        | (refine wpList_string_of (ns := [b.toNat]) Tryz.underlying153 Tryz.underlying5 Tryz.underlying9 HCb.out rfl rfl rfl ?_))
      go_roundw
      case rel => exact ⟨v / 16, t + 1, vint (by omega), by rw [HF.out, ← HS.out], vint (by omega), by omega, by omega, HV2, HB1⟩
      case measure => simp [intOf]; omega
    · obtain rfl : t = 16 := by omega
      generalize digW 16 n 16 = l at *
      go_wp2_with fail
      exact HP.out _ HB.out

end Go.Proofs.YtfedgcdkagngnaaGreat

/-
  DERIVED: THE SHELF's CONTRACTS AT THIS DUMP, IN PLAIN WORDS (tools/lay-plain.mjs out of 'TmpShelf.lean', which tools/lay-shelf.mjs wrote): THE SAME DECLARATIONS UNDER THE SAME NAMES: 'import', 'namespace', 'open', 'def', 'theorem' AND NOTHING ELSE: no command of the shelf's: FOR A HAND-IN. Each laying: the table of numbers ('.._ren') and one theorem, a field a fact of the dump's own or the kernel's comparison; each contract: ONE APPLICATION.
-/
namespace Go.Proofs
open Go.Shelf
def Tryz.lays169_ren : Go.Shelf.Ren := ⟨fun | 169 => 96 | n => n, fun | 70 => 152 | 9 => 9 | 0 => 0 | 72 => 155 | 37 => 153 | 127 => 219 | 3 => 3 | 5 => 5 | n => n, fun | n => n⟩
theorem Tryz.lays169 : Go.Proofs.Lays.n169 Tryz.prog Tryz.lays169_ren := {
  mixed := by kernel_rfl
  f169 := Tryz.func96.trans (congrArg some (by kernel_rfl))
  t0 := Tryz.underlying0
  a0 := Tryz.isAgg0
  z0 := Tryz.sizeOf0
  v0 := Tryz.zeroValue0
  t3 := Tryz.underlying3
  a3 := Tryz.isAgg3
  z3 := Tryz.sizeOf3
  v3 := Tryz.zeroValue3
  t9 := Tryz.underlying9
  a9 := Tryz.isAgg9
  z9 := Tryz.sizeOf9
  v9 := Tryz.zeroValue9
  t37 := Tryz.underlying153
  a37 := Tryz.isAgg153
  z37 := Tryz.sizeOf153
  v37 := Tryz.zeroValue153
  t70 := Tryz.underlying152
  a70 := Tryz.isAgg152
  z70 := Tryz.sizeOf152
  v70 := Tryz.zeroValue152
  t72 := Tryz.underlying155
  a72 := Tryz.isAgg155
  z72 := Tryz.sizeOf155
  v72 := Tryz.zeroValue155
  t127 := Tryz.underlying219
  a127 := Tryz.isAgg219
  z127 := Tryz.sizeOf219
  v127 := Tryz.zeroValue219 }
end Go.Proofs

/- strings.Builder's contracts, laid at this program. -/
namespace Go.Proofs.YtfedgcdkagngnaaGreat
open Go.RowKit Go.Shelf
set_option linter.unusedVariables false

def renW : Go.Shelf.Ren := ⟨fun | 166 => 120 | 240 => 160 | 276 => 207 | n => n, fun | 0 => 0 | 3 => 3 | 4 => 4 | 5 => 5 | 9 => 9 | 20 => 20 | 37 => 153 | 70 => 152 | 72 => 155 | 75 => 157 | 80 => 160 | 164 => 260 | n => n, fun | n => n⟩
theorem laysW : Go.Proofs.Lays.n166 Tryz.prog renW := {
  mixed := by kernel_rfl
  f166 := Tryz.func120.trans (congrArg some (by kernel_rfl))
  f240 := Tryz.func160.trans (congrArg some (by kernel_rfl))
  f276 := Tryz.func207.trans (congrArg some (by kernel_rfl))
  t0 := Tryz.underlying0
  a0 := Tryz.isAgg0
  z0 := Tryz.sizeOf0
  v0 := Tryz.zeroValue0
  t3 := Tryz.underlying3
  a3 := Tryz.isAgg3
  z3 := Tryz.sizeOf3
  v3 := Tryz.zeroValue3
  t4 := Tryz.underlying4
  a4 := Tryz.isAgg4
  z4 := Tryz.sizeOf4
  v4 := Tryz.zeroValue4
  t9 := Tryz.underlying9
  a9 := Tryz.isAgg9
  z9 := Tryz.sizeOf9
  v9 := Tryz.zeroValue9
  t20 := Tryz.underlying20
  a20 := Tryz.isAgg20
  z20 := Tryz.sizeOf20
  v20 := Tryz.zeroValue20
  t37 := Tryz.underlying153
  a37 := Tryz.isAgg153
  z37 := Tryz.sizeOf153
  v37 := Tryz.zeroValue153
  t70 := Tryz.underlying152
  a70 := Tryz.isAgg152
  z70 := Tryz.sizeOf152
  v70 := Tryz.zeroValue152
  t72 := Tryz.underlying155
  a72 := Tryz.isAgg155
  z72 := Tryz.sizeOf155
  v72 := Tryz.zeroValue155
  t75 := Tryz.underlying157
  a75 := Tryz.isAgg157
  z75 := Tryz.sizeOf157
  v75 := Tryz.zeroValue157
  t164 := Tryz.underlying260
  a164 := Tryz.isAgg260
  z164 := Tryz.sizeOf260
  v164 := Tryz.zeroValue260 }
theorem extraW : Go.Proofs.Builder.Extra Tryz.prog renW := {
  sizeBuilder := by kernel_rfl
  liesBuilder := by kernel_rfl
  t5 := Tryz.underlying5
  a5 := Tryz.isAgg5
  z5 := Tryz.sizeOf5
  v5 := Tryz.zeroValue5
  infoByte := by kernel_rfl
  cellsByte := by kernel_rfl
  sizeByte := by kernel_rfl
  neB5 := by decide }
theorem extraS : Go.Proofs.Builder.Extra Tryz.prog Tryz.lays169_ren := {
  sizeBuilder := by kernel_rfl
  liesBuilder := by kernel_rfl
  t5 := Tryz.underlying5
  a5 := Tryz.isAgg5
  z5 := Tryz.sizeOf5
  v5 := Tryz.zeroValue5
  infoByte := by kernel_rfl
  cellsByte := by kernel_rfl
  sizeByte := by kernel_rfl
  neB5 := by decide }

abbrev Bld (B b : Nat) (l : List UInt8) (w : World) : Prop := Lib.IsBuilder 155 5 B b (Lib.byteCells l) w

theorem bstring_any (B b : Nat) (l : List UInt8) (w : World) (h : Bld B b l w) (hB : B ≤ w.heap.size) :
    Calls Tryz.prog 96 #[.pointer (some ⟨b, 0, none⟩)] w fun e w' => e = .returned (.string ⟨l.toArray⟩) ∧ Below B w w' :=
  Any.Builder_String_any Tryz.lays169 extraS B b l w h hB

end Go.Proofs.YtfedgcdkagngnaaGreat

/- strings.Builder: WriteByte, laid at this program; builders while other blocks are made. -/
namespace Go.Proofs.YtfedgcdkagngnaaGreat
open Go.RowKit Go.Shelf
set_option linter.unusedVariables false

def renB : Go.Shelf.Ren := ⟨fun | 167 => 94 | 240 => 160 | 276 => 207 | n => n, fun | 0 => 0 | 3 => 3 | 4 => 4 | 5 => 5 | 9 => 9 | 20 => 20 | 37 => 153 | 70 => 152 | 72 => 155 | 75 => 157 | 80 => 160 | 164 => 260 | n => n, fun | n => n⟩
theorem laysB : Go.Proofs.Lays.n167 Tryz.prog renB := {
  mixed := by kernel_rfl
  f167 := Tryz.func94.trans (congrArg some (by kernel_rfl))
  f240 := Tryz.func160.trans (congrArg some (by kernel_rfl))
  f276 := Tryz.func207.trans (congrArg some (by kernel_rfl))
  t0 := Tryz.underlying0
  a0 := Tryz.isAgg0
  z0 := Tryz.sizeOf0
  v0 := Tryz.zeroValue0
  t4 := Tryz.underlying4
  a4 := Tryz.isAgg4
  z4 := Tryz.sizeOf4
  v4 := Tryz.zeroValue4
  t5 := Tryz.underlying5
  a5 := Tryz.isAgg5
  z5 := Tryz.sizeOf5
  v5 := Tryz.zeroValue5
  t9 := Tryz.underlying9
  a9 := Tryz.isAgg9
  z9 := Tryz.sizeOf9
  v9 := Tryz.zeroValue9
  t20 := Tryz.underlying20
  a20 := Tryz.isAgg20
  z20 := Tryz.sizeOf20
  v20 := Tryz.zeroValue20
  t37 := Tryz.underlying153
  a37 := Tryz.isAgg153
  z37 := Tryz.sizeOf153
  v37 := Tryz.zeroValue153
  t70 := Tryz.underlying152
  a70 := Tryz.isAgg152
  z70 := Tryz.sizeOf152
  v70 := Tryz.zeroValue152
  t72 := Tryz.underlying155
  a72 := Tryz.isAgg155
  z72 := Tryz.sizeOf155
  v72 := Tryz.zeroValue155
  t75 := Tryz.underlying157
  a75 := Tryz.isAgg157
  z75 := Tryz.sizeOf157
  v75 := Tryz.zeroValue157
  t164 := Tryz.underlying260
  a164 := Tryz.isAgg260
  z164 := Tryz.sizeOf260
  v164 := Tryz.zeroValue260 }
theorem extraB : Go.Proofs.Builder.Extra Tryz.prog renB := {
  sizeBuilder := by kernel_rfl
  liesBuilder := by kernel_rfl
  t5 := Tryz.underlying5
  a5 := Tryz.isAgg5
  z5 := Tryz.sizeOf5
  v5 := Tryz.zeroValue5
  infoByte := by kernel_rfl
  cellsByte := by kernel_rfl
  sizeByte := by kernel_rfl
  neB5 := by decide }

theorem bbyte_any (B b : Nat) (l : List UInt8) (c : UInt8) (w : World) (h : Bld B b l w) (hlen : l.length + 1 ≤ 140737488355328) (hB : B ≤ w.heap.size) :
    Calls Tryz.prog 94 #[.pointer (some ⟨b, 0, none⟩), .int .u8 (c.toNat : Int)] w fun e w' => e = .returned .nilIface ∧ Bld B b (l ++ [c]) w' ∧ Below B w w' := by
  have h1 := Any.Builder_WriteByte laysB extraB B b (Lib.byteCells l) (c.toNat : Int) w h (by rw [Lib.byteCells_length]; exact hlen) hB
  refine Calls.mono (f := 94) h1 ?_
  rintro e w' ⟨h2, h3, h4⟩
  refine ⟨h2, .inr ?_, h4⟩
  have e1 : Lib.byteCells (l ++ [c]) = Lib.byteCells l ++ [.int .u8 (c.toNat : Int)] := by simp [Lib.byteCells]
  rw [e1]; exact h3

theorem bld_keep {B b : Nat} {l : List UInt8} {w w' : World} (h : Bld B b l w) (hb : Below w.heap.size w w') : Bld B b l w' := by
  rcases h with ⟨h1, v, h2, h3, h4⟩ | ⟨h1, v, h2, h3, h4⟩
  · exact .inl ⟨h1, v, by rw [hb.block b (Array.getElem?_eq_some_iff.1 h2).1]; exact h2, owned_below h3 hb (Nat.le_refl _), h4⟩
  · exact .inr ⟨h1, v, by rw [hb.block b (Array.getElem?_eq_some_iff.1 h2).1]; exact h2, owned_below h3 hb (Nat.le_refl _), h4⟩
theorem bld_fresh (w : World) : Bld w.heap.size w.heap.size [] (w.alloc (.cells #[.pointer none, .slice none 0 0] 155)) :=
  .inl ⟨Nat.le_refl _, .slice none 0 0, heap_alloc_new w _, ⟨rfl, .inl ⟨rfl, rfl⟩⟩, by simp [Value.ownBlock]⟩

end Go.Proofs.YtfedgcdkagngnaaGreat

/- dump: sign, Map; the document's. -/
namespace Go.Proofs.YtfedgcdkagngnaaGreat
open Go.RowKit
set_option linter.unusedVariables false

/-- A block's sign. -/
def signB (h : Hd) : UInt8 :=
  if h.k = 2 then 35 else if h.k = 3 then 43 else if h.k = 1 then (if h.c < 26 then UInt8.ofNat (97 + h.c.toNat) else UInt8.ofNat (65 + (h.c.toNat - 26))) else 46
/-- Small blocks have a class. -/
def Hd.fine (h : Hd) : Prop := h.k = 1 → 0 ≤ h.c ∧ h.c < 32
def ByteOut (v : UInt8) (w : World) : Ending → World → Prop := fun e w' => e = .returned (.int .u8 (v.toNat : Int)) ∧ Below w.heap.size w w'
theorem byteOut {v : UInt8} {w w' : World} {x : Int} (h : x = (v.toNat : Int)) (hb : Below w.heap.size w w') : ByteOut v w (.returned (.int .u8 x)) w' := by rw [h]; exact ⟨rfl, hb⟩

set_option maxHeartbeats 2000000 in
set_option maxRecDepth 20000 in
theorem dsign_any {w : World} {A : AF} {n B : Nat} {m : Al} (h : AlAt w A n B m) (hB : B ≤ 1000) (b : Int) (hf : (hdGet m.bm.list b).fine) :
    Calls Tryz.prog 95 #[valloc A, .int .i64 b] w (ByteOut (signB (hdGet m.bm.list b)) w) := by
  have HA := Lib.hid h
  have c0 := h.c0
  have d0 := h.man.c0
  have HT := Lib.hid (h.man.tab.at (MF.notHot (MF.apart h.man.nd).t).1)
  have HL : Hid (m.bm.list.length ≤ 1000) := Lib.hid (by rw [h.man.tab.len]; exact hB)
  clear h
  go_enter Tryz.func95, Tryz.ntmps95
  go_wp2_with fail
  refine (tget_any HT.out b HL.out).mono ?_
  rintro e w1 ⟨rfl, hb1⟩
  have HP : Hid (∀ (x : Int) (w' : World), x = ((signB (hdGet m.bm.list b)).toNat : Int) → Below w.heap.size w w' → ByteOut (signB (hdGet m.bm.list b)) w (.returned (.int .u8 x)) w') := Lib.hid (fun x w' h1 h2 => byteOut h1 h2)
  generalize ByteOut (signB (hdGet m.bm.list b)) w = Post at *
  generalize hdGet m.bm.list b = hd at *
  obtain ⟨k, c, l⟩ := hd
  unfold Hd.val
  have hbx := below_alloc w1 (Obj.cells #[.int .i64 k, .int .i64 c, .int .i64 l] 139)
  have HB := Lib.hid (hb1.trans (hbx.mono hb1.size))
  have HS : Hid (signB ⟨k, c, l⟩ = if k = 2 then 35 else if k = 3 then 43 else if k = 1 then (if c < 26 then UInt8.ofNat (97 + c.toNat) else UInt8.ofNat (65 + (c.toNat - 26))) else 46) := Lib.hid rfl
  unfold Hd.fine at hf
  dsimp only at hf ⊢
  generalize signB ⟨k, c, l⟩ = s at *
  clear hb1 hbx c0 d0
  by_cases k2 : k = 2
  · have HV : Hid (s = 35) := Lib.hid (by rw [HS.out, if_pos k2])
    clear hf HS
    subst k2
    go_wp2_with fail
    exact HP.out _ _ (by rw [HV.out]; rfl) HB.out
  have k2' : ((k : Int) == 2) = false := by simpa using k2
  by_cases k3 : k = 3
  · have HV : Hid (s = 43) := Lib.hid (by rw [HS.out, if_neg k2, if_pos k3])
    clear hf HS k2
    subst k3
    go_wp2_with fail
    exact HP.out _ _ (by rw [HV.out]; rfl) HB.out
  have k3' : ((k : Int) == 3) = false := by simpa using k3
  by_cases k1 : k = 1
  · obtain ⟨hc0, hc1⟩ := hf k1
    by_cases hc : c < 26
    · have HV : Hid (s = UInt8.ofNat (97 + c.toNat)) := Lib.hid (by rw [HS.out, if_neg k2, if_neg k3, if_pos k1, if_pos hc])
      clear hf HS k2 k3
      subst k1
      go_wp2_with fail
      refine HP.out _ _ ?_ HB.out
      rw [HV.out, UInt8.toNat_ofNat']
      omega
    · have hc' : 26 ≤ c := by omega
      have HV : Hid (s = UInt8.ofNat (65 + (c.toNat - 26))) := Lib.hid (by rw [HS.out, if_neg k2, if_neg k3, if_pos k1, if_neg hc])
      clear hf HS k2 k3
      subst k1
      go_wp2_with fail
      refine HP.out _ _ ?_ HB.out
      rw [HV.out, UInt8.toNat_ofNat']
      omega
  · have k1' : ((k : Int) == 1) = false := by simpa using k1
    have HV : Hid (s = 46) := Lib.hid (by rw [HS.out, if_neg k2, if_neg k3, if_neg k1])
    clear hf HS
    go_wp2_with fail
    exact HP.out _ _ (by rw [HV.out]; rfl) HB.out

/-- Is a line's end behind a block? -/
def nlB (wd : Int) (b B : Nat) : Prop := 0 < wd ∧ (b : Int) % wd = 0 ∧ (b : Int) < (B : Int) - 1
instance (wd : Int) (b B : Nat) : Decidable (nlB wd b B) := by unfold nlB; infer_instance
/-- The map of so many blocks. -/
def mapTo (l : List Hd) (B : Nat) (wd : Int) : Nat → List UInt8
  | 0 => []
  | i + 1 => mapTo l B wd i ++ (signB (hdGet l ((i + 1 : Nat) : Int)) :: (if nlB wd (i + 1) B then [10] else []))
theorem mapTo_len (l : List Hd) (B : Nat) (wd : Int) (i : Nat) : (mapTo l B wd i).length ≤ 2 * i := by
  induction i with
  | zero => simp [mapTo]
  | succ i ih => simp only [mapTo, List.length_append, List.length_cons]; split <;> simp <;> omega

set_option maxHeartbeats 4000000 in
set_option maxRecDepth 20000 in
theorem dmap_any {w : World} {A : AF} {n B : Nat} {m : Al} (h : AlAt w A n B m) (hB1 : 1 ≤ B) (hB : B ≤ 1000) (wd : Int) (hf : ∀ b : Nat, (hdGet m.bm.list (b : Int)).fine) :
    Calls Tryz.prog 22 #[valloc A, .int .i64 wd] w (Gives (strV (mapTo m.bm.list B wd (B - 1))) w) := by
  have HP : Hid (∀ w', Below w.heap.size w w' → Gives (strV (mapTo m.bm.list B wd (B - 1))) w (.returned (strV (mapTo m.bm.list B wd (B - 1)))) w') := Lib.hid (fun w' h => ⟨rfl, h⟩)
  generalize Gives (strV (mapTo m.bm.list B wd (B - 1))) w = Post at *
  have HA := Lib.hid h
  have HF := Lib.hid hf
  have HB0 := Lib.hid (below_alloc w (.cells #[.pointer none, .slice none 0 0] 155))
  have HD0 := Lib.hid (bld_fresh w)
  clear h hf
  go_enter Tryz.func22, Tryz.ntmps22
  go_upto_region 2 with fail
  generalize w.alloc _ = w0 at *
  obtain ⟨q, hq⟩ : ∃ q, q = w.heap.size := ⟨_, rfl⟩
  rw [← hq] at HB0 HD0 ⊢
  have HQ := Lib.hid hq
  clear hq
  go_wp2_with fail
  go_loopw [6] (fun iv wr => ∃ b : Nat, 1 ≤ b ∧ b ≤ B ∧ iv = .int .i64 (b : Int) ∧ Hid (Bld q q (mapTo m.bm.list B wd (b - 1)) wr) ∧ Hid (Below q w wr)) (fun iv _ => B - (intOf iv).toNat)
  case atStart => exact ⟨1, Nat.le_refl _, hB1, rfl, HD0, HB0⟩
  case round =>
    clear HB0 HD0
    obtain ⟨b, hb1, hbB, rfl, HD, HBw⟩ := hrel
    have HAr := Lib.hid (HA.out.below (by rw [← HQ.out]; exact HBw.out))
    have c0 := HAr.out.c0
    have d0 := HAr.out.man.c0
    have HLen := Lib.hid (mapTo_len m.bm.list B wd (b - 1))
    have HStep : Hid (mapTo m.bm.list B wd b = mapTo m.bm.list B wd (b - 1) ++ (signB (hdGet m.bm.list (b : Int)) :: (if nlB wd b B then [10] else []))) := Lib.hid (by obtain ⟨c, rfl⟩ : ∃ c, b = c + 1 := ⟨b - 1, by omega⟩; rfl)
    have HQs : Hid (q ≤ wr.heap.size) := Lib.hid (by rw [HQ.out]; exact HBw.out.size)
    by_cases hlt : b < B
    · go_wp2_with fail
      refine (tlen_any HAr.out.man.tab).mono ?_
      rintro e w1 ⟨rfl, rfl⟩
      go_wp2_with fail
      refine (dsign_any HAr.out hB (b : Int) (HF.out b)).mono ?_
      rintro e w1 ⟨rfl, hb1⟩
      have HB1 := Lib.hid (HBw.out.trans (hb1.mono HQs.out))
      have HD1 := Lib.hid (bld_keep HD.out hb1)
      have HA1 := Lib.hid (HAr.out.below hb1)
      have HQ1 : Hid (q ≤ w1.heap.size) := Lib.hid (Nat.le_trans HQs.out hb1.size)
      clear hb1
      obtain ⟨T2, hT2⟩ : ∃ T2, T2 = mapTo m.bm.list B wd b := ⟨_, rfl⟩
      rw [← hT2] at HStep
      have HTe := Lib.hid hT2
      clear hT2
      generalize mapTo m.bm.list B wd (b - 1) = T at *
      generalize signB (hdGet m.bm.list (b : Int)) = s at *
      go_wp2_with fail
      refine (bbyte_any q q T s _ HD1.out (by have := HLen.out; omega) HQ1.out).mono ?_
      rintro e w2 ⟨rfl, hd2, hb2⟩
      have HB2 := Lib.hid (HB1.out.trans hb2)
      have HD2 := Lib.hid hd2
      have HA2 := Lib.hid (HA.out.below (by rw [← HQ.out]; exact HB2.out))
      have HQ2 : Hid (q ≤ w2.heap.size) := Lib.hid (by rw [HQ.out]; exact HB2.out.size)
      have c2 := HA2.out.c0
      have d2 := HA2.out.man.c0
      clear hd2 hb2 c0 d0 HA1 HD1 HB1 HQ1
      by_cases hw : 0 < wd
      · cases hm : ((b : Int) % wd == 0) with
        | true =>
          by_cases hl : (b : Int) < (B : Int) - 1
          · have HT2 : Hid (T2 = (T ++ [s]) ++ [10]) := Lib.hid (by rw [HStep.out, if_pos ⟨hw, by simpa using hm, hl⟩]; simp)
            clear HStep
            go_wp2_with fail
            refine (tlen_any HA2.out.man.tab).mono ?_
            rintro e w3 ⟨rfl, rfl⟩
            go_wp2_with fail
            refine (bbyte_any q q (T ++ [s]) 10 _ HD2.out (by have := HLen.out; simp; omega) HQ2.out).mono ?_
            rintro e w4 ⟨rfl, hd4, hb4⟩
            have HB4 := Lib.hid (HB2.out.trans hb4)
            have HD4 : Hid (Bld q q T2 w4) := Lib.hid (by rw [HT2.out]; exact hd4)
            clear hd4 hb4
            go_wp2_with fail
            go_roundw
            case rel => exact ⟨b + 1, by omega, by omega, vint (by omega), by rw [Nat.add_sub_cancel, ← HTe.out]; exact HD4, HB4⟩
            case measure => simp [intOf]; omega
          · have HT2 : Hid (Bld q q T2 w2) := Lib.hid (by rw [HStep.out, if_neg (fun h => hl h.2.2)]; exact HD2.out)
            clear HStep
            have hl' : (B : Int) - 1 ≤ (b : Int) := by omega
            go_wp2_with fail
            refine (tlen_any HA2.out.man.tab).mono ?_
            rintro e w3 ⟨rfl, rfl⟩
            go_wp2_with fail
            go_roundw
            case rel => exact ⟨b + 1, by omega, by omega, vint (by omega), by rw [Nat.add_sub_cancel, ← HTe.out]; exact HT2, HB2⟩
            case measure => simp [intOf]; omega
        | false =>
          have HT2 : Hid (Bld q q T2 w2) := Lib.hid (by rw [HStep.out, if_neg (fun h => by have := h.2.1; rw [this] at hm; cases hm)]; exact HD2.out)
          clear HStep
          go_wp2_with fail
          go_roundw
          case rel => exact ⟨b + 1, by omega, by omega, vint (by omega), by rw [Nat.add_sub_cancel, ← HTe.out]; exact HT2, HB2⟩
          case measure => simp [intOf]; omega
      · have HT2 : Hid (Bld q q T2 w2) := Lib.hid (by rw [HStep.out, if_neg (fun h => hw h.1)]; exact HD2.out)
        clear HStep
        have hw' : wd ≤ 0 := by omega
        go_wp2_with fail
        go_roundw
        case rel => exact ⟨b + 1, by omega, by omega, vint (by omega), by rw [Nat.add_sub_cancel, ← HTe.out]; exact HT2, HB2⟩
        case measure => simp [intOf]; omega
    · obtain rfl : b = B := by omega
      have hlt' : decide (b < b) = false := by simp
      clear HStep HLen
      generalize mapTo m.bm.list b wd (b - 1) = T at *
      go_wp2_with fail
      refine (tlen_any HAr.out.man.tab).mono ?_
      rintro e w1 ⟨rfl, rfl⟩
      go_wp2_with fail
      refine (bstring_any q q T _ HD.out HQs.out).mono ?_
      rintro e w4 ⟨rfl, hb4⟩
      have HB4 := Lib.hid (HBw.out.trans hb4)
      clear hb4
      go_wp2_with fail
      exact HP.out _ (by rw [← HQ.out]; exact HB4.out)

end Go.Proofs.YtfedgcdkagngnaaGreat

/- dump: Object. -/
namespace Go.Proofs.YtfedgcdkagngnaaGreat
open Go.RowKit
set_option linter.unusedVariables false
open Go.Lib (decDigits itoa nDigits)

theorem str2 (a b : List UInt8) : Value.string (bstr a ++ bstr b) = strV (a ++ b) := by rw [bstr_append]
theorem str3 (a b c : List UInt8) : Value.string (bstr a ++ (bstr b ++ bstr c)) = strV (a ++ (b ++ c)) := by rw [bstr_append, bstr_append]
/-- Texts, one behind the other. -/
def sumB (f : Nat → List UInt8) (n : Nat) : List UInt8 := (List.range n).flatMap f
theorem sumB_succ (f : Nat → List UInt8) (n : Nat) : sumB f (n + 1) = sumB f n ++ f n := by simp [sumB, List.range_succ]
theorem sumB_zero (f : Nat → List UInt8) : sumB f 0 = [] := rfl
theorem sumB_len {f : Nat → List UInt8} {k : Nat} (h : ∀ i, (f i).length ≤ k) : ∀ n, (sumB f n).length ≤ k * n
  | 0 => by simp [sumB]
  | n + 1 => by rw [sumB_succ, List.length_append]; have := sumB_len h n; have := h n; rw [Nat.mul_succ]; omega
theorem itoa_len {n : Nat} (h : n < 18446744073709551616) : (itoa (n : Int)).length ≤ 20 := by rw [itoa_pos]; exact dec_len20 h

def ptrT (S : Dev) (a : Int) (i : Nat) : List UInt8 := [32, 64] ++ itoa ((capP (peek S.cache (a + 1 + (i : Int))) : Nat) : Int)
def datT (S : Dev) (a p : Int) (i : Nat) : List UInt8 := [32] ++ digW 16 (peek S.cache (a + 1 + p + (i : Int))) 16
/-- The line of an object. -/
def objT (S : Dev) (a p d : Int) : List UInt8 := itoa a ++ [58] ++ sumB (ptrT S a) p.toNat ++ sumB (datT S a p) d.toNat
theorem ptrT_len (S : Dev) (a : Int) (i : Nat) : (ptrT S a i).length ≤ 22 := by
  unfold ptrT
  have := itoa_len (n := capP (peek S.cache (a + 1 + (i : Int)))) (by have := capP_le (peek S.cache (a + 1 + (i : Int))); omega)
  rw [List.length_append]; simp; omega
theorem datT_len (S : Dev) (a p : Int) (i : Nat) : (datT S a p i).length = 17 := by unfold datT; simp [digW_len]
/-- What dump.Object gives. -/
def objV (S : Dev) (L : List Hd) (x : Int) : Value := match placedN S L x with
  | some o => .tuple #[strV (objT S x o.p o.d), .int .i64 0]
  | none => .tuple #[strV [], .int .i64 22]

set_option maxHeartbeats 4000000 in
set_option maxRecDepth 20000 in
theorem dobject_any {w : World} {A : AF} {n B : Nat} {m : Al} (h : AlAt w A n B m) (hB : B ≤ 1000) (x : Int) (hx : In64 x) :
    Calls Tryz.prog 19 #[valloc A, .int .i64 x] w (Gives (objV m.bm.dev m.bm.list x) w) := by
  have HA := Lib.hid h
  have HIn := Lib.hid hx
  have HPl := Lib.hid (aplace_any h hB x)
  have HU := Lib.hid h.man.dev.u64C
  have HPo0 : Hid (placedN m.bm.dev m.bm.list x = none → ∀ w', Below w.heap.size w w' → Gives (objV m.bm.dev m.bm.list x) w (.returned (.tuple #[strV [], .int .i64 22])) w') := Lib.hid (fun e w' hb => by unfold objV; rw [e]; exact ⟨rfl, hb⟩)
  have HPo1 : Hid (∀ o, placedN m.bm.dev m.bm.list x = some o → ∀ w', Below w.heap.size w w' → Gives (objV m.bm.dev m.bm.list x) w (.returned (.tuple #[strV (objT m.bm.dev x o.p o.d), .int .i64 0])) w') := Lib.hid (fun o e w' hb => by unfold objV; rw [e]; exact ⟨rfl, hb⟩)
  generalize Gives (objV m.bm.dev m.bm.list x) w = Post at *
  clear h hx
  go_enter Tryz.func19, Tryz.ntmps19
  go_wp2_with fail
  refine HPl.out.mono ?_
  rintro e w1 ⟨⟨p, d, rfl, ho⟩, hb1⟩
  have HO := Lib.hid ho
  have HM := Lib.hid (((Mem.start w).later hb1).alloc #[.int .i64 p, .int .i64 d] 142)
  have HA1 := Lib.hid ((HA.out.below hb1).below (below_alloc w1 (.cells #[.int .i64 p, .int .i64 d] 142)))
  clear ho hb1 HPl
  go_upto_region 2 with fail
  generalize w1.alloc _ = w2 at *
  generalize w1.heap.size = g at *
  have c0 := HM.out.cell 0 0 rfl rfl
  have c1 := HM.out.cell 0 1 rfl rfl
  cases hp : placedN m.bm.dev m.bm.list x with
  | none =>
    have HE := Lib.hid (HPo0.out hp)
    clear hp
    go_wp2_with fail
    exact HE.out _ HM.out.below
  | some o =>
    have hoo := HO.out o hp
    subst hoo
    obtain ⟨hh, _, hx1, hx2⟩ := placed_head hp
    obtain ⟨_, s2, s3, s4, s5⟩ := placed_size hp
    have HE := Lib.hid (HPo1.out _ hp)
    dsimp only at s2 s3 s4 s5 HE
    obtain ⟨pn, rfl⟩ := Int.eq_ofNat_of_zero_le s2
    obtain ⟨dn, rfl⟩ := Int.eq_ofNat_of_zero_le s4
    have HPp : Hid (∀ k : Nat, k < pn → placeN m.bm.dev x (k : Int) false = ⟨x + (1 + (k : Int)), 0⟩) := Lib.hid (fun k hk => by
      unfold placeN
      rw [hh]
      dsimp only
      rw [if_neg (by simp), if_neg (by simp), if_pos (by omega)])
    have HPd : Hid (∀ k : Nat, k < dn → placeN m.bm.dev x (k : Int) true = ⟨x + (1 + (pn : Int) + (k : Int)), 0⟩) := Lib.hid (fun k hk => by
      unfold placeN
      rw [hh]
      dsimp only
      rw [if_neg (by simp), if_pos rfl, if_pos (by omega)])
    have HT : Hid (objT m.bm.dev x (pn : Int) (dn : Int) = itoa x ++ [58] ++ sumB (ptrT m.bm.dev x) pn ++ sumB (datT m.bm.dev x (pn : Int)) dn) := Lib.hid rfl
    rw [HT.out] at HE
    have HLx : Hid ((itoa x).length ≤ 20) := Lib.hid (by
      obtain ⟨y, rfl⟩ := Int.eq_ofNat_of_zero_le (show 0 ≤ x by omega)
      have := HIn.out.2
      exact itoa_len (by omega))
    clear hp hh HO HPo0 HPo1 HT
    have HNx := Lib.hid (fun w => dnumber_any x HIn.out w)
    generalize itoa x = T at *
    have hl : (bstr T).size ≤ 20 := by rw [bstr_size]; exact HLx.out
    go_wp2_with fail
    refine (HNx.out _).mono ?_
    rintro e w3 ⟨rfl, hb3⟩
    have HM3 := Lib.hid (HM.out.later hb3)
    have HA3 := Lib.hid (HA1.out.below hb3)
    have c0' := HM3.out.cell 0 0 rfl rfl
    clear hb3
    go_wp2_with fail
    have HPost : Hid (∀ w', Below w.heap.size w w' → Post (.returned (.tuple #[strV (T ++ [58] ++ sumB (ptrT m.bm.dev x) pn ++ sumB (datT m.bm.dev x (pn : Int)) dn), .int .i64 0])) w') := HE
    obtain ⟨E, hE⟩ : ∃ E : Ent, E = ⟨g, 142, [.int .i64 (pn : Int), .int .i64 (dn : Int)], true⟩ := ⟨_, rfl⟩
    have HE1 : Hid (Mem w w3 [E]) := Lib.hid (by rw [hE]; exact HM3.out)
    have HEE := Lib.hid hE
    clear hE HE HNx HA1 HM HM3 c0 c1 c0'
    go_loopw [8, 28] (fun sv iv wr => ∃ k : Nat, k ≤ pn ∧ sv = strV (T ++ [58] ++ sumB (ptrT m.bm.dev x) k) ∧ iv = .int .i64 (k : Int) ∧ Hid (Mem w wr [E]) ∧ Hid (AlAt wr A n B m)) (fun _ iv _ => pn - (intOf iv).toNat)
    case atStart => exact ⟨0, Nat.zero_le _, (by rw [sumB_zero, List.append_nil]; exact str2 T [58]), rfl, HE1, HA3⟩
    case round =>
      clear HE1 HA3
      obtain ⟨k, hk, rfl, rfl, HM4, HA4⟩ := hrel
      have HS4 : Hid ((T ++ [58] ++ sumB (ptrT m.bm.dev x) k).length ≤ 2000) := Lib.hid (by
        have h1 := sumB_len (ptrT_len m.bm.dev x) k
        have h2 := HLx.out
        rw [List.length_append, List.length_append, List.length_singleton]; omega)
      by_cases hlt : k < pn
      · have hlt' : (k : Int) < (pn : Int) := by omega
        have HPtr := Lib.hid (optrG_any HA4.out.man.dev x (k : Int))
        rw [HPp.out k hlt, if_pos rfl] at HPtr
        dsimp only at HPtr
        rw [show x + (1 + (k : Int)) = x + 1 + (k : Int) by omega] at HPtr
        have HSt : Hid (T ++ [58] ++ sumB (ptrT m.bm.dev x) (k + 1) = (T ++ [58] ++ sumB (ptrT m.bm.dev x) k) ++ ([32, 64] ++ itoa ((capP (peek m.bm.dev.cache (x + 1 + (k : Int))) : Nat) : Int))) := Lib.hid (by rw [sumB_succ]; simp [ptrT])
        have hcap := capP_le (peek m.bm.dev.cache (x + 1 + (k : Int)))
        generalize T ++ [58] ++ sumB (ptrT m.bm.dev x) k = T1 at *
        generalize capP (peek m.bm.dev.cache (x + 1 + (k : Int))) = y at *
        have HNy := Lib.hid (fun w => dnumber_any (y : Int) (by constructor <;> omega) w)
        have HLy : Hid ((itoa (y : Int)).length ≤ 20) := Lib.hid (itoa_len (by omega))
        generalize itoa (y : Int) = Ty at *
        have hl1 : (bstr T1).size ≤ 2000 := by rw [bstr_size]; exact HS4.out
        have hl2 : (bstr Ty).size ≤ 20 := by rw [bstr_size]; exact HLy.out
        go_wp2_with fail
        refine (adev_any HA4.out).mono ?_
        rintro e w5 ⟨rfl, rfl⟩
        go_wp2_with fail
        refine HPtr.out.mono ?_
        rintro e w5 ⟨rfl, hb5⟩
        have HM5 := Lib.hid (HM4.out.later hb5)
        have HA5 := Lib.hid (HA4.out.below hb5)
        clear hb5
        go_wp2_with fail
        refine (HNy.out _).mono ?_
        rintro e w6 ⟨rfl, hb6⟩
        have HM6 := Lib.hid (HM5.out.later hb6)
        have HA6 := Lib.hid (HA5.out.below hb6)
        clear hb6
        go_wp2_with fail
        refine ⟨⟨k + 1, by omega, ?_, vint (by omega), HM6, HA6⟩, by simp [intOf]; omega⟩
        rw [HSt.out]; exact str3 T1 [32, 64] Ty
      · obtain rfl : k = pn := by omega
        have hlt' : decide ((k : Int) < (k : Int)) = false := by simp
        have hE := HEE.out
        subst hE
        have d1 := HM4.out.cell 0 1 rfl rfl
        generalize T ++ [58] ++ sumB (ptrT m.bm.dev x) k = T1 at *
        go_wp2_with fail
        clear d1
        go_loopw [8, 47] (fun sv iv wr => ∃ j : Nat, j ≤ dn ∧ sv = strV (T1 ++ sumB (datT m.bm.dev x (k : Int)) j) ∧ iv = .int .i64 (j : Int) ∧ Hid (Below w.heap.size w wr) ∧ Hid (AlAt wr A n B m)) (fun _ iv _ => dn - (intOf iv).toNat)
        case atStart => exact ⟨0, Nat.zero_le _, (by rw [sumB_zero, List.append_nil]), rfl, Lib.hid HM4.out.below, HA4⟩
        case round =>
          clear HA4 HM4
          obtain ⟨j, hj, rfl, rfl, HB4, HA4⟩ := hrel
          have HS5 : Hid ((T1 ++ sumB (datT m.bm.dev x (k : Int)) j).length ≤ 300000) := Lib.hid (by
            have h1 := sumB_len (fun i => Nat.le_of_eq (datT_len m.bm.dev x (k : Int) i)) j
            have h2 := HS4.out
            rw [List.length_append]; omega)
          by_cases hlt : j < dn
          · have hlt' : (j : Int) < (dn : Int) := by omega
            have HDat := Lib.hid (odataG_any HA4.out.man.dev x (j : Int))
            rw [HPd.out j hlt, if_pos rfl] at HDat
            dsimp only at HDat
            rw [show x + (1 + (k : Int) + (j : Int)) = x + 1 + (k : Int) + (j : Int) by omega] at HDat
            have HSt : Hid (T1 ++ sumB (datT m.bm.dev x (k : Int)) (j + 1) = (T1 ++ sumB (datT m.bm.dev x (k : Int)) j) ++ ([32] ++ digW 16 (peek m.bm.dev.cache (x + 1 + (k : Int) + (j : Int))) 16)) := Lib.hid (by rw [sumB_succ]; simp [datT])
            have hy := peek_lt HU.out (x + 1 + (k : Int) + (j : Int))
            generalize T1 ++ sumB (datT m.bm.dev x (k : Int)) j = T2 at *
            generalize peek m.bm.dev.cache (x + 1 + (k : Int) + (j : Int)) = y at *
            have HNy := Lib.hid (fun w => dhex_any y hy w)
            have HLy : Hid ((digW 16 y 16).length = 16) := Lib.hid (digW_len 16 y 16)
            generalize digW 16 y 16 = Ty at *
            have hl1 : (bstr T2).size ≤ 300000 := by rw [bstr_size]; exact HS5.out
            have hl2 : (bstr Ty).size ≤ 16 := by rw [bstr_size, HLy.out]; exact Nat.le_refl _
            go_wp2_with fail
            refine (adev_any HA4.out).mono ?_
            rintro e w5 ⟨rfl, rfl⟩
            go_wp2_with fail
            refine HDat.out.mono ?_
            rintro e w5 ⟨rfl, hb5⟩
            have HB5 := Lib.hid (HB4.out.trans (hb5.mono HB4.out.size))
            have HA5 := Lib.hid (HA4.out.below hb5)
            clear hb5
            go_wp2_with fail
            refine (HNy.out _).mono ?_
            rintro e w6 ⟨rfl, hb6⟩
            have HB6 := Lib.hid (HB5.out.trans (hb6.mono HB5.out.size))
            have HA6 := Lib.hid (HA5.out.below hb6)
            clear hb6
            go_wp2_with fail
            refine ⟨⟨j + 1, by omega, ?_, vint (by omega), HB6, HA6⟩, by simp [intOf]; omega⟩
            rw [HSt.out]; exact str3 T2 [32] Ty
          · obtain rfl : j = dn := by omega
            have hlt' : decide ((j : Int) < (j : Int)) = false := by simp
            go_wp2_with fail
            exact HPost.out _ HB4.out

end Go.Proofs.YtfedgcdkagngnaaGreat

/- ref33: datas, Object. -/
namespace Go.Proofs.YtfedgcdkagngnaaGreat
open Go.RowKit
set_option linter.unusedVariables false
open Go.Lib (decDigits itoa nDigits)

theorem str3l (a b c : List UInt8) : Value.string (bstr a ++ bstr b ++ bstr c) = strV (a ++ b ++ c) := by rw [bstr_append, bstr_append]
theorem words_datT {S : Dev} {a : Int} {p d n : Nat} (hn : n = 1 + p + d) {i : Nat} (hi : i < d) : (wordsAt S.cache a n)[1 + p + i]? = some (peek S.cache (a + 1 + (p : Int) + (i : Int))) := by
  unfold wordsAt
  rw [List.getElem?_map, List.getElem?_range (by omega)]
  show some (peek S.cache (a + ((1 + p + i : Nat) : Int))) = _
  rw [show a + ((1 + p + i : Nat) : Int) = a + 1 + (p : Int) + (i : Int) by push_cast; omega]

set_option maxHeartbeats 4000000 in
set_option maxRecDepth 20000 in
theorem rdatas_any {w : World} {v : Value} {S : Dev} {m : Nat} (hm : S.dirty.length = m) (h : RAt w v m S.ref) {N : Nat} (hf : S.fit N) (a : Int) (p d : Nat) (hh : headN S a = ⟨p, d, 0⟩) :
    Calls Tryz.prog 92 #[v, .int .i64 a] w (Gives (strV (sumB (datT S a p) d)) w) := by
  have hco := headN_code S a
  rw [hh] at hco
  have hs0 : objSize (p : Int) (d : Int) ≠ 0 := by
    rcases hco with hco | hco
    · exact hco.2.2.2.1
    · injection hco with _ _ h3; cases h3
  have hsz := objSize_is hs0
  obtain ⟨n, hn⟩ : ∃ n, n = objSize (p : Int) (d : Int) := ⟨_, rfl⟩
  rw [← hn] at hsz
  have hnn : n = 1 + p + d := by omega
  have hbnd := obj_small hs0
  have HHead := Lib.hid (fun w' (h : RAt w' v m S.ref) => rhead15_any hm h hf a)
  have HWords := Lib.hid (fun w' (h : RAt w' v m S.ref) => rwords15_any hm h hf a)
  rw [hh] at HHead HWords
  rw [show headV (⟨(p : Int), (d : Int), 0⟩ : Odec) = .tuple #[vob p d, .bool true] from rfl] at HHead
  dsimp only at HWords
  rw [if_pos rfl, ← hn] at HWords
  have HWd : Hid (∀ i, i < d → (wordsAt S.cache a n)[1 + p + i]? = some (peek S.cache (a + 1 + (p : Int) + (i : Int)))) := Lib.hid (fun i hi => words_datT hnn hi)
  have HU := Lib.hid hf.wf.u64C
  have HPo : Hid (∀ w', Below w.heap.size w w' → Gives (strV (sumB (datT S a p) d)) w (.returned (strV (sumB (datT S a p) d))) w') := Lib.hid (fun w' h => ⟨rfl, h⟩)
  generalize Gives (strV (sumB (datT S a p) d)) w = Post at *
  obtain ⟨D, rfl⟩ := h.agg
  obtain ⟨hD8, hD1⟩ := h.arr
  have HM := Lib.hid (Mem.one w D 34)
  have HR0 := Lib.hid (h.below HM.out.below (Nat.le_refl _))
  have HNn := Lib.hid hnn
  clear h hf hm hh hco hs0 hn hnn hsz
  go_enter Tryz.func92, Tryz.ntmps92
  go_upto_region 1 with fail
  generalize w.alloc _ = w0 at *
  obtain ⟨q, hq⟩ : ∃ q, q = w.heap.size := ⟨_, rfl⟩
  rw [← hq] at HM ⊢
  clear hq
  go_wp2_with (refine wpList_load_box aggRd HM.out 0 rfl hD8 rfl rfl rfl ?_)
  refine (HHead.out _ HR0.out).mono ?_
  rintro e w1 ⟨rfl, hb1⟩
  have HM1 := Lib.hid ((HM.out.later hb1).alloc #[.int .i64 (p : Int), .int .i64 (d : Int)] 55)
  have HR1 := Lib.hid ((HR0.out.below hb1 (Nat.le_refl _)).below (below_alloc w1 (.cells #[.int .i64 (p : Int), .int .i64 (d : Int)] 55)) (Nat.le_refl _))
  clear hb1
  go_upto_region 2 with fail
  generalize w1.alloc _ = w2 at *
  generalize w1.heap.size = g at *
  have c0 := HM1.out.cell 1 0 rfl rfl
  go_wp2_with (refine wpList_load_box aggRd HM1.out 0 rfl hD8 rfl rfl rfl ?_)
  refine (HWords.out _ HR1.out).mono ?_
  rintro e w3 ⟨v3, rfl, ho3, hb3⟩
  obtain ⟨a3, c3, rfl, _, _⟩ := owned_form ho3
  have HC3 := Lib.hid (Cells.owned ho3)
  have HM3 := Lib.hid (HM1.out.later hb3)
  have d0 := HM3.out.cell 1 0 rfl rfl
  clear hb3 ho3 c0
  go_wp2_with fail
  clear d0
  go_loopw [8, 9] (fun sv iv wr => ∃ i : Nat, i ≤ d ∧ sv = strV (sumB (datT S a p) i) ∧ iv = .int .i64 ((1 + p + i : Nat) : Int) ∧ Hid (Below w3.heap.size w3 wr)) (fun _ iv _ => n - (intOf iv).toNat)
  case atStart => exact ⟨0, Nat.zero_le _, rfl, vint (by push_cast; omega), Lib.hid (Below.refl _ _)⟩
  case round =>
    obtain ⟨i, hi, rfl, rfl, HB⟩ := hrel
    have hnn := HNn.out
    have HS5 : Hid ((sumB (datT S a (p : Int)) i).length ≤ 300000) := Lib.hid (by
      have h1 := sumB_len (fun i => Nat.le_of_eq (datT_len S a (p : Int) i)) i
      omega)
    by_cases hlt : i < d
    · have hlt' : ((1 + p + i : Nat) : Int) < (n : Int) := by omega
      have hx := HWd.out i hlt
      obtain ⟨b3, o3, rfl, hbx, hcx⟩ := HC3.out.at (i := 1 + p + i) (by rw [List.length_map]; exact (List.getElem?_eq_some_iff.1 hx).1)
      have hc := hcx (1 + p + i) (vu64 (peek S.cache (a + 1 + (p : Int) + (i : Int)))) (by rw [List.getElem?_map, hx]; rfl)
      have hcw := HB.out.cell (p := ⟨b3, o3 + (1 + p + i), none⟩) hbx
      rw [hc] at hcw
      have HSt : Hid (sumB (datT S a (p : Int)) (i + 1) = sumB (datT S a (p : Int)) i ++ [32] ++ digW 16 (peek S.cache (a + 1 + (p : Int) + (i : Int))) 16) := Lib.hid (by rw [sumB_succ]; simp [datT])
      have hy := peek_lt HU.out (a + 1 + (p : Int) + (i : Int))
      generalize sumB (datT S a (p : Int)) i = T2 at *
      generalize peek S.cache (a + 1 + (p : Int) + (i : Int)) = y at *
      have HNy := Lib.hid (fun w => rhex_any y hy w)
      have HLy : Hid ((digW 16 y 16).length = 16) := Lib.hid (digW_len 16 y 16)
      generalize digW 16 y 16 = Ty at *
      have hl1 : (bstr T2).size ≤ 300000 := by rw [bstr_size]; exact HS5.out
      have hl2 : (bstr Ty).size ≤ 16 := by rw [bstr_size, HLy.out]; exact Nat.le_refl _
      clear hx hc hcx hbx hnn
      generalize hj : 1 + p + i = j at *
      have HJ := Lib.hid hj
      clear hj
      go_wp2_with fail
      refine (HNy.out _).mono ?_
      rintro e w6 ⟨rfl, hb6⟩
      have HB6 := Lib.hid (HB.out.trans (hb6.mono HB.out.size))
      clear hb6
      have hjj := HJ.out
      go_wp2_with fail
      refine ⟨⟨i + 1, by omega, ?_, vint (by omega), HB6⟩, by simp [intOf]; omega⟩
      rw [HSt.out]; exact str3l T2 [32] Ty
    · obtain rfl : i = d := by omega
      generalize hj : 1 + p + i = j at *
      have hlt' : decide (j < n) = false := by simp; omega
      clear hj hnn
      go_wp2_with fail
      exact HPo.out _ (HM3.out.later HB.out).below

set_option maxHeartbeats 4000000 in
set_option maxRecDepth 20000 in
theorem robject_any {w : World} {v : Value} {S : Dev} {m : Nat} (hm : S.dirty.length = m) (h : RAt w v m S.ref) {N : Nat} (hf : S.fit N) (a : Int) (ha : In64 a) (p d : Nat) (hh : headN S a = ⟨p, d, 0⟩) :
    Calls Tryz.prog 21 #[v, .int .i64 a] w (Gives (strV (objT S a p d)) w) := by
  have hco := headN_code S a
  rw [hh] at hco
  have hs0 : objSize (p : Int) (d : Int) ≠ 0 ∧ 0 ≤ a := by
    rcases hco with hco | hco
    · exact ⟨hco.2.2.2.1, hco.2.1⟩
    · injection hco with _ _ h3; cases h3
  have hbnd := obj_small hs0.1
  have HPtrs := Lib.hid (fun w' (h : RAt w' v m S.ref) => rptrs15_any hm h hf a)
  have HDatas := Lib.hid (fun w' (h : RAt w' v m S.ref) => rdatas_any hm h hf a p d hh)
  have HNx := Lib.hid (fun w => rnumber_any a ha w)
  have HLx : Hid ((itoa a).length ≤ 20) := Lib.hid (by
    obtain ⟨y, rfl⟩ := Int.eq_ofNat_of_zero_le hs0.2
    have := ha.2
    exact itoa_len (by omega))
  rw [hh] at HPtrs
  dsimp only at HPtrs
  rw [if_pos rfl, Int.toNat_natCast] at HPtrs
  have HT : Hid (objT S a (p : Int) (d : Int) = itoa a ++ [58] ++ sumB (ptrT S a) p ++ sumB (datT S a (p : Int)) d) := Lib.hid rfl
  have HPo : Hid (∀ w', Below w.heap.size w w' → Gives (strV (objT S a p d)) w (.returned (strV (objT S a p d))) w') := Lib.hid (fun w' h => ⟨rfl, h⟩)
  generalize Gives (strV (objT S a p d)) w = Post at *
  rw [HT.out] at HPo
  obtain ⟨D, rfl⟩ := h.agg
  obtain ⟨hD8, hD1⟩ := h.arr
  have HM := Lib.hid (Mem.one w D 34)
  have HR0 := Lib.hid (h.below HM.out.below (Nat.le_refl _))
  clear h hf hm hh hco hs0 HT
  generalize itoa a = T at *
  have hl : (bstr T).size ≤ 20 := by rw [bstr_size]; exact HLx.out
  go_enter Tryz.func21, Tryz.ntmps21
  go_upto_region 1 with fail
  generalize w.alloc _ = w0 at *
  obtain ⟨q, hq⟩ : ∃ q, q = w.heap.size := ⟨_, rfl⟩
  rw [← hq] at HM ⊢
  clear hq
  go_wp2_with fail
  refine (HNx.out _).mono ?_
  rintro e w1 ⟨rfl, hb1⟩
  have HM1 := Lib.hid (HM.out.later hb1)
  have HR1 := Lib.hid (HR0.out.below hb1 (Nat.le_refl _))
  clear hb1
  go_wp2_with (refine wpList_load_box aggRd HM1.out 0 rfl hD8 rfl rfl rfl ?_)
  refine (HPtrs.out _ HR1.out).mono ?_
  rintro e w3 ⟨v3, rfl, ho3, hb3⟩
  obtain ⟨a3, c3, rfl, _, _⟩ := owned_form ho3
  have HC3 := Lib.hid (Cells.owned ho3)
  have HM3 := Lib.hid (HM1.out.later hb3)
  have HR3 := Lib.hid (HR1.out.below hb3 (Nat.le_refl _))
  clear hb3 ho3
  go_wp2_with fail
  go_loopw [5, 7] (fun sv iv wr => ∃ i : Nat, i ≤ p ∧ sv = strV (T ++ [58] ++ sumB (ptrT S a) i) ∧ iv = .int .i64 (i : Int) ∧ Hid (Below w3.heap.size w3 wr)) (fun _ iv _ => p - (intOf iv).toNat)
  case atStart => exact ⟨0, Nat.zero_le _, (by rw [sumB_zero, List.append_nil]; exact str2 T [58]), rfl, Lib.hid (Below.refl _ _)⟩
  case round =>
    obtain ⟨i, hi, rfl, rfl, HB⟩ := hrel
    have HS5 : Hid ((T ++ [58] ++ sumB (ptrT S a) i).length ≤ 2000) := Lib.hid (by
      have h1 := sumB_len (ptrT_len S a) i
      have h2 := HLx.out
      rw [List.length_append, List.length_append, List.length_singleton]; omega)
    by_cases hlt : i < p
    · have hlt' : (i : Int) < (p : Int) := by omega
      have hx : (ptrL S a p)[i]? = some (capP (peek S.cache (a + 1 + (i : Int)))) := by unfold ptrL; rw [List.getElem?_map, List.getElem?_range hlt]; rfl
      obtain ⟨b3, o3, rfl, hbx, hcx⟩ := HC3.out.at (i := i) (by rw [List.length_map]; exact (List.getElem?_eq_some_iff.1 hx).1)
      have hc := hcx i (vi (capP (peek S.cache (a + 1 + (i : Int))))) (by rw [List.getElem?_map, hx]; rfl)
      have hcw := HB.out.cell (p := ⟨b3, o3 + i, none⟩) hbx
      rw [hc] at hcw
      have HSt : Hid (T ++ [58] ++ sumB (ptrT S a) (i + 1) = T ++ [58] ++ sumB (ptrT S a) i ++ [32, 64] ++ itoa ((capP (peek S.cache (a + 1 + (i : Int))) : Nat) : Int)) := Lib.hid (by rw [sumB_succ]; simp [ptrT])
      have hcap := capP_le (peek S.cache (a + 1 + (i : Int)))
      generalize T ++ [58] ++ sumB (ptrT S a) i = T2 at *
      generalize capP (peek S.cache (a + 1 + (i : Int))) = y at *
      have HNy := Lib.hid (fun w => rnumber_any (y : Int) (by constructor <;> omega) w)
      have HLy : Hid ((itoa (y : Int)).length ≤ 20) := Lib.hid (itoa_len (by omega))
      generalize itoa (y : Int) = Ty at *
      have hl1 : (bstr T2).size ≤ 2000 := by rw [bstr_size]; exact HS5.out
      have hl2 : (bstr Ty).size ≤ 20 := by rw [bstr_size]; exact HLy.out
      clear hx hc hcx hbx
      go_wp2_with fail
      refine (HNy.out _).mono ?_
      rintro e w6 ⟨rfl, hb6⟩
      have HB6 := Lib.hid (HB.out.trans (hb6.mono HB.out.size))
      clear hb6
      go_wp2_with fail
      refine ⟨⟨i + 1, by omega, ?_, vint (by omega), HB6⟩, by simp [intOf]; omega⟩
      rw [HSt.out]; exact str3l T2 [32, 64] Ty
    · obtain rfl : i = p := by omega
      have hlt' : decide ((i : Int) < (i : Int)) = false := by simp
      generalize T ++ [58] ++ sumB (ptrT S a) i = T2 at *
      have HM4 := Lib.hid (HM3.out.later HB.out)
      have HR4 := Lib.hid (HR3.out.below HB.out (Nat.le_refl _))
      have HLd : Hid ((sumB (datT S a (i : Int)) d).length ≤ 300000) := Lib.hid (by
        have h1 := sumB_len (fun j => Nat.le_of_eq (datT_len S a (i : Int) j)) d
        omega)
      generalize sumB (datT S a (i : Int)) d = Td at *
      have hl1 : (bstr T2).size ≤ 2000 := by rw [bstr_size]; exact HS5.out
      have hl2 : (bstr Td).size ≤ 300000 := by rw [bstr_size]; exact HLd.out
      go_wp2_with (refine wpList_load_box aggRd HM4.out 0 rfl hD8 rfl rfl rfl ?_)
      refine (HDatas.out _ HR4.out).mono ?_
      rintro e w6 ⟨rfl, hb6⟩
      have HM6 := Lib.hid (HM4.out.later hb6)
      clear hb6
      go_wp2_with fail
      have := HPo.out _ HM6.out.below
      rw [← str2] at this
      exact this
end Go.Proofs.YtfedgcdkagngnaaGreat

/- dump: Blocks: the iterator: a line for each block. -/
namespace Go.Proofs.YtfedgcdkagngnaaGreat
open Go.RowKit Go.Shelf
set_option linter.unusedVariables false
open Go.Lib (itoa)

attribute [local go_sem] Oper.semAt_some

/-- What stands in a block's line behind its number. -/
def blkT (h : Hd) : List UInt8 := if h.k = 1 then [115, 109, 97, 108, 108, 32] ++ itoa ((clsWords h.c : Nat) : Int) else if h.k = 2 then [108, 97, 114, 103, 101, 32] ++ itoa h.l else if h.k = 3 then [99, 111, 110, 116, 32] ++ itoa h.l else [102, 114, 101, 101]
/-- A block's line. -/
def blkLn (L : List Hd) (b : Nat) : List UInt8 := itoa (b : Int) ++ [32] ++ blkT (hdGet L (b : Int))
def blkTo (L : List Hd) (k : Nat) : List (List UInt8) := (List.range k).map (fun i => blkLn L (i + 1))
theorem blkTo_succ (L : List Hd) (k : Nat) : blkTo L (k + 1) = blkTo L k ++ [blkLn L (k + 1)] := by simp [blkTo, List.range_succ]
theorem blkTo_len (L : List Hd) (k : Nat) : (blkTo L k).length = k := by simp [blkTo]
theorem blkTo_pre {L : List Hd} {j k : Nat} (h : j ≤ k) : blkTo L j <+: blkTo L k := by
  obtain ⟨d, rfl⟩ := Nat.le.dest h
  unfold blkTo
  rw [List.range_add, List.map_append]
  exact List.prefix_append _ _
/-- Such a header's numbers are small. -/
def Hd.low (h : Hd) : Prop := 0 ≤ h.l ∧ h.l ≤ 255

theorem blkT_len {h : Hd} (hl : h.low) : (blkT h).length ≤ 26 := by
  have h1 := clsWords_le h.c
  have h2 := itoa_len (n := clsWords h.c) (by omega)
  obtain ⟨l, hl'⟩ := Int.eq_ofNat_of_zero_le hl.1
  have h3 := itoa_len (n := l) (by have := hl.2; omega)
  unfold blkT
  rw [hl']
  split
  · rw [List.length_append]; simp; omega
  · split
    · rw [List.length_append]; simp; omega
    · split
      · rw [List.length_append]; simp; omega
      · simp
theorem blkLn_len {L : List Hd} {b : Nat} (hb : b ≤ 100000) (hl : (hdGet L (b : Int)).low) : (blkLn L b).length ≤ 300000 := by
  have h1 := itoa_len (n := b) (by omega)
  have h2 := blkT_len hl
  unfold blkLn
  rw [List.length_append, List.length_append]
  simp; omega

theorem abides_below {β : Type} {B : Nat} {J : β → World → Prop} {s : β} {W W' : World} (h : AbidesFrom B J) (hs : J s W) (hb : Below W.heap.size W W') : J s W' :=
  h s W W' none hs ⟨hb.os, hb.tape, hb.output, hb.size, fun k hk _ => hb.block k hk⟩ (fun r e => by cases e)

set_option maxRecDepth 100000 in
set_option maxHeartbeats 4000000 in
theorem dblocks1_in {A : AF} {n B : Nat} {m : Al} (k : Nat) (hk : 1 ≤ k) (hB1 : 1 ≤ B) (hB : B ≤ 1000) (hlo : ∀ b : Nat, (hdGet m.bm.list (b : Int)).low) (lp Bn n₀ : Nat) (J Jx : List (List UInt8) → World → Prop)
    (hAb : ∀ s W W', J s W → Below W.heap.size W W' → J s W')
    (hY : ∀ pre (x : List UInt8) W, x.length ≤ 300000 → J pre W → pre.length < B - 1 → YieldAt Fence.wide (k - 1) Tryz.prog lp #[strV x] W fun e W' =>
      (e = .returned (.bool true) ∧ J (pre ++ [x]) W' ∧ KpB n₀ Bn W W') ∨ (e = .returned (.bool false) ∧ Jx (pre ++ [x]) W'))
    (W : World) (hBn : Boxed W Bn 24 (valloc A)) (hA : AlAt W A n B m) (hX : ∀ z ∈ A.list, z < n₀) (h0 : J [] W) :
    CallsIn Fence.wide k Tryz.prog 128 #[.func (.yield lp) #[] #[], .pointer (some ⟨Bn, 0, none⟩)] W fun e W' => (∃ v, e = .returned v) ∧
      ((∃ ys, ys = blkTo m.bm.list (B - 1) ∧ J ys W') ∨ (∃ pre, pre <+: blkTo m.bm.list (B - 1) ∧ Jx pre W')) := by
  have HA := Lib.hid hA
  refine callsIn_of_wp Tryz.func128 rfl trivial ?_ rfl
  simp only [Tryz.ntmps128, List.size_toArray, List.length_cons, List.length_nil, Nat.reduceAdd, Nat.reduceSub, Array.replicate_succ, Array.replicate_zero, List.push_toArray, List.append_toArray, List.nil_append, List.cons_append]
  clear hA
  gi_wp2
  gi_loopw [3] (fun bv wr => ∃ b : Nat, b < B ∧ bv = .int .i64 ((b + 1 : Nat) : Int) ∧ Hid (AlAt wr A n B m) ∧ Boxed wr Bn 24 (valloc A) ∧ J (blkTo m.bm.list b) wr) (fun bv _ => B - (intOf bv).toNat)
  case atStart => exact ⟨0, by omega, rfl, HA, hBn, h0⟩
  case round =>
    clear hBn h0 HA
    obtain ⟨b, hb, rfl, HA, hBn, hJ⟩ := hrel
    have hc := hBn.cell
    have c0 := HA.out.c0
    have d0 := HA.out.man.c0
    have HLn := Lib.hid (tlen_any HA.out.man.tab)
    by_cases hlt : b + 1 < B
    · have hlt' : ((b + 1 : Nat) : Int) < (B : Int) := by omega
      have HNb := Lib.hid (fun w => dnumber_any ((b + 1 : Nat) : Int) (by constructor <;> omega) w)
      have HLb : Hid ((itoa ((b + 1 : Nat) : Int)).length ≤ 20) := Lib.hid (itoa_len (by omega))
      have HLi : Hid (blkLn m.bm.list (b + 1) = itoa ((b + 1 : Nat) : Int) ++ [32] ++ blkT (hdGet m.bm.list ((b + 1 : Nat) : Int))) := Lib.hid rfl
      have HLn1 := Lib.hid (blkLn_len (b := b + 1) (by omega) (hlo (b + 1)))
      generalize itoa ((b + 1 : Nat) : Int) = T at *
      have hl1 : (bstr T).size ≤ 20 := by rw [bstr_size]; exact HLb.out
      have HTg := Lib.hid (fun w' (h : AlAt w' A n B m) => tget_any (h.man.tab.at (MF.notHot (MF.apart h.man.nd).t).1) ((b + 1 : Nat) : Int) (by rw [h.man.tab.len]; exact hB))
      have HLo := Lib.hid (hlo (b + 1))
      generalize hdGet m.bm.list ((b + 1 : Nat) : Int) = hd at *
      obtain ⟨kk, cc, ll⟩ := hd
      unfold Hd.val at HTg
      unfold Hd.low at HLo
      dsimp only at HTg HLo
      by_cases h1 : kk = 1
      · subst h1
        have hcw := clsWords_le cc
        have HCw := Lib.hid (fun w => cwords_any cc w)
        have HN2 := Lib.hid (fun w => dnumber_any ((clsWords cc : Nat) : Int) (by constructor <;> omega) w)
        have HL2 : Hid ((itoa ((clsWords cc : Nat) : Int)).length ≤ 20) := Lib.hid (itoa_len (by omega))
        have HX : Hid (strV (blkLn m.bm.list (b + 1)) = Value.string (bstr T ++ { data := #[32] } ++ ({ data := #[115, 109, 97, 108, 108, 32] } ++ bstr (itoa ((clsWords cc : Nat) : Int))))) := Lib.hid (by rw [HLi.out, show blkT ⟨1, cc, ll⟩ = [115, 109, 97, 108, 108, 32] ++ itoa ((clsWords cc : Nat) : Int) from rfl, show (strV (T ++ [32] ++ _)) = Value.string (bstr (T ++ [32] ++ _)) from rfl, ← bstr_append, ← bstr_append, ← bstr_append]; rfl)
        generalize itoa ((clsWords cc : Nat) : Int) = T2 at *
        have hl2 : (bstr T2).size ≤ 20 := by rw [bstr_size]; exact HL2.out
        generalize clsWords cc = cw at *
        gi_wp2_with (first
          | (refine ⟨trivial, ?_⟩; gi_at_call 93; refine (callsIn_wide.2 HLn.out).mono ?_; rintro e w1 ⟨rfl, rfl⟩)
          | (refine ⟨trivial, ?_⟩; gi_at_call 82; refine (callsIn_wide.2 (HNb.out _)).mono ?_; rintro e w2 ⟨rfl, hb2⟩; have HA2 := Lib.hid (HA.out.below hb2); have HJ2 := Lib.hid (hAb _ _ _ hJ hb2); have hBn2 : Boxed w2 Bn 24 (valloc A) := (hb2.block _ hBn.lt).trans hBn; have cc2 := hBn2.cell; have c2 := HA2.out.c0; have d2 := HA2.out.man.c0; have HTg2 := Lib.hid (HTg.out _ HA2.out); clear hb2))
        gi_wp2_with (first
          | (refine ⟨trivial, ?_⟩; gi_at_call 129; refine (callsIn_wide.2 HTg2.out).mono ?_; rintro e w3 ⟨rfl, hb3⟩; have hb3a := below_alloc w3 (.cells #[.int .i64 1, .int .i64 cc, .int .i64 ll] 139); have HA3 := Lib.hid ((HA2.out.below hb3).below hb3a); have HJ3 := Lib.hid (hAb _ _ _ (hAb _ _ _ HJ2.out hb3) hb3a); have hBn3 : Boxed (w3.alloc (.cells #[.int .i64 1, .int .i64 cc, .int .i64 ll] 139)) Bn 24 (valloc A) := (hb3a.block _ (Nat.lt_of_lt_of_le hBn2.lt hb3.size)).trans ((hb3.block _ hBn2.lt).trans hBn2); clear hb3 hb3a)
          | (refine ⟨trivial, ?_⟩; gi_at_call 130; refine (callsIn_wide.2 (HCw.out _)).mono ?_; rintro e w4 ⟨rfl, hb4⟩; have HA4 := Lib.hid (HA3.out.below hb4); have HJ4 := Lib.hid (hAb _ _ _ HJ3.out hb4); have hBn4 : Boxed w4 Bn 24 (valloc A) := (hb4.block _ hBn3.lt).trans hBn3; clear hb4))
        gi_wp2_with (first
          | (refine ⟨trivial, ?_⟩; gi_at_call 82; refine (callsIn_wide.2 (HN2.out _)).mono ?_; rintro e w5 ⟨rfl, hb5⟩; have HA5 := Lib.hid (HA4.out.below hb5); have HJ5 := Lib.hid (hAb _ _ _ HJ4.out hb5); have hBn5 : Boxed w5 Bn 24 (valloc A) := (hb5.block _ hBn4.lt).trans hBn4; obtain ⟨fn, tmps, assign, body, hy, hR⟩ := hY (blkTo m.bm.list b) (blkLn m.bm.list (b + 1)) _ HLn1.out HJ5.out (by rw [blkTo_len]; omega); rw [HX.out] at hy; clear hb5))
        refine hR.mono ?_
        rintro e W6 (⟨rfl, hJ6, hk6⟩ | ⟨rfl, hJx6⟩)
        · have HA6 := Lib.hid (HA5.out.keep (fun z hz => hk6.1.block z (hX z hz)))
          have hBn6 : Boxed W6 Bn 24 (valloc A) := hk6.2.trans hBn5
          rw [← blkTo_succ] at hJ6
          clear hk6 hy hR
          gi_wp2
          go_roundw
          case rel => exact ⟨b + 1, by omega, vint (by omega), HA6, hBn6, hJ6⟩
          case measure => simp [intOf]; omega
        · rw [← blkTo_succ] at hJx6
          gi_wp2
          refine bodyPost_ret (results_none rfl _ _ _) rfl ?_
          exact ⟨⟨_, rfl⟩, .inr ⟨_, blkTo_pre (by omega), hJx6⟩⟩
      have h1' : (kk == 1) = false := by simpa using h1
      by_cases h2 : kk = 2
      · subst h2
        obtain ⟨lN, rfl⟩ := Int.eq_ofNat_of_zero_le HLo.out.1
        have hll := HLo.out.2
        have HN2 := Lib.hid (fun w => dnumber_any (lN : Int) (by constructor <;> omega) w)
        have HL2 : Hid ((itoa (lN : Int)).length ≤ 20) := Lib.hid (itoa_len (by omega))
        have HX : Hid (strV (blkLn m.bm.list (b + 1)) = Value.string (bstr T ++ { data := #[32] } ++ ({ data := #[108, 97, 114, 103, 101, 32] } ++ bstr (itoa (lN : Int))))) := Lib.hid (by rw [HLi.out, show blkT ⟨2, cc, (lN : Int)⟩ = [108, 97, 114, 103, 101, 32] ++ itoa (lN : Int) from rfl, show (strV (T ++ [32] ++ _)) = Value.string (bstr (T ++ [32] ++ _)) from rfl, ← bstr_append, ← bstr_append, ← bstr_append]; rfl)
        generalize itoa (lN : Int) = T2 at *
        have hl2 : (bstr T2).size ≤ 20 := by rw [bstr_size]; exact HL2.out
        gi_wp2_with (first
          | (refine ⟨trivial, ?_⟩; gi_at_call 93; refine (callsIn_wide.2 HLn.out).mono ?_; rintro e w1 ⟨rfl, rfl⟩)
          | (refine ⟨trivial, ?_⟩; gi_at_call 82; refine (callsIn_wide.2 (HNb.out _)).mono ?_; rintro e w2 ⟨rfl, hb2⟩; have HA2 := Lib.hid (HA.out.below hb2); have HJ2 := Lib.hid (hAb _ _ _ hJ hb2); have hBn2 : Boxed w2 Bn 24 (valloc A) := (hb2.block _ hBn.lt).trans hBn; have cc2 := hBn2.cell; have c2 := HA2.out.c0; have d2 := HA2.out.man.c0; have HTg2 := Lib.hid (HTg.out _ HA2.out); clear hb2))
        gi_wp2_with (first
          | (refine ⟨trivial, ?_⟩; gi_at_call 129; refine (callsIn_wide.2 HTg2.out).mono ?_; rintro e w3 ⟨rfl, hb3⟩; have hb3a := below_alloc w3 (.cells #[.int .i64 2, .int .i64 cc, .int .i64 (lN : Int)] 139); have HA3 := Lib.hid ((HA2.out.below hb3).below hb3a); have HJ3 := Lib.hid (hAb _ _ _ (hAb _ _ _ HJ2.out hb3) hb3a); have hBn3 : Boxed (w3.alloc (.cells #[.int .i64 2, .int .i64 cc, .int .i64 (lN : Int)] 139)) Bn 24 (valloc A) := (hb3a.block _ (Nat.lt_of_lt_of_le hBn2.lt hb3.size)).trans ((hb3.block _ hBn2.lt).trans hBn2); clear hb3 hb3a))
        gi_wp2_with (first
          | (refine ⟨trivial, ?_⟩; gi_at_call 82; refine (callsIn_wide.2 (HN2.out _)).mono ?_; rintro e w5 ⟨rfl, hb5⟩; have HA5 := Lib.hid (HA3.out.below hb5); have HJ5 := Lib.hid (hAb _ _ _ HJ3.out hb5); have hBn5 : Boxed w5 Bn 24 (valloc A) := (hb5.block _ hBn3.lt).trans hBn3; obtain ⟨fn, tmps, assign, body, hy, hR⟩ := hY (blkTo m.bm.list b) (blkLn m.bm.list (b + 1)) _ HLn1.out HJ5.out (by rw [blkTo_len]; omega); rw [HX.out] at hy; clear hb5))
        refine hR.mono ?_
        rintro e W6 (⟨rfl, hJ6, hk6⟩ | ⟨rfl, hJx6⟩)
        · have HA6 := Lib.hid (HA5.out.keep (fun z hz => hk6.1.block z (hX z hz)))
          have hBn6 : Boxed W6 Bn 24 (valloc A) := hk6.2.trans hBn5
          rw [← blkTo_succ] at hJ6
          clear hk6 hy hR
          gi_wp2
          go_roundw
          case rel => exact ⟨b + 1, by omega, vint (by omega), HA6, hBn6, hJ6⟩
          case measure => simp [intOf]; omega
        · rw [← blkTo_succ] at hJx6
          gi_wp2
          refine bodyPost_ret (results_none rfl _ _ _) rfl ?_
          exact ⟨⟨_, rfl⟩, .inr ⟨_, blkTo_pre (by omega), hJx6⟩⟩
      have h2' : (kk == 2) = false := by simpa using h2
      by_cases h3 : kk = 3
      · subst h3
        obtain ⟨lN, rfl⟩ := Int.eq_ofNat_of_zero_le HLo.out.1
        have hll := HLo.out.2
        have HN2 := Lib.hid (fun w => dnumber_any (lN : Int) (by constructor <;> omega) w)
        have HL2 : Hid ((itoa (lN : Int)).length ≤ 20) := Lib.hid (itoa_len (by omega))
        have HX : Hid (strV (blkLn m.bm.list (b + 1)) = Value.string (bstr T ++ { data := #[32] } ++ ({ data := #[99, 111, 110, 116, 32] } ++ bstr (itoa (lN : Int))))) := Lib.hid (by rw [HLi.out, show blkT ⟨3, cc, (lN : Int)⟩ = [99, 111, 110, 116, 32] ++ itoa (lN : Int) from rfl, show (strV (T ++ [32] ++ _)) = Value.string (bstr (T ++ [32] ++ _)) from rfl, ← bstr_append, ← bstr_append, ← bstr_append]; rfl)
        generalize itoa (lN : Int) = T2 at *
        have hl2 : (bstr T2).size ≤ 20 := by rw [bstr_size]; exact HL2.out
        gi_wp2_with (first
          | (refine ⟨trivial, ?_⟩; gi_at_call 93; refine (callsIn_wide.2 HLn.out).mono ?_; rintro e w1 ⟨rfl, rfl⟩)
          | (refine ⟨trivial, ?_⟩; gi_at_call 82; refine (callsIn_wide.2 (HNb.out _)).mono ?_; rintro e w2 ⟨rfl, hb2⟩; have HA2 := Lib.hid (HA.out.below hb2); have HJ2 := Lib.hid (hAb _ _ _ hJ hb2); have hBn2 : Boxed w2 Bn 24 (valloc A) := (hb2.block _ hBn.lt).trans hBn; have cc2 := hBn2.cell; have c2 := HA2.out.c0; have d2 := HA2.out.man.c0; have HTg2 := Lib.hid (HTg.out _ HA2.out); clear hb2))
        gi_wp2_with (first
          | (refine ⟨trivial, ?_⟩; gi_at_call 129; refine (callsIn_wide.2 HTg2.out).mono ?_; rintro e w3 ⟨rfl, hb3⟩; have hb3a := below_alloc w3 (.cells #[.int .i64 3, .int .i64 cc, .int .i64 (lN : Int)] 139); have HA3 := Lib.hid ((HA2.out.below hb3).below hb3a); have HJ3 := Lib.hid (hAb _ _ _ (hAb _ _ _ HJ2.out hb3) hb3a); have hBn3 : Boxed (w3.alloc (.cells #[.int .i64 3, .int .i64 cc, .int .i64 (lN : Int)] 139)) Bn 24 (valloc A) := (hb3a.block _ (Nat.lt_of_lt_of_le hBn2.lt hb3.size)).trans ((hb3.block _ hBn2.lt).trans hBn2); clear hb3 hb3a))
        gi_wp2_with (first
          | (refine ⟨trivial, ?_⟩; gi_at_call 82; refine (callsIn_wide.2 (HN2.out _)).mono ?_; rintro e w5 ⟨rfl, hb5⟩; have HA5 := Lib.hid (HA3.out.below hb5); have HJ5 := Lib.hid (hAb _ _ _ HJ3.out hb5); have hBn5 : Boxed w5 Bn 24 (valloc A) := (hb5.block _ hBn3.lt).trans hBn3; obtain ⟨fn, tmps, assign, body, hy, hR⟩ := hY (blkTo m.bm.list b) (blkLn m.bm.list (b + 1)) _ HLn1.out HJ5.out (by rw [blkTo_len]; omega); rw [HX.out] at hy; clear hb5))
        refine hR.mono ?_
        rintro e W6 (⟨rfl, hJ6, hk6⟩ | ⟨rfl, hJx6⟩)
        · have HA6 := Lib.hid (HA5.out.keep (fun z hz => hk6.1.block z (hX z hz)))
          have hBn6 : Boxed W6 Bn 24 (valloc A) := hk6.2.trans hBn5
          rw [← blkTo_succ] at hJ6
          clear hk6 hy hR
          gi_wp2
          go_roundw
          case rel => exact ⟨b + 1, by omega, vint (by omega), HA6, hBn6, hJ6⟩
          case measure => simp [intOf]; omega
        · rw [← blkTo_succ] at hJx6
          gi_wp2
          refine bodyPost_ret (results_none rfl _ _ _) rfl ?_
          exact ⟨⟨_, rfl⟩, .inr ⟨_, blkTo_pre (by omega), hJx6⟩⟩
      · have h3' : (kk == 3) = false := by simpa using h3
        have HX : Hid (strV (blkLn m.bm.list (b + 1)) = Value.string (bstr T ++ { data := #[32] } ++ { data := #[102, 114, 101, 101] })) := Lib.hid (by rw [HLi.out, show blkT ⟨kk, cc, ll⟩ = [102, 114, 101, 101] by unfold blkT; simp [h1, h2, h3], show (strV (T ++ [32] ++ _)) = Value.string (bstr (T ++ [32] ++ _)) from rfl, ← bstr_append, ← bstr_append]; rfl)
        gi_wp2_with (first
          | (refine ⟨trivial, ?_⟩; gi_at_call 93; refine (callsIn_wide.2 HLn.out).mono ?_; rintro e w1 ⟨rfl, rfl⟩)
          | (refine ⟨trivial, ?_⟩; gi_at_call 82; refine (callsIn_wide.2 (HNb.out _)).mono ?_; rintro e w2 ⟨rfl, hb2⟩; have HA2 := Lib.hid (HA.out.below hb2); have HJ2 := Lib.hid (hAb _ _ _ hJ hb2); have hBn2 : Boxed w2 Bn 24 (valloc A) := (hb2.block _ hBn.lt).trans hBn; have cc2 := hBn2.cell; have c2 := HA2.out.c0; have d2 := HA2.out.man.c0; have HTg2 := Lib.hid (HTg.out _ HA2.out); clear hb2))
        gi_wp2_with (first
          | (refine ⟨trivial, ?_⟩; gi_at_call 129; refine (callsIn_wide.2 HTg2.out).mono ?_; rintro e w3 ⟨rfl, hb3⟩; have hb3a := below_alloc w3 (.cells #[.int .i64 kk, .int .i64 cc, .int .i64 ll] 139); have HA3 := Lib.hid ((HA2.out.below hb3).below hb3a); have HJ3 := Lib.hid (hAb _ _ _ (hAb _ _ _ HJ2.out hb3) hb3a); have hBn3 : Boxed (w3.alloc (.cells #[.int .i64 kk, .int .i64 cc, .int .i64 ll] 139)) Bn 24 (valloc A) := (hb3a.block _ (Nat.lt_of_lt_of_le hBn2.lt hb3.size)).trans ((hb3.block _ hBn2.lt).trans hBn2); clear hb3 hb3a; obtain ⟨fn, tmps, assign, body, hy, hR⟩ := hY (blkTo m.bm.list b) (blkLn m.bm.list (b + 1)) _ HLn1.out HJ3.out (by rw [blkTo_len]; omega); rw [HX.out] at hy))
        refine hR.mono ?_
        rintro e W6 (⟨rfl, hJ6, hk6⟩ | ⟨rfl, hJx6⟩)
        · have HA6 := Lib.hid (HA3.out.keep (fun z hz => hk6.1.block z (hX z hz)))
          have hBn6 : Boxed W6 Bn 24 (valloc A) := hk6.2.trans hBn3
          rw [← blkTo_succ] at hJ6
          clear hk6 hy hR
          gi_wp2
          go_roundw
          case rel => exact ⟨b + 1, by omega, vint (by omega), HA6, hBn6, hJ6⟩
          case measure => simp [intOf]; omega
        · rw [← blkTo_succ] at hJx6
          gi_wp2
          refine bodyPost_ret (results_none rfl _ _ _) rfl ?_
          exact ⟨⟨_, rfl⟩, .inr ⟨_, blkTo_pre (by omega), hJx6⟩⟩
    · obtain rfl : b + 1 = B := by omega
      have hlt' : decide (b + 1 < b + 1) = false := by simp
      gi_wp2_with (refine ⟨trivial, ?_⟩; gi_at_call 93; refine (callsIn_wide.2 HLn.out).mono ?_; rintro e w1 ⟨rfl, rfl⟩)
      go_end0
      exact ⟨⟨_, rfl⟩, .inl ⟨_, rfl, hJ⟩⟩
end Go.Proofs.YtfedgcdkagngnaaGreat

/- dump: Objects: the iterator: a line for each object. -/
namespace Go.Proofs.YtfedgcdkagngnaaGreat
open Go.RowKit Go.Shelf
set_option linter.unusedVariables false
open Go.Lib (itoa)

attribute [local go_sem] Oper.semAt_some

/-- An object's line. -/
def objLn (m : Al) (x : Nat) : List UInt8 := match placedN m.bm.dev m.bm.list (x : Int) with
  | some o => objT m.bm.dev (x : Int) o.p o.d
  | none => []
def objTo (m : Al) (k : Nat) : List (List UInt8) := ((onesL m.used).take k).map (objLn m)
theorem objTo_succ {m : Al} {k x : Nat} (h : (onesL m.used)[k]? = some x) : objTo m (k + 1) = objTo m k ++ [objLn m x] := by
  unfold objTo
  rw [List.take_add_one, h]; simp
theorem objTo_len {m : Al} {k : Nat} (h : k ≤ (onesL m.used).length) : (objTo m k).length = k := by unfold objTo; simp; omega
theorem objTo_pre {m : Al} {j k : Nat} (h : j ≤ k) : objTo m j <+: objTo m k := by
  unfold objTo
  obtain ⟨d, rfl⟩ := Nat.le.dest h
  rw [List.take_add, List.map_append]
  exact List.prefix_append _ _
theorem objV_placed {m : Al} {x : Nat} (h : (placedN m.bm.dev m.bm.list (x : Int)).isSome = true) : objV m.bm.dev m.bm.list (x : Int) = .tuple #[strV (objLn m x), .int .i64 0] := by
  obtain ⟨o, ho⟩ := Option.isSome_iff_exists.1 h
  unfold objV objLn
  rw [ho]

theorem objLn_len (m : Al) {x : Nat} (hx : x < 18446744073709551616) : (objLn m x).length ≤ 300000 := by
  unfold objLn
  cases hp : placedN m.bm.dev m.bm.list (x : Int) with
  | none => simp
  | some o =>
    obtain ⟨s1, s2, s3, s4, s5⟩ := placed_size hp
    obtain ⟨_, _, hx1, hx2⟩ := placed_head hp
    have h1 := sumB_len (ptrT_len m.bm.dev (x : Int)) o.p.toNat
    have h2 := sumB_len (fun i => Nat.le_of_eq (datT_len m.bm.dev (x : Int) o.p i)) o.d.toNat
    have h3 := itoa_len hx
    unfold objT
    rw [List.length_append, List.length_append, List.length_append]
    simp only [List.length_singleton]
    have h4 : o.p.toNat ≤ 63 := by omega
    have h5 : o.d.toNat ≤ 16384 := by omega
    omega

/-- What a round keeps: whatever lay below; a box; the rows of ints of a call's own. -/
def KpT (n₀ n₁ Bn : Nat) (A B : World) : Prop := Below n₀ A B ∧ B.heap[Bn]? = A.heap[Bn]? ∧ ∀ k cs, n₁ ≤ k → A.heap[k]? = some (.cells cs 3 (0, 0)) → B.heap[k]? = A.heap[k]?
theorem KpT.trans {n₀ n₁ Bn : Nat} {A B C : World} (h : KpT n₀ n₁ Bn A B) (k : KpT n₀ n₁ Bn B C) : KpT n₀ n₁ Bn A C :=
  ⟨h.1.trans k.1, k.2.1.trans h.2.1, fun z cs hz hc => by
    have h1 := h.2.2 z cs hz hc
    exact (k.2.2 z cs hz (h1.trans hc)).trans h1⟩
theorem KpT.book {n₀ n₁ Bn : Nat} {w : World} (hn : n₀ ≤ w.heap.size) (hB : Bn < w.heap.size) (W : World) (l : Nat) (o o' : Obj) (hl : w.heap.size ≤ l) (h : W.heap[l]? = some o) (h1 : o.isCells = false) (h2 : o.isWalk = false) : KpT n₀ n₁ Bn W (W.putObj l o') :=
  ⟨belowK_b hn W l o o' hl h h1 h2, World.putObj_heap_other (by omega), fun k cs _ hc => World.putObj_heap_other (fun e => by subst e; rw [h] at hc; cases hc; cases h1)⟩
theorem KpT.b {n₀ n₁ Bn : Nat} {A B : World} (h : KpT n₀ n₁ Bn A B) : KpB n₀ Bn A B := ⟨h.1, h.2.1⟩

/-- A list of a call's own. -/
structure LstI (w : World) (n₁ : Nat) (la : Option Addr) (ys : List Nat) : Prop where
  cells : Cells w la (ys.map vi)
  far : ys ≠ [] → ∃ g cs, la = some ⟨g, 0, none⟩ ∧ n₁ ≤ g ∧ w.heap[g]? = some (.cells cs 3 (0, 0))
theorem LstI.of {w : World} {n₁ : Nat} {v : Value} {ys : List Nat} (h : w.ownsRow n₁ 3 1 v ys.length (ys.map vi)) : ∃ la c, v = .slice la ys.length c ∧ LstI w n₁ la ys := by
  obtain ⟨la, c, rfl, _⟩ := owned_form h
  refine ⟨la, c, rfl, Cells.owned h, fun hne => ?_⟩
  rcases h.2 with ⟨_, h0⟩ | ⟨g, cap, cur, hv, hb, hg, _⟩
  · exact absurd (List.length_eq_zero_iff.1 h0) hne
  · injection hv with h1
    exact ⟨g, cur, h1, hb, hg⟩
theorem LstI.keep {w w' : World} {n₁ : Nat} {la : Option Addr} {ys : List Nat} (h : LstI w n₁ la ys) (hk : ∀ k cs, n₁ ≤ k → w.heap[k]? = some (.cells cs 3 (0, 0)) → w'.heap[k]? = w.heap[k]?) : LstI w' n₁ la ys := by
  refine ⟨?_, fun hne => ?_⟩
  · by_cases hne : ys = []
    · rw [hne]; exact .inl rfl
    · obtain ⟨g, cs, e, hb, hg⟩ := h.far hne
      rcases h.cells with c | ⟨b, off, e', hc⟩
      · simp at c; exact absurd c hne
      · rw [e] at e'
        cases e'
        have h2 := hk g cs hb hg
        refine .inr ⟨g, 0, e, fun i u hi => ?_⟩
        have h1 := hc i u hi
        unfold World.cell? at h1 ⊢
        dsimp only at h1 ⊢
        rw [h2]; exact h1
  · obtain ⟨g, cs, e, hb, hg⟩ := h.far hne
    exact ⟨g, cs, e, hb, (hk g cs hb hg).trans hg⟩
theorem LstI.below {w w' : World} {n₁ : Nat} {la : Option Addr} {ys : List Nat} (h : LstI w n₁ la ys) (hb : Below w.heap.size w w') : LstI w' n₁ la ys := h.keep (fun k _ _ hg => hb.block k (Array.getElem?_eq_some_iff.1 hg).1)

set_option maxRecDepth 100000 in
set_option maxHeartbeats 4000000 in
theorem dobjects1_in {A : AF} {n B : Nat} {m : Al} (k : Nat) (hk : 1 ≤ k) (hB : B ≤ 1000) (hok : AlOk B m) (lp Bn n₀ n₁ : Nat) (J Jx : List (List UInt8) → World → Prop)
    (hAb : ∀ s W W', J s W → Below W.heap.size W W' → J s W')
    (hY : ∀ pre (x : List UInt8) W, x.length ≤ 300000 → J pre W → pre.length < (onesL m.used).length → YieldAt Fence.wide (k - 1) Tryz.prog lp #[strV x] W fun e W' =>
      (e = .returned (.bool true) ∧ J (pre ++ [x]) W' ∧ KpT n₀ n₁ Bn W W') ∨ (e = .returned (.bool false) ∧ Jx (pre ++ [x]) W'))
    (W : World) (hBn : Boxed W Bn 24 (valloc A)) (hA : AlAt W A n B m) (hX : ∀ z ∈ A.list, z < n₀) (hn : n₁ ≤ W.heap.size) (h0 : J [] W) :
    CallsIn Fence.wide k Tryz.prog 131 #[.func (.yield lp) #[] #[], .pointer (some ⟨Bn, 0, none⟩)] W fun e W' => (∃ v, e = .returned v) ∧
      ((∃ ys, ys = objTo m (onesL m.used).length ∧ J ys W') ∨ (∃ pre, pre <+: objTo m (onesL m.used).length ∧ Jx pre W')) := by
  have HA := Lib.hid hA
  have HLm : Hid (∀ x ∈ onesL m.used, x < 512 * B ∧ (placedN m.bm.dev m.bm.list (x : Int)).isSome = true) := Lib.hid (fun x hx => by
    have h1 := mem_onesL.1 hx
    have h2 := getD_true_lt h1
    rw [hok.lenU] at h2
    exact ⟨h2, hok.placed x h1⟩)
  have HLl : Hid ((onesL m.used).length ≤ 512 * B) := Lib.hid (by rw [onesL_length]; exact Nat.le_trans (count_le_len _) (by rw [hok.lenU]; exact Nat.le_refl _))
  refine callsIn_of_wp Tryz.func131 rfl trivial ?_ rfl
  simp only [Tryz.ntmps131, List.size_toArray, List.length_cons, List.length_nil, Nat.reduceAdd, Nat.reduceSub, Array.replicate_succ, Array.replicate_zero, List.push_toArray, List.append_toArray, List.nil_append, List.cons_append]
  have HOb := Lib.hid (aobjects_any HA.out)
  have hc := hBn.cell
  clear hA hok
  gi_wp2_with (refine ⟨trivial, ?_⟩; gi_at_call 25; refine (callsIn_wide.2 HOb.out).mono ?_; rintro e w1 ⟨v, rfl, ho, _, hb1⟩; have HLi := Lib.hid (LstI.of ho); have HB1 := Lib.hid hb1; clear ho hb1; obtain ⟨la, cl, rfl, hli⟩ := HLi.out; have HLs : Hid (LstI w1 n₁ la (onesL m.used)) := Lib.hid ⟨hli.cells, fun hne => (by obtain ⟨g, cs, e1, e2, e3⟩ := hli.far hne; exact ⟨g, cs, e1, Nat.le_trans hn e2, e3⟩)⟩; clear hli HLi)
  obtain ⟨NL, hNL⟩ : ∃ NL, NL = (onesL m.used).length := ⟨_, rfl⟩
  rw [← hNL] at HLl ⊢
  have HN := Lib.hid hNL
  have hll := HLl.out
  have HA1 := Lib.hid (HA.out.below HB1.out)
  have hBn1 : Boxed w1 Bn 24 (valloc A) := (HB1.out.block _ hBn.lt).trans hBn
  have hJ1 := hAb _ _ _ h0 HB1.out
  clear hNL
  gi_loopw [10] (fun iv wr => ∃ j : Nat, j ≤ NL ∧ iv = .int .i64 (j : Int) ∧ Hid (AlAt wr A n B m) ∧ Boxed wr Bn 24 (valloc A) ∧ Hid (LstI wr n₁ la (onesL m.used)) ∧ J (objTo m j) wr) (fun iv _ => NL - (intOf iv).toNat)
  case atStart => exact ⟨0, Nat.zero_le _, rfl, HA1, hBn1, HLs, hJ1⟩
  case round =>
    clear hBn1 hJ1 HA1 hBn h0 HA HB1 HLs hc HOb
    obtain ⟨j, hj, rfl, HA, hBn, HLs, hJ⟩ := hrel
    have hc := hBn.cell
    by_cases hlt : j < NL
    · have hlt' : (j : Int) < (NL : Int) := by omega
      obtain ⟨x, hx⟩ : ∃ x, (onesL m.used)[j]? = some x := ⟨_, List.getElem?_eq_getElem (by rw [← HN.out]; exact hlt)⟩
      obtain ⟨b2, o2, rfl, _, hc2⟩ := HLs.out.cells.at (i := j) (by rw [List.length_map, ← HN.out]; exact hlt)
      have cx := hc2 j (vi x) (by rw [List.getElem?_map, hx]; rfl)
      obtain ⟨hx1, hx2⟩ := HLm.out x (List.mem_of_getElem? hx)
      have HDo := Lib.hid (dobject_any HA.out hB (x : Int) (by constructor <;> omega))
      rw [objV_placed hx2] at HDo
      have HTo := Lib.hid (objTo_succ hx)
      have HLt := Lib.hid (objLn_len m (x := x) (by omega))
      clear hc2 hx hx1 hx2
      generalize objLn m x = T at *
      gi_wp2_with (refine ⟨trivial, ?_⟩; gi_at_call 19; refine (callsIn_wide.2 HDo.out).mono ?_; rintro e w2 ⟨rfl, hb2⟩; have HA2 := Lib.hid (HA.out.below hb2); have hBn2 : Boxed w2 Bn 24 (valloc A) := (hb2.block _ hBn.lt).trans hBn; have HL2 := Lib.hid (HLs.out.below hb2); obtain ⟨fn, tmps, assign, body, hy, hR⟩ := hY (objTo m j) T w2 HLt.out (hAb _ _ _ hJ hb2) (by rw [objTo_len (by rw [← HN.out]; exact hj), ← HN.out]; exact hlt); clear hb2)
      refine hR.mono ?_
      rintro e W6 (⟨rfl, hJ6, hk6⟩ | ⟨rfl, hJx6⟩)
      · have HA6 := Lib.hid (HA2.out.keep (fun z hz => hk6.1.block z (hX z hz)))
        have hBn6 : Boxed W6 Bn 24 (valloc A) := hk6.2.1.trans hBn2
        have HL6 := Lib.hid (HL2.out.keep hk6.2.2)
        rw [← HTo.out] at hJ6
        clear hk6 hy hR
        gi_wp2
        go_roundw
        case rel => exact ⟨j + 1, by omega, vint (by omega), HA6, hBn6, HL6, hJ6⟩
        case measure => simp [intOf]; omega
      · rw [← HTo.out] at hJx6
        gi_wp2
        refine bodyPost_ret (results_none rfl _ _ _) rfl ?_
        exact ⟨⟨_, rfl⟩, .inr ⟨_, objTo_pre (by rw [← HN.out]; omega), hJx6⟩⟩
    · obtain rfl : j = NL := by omega
      have hlt' : decide (j < j) = false := by simp
      gi_wp2
      go_end0
      exact ⟨⟨_, rfl⟩, .inl ⟨_, rfl, by rw [← HN.out]; exact hJ⟩⟩
end Go.Proofs.YtfedgcdkagngnaaGreat

/- strings.Builder: what its calls touch, and nothing else. -/
namespace Go.Proofs.YtfedgcdkagngnaaGreat
open Go.RowKit Go.Shelf
set_option linter.unusedVariables false

/-- A builder: its block, its row's slice, its bytes. -/
structure Bdr (B b : Nat) (v : Value) (l : List UInt8) (w : World) : Prop where
  lo : B ≤ b
  own : w.ownsRow B 5 1 v (Lib.byteCells l).length (Lib.byteCells l)
  at_ : w.heap[b]? = some (.cells #[.pointer none, v] 155 (0, 0)) ∨ w.heap[b]? = some (.cells #[.pointer (some ⟨b, 0, none⟩), v] 155 (0, 0))
/-- The blocks that it may write to. -/
def bdL (b : Nat) (v : Value) : List Nat := b :: v.ownBlock.toList
theorem bdL_mem {b k : Nat} {v : Value} : k ∈ bdL b v ↔ k = b ∨ v.ownBlock = some k := by
  unfold bdL
  cases v.ownBlock with
  | none => simp
  | some g => simp; constructor
              · rintro (h | h)
                · exact .inl h
                · exact .inr h.symm
              · rintro (h | h)
                · exact .inl h
                · exact .inr h.symm

section
variable {B b : Nat} {v : Value} {l : List UInt8} {w w' : World}
theorem Bdr.block (h : Bdr B b v l w) : ∃ cs, w.heap[b]? = some (.cells cs 155 (0, 0)) := h.at_.elim (fun h => ⟨_, h⟩) (fun h => ⟨_, h⟩)
theorem Bdr.lt (h : Bdr B b v l w) : b < w.heap.size := by
  obtain ⟨cs, h⟩ := h.block
  exact (Array.getElem?_eq_some_iff.1 h).1
theorem Bdr.ne (h : Bdr B b v l w) : v.ownBlock ≠ some b := by
  obtain ⟨cs, h1⟩ := h.block
  exact Lib.ownBlock_ne h.own h1 (by decide)
/-- The row's block: a row of bytes. -/
theorem Bdr.row (h : Bdr B b v l w) {k : Nat} (hk : v.ownBlock = some k) : B ≤ k ∧ ∃ cs, w.heap[k]? = some (.cells cs 5 (0, 0)) := by
  rcases h.own.2 with ⟨rfl, _⟩ | ⟨g, cap, cur, rfl, hb, hg, _⟩
  · cases hk
  · have : g = k := by simpa [Value.ownBlock] using hk
    subst this
    exact ⟨hb, cur, hg⟩
theorem ownsRow_keep {B n : Nat} {e : TypeId} {xs : List Value} (h : w.ownsRow B e 1 v n xs) (hk : ∀ k, v.ownBlock = some k → w'.heap[k]? = w.heap[k]?) : w'.ownsRow B e 1 v n xs := by
  refine ⟨h.1, ?_⟩
  rcases h.2 with ⟨rfl, h0⟩ | ⟨g, cap, cur, rfl, hb, hg, h1⟩
  · exact .inl ⟨rfl, h0⟩
  · exact .inr ⟨g, cap, cur, rfl, hb, (hk g rfl).trans hg, h1⟩
theorem Bdr.keep (h : Bdr B b v l w) (hk : ∀ k, k ∈ bdL b v → w'.heap[k]? = w.heap[k]?) : Bdr B b v l w' :=
  ⟨h.lo, ownsRow_keep h.own (fun k e => hk k (bdL_mem.2 (.inr e))), by rw [hk b (bdL_mem.2 (.inl rfl))]; exact h.at_⟩
theorem Bdr.mem (h : Bdr B b v l w) {k : Nat} (hk : k ∈ bdL b v) : B ≤ k ∧ k < w.heap.size := by
  rcases bdL_mem.1 hk with rfl | e
  · exact ⟨h.lo, h.lt⟩
  · obtain ⟨h1, cs, h2⟩ := h.row e
    exact ⟨h1, (Array.getElem?_eq_some_iff.1 h2).1⟩
theorem Bdr.later (h : Bdr B b v l w) (hb : Below w.heap.size w w') : Bdr B b v l w' := h.keep (fun k hk => hb.block k (h.mem hk).2)
end
theorem bdr_new (w : World) : Bdr w.heap.size w.heap.size (.slice none 0 0) [] (w.alloc (.cells #[.pointer none, .slice none 0 0] 155)) :=
  ⟨Nat.le_refl _, ⟨rfl, .inl ⟨rfl, rfl⟩⟩, .inl (heap_alloc_new w _)⟩

theorem bdr_copy {B b : Nat} {v : Value} {l : List UInt8} {w : World} (h : Bdr B b v l w) :
    Calls Tryz.prog 160 #[.pointer (some ⟨b, 0, none⟩)] w fun e w' => e = .returned (.tuple #[]) ∧ Touch [b] w w' ∧ w'.heap[b]? = some (.cells #[.pointer (some ⟨b, 0, none⟩), v] 155 (0, 0)) := by
  rcases h.at_ with h1 | h1
  · have hA : Lib.BuilderAt 155 5 B b (.pointer none) (Lib.byteCells l) w := ⟨h.lo, v, h1, h.own, h.ne⟩
    have h2 := Any.Builder_copyCheck_fresh { laysW with } extraW.toX72 b w hA.cell0 hA.shape hA.frozen0
    refine Calls.mono (f := 160) h2 ?_
    rintro e w' ⟨h3, rfl⟩
    exact ⟨h3, Touch.setCell ⟨b, 0, none⟩ (by simp) _, by simp [World.setCell, Array.getElem?_modify, h1]⟩
  · have hA : Lib.BuilderAt 155 5 B b (.pointer (some ⟨b, 0, none⟩)) (Lib.byteCells l) w := ⟨h.lo, v, h1, h.own, h.ne⟩
    have h2 := Any.Builder_copyCheck_used { laysW with } extraW.toX72 b w hA.cell0
    refine Calls.mono (f := 160) h2 ?_
    rintro e w' ⟨h3, rfl⟩
    exact ⟨h3, Touch.refl _ _, h1⟩

/-- What a writing call leaves. -/
def BdGo (B b : Nat) (v : Value) (l : List UInt8) (r : Value) (w : World) : Ending → World → Prop := fun e w' => e = .returned r ∧ ∃ v', Bdr B b v' l w' ∧ Touch (bdL b v) w w'
theorem bdGo_end {B b : Nat} {v v' : Value} {l l' : List UInt8} {r : Value} {w w1 w2 : World} (h : Bdr B b v l w) (ht : Touch [b] w w1) (hb : w1.heap[b]? = some (.cells #[.pointer (some ⟨b, 0, none⟩), v] 155 (0, 0)))
    (ho : w2.ownsRow B 5 1 v' (Lib.byteCells l').length (Lib.byteCells l')) {wa : World} (ha : Below w1.heap.size w1 wa) (hg : wa.grownBy w2 v.ownBlock) : BdGo B b v l' r w (.returned r) (w2.setCell ⟨b, 1, none⟩ v') := by
  have hlt : b < w1.heap.size := (Array.getElem?_eq_some_iff.1 hb).1
  have hb2 : w2.heap[b]? = some (.cells #[.pointer (some ⟨b, 0, none⟩), v] 155 (0, 0)) := (hg.block b (Nat.lt_of_lt_of_le hlt ha.size) (fun e => h.ne e.symm)).trans ((ha.block b hlt).trans hb)
  have hne := Lib.ownBlock_ne ho hb2 (by decide)
  have t1 : Touch (bdL b v) w w1 := ht.wide (fun k hk => by simp at hk; subst hk; exact bdL_mem.2 (.inl rfl))
  have t2 : Touch (bdL b v) w1 w2 := ⟨hg.os.trans ha.os, hg.tape.trans ha.tape, hg.output.trans ha.output, Nat.le_trans ha.size hg.size, fun k hk hn => (hg.block k (Nat.lt_of_lt_of_le hk ha.size) (fun e => hn (bdL_mem.2 (.inr e.symm)))).trans (ha.block k hk)⟩
  have t3 : Touch (bdL b v) w2 (w2.setCell ⟨b, 1, none⟩ v') := Touch.setCell ⟨b, 1, none⟩ (bdL_mem.2 (.inl rfl)) _
  refine ⟨rfl, v', ⟨h.lo, ownsRow_keep ho (fun k e => Below.heap_setCell _ _ _ _ (fun e' => hne (by rw [e]; exact congrArg some e'))), .inr ?_⟩, (t1.trans t2).trans t3⟩
  simp [World.setCell, Array.getElem?_modify, hb2]

set_option maxHeartbeats 2000000 in
set_option maxRecDepth 20000 in
theorem bwriteT_any {B b : Nat} {v : Value} {l : List UInt8} {w : World} (h : Bdr B b v l w) (s : List UInt8) (hlen : l.length + s.length ≤ 1000000000000) (hB : B ≤ w.heap.size) :
    Calls Tryz.prog 120 #[.pointer (some ⟨b, 0, none⟩), strV s] w (BdGo B b v (l ++ s) (.tuple #[.int .i64 (s.length : Nat), .nilIface]) w) := by
  obtain ⟨i0, hi, hz0, hz1, hz2⟩ := info_parts extraW.infoByte
  have hi' : Tryz.prog.info? 5 = some i0 := hi
  have HP := Lib.hid (fun (v' : Value) (w1 w2 : World) (h1 : Touch [b] w w1) (h2 : w1.heap[b]? = some (.cells #[.pointer (some ⟨b, 0, none⟩), v] 155 (0, 0))) (h3 : w2.ownsRow B 5 1 v' (Lib.byteCells (l ++ s)).length (Lib.byteCells (l ++ s))) (h4 : w1.grownBy w2 v.ownBlock) => bdGo_end (r := .tuple #[.int .i64 (s.length : Nat), .nilIface]) h h1 h2 h3 (Below.refl _ _) h4)
  generalize BdGo B b v (l ++ s) (.tuple #[.int .i64 (s.length : Nat), .nilIface]) w = Post at *
  have HBd := Lib.hid h
  have HCc := Lib.hid (bdr_copy h)
  have hcl : (Lib.byteCells l).length = l.length := Lib.byteCells_length l
  have hss : (bstr s).size = s.length := bstr_size s
  have HE : Hid (Lib.byteCells (l ++ s) = Lib.byteCells l ++ Lib.strCells (bstr s)) := Lib.hid (by simp [Lib.byteCells, Lib.strCells, bstr])
  have HEl : Hid ((Lib.byteCells (l ++ s)).length = (Lib.byteCells l).length + (bstr s).size) := Lib.hid (by rw [Lib.byteCells_length, hcl, hss, List.length_append])
  have HLen : Hid ((Lib.byteCells l).length + (bstr s).size ≤ 1000000000000) := Lib.hid (by rw [hcl, hss]; exact hlen)
  have HSs := Lib.hid hss
  clear h hcl hss
  go_enter Tryz.func120, Tryz.ntmps120
  go_wp2_with fail
  refine HCc.out.mono ?_
  rintro e w1 ⟨rfl, ht1, hb1⟩
  have HT1 := Lib.hid ht1
  have HB1 := Lib.hid hb1
  have c1 : w1.cell? ⟨b, 1, none⟩ = some v := by rw [Lib.cell_of_heap hb1]; rfl
  have HO1 : Hid (w1.ownsRow B 5 1 v (Lib.byteCells l).length (Lib.byteCells l)) := Lib.hid (ownsRow_keep HBd.out.own (fun k hk => ht1.block k (HBd.out.mem (bdL_mem.2 (.inr hk))).2 (fun hm => by simp at hm; subst hm; exact HBd.out.ne hk)))
  have HBs : Hid (B ≤ w1.heap.size) := Lib.hid (Nat.le_trans hB ht1.size)
  clear ht1 hb1
  go_wp2_with (at_builtin; refine Lib.wpList_append_own_string _ rfl _ _ 153 9 rfl B 5 i0 Tryz.underlying153 Tryz.underlying9 hi' hz0 hz1 hz2 v _ _ rfl HO1.out (bstr s) rfl (by have := HLen.out; unfold maxLen; omega) (by have := HLen.out; omega) HBs.out ?_; intro v' w2 hown hgrow _; have HOw := Lib.hid hown; have HGr := Lib.hid hgrow; have hb2 : w2.heap[b]? = some (.cells #[.pointer (some ⟨b, 0, none⟩), v] 155 (0, 0)) := (hgrow.block b (Array.getElem?_eq_some_iff.1 HB1.out).1 (fun e => HBd.out.ne e.symm)).trans HB1.out; have d0 : w2.cell? ⟨b, 0, none⟩ = some (.pointer (some ⟨b, 0, none⟩)) := (by rw [Lib.cell_of_heap hb2]; rfl); have d1 : w2.cell? ⟨b, 1, none⟩ = some v := (by rw [Lib.cell_of_heap hb2]; rfl); have f1 : w2.frozen? ⟨b, 1, none⟩ = false := Lib.frozen_of_heap hb2 1; clear hown hgrow hb2; obtain ⟨ao, n', cap, rfl⟩ : ∃ ao n' cap, v' = .slice ao n' cap := (by rcases HOw.out.2 with ⟨hv, _⟩ | ⟨g, cap, cur, hv, _⟩ <;> exact ⟨_, _, _, hv⟩))
  have := HP.out (.slice ao n' cap) w1 w2 HT1.out HB1.out (by rw [HE.out, ← HE.out, HEl.out, HE.out]; exact HOw.out) HGr.out
  rw [← HSs.out] at this
  exact this

end Go.Proofs.YtfedgcdkagngnaaGreat

/- dump: Text: two ranges over functions. -/
namespace Go.Proofs.YtfedgcdkagngnaaGreat
open Go.RowKit Go.Shelf
set_option linter.unusedVariables false
open Go.Lib (itoa)

attribute [local go_sem] Oper.semAt_some

/-- A line, not too long. -/
abbrev Ln := {s : List UInt8 // s.length ≤ 300000}
def lnV (pre : List Ln) : List (List UInt8) := pre.map Subtype.val
theorem lnV_snoc (pre : List Ln) (x : Ln) : lnV (pre ++ [x]) = lnV pre ++ [x.val] := by simp [lnV]

theorem dblocks_stops {A : AF} {n B : Nat} {m : Al} {w : World} (k : Nat) (hk : 1 ≤ k) (hB1 : 1 ≤ B) (hB : B ≤ 1000) (hlo : ∀ b : Nat, (hdGet m.bm.list (b : Int)).low) (Bn n₀ n₁ : Nat) (hA : AlAt w A n B m) (hc : Boxed w Bn 24 (valloc A)) (hX : ∀ z ∈ A.list, z < n₀) :
    SeqStopsK Fence.wide k Tryz.prog 128 #[.pointer (some ⟨Bn, 0, none⟩)] (fun x : Ln => #[strV x.val]) (KpT n₀ n₁ Bn) (fun ys => lnV ys = blkTo m.bm.list (B - 1)) (fun pre => lnV pre <+: blkTo m.bm.list (B - 1)) (B - 1) w := by
  intro lp J Jx W hW hJa _ hY h0
  refine (dblocks1_in (m := m) k hk hB1 hB hlo lp Bn n₀ (fun l W => ∃ l' : List Ln, lnV l' = l ∧ J l' W) (fun l W => ∃ l' : List Ln, lnV l' = l ∧ Jx l' W) (fun s W W' hs hb => ?_) (fun pre x W hx hJ hp => ?_) W ((hW.block Bn hc.lt).trans hc) (hA.below hW) hX ⟨[], rfl, h0⟩).mono ?_
  · obtain ⟨l', e, hj⟩ := hs
    exact ⟨l', e, abides_below hJa hj hb⟩
  · obtain ⟨l', rfl, hj⟩ := hJ
    obtain ⟨fn, tmps, assign, body, hy, hR⟩ := hY l' ⟨x, hx⟩ W hj (by simpa [lnV] using hp)
    refine ⟨fn, tmps, assign, body, hy, hR.mono ?_⟩
    rintro e W' (⟨rfl, h1, h2⟩ | ⟨rfl, h1⟩)
    · exact .inl ⟨rfl, ⟨_, lnV_snoc _ _, h1⟩, h2.b⟩
    · exact .inr ⟨rfl, ⟨_, lnV_snoc _ _, h1⟩⟩
  · rintro e W' ⟨h1, (⟨ys, rfl, l', h2, h3⟩ | ⟨pre, h2, l', rfl, h3⟩)⟩
    · exact ⟨h1, .inl ⟨l', h2, h3⟩⟩
    · exact ⟨h1, .inr ⟨l', h2, h3⟩⟩
theorem dobjects_stops {A : AF} {n B : Nat} {m : Al} {w : World} (k : Nat) (hk : 1 ≤ k) (hB : B ≤ 1000) (hok : AlOk B m) (Bn n₀ n₁ : Nat) (hA : AlAt w A n B m) (hc : Boxed w Bn 24 (valloc A)) (hX : ∀ z ∈ A.list, z < n₀) (hn : n₁ ≤ w.heap.size) :
    SeqStopsK Fence.wide k Tryz.prog 131 #[.pointer (some ⟨Bn, 0, none⟩)] (fun x : Ln => #[strV x.val]) (KpT n₀ n₁ Bn) (fun ys => lnV ys = objTo m (onesL m.used).length) (fun pre => lnV pre <+: objTo m (onesL m.used).length) (onesL m.used).length w := by
  intro lp J Jx W hW hJa _ hY h0
  refine (dobjects1_in (m := m) k hk hB hok lp Bn n₀ n₁ (fun l W => ∃ l' : List Ln, lnV l' = l ∧ J l' W) (fun l W => ∃ l' : List Ln, lnV l' = l ∧ Jx l' W) (fun s W W' hs hb => ?_) (fun pre x W hx hJ hp => ?_) W ((hW.block Bn hc.lt).trans hc) (hA.below hW) hX (Nat.le_trans hn hW.size) ⟨[], rfl, h0⟩).mono ?_
  · obtain ⟨l', e, hj⟩ := hs
    exact ⟨l', e, abides_below hJa hj hb⟩
  · obtain ⟨l', rfl, hj⟩ := hJ
    obtain ⟨fn, tmps, assign, body, hy, hR⟩ := hY l' ⟨x, hx⟩ W hj (by simpa [lnV] using hp)
    refine ⟨fn, tmps, assign, body, hy, hR.mono ?_⟩
    rintro e W' (⟨rfl, h1, h2⟩ | ⟨rfl, h1⟩)
    · exact .inl ⟨rfl, ⟨_, lnV_snoc _ _, h1⟩, h2⟩
    · exact .inr ⟨rfl, ⟨_, lnV_snoc _ _, h1⟩⟩
  · rintro e W' ⟨h1, (⟨ys, rfl, l', h2, h3⟩ | ⟨pre, h2, l', rfl, h3⟩)⟩
    · exact ⟨h1, .inl ⟨l', h2, h3⟩⟩
    · exact ⟨h1, .inr ⟨l', h2, h3⟩⟩

set_option maxHeartbeats 1000000 in
theorem dblocks_in (A : AF) (n : Nat) (w : World) :
    CallsIn Fence.wide n Tryz.prog 62 #[valloc A] w fun e w' => e = .returned (.func (.func 128) #[] #[.pointer (some ⟨w.heap.size, 0, none⟩)]) ∧ w' = w.alloc (.cells #[valloc A] 24) := by
  refine callsIn_of_wp Tryz.func62 rfl trivial ?_ rfl
  simp only [Tryz.ntmps62, List.size_toArray, List.length_cons, List.length_nil, Nat.reduceAdd, Nat.reduceSub, Array.replicate_succ, Array.replicate_zero, List.push_toArray, List.append_toArray, List.nil_append, List.cons_append]
  gi_wp2
  go_ret
  exact ⟨rfl, rfl⟩
set_option maxHeartbeats 1000000 in
theorem dobjects_in (A : AF) (n : Nat) (w : World) :
    CallsIn Fence.wide n Tryz.prog 63 #[valloc A] w fun e w' => e = .returned (.func (.func 131) #[] #[.pointer (some ⟨w.heap.size, 0, none⟩)]) ∧ w' = w.alloc (.cells #[valloc A] 24) := by
  refine callsIn_of_wp Tryz.func63 rfl trivial ?_ rfl
  simp only [Tryz.ntmps63, List.size_toArray, List.length_cons, List.length_nil, Nat.reduceAdd, Nat.reduceSub, Array.replicate_succ, Array.replicate_zero, List.push_toArray, List.append_toArray, List.nil_append, List.cons_append]
  gi_wp2
  go_ret
  exact ⟨rfl, rfl⟩

/-- Lines, each behind a word, each with its end. -/
def txL (p : List UInt8) (ls : List (List UInt8)) : List UInt8 := ls.flatMap (fun s => p ++ s ++ [10])
theorem txL_snoc (p : List UInt8) (ls : List (List UInt8)) (s : List UInt8) : txL p (ls ++ [s]) = txL p ls ++ (p ++ s ++ [10]) := by simp [txL]
def bW : List UInt8 := [98, 108, 111, 99, 107, 32]
def oW : List UInt8 := [111, 98, 106, 101, 99, 116, 32]
theorem txL_len {p : List UInt8} (hp : p.length ≤ 10) : ∀ (pre : List Ln), (txL p (lnV pre)).length ≤ 300011 * pre.length
  | [] => by simp [txL, lnV]
  | x :: pre => by
    have h1 := txL_len hp pre
    have h2 := x.property
    have e : txL p (lnV (x :: pre)) = (p ++ x.val ++ [10]) ++ txL p (lnV pre) := by simp [txL, lnV]
    rw [e, List.length_append, List.length_append, List.length_append]
    simp only [List.length_cons, List.length_nil]
    omega
/-- All of a heap's text. -/
def textOf (B : Nat) (m : Al) : List UInt8 := txL bW (blkTo m.bm.list (B - 1)) ++ txL oW (objTo m (onesL m.used).length)

theorem textOf_ne {B : Nat} (hB : 2 ≤ B) (m : Al) : textOf B m ≠ [] := by
  obtain ⟨k, hk⟩ : ∃ k, B - 1 = k + 1 := ⟨B - 2, by omega⟩
  unfold textOf
  rw [hk, blkTo_succ, txL_snoc]
  simp [bW]

/-- A builder's blocks are no box, no row of ints, no deferred call. -/
theorem bdr_own {β : Type} {B b : Nat} (f : β → List UInt8) : Own (fun (s : β) W => ∃ v, Bdr B b v (f s) W) := by
  rintro _ W W' row ⟨v, hb⟩ hg hr
  refine ⟨v, hb.keep (fun k hk => hg.block k (hb.mem hk).2 (fun e => ?_))⟩
  obtain ⟨o, ho, hc⟩ := hr k e.symm
  rcases bdL_mem.1 hk with rfl | e'
  · obtain ⟨cs, h1⟩ := hb.block
    rw [h1] at ho; cases ho; cases hc
  · obtain ⟨_, cs, h1⟩ := hb.row e'
    rw [h1] at ho; cases ho; cases hc
theorem Bdr.type {B b : Nat} {v : Value} {l : List UInt8} {w : World} (h : Bdr B b v l w) {k : Nat} (hk : k ∈ bdL b v) : ∃ cs t, w.heap[k]? = some (.cells cs t (0, 0)) ∧ (t = 155 ∨ t = 5) := by
  rcases bdL_mem.1 hk with rfl | e'
  · obtain ⟨cs, h1⟩ := h.block
    exact ⟨cs, _, h1, .inl rfl⟩
  · obtain ⟨_, cs, h1⟩ := h.row e'
    exact ⟨cs, _, h1, .inr rfl⟩

/-- What a write to a builder keeps. -/
theorem bdr_keeps {B b : Nat} {v : Value} {l : List UInt8} {W W' : World} (h : Bdr B b v l W) (ht : Touch (bdL b v) W W') (n : Nat) : KeepsFrom n W W' :=
  ⟨ht.size, fun k o _ hk ho => (ht.block k (Array.getElem?_eq_some_iff.1 hk).1 (fun hm => by
    obtain ⟨cs, t, h1, _⟩ := h.type hm
    rw [h1] at hk; cases hk; cases ho)).trans hk⟩
theorem bdr_kpT {A : AF} {B b n₁ Bn : Nat} {v : Value} {l : List UInt8} {W W' : World} (h : Bdr B b v l W) (ht : Touch (bdL b v) W W') (hb : Boxed W Bn 24 (valloc A)) (hB : B ≤ W.heap.size) : KpT B n₁ Bn W W' := by
  refine ⟨⟨ht.os, ht.tape, ht.output, ht.size, fun k hk => ht.block k (Nat.lt_of_lt_of_le hk hB) (fun hm => ?_)⟩, ht.block Bn hb.lt (fun hm => ?_), fun k cs _ hc => ht.block k (Array.getElem?_eq_some_iff.1 hc).1 (fun hm => ?_)⟩
  · have := (h.mem hm).1; omega
  · obtain ⟨cs, t, h1, h2⟩ := h.type hm
    rw [show W.heap[Bn]? = _ from hb] at h1
    cases h1
    exact absurd h2 (by decide)
  · obtain ⟨cs, t, h1, h2⟩ := h.type hm
    rw [hc] at h1
    cases h1
    exact absurd h2 (by decide)
theorem kept_own {β : Type} {B D : Nat} {o : Obj} (hD : D < B) : OwnFrom B (fun (_ : β) W => W.heap[D]? = some o) := fun _ W W' row h hg hr =>
  (hg.block D (Array.getElem?_eq_some_iff.1 h).1 (fun e => by have := (hr D e.symm).1; omega)).trans h

theorem freeze_other {w : World} {p : Addr} {n k : Nat} (hk : k ≠ p.block) : (w.freeze p n).heap[k]? = w.heap[k]? := by
  unfold World.freeze
  split
  · rfl
  · simp only [Array.getElem?_modify]
    rw [if_neg (fun e => hk e.symm)]
theorem freeze_touch {w : World} {p : Addr} {n : Nat} : Touch [p.block] w (w.freeze p n) := by
  have h := Lib.below_freeze (B := 0) (Below.refl 0 w) (p := p) (Nat.zero_le _) n
  exact ⟨h.os, h.tape, h.output, h.size, fun k _ hn => freeze_other (fun e => hn (by simp [e]))⟩

set_option maxHeartbeats 2000000 in
set_option maxRecDepth 100000 in
/-- What a builder holds: nothing but its row is touched. -/
theorem bstringT_any {B b : Nat} {v : Value} {l : List UInt8} {w : World} (h : Bdr B b v l w) (h0 : l ≠ []) :
    Calls Tryz.prog 96 #[.pointer (some ⟨b, 0, none⟩)] w fun e w' => e = .returned (strV l) ∧ Touch (bdL b v) w w' := by
  have hl0 : l.length ≠ 0 := by simpa using h0
  have hown := h.own
  rw [Lib.byteCells_length] at hown
  obtain ⟨g, cap, cur, rfl, hbg, hg, hnc, hcm, hcs, htake⟩ : ∃ g cap cur, v = .slice (some ⟨g, 0, none⟩) l.length cap ∧ B ≤ g ∧ w.heap[g]? = some (.cells cur 5 (0, 0)) ∧ l.length ≤ cap ∧ cap ≤ maxLen ∧ cur.size = cap * 1 ∧ cur.toList.take (l.length * 1) = Lib.byteCells l := by
    rcases hown.2 with ⟨_, hz⟩ | ⟨g, cap, cur, hv, r⟩
    · exact absurd hz hl0
    · exact ⟨g, cap, cur, hv, r⟩
  have c1 : w.drew.cell? ⟨b, 1, none⟩ = some (.slice (some ⟨g, 0, none⟩) l.length cap) := by
    rcases h.at_ with h1 | h1
    · have : w.drew.heap[b]? = some (.cells #[.pointer none, .slice (some ⟨g, 0, none⟩) l.length cap] 155 (0, 0)) := h1
      rw [Lib.cell_of_heap this]; rfl
    · have : w.drew.heap[b]? = some (.cells #[.pointer (some ⟨b, 0, none⟩), .slice (some ⟨g, 0, none⟩) l.length cap] 155 (0, 0)) := h1
      rw [Lib.cell_of_heap this]; rfl
  have hSD : (Builtin.unsafeSliceData_ #[153] 219 #[.slice (some ⟨g, 0, none⟩) l.length cap]).run Tryz.prog w.drew = .ok (.pointer (some ⟨g, 0, none⟩)) w.drew :=
    Lib.run_unsafeSliceData_row _ _ _ _ _ _ (by omega)
  have hUS : (Builtin.unsafeString_ #[219, 3] 9 #[.pointer (some ⟨g, 0, none⟩), .int .i64 l.length]).run Tryz.prog w.drew = .ok (strV l) (w.drew.freeze ⟨g, 0, none⟩ l.length) := by
    refine Lib.run_unsafeString_row w.drew 219 3 9 5 Tryz.lays169.t127 extraS.cellsByte g cur.size (by have hg' : w.drew.heap[g]? = some (.cells cur 5 (0, 0)) := hg; simp [World.shape?, hg']) l h0 (by omega) (by unfold maxLen at hcm; omega) ?_
    intro j x hx
    exact hown.cells (g := g) rfl j (.int .u8 x.toNat) (by simp [Lib.byteCells, hx])
  have hgm : ∀ k ∈ [g], k ∈ bdL b (.slice (some ⟨g, 0, none⟩) l.length cap) := fun k hk => by
    simp only [List.mem_singleton] at hk
    subst hk
    refine bdL_mem.2 (.inr ?_)
    simp [Value.ownBlock]
  have HEnd : Hid (Touch (bdL b (.slice (some ⟨g, 0, none⟩) l.length cap)) w (w.drew.freeze ⟨g, 0, none⟩ l.length)) := Lib.hid ((Touch.ofBelow (Below.drew (Below.refl _ _))).trans (freeze_touch.wide hgm))
  clear h hown
  go_enter Tryz.func96, Tryz.ntmps96
  have d1 : w.cell? ⟨b, 1, none⟩ = some (.slice (some ⟨g, 0, none⟩) l.length cap) := c1
  have r1 := fun x => later_cell d1 x
  go_upto_region 1 with fail
  refine wp_region_seg (C := fun w' => ∃ x : Later (w), w' = x.val) [.fl [0, 1, 2, 3, 5, 6, 7, 8, 9], .sq [4] true, .sq [10, 11] false] (by kernel_rfl) (by kernel_rfl) (by intro c a d v w h; cases d <;> exact h) ?_
  simp only [segs, picks, List.getElem?_cons_succ, List.getElem?_cons_zero]
  have hC1 := later_drew (w)
  refine wpSeg_fl hC1 ?_
  repeat (first | go_big_quiet_step (fail) | quiet_step (fail))
  refine wpQuiet_nil ?_
  refine wpSeg_sq (fun K hK => ?_)
  go_wp2_with fail
  go_wp2_with fail
  refine hK _ _ (fun _ => hC1) ?_
  clear hK K
  refine wpSeg_last ?_
  go_wp2_with fail
  go_ret
  exact ⟨rfl, HEnd.out⟩

set_option maxRecDepth 100000 in
set_option maxHeartbeats 4000000 in
theorem dtext_any {w : World} {A : AF} {n B : Nat} {m : Al} (h : AlAt w A n B m) (hB1 : 2 ≤ B) (hB : B ≤ 1000) (hok : AlOk B m) (hlo : ∀ b : Nat, (hdGet m.bm.list (b : Int)).low) :
    Calls Tryz.prog 65 #[valloc A] w (Gives (strV (textOf B m)) w) := by
  have HP : Hid (∀ w' l, l = textOf B m → Below w.heap.size w w' → Gives (strV (textOf B m)) w (.returned (strV l)) w') := Lib.hid (fun w' l e h => by subst e; exact ⟨rfl, h⟩)
  generalize Gives (strV (textOf B m)) w = Post at *
  refine (callsIn_wide (n := 7)).1 ?_
  refine callsIn_of_wp_marks Tryz.func65 rfl trivial ?_ rfl
  simp only [Tryz.ntmps65, List.size_toArray, List.length_cons, List.length_nil, Nat.reduceAdd, Nat.reduceSub, Array.replicate_succ, Array.replicate_zero, List.push_toArray, List.append_toArray, List.nil_append, List.cons_append]
  gi_wp2_with (refine ⟨trivial, ?_⟩; gi_at_call 62; refine (dblocks_in A _ _).mono ?_; rintro e w' ⟨rfl, rfl⟩)
  obtain ⟨q, hq⟩ : ∃ q, q = w.heap.size := ⟨_, rfl⟩
  have hb0 := below_alloc w (.cells #[.pointer none, .slice none 0 0] 155)
  have hb1 := below_alloc (w.alloc (.cells #[.pointer none, .slice none 0 0] 155)) (.cells #[valloc A] 24)
  have hD := (bdr_new w).later hb1
  have hB2 := hb0.trans (hb1.mono hb0.size)
  have bx := Boxed.new (w.alloc (.cells #[.pointer none, .slice none 0 0] 155)) 24 (valloc A)
  rw [World.size_alloc] at bx
  have hsz : ((w.alloc (.cells #[.pointer none, .slice none 0 0] 155)).alloc (.cells #[valloc A] 24)).heap.size = w.heap.size + 2 := by simp
  have hA2 := h.below hB2
  have hX : ∀ z ∈ A.list, z < q := fun z hz => by rw [hq]; exact h.mem z hz
  generalize (w.alloc _).alloc _ = w2 at *
  rw [← hq] at hD bx hsz ⊢
  have HQ := Lib.hid hq
  clear hq
  have HA2 := Lib.hid hA2
  have HX := Lib.hid hX
  have HW2 := Lib.hid hB2
  have HSz := Lib.hid hsz
  have HOl : Hid ((onesL m.used).length ≤ 512000) := Lib.hid (by rw [onesL_length]; have := count_le_len m.used; rw [hok.lenU] at this; omega)
  refine wpIn_rangeFunc_ownG rfl (by omega) (gf := 128) (lb := #[.pointer (some ⟨q + 1, 0, none⟩)]) rfl trivial (enters_of Tryz.func128 (by kernel_rfl) rfl)
    (dblocks_stops 6 (by omega) (by omega) hB hlo (q + 1) q w2.heap.size HA2.out bx HX.out) KpT.trans (KpT.book (by omega) (by omega)) (Below.refl _ _) (fun _ => rfl)
    (fun pre W => (∃ v, Bdr q q v (txL bW (lnV pre)) W) ∧ Boxed W (q + 1) 24 (valloc A) ∧ Below q w W)
    (fun _ _ _ => False)
    (OwnFrom.and (Own.from (bdr_own (fun pre : List Ln => txL bW (lnV pre))) _) (OwnFrom.and (Own.from (boxed_own _ _ _) _) (ownFrom_below (by have := HQ.out; omega) (by have := HQ.out; omega))))
    (fun _ _ _ _ _ hs _ _ => hs)
    ⟨⟨_, by rw [show txL bW (lnV []) = [] from rfl]; exact hD⟩, bx, by rw [HQ.out]; exact hB2⟩
    (fun x => { tmps := #[valloc A, undef, .string { data := #[] }, .pointer (some ⟨q, 0, none⟩), strV x.val, undef, valloc A, .func (.func 128) #[] #[.pointer (some ⟨q + 1, 0, none⟩)], strV x.val, undef, undef, undef, undef, undef, undef, undef, undef, undef, undef, undef, undef], defers := [] }) ?assign ?body ?done ?stop
  case assign =>
    intro l x W K hK
    gi_wp2
    exact hK
  case body =>
    rintro l' pre x W ⟨⟨v, hv⟩, hbx, hbel⟩ hlt
    have hlen := txL_len (p := bW) (by decide) pre
    have hx9 := x.property
    have HBw := Lib.hid (bwriteT_any hv (bW ++ x.val ++ [10]) (by rw [List.length_append, List.length_append]; simp only [List.length_cons, List.length_nil]; have : bW.length = 6 := rfl; omega) (by have := hbel.size; have := HQ.out; omega))
    have HXs : Hid (strV (bW ++ x.val ++ [10]) = .string (({ data := #[98, 108, 111, 99, 107, 32] } : ByteArray) ++ bstr x.val ++ { data := #[10] })) := Lib.hid (by rw [show strV (bW ++ x.val ++ [10]) = Value.string (bstr (bW ++ x.val ++ [10])) from rfl, ← bstr_append, ← bstr_append]; rfl)
    rw [HXs.out] at HBw
    have hl1 : (bstr x.val).size ≤ 300000 := by rw [bstr_size]; exact hx9
    gi_wp2_with (refine ⟨trivial, ?_⟩; gi_at_call 120; refine (callsIn_wide.2 HBw.out).mono ?_; rintro e w' ⟨rfl, v', hd', ht'⟩)
    refine ⟨bdr_keeps hv ht' _, bdr_kpT hv ht' hbx (by have := hbel.size; have := HQ.out; omega), ⟨v', by rw [lnV_snoc, txL_snoc]; exact hd'⟩, ?_, ?_⟩
    · exact ((bdr_kpT (n₁ := 0) hv ht' hbx (by have := hbel.size; have := HQ.out; omega)).2.1).trans hbx
    · exact hbel.trans (bdr_kpT (n₁ := 0) hv ht' hbx (by have := hbel.size; have := HQ.out; omega)).1
  case stop =>
    rintro D c pre W _ _ h _
    exact h.elim
  case done =>
    rintro D ys W hD1 hys ⟨⟨v, hv⟩, hbx, hbel⟩ hK
    have HV := Lib.hid hv
    have HBl := Lib.hid hbel
    have HK := Lib.hid hK
    have HYs := Lib.hid hys
    have HYl : Hid (ys.length < B) := Lib.hid (by have h1 := congrArg List.length hys; rw [blkTo_len] at h1; simp [lnV] at h1; omega)
    have HD1 := Lib.hid hD1
    clear hv hbel hK hys hD bx hsz hD1 hbx
    gi_wp2_with (refine ⟨trivial, ?_⟩; gi_at_call 63; refine (dobjects_in A _ _).mono ?_; rintro e w' ⟨rfl, rfl⟩)
    have HQW : Hid (q + 2 ≤ W.heap.size) := Lib.hid (by have := HBl.out.size; have := HV.out.lt; have := (Array.getElem?_eq_some_iff.1 HK.out).1; have := HD1.out; have := HSz.out; omega)
    have hbw := below_alloc W (.cells #[valloc A] 24)
    have hv3 := HV.out.later hbw
    have hbx3 := Boxed.new W 24 (valloc A)
    have hb3 : Below q w (W.alloc (.cells #[valloc A] 24)) := HBl.out.trans (hbw.mono (by have := HQW.out; omega))
    have hk3 : (W.alloc (.cells #[valloc A] 24)).heap[D]? = some (.deferred (some [])) := (hbw.block D (Array.getElem?_eq_some_iff.1 HK.out).1).trans HK.out
    have hsz3 : (W.alloc (.cells #[valloc A] 24)).heap.size = W.heap.size + 1 := by simp
    have hdl : D < W.heap.size := (Array.getElem?_eq_some_iff.1 HK.out).1
    have HA3 : Hid (AlAt (W.alloc (.cells #[valloc A] 24)) A n B m) := Lib.hid (h.below (by rw [← HQ.out]; exact hb3))
    obtain ⟨p, hp⟩ : ∃ p, p = W.heap.size := ⟨_, rfl⟩
    generalize W.alloc _ = w3 at *
    rw [← hp] at hbx3 hsz3 hdl ⊢
    clear hbw hp HV HK
    refine wpIn_rangeFunc_ownG rfl (by omega) (gf := 131) (lb := #[.pointer (some ⟨p, 0, none⟩)]) rfl trivial (enters_of Tryz.func131 (by kernel_rfl) rfl)
      (dobjects_stops 6 (by omega) hB hok p q w3.heap.size HA3.out hbx3 HX.out (Nat.le_refl _)) KpT.trans (KpT.book (by have := hb3.size; have := HQ.out; omega) (by omega)) (Below.refl _ _) (fun _ => rfl)
      (fun pre W => (∃ v, Bdr q q v (txL bW (lnV ys) ++ txL oW (lnV pre)) W) ∧ Boxed W p 24 (valloc A) ∧ Below q w W ∧ W.heap[D]? = some (.deferred (some [])))
      (fun _ _ _ => False)
      (OwnFrom.and (Own.from (bdr_own (fun pre : List Ln => txL bW (lnV ys) ++ txL oW (lnV pre))) _) (OwnFrom.and (Own.from (boxed_own _ _ _) _) (OwnFrom.and (ownFrom_below (by have := HQ.out; omega) (by have := hb3.size; have := HQ.out; omega)) (kept_own (by omega)))))
      (fun _ _ _ _ _ hs _ _ => hs)
      ⟨⟨_, by rw [show txL oW (lnV []) = [] from rfl, List.append_nil]; exact hv3⟩, hbx3, hb3, hk3⟩
      (fun x => { tmps := #[valloc A, undef, .string { data := #[] }, .pointer (some ⟨q, 0, none⟩), undef, strV x.val, valloc A, .func (.func 128) #[] #[.pointer (some ⟨q + 1, 0, none⟩)], undef, undef, undef, undef, undef, valloc A, .func (.func 131) #[] #[.pointer (some ⟨p, 0, none⟩)], strV x.val, undef, undef, undef, undef, undef], defers := [] }) ?assign2 ?body2 ?done2 ?stop2
    case assign2 =>
      intro l x W K hK
      gi_wp2
      exact hK
    case body2 =>
      rintro l' pre x W' ⟨⟨v, hv⟩, hbx, hbel, hk⟩ hlt
      have hlen := txL_len (p := oW) (by decide) pre
      have hlen0 := txL_len (p := bW) (by decide) ys
      have hyl := HYl.out
      have hol := HOl.out
      have hx9 := x.property
      have hq9 := HQ.out
      have hbs := hbel.size
      have how : oW.length = 7 := rfl
      have HBw := Lib.hid (bwriteT_any hv (oW ++ x.val ++ [10]) (by rw [List.length_append, List.length_append, List.length_append]; simp only [List.length_cons, List.length_nil]; omega) (by omega))
      have HXs : Hid (strV (oW ++ x.val ++ [10]) = .string (({ data := #[111, 98, 106, 101, 99, 116, 32] } : ByteArray) ++ bstr x.val ++ { data := #[10] })) := Lib.hid (by rw [show strV (oW ++ x.val ++ [10]) = Value.string (bstr (oW ++ x.val ++ [10])) from rfl, ← bstr_append, ← bstr_append]; rfl)
      rw [HXs.out] at HBw
      have hl1 : (bstr x.val).size ≤ 300000 := by rw [bstr_size]; exact hx9
      clear hq9
      gi_wp2_with (refine ⟨trivial, ?_⟩; gi_at_call 120; refine (callsIn_wide.2 HBw.out).mono ?_; rintro e w' ⟨rfl, v', hd', ht'⟩)
      have hq9 := HQ.out
      have hkp := bdr_kpT (n₁ := w3.heap.size) hv ht' hbx (by omega)
      exact ⟨bdr_keeps hv ht' _, hkp, ⟨v', by rw [lnV_snoc, txL_snoc, ← List.append_assoc]; exact hd'⟩, hkp.2.1.trans hbx, hbel.trans hkp.1, (bdr_keeps hv ht' 0).same D _ (Nat.zero_le _) hk rfl⟩
    case stop2 =>
      rintro D c pre W _ _ h _
      exact h.elim
    case done2 =>
      rintro D2 zs W' hD2 hzs ⟨⟨v, hv⟩, hbx, hbel, hk⟩ hK2
      have hEt : txL bW (lnV ys) ++ txL oW (lnV zs) = textOf B m := by rw [HYs.out, hzs]; rfl
      rw [hEt] at hv
      have HSt := Lib.hid (bstringT_any hv (textOf_ne (by omega) m))
      clear hzs
      gi_wp2_with (refine ⟨trivial, ?_⟩; gi_at_call 96; refine (callsIn_wide.2 HSt.out).mono ?_; rintro e w' ⟨rfl, ht'⟩)
      have hkp := bdr_kpT (n₁ := 0) hv ht' hbx (by have := hbel.size; have := HQ.out; omega)
      have k1 : w'.heap[D]? = some (.deferred (some [])) := (bdr_keeps hv ht' 0).same D _ (Nat.zero_le _) hk rfl
      have k2 : w'.heap[D2]? = some (.deferred (some [])) := (bdr_keeps hv ht' 0).same D2 _ (Nat.zero_le _) hK2 rfl
      have hne : D ≠ D2 := by have := HQ.out; omega
      have k1' : (w'.putObj D2 (.deferred none)).heap[D]? = some (.deferred (some [])) := (World.putObj_heap_other hne).trans k1
      have hb2 := (hbel.trans hkp.1).trans (belowK_b (w := w3) (by have := hb3.size; have := HQ.out; omega) w' D2 _ (.deferred none) hD2 k2 rfl rfl)
      have hb1 := hb2.trans (belowK_b (w := w2) (by have := HQ.out; have := HW2.out.size; omega) (w'.putObj D2 (.deferred none)) D _ (.deferred none) HD1.out k1' rfl rfl)
      have HEnd := Lib.hid (HP.out _ _ rfl (by rw [← HQ.out]; exact hb1))
      refine ⟨by simp, .inl ⟨_, _, rfl, run_takeDeferred k2, ?_⟩⟩
      refine ⟨by simp, .inl ⟨_, _, rfl, run_takeDeferred k1', ?_⟩⟩
      refine ⟨strV (textOf B m), ?_, HEnd.out⟩
      exact results_tmp (t := 2) rfl _ _ _
end Go.Proofs.YtfedgcdkagngnaaGreat
