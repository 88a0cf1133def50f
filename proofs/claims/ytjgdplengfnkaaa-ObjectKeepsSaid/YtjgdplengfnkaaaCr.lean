/- crc: its table, its sums. -/
import Derived.Test.YtjgdplengfnkaaaCp
import Derived.Test.YtjgdplengfnkaaaC
import Derived.Laws.BitsAllLaws
namespace Go.Proofs.Ytjgdplengfnkaaa
open Go.RowKit
set_option linter.unusedVariables false

abbrev vu32 (n : Nat) : Value := .int .u32 (n : Int)

def tableV : Array Value := (tableL.map vu32).toArray
theorem tableV_at (k : Nat) (h : k < 16) : tableV[k]? = some (vu32 (tableL.getD k 0)) := by
  have hj : k < tableL.length := h
  simp only [tableV, List.getElem?_toArray, List.getElem?_map, List.getElem?_eq_getElem hj, Option.map_some, List.getD_eq_getElem?_getD, Option.getD_some]

set_option maxHeartbeats 400000 in
set_option maxRecDepth 100000 in
theorem table_any (x : Nat) (hx : x < 256) (w : World) : Calls Try.prog 114 #[vu8 x] w fun e w' => e = .returned (vu32 (tabN x)) ∧ w = w' := by
  have HV := Lib.hid (tableV_at (x % 16) (Nat.mod_lt _ (by decide)))
  go_enter Try.func114, Try.ntmps114
  go_wp2_with (refine wpList_index_arr (x % 16) Try.underlying179 Try.underlying143 rfl (by kernel_rfl) (by omega) (by omega) HV.out rfl rfl rfl rfl ?_)
  go_ret
  exact ⟨ret_int (by rw [tabN, List.getD_eq_getElem?_getD]), rfl⟩

theorem not_val (s : Nat) (h : s < 2 ^ 32) : bits BinOp.xor IntKind.u32 IntKind.u32.max (s : Int) = ((4294967295 - s : Nat) : Int) := by
  have e : IntKind.u32.max = ((4294967295 : Nat) : Int) := by decide
  rw [e, u32_xor_nat _ _ (by decide) h, not32 s h]

theorem nib_val1 (s b : Nat) (h : s < 2 ^ 32) (hb : b < 256) : bits BinOp.xor IntKind.u8 ((s : Int) % 256) (b : Int) = ((s % 256 ^^^ b : Nat) : Int) := by
  rw [show (s : Int) % 256 = ((s % 256 : Nat) : Int) by omega, u8_xor_nat _ _ (Nat.mod_lt _ (by decide)) hb]

theorem nib_val2 (s b : Nat) (h : s < 2 ^ 32) : bits BinOp.xor IntKind.u32 ((tabN (s % 256 ^^^ b) : Nat) : Int) ((s : Int) / 16) = ((nib s b : Nat) : Int) := by
  rw [show (s : Int) / 16 = ((s / 16 : Nat) : Int) by omega, u32_xor_nat _ _ (show tabN _ < 4294967296 from tableL_lt _) (by omega)]; rfl

set_option maxHeartbeats 400000 in
theorem more_any (s : Nat) (hs : s < 2 ^ 32) (a : Option Addr) {n : Nat} (cap : Nat) (zs : List Nat) (hn : zs.length = n) (w : World) (hcs : Cells w a (zs.map vu8)) (hz : ∀ z ∈ zs, z < 256) (hl : zs.length ≤ 1000000) :
    Calls Try.prog 113 #[vu32 s, .slice a n cap] w fun e w' => e = .returned (vu32 (moreN s zs)) ∧ w = w' := by
  subst hn
  have HZ := Lib.hid hz
  clear hz
  go_enter Try.func113, Try.ntmps113
  go_wp2_with fail
  rw [not_val s hs]
  have hs0 : 4294967295 - s < 2 ^ 32 := by omega
  obtain ⟨q, hq⟩ : ∃ q, q = 4294967295 - s := ⟨_, rfl⟩
  rw [← hq] at hs0 ⊢
  have HQ := Lib.hid hq
  clear hq
  go_loop [0, 11] (fun v i => ∃ k : Nat, k ≤ zs.length ∧ i = .int .i64 k ∧ v = vu32 (foldN q (zs.take k))) (fun _ i => zs.length - (intOf i).toNat)
  case atStart => exact ⟨0, Nat.zero_le _, rfl, rfl⟩
  case round =>
    obtain ⟨k, hk, rfl, rfl⟩ := hrel
    by_cases hlt : k < zs.length
    · obtain ⟨b, off, rfl, hbs, hc⟩ := hcs.atMap 0 hlt
      have hcell : w.cell? ⟨b, off + k, none⟩ = some (.int .u8 (zs.getD k 0 : Nat)) := hc k hlt
      have hx := HZ.out (zs.getD k 0) (by simp [hlt])
      have hf := foldN_lt (zs.take k) (fun z hz => HZ.out z (List.mem_of_mem_take hz)) q hs0
      have HS := Lib.hid (foldN_take q zs k hlt)
      clear hc
      generalize zs.getD k 0 = x at *
      generalize foldN q (zs.take k) = s1 at *
      have HB := Lib.hid (byteN_nib s1 x hx)
      have hn1 := nib_lt s1 x hf
      go_wp2_with fail
      rw [nib_val1 s1 x hf hx]
      refine (table_any _ (Nat.xor_lt_two_pow (n := 8) (Nat.mod_lt _ (by decide)) hx) _).mono ?_
      rintro e w1 ⟨rfl, rfl⟩
      go_wp2_with fail
      rw [nib_val2 s1 x hf]
      generalize nib s1 x = s2 at *
      have hx2 : x / 16 < 256 := by omega
      rw [show (x : Int) / 16 = ((x / 16 : Nat) : Int) by omega]
      generalize x / 16 = x2 at *
      go_wp2_with fail
      rw [nib_val1 s2 x2 hn1 hx2]
      refine (table_any _ (Nat.xor_lt_two_pow (n := 8) (Nat.mod_lt _ (by decide)) hx2) _).mono ?_
      rintro e w1 ⟨rfl, rfl⟩
      go_wp2_with fail
      rw [nib_val2 s2 x2 hn1, HB.out, ← HS.out]
      exact ⟨⟨k + 1, by omega, vint (by omega), rfl⟩, by simp [intOf]; omega⟩
    · obtain rfl : k = zs.length := by omega
      rw [List.take_length]
      have hf := foldN_lt zs HZ.out q hs0
      have HM : Hid (moreN s zs = 4294967295 - foldN q zs) := Lib.hid (by rw [HQ.out]; rfl)
      generalize foldN q zs = s1 at *
      go_wp2_with fail
      go_ret
      exact ⟨ret_int (by rw [not_val s1 hf, HM.out]), rfl⟩

set_option maxHeartbeats 400000 in
theorem sum_any (a : Option Addr) {n : Nat} (cap : Nat) (zs : List Nat) (hn : zs.length = n) (w : World) (hcs : Cells w a (zs.map vu8)) (hz : ∀ z ∈ zs, z < 256) (hl : zs.length ≤ 1000000) :
    Calls Try.prog 109 #[.slice a n cap] w fun e w' => e = .returned (vu32 (moreN 0 zs)) ∧ w = w' := by
  go_enter Try.func109, Try.ntmps109
  go_wp2_with fail
  refine (more_any 0 (by decide) a cap zs hn w hcs hz hl).mono ?_
  rintro e w2 ⟨rfl, rfl⟩
  go_wp2_with fail
  go_ret
  exact ⟨rfl, rfl⟩

def wordsN (ws : List Nat) : Nat := moreN 0 (unpack ws)

set_option maxHeartbeats 400000 in
theorem crcWords_any (a : Option Addr) {n : Nat} (cap : Nat) (ws : List Nat) (hn : ws.length = n) (w : World) (h : Cells w a (ws.map vu64)) (hz : ∀ z ∈ ws, z < 18446744073709551616) (hl : ws.length ≤ 1000) :
    Calls Try.prog 106 #[.slice a n cap] w fun e w' => e = .returned (vu32 (wordsN ws)) ∧ Below w.heap.size w w' := by
  go_enter Try.func106, Try.ntmps106
  go_wp2_with fail
  refine (bytes_any a cap ws hn w h hz (by omega)).mono ?_
  rintro e w1 ⟨v, rfl, ho, hb⟩
  obtain ⟨a1, c1, rfl, _, _⟩ := owned_form ho
  have hcs := Cells.owned ho
  have hl1 : (unpack ws).length ≤ 1000000 := by rw [unpack_length]; omega
  have hz1 := unpack_lt ws
  clear ho
  go_wp2_with fail
  refine (sum_any a1 c1 (unpack ws) rfl w1 hcs hz1 hl1).mono ?_
  rintro e w2 ⟨rfl, rfl⟩
  go_wp2_with fail
  go_ret
  exact ⟨rfl, hb⟩

/-- A number below its sum. -/
def sealN (n place : Nat) : Nat := wordsN [n, place] * 4294967296 + n

theorem wordsN_lt (ws : List Nat) : wordsN ws < 4294967296 := moreN_lt _ _

/-- A place, as a word. -/
def pl (p : Int) : Nat := (p % 18446744073709551616).toNat
theorem pl_lt (p : Int) : pl p < 18446744073709551616 := by unfold pl; omega

theorem pl_wrap (p : Int) : IntKind.u64.wrap p = (pl p : Int) := by rw [IntKind.wrap_u64]; unfold pl; omega

theorem seal_val (n : Nat) (h : n < 4294967296) (x : Nat) (hx : x < 4294967296) : bits BinOp.or IntKind.u64 ((x : Int) * 4294967296) (n : Int) = ((x * 4294967296 + n : Nat) : Int) := by
  have e : ((x : Int) * 4294967296) = ((x * 4294967296 : Nat) : Int) := by omega
  rw [e, u64_or_nat _ _ (by omega) (by omega)]
  have := Nat.two_pow_add_eq_or_of_lt (i := 32) (b := n) h x
  congr 1
  rw [Nat.mul_comm x]
  exact this.symm

set_option maxHeartbeats 400000 in
theorem seal_any (n : Nat) (p : Int) (hn : n < 4294967296) (w : World) :
    Calls Try.prog 92 #[vu32 n, .int .i64 p] w fun e w' => e = .returned (vu64 (sealN n (pl p))) ∧ Below w.heap.size w w' := by
  go_enter Try.func92, Try.ntmps92
  go_wp2_with fail
  rw [pl_wrap p]
  have hp := pl_lt p
  obtain ⟨q, hq⟩ : ∃ q, q = pl p := ⟨_, rfl⟩
  rw [← hq] at hp ⊢
  have HQ := Lib.hid hq
  clear hq
  have HS : Hid (sealN n q = wordsN [n, q] * 4294967296 + n) := Lib.hid rfl
  have hb0 := below_alloc w (Obj.cells #[Value.int IntKind.u64 (n : Int), Value.int IntKind.u64 (q : Int)] 76)
  have hc0 : Cells (w.alloc (Obj.cells #[Value.int IntKind.u64 (n : Int), Value.int IntKind.u64 (q : Int)] 76)) (some ⟨w.heap.size, 0, none⟩) ([n, q].map vu64) := by
    refine .inr ⟨_, _, rfl, fun i v hi => ?_⟩
    rw [Nat.zero_add]
    refine cell_alloc_new _ _ _ _ _ ?_
    simpa using hi
  generalize w.alloc (Obj.cells #[Value.int IntKind.u64 (n : Int), Value.int IntKind.u64 (q : Int)] 76) = w0 at *
  refine (crcWords_any _ 2 [n, q] rfl w0 hc0 (by simp; omega) (by simp)).mono ?_
  rintro e w1 ⟨rfl, hb1⟩
  have hb := hb0.trans (hb1.mono hb0.size)
  have hw := wordsN_lt [n, q]
  generalize wordsN [n, q] = x at *
  clear hb0 hb1 hc0
  go_wp2_with fail
  go_ret
  exact ⟨ret_int (by rw [seal_val n hn x hw, ← HQ.out, HS.out]), hb⟩

theorem sealN_mod (n q : Nat) (h : n < 4294967296) : sealN n q % 4294967296 = n := by unfold sealN; omega
theorem sealN_lt (n q : Nat) (h : n < 4294967296) : sealN n q < 18446744073709551616 := by have := wordsN_lt [n, q]; unfold sealN; omega

/-- The number of a sealed word. -/
def openN (x q : Nat) : Option Nat := if sealN (x % 4294967296) q = x then some (x % 4294967296) else none

/-- What crc.Open answers. -/
def openV : Option Nat → Value
  | some n => .tuple #[vu32 n, .bool true]
  | none => .tuple #[vu32 0, .bool false]

set_option maxHeartbeats 400000 in
theorem open_any (x : Nat) (p : Int) (hx : x < 18446744073709551616) (w : World) :
    Calls Try.prog 75 #[vu64 x, .int .i64 p] w fun e w' => e = .returned (openV (openN x (pl p))) ∧ Below w.heap.size w w' := by
  go_enter Try.func75, Try.ntmps75
  go_wp2_with fail
  rw [show (x : Int) % 4294967296 = ((x % 4294967296 : Nat) : Int) by omega]
  have hn : x % 4294967296 < 4294967296 := Nat.mod_lt _ (by decide)
  have HO : Hid (openN x (pl p) = if sealN (x % 4294967296) (pl p) = x then some (x % 4294967296) else none) := Lib.hid rfl
  generalize x % 4294967296 = n at *
  refine (seal_any n p hn w).mono ?_
  rintro e w1 ⟨rfl, hb⟩
  have hs := sealN_lt n (pl p) hn
  generalize sealN n (pl p) = y at *
  by_cases he : y = x
  · have HV : Hid (openV (openN x (pl p)) = .tuple #[vu32 n, .bool true]) := Lib.hid (by rw [HO.out, if_pos he]; rfl)
    subst he
    go_wp2_with fail
    go_ret2
    exact ⟨by rw [HV.out]; rfl, hb⟩
  · have HV : Hid (openV (openN x (pl p)) = .tuple #[vu32 0, .bool false]) := Lib.hid (by rw [HO.out, if_neg he]; rfl)
    have he' : ¬ ((y : Int) = (x : Int)) := by omega
    clear he
    go_wp2_with fail
    go_ret2
    exact ⟨by rw [HV.out]; rfl, hb⟩

end Go.Proofs.Ytjgdplengfnkaaa
