/- Parts of the proof, one behind the other: Cr, Cs, HdA, HdB, HdC, Bk, HdD, Rk, Bo, Sa, Sp, Sq, Ss, Fm. -/
import Derived.Test.YtjgdplengfnkaaaM2
import Derived.Laws.BitsAllLaws
import Derived.Deep.QuietTactic
import Derived.BigQuiet

/- crc: its table, its sums. -/
namespace Go.Proofs.Ytjgdplengfnkaaa
open Go.RowKit
set_option linter.unusedVariables false

abbrev vu32 (n : Nat) : Value := .int .u32 (n : Int)

def tableV : Array Value := (tableL.map vu32).toArray
theorem tableV_at (k : Nat) (h : k < 16) : tableV[k]? = some (vu32 (tableL.getD k 0)) := by
  have hj : k < tableL.length := h
  simp only [tableV, List.getElem?_toArray, List.getElem?_map, List.getElem?_eq_getElem hj, Option.map_some, List.getD_eq_getElem?_getD, Option.getD_some]

set_option maxHeartbeats 400000 in
set_option maxRecDepth 100000 in
theorem table_any (x : Nat) (hx : x < 256) (w : World) : Calls Try.prog 114 #[vu8 x] w fun e w' => e = .returned (vu32 (tabN x)) ∧ w = w' := by
  have HV := Lib.hid (tableV_at (x % 16) (Nat.mod_lt _ (by decide)))
  go_enter Try.func114, Try.ntmps114
  go_wp2_with (refine wpList_index_arr (x % 16) Try.underlying179 Try.underlying143 rfl (by kernel_rfl) (by omega) (by omega) HV.out rfl rfl rfl rfl ?_)
  go_ret
  exact ⟨ret_int (by rw [tabN, List.getD_eq_getElem?_getD]), rfl⟩

theorem not_val (s : Nat) (h : s < 2 ^ 32) : bits BinOp.xor IntKind.u32 IntKind.u32.max (s : Int) = ((4294967295 - s : Nat) : Int) := by
  have e : IntKind.u32.max = ((4294967295 : Nat) : Int) := by decide
  rw [e, u32_xor_nat _ _ (by decide) h, not32 s h]

theorem nib_val1 (s b : Nat) (h : s < 2 ^ 32) (hb : b < 256) : bits BinOp.xor IntKind.u8 ((s : Int) % 256) (b : Int) = ((s % 256 ^^^ b : Nat) : Int) := by
  rw [show (s : Int) % 256 = ((s % 256 : Nat) : Int) by omega, u8_xor_nat _ _ (Nat.mod_lt _ (by decide)) hb]

theorem nib_val2 (s b : Nat) (h : s < 2 ^ 32) : bits BinOp.xor IntKind.u32 ((tabN (s % 256 ^^^ b) : Nat) : Int) ((s : Int) / 16) = ((nib s b : Nat) : Int) := by
  rw [show (s : Int) / 16 = ((s / 16 : Nat) : Int) by omega, u32_xor_nat _ _ (show tabN _ < 4294967296 from tableL_lt _) (by omega)]; rfl

set_option maxHeartbeats 400000 in
theorem more_any (s : Nat) (hs : s < 2 ^ 32) (a : Option Addr) {n : Nat} (cap : Nat) (zs : List Nat) (hn : zs.length = n) (w : World) (hcs : Cells w a (zs.map vu8)) (hz : ∀ z ∈ zs, z < 256) (hl : zs.length ≤ 1000000) :
    Calls Try.prog 113 #[vu32 s, .slice a n cap] w fun e w' => e = .returned (vu32 (moreN s zs)) ∧ w = w' := by
  subst hn
  have HZ := Lib.hid hz
  clear hz
  go_enter Try.func113, Try.ntmps113
  go_wp2_with fail
  rw [not_val s hs]
  have hs0 : 4294967295 - s < 2 ^ 32 := by omega
  obtain ⟨q, hq⟩ : ∃ q, q = 4294967295 - s := ⟨_, rfl⟩
  rw [← hq] at hs0 ⊢
  have HQ := Lib.hid hq
  clear hq
  go_loop [0, 11] (fun v i => ∃ k : Nat, k ≤ zs.length ∧ i = .int .i64 k ∧ v = vu32 (foldN q (zs.take k))) (fun _ i => zs.length - (intOf i).toNat)
  case atStart => exact ⟨0, Nat.zero_le _, rfl, rfl⟩
  case round =>
    obtain ⟨k, hk, rfl, rfl⟩ := hrel
    by_cases hlt : k < zs.length
    · obtain ⟨b, off, rfl, hbs, hc⟩ := hcs.atMap 0 hlt
      have hcell : w.cell? ⟨b, off + k, none⟩ = some (.int .u8 (zs.getD k 0 : Nat)) := hc k hlt
      have hx := HZ.out (zs.getD k 0) (by simp [hlt])
      have hf := foldN_lt (zs.take k) (fun z hz => HZ.out z (List.mem_of_mem_take hz)) q hs0
      have HS := Lib.hid (foldN_take q zs k hlt)
      clear hc
      generalize zs.getD k 0 = x at *
      generalize foldN q (zs.take k) = s1 at *
      have HB := Lib.hid (byteN_nib s1 x hx)
      have hn1 := nib_lt s1 x hf
      go_wp2_with fail
      rw [nib_val1 s1 x hf hx]
      refine (table_any _ (Nat.xor_lt_two_pow (n := 8) (Nat.mod_lt _ (by decide)) hx) _).mono ?_
      rintro e w1 ⟨rfl, rfl⟩
      go_wp2_with fail
      rw [nib_val2 s1 x hf]
      generalize nib s1 x = s2 at *
      have hx2 : x / 16 < 256 := by omega
      rw [show (x : Int) / 16 = ((x / 16 : Nat) : Int) by omega]
      generalize x / 16 = x2 at *
      go_wp2_with fail
      rw [nib_val1 s2 x2 hn1 hx2]
      refine (table_any _ (Nat.xor_lt_two_pow (n := 8) (Nat.mod_lt _ (by decide)) hx2) _).mono ?_
      rintro e w1 ⟨rfl, rfl⟩
      go_wp2_with fail
      rw [nib_val2 s2 x2 hn1, HB.out, ← HS.out]
      exact ⟨⟨k + 1, by omega, vint (by omega), rfl⟩, by simp [intOf]; omega⟩
    · obtain rfl : k = zs.length := by omega
      rw [List.take_length]
      have hf := foldN_lt zs HZ.out q hs0
      have HM : Hid (moreN s zs = 4294967295 - foldN q zs) := Lib.hid (by rw [HQ.out]; rfl)
      generalize foldN q zs = s1 at *
      go_wp2_with fail
      go_ret
      exact ⟨ret_int (by rw [not_val s1 hf, HM.out]), rfl⟩

set_option maxHeartbeats 400000 in
theorem sum_any (a : Option Addr) {n : Nat} (cap : Nat) (zs : List Nat) (hn : zs.length = n) (w : World) (hcs : Cells w a (zs.map vu8)) (hz : ∀ z ∈ zs, z < 256) (hl : zs.length ≤ 1000000) :
    Calls Try.prog 109 #[.slice a n cap] w fun e w' => e = .returned (vu32 (moreN 0 zs)) ∧ w = w' := by
  go_enter Try.func109, Try.ntmps109
  go_wp2_with fail
  refine (more_any 0 (by decide) a cap zs hn w hcs hz hl).mono ?_
  rintro e w2 ⟨rfl, rfl⟩
  go_wp2_with fail
  go_ret
  exact ⟨rfl, rfl⟩

def wordsN (ws : List Nat) : Nat := moreN 0 (unpack ws)

set_option maxHeartbeats 400000 in
theorem crcWords_any (a : Option Addr) {n : Nat} (cap : Nat) (ws : List Nat) (hn : ws.length = n) (w : World) (h : Cells w a (ws.map vu64)) (hz : ∀ z ∈ ws, z < 18446744073709551616) (hl : ws.length ≤ 1000) :
    Calls Try.prog 106 #[.slice a n cap] w fun e w' => e = .returned (vu32 (wordsN ws)) ∧ Below w.heap.size w w' := by
  go_enter Try.func106, Try.ntmps106
  go_wp2_with fail
  refine (bytes_any a cap ws hn w h hz (by omega)).mono ?_
  rintro e w1 ⟨v, rfl, ho, hb⟩
  obtain ⟨a1, c1, rfl, _, _⟩ := owned_form ho
  have hcs := Cells.owned ho
  have hl1 : (unpack ws).length ≤ 1000000 := by rw [unpack_length]; omega
  have hz1 := unpack_lt ws
  clear ho
  go_wp2_with fail
  refine (sum_any a1 c1 (unpack ws) rfl w1 hcs hz1 hl1).mono ?_
  rintro e w2 ⟨rfl, rfl⟩
  go_wp2_with fail
  go_ret
  exact ⟨rfl, hb⟩

/-- A number below its sum. -/
def sealN (n place : Nat) : Nat := wordsN [n, place] * 4294967296 + n

theorem wordsN_lt (ws : List Nat) : wordsN ws < 4294967296 := moreN_lt _ _

/-- A place, as a word. -/
def pl (p : Int) : Nat := (p % 18446744073709551616).toNat
theorem pl_lt (p : Int) : pl p < 18446744073709551616 := by unfold pl; omega

theorem pl_wrap (p : Int) : IntKind.u64.wrap p = (pl p : Int) := by rw [IntKind.wrap_u64]; unfold pl; omega

theorem seal_val (n : Nat) (h : n < 4294967296) (x : Nat) (hx : x < 4294967296) : bits BinOp.or IntKind.u64 ((x : Int) * 4294967296) (n : Int) = ((x * 4294967296 + n : Nat) : Int) := by
  have e : ((x : Int) * 4294967296) = ((x * 4294967296 : Nat) : Int) := by omega
  rw [e, u64_or_nat _ _ (by omega) (by omega)]
  have := Nat.two_pow_add_eq_or_of_lt (i := 32) (b := n) h x
  congr 1
  rw [Nat.mul_comm x]
  exact this.symm

set_option maxHeartbeats 400000 in
theorem seal_any (n : Nat) (p : Int) (hn : n < 4294967296) (w : World) :
    Calls Try.prog 92 #[vu32 n, .int .i64 p] w fun e w' => e = .returned (vu64 (sealN n (pl p))) ∧ Below w.heap.size w w' := by
  go_enter Try.func92, Try.ntmps92
  go_wp2_with fail
  rw [pl_wrap p]
  have hp := pl_lt p
  obtain ⟨q, hq⟩ : ∃ q, q = pl p := ⟨_, rfl⟩
  rw [← hq] at hp ⊢
  have HQ := Lib.hid hq
  clear hq
  have HS : Hid (sealN n q = wordsN [n, q] * 4294967296 + n) := Lib.hid rfl
  have hb0 := below_alloc w (Obj.cells #[Value.int IntKind.u64 (n : Int), Value.int IntKind.u64 (q : Int)] 76)
  have hc0 : Cells (w.alloc (Obj.cells #[Value.int IntKind.u64 (n : Int), Value.int IntKind.u64 (q : Int)] 76)) (some ⟨w.heap.size, 0, none⟩) ([n, q].map vu64) := by
    refine .inr ⟨_, _, rfl, fun i v hi => ?_⟩
    rw [Nat.zero_add]
    refine cell_alloc_new _ _ _ _ _ ?_
    simpa using hi
  generalize w.alloc (Obj.cells #[Value.int IntKind.u64 (n : Int), Value.int IntKind.u64 (q : Int)] 76) = w0 at *
  refine (crcWords_any _ 2 [n, q] rfl w0 hc0 (by simp; omega) (by simp)).mono ?_
  rintro e w1 ⟨rfl, hb1⟩
  have hb := hb0.trans (hb1.mono hb0.size)
  have hw := wordsN_lt [n, q]
  generalize wordsN [n, q] = x at *
  clear hb0 hb1 hc0
  go_wp2_with fail
  go_ret
  exact ⟨ret_int (by rw [seal_val n hn x hw, ← HQ.out, HS.out]), hb⟩

theorem sealN_mod (n q : Nat) (h : n < 4294967296) : sealN n q % 4294967296 = n := by unfold sealN; omega
theorem sealN_lt (n q : Nat) (h : n < 4294967296) : sealN n q < 18446744073709551616 := by have := wordsN_lt [n, q]; unfold sealN; omega

/-- The number of a sealed word. -/
def openN (x q : Nat) : Option Nat := if sealN (x % 4294967296) q = x then some (x % 4294967296) else none

/-- What crc.Open answers. -/
def openV : Option Nat → Value
  | some n => .tuple #[vu32 n, .bool true]
  | none => .tuple #[vu32 0, .bool false]

set_option maxHeartbeats 400000 in
theorem open_any (x : Nat) (p : Int) (hx : x < 18446744073709551616) (w : World) :
    Calls Try.prog 75 #[vu64 x, .int .i64 p] w fun e w' => e = .returned (openV (openN x (pl p))) ∧ Below w.heap.size w w' := by
  go_enter Try.func75, Try.ntmps75
  go_wp2_with fail
  rw [show (x : Int) % 4294967296 = ((x % 4294967296 : Nat) : Int) by omega]
  have hn : x % 4294967296 < 4294967296 := Nat.mod_lt _ (by decide)
  have HO : Hid (openN x (pl p) = if sealN (x % 4294967296) (pl p) = x then some (x % 4294967296) else none) := Lib.hid rfl
  generalize x % 4294967296 = n at *
  refine (seal_any n p hn w).mono ?_
  rintro e w1 ⟨rfl, hb⟩
  have hs := sealN_lt n (pl p) hn
  generalize sealN n (pl p) = y at *
  by_cases he : y = x
  · have HV : Hid (openV (openN x (pl p)) = .tuple #[vu32 n, .bool true]) := Lib.hid (by rw [HO.out, if_pos he]; rfl)
    subst he
    go_wp2_with fail
    go_ret2
    exact ⟨by rw [HV.out]; rfl, hb⟩
  · have HV : Hid (openV (openN x (pl p)) = .tuple #[vu32 0, .bool false]) := Lib.hid (by rw [HO.out, if_neg he]; rfl)
    have he' : ¬ ((y : Int) = (x : Int)) := by omega
    clear he
    go_wp2_with fail
    go_ret2
    exact ⟨by rw [HV.out]; rfl, hb⟩

end Go.Proofs.Ytjgdplengfnkaaa

/- The reference's crc. -/
namespace Go.Proofs.Ytjgdplengfnkaaa
open Go.RowKit
set_option linter.unusedVariables false

def itN : Nat → Nat → Nat
  | 0, x => x
  | t + 1, x => bitN (itN t x)
theorem itN_eight (s b : Nat) : itN 8 (s ^^^ b) = byteN s b := rfl
theorem itN_lt (t x : Nat) (h : x < 2 ^ 32) : itN t x < 2 ^ 32 := by
  induction t with
  | zero => exact h
  | succ t ih => exact bitN_lt _ ih

theorem bit_odd (s : Nat) (h : s < 2 ^ 32) : bits BinOp.xor IntKind.u32 ((s / 2 : Nat) : Int) 3988292384 = ((s / 2 ^^^ poly : Nat) : Int) :=
  u32_xor_nat (s / 2) 3988292384 (by omega) (by decide)

set_option maxHeartbeats 400000 in
theorem rmore_any (s : Nat) (hs : s < 2 ^ 32) (a : Option Addr) {n : Nat} (cap : Nat) (zs : List Nat) (hn : zs.length = n) (w : World) (hcs : Cells w a (zs.map vu8)) (hz : ∀ z ∈ zs, z < 256) (hl : zs.length ≤ 1000000) :
    Calls Try.prog 111 #[vu32 s, .slice a n cap] w fun e w' => e = .returned (vu32 (moreN s zs)) ∧ w = w' := by
  subst hn
  have HZ := Lib.hid hz
  clear hz
  go_enter Try.func111, Try.ntmps111
  go_wp2_with fail
  have hs0 : 4294967295 - s < 2 ^ 32 := by omega
  rw [show (4294967295 : Int) - (s : Int) = ((4294967295 - s : Nat) : Int) by omega]
  obtain ⟨q, hq⟩ : ∃ q, q = 4294967295 - s := ⟨_, rfl⟩
  rw [← hq] at hs0 ⊢
  have HQ := Lib.hid hq
  clear hq
  go_loop [5, 6] (fun v i => ∃ k : Nat, k ≤ zs.length ∧ i = .int .i64 k ∧ v = vu32 (foldN q (zs.take k))) (fun _ i => zs.length - (intOf i).toNat)
  case atStart => exact ⟨0, Nat.zero_le _, rfl, rfl⟩
  case round =>
    obtain ⟨k, hk, rfl, rfl⟩ := hrel
    by_cases hlt : k < zs.length
    · obtain ⟨b, off, rfl, hbs, hc⟩ := hcs.atMap 0 hlt
      have hcell : w.cell? ⟨b, off + k, none⟩ = some (.int .u8 (zs.getD k 0 : Nat)) := hc k hlt
      have hx := HZ.out (zs.getD k 0) (by simp [hlt])
      have hf := foldN_lt (zs.take k) (fun z hz => HZ.out z (List.mem_of_mem_take hz)) q hs0
      have HS := Lib.hid (foldN_take q zs k hlt)
      clear hc
      generalize zs.getD k 0 = x at *
      generalize foldN q (zs.take k) = s1 at *
      have hy : s1 ^^^ x < 2 ^ 32 := Nat.xor_lt_two_pow hf (by omega)
      have HE := Lib.hid (itN_eight s1 x)
      go_wp2_with fail
      rw [u32_xor_nat s1 x hf (by omega)]
      generalize s1 ^^^ x = y at *
      go_loop [5, 7] (fun v i => ∃ t : Nat, t ≤ 8 ∧ i = .int .i64 t ∧ v = vu32 (itN t y)) (fun _ i => 8 - (intOf i).toNat)
      case atStart => exact ⟨0, Nat.zero_le _, rfl, rfl⟩
      case round =>
        obtain ⟨t, ht, rfl, rfl⟩ := hrel
        by_cases hlt8 : t < 8
        · have hz := itN_lt t y hy
          have HI : Hid (itN (t + 1) y = bitN (itN t y)) := Lib.hid rfl
          generalize itN t y = z at *
          by_cases hm : z % 2 = 1
          · have HB : Hid (bitN z = (z / 2) ^^^ poly) := Lib.hid (by unfold bitN; rw [if_pos hm])
            have HX := Lib.hid (bit_odd z hz)
            have hm' : (z : Int) % 2 = 1 := by omega
            clear hm
            go_wp2_with fail
            refine ⟨⟨t + 1, by omega, vint (by omega), ?_⟩, by simp [intOf]; omega⟩
            rw [HI.out, HB.out]
            exact vint HX.out
          · have HB : Hid (bitN z = z / 2) := Lib.hid (by unfold bitN; rw [if_neg hm])
            have hm' : (z : Int) % 2 = 0 := by omega
            clear hm
            go_wp2_with fail
            refine ⟨⟨t + 1, by omega, vint (by omega), ?_⟩, by simp [intOf]; omega⟩
            rw [HI.out, HB.out]
            exact vint (by omega)
        · obtain rfl : t = 8 := by omega
          go_wp2_with fail
          refine ⟨⟨k + 1, by omega, vint (by omega), ?_⟩, by simp [intOf]; omega⟩
          rw [HS.out, HE.out]
    · obtain rfl : k = zs.length := by omega
      rw [List.take_length]
      have hf := foldN_lt zs HZ.out q hs0
      have HM : Hid (moreN s zs = 4294967295 - foldN q zs) := Lib.hid (by rw [HQ.out]; rfl)
      generalize foldN q zs = s1 at *
      go_wp2_with fail
      go_ret
      exact ⟨ret_int (by rw [HM.out]; omega), rfl⟩

set_option maxHeartbeats 400000 in
theorem rcrcWords_any (a : Option Addr) {n : Nat} (cap : Nat) (ws : List Nat) (hn : ws.length = n) (w : World) (h : Cells w a (ws.map vu64)) (hz : ∀ z ∈ ws, z < 18446744073709551616) (hl : ws.length ≤ 1000) :
    Calls Try.prog 108 #[.slice a n cap] w fun e w' => e = .returned (vu32 (wordsN ws)) ∧ Below w.heap.size w w' := by
  go_enter Try.func108, Try.ntmps108
  go_wp2_with fail
  refine (rbytes_any a cap ws hn w h hz (by omega)).mono ?_
  rintro e w1 ⟨v, rfl, ho, hb⟩
  obtain ⟨a1, c1, rfl, _, _⟩ := owned_form ho
  have hcs := Cells.owned ho
  have hl1 : (unpack ws).length ≤ 1000000 := by rw [unpack_length]; omega
  have hz1 := unpack_lt ws
  clear ho
  go_wp2_with fail
  refine (rmore_any 0 (by decide) a1 c1 (unpack ws) rfl w1 hcs hz1 hl1).mono ?_
  rintro e w2 ⟨rfl, rfl⟩
  go_wp2_with fail
  go_ret
  exact ⟨rfl, hb⟩

set_option maxHeartbeats 400000 in
theorem rseal_any (n : Nat) (p : Int) (hn : n < 4294967296) (w : World) :
    Calls Try.prog 100 #[vu32 n, .int .i64 p] w fun e w' => e = .returned (vu64 (sealN n (pl p))) ∧ Below w.heap.size w w' := by
  go_enter Try.func100, Try.ntmps100
  go_wp2_with fail
  rw [pl_wrap p]
  have hp := pl_lt p
  obtain ⟨q, hq⟩ : ∃ q, q = pl p := ⟨_, rfl⟩
  rw [← hq] at hp ⊢
  have HQ := Lib.hid hq
  clear hq
  have HS : Hid (sealN n q = wordsN [n, q] * 4294967296 + n) := Lib.hid rfl
  have hb0 := below_alloc w (Obj.cells #[Value.int IntKind.u64 (n : Int), Value.int IntKind.u64 (q : Int)] 76)
  have hc0 : Cells (w.alloc (Obj.cells #[Value.int IntKind.u64 (n : Int), Value.int IntKind.u64 (q : Int)] 76)) (some ⟨w.heap.size, 0, none⟩) ([n, q].map vu64) := by
    refine .inr ⟨_, _, rfl, fun i v hi => ?_⟩
    rw [Nat.zero_add]
    refine cell_alloc_new _ _ _ _ _ ?_
    simpa using hi
  generalize w.alloc (Obj.cells #[Value.int IntKind.u64 (n : Int), Value.int IntKind.u64 (q : Int)] 76) = w0 at *
  refine (rcrcWords_any _ 2 [n, q] rfl w0 hc0 (by simp; omega) (by simp)).mono ?_
  rintro e w1 ⟨rfl, hb1⟩
  have hb := hb0.trans (hb1.mono hb0.size)
  have hw := wordsN_lt [n, q]
  generalize wordsN [n, q] = x at *
  clear hb0 hb1 hc0
  go_wp2_with fail
  go_ret
  exact ⟨ret_int (by rw [← HQ.out, HS.out]; omega), hb⟩

set_option maxHeartbeats 400000 in
theorem ropen_any (x : Nat) (p : Int) (hx : x < 18446744073709551616) (w : World) :
    Calls Try.prog 77 #[vu64 x, .int .i64 p] w fun e w' => e = .returned (openV (openN x (pl p))) ∧ Below w.heap.size w w' := by
  go_enter Try.func77, Try.ntmps77
  go_wp2_with fail
  rw [show (x : Int) % 4294967296 = ((x % 4294967296 : Nat) : Int) by omega]
  have hn : x % 4294967296 < 4294967296 := Nat.mod_lt _ (by decide)
  have HO : Hid (openN x (pl p) = if sealN (x % 4294967296) (pl p) = x then some (x % 4294967296) else none) := Lib.hid rfl
  generalize x % 4294967296 = n at *
  refine (rseal_any n p hn w).mono ?_
  rintro e w1 ⟨rfl, hb⟩
  have hs := sealN_lt n (pl p) hn
  generalize sealN n (pl p) = y at *
  by_cases he : y = x
  · have HV : Hid (openV (openN x (pl p)) = .tuple #[vu32 n, .bool true]) := Lib.hid (by rw [HO.out, if_pos he]; rfl)
    subst he
    go_wp2_with fail
    go_ret2
    exact ⟨by rw [HV.out]; rfl, hb⟩
  · have HV : Hid (openV (openN x (pl p)) = .tuple #[vu32 0, .bool false]) := Lib.hid (by rw [HO.out, if_neg he]; rfl)
    have he' : ¬ ((y : Int) = (x : Int)) := by omega
    clear he
    go_wp2_with fail
    go_ret2
    exact ⟨by rw [HV.out]; rfl, hb⟩

end Go.Proofs.Ytjgdplengfnkaaa

/- Headers of blocks: their words; the reference's. -/
namespace Go.Proofs.Ytjgdplengfnkaaa
open Go.RowKit
set_option linter.unusedVariables false

/-- May a header be? -/
def HdRight (k c l : Int) : Prop := (k = 0 ∧ c = 0 ∧ l = 0) ∨ (k = 1 ∧ (0 ≤ c ∧ c < 32) ∧ l = 0) ∨ ((k = 2 ∨ k = 3) ∧ c = 0 ∧ 1 ≤ l ∧ l < 256)
instance (k c l : Int) : Decidable (HdRight k c l) := by unfold HdRight; infer_instance
def hdRight (k c l : Int) : Bool := decide (HdRight k c l)

abbrev vhd (k c l : Int) : Value := .agg #[.int .i64 k, .int .i64 c, .int .i64 l]

theorem hdR_t {k c l : Int} (h : HdRight k c l) : true = hdRight k c l := (decide_eq_true h).symm
theorem hdR_f {k c l : Int} (h : ¬ HdRight k c l) : false = hdRight k c l := (decide_eq_false h).symm

set_option maxHeartbeats 1000000 in
theorem bright_any (k c l : Int) (w : World) : Calls Try.prog 66 #[vhd k c l] w fun e w' => e = .returned (.bool (hdRight k c l)) ∧ Below w.heap.size w w' := by
  have HB := Lib.hid (below_alloc w)
  by_cases h1 : k = 1
  · subst h1
    have HR : Hid (hdRight 1 c l = (decide (0 ≤ c ∧ c < 32) && decide (l = 0))) := Lib.hid (by unfold hdRight HdRight; simp)
    go_enter Try.func66, Try.ntmps66
    go_wp2_with fail
    refine (cright_any _ _).mono ?_
    rintro e w1 ⟨rfl, rfl⟩
    by_cases hc : 0 ≤ c ∧ c < 32
    · rw [decide_eq_true hc] at HR ⊢
      clear hc
      go_wp2_with fail
      all_goals
        go_ret
        exact ⟨ret_bool (by rw [HR.out]; rw [Bool.eq_iff_iff]; simp [*]), HB.out _⟩
    · rw [decide_eq_false hc] at HR ⊢
      clear hc
      go_wp2_with fail
      all_goals
        go_ret
        exact ⟨ret_bool (by rw [HR.out]; rw [Bool.eq_iff_iff]; simp [*]), HB.out _⟩
  go_enter Try.func66, Try.ntmps66
  go_wp2_with fail
  all_goals
    go_ret
    refine ⟨ret_bool ?_, HB.out _⟩
    clear HB
    simp only [beq_iff_eq, beq_eq_false_iff_ne] at *
    first
      | exact hdR_t (by unfold HdRight; omega)
      | exact hdR_f (by unfold HdRight; omega)
      | (by_cases hl : l < 256
         · exact (decide_eq_true hl).trans (hdR_t (by unfold HdRight; omega))
         · exact (decide_eq_false hl).trans (hdR_f (by unfold HdRight; omega)))

/-- A header's number; its word. -/
def hdN (k c l : Int) : Nat := (k + 4 * c + 256 * l).toNat
def encN (b k c l : Int) : Nat := if hdRight k c l = true then sealN (hdN k c l) (pl (256 + b)) else 0

theorem hd_small {k c l : Int} (h : hdRight k c l = true) : (0 ≤ k ∧ k < 4) ∧ (0 ≤ c ∧ c < 64) ∧ (0 ≤ l ∧ l < 65536) := by
  have := of_decide_eq_true h
  unfold HdRight at this
  omega

theorem hdN_lt {k c l : Int} (h : hdRight k c l = true) : hdN k c l < 4294967296 := by
  have := hd_small h
  unfold hdN
  omega

theorem encN_lt (b k c l : Int) : encN b k c l < 18446744073709551616 := by
  unfold encN
  split
  · rename_i h; exact sealN_lt _ _ (hdN_lt h)
  · decide

set_option maxHeartbeats 1000000 in
theorem bencode_any (b k c l : Int) (hb0 : 0 ≤ b) (hb1 : b ≤ 1000000) (w : World) : Calls Try.prog 61 #[.int .i64 b, vhd k c l] w fun e w' => e = .returned (vu64 (encN b k c l)) ∧ Below w.heap.size w w' := by
  have hb := below_alloc w (Obj.cells #[Value.int .i64 k, Value.int .i64 c, Value.int .i64 l] 48)
  have hg := heap_alloc_new w (Obj.cells #[Value.int .i64 k, Value.int .i64 c, Value.int .i64 l] 48)
  go_enter Try.func61, Try.ntmps61
  go_wp2_with fail
  generalize w.alloc (Obj.cells #[Value.int .i64 k, Value.int .i64 c, Value.int .i64 l] 48) = w0 at *
  refine (bright_any k c l w0).mono ?_
  rintro e w1 ⟨rfl, hb1⟩
  have hgl : w.heap.size < w0.heap.size := (Array.getElem?_eq_some_iff.1 hg).1
  have hbb := hb.trans (hb1.mono hb.size)
  have hg1 : w1.heap[w.heap.size]? = _ := (hb1.block _ hgl).trans hg
  have c0 : w1.cell? ⟨w.heap.size, 0, none⟩ = some (.int .i64 k) := cell_of_row _ _ 0 _ _ _ hg1
  have c1 : w1.cell? ⟨w.heap.size, 1, none⟩ = some (.int .i64 c) := cell_of_row _ _ 1 _ _ _ hg1
  have c2 : w1.cell? ⟨w.heap.size, 2, none⟩ = some (.int .i64 l) := cell_of_row _ _ 2 _ _ _ hg1
  clear hb hb1 hg hgl hg1
  cases hr : hdRight k c l
  · have HE : Hid (encN b k c l = 0) := Lib.hid (by unfold encN; rw [hr]; rfl)
    clear hr
    go_wp2_with fail
    go_ret
    exact ⟨ret_int (by rw [HE.out]; rfl), hbb⟩
  · have HE : Hid (encN b k c l = sealN (hdN k c l) (pl (256 + b))) := Lib.hid (by unfold encN; rw [hr]; rfl)
    have hn := hdN_lt hr
    obtain ⟨⟨k0, k1⟩, ⟨c0', c1'⟩, l0, l1⟩ := hd_small hr
    have HN : Hid (hdN k c l = (k.toNat + c.toNat * 4 + l.toNat * 256)) := Lib.hid (by unfold hdN; omega)
    clear hr
    obtain ⟨k, rfl⟩ := Int.eq_ofNat_of_zero_le k0
    obtain ⟨c, rfl⟩ := Int.eq_ofNat_of_zero_le c0'
    obtain ⟨l, rfl⟩ := Int.eq_ofNat_of_zero_le l0
    simp only [Int.toNat_natCast] at HN
    have P0 : Hid (Calls Try.prog 91 #[vu64 0, .int .i64 0, .int .i64 2, vu64 k] w1 fun e w' => e = .returned (vu64 k) ∧ w1 = w') := Lib.hid (by have := put_any 0 0 2 k (by decide) (by omega) (by decide) (by decide) w1; simpa using this)
    have P1 : Hid (Calls Try.prog 91 #[vu64 k, .int .i64 2, .int .i64 6, vu64 c] w1 fun e w' => e = .returned (vu64 (k + c * 4)) ∧ w1 = w') := Lib.hid (put_any k 2 6 c (by omega) (by omega) (by decide) (by decide) w1)
    have P2 : Hid (Calls Try.prog 91 #[vu64 (k + c * 4), .int .i64 8, .int .i64 16, vu64 l] w1 fun e w' => e = .returned (vu64 (k + c * 4 + l * 256)) ∧ w1 = w') := Lib.hid (put_any (k + c * 4) 8 16 l (by omega) (by omega) (by decide) (by decide) w1)
    go_wp2_with fail
    refine P0.out.mono ?_
    rintro e w2 ⟨rfl, rfl⟩
    go_wp2_with fail
    refine P1.out.mono ?_
    rintro e w2 ⟨rfl, rfl⟩
    go_wp2_with fail
    refine P2.out.mono ?_
    rintro e w2 ⟨rfl, rfl⟩
    rw [← HN.out]
    generalize hdN (k : Int) (c : Int) (l : Int) = n at *
    clear P0 P1 P2
    go_wp2_with fail
    refine (seal_any n _ hn _).mono ?_
    rintro e w2 ⟨rfl, hb2⟩
    rw [← HE.out]
    go_wp2_with fail
    go_ret
    exact ⟨rfl, hbb.trans (hb2.mono hbb.size)⟩

end Go.Proofs.Ytjgdplengfnkaaa

/- Headers of blocks: decoded. -/
namespace Go.Proofs.Ytjgdplengfnkaaa
open Go.RowKit
set_option linter.unusedVariables false

/-- Two results: a struct or an array in a block of its own, and a slot. -/
theorem results_cell_row2 {P : Program} {fn : Func} {p u : Tmp} {ty : TypeId} (h : fn.results = #[.cell p ty, .tmp u]) (tmps : Array Value) (w : World) (g : Nat) (t : TypeId) (cs : Array Value) (fr : Nat × Nat) (d : TypeDesc)
    (hp : tmps.getD p undef = .pointer (some ⟨g, 0, none⟩)) (hg : w.heap[g]? = some (.cells cs t fr))
    (hu : P.underlying ty = some d) (hd : (match d with | .struct _ | .array _ _ => true | _ => false) = true) (hi : (P.info? ty).map (·.size) = some cs.size) :
    (results fn tmps).run P w = .ok (.tuple #[.agg cs, tmps.getD u undef]) w := by
  have hp' : tmps[p]?.getD undef = .pointer (some ⟨g, 0, none⟩) := by simpa using hp
  simp [results, h, hp', asAddr, run_loadVar_row w g t ty cs fr d hg hu hd hi]

theorem aggHd : Agg Try.prog 48 #[.int .i64 0, .int .i64 0, .int .i64 0] := ⟨⟨_, Try.underlying48, rfl⟩, by kernel_rfl⟩
theorem aggRh : Agg Try.prog 46 #[.int .i64 0, .int .i64 0, .int .i64 0] := ⟨⟨_, Try.underlying46, rfl⟩, by kernel_rfl⟩

/-- What a word is as a block's header: kind, class, length, the error's number. -/
structure Dec where
  k : Int
  c : Int
  l : Int
  code : Int
/-- Of a sealed number. -/
def decS (b : Int) (x n : Nat) : Dec :=
  if encN b (n % 4 : Nat) (n / 4 % 64 : Nat) (n / 256 % 65536 : Nat) = x then (if hdRight (n % 4 : Nat) (n / 4 % 64 : Nat) (n / 256 % 65536 : Nat) = true then ⟨(n % 4 : Nat), (n / 4 % 64 : Nat), (n / 256 % 65536 : Nat), 0⟩ else ⟨0, 0, 0, 26⟩) else ⟨0, 0, 0, 26⟩
def decN (b : Int) (x : Nat) : Dec := ((openN x (pl (256 + b))).map (decS b x)).getD ⟨0, 0, 0, 25⟩
def Dec.val (d : Dec) : Value := .tuple #[vhd d.k d.c d.l, .int .i64 d.code]

theorem decN_none {b : Int} {x : Nat} (h : openN x (pl (256 + b)) = none) : (decN b x).val = .tuple #[vhd 0 0 0, .int .i64 25] := by unfold decN; rw [h]; rfl
theorem decN_some {b : Int} {x n : Nat} (h : openN x (pl (256 + b)) = some n) : decN b x = decS b x n := by unfold decN; rw [h]; rfl
theorem openN_some {x q n : Nat} (h : openN x q = some n) : n < 4294967296 ∧ n = x % 4294967296 := by
  unfold openN at h
  split at h
  · cases h; exact ⟨Nat.mod_lt _ (by decide), rfl⟩
  · cases h
theorem right_zero : hdRight 0 0 0 = true := by decide
/-- A word that is its header's word: then that one may be. -/
theorem enc_right {b : Int} {x n : Nat} (h : openN x (pl (256 + b)) = some n) (he : encN b (n % 4 : Nat) (n / 4 % 64 : Nat) (n / 256 % 65536 : Nat) = x) : hdRight (n % 4 : Nat) (n / 4 % 64 : Nat) (n / 256 % 65536 : Nat) = true := by
  obtain ⟨h1, h2⟩ := openN_some h
  cases hr : hdRight (n % 4 : Nat) (n / 4 % 64 : Nat) (n / 256 % 65536 : Nat)
  · unfold encN at he
    rw [hr] at he
    simp at he
    subst he
    subst h2
    exact absurd right_zero (by simpa using hr)
  · rfl
theorem decN_ok {b : Int} {x n : Nat} (h : openN x (pl (256 + b)) = some n) (he : encN b (n % 4 : Nat) (n / 4 % 64 : Nat) (n / 256 % 65536 : Nat) = x) :
    (decN b x).val = .tuple #[vhd (n % 4 : Nat) (n / 4 % 64 : Nat) (n / 256 % 65536 : Nat), .int .i64 0] := by
  have hr := enc_right h he
  rw [decN_some h, decS, if_pos he, if_pos hr]; rfl
theorem decN_bad {b : Int} {x n : Nat} (h : openN x (pl (256 + b)) = some n) (he : encN b (n % 4 : Nat) (n / 4 % 64 : Nat) (n / 256 % 65536 : Nat) ≠ x) :
    (decN b x).val = .tuple #[vhd 0 0 0, .int .i64 26] := by
  rw [decN_some h, decS, if_neg he]; rfl

end Go.Proofs.Ytjgdplengfnkaaa

/- bhead.Decode. -/
namespace Go.Proofs.Ytjgdplengfnkaaa
open Go.RowKit
set_option linter.unusedVariables false

theorem bits_sum (n : Nat) : n % 4 < 4 ∧ n / 4 % 64 < 64 ∧ n / 256 % 65536 < 65536 := by omega

set_option maxHeartbeats 1000000 in
theorem bdecode_any (b : Int) (x : Nat) (hb0 : 0 ≤ b) (hb1' : b ≤ 1000000) (hx : x < 18446744073709551616) (w : World) :
    Calls Try.prog 53 #[.int .i64 b, vu64 x] w fun e w' => e = .returned (decN b x).val ∧ Below w.heap.size w w' := by
  have hbA := below_alloc w (Obj.cells #[Value.int .i64 0, Value.int .i64 0, Value.int .i64 0] 48)
  have hg := heap_alloc_new w (Obj.cells #[Value.int .i64 0, Value.int .i64 0, Value.int .i64 0] 48)
  go_enter Try.func53, Try.ntmps53
  go_wp2_with fail
  generalize w.alloc (Obj.cells #[Value.int .i64 0, Value.int .i64 0, Value.int .i64 0] 48) = w0 at *
  refine (open_any x _ hx w0).mono ?_
  rintro e w1 ⟨rfl, hbo⟩
  have hgl : w.heap.size < w0.heap.size := (Array.getElem?_eq_some_iff.1 hg).1
  have hbb := hbA.trans (hbo.mono hbA.size)
  have hg1 : w1.heap[w.heap.size]? = _ := (hbo.block _ hgl).trans hg
  clear hbA hbo hg hgl
  cases ho : openN x (pl (256 + b)) with
  | none =>
    have HV := Lib.hid (decN_none ho)
    clear ho
    simp only [openV]
    go_wp2_with (refine wpList_store_row (cs := #[.int .i64 0, .int .i64 0, .int .i64 0]) aggHd hg1 rfl rfl (by simp [Value.oneCell']) rfl rfl rfl rfl ?_; intro w2 hg2 hgr2 hs2)
    refine bodyPost_ret (results_cell_row2 (p := 4) (u := 5) rfl _ _ _ _ _ _ _ rfl hg2 Try.underlying48 rfl (by kernel_rfl)) rfl ⟨by rw [HV.out]; rfl, ?_⟩
    exact hbb.grown hgr2 hbb.size (fun k e => by cases e; omega)
  | some n =>
    obtain ⟨hn, -⟩ := openN_some ho
    have HK := Lib.hid (decN_ok ho)
    have HL := Lib.hid (decN_bad ho)
    clear ho
    simp only [openV]
    have G0 : Hid (∀ w, Calls Try.prog 76 #[vu64 n, .int .i64 0, .int .i64 2] w fun e w' => e = .returned (vu64 (n % 4)) ∧ w = w') := Lib.hid (fun w => by have := get_any n 0 2 (by omega) (by decide) (by decide) (by decide) w; simpa [fieldN] using this)
    have G1 : Hid (∀ w, Calls Try.prog 76 #[vu64 n, .int .i64 2, .int .i64 6] w fun e w' => e = .returned (vu64 (n / 4 % 64)) ∧ w = w') := Lib.hid (fun w => get_any n 2 6 (by omega) (by decide) (by decide) (by decide) w)
    have G2 : Hid (∀ w, Calls Try.prog 76 #[vu64 n, .int .i64 8, .int .i64 16] w fun e w' => e = .returned (vu64 (n / 256 % 65536)) ∧ w = w') := Lib.hid (fun w => get_any n 8 16 (by omega) (by decide) (by decide) (by decide) w)
    obtain ⟨h4, h64, h6⟩ := bits_sum n
    generalize n % 4 = k at *
    generalize n / 4 % 64 = c at *
    generalize n / 256 % 65536 = l at *
    go_wp2_with fail
    refine (G0.out _).mono ?_
    rintro e w2 ⟨rfl, rfl⟩
    go_wp2_with fail
    refine (G1.out _).mono ?_
    rintro e w2 ⟨rfl, rfl⟩
    go_wp2_with fail
    refine (G2.out _).mono ?_
    rintro e w2 ⟨rfl, rfl⟩
    clear G0 G1 G2
    go_wp2_with fail
    have hb1 := below_alloc w1 (Obj.cells #[Value.int .i64 (k : Int), Value.int .i64 (c : Int), Value.int .i64 (l : Int)] 48)
    have hg2 := heap_alloc_new w1 (Obj.cells #[Value.int .i64 (k : Int), Value.int .i64 (c : Int), Value.int .i64 (l : Int)] 48)
    generalize w1.alloc (Obj.cells #[Value.int .i64 (k : Int), Value.int .i64 (c : Int), Value.int .i64 (l : Int)] 48) = w2 at *
    refine (bencode_any b k c l hb0 hb1' w2).mono ?_
    rintro e w3 ⟨rfl, hb3⟩
    have hgl : w.heap.size < w1.heap.size := (Array.getElem?_eq_some_iff.1 hg1).1
    have hgl2 : w1.heap.size < w2.heap.size := (Array.getElem?_eq_some_iff.1 hg2).1
    have hb3' := hbb.trans ((hb1.trans (hb3.mono hb1.size)).mono hbb.size)
    have hg3 : w3.heap[w.heap.size]? = _ := (hb3.block _ (by omega)).trans ((hb1.block _ hgl).trans hg1)
    have hg4 : w3.heap[w1.heap.size]? = _ := (hb3.block _ hgl2).trans hg2
    have he := encN_lt b k c l
    clear hb1 hb3 hg1 hg2 hbb
    generalize encN b k c l = y at *
    by_cases hyx : y = x
    · have HV := Lib.hid (HK.out hyx)
      subst hyx
      have d0 : w3.cell? ⟨w1.heap.size, 0, none⟩ = some (.int .i64 k) := cell_of_row _ _ 0 _ _ _ hg4
      have d1 : w3.cell? ⟨w1.heap.size, 1, none⟩ = some (.int .i64 c) := cell_of_row _ _ 1 _ _ _ hg4
      have d2 : w3.cell? ⟨w1.heap.size, 2, none⟩ = some (.int .i64 l) := cell_of_row _ _ 2 _ _ _ hg4
      go_wp2_with (refine wpList_store_row (cs := #[.int .i64 k, .int .i64 c, .int .i64 l]) aggHd hg3 rfl rfl (by simp [Value.oneCell']) rfl rfl rfl rfl ?_; intro w4 hg5 hgr4 hs4)
      refine bodyPost_ret (results_cell_row2 (p := 4) (u := 5) rfl _ _ _ _ _ _ _ rfl hg5 Try.underlying48 rfl (by kernel_rfl)) rfl ⟨by rw [HV.out]; rfl, ?_⟩
      exact hb3'.grown hgr4 hb3'.size (fun k e => by cases e; omega)
    · have HV := Lib.hid (HL.out hyx)
      have hne : ¬ ((y : Int) = (x : Int)) := by omega
      clear hyx
      go_wp2_with (refine wpList_store_row (cs := #[.int .i64 0, .int .i64 0, .int .i64 0]) aggHd hg3 rfl rfl (by simp [Value.oneCell']) rfl rfl rfl rfl ?_; intro w4 hg5 hgr4 hs4)
      refine bodyPost_ret (results_cell_row2 (p := 4) (u := 5) rfl _ _ _ _ _ _ _ rfl hg5 Try.underlying48 rfl (by kernel_rfl)) rfl ⟨by rw [HV.out]; rfl, ?_⟩
      exact hb3'.grown hgr4 hb3'.size (fun k e => by cases e; omega)

end Go.Proofs.Ytjgdplengfnkaaa

/- blocks: Read, Open. -/
namespace Go.Proofs.Ytjgdplengfnkaaa
open Go.RowKit
set_option linter.unusedVariables false

/-- A block's header. -/
structure Hd where
  k : Int
  c : Int
  l : Int
deriving DecidableEq
instance : Inhabited Hd := ⟨⟨0, 0, 0⟩⟩
def Hd.cs (h : Hd) : List Value := [.int .i64 h.k, .int .i64 h.c, .int .i64 h.l]
def hdCs (l : List Hd) : List Value := l.flatMap Hd.cs
theorem hdCs_length (l : List Hd) : (hdCs l).length = 3 * l.length := by
  induction l with
  | nil => rfl
  | cons h l ih => simp only [hdCs, List.flatMap_cons, List.length_append, List.length_cons] at *; rw [ih]; simp [Hd.cs]; omega
theorem hdCs_append (l m : List Hd) : hdCs (l ++ m) = hdCs l ++ hdCs m := by simp [hdCs]
theorem hdCs_at (l : List Hd) (i : Nat) (hi : i < l.length) : ∀ j v, (l.getD i default).cs[j]? = some v → (hdCs l)[i * 3 + j]? = some v := by
  intro j v hj
  have e : l = l.take i ++ (l[i] :: l.drop (i + 1)) := by simp
  have hl : (hdCs (l.take i)).length = i * 3 := by rw [hdCs_length, List.length_take, Nat.min_eq_left (by omega)]; omega
  have hg : l.getD i default = l[i] := by simp [hi]
  rw [hg] at hj
  have hj3 : j < (l[i]).cs.length := (List.getElem?_eq_some_iff.1 hj).1
  rw [e, hdCs_append, List.getElem?_append_right (by omega), hl, show i * 3 + j - i * 3 = j by omega]
  simp only [hdCs, List.flatMap_cons]
  rw [List.getElem?_append_left hj3]
  exact hj
theorem hdCs_one (l : List Hd) : ∀ u ∈ hdCs l, u.oneCell' = true := by
  intro u hu
  simp only [hdCs, List.mem_flatMap, Hd.cs, List.mem_cons, List.not_mem_nil, or_false] at hu
  obtain ⟨h, _, rfl | rfl | rfl⟩ := hu <;> rfl

/-- The header that a word is; of block 0 none. -/
def hdF (f : Nat → Nat) (b : Nat) : Hd := if b = 0 then ⟨0, 0, 0⟩ else ⟨(decN b (f b)).k, (decN b (f b)).c, (decN b (f b)).l⟩
def hds (f : Nat → Nat) (k : Nat) : List Hd := (List.range k).map (hdF f)
theorem hds_length (f : Nat → Nat) (k : Nat) : (hds f k).length = k := by simp [hds]
theorem hds_succ (f : Nat → Nat) (k : Nat) : hds f (k + 1) = hds f k ++ [hdF f k] := by simp [hds, List.range_succ]
def AllOk (f : Nat → Nat) (k : Nat) : Prop := ∀ b, 1 ≤ b → b < k → (decN b (f b)).code = 0

/-- What reading all headers answers. -/
def ReadPost (t : Nat) (f : Nat → Nat) (B : Nat) (w : World) : Ending → World → Prop := fun en w' => Below w.heap.size w w' ∧
  ((AllOk f B ∧ ∃ g c, en = .returned (.tuple #[.slice (some ⟨g, 0, none⟩) B c, .int .i64 0, .int .i64 0]) ∧ w.heap.size ≤ g ∧ B ≤ c ∧ RowAt w' g t (hdCs (hds f B))) ∨
   (∃ b : Nat, 1 ≤ b ∧ b < B ∧ AllOk f b ∧ (decN b (f b)).code ≠ 0 ∧ en = .returned (.tuple #[.slice none 0 0, .int .i64 b, .int .i64 21])))

theorem AllOk.succ {f : Nat → Nat} {k : Nat} (h : AllOk f k) (hk : (decN k (f k)).code = 0) : AllOk f (k + 1) := by
  intro b h1 h2
  by_cases e : b = k
  · subst e; exact hk
  · exact h b h1 (by omega)

theorem elHd : Elem Try.prog 33 48 (.agg #[.int .i64 0, .int .i64 0, .int .i64 0]) 3 24 := Elem.mk' Try.underlying33 (by kernel_rfl) rfl (by decide)

theorem row_step (f : Nat → Nat) (B k : Nat) (hk : k < B) (h : Hd) (he : h = hdF f k) : splice (hdCs (hds f k) ++ List.replicate (3 * (B - k)) (.int .i64 0)) (k * 3) h.cs = hdCs (hds f (k + 1)) ++ List.replicate (3 * (B - (k + 1))) (.int .i64 0) := by
  subst he
  have hl : (hdCs (hds f k)).length = k * 3 := by rw [hdCs_length, hds_length]; omega
  rw [hds_succ, hdCs_append]
  unfold splice
  rw [List.take_left' hl, ← hl, List.drop_length_add_append]
  have : List.drop (hdF f k).cs.length (List.replicate (3 * (B - k)) (Value.int .i64 0)) = List.replicate (3 * (B - (k + 1))) (.int .i64 0) := by
    simp [Hd.cs]; omega
  rw [this]
  simp [hdCs]

theorem peek_lt {l : List Nat} (h : ∀ z ∈ l, z < 18446744073709551616) (i : Int) : peek l i < 18446744073709551616 := by
  unfold peek
  split
  · by_cases hi : i.toNat < l.length
    · simp only [List.getD_eq_getElem?_getD, List.getElem?_eq_getElem hi, Option.getD_some]
      exact h _ (List.getElem_mem hi)
    · simp only [List.getD_eq_getElem?_getD, List.getElem?_eq_none (by omega : l.length ≤ i.toNat), Option.getD_none]
      decide
  · decide

theorem cell_of_touch {L : List Nat} {w w' : World} (h : Touch L w w') {p : Addr} {v : Value} (hp : p.block ∉ L) (hc : w.cell? p = some v) : w'.cell? p = some v := by
  rw [World.cell?_of_block (w := w) (h.block p.block (World.block_lt_of_cell? _ _ hc) hp)]; exact hc
theorem below_touch {B : Nat} {L : List Nat} {w w1 w2 : World} (h : Below B w w1) (ht : Touch L w1 w2) (hL : ∀ k ∈ L, B ≤ k) (hB : B ≤ w.heap.size) : Below B w w2 :=
  h.trans (ht.below (Nat.le_trans hB h.size) hL)

def devWord (S : Dev) (b : Nat) : Nat := peek S.cache (256 + (b : Int))

set_option maxHeartbeats 2000000 in
set_option maxRecDepth 100000 in
theorem read_any {w : World} {F : Foot} {S : Dev} (h : DevAt w F S) (B : Nat) (hB1 : 1 ≤ B) (hB : B ≤ 1000) :
    Calls Try.prog 11 #[vdev F, vgeom B] w (ReadPost 48 (devWord S) B w) := by
  have HD := Lib.hid h
  have HP : Hid (ReadPost 48 (devWord S) B w = ReadPost 48 (devWord S) B w) := Lib.hid rfl
  generalize hP : ReadPost 48 (devWord S) B w = Post at HP ⊢
  have HPE := Lib.hid hP
  clear h hP HP
  go_enter Try.func11, Try.ntmps11
  have hbx : Below w.heap.size w (w.alloc (.cells #[.int .i64 (B : Int)] 25)) := below_alloc _ _
  have hcx : (w.alloc (.cells #[.int .i64 (B : Int)] 25)).cell? ⟨w.heap.size, 0, none⟩ = some (.int .i64 (B : Int)) := cell_alloc_new _ _ _ 0 _ rfl
  have hsx : (w.alloc (.cells #[.int .i64 (B : Int)] 25)).heap.size = w.heap.size + 1 := by simp
  have HSX := Lib.hid hsx
  clear hsx
  go_wp2_with (first
    | (at_make; refine wpList_make_rows elHd (w.heap.size + 1) B (z := .int .i64 0) (by intro i hi; simp at hi; rcases i with _ | _ | _ | i <;> first | rfl | omega) (by omega) (by omega) (by omega) (by decide) (by simp) rfl rfl rfl rfl ?_; intro w1 hown hgrow))
  try rw [HSX.out] at hown
  try rw [HSX.out]
  have hb1 : Below w.heap.size w w1 := hbx.trans (below_grown hgrow (by rw [HSX.out]; omega))
  have hc1 : w1.cell? ⟨w.heap.size, 0, none⟩ = some (.int .i64 (B : Int)) := by
    rw [(below_grown hgrow (Nat.le_refl _)).cell (p := ⟨w.heap.size, 0, none⟩) (by rw [HSX.out]; simp)]; exact hcx
  have hr1 : RowAt w1 (w.heap.size + 1) 48 (List.replicate (B * 3) (.int .i64 0)) := owned_row hown
  have HR1 := Lib.hid hr1
  have HB1 := Lib.hid hb1
  clear hbx hcx hown hgrow hr1 hb1 HSX
  obtain ⟨gx, hgx⟩ : ∃ gx, gx = w.heap.size := ⟨_, rfl⟩
  obtain ⟨g, hg⟩ : ∃ g, g = w.heap.size + 1 := ⟨_, rfl⟩
  have HG : Hid (gx = w.heap.size ∧ g = w.heap.size + 1) := Lib.hid ⟨hgx, hg⟩
  rw [← hg] at HR1 ⊢
  rw [← hgx] at hc1 ⊢
  have hgne : gx ≠ g := by omega
  clear hgx hg
  go_loopw [8] (fun i wr => ∃ k : Nat, 1 ≤ k ∧ k ≤ B ∧ i = .int .i64 k ∧ AllOk (devWord S) k ∧ RowAt wr g 48 (hdCs (hds (devWord S) k) ++ List.replicate (3 * (B - k)) (.int .i64 0)) ∧ wr.cell? ⟨gx, 0, none⟩ = some (.int .i64 (B : Int)) ∧ Below w.heap.size w wr) (fun i _ => B - (intOf i).toNat)
  case atStart => exact ⟨1, Nat.le_refl _, hB1, rfl, (fun b h1 h2 => by omega), by
      have e : hdCs (hds (devWord S) 1) ++ List.replicate (3 * (B - 1)) (Value.int .i64 0) = List.replicate (B * 3) (Value.int .i64 0) := by
        have : hdCs (hds (devWord S) 1) = List.replicate 3 (Value.int .i64 0) := rfl
        rw [this, List.replicate_append_replicate]
        congr 1
        omega
      rw [e]; exact HR1.out, hc1, HB1.out⟩
  case round =>
    clear hc1 HR1 HB1
    obtain ⟨k, hk1, hk2, rfl, hok, hr, hcx, hb⟩ := hrel
    have HOK := Lib.hid hok
    have HR := Lib.hid hr
    have HB := Lib.hid hb
    have HDr := Lib.hid (HD.out.below hb)
    clear hok hr hb
    by_cases hlt : k < B
    · have hlt' : (k : Int) < (B : Int) := by omega
      go_wp2_with fail
      refine (gheader_any _ _ _ (by omega)).mono ?_
      rintro e w2 ⟨rfl, hb2⟩
      have HH : Hid (hdAt (B : Int) (k : Int) = 256 + (k : Int)) := Lib.hid (by unfold hdAt; rw [if_neg (by omega)])
      rw [HH.out]
      have HD2 := Lib.hid (HDr.out.below hb2)
      have HB2 := Lib.hid hb2
      clear hb2
      go_wp2_with fail
      refine (dget_any HD2.out _).mono ?_
      rintro e w3 ⟨rfl, rfl⟩
      have hx : devWord S k < 18446744073709551616 := peek_lt HD2.out.u64C _
      have HX : Hid (peek S.cache (256 + (k : Int)) = devWord S k) := Lib.hid rfl
      rw [HX.out]
      go_wp2_with fail
      refine (bdecode_any (k : Int) (devWord S k) (by omega) (by omega) hx _).mono ?_
      rintro e w4 ⟨rfl, hb4⟩
      have HF : Hid (⟨(decN k (devWord S k)).k, (decN k (devWord S k)).c, (decN k (devWord S k)).l⟩ = hdF (devWord S) k) := Lib.hid (by unfold hdF; rw [if_neg (by omega)])
      have HC : Hid ((decN k (devWord S k)).code = 0 ∨ (decN k (devWord S k)).code ≠ 0) := Lib.hid (by omega)
      have HOK2 : Hid ((decN k (devWord S k)).code = 0 → AllOk (devWord S) (k + 1)) := Lib.hid (fun h => HOK.out.succ h)
      have HBad : Hid ((decN k (devWord S k)).code ≠ 0 → ∀ w', Below w.heap.size w w' → Post (.returned (.tuple #[.slice none 0 0, .int .i64 k, .int .i64 21])) w') := Lib.hid (fun h w' hw' => by
        rw [← HPE.out]; exact ⟨hw', .inr ⟨k, hk1, hlt, HOK.out, h, rfl⟩⟩)
      unfold Dec.val
      generalize decN k (devWord S k) = dd at *
      obtain ⟨dk, dc, dl, dcode⟩ := dd
      dsimp only at *
      have hb24 : Below wr.heap.size wr w4 := HB2.out.trans (hb4.mono HB2.out.size)
      have HB4 := Lib.hid hb24
      clear hb4 hb24 HB2 HD2
      rcases HC.out with hz | hz
      · subst hz
        have hok2 := HOK2.out rfl
        have HOK3 := Lib.hid hok2
        have hr4 : RowAt w4 g 48 _ := HR.out.keep (HB4.out.block g HR.out.lt)
        have hcx4 : w4.cell? ⟨gx, 0, none⟩ = some (.int .i64 (B : Int)) := below_cells HB4.out hcx (Nat.le_refl _)
        have hgl : g < w4.heap.size := hr4.lt
        have hgxl : gx < w4.heap.size := World.block_lt_of_cell? _ _ hcx4
        have HR4 := Lib.hid hr4
        have HCX4 := Lib.hid hcx4
        clear hok2 hr4 hcx hcx4
        have hb5 := below_alloc w4 (Obj.cells #[Value.int .i64 dk, Value.int .i64 dc, Value.int .i64 dl] 48)
        have HR5 : Hid (RowAt (w4.alloc (Obj.cells #[Value.int .i64 dk, Value.int .i64 dc, Value.int .i64 dl] 48)) g 48 (hdCs (hds (devWord S) k) ++ List.replicate (3 * (B - k)) (.int .i64 0))) := Lib.hid (HR4.out.keep (hb5.block g hgl))
        have HCX5 : Hid ((w4.alloc (Obj.cells #[Value.int .i64 dk, Value.int .i64 dc, Value.int .i64 dl] 48)).cell? ⟨gx, 0, none⟩ = some (.int .i64 (B : Int))) := Lib.hid (below_cells hb5 HCX4.out (Nat.le_refl _))
        have HB5 : Hid (Below w.heap.size w (w4.alloc (Obj.cells #[Value.int .i64 dk, Value.int .i64 dc, Value.int .i64 dl] 48))) := Lib.hid (HB.out.trans ((HB4.out.trans (hb5.mono HB4.out.size)).mono HB.out.size))
        have hlen : Hid (k * 3 + 3 ≤ (hdCs (hds (devWord S) k) ++ List.replicate (3 * (B - k)) (Value.int .i64 0)).length) := Lib.hid (by rw [List.length_append, hdCs_length, hds_length, List.length_replicate]; omega)
        have hone : Hid (∀ u ∈ (#[Value.int .i64 dk, Value.int .i64 dc, Value.int .i64 dl] : Array Value).toList, u.oneCell' = true) := Lib.hid (by intro u hu; simp at hu; rcases hu with rfl | rfl | rfl <;> rfl)
        clear hb5 HR4 HCX4 HB4
        go_wp2_with (refine wpList_store_part (off := k * 3) (cs := #[.int .i64 dk, .int .i64 dc, .int .i64 dl]) aggHd HR5.out rfl hlen.out hone.out rfl rfl rfl rfl ?_; intro w6 hr6 ht6; have HR6 := Lib.hid hr6; have HT6 := Lib.hid ht6; clear hr6 ht6)
        refine ⟨⟨k + 1, by omega, by omega, vint (by omega), HOK3.out, ?_, ?_, ?_⟩, by simp [intOf]; omega⟩
        · have := HR6.out
          rw [show #[Value.int .i64 dk, Value.int .i64 dc, Value.int .i64 dl].toList = (⟨dk, dc, dl⟩ : Hd).cs from rfl, row_step _ _ _ hlt _ HF.out] at this
          exact this
        · exact cell_of_touch HT6.out (by simp; exact hgne) HCX5.out
        · exact below_touch HB5.out HT6.out (by have := HG.out; simp; omega) (Nat.le_refl _)
      · have hz1 : (dcode != 0) = true := by simpa using hz
        have HZ := Lib.hid (HBad.out hz)
        have HBE : Hid (Below w.heap.size w w4) := Lib.hid (HB.out.trans (HB4.out.mono HB.out.size))
        clear hz HBad HC HOK2
        go_wp2_with fail
        go_ret3
        exact HZ.out _ (HBE.out.alloc (HBE.out.size) _)
    · obtain rfl : k = B := by omega
      have hlt' : decide ((k : Int) < (k : Int)) = false := by simp
      go_wp2_with fail
      go_ret3
      rw [← HPE.out]
      refine ⟨HB.out, .inl ⟨HOK.out, g, k, rfl, by have := HG.out; omega, Nat.le_refl _, ?_⟩⟩
      have := HR.out
      simpa using this

end Go.Proofs.Ytjgdplengfnkaaa

/- The reference's headers of blocks. -/
namespace Go.Proofs.Ytjgdplengfnkaaa
open Go.RowKit
set_option linter.unusedVariables false

set_option maxHeartbeats 1000000 in
theorem rhright_any (k c l : Int) (w : World) : Calls Try.prog 79 #[vhd k c l] w fun e w' => e = .returned (.bool (hdRight k c l)) ∧ Below w.heap.size w w' := by
  have HB := Lib.hid (below_alloc w)
  go_enter Try.func79, Try.ntmps79
  go_wp2_with fail
  all_goals
    go_ret
    refine ⟨ret_bool ?_, HB.out _⟩
    clear HB
    simp only [beq_iff_eq, beq_eq_false_iff_ne] at *
    first
      | exact hdR_t (by unfold HdRight; omega)
      | exact hdR_f (by unfold HdRight; omega)
      | (by_cases hl : l ≤ 255
         · exact (decide_eq_true hl).trans (hdR_t (by unfold HdRight; omega))
         · exact (decide_eq_false hl).trans (hdR_f (by unfold HdRight; omega)))
      | (by_cases hl : l = 0
         · exact (beq_iff_eq.2 hl).trans (hdR_t (by unfold HdRight; omega))
         · exact (beq_eq_false_iff_ne.2 hl).trans (hdR_f (by unfold HdRight; omega)))

set_option maxHeartbeats 1000000 in
theorem rencode_any (b k c l : Int) (hb0 : 0 ≤ b) (hb1 : b ≤ 1000000) (w : World) : Calls Try.prog 78 #[.int .i64 b, vhd k c l] w fun e w' => e = .returned (vu64 (encN b k c l)) ∧ Below w.heap.size w w' := by
  have hb := below_alloc w (Obj.cells #[Value.int .i64 k, Value.int .i64 c, Value.int .i64 l] 46)
  have hg := heap_alloc_new w (Obj.cells #[Value.int .i64 k, Value.int .i64 c, Value.int .i64 l] 46)
  go_enter Try.func78, Try.ntmps78
  go_wp2_with fail
  generalize w.alloc (Obj.cells #[Value.int .i64 k, Value.int .i64 c, Value.int .i64 l] 46) = w0 at *
  refine (rhright_any k c l w0).mono ?_
  rintro e w1 ⟨rfl, hb1⟩
  have hgl : w.heap.size < w0.heap.size := (Array.getElem?_eq_some_iff.1 hg).1
  have hbb := hb.trans (hb1.mono hb.size)
  have hg1 : w1.heap[w.heap.size]? = _ := (hb1.block _ hgl).trans hg
  have c0 : w1.cell? ⟨w.heap.size, 0, none⟩ = some (.int .i64 k) := cell_of_row _ _ 0 _ _ _ hg1
  have c1 : w1.cell? ⟨w.heap.size, 1, none⟩ = some (.int .i64 c) := cell_of_row _ _ 1 _ _ _ hg1
  have c2 : w1.cell? ⟨w.heap.size, 2, none⟩ = some (.int .i64 l) := cell_of_row _ _ 2 _ _ _ hg1
  clear hb hb1 hg hgl hg1
  cases hr : hdRight k c l
  · have HE : Hid (encN b k c l = 0) := Lib.hid (by unfold encN; rw [hr]; rfl)
    clear hr
    go_wp2_with fail
    go_ret
    exact ⟨ret_int (by rw [HE.out]; rfl), hbb⟩
  · have HE : Hid (encN b k c l = sealN (hdN k c l) (pl (256 + b))) := Lib.hid (by unfold encN; rw [hr]; rfl)
    have hn := hdN_lt hr
    obtain ⟨⟨k0, k1⟩, ⟨c0', c1'⟩, l0, l1⟩ := hd_small hr
    have HN : Hid (k + 4 * c + 256 * l = (hdN k c l : Int)) := Lib.hid (by unfold hdN; omega)
    clear hr
    generalize hdN k c l = n at *
    go_wp2_with fail
    rw [HN.out]
    refine (rseal_any n _ hn _).mono ?_
    rintro e w2 ⟨rfl, hb2⟩
    rw [← HE.out]
    go_wp2_with fail
    go_ret
    exact ⟨rfl, hbb.trans (hb2.mono hbb.size)⟩

set_option maxHeartbeats 1000000 in
theorem rdecode_any (b : Int) (x : Nat) (hb0 : 0 ≤ b) (hb1' : b ≤ 1000000) (hx : x < 18446744073709551616) (w : World) :
    Calls Try.prog 56 #[.int .i64 b, vu64 x] w fun e w' => e = .returned (decN b x).val ∧ Below w.heap.size w w' := by
  have hbA := below_alloc w (Obj.cells #[Value.int .i64 0, Value.int .i64 0, Value.int .i64 0] 46)
  have hg := heap_alloc_new w (Obj.cells #[Value.int .i64 0, Value.int .i64 0, Value.int .i64 0] 46)
  go_enter Try.func56, Try.ntmps56
  go_wp2_with fail
  generalize w.alloc (Obj.cells #[Value.int .i64 0, Value.int .i64 0, Value.int .i64 0] 46) = w0 at *
  refine (ropen_any x _ hx w0).mono ?_
  rintro e w1 ⟨rfl, hbo⟩
  have hgl : w.heap.size < w0.heap.size := (Array.getElem?_eq_some_iff.1 hg).1
  have hbb := hbA.trans (hbo.mono hbA.size)
  have hg1 : w1.heap[w.heap.size]? = _ := (hbo.block _ hgl).trans hg
  clear hbA hbo hg hgl
  cases ho : openN x (pl (256 + b)) with
  | none =>
    have HV := Lib.hid (decN_none ho)
    clear ho
    simp only [openV]
    go_wp2_with (refine wpList_store_row (cs := #[.int .i64 0, .int .i64 0, .int .i64 0]) aggRh hg1 rfl rfl (by simp [Value.oneCell']) rfl rfl rfl rfl ?_; intro w2 hg2 hgr2 hs2)
    refine bodyPost_ret (results_cell_row2 (p := 4) (u := 5) rfl _ _ _ _ _ _ _ rfl hg2 Try.underlying46 rfl (by kernel_rfl)) rfl ⟨by rw [HV.out]; rfl, ?_⟩
    exact hbb.grown hgr2 hbb.size (fun k e => by cases e; omega)
  | some n =>
    obtain ⟨hn, -⟩ := openN_some ho
    have HK := Lib.hid (decN_ok ho)
    have HRr := Lib.hid (fun he => enc_right (b := b) ho he)
    have HL := Lib.hid (decN_bad ho)
    clear ho
    simp only [openV]
    obtain ⟨h4, h64, h6⟩ := bits_sum n
    go_wp2_with fail
    rw [show (n : Int) % 4 = ((n % 4 : Nat) : Int) by omega, show (n : Int) / 4 % 64 = ((n / 4 % 64 : Nat) : Int) by omega, show (n : Int) / 256 % 65536 = ((n / 256 % 65536 : Nat) : Int) by omega]
    generalize n % 4 = k at *
    generalize n / 4 % 64 = c at *
    generalize n / 256 % 65536 = l at *
    have hb1 := below_alloc w1 (Obj.cells #[Value.int .i64 (k : Int), Value.int .i64 (c : Int), Value.int .i64 (l : Int)] 46)
    have hg2 := heap_alloc_new w1 (Obj.cells #[Value.int .i64 (k : Int), Value.int .i64 (c : Int), Value.int .i64 (l : Int)] 46)
    generalize w1.alloc (Obj.cells #[Value.int .i64 (k : Int), Value.int .i64 (c : Int), Value.int .i64 (l : Int)] 46) = w2 at *
    refine (rencode_any b k c l hb0 hb1' w2).mono ?_
    rintro e w3 ⟨rfl, hb3⟩
    have hgl : w.heap.size < w1.heap.size := (Array.getElem?_eq_some_iff.1 hg1).1
    have hgl2 : w1.heap.size < w2.heap.size := (Array.getElem?_eq_some_iff.1 hg2).1
    have hb3' := hbb.trans ((hb1.trans (hb3.mono hb1.size)).mono hbb.size)
    have hg3 : w3.heap[w.heap.size]? = _ := (hb3.block _ (by omega)).trans ((hb1.block _ hgl).trans hg1)
    have hg4 : w3.heap[w1.heap.size]? = _ := (hb3.block _ hgl2).trans hg2
    have he := encN_lt b k c l
    clear hb1 hb3 hg1 hg2 hbb
    generalize encN b k c l = y at *
    by_cases hyx : y = x
    · have HV := Lib.hid (HK.out hyx)
      have hrt := HRr.out hyx
      subst hyx
      have d0 : w3.cell? ⟨w1.heap.size, 0, none⟩ = some (.int .i64 k) := cell_of_row _ _ 0 _ _ _ hg4
      have d1 : w3.cell? ⟨w1.heap.size, 1, none⟩ = some (.int .i64 c) := cell_of_row _ _ 1 _ _ _ hg4
      have d2 : w3.cell? ⟨w1.heap.size, 2, none⟩ = some (.int .i64 l) := cell_of_row _ _ 2 _ _ _ hg4
      go_wp2_with fail
      refine (rhright_any k c l w3).mono ?_
      rintro e w5 ⟨rfl, hb5⟩
      have hb5' := hb3'.trans (hb5.mono hb3'.size)
      have hg3' : w5.heap[w.heap.size]? = _ := (hb5.block _ (Array.getElem?_eq_some_iff.1 hg3).1).trans hg3
      have hg4' : w5.heap[w1.heap.size]? = _ := (hb5.block _ (Array.getElem?_eq_some_iff.1 hg4).1).trans hg4
      have d0 : w5.cell? ⟨w1.heap.size, 0, none⟩ = some (.int .i64 k) := cell_of_row _ _ 0 _ _ _ hg4'
      have d1 : w5.cell? ⟨w1.heap.size, 1, none⟩ = some (.int .i64 c) := cell_of_row _ _ 1 _ _ _ hg4'
      have d2 : w5.cell? ⟨w1.heap.size, 2, none⟩ = some (.int .i64 l) := cell_of_row _ _ 2 _ _ _ hg4'
      rw [hrt]
      clear hb5 hg3 hg4 hrt HRr HK HL
      go_wp2_with (refine wpList_store_row (cs := #[.int .i64 k, .int .i64 c, .int .i64 l]) aggRh hg3' rfl rfl (by simp [Value.oneCell']) rfl rfl rfl rfl ?_; intro w4 hg5 hgr4 hs4)
      refine bodyPost_ret (results_cell_row2 (p := 4) (u := 5) rfl _ _ _ _ _ _ _ rfl hg5 Try.underlying46 rfl (by kernel_rfl)) rfl ⟨by rw [HV.out]; rfl, ?_⟩
      exact hb5'.grown hgr4 hb5'.size (fun k e => by cases e; omega)
    · have HV := Lib.hid (HL.out hyx)
      have hne : ¬ ((y : Int) = (x : Int)) := by omega
      clear hyx
      go_wp2_with (refine wpList_store_row (cs := #[.int .i64 0, .int .i64 0, .int .i64 0]) aggRh hg3 rfl rfl (by simp [Value.oneCell']) rfl rfl rfl rfl ?_; intro w4 hg5 hgr4 hs4)
      refine bodyPost_ret (results_cell_row2 (p := 4) (u := 5) rfl _ _ _ _ _ _ _ rfl hg5 Try.underlying46 rfl (by kernel_rfl)) rfl ⟨by rw [HV.out]; rfl, ?_⟩
      exact hb3'.grown hgr4 hb3'.size (fun k e => by cases e; omega)

end Go.Proofs.Ytjgdplengfnkaaa

/- The reference's device, read: Get; all headers. -/
namespace Go.Proofs.Ytjgdplengfnkaaa
open Go.RowKit
set_option linter.unusedVariables false

theorem peek_neg (l : List Nat) (i : Int) (h : i < 0) : peek l i = 0 := by unfold peek; rw [if_neg (by omega)]
theorem peek_out (l : List Nat) (j : Nat) (h : l.length ≤ j) : peek l (j : Int) = 0 := by
  unfold peek; rw [if_pos (by omega)]; simp [List.getElem?_eq_none h]
theorem peek_in (l : List Nat) (j : Nat) : peek l (j : Int) = l.getD j 0 := by unfold peek; rw [if_pos (by omega)]; rfl

set_option maxHeartbeats 400000 in
theorem rget_any (a : Option Addr) (n cap : Nat) (ls : List Nat) (w : World) (hc : Cells w a (ls.map vu64)) (hl : ls.length = 8 * n) (hn : n ≤ 1000000) (i : Int) :
    Calls Try.prog 44 #[.slice a n cap, .int .i64 i] w fun e w' => e = .returned (vu64 (peek ls i)) ∧ w = w' := by
  by_cases h0 : i < 0
  · have HV := Lib.hid (peek_neg ls i h0)
    clear hl hc
    go_enter Try.func44, Try.ntmps44
    go_wp2_with fail
    go_ret
    exact ⟨ret_int (by rw [HV.out]; rfl), rfl⟩
  obtain ⟨j, rfl⟩ := Int.eq_ofNat_of_zero_le (show 0 ≤ i by omega)
  by_cases h1 : j < 8 * n
  · obtain ⟨b, off, rfl, hb, hcs⟩ := hc.atMap 0 (show j < ls.length by omega)
    have hcell : w.cell? ⟨b, off + j / 8 * 8 + j % 8, none⟩ = some (vu64 (ls.getD j 0)) := by
      rw [show off + j / 8 * 8 + j % 8 = off + j by omega]; exact hcs j (by omega)
    have HV := Lib.hid (peek_in ls j)
    generalize ls.getD j 0 = x at *
    have hj8 : j / 8 < n := by omega
    have hj1 : (j : Int) < 8 * (n : Int) := by omega
    clear hl hc hcs h1
    go_enter Try.func44, Try.ntmps44
    go_wp2_with fail
    go_ret
    exact ⟨ret_int (by rw [HV.out]), rfl⟩
  · have HV := Lib.hid (peek_out ls j (by omega))
    have h2 : 8 * (n : Int) ≤ (j : Int) := by omega
    clear hl hc
    go_enter Try.func44, Try.ntmps44
    go_wp2_with fail
    go_ret
    exact ⟨ret_int (by rw [HV.out]; rfl), rfl⟩

theorem elRh : Elem Try.prog 37 46 (.agg #[.int .i64 0, .int .i64 0, .int .i64 0]) 3 24 := Elem.mk' Try.underlying37 (by kernel_rfl) rfl (by decide)

theorem grown_cell {w w' : World} {v : Value} {base e size n : Nat} {xs : List Value} (hg : w.grownBy w' v.ownBlock) (ho : w.ownsRow base e size v n xs) {p : Addr} {x : Value} (hb : p.block < base) (h : w.cell? p = some x) : w'.cell? p = some x := by
  have hlt := World.block_lt_of_cell? _ _ h
  rw [World.cell?_of_block (w := w) (hg.block p.block hlt (fun c => by have := (ho.lt p.block c.symm).1; omega))]; exact h

set_option maxHeartbeats 2000000 in
set_option maxRecDepth 100000 in
theorem rread_any (a : Option Addr) (n cap : Nat) (ls : List Nat) (v1 v2 v3 v4 v5 v6 v7 : Value) (w : World) (hc : Cells w a (ls.map vu64)) (hl : ls.length = 8 * n) (hn : n ≤ 100000) (hu : ∀ z ∈ ls, z < 18446744073709551616) (B : Nat) (hB1 : 1 ≤ B) (hB : B ≤ 1000) :
    Calls Try.prog 12 #[.agg #[.slice a n cap, v1, v2, v3, v4, v5, v6, v7], .int .i64 (B : Int)] w (ReadPost 46 (fun b : Nat => peek ls (256 + (b : Int))) B w) := by
  obtain ⟨f, hf⟩ : ∃ f : Nat → Nat, f = fun b : Nat => peek ls (256 + (b : Int)) := ⟨_, rfl⟩
  rw [← hf]
  have HF0 := Lib.hid hf
  generalize hP : ReadPost 46 f B w = Post
  have HPE := Lib.hid hP
  have HC := Lib.hid hc
  have HL := Lib.hid hl
  have HU := Lib.hid hu
  clear hf hP hc hl hu
  obtain ⟨w0, hw0⟩ : ∃ w0, w0 = (w.alloc (.cells #[.slice a n cap, v1, v2, v3, v4, v5, v6, v7] 31)).alloc (.cells #[.int .i64 0, .int .i64 0, .int .i64 0] 46) := ⟨_, rfl⟩
  have hb0 : Below w.heap.size w w0 := by rw [hw0]; exact (below_alloc _ _).alloc (by simp) _
  have hc0 : w0.cell? ⟨w.heap.size, 0, none⟩ = some (.slice a n cap) := by
    rw [hw0]
    exact below_cells (below_alloc _ _) (cell_alloc_new _ _ _ 0 _ rfl) (Nat.le_refl _)
  have ho0 : w0.ownsRow (w.heap.size + 1) 46 3 (.slice (some ⟨w.heap.size + 1, 0, none⟩) 1 1) 1 (hdCs (hds f 1)) := by
    refine ⟨rfl, .inr ⟨w.heap.size + 1, 1, #[.int .i64 0, .int .i64 0, .int .i64 0], rfl, Nat.le_refl _, ?_, Nat.le_refl _, by unfold maxLen; omega, rfl, rfl⟩⟩
    rw [hw0]
    have := heap_alloc_new (w.alloc (.cells #[.slice a n cap, v1, v2, v3, v4, v5, v6, v7] 31)) (.cells #[.int .i64 0, .int .i64 0, .int .i64 0] 46)
    simpa using this
  have HW0 := Lib.hid hw0
  have HB0 := Lib.hid hb0
  have HC0 := Lib.hid hc0
  have HO0 := Lib.hid ho0
  clear hw0 hb0 hc0 ho0
  go_enter Try.func12, Try.ntmps12
  go_wp2_with fail
  rw [← HW0.out]
  go_loopw [7, 8] (fun v i wr => ∃ k : Nat, 1 ≤ k ∧ k ≤ B ∧ i = .int .i64 k ∧ AllOk f k ∧ (∃ g c, v = .slice (some ⟨g, 0, none⟩) k c ∧ k ≤ c ∧ w.heap.size ≤ g) ∧ wr.ownsRow (w.heap.size + 1) 46 3 v k (hdCs (hds f k)) ∧ wr.cell? ⟨w.heap.size, 0, none⟩ = some (.slice a n cap) ∧ Below w.heap.size w wr) (fun _ i _ => B - (intOf i).toNat)
  case atStart => exact ⟨1, Nat.le_refl _, hB1, rfl, (fun b h1 h2 => by omega), ⟨_, _, rfl, Nat.le_refl _, by omega⟩, HO0.out, HC0.out, HB0.out⟩
  case round =>
    obtain ⟨k, hk1, hk2, rfl, hok, ⟨g, c, rfl, hkc, hgw⟩, ho, hcx, hb⟩ := hrel
    have HOK := Lib.hid hok
    have HO := Lib.hid ho
    have HB := Lib.hid hb
    have HCr := Lib.hid (HC.out.below hb (Nat.le_refl _))
    clear hok ho hb
    by_cases hlt : k < B
    · have hlt' : (k : Int) < (B : Int) := by omega
      go_wp2_with fail
      refine (rget_any a n cap ls _ HCr.out HL.out (by omega) _).mono ?_
      rintro e w3 ⟨rfl, rfl⟩
      have HX : Hid (peek ls (256 + (k : Int)) = f k) := Lib.hid (by rw [HF0.out])
      have hx : f k < 18446744073709551616 := by rw [← HX.out]; exact peek_lt HU.out _
      rw [HX.out]
      go_wp2_with fail
      refine (rdecode_any (k : Int) (f k) (by omega) (by omega) hx _).mono ?_
      rintro e w4 ⟨rfl, hb4⟩
      have HF : Hid (⟨(decN k (f k)).k, (decN k (f k)).c, (decN k (f k)).l⟩ = hdF f k) := Lib.hid (by unfold hdF; rw [if_neg (by omega)])
      have HCc : Hid ((decN k (f k)).code = 0 ∨ (decN k (f k)).code ≠ 0) := Lib.hid (by omega)
      have HOK2 : Hid ((decN k (f k)).code = 0 → AllOk f (k + 1)) := Lib.hid (fun h => HOK.out.succ h)
      have HBad : Hid ((decN k (f k)).code ≠ 0 → ∀ w', Below w.heap.size w w' → Post (.returned (.tuple #[.slice none 0 0, .int .i64 k, .int .i64 21])) w') := Lib.hid (fun h w' hw' => by
        rw [← HPE.out]; exact ⟨hw', .inr ⟨k, hk1, hlt, HOK.out, h, rfl⟩⟩)
      unfold Dec.val
      generalize decN k (f k) = dd at *
      obtain ⟨dk, dc, dl, dcode⟩ := dd
      dsimp only at *
      have HB4 := Lib.hid hb4
      clear hb4
      rcases HCc.out with hz | hz
      · subst hz
        have HOK3 := Lib.hid (HOK2.out rfl)
        have HBE : Hid (Below w.heap.size w w4) := Lib.hid (HB.out.trans (HB4.out.mono HB.out.size))
        have hb5 := below_alloc w4 (Obj.cells #[Value.int .i64 dk, Value.int .i64 dc, Value.int .i64 dl] 46)
        have HO5 : Hid ((w4.alloc (Obj.cells #[Value.int .i64 dk, Value.int .i64 dc, Value.int .i64 dl] 46)).ownsRow (w.heap.size + 1) 46 3 (.slice (some ⟨g, 0, none⟩) k c) k (hdCs (hds f k))) := Lib.hid ((owned_below HO.out HB4.out (Nat.le_refl _)).alloc _)
        have HCX5 : Hid ((w4.alloc (Obj.cells #[Value.int .i64 dk, Value.int .i64 dc, Value.int .i64 dl] 46)).cell? ⟨w.heap.size, 0, none⟩ = some (.slice a n cap)) := Lib.hid (below_cells hb5 (below_cells HB4.out hcx (Nat.le_refl _)) (Nat.le_refl _))
        have HB5 : Hid (Below w.heap.size w (w4.alloc (Obj.cells #[Value.int .i64 dk, Value.int .i64 dc, Value.int .i64 dl] 46))) := Lib.hid (HBE.out.alloc HBE.out.size _)
        have hone : Hid (∀ u ∈ (#[Value.int .i64 dk, Value.int .i64 dc, Value.int .i64 dl] : Array Value).toList, u.oneCell' = true) := Lib.hid (by intro u hu; simp at hu; rcases hu with rfl | rfl | rfl <;> rfl)
        have hbase : Hid (w.heap.size + 1 ≤ (w4.alloc (Obj.cells #[Value.int .i64 dk, Value.int .i64 dc, Value.int .i64 dl] 46)).heap.size) := Lib.hid (by have := HBE.out.size; simp; omega)
        have hk9 : k < 1000000000000 := by omega
        clear hb5 hcx
        go_wp2_with (at_builtin; refine wpList_append_new (us := #[.int .i64 dk, .int .i64 dc, .int .i64 dl]) elRh HO5.out rfl hone.out hk9 (by decide) hbase.out rfl rfl rfl (by simp [Act.eval]) ?_; intro g6 c6 w6 ho6 hg6 hc6 hm6 hb6 hl6; have HO6 := Lib.hid ho6; have HG6 := Lib.hid hg6; clear ho6 hg6)
        refine ⟨⟨k + 1, by omega, by omega, vint (by omega), HOK3.out, ⟨g6, c6, rfl, hc6, by omega⟩, ?_, ?_, ?_⟩, by simp [intOf]; omega⟩
        · rw [hds_succ, hdCs_append, ← HF.out]
          exact HO6.out
        · exact grown_cell HG6.out HO5.out (by simp) HCX5.out
        · exact below_grownBy HB5.out HO5.out HG6.out (Nat.le_refl _) (by omega)
      · have hz1 : (dcode != 0) = true := by simpa using hz
        have HZ := Lib.hid (HBad.out hz)
        have HBE : Hid (Below w.heap.size w w4) := Lib.hid (HB.out.trans (HB4.out.mono HB.out.size))
        clear hz HBad HCc HOK2
        go_wp2_with fail
        go_ret3
        exact HZ.out _ (HBE.out.alloc (HBE.out.size) _)
    · obtain rfl : k = B := by omega
      have hlt' : decide ((k : Int) < (k : Int)) = false := by simp
      go_wp2_with fail
      go_ret3
      rw [← HPE.out]
      exact ⟨HB.out, .inl ⟨HOK.out, g, c, rfl, hgw, hkc, owned_row HO.out⟩⟩

end Go.Proofs.Ytjgdplengfnkaaa

/- blocks: Open, Get, Count; law07: Ref, Refs. -/
namespace Go.Proofs.Ytjgdplengfnkaaa
open Go.RowKit
set_option linter.unusedVariables false

/-- A table of headers in memory. -/
structure TabAt (w : World) (p : Nat) (F : Foot) (B : Nat) (l : List Hd) : Prop where
  ex : ∃ g c, w.heap[p]? = some (.cells #[vdev F, .int .i64 (B : Int), .slice (some ⟨g, 0, none⟩) l.length c] 121 (0, 0)) ∧ l.length ≤ c ∧ RowAt w g 48 (hdCs l) ∧ p ≠ g

theorem TabAt.below {w w' : World} {p B : Nat} {F : Foot} {l : List Hd} (h : TabAt w p F B l) (hb : Below w.heap.size w w') : TabAt w' p F B l := by
  obtain ⟨g, c, hp, hc, hr, hne⟩ := h.ex
  exact ⟨g, c, (hb.block p (Array.getElem?_eq_some_iff.1 hp).1).trans hp, hc, hr.keep (hb.block g hr.lt), hne⟩
theorem TabAt.lt {w : World} {p B : Nat} {F : Foot} {l : List Hd} (h : TabAt w p F B l) : p < w.heap.size := by
  obtain ⟨g, c, hp, _⟩ := h.ex
  exact (Array.getElem?_eq_some_iff.1 hp).1

/-- What opening answers. -/
def OpenPost (f : Nat → Nat) (F : Foot) (B : Nat) (w : World) : Ending → World → Prop := fun en w' => Below w.heap.size w w' ∧
  ((AllOk f B ∧ ∃ p, en = .returned (.tuple #[.pointer (some ⟨p, 0, none⟩), .int .i64 0]) ∧ w.heap.size ≤ p ∧ TabAt w' p F B (hds f B)) ∨
   (∃ b : Nat, 1 ≤ b ∧ b < B ∧ AllOk f b ∧ (decN b (f b)).code ≠ 0 ∧ en = .returned (.tuple #[.pointer none, .int .i64 21])))

set_option maxHeartbeats 1000000 in
set_option maxRecDepth 100000 in
theorem open_tab {w : World} {F : Foot} {S : Dev} (h : DevAt w F S) (B : Nat) (hB1 : 1 ≤ B) (hB : B ≤ 1000) :
    Calls Try.prog 13 #[vdev F, vgeom B] w (OpenPost (devWord S) F B w) := by
  have hbx := below_alloc w (.cells #[.int .i64 (B : Int)] 25)
  have HD := Lib.hid (h.below hbx)
  have HB := Lib.hid hbx
  have hcx : (w.alloc (.cells #[.int .i64 (B : Int)] 25)).cell? ⟨w.heap.size, 0, none⟩ = some (.int .i64 (B : Int)) := cell_alloc_new _ _ _ 0 _ rfl
  generalize hP : OpenPost (devWord S) F B w = Post
  have HPE := Lib.hid hP
  clear h hP hbx
  go_enter Try.func13, Try.ntmps13
  go_wp2_with fail
  refine (read_any HD.out B hB1 hB).mono ?_
  rintro e w1 ⟨hb1, ⟨hok, g, c, rfl, hg, hgc, hr⟩ | ⟨b, hb0, hbB, hok, hbad, rfl⟩⟩
  · have hcx1 : w1.cell? ⟨w.heap.size, 0, none⟩ = some (.int .i64 (B : Int)) := below_cells hb1 hcx (Nat.le_refl _)
    have HB1 := Lib.hid (HB.out.trans (hb1.mono HB.out.size))
    have HOK := Lib.hid hok
    have HR := Lib.hid hr
    have hgl := hr.lt
    clear hcx hok hr hb1 HD
    go_wp2_with fail
    rw [← HPE.out]
    refine ⟨HB1.out.alloc HB1.out.size _, .inl ⟨HOK.out, w1.heap.size, rfl, HB1.out.size, ⟨g, c, ?_, by rw [hds_length]; exact hgc, HR.out.keep (Below.heap_alloc _ _ _ hgl), by omega⟩⟩⟩
    rw [heap_alloc_new, hds_length]
  · have HB1 := Lib.hid (HB.out.trans (hb1.mono HB.out.size))
    have HOK := Lib.hid hok
    have HBad := Lib.hid hbad
    clear hok hbad hb1 HD
    go_wp2_with fail
    rw [← HPE.out]
    exact ⟨HB1.out, .inr ⟨b, hb0, hbB, HOK.out, HBad.out, rfl⟩⟩

def Hd.val (h : Hd) : Value := .agg #[.int .i64 h.k, .int .i64 h.c, .int .i64 h.l]
/-- A header, where there is one. -/
def hdGet (l : List Hd) (b : Int) : Hd := if b < 1 ∨ (l.length : Int) ≤ b then ⟨0, 0, 0⟩ else l.getD b.toNat default

set_option maxHeartbeats 1000000 in
theorem tget_any {w : World} {p B : Nat} {F : Foot} {l : List Hd} (h : TabAt w p F B l) (b : Int) (hl : l.length ≤ 1000) :
    Calls Try.prog 17 #[.pointer (some ⟨p, 0, none⟩), .int .i64 b] w fun e w' => e = .returned (hdGet l b).val ∧ Below w.heap.size w w' := by
  obtain ⟨g, c, hp, hc, hr, hne⟩ := h.ex
  have c2 : w.cell? ⟨p, 2, none⟩ = some (.slice (some ⟨g, 0, none⟩) l.length c) := cell_of_row _ _ 2 _ _ _ hp
  have hpl : p < w.heap.size := (Array.getElem?_eq_some_iff.1 hp).1
  have hgl := hr.lt
  by_cases h1 : b < 1
  · have HE : Hid (hdGet l b = ⟨0, 0, 0⟩) := Lib.hid (by unfold hdGet; rw [if_pos (.inl h1)])
    clear hp hr h
    go_enter Try.func17, Try.ntmps17
    go_wp2_with fail
    exact bodyPost_ret (v := .agg #[.int .i64 0, .int .i64 0, .int .i64 0]) (by simp [results, Try.results17, go_sem]) rfl ⟨by rw [HE.out]; rfl, below_alloc _ _⟩
  by_cases h2 : (l.length : Int) ≤ b
  · have HE : Hid (hdGet l b = ⟨0, 0, 0⟩) := Lib.hid (by unfold hdGet; rw [if_pos (.inr h2)])
    clear hp hr h
    go_enter Try.func17, Try.ntmps17
    go_wp2_with fail
    exact bodyPost_ret (v := .agg #[.int .i64 0, .int .i64 0, .int .i64 0]) (by simp [results, Try.results17, go_sem]) rfl ⟨by rw [HE.out]; rfl, below_alloc _ _⟩
  obtain ⟨j, rfl⟩ := Int.eq_ofNat_of_zero_le (show 0 ≤ b by omega)
  have hj : j < l.length := by omega
  have HE : Hid (hdGet l (j : Int) = l.getD j default) := Lib.hid (by unfold hdGet; rw [if_neg (by omega)]; rfl)
  have HA := hdCs_at l j hj
  generalize l.getD j default = hd at *
  obtain ⟨hk, hcl, hln⟩ := hd
  have d0 : w.cell? ⟨g, j * 3, none⟩ = some (.int .i64 hk) := hr.cell (HA 0 _ rfl)
  have d1 : w.cell? ⟨g, j * 3 + 1, none⟩ = some (.int .i64 hcl) := hr.cell (HA 1 _ rfl)
  have d2 : w.cell? ⟨g, j * 3 + 2, none⟩ = some (.int .i64 hln) := hr.cell (HA 2 _ rfl)
  clear hp hr h HA
  go_enter Try.func17, Try.ntmps17
  go_wp2_with fail
  exact bodyPost_ret (v := .agg #[.int .i64 hk, .int .i64 hcl, .int .i64 hln]) (by simp [results, Try.results17, go_sem]) rfl ⟨by rw [HE.out]; rfl, below_alloc _ _⟩

def cntKind (l : List Hd) (kind : Int) : Nat → Nat
  | 0 => 0
  | b + 1 => cntKind l kind b + (if 1 ≤ b ∧ (l.getD b default).k = kind then 1 else 0)
theorem cntKind_le (l : List Hd) (kind : Int) (b : Nat) : cntKind l kind b ≤ b := by
  induction b with
  | zero => exact Nat.le_refl _
  | succ b ih => unfold cntKind; split <;> omega

set_option maxHeartbeats 1000000 in
theorem count_any {w : World} {p B : Nat} {F : Foot} {l : List Hd} (h : TabAt w p F B l) (kind : Int) (hl : l.length ≤ 1000) (hl1 : 1 ≤ l.length) :
    Calls Try.prog 18 #[.pointer (some ⟨p, 0, none⟩), .int .i64 kind] w fun e w' => e = .returned (.int .i64 (cntKind l kind l.length : Nat)) ∧ w = w' := by
  obtain ⟨g, c, hp, hc, hr, hne⟩ := h.ex
  have c2 : w.cell? ⟨p, 2, none⟩ = some (.slice (some ⟨g, 0, none⟩) l.length c) := cell_of_row _ _ 2 _ _ _ hp
  have HR := Lib.hid hr
  clear h hp hr
  go_enter Try.func18, Try.ntmps18
  go_wp2_with fail
  go_loop [5, 6] (fun n i => ∃ b : Nat, 1 ≤ b ∧ b ≤ l.length ∧ i = .int .i64 b ∧ n = .int .i64 (cntKind l kind b : Nat)) (fun _ i => l.length - (intOf i).toNat)
  case atStart => exact ⟨1, Nat.le_refl _, hl1, rfl, rfl⟩
  case round =>
    obtain ⟨b, hb1, hb2, rfl, rfl⟩ := hrel
    have hcl := cntKind_le l kind b
    by_cases hlt : b < l.length
    · have hlt' : (b : Int) < (l.length : Int) := by omega
      have HA := hdCs_at l b hlt
      have HS : Hid (cntKind l kind (b + 1) = cntKind l kind b + (if 1 ≤ b ∧ (l.getD b default).k = kind then 1 else 0)) := Lib.hid rfl
      generalize l.getD b default = hd at *
      obtain ⟨hk, hcl2, hln⟩ := hd
      have d0 : w.cell? ⟨g, b * 3, none⟩ = some (.int .i64 hk) := HR.out.cell (HA 0 _ rfl)
      clear HA
      by_cases hq : hk = kind
      · have hq1 : (hk == kind) = true := by simpa using hq
        have HQ := Lib.hid hq
        clear hq
        go_wp2_with fail
        exact ⟨⟨b + 1, by omega, by omega, vint (by omega), vint (by rw [HS.out, if_pos ⟨hb1, HQ.out⟩]; omega)⟩, by simp [intOf]; omega⟩
      · have hq1 : (hk == kind) = false := by simpa using hq
        have HQ := Lib.hid hq
        clear hq
        go_wp2_with fail
        exact ⟨⟨b + 1, by omega, by omega, vint (by omega), vint (by rw [HS.out, if_neg (fun h => HQ.out h.2)]; omega)⟩, by simp [intOf]; omega⟩
    · obtain rfl : b = l.length := by omega
      have hlt' : decide ((l.length : Int) < (l.length : Int)) = false := by simp
      go_wp2_with fail
      go_ret
      exact ⟨rfl, rfl⟩

end Go.Proofs.Ytjgdplengfnkaaa

/- law07: Ref, Refs; ref10: Same. -/
namespace Go.Proofs.Ytjgdplengfnkaaa
open Go.RowKit
set_option linter.unusedVariables false

set_option maxHeartbeats 400000 in
theorem ref_any (h : Hd) (w : World) : Calls Try.prog 16 #[h.val] w fun e w' => e = .returned h.val ∧ Below w.heap.size w w' := by
  obtain ⟨k, c, l⟩ := h
  unfold Hd.val
  dsimp only
  have hb : Below w.heap.size w ((w.alloc (.cells #[.int .i64 k, .int .i64 c, .int .i64 l] 48)).alloc (.cells #[.int .i64 k, .int .i64 c, .int .i64 l] 46)) := (below_alloc _ _).alloc (by simp) _
  have HB := Lib.hid hb
  clear hb
  go_enter Try.func16, Try.ntmps16
  go_wp2_with fail
  exact bodyPost_ret (v := .agg #[.int .i64 k, .int .i64 c, .int .i64 l]) (by simp [results, Try.results16, go_sem]) rfl ⟨rfl, HB.out⟩

theorem hdGetD (l : List Hd) (j : Nat) : ∃ k c n, l.getD j default = ⟨k, c, n⟩ := ⟨_, _, _, rfl⟩

set_option maxHeartbeats 1000000 in
set_option maxRecDepth 20000 in
theorem refs_any (a : Option Addr) (n cap : Nat) (l : List Hd) (hn : l.length = n) (w : World) (hc : Cells w a (hdCs l)) (hl : n ≤ 1000) :
    Calls Try.prog 15 #[.slice a n cap] w fun e w' => ∃ v, e = .returned v ∧ w'.ownsRow w.heap.size 46 3 v n (hdCs l) ∧ Below w.heap.size w w' := by
  have HN := Lib.hid hn
  have HC := Lib.hid hc
  clear hn hc
  go_enter Try.func15, Try.ntmps15
  go_wp2_with fail
  go_loopw [3, 4] (fun v i wr => ∃ k : Nat, k ≤ n ∧ i = .int .i64 k ∧ wr.ownsRow w.heap.size 46 3 v k (hdCs (l.take k)) ∧ Below w.heap.size w wr) (fun _ i _ => n - (intOf i).toNat)
  case atStart => exact ⟨0, Nat.zero_le _, rfl, ⟨rfl, .inl ⟨rfl, rfl⟩⟩, Below.refl _ _⟩
  case round =>
    obtain ⟨k, hk, rfl, ho, hb⟩ := hrel
    obtain ⟨a1, c1, rfl, hc1, hm1⟩ := owned_form ho
    have HO := Lib.hid ho
    have HB := Lib.hid hb
    clear ho hb
    by_cases hlt : k < n
    · have hlt' : (k : Int) < (n : Int) := by omega
      have hkl : k < l.length := by rw [HN.out]; exact hlt
      have HA := hdCs_at l k hkl
      have HS : Hid (hdCs (l.take (k + 1)) = hdCs (l.take k) ++ (l.getD k default).cs) := Lib.hid (by
        rw [List.take_succ_eq_append_getElem hkl, hdCs_append]; simp [hdCs, hkl])
      generalize l.getD k default = hd at *
      obtain ⟨hk', hcl, hln⟩ := hd
      obtain ⟨b, off, rfl, hcs⟩ : ∃ b off, a = some ⟨b, off, none⟩ ∧ ∀ i v, (hdCs l)[i]? = some v → wr.cell? ⟨b, off + i, none⟩ = some v := by
        rcases HC.out.below HB.out (Nat.le_refl _) with h | ⟨b, off, rfl, h⟩
        · have := congrArg List.length h
          rw [hdCs_length] at this
          simp only [List.length_nil] at this
          omega
        · exact ⟨b, off, rfl, h⟩
      have d0 : wr.cell? ⟨b, off + k * 3, none⟩ = some (.int .i64 hk') := hcs _ _ (HA 0 _ rfl)
      have d1 : wr.cell? ⟨b, off + k * 3 + 1, none⟩ = some (.int .i64 hcl) := hcs _ _ (HA 1 _ rfl)
      have d2 : wr.cell? ⟨b, off + k * 3 + 2, none⟩ = some (.int .i64 hln) := hcs _ _ (HA 2 _ rfl)
      clear HA hcs
      go_wp2_with fail
      refine (ref_any ⟨hk', hcl, hln⟩ _).mono ?_
      rintro e w1 ⟨rfl, hb1⟩
      unfold Hd.val
      dsimp only
      have HB1 := Lib.hid (HB.out.trans (hb1.mono HB.out.size))
      have HO1 := Lib.hid (owned_below HO.out hb1 (Nat.le_refl _))
      have hone : Hid (∀ u ∈ (#[Value.int .i64 hk', Value.int .i64 hcl, Value.int .i64 hln] : Array Value).toList, u.oneCell' = true) := Lib.hid (by intro u hu; simp at hu; rcases hu with rfl | rfl | rfl <;> rfl)
      have hbase : Hid (w.heap.size ≤ w1.heap.size) := Lib.hid HB1.out.size
      have hk9 : k < 1000000000000 := by omega
      clear hb1 d0 d1 d2
      go_wp2_with (at_builtin; refine wpList_append_new (us := #[.int .i64 hk', .int .i64 hcl, .int .i64 hln]) elRh HO1.out rfl hone.out hk9 (by decide) hbase.out rfl rfl rfl (by simp [Act.eval]) ?_; intro g6 c6 w6 ho6 hg6 hc6 hm6 hb6 hl6; have HO6 := Lib.hid ho6; have HG6 := Lib.hid hg6; clear ho6 hg6)
      refine ⟨⟨k + 1, by omega, vint (by omega), ?_, below_grownBy HB1.out HO1.out HG6.out (Nat.le_refl _) (Nat.le_refl _)⟩, by simp [intOf]; omega⟩
      rw [HS.out]
      exact HO6.out
    · obtain rfl : k = n := by omega
      have hlt' : decide ((k : Int) < (k : Int)) = false := by simp
      go_wp2_with fail
      go_ret
      refine ⟨_, rfl, ?_, HB.out⟩
      have := HO.out
      rwa [List.take_of_length_le (by rw [HN.out]; exact Nat.le_refl _)] at this

theorem fsRh : (Try.prog.fieldsOf 46) = #[{ name := "Kind", type := 3, offset := 0, embedded := false, tag := "", pkgPath := "", byteOffset := 0 },
        { name := "Class", type := 3, offset := 1, embedded := false, tag := "", pkgPath := "", byteOffset := 8 },
        { name := "Len", type := 3, offset := 2, embedded := false, tag := "", pkgPath := "", byteOffset := 16 }] := by kernel_rfl
theorem usRh : Try.prog.underlying 46 = some (.struct (Try.prog.fieldsOf 46)) := by kernel_rfl
theorem ssRh : Try.prog.stoodInHeld 46 = false := by kernel_rfl
theorem gsRh : Try.prog.eqGuardType Try.prog.depth 46 = false := by kernel_rfl
theorem equalRh (w : World) (a b c a' b' c' : Int) (r : Bool) (hr : r = ((a == a') && (b == b') && (c == c'))) : (Op.equalIn 10000 46 (.agg #[.int .i64 a, .int .i64 b, .int .i64 c]) (.agg #[.int .i64 a', .int .i64 b', .int .i64 c'])).run Try.prog w = .ok r w := by
  rw [hr, show (10000 : Nat) = 9999 + 1 from rfl, run_equalIn_agg w 9999 46 _ _ usRh ssRh, fsRh]
  by_cases h1 : a = a' <;> by_cases h2 : b = b' <;> by_cases h3 : c = c' <;> simp [Op.eqFields, go_sem, h1, h2, h3, Try.underlying3, part]

theorem fsBh : (Try.prog.fieldsOf 48) = #[{ name := "Kind", type := 3, offset := 0, embedded := false, tag := "", pkgPath := "", byteOffset := 0 },
        { name := "Class", type := 3, offset := 1, embedded := false, tag := "", pkgPath := "", byteOffset := 8 },
        { name := "Len", type := 3, offset := 2, embedded := false, tag := "", pkgPath := "", byteOffset := 16 }] := by kernel_rfl
theorem usBh : Try.prog.underlying 48 = some (.struct (Try.prog.fieldsOf 48)) := by kernel_rfl
theorem ssBh : Try.prog.stoodInHeld 48 = false := by kernel_rfl
theorem gsBh : Try.prog.eqGuardType Try.prog.depth 48 = false := by kernel_rfl
theorem equalBh (w : World) (a b c a' b' c' : Int) (r : Bool) (hr : r = ((a == a') && (b == b') && (c == c'))) : (Op.equalIn 10000 48 (.agg #[.int .i64 a, .int .i64 b, .int .i64 c]) (.agg #[.int .i64 a', .int .i64 b', .int .i64 c'])).run Try.prog w = .ok r w := by
  rw [hr, show (10000 : Nat) = 9999 + 1 from rfl, run_equalIn_agg w 9999 48 _ _ usBh ssBh, fsBh]
  by_cases h1 : a = a' <;> by_cases h2 : b = b' <;> by_cases h3 : c = c' <;> simp [Op.eqFields, go_sem, h1, h2, h3, Try.underlying3, part]
theorem hd_beq (k c n k' c' n' : Int) : decide ((⟨k, c, n⟩ : Hd) = ⟨k', c', n'⟩) = ((k == k') && (c == c') && (n == n')) := by
  rw [Bool.eq_iff_iff]; simp [Hd.mk.injEq, and_assoc]

theorem hd_cells {w : World} {a : Option Addr} {l : List Hd} (h : Cells w a (hdCs l)) {j : Nat} (hj : j < l.length) {k c n : Int} (he : l.getD j default = ⟨k, c, n⟩) :
    ∃ b off, a = some ⟨b, off, none⟩ ∧ w.cell? ⟨b, off + j * 3, none⟩ = some (.int .i64 k) ∧ w.cell? ⟨b, off + j * 3 + 1, none⟩ = some (.int .i64 c) ∧ w.cell? ⟨b, off + j * 3 + 2, none⟩ = some (.int .i64 n) := by
  have HA := hdCs_at l j hj
  rw [he] at HA
  rcases h with h | ⟨b, off, rfl, h⟩
  · have := congrArg List.length h
    rw [hdCs_length] at this
    simp only [List.length_nil] at this
    omega
  · exact ⟨b, off, rfl, h _ _ (HA 0 _ rfl), h _ _ (HA 1 _ rfl), h _ _ (HA 2 _ rfl)⟩

theorem take_eq_succ {l m : List Hd} {k : Nat} (h1 : k < l.length) (h2 : k < m.length) (h : l.take k = m.take k) (he : l.getD k default = m.getD k default) : l.take (k + 1) = m.take (k + 1) := by
  rw [List.take_succ_eq_append_getElem h1, List.take_succ_eq_append_getElem h2, h]
  simp [h1, h2] at he
  rw [he]

def sameHd (l m : List Hd) : Bool := decide (l = m)

set_option maxHeartbeats 1000000 in
set_option maxRecDepth 20000 in
theorem rsame_any (a b : Option Addr) (n m cap cap2 : Nat) (l r : List Hd) (hn : l.length = n) (hm : r.length = m) (w : World) (hc : Cells w a (hdCs l)) (hc2 : Cells w b (hdCs r)) (hl : n ≤ 1000) (hl2 : m ≤ 1000) :
    Calls Try.prog 14 #[.slice a n cap, .slice b m cap2] w fun e w' => e = .returned (.bool (sameHd l r)) ∧ ∃ q, w' = w.drewN q := by
  have HN := Lib.hid hn
  have HM := Lib.hid hm
  have HC := Lib.hid hc
  have HC2 := Lib.hid hc2
  by_cases hnm : n = m
  · subst hnm
    have hne : (n != n) = false := by simp
    have hne2 : ((n : Int) != (n : Int)) = false := by simp
    clear hn hm hc hc2
    go_enter Try.func14, Try.ntmps14
    go_wp2_with fail
    go_loopw [5] (fun i wr => ∃ k : Nat, k ≤ n ∧ i = .int .i64 k ∧ l.take k = r.take k ∧ ∃ q, wr = w.drewN q) (fun i _ => n - (intOf i).toNat)
    case atStart => exact ⟨0, Nat.zero_le _, rfl, by simp, 0, rfl⟩
    case round =>
      obtain ⟨k, hk, rfl, heq, q, rfl⟩ := hrel
      have HE := Lib.hid heq
      clear heq
      by_cases hlt : k < n
      · have hlt' : (k : Int) < (n : Int) := by omega
        have hkl : k < l.length := by rw [HN.out]; exact hlt
        have hkr : k < r.length := by rw [HM.out]; exact hlt
        obtain ⟨k1, c1, l1, e1⟩ := hdGetD l k
        obtain ⟨k2, c2, l2, e2⟩ := hdGetD r k
        obtain ⟨b1, o1, rfl, d0, d1, d2⟩ := hd_cells HC.out hkl e1
        obtain ⟨b2, o2, rfl, d3, d4, d5⟩ := hd_cells HC2.out hkr e2
        have E1 := Lib.hid e1
        have E2 := Lib.hid e2
        clear e1 e2 hkl hkr
        by_cases hq : (⟨k1, c1, l1⟩ : Hd) = ⟨k2, c2, l2⟩
        · have heq : ∀ w', (Op.equalIn 10000 46 (.agg #[.int .i64 k1, .int .i64 c1, .int .i64 l1]) (.agg #[.int .i64 k2, .int .i64 c2, .int .i64 l2])).run Try.prog w' = .ok true w' := fun w' => equalRh w' _ _ _ _ _ _ _ (by rw [← hd_beq]; simp [hq])
          have hgd := gsRh
          have HQ := Lib.hid hq
          clear hq
          go_wp2_with fail
          go_quiet (fail)
          go_wp2_with fail
          refine ⟨⟨k + 1, by omega, vint (by omega), ?_, _, rfl⟩, by simp [intOf]; omega⟩
          exact take_eq_succ (by rw [HN.out]; exact hlt) (by rw [HM.out]; exact hlt) HE.out (by rw [E1.out, E2.out, HQ.out])
        · have heq : ∀ w', (Op.equalIn 10000 46 (.agg #[.int .i64 k1, .int .i64 c1, .int .i64 l1]) (.agg #[.int .i64 k2, .int .i64 c2, .int .i64 l2])).run Try.prog w' = .ok false w' := fun w' => equalRh w' _ _ _ _ _ _ _ (by rw [← hd_beq]; simp [hq])
          have hgd := gsRh
          have HQ := Lib.hid hq
          clear hq
          go_wp2_with fail
          go_quiet (fail)
          go_wp2_with fail
          go_ret
          refine ⟨ret_bool (decide_eq_false (fun h => HQ.out ?_)).symm, _, World.drewN_drewN _ _ _⟩
          rw [← E1.out, ← E2.out, h]
      · obtain rfl : k = n := by omega
        have hlt' : decide ((k : Int) < (k : Int)) = false := by simp
        go_wp2_with fail
        go_ret
        refine ⟨ret_bool (decide_eq_true ?_).symm, _, rfl⟩
        have := HE.out
        rwa [List.take_of_length_le (by rw [HN.out]; exact Nat.le_refl _), List.take_of_length_le (by rw [HM.out]; exact Nat.le_refl _)] at this
  · have hne : (n != m) = true := by simpa using hnm
    have hne2 : ((n : Int) != (m : Int)) = true := by simp; omega
    have HH := Lib.hid hnm
    clear hnm hn hm hc hc2
    go_enter Try.func14, Try.ntmps14
    go_wp2_with fail
    go_ret
    exact ⟨ret_bool (decide_eq_false (fun h => HH.out (by rw [← HN.out, ← HM.out, h]))).symm, 0, rfl⟩

end Go.Proofs.Ytjgdplengfnkaaa

/- Spans of free blocks: the plain law. -/
namespace Go.Proofs.Ytjgdplengfnkaaa
open Go.RowKit
set_option linter.unusedVariables false

/-- A span: its first block, how many. -/
abbrev Sp := Nat × Nat
def spCs (l : List Sp) : List Value := l.flatMap fun s => [.int .i64 s.1, .int .i64 s.2]
theorem spCs_length (l : List Sp) : (spCs l).length = 2 * l.length := by
  induction l with
  | nil => rfl
  | cons h l ih => simp only [spCs, List.flatMap_cons, List.length_append, List.length_cons] at *; rw [ih]; simp; omega
theorem spCs_append (l m : List Sp) : spCs (l ++ m) = spCs l ++ spCs m := by simp [spCs]
theorem spCs_last (l : List Sp) (s n : Nat) : (spCs (l ++ [(s, n)]))[l.length * 2]? = some (.int .i64 (s : Int)) ∧ (spCs (l ++ [(s, n)]))[l.length * 2 + 1]? = some (.int .i64 (n : Int)) := by
  have hl := spCs_length l
  rw [spCs_append]
  constructor
  · rw [List.getElem?_append_right (by omega), show l.length * 2 - (spCs l).length = 0 by omega]; rfl
  · rw [List.getElem?_append_right (by omega), show l.length * 2 + 1 - (spCs l).length = 1 by omega]; rfl
theorem spCs_bump (l : List Sp) (s n m : Nat) : (spCs (l ++ [(s, n)])).set (l.length * 2 + 1) (.int .i64 (m : Int)) = spCs (l ++ [(s, m)]) := by
  have hl := spCs_length l
  rw [spCs_append, spCs_append, List.set_append_right _ _ (by omega), show l.length * 2 + 1 - (spCs l).length = 1 by omega]
  rfl

def bump (l : List Sp) : List Sp := match l.getLast? with
  | none => l
  | some s => l.dropLast ++ [(s.1, s.2 + 1)]
theorem bump_last (l : List Sp) (s n : Nat) : bump (l ++ [(s, n)]) = l ++ [(s, n + 1)] := by simp [bump]
/-- Spans of free blocks below b. -/
def spanL (ks : Nat → Bool) : Nat → List Sp
  | 0 => []
  | b + 1 => if b = 0 ∨ ks b = false then spanL ks b else if 1 < b ∧ ks (b - 1) = true then bump (spanL ks b) else spanL ks b ++ [(b, 1)]
/-- The last span ends at b, or ahead of it. -/
theorem spanL_last (ks : Nat → Bool) (b : Nat) (hb : 1 ≤ b) : if 1 < b ∧ ks (b - 1) = true then ∃ l s n, spanL ks b = l ++ [(s, n)] ∧ s + n = b ∧ l.length < b else (spanL ks b = [] ∨ ∃ l s n, spanL ks b = l ++ [(s, n)] ∧ s + n < b ∧ l.length < b) := by
  induction b with
  | zero => omega
  | succ b ih =>
    by_cases h0 : b = 0
    · subst h0; rw [if_neg (by omega)]; left; rfl
    have ih := ih (by omega)
    rw [Nat.add_sub_cancel]
    by_cases hk : ks b = true
    · rw [if_pos ⟨by omega, hk⟩]
      by_cases hp : 1 < b ∧ ks (b - 1) = true
      · rw [if_pos hp] at ih
        obtain ⟨l, s, n, h1, h2, h3⟩ := ih
        refine ⟨l, s, n + 1, ?_, by omega, by omega⟩
        rw [spanL, if_neg (by simp [h0, hk]), if_pos hp, h1, bump_last]
      · rw [if_neg hp] at ih
        refine ⟨spanL ks b, b, 1, ?_, rfl, ?_⟩
        · rw [spanL, if_neg (by simp [h0, hk]), if_neg hp]
        · rcases ih with h | ⟨l, s, n, h1, h2, h3⟩
          · rw [h]; simp
          · rw [h1]; simp; omega
    · have hk' : ks b = false := by simpa using hk
      rw [if_neg (by simp [hk'])]
      have he : spanL ks (b + 1) = spanL ks b := by rw [spanL, if_pos (.inr hk')]
      rw [he]
      split at ih
      · obtain ⟨l, s, n, h1, h2, h3⟩ := ih
        exact .inr ⟨l, s, n, h1, by omega, by omega⟩
      · rcases ih with h | ⟨l, s, n, h1, h2, h3⟩
        · exact .inl h
        · exact .inr ⟨l, s, n, h1, by omega, by omega⟩
theorem spanL_len (ks : Nat → Bool) (b : Nat) : (spanL ks b).length ≤ b := by
  induction b with
  | zero => simp [spanL]
  | succ b ih =>
    unfold spanL
    split
    · omega
    · split
      · unfold bump
        split
        · omega
        · simp; omega
      · simp; omega

def freeAt (l : List Hd) (b : Nat) : Bool := (l.getD b default).k == 0
def spansOf (l : List Hd) : List Sp := spanL (freeAt l) l.length

end Go.Proofs.Ytjgdplengfnkaaa

/- Spans of free blocks: the walks. -/
namespace Go.Proofs.Ytjgdplengfnkaaa
open Go.RowKit
set_option linter.unusedVariables false

theorem elBs : Elem Try.prog 52 122 (.agg #[.int .i64 0, .int .i64 0]) 2 16 := Elem.mk' Try.underlying52 (by kernel_rfl) rfl (by decide)
theorem elRs : Elem Try.prog 54 110 (.agg #[.int .i64 0, .int .i64 0]) 2 16 := Elem.mk' Try.underlying54 (by kernel_rfl) rfl (by decide)

def SpansPost (t : Nat) (l : List Sp) (w : World) : Ending → World → Prop := fun e w' => ∃ v, e = .returned v ∧ w'.ownsRow w.heap.size t 2 v l.length (spCs l) ∧ Below w.heap.size w w'

/-- What a round meets. -/
theorem span_round (ks : Nat → Bool) (b : Nat) (hb : 1 ≤ b) :
    (ks b = false ∧ spanL ks (b + 1) = spanL ks b) ∨
    (ks b = true ∧ 1 < b ∧ ks (b - 1) = true ∧ ∃ l s n, spanL ks b = l ++ [(s, n)] ∧ s + n = b ∧ spanL ks (b + 1) = l ++ [(s, n + 1)]) ∨
    (ks b = true ∧ ¬ (1 < b ∧ ks (b - 1) = true) ∧ spanL ks b = [] ∧ spanL ks (b + 1) = [(b, 1)]) ∨
    (ks b = true ∧ ¬ (1 < b ∧ ks (b - 1) = true) ∧ ∃ l s n, spanL ks b = l ++ [(s, n)] ∧ s + n < b ∧ spanL ks (b + 1) = l ++ [(s, n)] ++ [(b, 1)]) := by
  have h := spanL_last ks b hb
  by_cases hk : ks b = true
  · by_cases hp : 1 < b ∧ ks (b - 1) = true
    · rw [if_pos hp] at h
      obtain ⟨l, s, n, h1, h2, h3⟩ := h
      exact .inr (.inl ⟨hk, hp.1, hp.2, l, s, n, h1, h2, by rw [spanL, if_neg (by simp [hk]; omega), if_pos hp, h1, bump_last]⟩)
    · rw [if_neg hp] at h
      have e : spanL ks (b + 1) = spanL ks b ++ [(b, 1)] := by rw [spanL, if_neg (by simp [hk]; omega), if_neg hp]
      rcases h with h | ⟨l, s, n, h1, h2, h3⟩
      · exact .inr (.inr (.inl ⟨hk, hp, h, by rw [e, h]; rfl⟩))
      · exact .inr (.inr (.inr ⟨hk, hp, l, s, n, h1, h2, by rw [e, h1]⟩))
  · have hk' : ks b = false := by simpa using hk
    exact .inl ⟨hk', by rw [spanL, if_pos (.inr hk')]⟩

theorem hd_kind {w : World} {a : Option Addr} {l : List Hd} (h : Cells w a (hdCs l)) {j : Nat} (hj : j < l.length) :
    ∃ b off, a = some ⟨b, off, none⟩ ∧ ∃ k, freeAt l j = (k == 0) ∧ w.cell? ⟨b, off + j * 3, none⟩ = some (.int .i64 k) := by
  obtain ⟨k, c, n, he⟩ := hdGetD l j
  obtain ⟨b, off, rfl, h0, _, _⟩ := hd_cells h hj he
  exact ⟨b, off, rfl, k, by unfold freeAt; rw [he], h0⟩

set_option maxHeartbeats 2000000 in
set_option maxRecDepth 20000 in
theorem bspans_any (a : Option Addr) (n cap : Nat) (l : List Hd) (hn : l.length = n) (w : World) (hc : Cells w a (hdCs l)) (hl : n ≤ 1000) :
    Calls Try.prog 20 #[.slice a n cap] w (SpansPost 122 (spansOf l) w) := by
  have HN := Lib.hid hn
  have HC := Lib.hid hc
  generalize hP : SpansPost 122 (spansOf l) w = Post
  have HP := Lib.hid hP
  clear hn hc hP
  go_enter Try.func20, Try.ntmps20
  go_wp2_with fail
  go_loopw [3, 4] (fun v i wr => ∃ b : Nat, 1 ≤ b ∧ (b ≤ n ∨ b = 1) ∧ i = .int .i64 b ∧ wr.ownsRow w.heap.size 122 2 v (spanL (freeAt l) b).length (spCs (spanL (freeAt l) b)) ∧ Below w.heap.size w wr) (fun _ i _ => n - (intOf i).toNat)
  case atStart => exact ⟨1, Nat.le_refl _, .inr rfl, rfl, ⟨rfl, .inl ⟨rfl, rfl⟩⟩, Below.refl _ _⟩
  case round =>
    obtain ⟨b, hb1, hbn, rfl, ho, hb⟩ := hrel
    by_cases hlt : b < n
    · have hlt' : (b : Int) < (n : Int) := by omega
      have HB := Lib.hid hb
      obtain ⟨bl, off, rfl, kd, hfk, d0⟩ := hd_kind (HC.out.below hb (Nat.le_refl _)) (j := b) (by rw [HN.out]; exact hlt)
      have hr := span_round (freeAt l) b hb1
      rw [hfk] at hr
      have HLb := Lib.hid (spanL_len (freeAt l) b)
      clear hfk hbn hb
      rcases hr with ⟨hk, hs⟩ | ⟨hk, h1b, hk2, pl, s, m, hs1, hs2, hs3⟩ | ⟨hk, hp, hs1, hs3⟩ | ⟨hk, hp, pl, s, m, hs1, hs2, hs3⟩
      · have hk1 : (kd != 0) = true := by simpa using hk
        obtain ⟨a1, c1, rfl, hc1, hm1⟩ := owned_form ho
        have HO : Hid (wr.ownsRow w.heap.size 122 2 (.slice a1 (spanL (freeAt l) b).length c1) (spanL (freeAt l) (b + 1)).length (spCs (spanL (freeAt l) (b + 1)))) := Lib.hid (by rw [hs]; exact ho)
        clear ho hs hk HLb
        go_wp2_with fail
        exact ⟨⟨b + 1, by omega, by omega, vint (by omega), HO.out, HB.out⟩, by simp [intOf]; omega⟩
      · have hk1 : (kd != 0) = false := by simpa using hk
        rw [hs1] at ho
        obtain ⟨L, hL⟩ : ∃ L, L = pl.length := ⟨_, rfl⟩
        rw [show (pl ++ [(s, m)]).length = L + 1 by simp [hL]] at ho
        obtain ⟨g, c1, rfl, hc1, hm1, hg1, hg2⟩ := owned_some ho (by omega)
        have hr := owned_row ho
        have hla := spCs_last pl s m
        rw [← hL] at hla
        have e0 : wr.cell? ⟨g, L * 2, none⟩ = some (.int .i64 (s : Int)) := hr.cell hla.1
        have e1 : wr.cell? ⟨g, L * 2 + 1, none⟩ = some (.int .i64 (m : Int)) := hr.cell hla.2
        have f1 : wr.frozen? ⟨g, L * 2 + 1, none⟩ = false := hr.frozen _
        have hsm : ((s : Int) + (m : Int) == (b : Int)) = true := by simp; omega
        have HL := Lib.hid hL
        have HS3 := Lib.hid hs3
        have HO1 := Lib.hid ho
        have hsb : (s : Int) ≤ 1000 := by omega
        have hmb : (m : Int) ≤ 1000 := by omega
        have hLb : L < 1000 := by have := HLb.out; rw [hs1] at this; simp [← hL] at this; omega
        clear ho hs1 hs2 hs3 hL hla hr hk hk2 HLb
        have hw1 : IntKind.i64.wrap (L : Int) = L := IntWalk.i64_in _ (by omega)
        have hw2 : IntKind.i64.wrap ((s : Int) + (m : Int)) = s + m := IntWalk.i64_in _ (by omega)
        go_wp2_with fail
        go_quiet (fail)
        clear hw1 hw2
        have HO2 : Hid ((wr.drewN nq).ownsRow w.heap.size 122 2 (.slice (some ⟨g, 0, none⟩) (L + 1) c1) (L + 1) (spCs (pl ++ [(s, m)]))) := Lib.hid HO1.out
        go_wp2_with fail
        refine ⟨⟨b + 1, by omega, by omega, vint (by omega), ?_, ?_⟩, by simp [intOf]; omega⟩
        · rw [HS3.out, ← show ((m + 1 : Nat) : Int) = (m : Int) + 1 from rfl, ← spCs_bump pl s m (m + 1), show (pl ++ [(s, m + 1)] : List Sp).length = L + 1 by simp [HL.out], ← HL.out]
          exact (HO2.out.stored (L * 2 + 1) _).1
        · exact below_grownBy (below_drewN HB.out _) HO2.out (HO2.out.stored (L * 2 + 1) _).2 (Nat.le_refl _) (Nat.le_refl _)
      · have hk1 : (kd != 0) = false := by simpa using hk
        rw [hs1] at ho
        obtain ⟨a1, c1, rfl, hc1, hm1⟩ := owned_form ho
        have HO := Lib.hid ho
        have HS3 := Lib.hid hs3
        have hone : Hid (∀ u ∈ (#[Value.int .i64 (b : Int), Value.int .i64 1] : Array Value).toList, u.oneCell' = true) := Lib.hid (by intro u hu; simp at hu; rcases hu with rfl | rfl <;> rfl)
        clear ho hs1 hs3 hk hp HLb
        go_wp2_with fail
        go_quiet (fail)
        have HO1 : Hid ((wr.drewN nq).ownsRow w.heap.size 122 2 (.slice a1 0 c1) 0 []) := Lib.hid HO.out
        have hbase : Hid (w.heap.size ≤ (wr.drewN nq).heap.size) := Lib.hid HB.out.size
        go_wp2_with (at_builtin; refine wpList_append_new (us := #[.int .i64 (b : Int), .int .i64 1]) elBs HO1.out rfl hone.out (by omega) (by decide) hbase.out rfl rfl rfl (by simp [Act.eval]) ?_; intro g6 c6 w6 ho6 hg6 hc6 hm6 hb6 hl6; have HO6 := Lib.hid ho6; have HG6 := Lib.hid hg6; clear ho6 hg6)
        refine ⟨⟨b + 1, by omega, by omega, vint (by omega), ?_, below_grownBy (below_drewN HB.out _) HO1.out HG6.out (Nat.le_refl _) (Nat.le_refl _)⟩, by simp [intOf]; omega⟩
        rw [HS3.out]
        exact HO6.out
      · have hk1 : (kd != 0) = false := by simpa using hk
        rw [hs1] at ho
        obtain ⟨L, hL⟩ : ∃ L, L = pl.length := ⟨_, rfl⟩
        rw [show (pl ++ [(s, m)]).length = L + 1 by simp [hL]] at ho
        obtain ⟨g, c1, rfl, hc1, hm1, hg1, hg2⟩ := owned_some ho (by omega)
        have hr := owned_row ho
        have hla := spCs_last pl s m
        rw [← hL] at hla
        have e0 : wr.cell? ⟨g, L * 2, none⟩ = some (.int .i64 (s : Int)) := hr.cell hla.1
        have e1 : wr.cell? ⟨g, L * 2 + 1, none⟩ = some (.int .i64 (m : Int)) := hr.cell hla.2
        have hsm : ((s : Int) + (m : Int) == (b : Int)) = false := by simp; omega
        have HL := Lib.hid hL
        have HS3 := Lib.hid hs3
        have HO := Lib.hid ho
        have hsb : (s : Int) ≤ 1000 := by omega
        have hmb : (m : Int) ≤ 1000 := by omega
        have hone : Hid (∀ u ∈ (#[Value.int .i64 (b : Int), Value.int .i64 1] : Array Value).toList, u.oneCell' = true) := Lib.hid (by intro u hu; simp at hu; rcases hu with rfl | rfl <;> rfl)
        have hLb : L < 1000 := by have := HLb.out; rw [hs1] at this; simp [← hL] at this; omega
        have hL9 : L + 1 < 1000000000000 := by omega
        clear ho hs1 hs2 hs3 hL hla hr hk hp HLb
        have hw1 : IntKind.i64.wrap (L : Int) = L := IntWalk.i64_in _ (by omega)
        have hw2 : IntKind.i64.wrap ((s : Int) + (m : Int)) = s + m := IntWalk.i64_in _ (by omega)
        go_wp2_with fail
        go_quiet (fail)
        clear hw1 hw2
        have HO1 : Hid ((wr.drewN nq).ownsRow w.heap.size 122 2 (.slice (some ⟨g, 0, none⟩) (L + 1) c1) (L + 1) (spCs (pl ++ [(s, m)]))) := Lib.hid HO.out
        have hbase : Hid (w.heap.size ≤ (wr.drewN nq).heap.size) := Lib.hid HB.out.size
        go_wp2_with (at_builtin; refine wpList_append_new (us := #[.int .i64 (b : Int), .int .i64 1]) elBs HO1.out rfl hone.out hL9 (by decide) hbase.out rfl rfl rfl (by simp [Act.eval]) ?_; intro g6 c6 w6 ho6 hg6 hc6 hm6 hb6 hl6; have HO6 := Lib.hid ho6; have HG6 := Lib.hid hg6; clear ho6 hg6)
        refine ⟨⟨b + 1, by omega, by omega, vint (by omega), ?_, below_grownBy (below_drewN HB.out _) HO1.out HG6.out (Nat.le_refl _) (Nat.le_refl _)⟩, by simp [intOf]; omega⟩
        rw [HS3.out, spCs_append, show (pl ++ [(s, m)] ++ [(b, 1)] : List Sp).length = L + 1 + 1 by simp [HL.out]]
        exact HO6.out
    · have hlt' : decide (b < n) = false := by simp; omega
      have hlt2 : n ≤ b := by omega
      obtain ⟨a1, c1, rfl, hc1, hm1⟩ := owned_form ho
      have HE : Hid (spansOf l = spanL (freeAt l) b) := Lib.hid (by
        unfold spansOf; rw [HN.out]
        rcases hbn with h | h
        · rw [show n = b by omega]
        · by_cases h0 : n = 0
          · rw [h0, h]; rfl
          · rw [show n = b by omega])
      have HO := Lib.hid ho
      have HB := Lib.hid hb
      clear ho hb
      go_wp2_with fail
      rw [← HP.out]
      refine ⟨_, rfl, ?_, HB.out⟩
      rw [HE.out]
      exact HO.out

theorem span_round2 (ks : Nat → Bool) (b : Nat) (hb : 1 ≤ b) :
    (ks b = false ∧ spanL ks (b + 1) = spanL ks b) ∨
    (ks b = true ∧ 1 < b ∧ ks (b - 1) = true ∧ ∃ l s n, spanL ks b = l ++ [(s, n)] ∧ s + n = b ∧ spanL ks (b + 1) = l ++ [(s, n + 1)]) ∨
    (ks b = true ∧ ¬ (1 < b ∧ ks (b - 1) = true) ∧ spanL ks (b + 1) = spanL ks b ++ [(b, 1)]) := by
  rcases span_round ks b hb with h | h | ⟨h1, h2, h3, h4⟩ | ⟨h1, h2, l, s, n, h3, _, h4⟩
  · exact .inl h
  · exact .inr (.inl h)
  · exact .inr (.inr ⟨h1, h2, by rw [h3, h4]; rfl⟩)
  · exact .inr (.inr ⟨h1, h2, by rw [h3, h4]⟩)

set_option maxHeartbeats 2000000 in
set_option maxRecDepth 20000 in
theorem rspans_any (a : Option Addr) (n cap : Nat) (l : List Hd) (hn : l.length = n) (w : World) (hc : Cells w a (hdCs l)) (hl : n ≤ 1000) :
    Calls Try.prog 21 #[.slice a n cap] w (SpansPost 110 (spansOf l) w) := by
  have HN := Lib.hid hn
  have HC := Lib.hid hc
  generalize hP : SpansPost 110 (spansOf l) w = Post
  have HP := Lib.hid hP
  clear hn hc hP
  go_enter Try.func21, Try.ntmps21
  go_wp2_with fail
  go_loopw [3, 4] (fun v i wr => ∃ b : Nat, 1 ≤ b ∧ (b ≤ n ∨ b = 1) ∧ i = .int .i64 b ∧ wr.ownsRow w.heap.size 110 2 v (spanL (freeAt l) b).length (spCs (spanL (freeAt l) b)) ∧ Below w.heap.size w wr) (fun _ i _ => n - (intOf i).toNat)
  case atStart => exact ⟨1, Nat.le_refl _, .inr rfl, rfl, ⟨rfl, .inl ⟨rfl, rfl⟩⟩, Below.refl _ _⟩
  case round =>
    obtain ⟨b, hb1, hbn, rfl, ho, hb⟩ := hrel
    by_cases hlt : b < n
    · have hlt' : (b : Int) < (n : Int) := by omega
      have HB := Lib.hid hb
      have HCr := Lib.hid (HC.out.below hb (Nat.le_refl _))
      obtain ⟨bl, off, rfl, kd, hfk, d0⟩ := hd_kind HCr.out (j := b) (by rw [HN.out]; exact hlt)
      have hr := span_round2 (freeAt l) b hb1
      have HLb := Lib.hid (spanL_len (freeAt l) b)
      rw [hfk] at hr
      clear hfk hbn hb
      rcases hr with ⟨hk, hs⟩ | ⟨hk, h1b, hk2, pl, s, m, hs1, hs2, hs3⟩ | ⟨hk, hp, hs3⟩
      · have hk1 : (kd != 0) = true := by simpa using hk
        obtain ⟨a1, c1, rfl, hc1, hm1⟩ := owned_form ho
        have HO : Hid (wr.ownsRow w.heap.size 110 2 (.slice a1 (spanL (freeAt l) b).length c1) (spanL (freeAt l) (b + 1)).length (spCs (spanL (freeAt l) (b + 1)))) := Lib.hid (by rw [hs]; exact ho)
        clear ho hs hk HLb
        go_wp2_with fail
        exact ⟨⟨b + 1, by omega, by omega, vint (by omega), HO.out, HB.out⟩, by simp [intOf]; omega⟩
      · obtain ⟨p, rfl⟩ : ∃ p, b = p + 1 := ⟨b - 1, by omega⟩
        obtain ⟨bl2, off2, hbo, kd2, hfk2, d2⟩ := hd_kind HCr.out (j := p) (by rw [HN.out]; omega)
        simp at hbo
        obtain ⟨rfl, rfl⟩ := hbo
        rw [Nat.add_sub_cancel, hfk2] at hk2
        have hk1 : (kd != 0) = false := by simpa using hk
        have hp1 : (1 : Int) < (p : Int) + 1 := by omega
        have hp0 : 0 < p := by omega
        have hpn : (p : Int) < (n : Int) := by omega
        rw [hs1] at ho
        obtain ⟨L, hL⟩ : ∃ L, L = pl.length := ⟨_, rfl⟩
        rw [show (pl ++ [(s, m)]).length = L + 1 by simp [hL]] at ho
        obtain ⟨g, c1, rfl, hc1, hm1, hg1, hg2⟩ := owned_some ho (by omega)
        have hr := owned_row ho
        have hla := spCs_last pl s m
        rw [← hL] at hla
        have e1 : wr.cell? ⟨g, L * 2 + 1, none⟩ = some (.int .i64 (m : Int)) := hr.cell hla.2
        have f1 : wr.frozen? ⟨g, L * 2 + 1, none⟩ = false := hr.frozen _
        have HL := Lib.hid hL
        have HS3 := Lib.hid hs3
        have HO2 := Lib.hid ho
        have hsb : (s : Int) ≤ 1000 := by omega
        have hmb : (m : Int) ≤ 1000 := by omega
        have hLb : L < 1000 := by have := HLb.out; rw [hs1] at this; simp [← hL] at this; omega
        have hpe : (p : Int) + 1 - 1 = p := by omega
        clear ho hs1 hs2 hs3 hL hla hr hk HLb hfk2
        go_wp2_with fail
        refine ⟨⟨p + 1 + 1, by omega, by omega, vint (by omega), ?_, ?_⟩, by simp [intOf]; omega⟩
        · rw [HS3.out, ← show ((m + 1 : Nat) : Int) = (m : Int) + 1 from rfl, ← spCs_bump pl s m (m + 1), show (pl ++ [(s, m + 1)] : List Sp).length = L + 1 by simp [HL.out], ← HL.out]
          exact (HO2.out.stored (L * 2 + 1) _).1
        · exact below_grownBy HB.out HO2.out (HO2.out.stored (L * 2 + 1) _).2 (Nat.le_refl _) (Nat.le_refl _)
      · have hk1 : (kd != 0) = false := by simpa using hk
        obtain ⟨L, hL⟩ : ∃ L, L = (spanL (freeAt l) b).length := ⟨_, rfl⟩
        rw [← hL] at ho
        obtain ⟨a1, c1, rfl, hc1, hm1⟩ := owned_form ho
        have HL := Lib.hid hL
        have HO := Lib.hid ho
        have HS3 := Lib.hid hs3
        have hone : Hid (∀ u ∈ (#[Value.int .i64 (b : Int), Value.int .i64 1] : Array Value).toList, u.oneCell' = true) := Lib.hid (by intro u hu; simp at hu; rcases hu with rfl | rfl <;> rfl)
        have hLb : L < 1000 := by have := HLb.out; omega
        have hL9 : L < 1000000000000 := by omega
        have hbase : Hid (w.heap.size ≤ wr.heap.size) := Lib.hid HB.out.size
        by_cases h1b : 1 < b
        · obtain ⟨p, rfl⟩ : ∃ p, b = p + 1 := ⟨b - 1, by omega⟩
          obtain ⟨bl2, off2, hbo, kd2, hfk2, d2⟩ := hd_kind HCr.out (j := p) (by rw [HN.out]; omega)
          simp at hbo
          obtain ⟨rfl, rfl⟩ := hbo
          rw [Nat.add_sub_cancel, hfk2] at hp
          have hp2 : (kd2 == 0) = false := by simpa [h1b] using hp
          have hp1 : (1 : Int) < (p : Int) + 1 := by omega
          have hp0 : 0 < p := by omega
          have hpn : (p : Int) < (n : Int) := by omega
          clear ho hs3 hL hk hp HLb hfk2 h1b
          go_wp2_with (at_builtin; refine wpList_append_new (us := #[.int .i64 ((p + 1 : Nat) : Int), .int .i64 1]) elRs HO.out rfl hone.out hL9 (by decide) hbase.out rfl rfl rfl (by simp [Act.eval]) ?_; intro g6 c6 w6 ho6 hg6 hc6 hm6 hb6 hl6; have HO6 := Lib.hid ho6; have HG6 := Lib.hid hg6; clear ho6 hg6)
          refine ⟨⟨p + 1 + 1, by omega, by omega, vint (by omega), ?_, below_grownBy HB.out HO.out HG6.out (Nat.le_refl _) (Nat.le_refl _)⟩, by simp [intOf]; omega⟩
          rw [HS3.out, spCs_append, show (spanL (freeAt l) (p + 1) ++ [(p + 1, 1)] : List Sp).length = L + 1 by simp [HL.out]]
          exact HO6.out
        · obtain rfl : b = 1 := by omega
          clear ho hs3 hL hk hp HLb h1b
          go_wp2_with (at_builtin; refine wpList_append_new (us := #[.int .i64 1, .int .i64 1]) elRs HO.out rfl hone.out hL9 (by decide) hbase.out rfl rfl rfl (by simp [Act.eval]) ?_; intro g6 c6 w6 ho6 hg6 hc6 hm6 hb6 hl6; have HO6 := Lib.hid ho6; have HG6 := Lib.hid hg6; clear ho6 hg6)
          refine ⟨⟨2, by omega, by omega, vint (by omega), ?_, below_grownBy HB.out HO.out HG6.out (Nat.le_refl _) (Nat.le_refl _)⟩, by simp [intOf]; omega⟩
          rw [HS3.out, spCs_append, show (spanL (freeAt l) 1 ++ [(1, 1)] : List Sp).length = L + 1 by simp [HL.out]]
          exact HO6.out
    · have hlt' : decide (b < n) = false := by simp; omega
      have hlt2 : n ≤ b := by omega
      obtain ⟨a1, c1, rfl, hc1, hm1⟩ := owned_form ho
      have HE : Hid (spansOf l = spanL (freeAt l) b) := Lib.hid (by
        unfold spansOf; rw [HN.out]
        rcases hbn with h | h
        · rw [show n = b by omega]
        · by_cases h0 : n = 0
          · rw [h0, h]; rfl
          · rw [show n = b by omega])
      have HO := Lib.hid ho
      have HB := Lib.hid hb
      clear ho hb
      go_wp2_with fail
      rw [← HP.out]
      refine ⟨_, rfl, ?_, HB.out⟩
      rw [HE.out]
      exact HO.out

end Go.Proofs.Ytjgdplengfnkaaa

/- law10.Spans at alike spans. -/
namespace Go.Proofs.Ytjgdplengfnkaaa
open Go.RowKit
set_option linter.unusedVariables false

theorem sp_cells {w : World} {a : Option Addr} {l : List Sp} (h : Cells w a (spCs l)) {j : Nat} (hj : j < l.length) {s n : Nat} (he : l.getD j (0, 0) = (s, n)) :
    ∃ b off, a = some ⟨b, off, none⟩ ∧ w.cell? ⟨b, off + j * 2, none⟩ = some (.int .i64 (s : Int)) ∧ w.cell? ⟨b, off + j * 2 + 1, none⟩ = some (.int .i64 (n : Int)) := by
  have e : l = (l.take j ++ [(s, n)]) ++ l.drop (j + 1) := by
    have : l[j] = (s, n) := by rw [← he]; simp [hj]
    rw [← this, ← List.take_succ_eq_append_getElem hj, List.take_append_drop]
  have hl := spCs_last (l.take j) s n
  have hjl : (l.take j).length = j := by simp; omega
  rw [hjl] at hl
  have hlen := spCs_length (l.take j ++ [(s, n)])
  simp [hjl] at hlen
  rcases h with h | ⟨b, off, rfl, h⟩
  · have := congrArg List.length h
    rw [spCs_length] at this
    simp only [List.length_nil] at this
    omega
  · refine ⟨b, off, rfl, h (j * 2) _ ?_, h (j * 2 + 1) _ ?_⟩
    · rw [e, spCs_append, List.getElem?_append_left (by simp [spCs_length]; omega)]; exact hl.1
    · rw [e, spCs_append, List.getElem?_append_left (by simp [spCs_length]; omega)]; exact hl.2

set_option maxHeartbeats 1000000 in
set_option maxRecDepth 20000 in
theorem lspans_same (a b : Option Addr) (n cap cap2 : Nat) (l : List Sp) (hn : l.length = n) (w : World) (hc : Cells w a (spCs l)) (hc2 : Cells w b (spCs l)) (hl : n ≤ 1000) :
    Calls Try.prog 19 #[.slice a n cap, .slice b n cap2] w fun e w' => e = .returned (.bool true) ∧ ∃ q, w' = w.drewN q := by
  have HN := Lib.hid hn
  have HC := Lib.hid hc
  have HC2 := Lib.hid hc2
  have hne : (n != n) = false := by simp
  have hne2 : ((n : Int) != (n : Int)) = false := by simp
  clear hn hc hc2
  go_enter Try.func19, Try.ntmps19
  go_wp2_with fail
  go_loopw [5] (fun i wr => ∃ k : Nat, k ≤ n ∧ i = .int .i64 k ∧ ∃ q, wr = w.drewN q) (fun i _ => n - (intOf i).toNat)
  case atStart => exact ⟨0, Nat.zero_le _, rfl, 0, rfl⟩
  case round =>
    obtain ⟨k, hk, rfl, q, rfl⟩ := hrel
    by_cases hlt : k < n
    · have hlt' : (k : Int) < (n : Int) := by omega
      have hkl : k < l.length := by rw [HN.out]; exact hlt
      obtain ⟨s, m, e1⟩ : ∃ s m, l.getD k (0, 0) = (s, m) := ⟨_, _, rfl⟩
      obtain ⟨b1, o1, rfl, d0, d1⟩ := sp_cells HC.out hkl e1
      obtain ⟨b2, o2, rfl, d3, d4⟩ := sp_cells HC2.out hkl e1
      have hs : (s != s) = false := by simp
      have hs2 : ((s : Int) != (s : Int)) = false := by simp
      have hm : (m != m) = false := by simp
      have hm2 : ((m : Int) != (m : Int)) = false := by simp
      clear e1 hkl
      go_wp2_with fail
      go_quiet (fail)
      go_wp2_with fail
      exact ⟨⟨k + 1, by omega, vint (by omega), _, rfl⟩, by simp [intOf]; omega⟩
    · obtain rfl : k = n := by omega
      have hlt' : decide ((k : Int) < (k : Int)) = false := by simp
      go_wp2_with fail
      go_ret
      exact ⟨rfl, _, rfl⟩

end Go.Proofs.Ytjgdplengfnkaaa

/- blocks.Format, on a device that never stops. -/
namespace Go.Proofs.Ytjgdplengfnkaaa
open Go.RowKit
set_option linter.unusedVariables false

/-- What was encoded is decoded. -/
theorem dec_enc (b k c l : Int) (h : hdRight k c l = true) : decN b (encN b k c l) = ⟨k, c, l, 0⟩ := by
  have hr : HdRight k c l := by simpa [hdRight] using h
  obtain ⟨n, hn⟩ : ∃ n, n = hdN k c l := ⟨_, rfl⟩
  have hn2 : (n : Int) = k + 4 * c + 256 * l := by rw [hn]; unfold hdN; unfold HdRight at hr; omega
  have hlt : n < 4294967296 := by unfold HdRight at hr; omega
  have he : encN b k c l = sealN n (pl (256 + b)) := by unfold encN; rw [if_pos h, hn]
  have hm : sealN n (pl (256 + b)) % 4294967296 = n := by
    unfold sealN
    rw [Nat.mul_comm, Nat.mul_add_mod, Nat.mod_eq_of_lt hlt]
  have ho : openN (encN b k c l) (pl (256 + b)) = some n := by
    unfold openN; rw [he, hm, if_pos rfl]
  have e1 : ((n % 4 : Nat) : Int) = k := by unfold HdRight at hr; omega
  have e2 : ((n / 4 % 64 : Nat) : Int) = c := by unfold HdRight at hr; omega
  have e3 : ((n / 256 % 65536 : Nat) : Int) = l := by unfold HdRight at hr; omega
  rw [decN_some ho]
  unfold decS
  rw [e1, e2, e3, if_pos rfl, if_pos h]

def Dev.live (S : Dev) : Prop := S.dead = false ∧ S.armed = false
theorem Dev.live.stop {S : Dev} (h : S.live) : S.stop = false := by unfold Dev.stop; rw [h.1, h.2]; rfl
theorem Dev.live.step {S : Dev} (h : S.live) : S.step.live := by unfold Dev.step; rw [h.stop]; exact h
theorem Dev.live.store {S : Dev} (h : S.live) (i : Int) (x : Nat) : (S.store i x).live := by
  unfold Dev.store
  split
  · exact h
  · rw [h.stop]; exact h.step
theorem Dev.live.store_ok {S : Dev} (h : S.live) (i : Nat) (x : Nat) (hi : i < S.cache.length) : S.storeE i = 0 ∧ (S.store i x).cache = S.cache.set i x := by
  constructor
  · unfold Dev.storeE; rw [if_neg (by omega), h.stop]; rfl
  · unfold Dev.store; rw [if_neg (by omega), h.stop]
    simp only [Bool.false_eq_true, if_false, Dev.put, (Dev.step_rest S).2.1, Int.toNat_natCast]
theorem Dev.store_okN {S : Dev} {N : Nat} (h : S.ok N) (i : Int) (x : Nat) : (S.store i x).ok (N + 1) := by
  unfold Dev.store
  split
  · exact h.mono (by omega)
  · split
    · exact Dev.step_ok h
    · exact (Dev.step_ok h : S.step.ok (N + 1))

/-- Blocks 1 .. k - 1 are free. -/
def Dev.fmtTo (S : Dev) : Nat → Dev
  | 0 => S
  | k + 1 => if k = 0 then S else (S.fmtTo k).store ((256 + k : Nat) : Int) (encN k 0 0 0)
theorem fmtTo_props {S : Dev} (h : S.live) {N : Nat} (ho : S.ok N) (k : Nat) (hk : 256 + k ≤ S.cache.length) : (S.fmtTo k).live ∧ (S.fmtTo k).ok (N + k) ∧ (S.fmtTo k).cache.length = S.cache.length ∧ (S.fmtTo k).dirty.length = S.dirty.length ∧ (∀ b, 1 ≤ b → b < k → (S.fmtTo k).cache.getD (256 + b) 0 = encN b 0 0 0) := by
  induction k with
  | zero => exact ⟨h, ho, rfl, rfl, fun b h1 h2 => by omega⟩
  | succ k ih =>
    obtain ⟨i1, i2, i3, i5, i4⟩ := ih (by omega)
    unfold Dev.fmtTo
    split
    · exact ⟨h, ho.mono (by omega), rfl, rfl, fun b h1 h2 => by omega⟩
    · have hs := i1.store_ok (256 + k) (encN k 0 0 0) (by omega)
      refine ⟨i1.store _ _, Dev.store_okN i2 _ _, by rw [hs.2, List.length_set, i3], ?_, fun b h1 h2 => ?_⟩
      · rw [← i5]
        unfold Dev.store
        split
        · rfl
        · split
          · rw [(Dev.step_rest _).2.2.2.1]
          · simp [Dev.put, (Dev.step_rest _).2.2.2.1]
      · rw [hs.2]
        by_cases e : b = k
        · subst e; rw [List.getD_eq_getElem?_getD, List.getElem?_set_self (by omega)]; rfl
        · rw [List.getD_eq_getElem?_getD, List.getElem?_set_ne (by omega), ← List.getD_eq_getElem?_getD]
          exact i4 b h1 (by omega)

/-- A live device does all that it is told within its words. -/
theorem Dev.live.flush {S : Dev} (h : S.live) (j : Int) : (S.flush j).live := by
  unfold Dev.flush
  split
  · exact h
  · rw [h.stop]
    simp only [Bool.false_eq_true, if_false]
    unfold Dev.hold
    split
    · exact h.step
    · exact h.step
theorem Dev.live.flushE {S : Dev} (h : S.live) (j : Nat) (hj : j < S.dirty.length) : S.flushE j = 0 := by unfold Dev.flushE; rw [if_neg (by omega), h.stop]; rfl
theorem Dev.live.flushRun {S : Dev} (h : S.live) (a : Nat) : ∀ m, a + m ≤ S.dirty.length → (S.flushRun a m).err = 0 ∧ (S.flushRun a m).dev.live ∧ (S.flushRun a m).dev.cache = S.cache ∧ (S.flushRun a m).dev.dirty = S.dirty := by
  intro m
  induction m with
  | zero => intro _; exact ⟨rfl, h, rfl, rfl⟩
  | succ m ih =>
    intro hm
    obtain ⟨i1, i2, i3, i4⟩ := ih (by omega)
    unfold Dev.flushRun
    rw [if_neg (by rw [i1]; simp)]
    refine ⟨i2.flushE _ (by rw [i4]; omega), i2.flush _, ?_, ?_⟩
    · exact (Dev.flush_len _ _).1.trans i3
    · exact (Dev.flush_len _ _).2.trans i4
theorem Dev.live.persist {S : Dev} (h : S.live) (p n : Nat) (hn : 0 < n) (hd : S.cache.length = 8 * S.dirty.length) (hp : p + n ≤ S.cache.length) : (S.persist p n).err = 0 ∧ (S.persist p n).dev.cache = S.cache := by
  unfold Dev.persist
  rw [if_neg (by omega), if_pos (by omega)]
  unfold Dev.persistN
  obtain ⟨i1, i2, i3, i4⟩ := h.flushRun ((p : Int) / 8).toNat (((p : Int) + (n : Int) - 1) / 8 - (p : Int) / 8 + 1).toNat (by omega)
  rw [if_neg (by rw [i1]; simp)]
  constructor
  · show Dev.fenceE _ = 0
    unfold Dev.fenceE; rw [i2.stop]; rfl
  · show (Dev.fence _).cache = _
    unfold Dev.fence; rw [i2.stop]
    simp only [Bool.false_eq_true, if_false]
    rw [(fenceTo_len _ _).2.1, (Dev.step_rest _).2.1, i3]

def Dev.fmt (S : Dev) (B : Nat) : Dev := ((S.fmtTo B).persist 257 ((B : Int) - 1)).dev

set_option maxHeartbeats 2000000 in
set_option maxRecDepth 100000 in
theorem format_any {w : World} {F : Foot} {S : Dev} (h : DevAt w F S) (hv : S.live) (ho : S.ok 100) (B : Nat) (hB2 : 2 ≤ B) (hB : B ≤ 1000) (hlen : 256 + B ≤ S.cache.length) :
    Calls Try.prog 27 #[vdev F, vgeom B] w fun e w' => e = .returned (.int .i64 0) ∧ DevAt w' F (S.fmt B) ∧ Touch F.list w w' := by
  have hbx := below_alloc w (.cells #[.int .i64 (B : Int)] 25)
  have hcx : (w.alloc (.cells #[.int .i64 (B : Int)] 25)).cell? ⟨w.heap.size, 0, none⟩ = some (.int .i64 (B : Int)) := cell_alloc_new _ _ _ 0 _ rfl
  have HD := Lib.hid (h.below hbx)
  have HT : Hid (Touch F.list w (w.alloc (.cells #[.int .i64 (B : Int)] 25))) := Lib.hid (Touch.ofBelow hbx)
  have HF : Hid (∀ k ∈ F.list, k < w.heap.size) := Lib.hid h.mem
  have HP := Lib.hid (fun k hk => fmtTo_props hv ho k (Nat.le_trans (show 256 + k ≤ 256 + B by exact Nat.add_le_add_left hk _) hlen))
  have HL := Lib.hid h.lenD
  clear h hbx hv ho
  go_enter Try.func27, Try.ntmps27
  go_wp2_with fail
  go_loopw [5] (fun i wr => ∃ b : Nat, 1 ≤ b ∧ b ≤ B ∧ i = .int .i64 b ∧ DevAt wr F (S.fmtTo b) ∧ Touch F.list w wr ∧ wr.cell? ⟨w.heap.size, 0, none⟩ = some (.int .i64 (B : Int))) (fun i _ => B - (intOf i).toNat)
  case atStart => exact ⟨1, Nat.le_refl _, by omega, rfl, HD.out, HT.out, hcx⟩
  case round =>
    obtain ⟨b, hb1, hb2, rfl, hd, ht, hc⟩ := hrel
    have HDr := Lib.hid hd
    have HTr := Lib.hid ht
    clear hd ht hcx
    by_cases hlt : b < B
    · have hlt' : (b : Int) < (B : Int) := by omega
      go_wp2_with fail
      refine (gheader_any _ _ _ (by omega)).mono ?_
      rintro e w1 ⟨rfl, hb1'⟩
      have HH : Hid (hdAt (B : Int) (b : Int) = 256 + (b : Int)) := Lib.hid (by unfold hdAt; rw [if_neg (by omega)])
      rw [HH.out]
      have hc1 := below_cells hb1' hc (Nat.le_refl _)
      have HD1 := Lib.hid (HDr.out.below hb1')
      have HT1 : Hid (Touch F.list w w1) := Lib.hid (HTr.out.trans (Touch.ofBelow hb1'))
      clear hb1' hc HDr HTr
      go_wp2_with fail
      refine (bencode_any (b : Int) 0 0 0 (by omega) (by omega) _).mono ?_
      rintro e w2 ⟨rfl, hb2'⟩
      have hc2 := below_cells hb2' hc1 (Nat.le_refl _)
      have HD2 := Lib.hid (HD1.out.below hb2')
      have HT2 : Hid (Touch F.list w w2) := Lib.hid (HT1.out.trans (Touch.ofBelow hb2'))
      clear hb2' hc1 HD1 HT1
      go_wp2_with fail
      refine (store_any HD2.out (N := 100 + b) (by omega) (HP.out b hb2).2.1 _ _ (encN_lt _ _ _ _)).mono ?_
      rintro e w3 ⟨rfl, hd3, ht3⟩
      have HE : Hid ((S.fmtTo b).storeE (256 + (b : Int)) = 0) := Lib.hid ((HP.out b hb2).1.store_ok (256 + b) 0 (by rw [(HP.out b hb2).2.2.1]; omega)).1
      rw [HE.out]
      have hc3 : w3.cell? ⟨w.heap.size, 0, none⟩ = some (.int .i64 (B : Int)) := cell_of_touch ht3 (fun hm => by have := HF.out _ hm; simp at this) hc2
      have HD3 : Hid (DevAt w3 F (S.fmtTo (b + 1))) := Lib.hid (by unfold Dev.fmtTo; rw [if_neg (by omega)]; exact hd3)
      have HT3 : Hid (Touch F.list w w3) := Lib.hid (HT2.out.trans ht3)
      clear hd3 ht3 hc2 HD2 HT2
      go_wp2_with fail
      exact ⟨⟨b + 1, by omega, by omega, vint (by omega), HD3.out, HT3.out, hc3⟩, by simp [intOf]; omega⟩
    · obtain rfl : b = B := by omega
      have hlt' : decide ((b : Int) < (b : Int)) = false := by simp
      have hw1 : IntKind.i64.wrap ((b : Int) - 1) = (b : Int) - 1 := IntWalk.i64_in _ (by omega)
      go_wp2_with fail
      have hcl : ∀ x : Later wr, x.val.cell? ⟨w.heap.size, 0, none⟩ = some (.int .i64 (b : Int)) := fun x => later_cell hc x
      refine wp_region_later_tail 6 ?hn ?hm ?hB ?_
      case hn => exact Nat.le_of_ble_eq_true rfl
      case hm => kernel_rfl
      case hB => kernel_rfl
      simp only [List.take_succ_cons, List.take_zero, List.drop_succ_cons, List.drop_zero]
      repeat (quiet_step ((rename_i x; exact calls_later (gheader_any _ _ _ (by omega)))))
      refine wpQuiet_nil ?_
      rintro w5 ⟨x, hx5⟩
      have hd5 := HDr.out.below x.below
      have ht5 : Touch F.list w x.val := HTr.out.trans (Touch.ofBelow x.below)
      rw [← hx5] at hd5 ht5
      have HD5 := Lib.hid hd5
      have HT5 := Lib.hid ht5
      have HH : Hid (hdAt (b : Int) 1 = 257) := Lib.hid (by unfold hdAt; rw [if_neg (by omega)]; rfl)
      rw [HH.out]
      clear hx5 x HDr HTr hd5 ht5 hw1
      have HQ : Hid (((S.fmtTo b).persist 257 ((b : Int) - 1)).err = 0) := Lib.hid (by
        have := ((HP.out b (Nat.le_refl _)).1.persist 257 (b - 1) (by omega) (by rw [(HP.out b (Nat.le_refl _)).2.2.1, (HP.out b (Nat.le_refl _)).2.2.2.1]; exact HL.out) (by rw [(HP.out b (Nat.le_refl _)).2.2.1]; omega)).1
        rw [show ((b - 1 : Nat) : Int) = (b : Int) - 1 by omega] at this
        exact this)
      go_wp2_with fail
      refine (persist_any HD5.out (N := 100 + b) (by omega) (HP.out b (Nat.le_refl _)).2.1 _ _ (by omega) (by omega)).mono ?_
      rintro e w6 ⟨rfl, hd6, ht6⟩
      rw [HQ.out]
      have HD6 := Lib.hid hd6
      have HT6 : Hid (Touch F.list w w6) := Lib.hid (HT5.out.trans ht6)
      clear hd6 ht6
      go_wp2_with fail
      go_ret
      exact ⟨rfl, HD6.out, HT6.out⟩

end Go.Proofs.Ytjgdplengfnkaaa
