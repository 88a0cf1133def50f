/- Parts of the proof, one behind the other: Zi, Zj, Sb, Js, Zh, Zk, Ga, Gb, We, Wf, Wg, Wm, Wh, Gg, Gh, Gi, Gj. -/
import Derived.Test.YtfedgcdkagngnaaGreatDS10
import Derived.Deep.Cut
import Derived.Shelf.Strings.Builder1
import Derived.Test.YtfedgcdkagngnaaGreatProg
import Derived.Deep.DeepCutAuto
import Derived.Deep.CutBlock

namespace Go.Proofs.YtfedgcdkagngnaaGreat
open Go.RowKit
set_option linter.unusedVariables false
open Go.Lib (decDigits itoa nDigits)

theorem chrN_toNat (d : Nat) (h : d < 16) : (chrN d).toNat = if d ≤ 9 then 48 + d else 87 + d := by
  unfold chrN
  split <;> simp <;> omega
def digRow64 (tail : List UInt8) : List Value := List.replicate (64 - tail.length) (.int .u8 0) ++ vbs tail
theorem digRow64_set (tail : List UInt8) (b : UInt8) (h : tail.length < 64) : (digRow64 tail).set (64 - tail.length - 1) (.int .u8 (b.toNat : Int)) = digRow64 (b :: tail) := by
  unfold digRow64
  obtain ⟨k, hk⟩ : ∃ k, 64 - tail.length = k + 1 := ⟨64 - tail.length - 1, by omega⟩
  rw [hk, show 64 - (b :: tail).length = k by simp; omega, show k + 1 - 1 = k by omega, List.replicate_succ', List.append_assoc, List.set_append_right _ _ (by simp)]
  simp [vbs]
theorem digRow64_len (tail : List UInt8) (h : tail.length ≤ 64) : (digRow64 tail).length = 64 := by simp [digRow64, vbs]; omega
theorem digRow64_drop (tail : List UInt8) : (digRow64 tail).drop (64 - tail.length) = vbs tail := by
  unfold digRow64
  rw [List.drop_append, List.drop_of_length_le (by simp)]; simp

theorem len64 : Tryz.prog.arrayLen 255 = 64 := by kernel_rfl
theorem arr64 : Tryz.prog.underlying 255 = some (.array (Tryz.prog.arrayLen 255) (Tryz.prog.elem 255)) := by kernel_rfl
theorem size64 (W : World) : (Go.sizeOf (Tryz.prog.elem 255)).run Tryz.prog W = .ok 1 W := by kernel_rfl
theorem slice64 (g a n : Nat) (W : World) (h2 : n + a = 64) (h3 : 1 ≤ n) : (Instr.sliceAt 255 (.pointer (some ⟨g, 0, none⟩)) (some (.int .i64 (a : Int))) none none).run Tryz.prog W = .ok (.slice (some ⟨g, a, none⟩) n n) W := by
  rw [run_sliceAt_array_l W _ _ arr64 .i64 _ (by omega) (by rw [len64]; omega), size64, len64]
  have e1 : (a : Int).toNat = a := by omega
  have e2 : 64 - a = n := by omega
  have e3 : ¬ 64 = a := by omega
  simp only [Result.andThen, slicedAt, e1, e2, if_neg e3]
  have : (⟨g, 0, none⟩ : Addr).add (a * 1) = ⟨g, a, none⟩ := by rw [add_none]; simp
  rw [this]

theorem ten20 (n : Nat) (h : n < 18446744073709551616) (b : Nat) (hb : 10 ≤ b) : n / b ^ 20 = 0 := by
  apply Nat.div_eq_of_lt
  refine Nat.lt_of_lt_of_le h ?_
  have h1 : (10 : Nat) ^ 20 ≤ b ^ 20 := Nat.pow_le_pow_left hb 20
  have h2 : (10 : Nat) ^ 20 = 100000000000000000000 := by decide
  omega

def DigPost (b n least : Nat) (w : World) : Ending → World → Prop := fun e w' => ∃ T, Written b n least T ∧ T ≤ 20 ∧ e = .returned (strV (digW b n T)) ∧ Below w.heap.size w w'

structure DigInv (b n least t v : Nat) : Prop where
  val : v = n / b ^ t
  le : t ≤ 20
  last : t ≤ least ∨ n / b ^ (t - 1) ≠ 0
theorem DigInv.done {b n least t : Nat} (h : DigInv b n least t 0) (hl : least ≤ t) : Written b n least t :=
  ⟨h.val.symm, hl, by rcases h.last with h1 | h1; · exact .inl (by omega)
                      · exact .inr h1⟩
theorem DigInv.step {b n least t v : Nat} (h : DigInv b n least t v) (hb : 10 ≤ b) (hn : n < 18446744073709551616) (hl : least ≤ 16) (hg : 0 < v ∨ t < least) : DigInv b n least (t + 1) (v / b) := by
  refine ⟨by rw [h.val, Nat.div_div_eq_div_mul, Nat.pow_succ], ?_, ?_⟩
  · apply Classical.byContradiction
    intro c
    have ht : t = 20 := by have := h.le; omega
    subst ht
    have := ten20 n hn b hb
    rw [← h.val] at this
    omega
  · rcases hg with hg | hg
    · right
      rw [show t + 1 - 1 = t from rfl, ← h.val]; omega
    · left; omega

set_option maxHeartbeats 2000000 in
set_option maxRecDepth 100000 in
theorem digits10_any (n least : Nat) (hn : n < 18446744073709551616) (hl1 : 1 ≤ least) (hl : least ≤ 16) (w : World) : Calls Tryz.prog 153 #[.int .u64 (n : Int), .int .u64 10, .int .i64 (least : Int)] w (DigPost 10 n least w) := by
  have HM := Lib.hid (Mem.one w (List.replicate 64 (.int .u8 0)).toArray 255)
  have HP : Hid (∀ (T : Nat) (w' : World), Written 10 n least T → T ≤ 20 → Below w.heap.size w w' → DigPost 10 n least w (.returned (strV (digW 10 n T))) w') := Lib.hid (fun T w' h1 h2 h3 => ⟨T, h1, h2, rfl, h3⟩)
  generalize DigPost 10 n least w = Post at *
  go_enter Tryz.func153, Tryz.ntmps153
  go_upto_region 2 with fail
  have e64 : (List.replicate 64 (.int .u8 0) : List Value).toArray = #[.int .u8 0, .int .u8 0, .int .u8 0, .int .u8 0, .int .u8 0, .int .u8 0, .int .u8 0, .int .u8 0, .int .u8 0, .int .u8 0, .int .u8 0, .int .u8 0, .int .u8 0, .int .u8 0, .int .u8 0, .int .u8 0, .int .u8 0, .int .u8 0, .int .u8 0, .int .u8 0, .int .u8 0, .int .u8 0, .int .u8 0, .int .u8 0, .int .u8 0, .int .u8 0, .int .u8 0, .int .u8 0, .int .u8 0, .int .u8 0, .int .u8 0, .int .u8 0, .int .u8 0, .int .u8 0, .int .u8 0, .int .u8 0, .int .u8 0, .int .u8 0, .int .u8 0, .int .u8 0, .int .u8 0, .int .u8 0, .int .u8 0, .int .u8 0, .int .u8 0, .int .u8 0, .int .u8 0, .int .u8 0, .int .u8 0, .int .u8 0, .int .u8 0, .int .u8 0, .int .u8 0, .int .u8 0, .int .u8 0, .int .u8 0, .int .u8 0, .int .u8 0, .int .u8 0, .int .u8 0, .int .u8 0, .int .u8 0, .int .u8 0, .int .u8 0] := rfl
  rw [e64] at HM
  clear e64
  generalize w.alloc _ = w0 at *
  obtain ⟨g, hg⟩ : ∃ g, g = w.heap.size := ⟨_, rfl⟩
  rw [← hg] at HM ⊢
  have HG : Hid (w.heap.size ≤ g) := Lib.hid (by omega)
  clear hg
  go_wp2_with fail
  go_loopw [0, 8] (fun nv av wr => ∃ (v t a : Nat), nv = .int .u64 (v : Int) ∧ av = .int .i64 (a : Int) ∧ v < 18446744073709551616 ∧ a + t = 64 ∧ t ≤ 20 ∧ Hid (DigInv 10 n least t v) ∧ Hid (RowAt wr g 255 (digRow64 (digW 10 n t))) ∧ Hid (Below w.heap.size w wr)) (fun _ av _ => (intOf av).toNat)
  case atStart => exact ⟨n, 0, 64, rfl, rfl, hn, by omega, by omega, Lib.hid ⟨by simp, by omega, .inl (by omega)⟩, Lib.hid (HM.out.at 0 rfl), Lib.hid HM.out.below⟩
  case round =>
    obtain ⟨v, t, a, rfl, rfl, hv, hat, ht20, HI, HR, HB⟩ := hrel
    by_cases hgo : 0 < v ∨ t < least
    · have HI2 := Lib.hid (HI.out.step (by omega) hn hl hgo)
      have hto : ((a : Int) - 1).toNat = a - 1 := by omega
      have ha1 : 1 ≤ a := by omega
      have HF : Hid (digW 10 n (t + 1) = chrN (v % 10) :: digW 10 n t) := Lib.hid (by rw [digW_front, ← HI.out.val])
      have hlen : (digW 10 n t).length = t := digW_len _ _ _
      have hset := digRow64_set (digW 10 n t) (chrN (v % 10)) (by omega)
      rw [hlen, show 64 - t - 1 = a - 1 by omega] at hset
      have hct := chrN_toNat (v % 10) (by omega)
      obtain ⟨x, hx⟩ : ∃ x, (digRow64 (digW 10 n t))[a - 1]? = some x := ⟨_, List.getElem?_eq_getElem (by rw [digRow64_len _ (by omega)]; omega)⟩
      have e0 := HR.out.cell hx
      have e1 := HR.out.frozen (a - 1)
      have hdB : (v : Int) % 10 < 10 := by omega
      have hd0 : 0 ≤ (v : Int) % 10 := by omega
      have ha64 : (a : Int) ≤ 64 := by omega
      have ha0 : 0 ≤ (a : Int) - 1 := by omega
      have HSet := Lib.hid hset
      have HLen : Hid ((digRow64 (digW 10 n t)).length = 64) := Lib.hid (digRow64_len _ (by omega))
      have HCt := Lib.hid hct
      clear hset hct hx hlen
      have hbyte : ((48 : Int) + (v : Int) % 10) = ((chrN (v % 10)).toNat : Int) := by rw [HCt.out, if_pos (by omega)]; omega
      have HR1 : Hid (RowAt (wr.setCell ⟨g, a - 1, none⟩ (.int .u8 (48 + (v : Int) % 10))) g 255 (digRow64 (digW 10 n (t + 1)))) := Lib.hid (by
        rw [hbyte, HF.out, ← HSet.out]; exact HR.out.set (a - 1) (by rw [HLen.out]; omega) _)
      have HB1 : Hid (Below w.heap.size w (wr.setCell ⟨g, a - 1, none⟩ (.int .u8 (48 + (v : Int) % 10)))) := Lib.hid (HB.out.setCell HG.out _)
      clear hbyte
      rcases hgo with hgo | hgo
      · have hgo' : (0 : Int) < (v : Int) := by omega
        go_wp2_with fail
        go_roundw
        case rel => exact ⟨v / 10, t + 1, a - 1, vint (by omega), vint (by omega), by omega, by omega, HI2.out.le, HI2, HR1, HB1⟩
        case measure => simp [intOf]; omega
      · have hgo' : (64 : Int) - (least : Int) < (a : Int) := by omega
        by_cases hv0 : v = 0
        · subst hv0
          go_wp2_with fail
          go_roundw
          case rel => exact ⟨0 / 10, t + 1, a - 1, vint (by omega), vint (by omega), by omega, by omega, HI2.out.le, HI2, HR1, HB1⟩
          case measure => simp [intOf]; omega
        · have hgo2 : (0 : Int) < (v : Int) := by omega
          go_wp2_with fail
          go_roundw
          case rel => exact ⟨v / 10, t + 1, a - 1, vint (by omega), vint (by omega), by omega, by omega, HI2.out.le, HI2, HR1, HB1⟩
          case measure => simp [intOf]; omega
    · have hv0 : v = 0 := by omega
      subst hv0
      have htl : decide ((64 : Int) - (least : Int) < (a : Int)) = false := by simp; omega
      have HW := Lib.hid (HI.out.done (by omega))
      have hc := HR.out.cells.drop a
      have hlen : (digW 10 n t).length = t := digW_len _ _ _
      have h2 := digRow64_drop (digW 10 n t)
      rw [hlen, show 64 - t = a by omega] at h2
      rw [h2] at hc
      have HC : Hid (Cells wr (some ⟨g, a, none⟩) (((digW 10 n t).map (·.toNat)).map vu8)) := Lib.hid (by rw [← vbs_nat]; simpa using hc)
      have HE : Hid (strOf ((digW 10 n t).map (·.toNat)) = bstr (digW 10 n t)) := Lib.hid (strOf_bytes _)
      have hnl : ((digW 10 n t).map (·.toNat)).length + a = 64 := by simp; omega
      have hn1 : 1 ≤ ((digW 10 n t).map (·.toNat)).length := by simp; omega
      generalize (digW 10 n t).map (·.toNat) = ns at *
      have hsl := fun W => slice64 g a ns.length W hnl hn1
      clear hnl hn1 h2 hc hlen hgo
      go_wp2_with (refine wpList_string_of (ns := ns) Tryz.underlying153 Tryz.underlying5 Tryz.underlying9 HC.out rfl rfl rfl ?_; rw [HE.out])
      exact HP.out _ _ HW.out ht20 HB.out

set_option maxHeartbeats 2000000 in
set_option maxRecDepth 100000 in
theorem digits16_any (n least : Nat) (hn : n < 18446744073709551616) (hl1 : 1 ≤ least) (hl : least ≤ 16) (w : World) : Calls Tryz.prog 153 #[.int .u64 (n : Int), .int .u64 16, .int .i64 (least : Int)] w (DigPost 16 n least w) := by
  have HM := Lib.hid (Mem.one w (List.replicate 64 (.int .u8 0)).toArray 255)
  have HP : Hid (∀ (T : Nat) (w' : World), Written 16 n least T → T ≤ 20 → Below w.heap.size w w' → DigPost 16 n least w (.returned (strV (digW 16 n T))) w') := Lib.hid (fun T w' h1 h2 h3 => ⟨T, h1, h2, rfl, h3⟩)
  generalize DigPost 16 n least w = Post at *
  go_enter Tryz.func153, Tryz.ntmps153
  go_upto_region 2 with fail
  have e64 : (List.replicate 64 (.int .u8 0) : List Value).toArray = #[.int .u8 0, .int .u8 0, .int .u8 0, .int .u8 0, .int .u8 0, .int .u8 0, .int .u8 0, .int .u8 0, .int .u8 0, .int .u8 0, .int .u8 0, .int .u8 0, .int .u8 0, .int .u8 0, .int .u8 0, .int .u8 0, .int .u8 0, .int .u8 0, .int .u8 0, .int .u8 0, .int .u8 0, .int .u8 0, .int .u8 0, .int .u8 0, .int .u8 0, .int .u8 0, .int .u8 0, .int .u8 0, .int .u8 0, .int .u8 0, .int .u8 0, .int .u8 0, .int .u8 0, .int .u8 0, .int .u8 0, .int .u8 0, .int .u8 0, .int .u8 0, .int .u8 0, .int .u8 0, .int .u8 0, .int .u8 0, .int .u8 0, .int .u8 0, .int .u8 0, .int .u8 0, .int .u8 0, .int .u8 0, .int .u8 0, .int .u8 0, .int .u8 0, .int .u8 0, .int .u8 0, .int .u8 0, .int .u8 0, .int .u8 0, .int .u8 0, .int .u8 0, .int .u8 0, .int .u8 0, .int .u8 0, .int .u8 0, .int .u8 0, .int .u8 0] := rfl
  rw [e64] at HM
  clear e64
  generalize w.alloc _ = w0 at *
  obtain ⟨g, hg⟩ : ∃ g, g = w.heap.size := ⟨_, rfl⟩
  rw [← hg] at HM ⊢
  have HG : Hid (w.heap.size ≤ g) := Lib.hid (by omega)
  clear hg
  go_wp2_with fail
  go_loopw [0, 8] (fun nv av wr => ∃ (v t a : Nat), nv = .int .u64 (v : Int) ∧ av = .int .i64 (a : Int) ∧ v < 18446744073709551616 ∧ a + t = 64 ∧ t ≤ 20 ∧ Hid (DigInv 16 n least t v) ∧ Hid (RowAt wr g 255 (digRow64 (digW 16 n t))) ∧ Hid (Below w.heap.size w wr)) (fun _ av _ => (intOf av).toNat)
  case atStart => exact ⟨n, 0, 64, rfl, rfl, hn, by omega, by omega, Lib.hid ⟨by simp, by omega, .inl (by omega)⟩, Lib.hid (HM.out.at 0 rfl), Lib.hid HM.out.below⟩
  case round =>
    obtain ⟨v, t, a, rfl, rfl, hv, hat, ht20, HI, HR, HB⟩ := hrel
    by_cases hgo : 0 < v ∨ t < least
    · have HI2 := Lib.hid (HI.out.step (by omega) hn hl hgo)
      have hto : ((a : Int) - 1).toNat = a - 1 := by omega
      have ha1 : 1 ≤ a := by omega
      have HF : Hid (digW 16 n (t + 1) = chrN (v % 16) :: digW 16 n t) := Lib.hid (by rw [digW_front, ← HI.out.val])
      have hlen : (digW 16 n t).length = t := digW_len _ _ _
      have hset := digRow64_set (digW 16 n t) (chrN (v % 16)) (by omega)
      rw [hlen, show 64 - t - 1 = a - 1 by omega] at hset
      have hct := chrN_toNat (v % 16) (by omega)
      obtain ⟨x, hx⟩ : ∃ x, (digRow64 (digW 16 n t))[a - 1]? = some x := ⟨_, List.getElem?_eq_getElem (by rw [digRow64_len _ (by omega)]; omega)⟩
      have e0 := HR.out.cell hx
      have e1 := HR.out.frozen (a - 1)
      have hdB : (v : Int) % 16 < 16 := by omega
      have hd0 : 0 ≤ (v : Int) % 16 := by omega
      have ha64 : (a : Int) ≤ 64 := by omega
      have ha0 : 0 ≤ (a : Int) - 1 := by omega
      have HSet := Lib.hid hset
      have HLen : Hid ((digRow64 (digW 16 n t)).length = 64) := Lib.hid (digRow64_len _ (by omega))
      have HCt := Lib.hid hct
      clear hset hct hx hlen
      by_cases hd9 : v % 16 ≤ 9
      · have hd9' : (v : Int) % 16 ≤ 9 := by omega
        have hbyte : ((48 : Int) + (v : Int) % 16) = ((chrN (v % 16)).toNat : Int) := by rw [HCt.out, if_pos (by omega)]; omega
        have HR1 : Hid (RowAt (wr.setCell ⟨g, a - 1, none⟩ (.int .u8 (48 + (v : Int) % 16))) g 255 (digRow64 (digW 16 n (t + 1)))) := Lib.hid (by
          rw [hbyte, HF.out, ← HSet.out]; exact HR.out.set (a - 1) (by rw [HLen.out]; omega) _)
        have HB1 : Hid (Below w.heap.size w (wr.setCell ⟨g, a - 1, none⟩ (.int .u8 (48 + (v : Int) % 16)))) := Lib.hid (HB.out.setCell HG.out _)
        clear hbyte
        rcases hgo with hgo | hgo
        · have hgo' : (0 : Int) < (v : Int) := by omega
          go_wp2_with fail
          go_roundw
          case rel => exact ⟨v / 16, t + 1, a - 1, vint (by omega), vint (by omega), by omega, by omega, HI2.out.le, HI2, HR1, HB1⟩
          case measure => simp [intOf]; omega
        · have hgo' : (64 : Int) - (least : Int) < (a : Int) := by omega
          by_cases hv0 : v = 0
          · subst hv0
            go_wp2_with fail
            go_roundw
            case rel => exact ⟨0 / 16, t + 1, a - 1, vint (by omega), vint (by omega), by omega, by omega, HI2.out.le, HI2, HR1, HB1⟩
            case measure => simp [intOf]; omega
          · have hgo2 : (0 : Int) < (v : Int) := by omega
            go_wp2_with fail
            go_roundw
            case rel => exact ⟨v / 16, t + 1, a - 1, vint (by omega), vint (by omega), by omega, by omega, HI2.out.le, HI2, HR1, HB1⟩
            case measure => simp [intOf]; omega
      · have hd9' : (9 : Int) < (v : Int) % 16 := by omega
        have hbyte : ((97 : Int) + (v : Int) % 16 - 10) = ((chrN (v % 16)).toNat : Int) := by rw [HCt.out, if_neg hd9]; omega
        have HR1 : Hid (RowAt ((wr.setCell ⟨g, a - 1, none⟩ (.int .u8 (48 + (v : Int) % 16))).setCell ⟨g, a - 1, none⟩ (.int .u8 (97 + (v : Int) % 16 - 10))) g 255 (digRow64 (digW 16 n (t + 1)))) := Lib.hid (by
          have h1 := HR.out.set (a - 1) (by rw [HLen.out]; omega) (.int .u8 (48 + (v : Int) % 16))
          have h2 := h1.set (a - 1) (by rw [List.length_set, HLen.out]; omega) (.int .u8 (97 + (v : Int) % 16 - 10))
          rw [List.set_set, hbyte, HSet.out, ← HF.out] at h2
          rw [hbyte]; exact h2)
        have HB1 : Hid (Below w.heap.size w ((wr.setCell ⟨g, a - 1, none⟩ (.int .u8 (48 + (v : Int) % 16))).setCell ⟨g, a - 1, none⟩ (.int .u8 (97 + (v : Int) % 16 - 10)))) := Lib.hid ((HB.out.setCell HG.out _).setCell HG.out _)
        clear hbyte
        rcases hgo with hgo | hgo
        · have hgo' : (0 : Int) < (v : Int) := by omega
          go_wp2_with fail
          go_roundw
          case rel => exact ⟨v / 16, t + 1, a - 1, vint (by omega), vint (by omega), by omega, by omega, HI2.out.le, HI2, HR1, HB1⟩
          case measure => simp [intOf]; omega
        · have hgo' : (64 : Int) - (least : Int) < (a : Int) := by omega
          by_cases hv0 : v = 0
          · omega
          · have hgo2 : (0 : Int) < (v : Int) := by omega
            go_wp2_with fail
            go_roundw
            case rel => exact ⟨v / 16, t + 1, a - 1, vint (by omega), vint (by omega), by omega, by omega, HI2.out.le, HI2, HR1, HB1⟩
            case measure => simp [intOf]; omega
    · have hv0 : v = 0 := by omega
      subst hv0
      have htl : decide ((64 : Int) - (least : Int) < (a : Int)) = false := by simp; omega
      have HW := Lib.hid (HI.out.done (by omega))
      have hc := HR.out.cells.drop a
      have hlen : (digW 16 n t).length = t := digW_len _ _ _
      have h2 := digRow64_drop (digW 16 n t)
      rw [hlen, show 64 - t = a by omega] at h2
      rw [h2] at hc
      have HC : Hid (Cells wr (some ⟨g, a, none⟩) (((digW 16 n t).map (·.toNat)).map vu8)) := Lib.hid (by rw [← vbs_nat]; simpa using hc)
      have HE : Hid (strOf ((digW 16 n t).map (·.toNat)) = bstr (digW 16 n t)) := Lib.hid (strOf_bytes _)
      have hnl : ((digW 16 n t).map (·.toNat)).length + a = 64 := by simp; omega
      have hn1 : 1 ≤ ((digW 16 n t).map (·.toNat)).length := by simp; omega
      generalize (digW 16 n t).map (·.toNat) = ns at *
      have hsl := fun W => slice64 g a ns.length W hnl hn1
      clear hnl hn1 h2 hc hlen hgo
      go_wp2_with (refine wpList_string_of (ns := ns) Tryz.underlying153 Tryz.underlying5 Tryz.underlying9 HC.out rfl rfl rfl ?_; rw [HE.out])
      exact HP.out _ _ HW.out ht20 HB.out

end Go.Proofs.YtfedgcdkagngnaaGreat

namespace Go.Proofs.YtfedgcdkagngnaaGreat
open Go.RowKit
set_option linter.unusedVariables false
open Go.Lib (decDigits itoa nDigits)

section
variable {P : Program} {w : World} {ops : Array Oper} {rest : List Oper} {o : Oper} {a : Act} {Q : Exit → Act → World → Prop}
theorem wpList_index_str {ty : TypeId} {x ix : Operand} {s : ByteArray} {k : IntKind} {I : Int} (i : Nat) {b : UInt8} (hu : P.underlying ty = some .string) (hI : I = (i : Int)) (hb : s[i]? = some b)
    (hgd : o.guard = none) (ho : o.op = .index ty x ix) (hx : a.eval x = .string s) (hix : a.eval ix = .int k I)
    (hK : wpList P ops Q rest (a.put o.dst (.int .u8 (b.toNat : Int))) w) : wpList P ops Q (o :: rest) a w := by
  refine wpList_plain hgd fun K hK' => ?_
  subst hI
  have hr : (Instr.index ty (.string s) (.int k i)).run P w = .ok (.int .u8 (b.toNat : Int)) w := by
    simp [Instr.index, asIntOf, run_underlying hu, hb]
  unfold Oper.wp
  simp [execOp, ho, hx, hix, hr, Result.andThen]
  exact hK' _ _ hK
end

theorem digits10d_any (u : Nat) (hu : u < 18446744073709551616) (w : World) : Calls Tryz.prog 153 #[.int .u64 (u : Int), .int .u64 10, .int .i64 1] w (Gives (strV (decDigits u)) w) := by
  refine (digits10_any u 1 hu (by omega) (by omega) w).mono ?_
  rintro e w' ⟨T, h1, _, rfl, hb⟩
  rw [dec_digW h1]
  exact ⟨rfl, hb⟩
theorem digits16d_any (u : Nat) (hu : u < 18446744073709551616) (w : World) : Calls Tryz.prog 153 #[.int .u64 (u : Int), .int .u64 16, .int .i64 16] w (Gives (strV (digW 16 u 16)) w) := by
  refine (digits16_any u 16 hu (by omega) (by omega) w).mono ?_
  rintro e w' ⟨T, h1, _, rfl, hb⟩
  rw [hex_digW hu h1]
  exact ⟨rfl, hb⟩

set_option maxHeartbeats 1000000 in
theorem dhex_any (u : Nat) (hu : u < 18446744073709551616) (w : World) : Calls Tryz.prog 85 #[vu64 u] w (Gives (strV (digW 16 u 16)) w) := by
  have HP : Hid (∀ w', Below w.heap.size w w' → Gives (strV (digW 16 u 16)) w (.returned (strV (digW 16 u 16))) w') := Lib.hid (fun w' h => ⟨rfl, h⟩)
  generalize Gives (strV (digW 16 u 16)) w = Post at *
  go_enter Tryz.func85, Tryz.ntmps85
  go_wp2_with fail
  refine (digits16d_any u hu _).mono ?_
  rintro e w1 ⟨rfl, hb1⟩
  have HB1 := Lib.hid hb1
  generalize digW 16 u 16 = l at *
  clear hb1
  go_wp2_with fail
  exact HP.out _ HB1.out

set_option maxHeartbeats 2000000 in
theorem dnumber_any (n : Int) (hn : In64 n) (w : World) : Calls Tryz.prog 82 #[.int .i64 n] w (Gives (strV (itoa n)) w) := by
  obtain ⟨h1, h2⟩ := hn
  have HP : Hid (∀ (l : List UInt8) (w' : World), itoa n = l → Below w.heap.size w w' → Gives (strV (itoa n)) w (.returned (strV l)) w') := Lib.hid (fun l w' h hb => by subst h; exact ⟨rfl, hb⟩)
  generalize Gives (strV (itoa n)) w = Post at *
  by_cases h0 : n < 0
  · obtain ⟨u, hu⟩ : ∃ u : Nat, n = -(u : Int) := ⟨n.natAbs, by omega⟩
    subst hu
    have hu1 : 1 ≤ u := by omega
    have HI : Hid (itoa (-(u : Int)) = 45 :: decDigits u) := Lib.hid (itoa_neg hu1)
    by_cases hm : u = 9223372036854775808
    · subst hm
      go_enter Tryz.func82, Tryz.ntmps82
      go_wp2_with fail
      rw [show IntKind.u64.wrap (wrap64 9223372036854775808) = ((9223372036854775808 : Nat) : Int) from by decide +kernel]
      refine (digits10d_any 9223372036854775808 (by omega) _).mono ?_
      rintro e w1 ⟨rfl, hb1⟩
      have HB1 := Lib.hid hb1
      have HL := Lib.hid (dec_len20 (u := 9223372036854775808) (by omega))
      generalize decDigits 9223372036854775808 = l at *
      have hl : (bstr l).size ≤ 20 := by rw [bstr_size]; exact HL.out
      clear hb1
      go_wp2_with fail
      show Post (.returned (.string (bstr [45] ++ bstr l))) w1
      rw [bstr_append]
      exact HP.out _ _ HI.out HB1.out
    · have hu2 : u < 9223372036854775808 := by omega
      go_enter Tryz.func82, Tryz.ntmps82
      go_wp2_with fail
      refine (digits10d_any u (by omega) _).mono ?_
      rintro e w1 ⟨rfl, hb1⟩
      have HB1 := Lib.hid hb1
      have HL := Lib.hid (dec_len20 (u := u) (by omega))
      generalize decDigits u = l at *
      have hl : (bstr l).size ≤ 20 := by rw [bstr_size]; exact HL.out
      clear hb1
      go_wp2_with fail
      show Post (.returned (.string (bstr [45] ++ bstr l))) w1
      rw [bstr_append]
      exact HP.out _ _ HI.out HB1.out
  · obtain ⟨u, rfl⟩ := Int.eq_ofNat_of_zero_le (show 0 ≤ n by omega)
    have HI : Hid (itoa (u : Int) = decDigits u) := Lib.hid (itoa_pos u)
    go_enter Tryz.func82, Tryz.ntmps82
    go_wp2_with fail
    refine (digits10d_any u (by omega) _).mono ?_
    rintro e w1 ⟨rfl, hb1⟩
    have HB1 := Lib.hid hb1
    generalize decDigits u = l at *
    clear hb1
    go_wp2_with fail
    exact HP.out _ _ HI.out HB1.out

set_option maxHeartbeats 1000000 in
theorem rnumber_any (n : Int) (hn : In64 n) (w : World) : Calls Tryz.prog 91 #[.int .i64 n] w (Gives (strV (itoa n)) w) := by
  have HP : Hid (∀ w', Below w.heap.size w w' → Gives (strV (itoa n)) w (.returned (strV (itoa n))) w') := Lib.hid (fun w' h => ⟨rfl, h⟩)
  have HT := Lib.hid (fun w => rtext_any n hn w)
  generalize Gives (strV (itoa n)) w = Post at *
  obtain ⟨h1, h2⟩ := hn
  go_enter Tryz.func91, Tryz.ntmps91
  go_wp2_with fail
  refine (HT.out _).mono ?_
  rintro e w1 ⟨rfl, hb1⟩
  have HB1 := Lib.hid hb1
  generalize itoa n = l at *
  clear hb1
  go_wp2_with fail
  exact HP.out _ HB1.out

def hexS : ByteArray := ⟨#[48, 49, 50, 51, 52, 53, 54, 55, 56, 57, 97, 98, 99, 100, 101, 102]⟩
theorem hexS_at : ∀ d : Fin 16, hexS[d.val]? = some (chrN d.val) := by decide +kernel

set_option maxHeartbeats 2000000 in
theorem rhex_any (n : Nat) (hn : n < 18446744073709551616) (w : World) : Calls Tryz.prog 159 #[vu64 n] w (Gives (strV (digW 16 n 16)) w) := by
  have HP : Hid (∀ w', Below w.heap.size w w' → Gives (strV (digW 16 n 16)) w (.returned (strV (digW 16 n 16))) w') := Lib.hid (fun w' h => ⟨rfl, h⟩)
  generalize Gives (strV (digW 16 n 16)) w = Post at *
  go_enter Tryz.func159, Tryz.ntmps159
  go_wp2_with fail
  go_loopw [0, 3, 4] (fun nv sv iv wr => ∃ v t : Nat, nv = .int .u64 (v : Int) ∧ sv = .string (bstr (digW 16 n t)) ∧ iv = .int .i64 (t : Int) ∧ t ≤ 16 ∧ v < 18446744073709551616 ∧ Hid (v = n / 16 ^ t) ∧ Hid (Below w.heap.size w wr)) (fun _ _ iv _ => 16 - (intOf iv).toNat)
  case atStart => exact ⟨n, 0, rfl, rfl, rfl, by omega, hn, Lib.hid (by simp), Lib.hid (Below.refl _ _)⟩
  case round =>
    obtain ⟨v, t, rfl, rfl, rfl, ht, hv, HV, HB⟩ := hrel
    by_cases hlt : t < 16
    · have HF : Hid (digW 16 n (t + 1) = chrN (v % 16) :: digW 16 n t) := Lib.hid (by rw [digW_front, ← HV.out])
      have HL : Hid ((digW 16 n t).length = t) := Lib.hid (digW_len _ _ _)
      have hsz : (bstr (digW 16 n t)).size ≤ 16 := by rw [bstr_size, HL.out]; exact ht
      have HX := Lib.hid (hexS_at ⟨v % 16, by omega⟩)
      have HV2 : Hid (v / 16 = n / 16 ^ (t + 1)) := Lib.hid (by rw [HV.out, Nat.div_div_eq_div_mul, Nat.pow_succ])
      have HM : Hid ((v : Int) % 16 = ((v % 16 : Nat) : Int)) := Lib.hid (by omega)
      dsimp only at HX
      generalize digW 16 n t = l at *
      generalize chrN (v % 16) = b at *
      have HS : Hid (strOf [b.toNat] ++ bstr l = bstr (b :: l)) := Lib.hid (by rw [one_byte, bstr_append]; rfl)
      have hs1 : (strOf [b.toNat]).size = 1 := rfl
      have HCb : Hid (Cells (wr.alloc (.cells #[.int .u8 (b.toNat : Int)] 5)) (some ⟨wr.heap.size, 0, none⟩) ([b.toNat].map vu8)) := Lib.hid (((Mem.one wr #[.int .u8 (b.toNat : Int)] 5).at 0 rfl).cells)
      have HB1 := Lib.hid (HB.out.trans ((below_alloc wr (.cells #[.int .u8 (b.toNat : Int)] 5)).mono HB.out.size))
      have hlt' : (t : Int) < 16 := by omega
      go_wp2_with (first
        | (refine wpList_index_str (v % 16) Tryz.underlying9 HM.out HX.out rfl rfl rfl rfl ?_)
        | (refine wpList_string_of (ns := [b.toNat]) Tryz.underlying153 Tryz.underlying5 Tryz.underlying9 HCb.out rfl rfl rfl ?_))
      go_roundw
      case rel => exact ⟨v / 16, t + 1, vint (by omega), by rw [HF.out, ← HS.out], vint (by omega), by omega, by omega, HV2, HB1⟩
      case measure => simp [intOf]; omega
    · obtain rfl : t = 16 := by omega
      generalize digW 16 n 16 = l at *
      go_wp2_with fail
      exact HP.out _ HB.out

end Go.Proofs.YtfedgcdkagngnaaGreat

/-
  DERIVED: THE SHELF's CONTRACTS AT THIS DUMP, IN PLAIN WORDS (tools/lay-plain.mjs out of 'TmpShelf.lean', which tools/lay-shelf.mjs wrote): THE SAME DECLARATIONS UNDER THE SAME NAMES: 'import', 'namespace', 'open', 'def', 'theorem' AND NOTHING ELSE: no command of the shelf's: FOR A HAND-IN. Each laying: the table of numbers ('.._ren') and one theorem, a field a fact of the dump's own or the kernel's comparison; each contract: ONE APPLICATION.
-/
namespace Go.Proofs
open Go.Shelf
def Tryz.lays169_ren : Go.Shelf.Ren := ⟨fun | 169 => 96 | n => n, fun | 70 => 152 | 9 => 9 | 0 => 0 | 72 => 155 | 37 => 153 | 127 => 219 | 3 => 3 | 5 => 5 | n => n, fun | n => n⟩
theorem Tryz.lays169 : Go.Proofs.Lays.n169 Tryz.prog Tryz.lays169_ren := {
  mixed := by kernel_rfl
  f169 := Tryz.func96.trans (congrArg some (by kernel_rfl))
  t0 := Tryz.underlying0
  a0 := Tryz.isAgg0
  z0 := Tryz.sizeOf0
  v0 := Tryz.zeroValue0
  t3 := Tryz.underlying3
  a3 := Tryz.isAgg3
  z3 := Tryz.sizeOf3
  v3 := Tryz.zeroValue3
  t9 := Tryz.underlying9
  a9 := Tryz.isAgg9
  z9 := Tryz.sizeOf9
  v9 := Tryz.zeroValue9
  t37 := Tryz.underlying153
  a37 := Tryz.isAgg153
  z37 := Tryz.sizeOf153
  v37 := Tryz.zeroValue153
  t70 := Tryz.underlying152
  a70 := Tryz.isAgg152
  z70 := Tryz.sizeOf152
  v70 := Tryz.zeroValue152
  t72 := Tryz.underlying155
  a72 := Tryz.isAgg155
  z72 := Tryz.sizeOf155
  v72 := Tryz.zeroValue155
  t127 := Tryz.underlying219
  a127 := Tryz.isAgg219
  z127 := Tryz.sizeOf219
  v127 := Tryz.zeroValue219 }
end Go.Proofs

namespace Go.Proofs.YtfedgcdkagngnaaGreat
open Go.RowKit Go.Shelf
set_option linter.unusedVariables false

def renW : Go.Shelf.Ren := ⟨fun | 166 => 120 | 240 => 160 | 276 => 207 | n => n, fun | 0 => 0 | 3 => 3 | 4 => 4 | 5 => 5 | 9 => 9 | 20 => 20 | 37 => 153 | 70 => 152 | 72 => 155 | 75 => 157 | 80 => 160 | 164 => 260 | n => n, fun | n => n⟩
theorem laysW : Go.Proofs.Lays.n166 Tryz.prog renW := {
  mixed := by kernel_rfl
  f166 := Tryz.func120.trans (congrArg some (by kernel_rfl))
  f240 := Tryz.func160.trans (congrArg some (by kernel_rfl))
  f276 := Tryz.func207.trans (congrArg some (by kernel_rfl))
  t0 := Tryz.underlying0
  a0 := Tryz.isAgg0
  z0 := Tryz.sizeOf0
  v0 := Tryz.zeroValue0
  t3 := Tryz.underlying3
  a3 := Tryz.isAgg3
  z3 := Tryz.sizeOf3
  v3 := Tryz.zeroValue3
  t4 := Tryz.underlying4
  a4 := Tryz.isAgg4
  z4 := Tryz.sizeOf4
  v4 := Tryz.zeroValue4
  t9 := Tryz.underlying9
  a9 := Tryz.isAgg9
  z9 := Tryz.sizeOf9
  v9 := Tryz.zeroValue9
  t20 := Tryz.underlying20
  a20 := Tryz.isAgg20
  z20 := Tryz.sizeOf20
  v20 := Tryz.zeroValue20
  t37 := Tryz.underlying153
  a37 := Tryz.isAgg153
  z37 := Tryz.sizeOf153
  v37 := Tryz.zeroValue153
  t70 := Tryz.underlying152
  a70 := Tryz.isAgg152
  z70 := Tryz.sizeOf152
  v70 := Tryz.zeroValue152
  t72 := Tryz.underlying155
  a72 := Tryz.isAgg155
  z72 := Tryz.sizeOf155
  v72 := Tryz.zeroValue155
  t75 := Tryz.underlying157
  a75 := Tryz.isAgg157
  z75 := Tryz.sizeOf157
  v75 := Tryz.zeroValue157
  t164 := Tryz.underlying260
  a164 := Tryz.isAgg260
  z164 := Tryz.sizeOf260
  v164 := Tryz.zeroValue260 }
theorem extraW : Go.Proofs.Builder.Extra Tryz.prog renW := {
  sizeBuilder := by kernel_rfl
  liesBuilder := by kernel_rfl
  t5 := Tryz.underlying5
  a5 := Tryz.isAgg5
  z5 := Tryz.sizeOf5
  v5 := Tryz.zeroValue5
  infoByte := by kernel_rfl
  cellsByte := by kernel_rfl
  sizeByte := by kernel_rfl
  neB5 := by decide }
theorem extraS : Go.Proofs.Builder.Extra Tryz.prog Tryz.lays169_ren := {
  sizeBuilder := by kernel_rfl
  liesBuilder := by kernel_rfl
  t5 := Tryz.underlying5
  a5 := Tryz.isAgg5
  z5 := Tryz.sizeOf5
  v5 := Tryz.zeroValue5
  infoByte := by kernel_rfl
  cellsByte := by kernel_rfl
  sizeByte := by kernel_rfl
  neB5 := by decide }

abbrev Bld (B b : Nat) (l : List UInt8) (w : World) : Prop := Lib.IsBuilder 155 5 B b (Lib.byteCells l) w

theorem bstring_any (B b : Nat) (l : List UInt8) (w : World) (h : Bld B b l w) (hB : B ≤ w.heap.size) :
    Calls Tryz.prog 96 #[.pointer (some ⟨b, 0, none⟩)] w fun e w' => e = .returned (.string ⟨l.toArray⟩) ∧ Below B w w' :=
  Any.Builder_String_any Tryz.lays169 extraS B b l w h hB

end Go.Proofs.YtfedgcdkagngnaaGreat

namespace Go.Proofs.YtfedgcdkagngnaaGreat
open Go.RowKit Go.Shelf
set_option linter.unusedVariables false

def renB : Go.Shelf.Ren := ⟨fun | 167 => 94 | 240 => 160 | 276 => 207 | n => n, fun | 0 => 0 | 3 => 3 | 4 => 4 | 5 => 5 | 9 => 9 | 20 => 20 | 37 => 153 | 70 => 152 | 72 => 155 | 75 => 157 | 80 => 160 | 164 => 260 | n => n, fun | n => n⟩
theorem laysB : Go.Proofs.Lays.n167 Tryz.prog renB := {
  mixed := by kernel_rfl
  f167 := Tryz.func94.trans (congrArg some (by kernel_rfl))
  f240 := Tryz.func160.trans (congrArg some (by kernel_rfl))
  f276 := Tryz.func207.trans (congrArg some (by kernel_rfl))
  t0 := Tryz.underlying0
  a0 := Tryz.isAgg0
  z0 := Tryz.sizeOf0
  v0 := Tryz.zeroValue0
  t4 := Tryz.underlying4
  a4 := Tryz.isAgg4
  z4 := Tryz.sizeOf4
  v4 := Tryz.zeroValue4
  t5 := Tryz.underlying5
  a5 := Tryz.isAgg5
  z5 := Tryz.sizeOf5
  v5 := Tryz.zeroValue5
  t9 := Tryz.underlying9
  a9 := Tryz.isAgg9
  z9 := Tryz.sizeOf9
  v9 := Tryz.zeroValue9
  t20 := Tryz.underlying20
  a20 := Tryz.isAgg20
  z20 := Tryz.sizeOf20
  v20 := Tryz.zeroValue20
  t37 := Tryz.underlying153
  a37 := Tryz.isAgg153
  z37 := Tryz.sizeOf153
  v37 := Tryz.zeroValue153
  t70 := Tryz.underlying152
  a70 := Tryz.isAgg152
  z70 := Tryz.sizeOf152
  v70 := Tryz.zeroValue152
  t72 := Tryz.underlying155
  a72 := Tryz.isAgg155
  z72 := Tryz.sizeOf155
  v72 := Tryz.zeroValue155
  t75 := Tryz.underlying157
  a75 := Tryz.isAgg157
  z75 := Tryz.sizeOf157
  v75 := Tryz.zeroValue157
  t164 := Tryz.underlying260
  a164 := Tryz.isAgg260
  z164 := Tryz.sizeOf260
  v164 := Tryz.zeroValue260 }
theorem extraB : Go.Proofs.Builder.Extra Tryz.prog renB := {
  sizeBuilder := by kernel_rfl
  liesBuilder := by kernel_rfl
  t5 := Tryz.underlying5
  a5 := Tryz.isAgg5
  z5 := Tryz.sizeOf5
  v5 := Tryz.zeroValue5
  infoByte := by kernel_rfl
  cellsByte := by kernel_rfl
  sizeByte := by kernel_rfl
  neB5 := by decide }

theorem bbyte_any (B b : Nat) (l : List UInt8) (c : UInt8) (w : World) (h : Bld B b l w) (hlen : l.length + 1 ≤ 140737488355328) (hB : B ≤ w.heap.size) :
    Calls Tryz.prog 94 #[.pointer (some ⟨b, 0, none⟩), .int .u8 (c.toNat : Int)] w fun e w' => e = .returned .nilIface ∧ Bld B b (l ++ [c]) w' ∧ Below B w w' := by
  have h1 := Any.Builder_WriteByte laysB extraB B b (Lib.byteCells l) (c.toNat : Int) w h (by rw [Lib.byteCells_length]; exact hlen) hB
  refine Calls.mono (f := 94) h1 ?_
  rintro e w' ⟨h2, h3, h4⟩
  refine ⟨h2, .inr ?_, h4⟩
  have e1 : Lib.byteCells (l ++ [c]) = Lib.byteCells l ++ [.int .u8 (c.toNat : Int)] := by simp [Lib.byteCells]
  rw [e1]; exact h3

theorem bld_keep {B b : Nat} {l : List UInt8} {w w' : World} (h : Bld B b l w) (hb : Below w.heap.size w w') : Bld B b l w' := by
  rcases h with ⟨h1, v, h2, h3, h4⟩ | ⟨h1, v, h2, h3, h4⟩
  · exact .inl ⟨h1, v, by rw [hb.block b (Array.getElem?_eq_some_iff.1 h2).1]; exact h2, owned_below h3 hb (Nat.le_refl _), h4⟩
  · exact .inr ⟨h1, v, by rw [hb.block b (Array.getElem?_eq_some_iff.1 h2).1]; exact h2, owned_below h3 hb (Nat.le_refl _), h4⟩
theorem bld_fresh (w : World) : Bld w.heap.size w.heap.size [] (w.alloc (.cells #[.pointer none, .slice none 0 0] 155)) :=
  .inl ⟨Nat.le_refl _, .slice none 0 0, heap_alloc_new w _, ⟨rfl, .inl ⟨rfl, rfl⟩⟩, by simp [Value.ownBlock]⟩

end Go.Proofs.YtfedgcdkagngnaaGreat

namespace Go.Proofs.YtfedgcdkagngnaaGreat
open Go.RowKit
set_option linter.unusedVariables false

def signB (h : Hd) : UInt8 :=
  if h.k = 2 then 35 else if h.k = 3 then 43 else if h.k = 1 then (if h.c < 26 then UInt8.ofNat (97 + h.c.toNat) else UInt8.ofNat (65 + (h.c.toNat - 26))) else 46
def Hd.fine (h : Hd) : Prop := h.k = 1 → 0 ≤ h.c ∧ h.c < 32
def ByteOut (v : UInt8) (w : World) : Ending → World → Prop := fun e w' => e = .returned (.int .u8 (v.toNat : Int)) ∧ Below w.heap.size w w'
theorem byteOut {v : UInt8} {w w' : World} {x : Int} (h : x = (v.toNat : Int)) (hb : Below w.heap.size w w') : ByteOut v w (.returned (.int .u8 x)) w' := by rw [h]; exact ⟨rfl, hb⟩

set_option maxHeartbeats 2000000 in
set_option maxRecDepth 20000 in
theorem dsign_any {w : World} {A : AF} {n B : Nat} {m : Al} (h : AlAt w A n B m) (hB : B ≤ 1000) (b : Int) (hf : (hdGet m.bm.list b).fine) :
    Calls Tryz.prog 95 #[valloc A, .int .i64 b] w (ByteOut (signB (hdGet m.bm.list b)) w) := by
  have HA := Lib.hid h
  have c0 := h.c0
  have d0 := h.man.c0
  have HT := Lib.hid (h.man.tab.at (MF.notHot (MF.apart h.man.nd).t).1)
  have HL : Hid (m.bm.list.length ≤ 1000) := Lib.hid (by rw [h.man.tab.len]; exact hB)
  clear h
  go_enter Tryz.func95, Tryz.ntmps95
  go_wp2_with fail
  refine (tget_any HT.out b HL.out).mono ?_
  rintro e w1 ⟨rfl, hb1⟩
  have HP : Hid (∀ (x : Int) (w' : World), x = ((signB (hdGet m.bm.list b)).toNat : Int) → Below w.heap.size w w' → ByteOut (signB (hdGet m.bm.list b)) w (.returned (.int .u8 x)) w') := Lib.hid (fun x w' h1 h2 => byteOut h1 h2)
  generalize ByteOut (signB (hdGet m.bm.list b)) w = Post at *
  generalize hdGet m.bm.list b = hd at *
  obtain ⟨k, c, l⟩ := hd
  unfold Hd.val
  have hbx := below_alloc w1 (Obj.cells #[.int .i64 k, .int .i64 c, .int .i64 l] 139)
  have HB := Lib.hid (hb1.trans (hbx.mono hb1.size))
  have HS : Hid (signB ⟨k, c, l⟩ = if k = 2 then 35 else if k = 3 then 43 else if k = 1 then (if c < 26 then UInt8.ofNat (97 + c.toNat) else UInt8.ofNat (65 + (c.toNat - 26))) else 46) := Lib.hid rfl
  unfold Hd.fine at hf
  dsimp only at hf ⊢
  generalize signB ⟨k, c, l⟩ = s at *
  clear hb1 hbx c0 d0
  by_cases k2 : k = 2
  · have HV : Hid (s = 35) := Lib.hid (by rw [HS.out, if_pos k2])
    clear hf HS
    subst k2
    go_wp2_with fail
    exact HP.out _ _ (by rw [HV.out]; rfl) HB.out
  have k2' : ((k : Int) == 2) = false := by simpa using k2
  by_cases k3 : k = 3
  · have HV : Hid (s = 43) := Lib.hid (by rw [HS.out, if_neg k2, if_pos k3])
    clear hf HS k2
    subst k3
    go_wp2_with fail
    exact HP.out _ _ (by rw [HV.out]; rfl) HB.out
  have k3' : ((k : Int) == 3) = false := by simpa using k3
  by_cases k1 : k = 1
  · obtain ⟨hc0, hc1⟩ := hf k1
    by_cases hc : c < 26
    · have HV : Hid (s = UInt8.ofNat (97 + c.toNat)) := Lib.hid (by rw [HS.out, if_neg k2, if_neg k3, if_pos k1, if_pos hc])
      clear hf HS k2 k3
      subst k1
      go_wp2_with fail
      refine HP.out _ _ ?_ HB.out
      rw [HV.out, UInt8.toNat_ofNat']
      omega
    · have hc' : 26 ≤ c := by omega
      have HV : Hid (s = UInt8.ofNat (65 + (c.toNat - 26))) := Lib.hid (by rw [HS.out, if_neg k2, if_neg k3, if_pos k1, if_neg hc])
      clear hf HS k2 k3
      subst k1
      go_wp2_with fail
      refine HP.out _ _ ?_ HB.out
      rw [HV.out, UInt8.toNat_ofNat']
      omega
  · have k1' : ((k : Int) == 1) = false := by simpa using k1
    have HV : Hid (s = 46) := Lib.hid (by rw [HS.out, if_neg k2, if_neg k3, if_neg k1])
    clear hf HS
    go_wp2_with fail
    exact HP.out _ _ (by rw [HV.out]; rfl) HB.out

def nlB (wd : Int) (b B : Nat) : Prop := 0 < wd ∧ (b : Int) % wd = 0 ∧ (b : Int) < (B : Int) - 1
instance (wd : Int) (b B : Nat) : Decidable (nlB wd b B) := by unfold nlB; infer_instance
def mapTo (l : List Hd) (B : Nat) (wd : Int) : Nat → List UInt8
  | 0 => []
  | i + 1 => mapTo l B wd i ++ (signB (hdGet l ((i + 1 : Nat) : Int)) :: (if nlB wd (i + 1) B then [10] else []))
theorem mapTo_len (l : List Hd) (B : Nat) (wd : Int) (i : Nat) : (mapTo l B wd i).length ≤ 2 * i := by
  induction i with
  | zero => simp [mapTo]
  | succ i ih => simp only [mapTo, List.length_append, List.length_cons]; split <;> simp <;> omega

set_option maxHeartbeats 4000000 in
set_option maxRecDepth 20000 in
theorem dmap_any {w : World} {A : AF} {n B : Nat} {m : Al} (h : AlAt w A n B m) (hB1 : 1 ≤ B) (hB : B ≤ 1000) (wd : Int) (hf : ∀ b : Nat, (hdGet m.bm.list (b : Int)).fine) :
    Calls Tryz.prog 22 #[valloc A, .int .i64 wd] w (Gives (strV (mapTo m.bm.list B wd (B - 1))) w) := by
  have HP : Hid (∀ w', Below w.heap.size w w' → Gives (strV (mapTo m.bm.list B wd (B - 1))) w (.returned (strV (mapTo m.bm.list B wd (B - 1)))) w') := Lib.hid (fun w' h => ⟨rfl, h⟩)
  generalize Gives (strV (mapTo m.bm.list B wd (B - 1))) w = Post at *
  have HA := Lib.hid h
  have HF := Lib.hid hf
  have HB0 := Lib.hid (below_alloc w (.cells #[.pointer none, .slice none 0 0] 155))
  have HD0 := Lib.hid (bld_fresh w)
  clear h hf
  go_enter Tryz.func22, Tryz.ntmps22
  go_upto_region 2 with fail
  generalize w.alloc _ = w0 at *
  obtain ⟨q, hq⟩ : ∃ q, q = w.heap.size := ⟨_, rfl⟩
  rw [← hq] at HB0 HD0 ⊢
  have HQ := Lib.hid hq
  clear hq
  go_wp2_with fail
  go_loopw [6] (fun iv wr => ∃ b : Nat, 1 ≤ b ∧ b ≤ B ∧ iv = .int .i64 (b : Int) ∧ Hid (Bld q q (mapTo m.bm.list B wd (b - 1)) wr) ∧ Hid (Below q w wr)) (fun iv _ => B - (intOf iv).toNat)
  case atStart => exact ⟨1, Nat.le_refl _, hB1, rfl, HD0, HB0⟩
  case round =>
    clear HB0 HD0
    obtain ⟨b, hb1, hbB, rfl, HD, HBw⟩ := hrel
    have HAr := Lib.hid (HA.out.below (by rw [← HQ.out]; exact HBw.out))
    have c0 := HAr.out.c0
    have d0 := HAr.out.man.c0
    have HLen := Lib.hid (mapTo_len m.bm.list B wd (b - 1))
    have HStep : Hid (mapTo m.bm.list B wd b = mapTo m.bm.list B wd (b - 1) ++ (signB (hdGet m.bm.list (b : Int)) :: (if nlB wd b B then [10] else []))) := Lib.hid (by obtain ⟨c, rfl⟩ : ∃ c, b = c + 1 := ⟨b - 1, by omega⟩; rfl)
    have HQs : Hid (q ≤ wr.heap.size) := Lib.hid (by rw [HQ.out]; exact HBw.out.size)
    by_cases hlt : b < B
    · go_wp2_with fail
      refine (tlen_any HAr.out.man.tab).mono ?_
      rintro e w1 ⟨rfl, rfl⟩
      go_wp2_with fail
      refine (dsign_any HAr.out hB (b : Int) (HF.out b)).mono ?_
      rintro e w1 ⟨rfl, hb1⟩
      have HB1 := Lib.hid (HBw.out.trans (hb1.mono HQs.out))
      have HD1 := Lib.hid (bld_keep HD.out hb1)
      have HA1 := Lib.hid (HAr.out.below hb1)
      have HQ1 : Hid (q ≤ w1.heap.size) := Lib.hid (Nat.le_trans HQs.out hb1.size)
      clear hb1
      obtain ⟨T2, hT2⟩ : ∃ T2, T2 = mapTo m.bm.list B wd b := ⟨_, rfl⟩
      rw [← hT2] at HStep
      have HTe := Lib.hid hT2
      clear hT2
      generalize mapTo m.bm.list B wd (b - 1) = T at *
      generalize signB (hdGet m.bm.list (b : Int)) = s at *
      go_wp2_with fail
      refine (bbyte_any q q T s _ HD1.out (by have := HLen.out; omega) HQ1.out).mono ?_
      rintro e w2 ⟨rfl, hd2, hb2⟩
      have HB2 := Lib.hid (HB1.out.trans hb2)
      have HD2 := Lib.hid hd2
      have HA2 := Lib.hid (HA.out.below (by rw [← HQ.out]; exact HB2.out))
      have HQ2 : Hid (q ≤ w2.heap.size) := Lib.hid (by rw [HQ.out]; exact HB2.out.size)
      have c2 := HA2.out.c0
      have d2 := HA2.out.man.c0
      clear hd2 hb2 c0 d0 HA1 HD1 HB1 HQ1
      by_cases hw : 0 < wd
      · cases hm : ((b : Int) % wd == 0) with
        | true =>
          by_cases hl : (b : Int) < (B : Int) - 1
          · have HT2 : Hid (T2 = (T ++ [s]) ++ [10]) := Lib.hid (by rw [HStep.out, if_pos ⟨hw, by simpa using hm, hl⟩]; simp)
            clear HStep
            go_wp2_with fail
            refine (tlen_any HA2.out.man.tab).mono ?_
            rintro e w3 ⟨rfl, rfl⟩
            go_wp2_with fail
            refine (bbyte_any q q (T ++ [s]) 10 _ HD2.out (by have := HLen.out; simp; omega) HQ2.out).mono ?_
            rintro e w4 ⟨rfl, hd4, hb4⟩
            have HB4 := Lib.hid (HB2.out.trans hb4)
            have HD4 : Hid (Bld q q T2 w4) := Lib.hid (by rw [HT2.out]; exact hd4)
            clear hd4 hb4
            go_wp2_with fail
            go_roundw
            case rel => exact ⟨b + 1, by omega, by omega, vint (by omega), by rw [Nat.add_sub_cancel, ← HTe.out]; exact HD4, HB4⟩
            case measure => simp [intOf]; omega
          · have HT2 : Hid (Bld q q T2 w2) := Lib.hid (by rw [HStep.out, if_neg (fun h => hl h.2.2)]; exact HD2.out)
            clear HStep
            have hl' : (B : Int) - 1 ≤ (b : Int) := by omega
            go_wp2_with fail
            refine (tlen_any HA2.out.man.tab).mono ?_
            rintro e w3 ⟨rfl, rfl⟩
            go_wp2_with fail
            go_roundw
            case rel => exact ⟨b + 1, by omega, by omega, vint (by omega), by rw [Nat.add_sub_cancel, ← HTe.out]; exact HT2, HB2⟩
            case measure => simp [intOf]; omega
        | false =>
          have HT2 : Hid (Bld q q T2 w2) := Lib.hid (by rw [HStep.out, if_neg (fun h => by have := h.2.1; rw [this] at hm; cases hm)]; exact HD2.out)
          clear HStep
          go_wp2_with fail
          go_roundw
          case rel => exact ⟨b + 1, by omega, by omega, vint (by omega), by rw [Nat.add_sub_cancel, ← HTe.out]; exact HT2, HB2⟩
          case measure => simp [intOf]; omega
      · have HT2 : Hid (Bld q q T2 w2) := Lib.hid (by rw [HStep.out, if_neg (fun h => hw h.1)]; exact HD2.out)
        clear HStep
        have hw' : wd ≤ 0 := by omega
        go_wp2_with fail
        go_roundw
        case rel => exact ⟨b + 1, by omega, by omega, vint (by omega), by rw [Nat.add_sub_cancel, ← HTe.out]; exact HT2, HB2⟩
        case measure => simp [intOf]; omega
    · obtain rfl : b = B := by omega
      have hlt' : decide (b < b) = false := by simp
      clear HStep HLen
      generalize mapTo m.bm.list b wd (b - 1) = T at *
      go_wp2_with fail
      refine (tlen_any HAr.out.man.tab).mono ?_
      rintro e w1 ⟨rfl, rfl⟩
      go_wp2_with fail
      refine (bstring_any q q T _ HD.out HQs.out).mono ?_
      rintro e w4 ⟨rfl, hb4⟩
      have HB4 := Lib.hid (HBw.out.trans hb4)
      clear hb4
      go_wp2_with fail
      exact HP.out _ (by rw [← HQ.out]; exact HB4.out)

end Go.Proofs.YtfedgcdkagngnaaGreat

namespace Go.Proofs.YtfedgcdkagngnaaGreat
open Go.RowKit
set_option linter.unusedVariables false
open Go.Lib (decDigits itoa nDigits)

theorem str2 (a b : List UInt8) : Value.string (bstr a ++ bstr b) = strV (a ++ b) := by rw [bstr_append]
def sumB (f : Nat → List UInt8) (n : Nat) : List UInt8 := (List.range n).flatMap f
theorem sumB_succ (f : Nat → List UInt8) (n : Nat) : sumB f (n + 1) = sumB f n ++ f n := by simp [sumB, List.range_succ]
theorem sumB_len {f : Nat → List UInt8} {k : Nat} (h : ∀ i, (f i).length ≤ k) : ∀ n, (sumB f n).length ≤ k * n
  | 0 => by simp [sumB]
  | n + 1 => by rw [sumB_succ, List.length_append]; have := sumB_len h n; have := h n; rw [Nat.mul_succ]; omega
theorem itoa_len {n : Nat} (h : n < 18446744073709551616) : (itoa (n : Int)).length ≤ 20 := by rw [itoa_pos]; exact dec_len20 h

def datT (S : Dev) (a p : Int) (i : Nat) : List UInt8 := [32] ++ digW 16 (peek S.cache (a + 1 + p + (i : Int))) 16
theorem datT_len (S : Dev) (a p : Int) (i : Nat) : (datT S a p i).length = 17 := by unfold datT; simp [digW_len]
end Go.Proofs.YtfedgcdkagngnaaGreat

namespace Go.Proofs.YtfedgcdkagngnaaGreat
open Go.RowKit
set_option linter.unusedVariables false
open Go.Lib (decDigits itoa nDigits)

theorem str3l (a b c : List UInt8) : Value.string (bstr a ++ bstr b ++ bstr c) = strV (a ++ b ++ c) := by rw [bstr_append, bstr_append]
theorem words_datT {S : Dev} {a : Int} {p d n : Nat} (hn : n = 1 + p + d) {i : Nat} (hi : i < d) : (wordsAt S.cache a n)[1 + p + i]? = some (peek S.cache (a + 1 + (p : Int) + (i : Int))) := by
  unfold wordsAt
  rw [List.getElem?_map, List.getElem?_range (by omega)]
  show some (peek S.cache (a + ((1 + p + i : Nat) : Int))) = _
  rw [show a + ((1 + p + i : Nat) : Int) = a + 1 + (p : Int) + (i : Int) by push_cast; omega]

set_option maxHeartbeats 4000000 in
set_option maxRecDepth 20000 in
theorem rdatas_any {w : World} {v : Value} {S : Dev} {m : Nat} (hm : S.dirty.length = m) (h : RAt w v m S.ref) {N : Nat} (hf : S.fit N) (a : Int) (p d : Nat) (hh : headN S a = ⟨p, d, 0⟩) :
    Calls Tryz.prog 92 #[v, .int .i64 a] w (Gives (strV (sumB (datT S a p) d)) w) := by
  have hco := headN_code S a
  rw [hh] at hco
  have hs0 : objSize (p : Int) (d : Int) ≠ 0 := by
    rcases hco with hco | hco
    · exact hco.2.2.2.1
    · injection hco with _ _ h3; cases h3
  have hsz := objSize_is hs0
  obtain ⟨n, hn⟩ : ∃ n, n = objSize (p : Int) (d : Int) := ⟨_, rfl⟩
  rw [← hn] at hsz
  have hnn : n = 1 + p + d := by omega
  have hbnd := obj_small hs0
  have HHead := Lib.hid (fun w' (h : RAt w' v m S.ref) => rhead15_any hm h hf a)
  have HWords := Lib.hid (fun w' (h : RAt w' v m S.ref) => rwords15_any hm h hf a)
  rw [hh] at HHead HWords
  rw [show headV (⟨(p : Int), (d : Int), 0⟩ : Odec) = .tuple #[vob p d, .bool true] from rfl] at HHead
  dsimp only at HWords
  rw [if_pos rfl, ← hn] at HWords
  have HWd : Hid (∀ i, i < d → (wordsAt S.cache a n)[1 + p + i]? = some (peek S.cache (a + 1 + (p : Int) + (i : Int)))) := Lib.hid (fun i hi => words_datT hnn hi)
  have HU := Lib.hid hf.wf.u64C
  have HPo : Hid (∀ w', Below w.heap.size w w' → Gives (strV (sumB (datT S a p) d)) w (.returned (strV (sumB (datT S a p) d))) w') := Lib.hid (fun w' h => ⟨rfl, h⟩)
  generalize Gives (strV (sumB (datT S a p) d)) w = Post at *
  obtain ⟨D, rfl⟩ := h.agg
  obtain ⟨hD8, hD1⟩ := h.arr
  have HM := Lib.hid (Mem.one w D 34)
  have HR0 := Lib.hid (h.below HM.out.below (Nat.le_refl _))
  have HNn := Lib.hid hnn
  clear h hf hm hh hco hs0 hn hnn hsz
  go_enter Tryz.func92, Tryz.ntmps92
  go_upto_region 1 with fail
  generalize w.alloc _ = w0 at *
  obtain ⟨q, hq⟩ : ∃ q, q = w.heap.size := ⟨_, rfl⟩
  rw [← hq] at HM ⊢
  clear hq
  go_wp2_with (refine wpList_load_box aggRd HM.out 0 rfl hD8 rfl rfl rfl ?_)
  refine (HHead.out _ HR0.out).mono ?_
  rintro e w1 ⟨rfl, hb1⟩
  have HM1 := Lib.hid ((HM.out.later hb1).alloc #[.int .i64 (p : Int), .int .i64 (d : Int)] 55)
  have HR1 := Lib.hid ((HR0.out.below hb1 (Nat.le_refl _)).below (below_alloc w1 (.cells #[.int .i64 (p : Int), .int .i64 (d : Int)] 55)) (Nat.le_refl _))
  clear hb1
  go_upto_region 2 with fail
  generalize w1.alloc _ = w2 at *
  generalize w1.heap.size = g at *
  have c0 := HM1.out.cell 1 0 rfl rfl
  go_wp2_with (refine wpList_load_box aggRd HM1.out 0 rfl hD8 rfl rfl rfl ?_)
  refine (HWords.out _ HR1.out).mono ?_
  rintro e w3 ⟨v3, rfl, ho3, hb3⟩
  obtain ⟨a3, c3, rfl, _, _⟩ := owned_form ho3
  have HC3 := Lib.hid (Cells.owned ho3)
  have HM3 := Lib.hid (HM1.out.later hb3)
  have d0 := HM3.out.cell 1 0 rfl rfl
  clear hb3 ho3 c0
  go_wp2_with fail
  clear d0
  go_loopw [8, 9] (fun sv iv wr => ∃ i : Nat, i ≤ d ∧ sv = strV (sumB (datT S a p) i) ∧ iv = .int .i64 ((1 + p + i : Nat) : Int) ∧ Hid (Below w3.heap.size w3 wr)) (fun _ iv _ => n - (intOf iv).toNat)
  case atStart => exact ⟨0, Nat.zero_le _, rfl, vint (by push_cast; omega), Lib.hid (Below.refl _ _)⟩
  case round =>
    obtain ⟨i, hi, rfl, rfl, HB⟩ := hrel
    have hnn := HNn.out
    have HS5 : Hid ((sumB (datT S a (p : Int)) i).length ≤ 300000) := Lib.hid (by
      have h1 := sumB_len (fun i => Nat.le_of_eq (datT_len S a (p : Int) i)) i
      omega)
    by_cases hlt : i < d
    · have hlt' : ((1 + p + i : Nat) : Int) < (n : Int) := by omega
      have hx := HWd.out i hlt
      obtain ⟨b3, o3, rfl, hbx, hcx⟩ := HC3.out.at (i := 1 + p + i) (by rw [List.length_map]; exact (List.getElem?_eq_some_iff.1 hx).1)
      have hc := hcx (1 + p + i) (vu64 (peek S.cache (a + 1 + (p : Int) + (i : Int)))) (by rw [List.getElem?_map, hx]; rfl)
      have hcw := HB.out.cell (p := ⟨b3, o3 + (1 + p + i), none⟩) hbx
      rw [hc] at hcw
      have HSt : Hid (sumB (datT S a (p : Int)) (i + 1) = sumB (datT S a (p : Int)) i ++ [32] ++ digW 16 (peek S.cache (a + 1 + (p : Int) + (i : Int))) 16) := Lib.hid (by rw [sumB_succ]; simp [datT])
      have hy := peek_lt HU.out (a + 1 + (p : Int) + (i : Int))
      generalize sumB (datT S a (p : Int)) i = T2 at *
      generalize peek S.cache (a + 1 + (p : Int) + (i : Int)) = y at *
      have HNy := Lib.hid (fun w => rhex_any y hy w)
      have HLy : Hid ((digW 16 y 16).length = 16) := Lib.hid (digW_len 16 y 16)
      generalize digW 16 y 16 = Ty at *
      have hl1 : (bstr T2).size ≤ 300000 := by rw [bstr_size]; exact HS5.out
      have hl2 : (bstr Ty).size ≤ 16 := by rw [bstr_size, HLy.out]; exact Nat.le_refl _
      clear hx hc hcx hbx hnn
      generalize hj : 1 + p + i = j at *
      have HJ := Lib.hid hj
      clear hj
      go_wp2_with fail
      refine (HNy.out _).mono ?_
      rintro e w6 ⟨rfl, hb6⟩
      have HB6 := Lib.hid (HB.out.trans (hb6.mono HB.out.size))
      clear hb6
      have hjj := HJ.out
      go_wp2_with fail
      refine ⟨⟨i + 1, by omega, ?_, vint (by omega), HB6⟩, by simp [intOf]; omega⟩
      rw [HSt.out]; exact str3l T2 [32] Ty
    · obtain rfl : i = d := by omega
      generalize hj : 1 + p + i = j at *
      have hlt' : decide (j < n) = false := by simp; omega
      clear hj hnn
      go_wp2_with fail
      exact HPo.out _ (HM3.out.later HB.out).below

end Go.Proofs.YtfedgcdkagngnaaGreat

namespace Go.Proofs.YtfedgcdkagngnaaGreat
open Go.RowKit Go.Maps
set_option linter.unusedVariables false

structure StkAt (w : World) (s : Nat) (v : Value) (l : List Nat) (most miss : Nat) : Prop where
  head : w.heap[s]? = some (.cells #[v, .int .i64 (most : Int), .int .i64 (miss : Int)] 225 (0, 0))
  own : OwnI w v l
  ne : ∀ b, rowOf v = some b → b ≠ s
end Go.Proofs.YtfedgcdkagngnaaGreat

namespace Go.Proofs.YtfedgcdkagngnaaGreat
open Go.RowKit
set_option linter.unusedVariables false

structure MkF where
  p : Nat
  X : SetF
  Y : SetF
  s : Nat
  v : Value
def MkF.fix (K : MkF) : List Nat := K.p :: K.s :: (K.X.list ++ K.Y.list)
def MkF.list (K : MkF) : List Nat := K.fix ++ (rowOf K.v).toList
def mkV (A : AF) (K : MkF) (M : Mk) : Array Value := #[valloc A, vset K.X, vset K.Y, .pointer (some ⟨K.s, 0, none⟩), .bool M.again, .int .i64 (M.cur : Int)]
structure MkAt (w : World) (A : AF) (K : MkF) (M : Mk) : Prop where
  head : w.heap[K.p]? = some (.cells (mkV A K M) 167 (0, 0))
  sx : SetAt w K.X M.ms
  sy : SetAt w K.Y M.sc
  st : StkAt w K.s K.v M.st.reverse M.most M.miss
  nd : K.fix.Nodup
  nv : ∀ b, rowOf K.v = some b → b ∉ K.fix

section
variable {w w' : World} {A : AF} {K : MkF} {M : Mk}
end

section
variable {w w0 w1 w' : World} {A : AF} {n B : Nat} {m : Al} {K : MkF} {M M' : Mk}
end

section
variable {w : World} {A : AF} {K : MkF} {M : Mk}
end

end Go.Proofs.YtfedgcdkagngnaaGreat

namespace Go.Proofs.YtfedgcdkagngnaaGreat
open Go.RowKit
set_option linter.unusedVariables false

section
variable {w : World} {A : AF} {n B : Nat} {m : Al} {K : MkF} {M : Mk}
end

end Go.Proofs.YtfedgcdkagngnaaGreat

namespace Go.Proofs.YtfedgcdkagngnaaGreat
set_option linter.unusedVariables false

section
variable {U : List Bool} {P : Nat → List Nat} {M : Mk}

section
variable {b : Bool} {M' : Mk}
end
end

end Go.Proofs.YtfedgcdkagngnaaGreat

namespace Go.Proofs.YtfedgcdkagngnaaGreat
open Go.RowKit
set_option linter.unusedVariables false

def ptrsD (S : Dev) (a : Int) : List Nat := if (headN S a).code = 0 then ptrL S a (headN S a).p.toNat else []
def ptrsO (m : Al) (a : Nat) : List Nat := ptrsD m.bm.dev (a : Int)
theorem PtrsPost.out {S : Dev} {a : Int} {w w' : World} {e : Ending} (h : PtrsPost S a w e w') : ∃ av cp ec, e = .returned (.tuple #[.slice av (ptrsD S a).length cp, .int .i64 ec]) ∧ ec = (headN S a).code ∧ Cells w' av ((ptrsD S a).map vi) ∧ (∀ x, av = some x → w.heap.size ≤ x.block) ∧ Below w.heap.size w w' := by
  obtain ⟨hb, h⟩ := h
  rcases h with ⟨h0, v, rfl, ho⟩ | ⟨h0, rfl⟩
  · have e0 : ptrsD S a = ptrL S a (headN S a).p.toNat := by unfold ptrsD; rw [if_pos h0]
    obtain ⟨av, cp, rfl, _, _⟩ := owned_form ho
    rw [e0, ptrL_length]
    exact ⟨av, cp, _, rfl, h0.symm, Cells.owned ho, owned_addr ho, hb⟩
  · have e0 : ptrsD S a = [] := by unfold ptrsD; rw [if_neg (by rw [h0]; decide)]
    rw [e0]
    exact ⟨none, 0, _, rfl, h0.symm, Cells.nil _ _, fun x hx => (by cases hx), hb⟩
theorem ptrsD_len {S : Dev} (hs : S.cache.length ≤ 1000000) (a : Int) : (ptrsD S a).length ≤ 64 := by
  unfold ptrsD
  split
  · next h =>
    rw [ptrL_length]
    have := head_small hs (a := a) h
    omega
  · simp
theorem ptrsD_le (S : Dev) (a : Int) : ∀ x ∈ ptrsD S a, x ≤ 1099511627776 := by
  intro x hx
  unfold ptrsD at hx
  split at hx
  · unfold ptrL at hx
    obtain ⟨i, _, rfl⟩ := List.mem_map.1 hx
    exact capP_le _
  · simp at hx
section
variable {w : World} {A : AF} {n B : Nat} {m : Al} {K : MkF} {M : Mk}
end

end Go.Proofs.YtfedgcdkagngnaaGreat

namespace Go.Proofs.YtfedgcdkagngnaaGreat
open Go.RowKit
set_option linter.unusedVariables false
open Go.Lib (decDigits itoa nDigits)

def gNm (U : List Bool) (o : List Nat) (a : Nat) : List Nat := if U.getD a false = true ∧ a ∉ o then o ++ [a] else o
def gTx (U : List Bool) (o : List Nat) (a : Nat) : List UInt8 := if U.getD a false = true then itoa ((o.idxOf a : Nat) : Int) else [45]
def gSt (U : List Bool) (s : List Nat × List UInt8) (a : Nat) : List Nat × List UInt8 := (gNm U s.1 a, s.2 ++ (32 :: gTx U s.1 a))
def gFo (U : List Bool) (s : List Nat × List UInt8) (l : List Nat) : List Nat × List UInt8 := l.foldl (gSt U) s
theorem gFo_take (U : List Bool) (s : List Nat × List UInt8) (l : List Nat) (k x : Nat) (hx : l[k]? = some x) : gFo U s (l.take (k + 1)) = gSt U (gFo U s (l.take k)) x := by
  have h1 := (List.getElem?_eq_some_iff.1 hx).1
  rw [List.take_succ_eq_append_getElem h1, (List.getElem?_eq_some_iff.1 hx).2]
  unfold gFo
  rw [List.foldl_append]; rfl

structure GOk (U : List Bool) (o : List Nat) : Prop where
  nd : o.Nodup
  us : ∀ x ∈ o, U.getD x false = true
theorem GOk.nil (U : List Bool) : GOk U [] := ⟨List.nodup_nil, fun x h => by cases h⟩
theorem GOk.nm {U : List Bool} {o : List Nat} (h : GOk U o) (a : Nat) : GOk U (gNm U o a) := by
  unfold gNm
  split
  · next hc =>
    refine ⟨?_, fun x hx => ?_⟩
    · rw [List.nodup_append]
      refine ⟨h.nd, by simp, fun x hx y hy => ?_⟩
      simp at hy; subst hy
      intro e; subst e; exact hc.2 hx
    · rcases List.mem_append.1 hx with c | c
      · exact h.us x c
      · simp at c; subst c; exact hc.1
  · exact h
theorem GOk.fo {U : List Bool} {s : List Nat × List UInt8} (h : GOk U s.1) (l : List Nat) : GOk U (gFo U s l).1 := by
  induction l generalizing s with
  | nil => exact h
  | cons x l ih => exact ih (s := gSt U s x) (h.nm x)
theorem GOk.len {U : List Bool} {o : List Nat} (h : GOk U o) : o.length ≤ U.length := nodup_len _ _ (fun x hx => getD_true_lt (h.us x hx)) (nodup_count h.nd)
theorem gTx_len {U : List Bool} {o : List Nat} (h : o.length ≤ 1000000) (a : Nat) : (gTx U o a).length ≤ 20 := by
  unfold gTx
  split
  · have : o.idxOf a ≤ o.length := List.idxOf_le_length
    exact itoa_len (by omega)
  · simp
theorem gFo_len2 {U : List Bool} {s : List Nat × List UInt8} (h : GOk U s.1) (hU : U.length ≤ 1000000) (l : List Nat) : (gFo U s l).2.length ≤ s.2.length + 21 * l.length := by
  induction l generalizing s with
  | nil => simp [gFo]
  | cons x l ih =>
    have h1 := ih (s := gSt U s x) (h.nm x)
    have h2 := gTx_len (U := U) (Nat.le_trans h.len hU) x
    have h3 : (gSt U s x).2.length = s.2.length + ((gTx U s.1 x).length + 1) := by simp [gSt]
    have h4 : gFo U s (x :: l) = gFo U (gSt U s x) l := rfl
    rw [h4, List.length_cons]
    omega

def gA (U : List Bool) (s : List Nat × List UInt8) (l : List Nat) (k : Nat) : List Nat × List UInt8 := gFo U s (l.take k)
theorem gA_succ (U : List Bool) (s : List Nat × List UInt8) (l : List Nat) (k x : Nat) (hx : l[k]? = some x) : gA U s l (k + 1) = (gNm U (gA U s l k).1 x, (gA U s l k).2 ++ (32 :: gTx U (gA U s l k).1 x)) := gFo_take U s l k x hx
theorem gA_all (U : List Bool) (s : List Nat × List UInt8) (l : List Nat) : gA U s l l.length = gFo U s l := by unfold gA; rw [List.take_length]
theorem GOk.a {U : List Bool} {s : List Nat × List UInt8} (h : GOk U s.1) (l : List Nat) (k : Nat) : GOk U (gA U s l k).1 := h.fo _
theorem gA_len {U : List Bool} {s : List Nat × List UInt8} (h : GOk U s.1) (hU : U.length ≤ 1000000) (l : List Nat) (k : Nat) : (gA U s l k).2.length ≤ s.2.length + 21 * l.length := by
  have h1 := gFo_len2 h hU (l.take k)
  have h2 : (l.take k).length ≤ l.length := by rw [List.length_take]; omega
  unfold gA; omega
theorem gNm_get {U : List Bool} {o : List Nat} {i x : Nat} (h : o[i]? = some x) (a : Nat) : (gNm U o a)[i]? = some x := by
  unfold gNm
  split
  · rw [List.getElem?_append_left (List.getElem?_eq_some_iff.1 h).1]; exact h
  · exact h
theorem gFo_get {U : List Bool} {s : List Nat × List UInt8} {i x : Nat} (h : s.1[i]? = some x) (l : List Nat) : (gFo U s l).1[i]? = some x := by
  induction l generalizing s with
  | nil => exact h
  | cons y l ih => exact ih (s := gSt U s y) (gNm_get h y)
theorem gA_get {U : List Bool} {s : List Nat × List UInt8} {i x : Nat} (h : s.1[i]? = some x) (l : List Nat) (k : Nat) : (gA U s l k).1[i]? = some x := gFo_get h _

def gLn (U : List Bool) (S : Dev) (i : Nat) (s : List Nat × List UInt8) : List Nat × List UInt8 :=
  ((gFo U (s.1, s.2 ++ itoa (i : Int) ++ [58]) (ptrsD S ((s.1.getD i 0 : Nat) : Int))).1,
    (gFo U (s.1, s.2 ++ itoa (i : Int) ++ [58]) (ptrsD S ((s.1.getD i 0 : Nat) : Int))).2 ++ sumB (datT S ((s.1.getD i 0 : Nat) : Int) (headN S ((s.1.getD i 0 : Nat) : Int)).p) (headN S ((s.1.getD i 0 : Nat) : Int)).d.toNat ++ [10])
def gLs (U : List Bool) (S : Dev) (s : List Nat × List UInt8) : Nat → List Nat × List UInt8
  | 0 => s
  | i + 1 => gLn U S i (gLs U S s i)
theorem gLs_succ {U : List Bool} {S : Dev} {s : List Nat × List UInt8} {i x p d : Nat} (hx : (gLs U S s i).1[i]? = some x) (hh : headN S (x : Int) = ⟨(p : Int), (d : Int), 0⟩) :
    gLs U S s (i + 1) = ((gA U ((gLs U S s i).1, (gLs U S s i).2 ++ itoa (i : Int) ++ [58]) (ptrsD S (x : Int)) (ptrsD S (x : Int)).length).1, (gA U ((gLs U S s i).1, (gLs U S s i).2 ++ itoa (i : Int) ++ [58]) (ptrsD S (x : Int)) (ptrsD S (x : Int)).length).2 ++ sumB (datT S (x : Int) (p : Int)) d ++ [10]) := by
  have e : (gLs U S s i).1.getD i 0 = x := by rw [List.getD_eq_getElem?_getD, hx]; rfl
  show gLn U S i (gLs U S s i) = _
  unfold gLn
  rw [e, gA_all, hh]
  rfl
theorem headN_d (S : Dev) (a : Int) : (headN S a).d.toNat ≤ 16384 := by
  rcases headN_code S a with h | h
  · have := (obj_small h.2.2.2.1).2; omega
  · rw [h]; simp
def GEnd (U : List Bool) (S : Dev) (s : List Nat × List UInt8) (n : Nat) : Prop := (∀ i, i < n → i < (gLs U S s i).1.length) ∧ (gLs U S s n).1.length ≤ n
theorem GEnd.one {U : List Bool} {S : Dev} {s : List Nat × List UInt8} {n k : Nat} (h : GEnd U S s n) (h' : GEnd U S s k) : n = k := by
  rcases Nat.lt_trichotomy n k with c | c | c
  · have := h'.1 n c; have := h.2; omega
  · exact c
  · have := h.1 k c; have := h'.2; omega
theorem GOk.ls {U : List Bool} {S : Dev} {s : List Nat × List UInt8} (h : GOk U s.1) : ∀ n, GOk U (gLs U S s n).1
  | 0 => h
  | n + 1 => by
    have h1 := GOk.ls (S := S) h n
    exact GOk.fo (s := ((gLs U S s n).1, (gLs U S s n).2 ++ itoa (n : Int) ++ [58])) h1 _
def gRoot : List Nat × List UInt8 := ([], [114, 111, 111, 116, 115])
def gTop (U : List Bool) (from_ : List Nat) : List Nat × List UInt8 := ((gA U gRoot from_ from_.length).1, (gA U gRoot from_ from_.length).2 ++ [10])
theorem gTop_ok (U : List Bool) (from_ : List Nat) : GOk U (gTop U from_).1 := GOk.a (s := gRoot) (GOk.nil U) from_ _
theorem gTop_len {U : List Bool} (hU : U.length ≤ 1000000) (from_ : List Nat) : (gTop U from_).2.length ≤ 6 + 21 * from_.length := by
  have := gA_len (s := gRoot) (GOk.nil U) hU from_ from_.length
  simp [gTop, gRoot] at this ⊢; omega
theorem gLs_len {U : List Bool} {S : Dev} (hS : S.cache.length ≤ 1000000) {s : List Nat × List UInt8} (h : GOk U s.1) (hU : U.length ≤ 1000000) : ∀ n, n ≤ 1000000 → (gLs U S s n).2.length ≤ s.2.length + n * 280000
  | 0, _ => by simp [gLs]
  | n + 1, hn => by
    have h1 := gLs_len hS h hU n (by omega)
    have h2 := gFo_len2 (s := ((gLs U S s n).1, (gLs U S s n).2 ++ itoa (n : Int) ++ [58])) (h.ls n) hU (ptrsD S (((gLs U S s n).1.getD n 0 : Nat) : Int))
    have h3 := ptrsD_len hS (((gLs U S s n).1.getD n 0 : Nat) : Int)
    have h4 := headN_d S (((gLs U S s n).1.getD n 0 : Nat) : Int)
    have h5 := sumB_len (fun i => Nat.le_of_eq (datT_len S (((gLs U S s n).1.getD n 0 : Nat) : Int) (headN S (((gLs U S s n).1.getD n 0 : Nat) : Int)).p i)) (headN S (((gLs U S s n).1.getD n 0 : Nat) : Int)).d.toNat
    have h6 := itoa_len (n := n) (by omega)
    show (gLn U S n (gLs U S s n)).2.length ≤ _
    unfold gLn
    simp only [List.length_append, List.length_singleton] at h2 h5 ⊢
    omega
def GraphPost (U : List Bool) (S : Dev) (fs : List Nat) (w : World) : Ending → World → Prop := fun e w' => ∃ n, GEnd U S (gTop U fs) n ∧ e = .returned (strV (gLs U S (gTop U fs) n).2) ∧ Below w.heap.size w w'

def ordM (o : List Nat) : Int → Option Int := fun z => if 0 ≤ z ∧ z.toNat ∈ o then some ((o.idxOf z.toNat : Nat) : Int) else none
theorem ordM_nil : ordM [] = fun _ => none := by funext z; unfold ordM; rw [if_neg (by rintro ⟨_, h⟩; cases h)]
theorem ordM_in {o : List Nat} {a : Nat} (h : a ∈ o) : ordM o (a : Int) = some ((o.idxOf a : Nat) : Int) := by
  unfold ordM; rw [if_pos ⟨by omega, by rwa [Int.toNat_natCast]⟩, Int.toNat_natCast]
theorem ordM_out {o : List Nat} {a : Nat} (h : a ∉ o) : ordM o (a : Int) = none := by
  unfold ordM; rw [if_neg]; rintro ⟨_, h'⟩; rw [Int.toNat_natCast] at h'; exact h h'
theorem ordM_add {o : List Nat} {a : Nat} (h : a ∉ o) : (fun z => if z = (a : Int) then some ((o.length : Nat) : Int) else ordM o z) = ordM (o ++ [a]) := by
  funext z
  by_cases e : z = (a : Int)
  · subst e
    rw [if_pos rfl, ordM_in (by simp), List.idxOf_append, if_neg h]; simp
  · rw [if_neg e]
    unfold ordM
    by_cases hz : 0 ≤ z ∧ z.toNat ∈ o
    · rw [if_pos hz, if_pos ⟨hz.1, by simp [hz.2]⟩, List.idxOf_append, if_pos hz.2]
    · rw [if_neg hz, if_neg]
      rintro ⟨h1, h2⟩
      rcases List.mem_append.1 h2 with c | c
      · exact hz ⟨h1, c⟩
      · simp at c; omega
theorem idxOf_self {o : List Nat} {a : Nat} (h : a ∉ o) : o.idxOf a = o.length := List.idxOf_eq_length h
end Go.Proofs.YtfedgcdkagngnaaGreat

namespace Go.Proofs.YtfedgcdkagngnaaGreat
open Go.RowKit Go.Shelf
set_option linter.unusedVariables false

structure Bdr (B b : Nat) (v : Value) (l : List UInt8) (w : World) : Prop where
  lo : B ≤ b
  own : w.ownsRow B 5 1 v (Lib.byteCells l).length (Lib.byteCells l)
  at_ : w.heap[b]? = some (.cells #[.pointer none, v] 155 (0, 0)) ∨ w.heap[b]? = some (.cells #[.pointer (some ⟨b, 0, none⟩), v] 155 (0, 0))
def bdL (b : Nat) (v : Value) : List Nat := b :: v.ownBlock.toList
theorem bdL_mem {b k : Nat} {v : Value} : k ∈ bdL b v ↔ k = b ∨ v.ownBlock = some k := by
  unfold bdL
  cases v.ownBlock with
  | none => simp
  | some g => simp; constructor
              · rintro (h | h)
                · exact .inl h
                · exact .inr h.symm
              · rintro (h | h)
                · exact .inl h
                · exact .inr h.symm

section
variable {B b : Nat} {v : Value} {l : List UInt8} {w w' : World}
theorem Bdr.block (h : Bdr B b v l w) : ∃ cs, w.heap[b]? = some (.cells cs 155 (0, 0)) := h.at_.elim (fun h => ⟨_, h⟩) (fun h => ⟨_, h⟩)
theorem Bdr.lt (h : Bdr B b v l w) : b < w.heap.size := by
  obtain ⟨cs, h⟩ := h.block
  exact (Array.getElem?_eq_some_iff.1 h).1
theorem Bdr.ne (h : Bdr B b v l w) : v.ownBlock ≠ some b := by
  obtain ⟨cs, h1⟩ := h.block
  exact Lib.ownBlock_ne h.own h1 (by decide)
theorem Bdr.bld (h : Bdr B b v l w) : Bld B b l w := h.at_.elim (fun h1 => .inl ⟨h.lo, v, h1, h.own, h.ne⟩) (fun h1 => .inr ⟨h.lo, v, h1, h.own, h.ne⟩)
theorem Bdr.row (h : Bdr B b v l w) {k : Nat} (hk : v.ownBlock = some k) : B ≤ k ∧ ∃ cs, w.heap[k]? = some (.cells cs 5 (0, 0)) := by
  rcases h.own.2 with ⟨rfl, _⟩ | ⟨g, cap, cur, rfl, hb, hg, _⟩
  · cases hk
  · have : g = k := by simpa [Value.ownBlock] using hk
    subst this
    exact ⟨hb, cur, hg⟩
theorem ownsRow_keep {B n : Nat} {e : TypeId} {xs : List Value} (h : w.ownsRow B e 1 v n xs) (hk : ∀ k, v.ownBlock = some k → w'.heap[k]? = w.heap[k]?) : w'.ownsRow B e 1 v n xs := by
  refine ⟨h.1, ?_⟩
  rcases h.2 with ⟨rfl, h0⟩ | ⟨g, cap, cur, rfl, hb, hg, h1⟩
  · exact .inl ⟨rfl, h0⟩
  · exact .inr ⟨g, cap, cur, rfl, hb, (hk g rfl).trans hg, h1⟩
theorem Bdr.keep (h : Bdr B b v l w) (hk : ∀ k, k ∈ bdL b v → w'.heap[k]? = w.heap[k]?) : Bdr B b v l w' :=
  ⟨h.lo, ownsRow_keep h.own (fun k e => hk k (bdL_mem.2 (.inr e))), by rw [hk b (bdL_mem.2 (.inl rfl))]; exact h.at_⟩
theorem Bdr.mem (h : Bdr B b v l w) {k : Nat} (hk : k ∈ bdL b v) : B ≤ k ∧ k < w.heap.size := by
  rcases bdL_mem.1 hk with rfl | e
  · exact ⟨h.lo, h.lt⟩
  · obtain ⟨h1, cs, h2⟩ := h.row e
    exact ⟨h1, (Array.getElem?_eq_some_iff.1 h2).1⟩
theorem Bdr.later (h : Bdr B b v l w) (hb : Below w.heap.size w w') : Bdr B b v l w' := h.keep (fun k hk => hb.block k (h.mem hk).2)
theorem Bdr.off (h : Bdr B b v l w) {L : List Nat} (hb : Touch L w w') (hL : ∀ k ∈ L, k ∉ bdL b v) : Bdr B b v l w' := h.keep (fun k hk => hb.block k (h.mem hk).2 (fun hm => hL k hm hk))
end
theorem bdr_copy {B b : Nat} {v : Value} {l : List UInt8} {w : World} (h : Bdr B b v l w) :
    Calls Tryz.prog 160 #[.pointer (some ⟨b, 0, none⟩)] w fun e w' => e = .returned (.tuple #[]) ∧ Touch [b] w w' ∧ w'.heap[b]? = some (.cells #[.pointer (some ⟨b, 0, none⟩), v] 155 (0, 0)) := by
  rcases h.at_ with h1 | h1
  · have hA : Lib.BuilderAt 155 5 B b (.pointer none) (Lib.byteCells l) w := ⟨h.lo, v, h1, h.own, h.ne⟩
    have h2 := Any.Builder_copyCheck_fresh { laysW with } extraW.toX72 b w hA.cell0 hA.shape hA.frozen0
    refine Calls.mono (f := 160) h2 ?_
    rintro e w' ⟨h3, rfl⟩
    exact ⟨h3, Touch.setCell ⟨b, 0, none⟩ (by simp) _, by simp [World.setCell, Array.getElem?_modify, h1]⟩
  · have hA : Lib.BuilderAt 155 5 B b (.pointer (some ⟨b, 0, none⟩)) (Lib.byteCells l) w := ⟨h.lo, v, h1, h.own, h.ne⟩
    have h2 := Any.Builder_copyCheck_used { laysW with } extraW.toX72 b w hA.cell0
    refine Calls.mono (f := 160) h2 ?_
    rintro e w' ⟨h3, rfl⟩
    exact ⟨h3, Touch.refl _ _, h1⟩

def BdGo (B b : Nat) (v : Value) (l : List UInt8) (r : Value) (w : World) : Ending → World → Prop := fun e w' => e = .returned r ∧ ∃ v', Bdr B b v' l w' ∧ Touch (bdL b v) w w'
theorem bdGo_end {B b : Nat} {v v' : Value} {l l' : List UInt8} {r : Value} {w w1 w2 : World} (h : Bdr B b v l w) (ht : Touch [b] w w1) (hb : w1.heap[b]? = some (.cells #[.pointer (some ⟨b, 0, none⟩), v] 155 (0, 0)))
    (ho : w2.ownsRow B 5 1 v' (Lib.byteCells l').length (Lib.byteCells l')) {wa : World} (ha : Below w1.heap.size w1 wa) (hg : wa.grownBy w2 v.ownBlock) : BdGo B b v l' r w (.returned r) (w2.setCell ⟨b, 1, none⟩ v') := by
  have hlt : b < w1.heap.size := (Array.getElem?_eq_some_iff.1 hb).1
  have hb2 : w2.heap[b]? = some (.cells #[.pointer (some ⟨b, 0, none⟩), v] 155 (0, 0)) := (hg.block b (Nat.lt_of_lt_of_le hlt ha.size) (fun e => h.ne e.symm)).trans ((ha.block b hlt).trans hb)
  have hne := Lib.ownBlock_ne ho hb2 (by decide)
  have t1 : Touch (bdL b v) w w1 := ht.wide (fun k hk => by simp at hk; subst hk; exact bdL_mem.2 (.inl rfl))
  have t2 : Touch (bdL b v) w1 w2 := ⟨hg.os.trans ha.os, hg.tape.trans ha.tape, hg.output.trans ha.output, Nat.le_trans ha.size hg.size, fun k hk hn => (hg.block k (Nat.lt_of_lt_of_le hk ha.size) (fun e => hn (bdL_mem.2 (.inr e.symm)))).trans (ha.block k hk)⟩
  have t3 : Touch (bdL b v) w2 (w2.setCell ⟨b, 1, none⟩ v') := Touch.setCell ⟨b, 1, none⟩ (bdL_mem.2 (.inl rfl)) _
  refine ⟨rfl, v', ⟨h.lo, ownsRow_keep ho (fun k e => Below.heap_setCell _ _ _ _ (fun e' => hne (by rw [e]; exact congrArg some e'))), .inr ?_⟩, (t1.trans t2).trans t3⟩
  simp [World.setCell, Array.getElem?_modify, hb2]

set_option maxHeartbeats 2000000 in
set_option maxRecDepth 20000 in
theorem bwriteT_any {B b : Nat} {v : Value} {l : List UInt8} {w : World} (h : Bdr B b v l w) (s : List UInt8) (hlen : l.length + s.length ≤ 1000000000000) (hB : B ≤ w.heap.size) :
    Calls Tryz.prog 120 #[.pointer (some ⟨b, 0, none⟩), strV s] w (BdGo B b v (l ++ s) (.tuple #[.int .i64 (s.length : Nat), .nilIface]) w) := by
  obtain ⟨i0, hi, hz0, hz1, hz2⟩ := info_parts extraW.infoByte
  have hi' : Tryz.prog.info? 5 = some i0 := hi
  have HP := Lib.hid (fun (v' : Value) (w1 w2 : World) (h1 : Touch [b] w w1) (h2 : w1.heap[b]? = some (.cells #[.pointer (some ⟨b, 0, none⟩), v] 155 (0, 0))) (h3 : w2.ownsRow B 5 1 v' (Lib.byteCells (l ++ s)).length (Lib.byteCells (l ++ s))) (h4 : w1.grownBy w2 v.ownBlock) => bdGo_end (r := .tuple #[.int .i64 (s.length : Nat), .nilIface]) h h1 h2 h3 (Below.refl _ _) h4)
  generalize BdGo B b v (l ++ s) (.tuple #[.int .i64 (s.length : Nat), .nilIface]) w = Post at *
  have HBd := Lib.hid h
  have HCc := Lib.hid (bdr_copy h)
  have hcl : (Lib.byteCells l).length = l.length := Lib.byteCells_length l
  have hss : (bstr s).size = s.length := bstr_size s
  have HE : Hid (Lib.byteCells (l ++ s) = Lib.byteCells l ++ Lib.strCells (bstr s)) := Lib.hid (by simp [Lib.byteCells, Lib.strCells, bstr])
  have HEl : Hid ((Lib.byteCells (l ++ s)).length = (Lib.byteCells l).length + (bstr s).size) := Lib.hid (by rw [Lib.byteCells_length, hcl, hss, List.length_append])
  have HLen : Hid ((Lib.byteCells l).length + (bstr s).size ≤ 1000000000000) := Lib.hid (by rw [hcl, hss]; exact hlen)
  have HSs := Lib.hid hss
  clear h hcl hss
  go_enter Tryz.func120, Tryz.ntmps120
  go_wp2_with fail
  refine HCc.out.mono ?_
  rintro e w1 ⟨rfl, ht1, hb1⟩
  have HT1 := Lib.hid ht1
  have HB1 := Lib.hid hb1
  have c1 : w1.cell? ⟨b, 1, none⟩ = some v := by rw [Lib.cell_of_heap hb1]; rfl
  have HO1 : Hid (w1.ownsRow B 5 1 v (Lib.byteCells l).length (Lib.byteCells l)) := Lib.hid (ownsRow_keep HBd.out.own (fun k hk => ht1.block k (HBd.out.mem (bdL_mem.2 (.inr hk))).2 (fun hm => by simp at hm; subst hm; exact HBd.out.ne hk)))
  have HBs : Hid (B ≤ w1.heap.size) := Lib.hid (Nat.le_trans hB ht1.size)
  clear ht1 hb1
  go_wp2_with (at_builtin; refine Lib.wpList_append_own_string _ rfl _ _ 153 9 rfl B 5 i0 Tryz.underlying153 Tryz.underlying9 hi' hz0 hz1 hz2 v _ _ rfl HO1.out (bstr s) rfl (by have := HLen.out; unfold maxLen; omega) (by have := HLen.out; omega) HBs.out ?_; intro v' w2 hown hgrow _; have HOw := Lib.hid hown; have HGr := Lib.hid hgrow; have hb2 : w2.heap[b]? = some (.cells #[.pointer (some ⟨b, 0, none⟩), v] 155 (0, 0)) := (hgrow.block b (Array.getElem?_eq_some_iff.1 HB1.out).1 (fun e => HBd.out.ne e.symm)).trans HB1.out; have d0 : w2.cell? ⟨b, 0, none⟩ = some (.pointer (some ⟨b, 0, none⟩)) := (by rw [Lib.cell_of_heap hb2]; rfl); have d1 : w2.cell? ⟨b, 1, none⟩ = some v := (by rw [Lib.cell_of_heap hb2]; rfl); have f1 : w2.frozen? ⟨b, 1, none⟩ = false := Lib.frozen_of_heap hb2 1; clear hown hgrow hb2; obtain ⟨ao, n', cap, rfl⟩ : ∃ ao n' cap, v' = .slice ao n' cap := (by rcases HOw.out.2 with ⟨hv, _⟩ | ⟨g, cap, cur, hv, _⟩ <;> exact ⟨_, _, _, hv⟩))
  have := HP.out (.slice ao n' cap) w1 w2 HT1.out HB1.out (by rw [HE.out, ← HE.out, HEl.out, HE.out]; exact HOw.out) HGr.out
  rw [← HSs.out] at this
  exact this

set_option maxHeartbeats 2000000 in
set_option maxRecDepth 20000 in
theorem bbyteT_any {B b : Nat} {v : Value} {l : List UInt8} {w : World} (h : Bdr B b v l w) (c : UInt8) (x : Int) (hx : x = (c.toNat : Int)) (hlen : l.length + 1 ≤ 1000000000000) (hB : B ≤ w.heap.size) :
    Calls Tryz.prog 94 #[.pointer (some ⟨b, 0, none⟩), .int .u8 x] w (BdGo B b v (l ++ [c]) .nilIface w) := by
  obtain ⟨i0, hi, hz0, hz1, hz2⟩ := info_parts extraB.infoByte
  have hi' : Tryz.prog.info? 5 = some i0 := hi
  have HP := Lib.hid (fun (v' : Value) (w1 wa w2 : World) (h1 : Touch [b] w w1) (h2 : w1.heap[b]? = some (.cells #[.pointer (some ⟨b, 0, none⟩), v] 155 (0, 0))) (h3 : w2.ownsRow B 5 1 v' (Lib.byteCells (l ++ [c])).length (Lib.byteCells (l ++ [c]))) (h5 : Below w1.heap.size w1 wa) (h4 : wa.grownBy w2 v.ownBlock) => bdGo_end (r := .nilIface) h h1 h2 h3 h5 h4)
  generalize BdGo B b v (l ++ [c]) .nilIface w = Post at *
  have HBd := Lib.hid h
  have HCc := Lib.hid (bdr_copy h)
  have hcl : (Lib.byteCells l).length = l.length := Lib.byteCells_length l
  have HE : Hid (Lib.byteCells (l ++ [c]) = Lib.byteCells l ++ [.int .u8 x]) := Lib.hid (by rw [hx]; simp [Lib.byteCells])
  have HEl : Hid ((Lib.byteCells (l ++ [c])).length = (Lib.byteCells l).length + 1) := Lib.hid (by rw [Lib.byteCells_length, hcl, List.length_append]; rfl)
  have HLen : Hid ((Lib.byteCells l).length + 1 ≤ 1000000000000) := Lib.hid (by rw [hcl]; exact hlen)
  clear h hcl hx
  go_enter Tryz.func94, Tryz.ntmps94
  go_wp2_with fail
  refine HCc.out.mono ?_
  rintro e w1 ⟨rfl, ht1, hb1⟩
  have HT1 := Lib.hid ht1
  have HB1 := Lib.hid hb1
  have c1 : w1.cell? ⟨b, 1, none⟩ = some v := by rw [Lib.cell_of_heap hb1]; rfl
  have HO1 : Hid (w1.ownsRow B 5 1 v (Lib.byteCells l).length (Lib.byteCells l)) := Lib.hid (ownsRow_keep HBd.out.own (fun k hk => ht1.block k (HBd.out.mem (bdL_mem.2 (.inr hk))).2 (fun hm => by simp at hm; subst hm; exact HBd.out.ne hk)))
  have HBs : Hid (B ≤ w1.heap.size) := Lib.hid (Nat.le_trans hB ht1.size)
  clear ht1 hb1
  go_wp2_with (at_builtin; refine wpList_append_own _ rfl _ _ 153 rfl B 5 i0 (.int .u8 0) 1 1 Tryz.underlying153 hi' hz0 hz1 hz2 rfl (by decide) v _ _ rfl (HO1.out.alloc _) ⟨w1.heap.size, 0, none⟩ 1 1 [.int .u8 x] rfl rfl (by intro j u hj; match j, hj with | 0, hj => (simp at hj; subst hj; simp [Addr.add])) (by intro u hu; simp at hu; subst hu; rfl) (by have := HLen.out; unfold maxLen; omega) (by have := HLen.out; omega) (by have := HBs.out; simp; omega) ?_; intro v' w2 hown hgrow _; have HOw := Lib.hid hown; have HGr := Lib.hid hgrow; have hb2 : w2.heap[b]? = some (.cells #[.pointer (some ⟨b, 0, none⟩), v] 155 (0, 0)) := ((hgrow.block b (by have := (Array.getElem?_eq_some_iff.1 HB1.out).1; simp; omega) (fun e => HBd.out.ne e.symm)).trans (Lib.alloc_old w1 _ b (Array.getElem?_eq_some_iff.1 HB1.out).1)).trans HB1.out; have d0 : w2.cell? ⟨b, 0, none⟩ = some (.pointer (some ⟨b, 0, none⟩)) := (by rw [Lib.cell_of_heap hb2]; rfl); have d1 : w2.cell? ⟨b, 1, none⟩ = some v := (by rw [Lib.cell_of_heap hb2]; rfl); have f1 : w2.frozen? ⟨b, 1, none⟩ = false := Lib.frozen_of_heap hb2 1; clear hown hgrow hb2; obtain ⟨ao, n', cap, rfl⟩ : ∃ ao n' cap, v' = .slice ao n' cap := (by rcases HOw.out.2 with ⟨hv, _⟩ | ⟨g, cap, cur, hv, _⟩ <;> exact ⟨_, _, _, hv⟩))
  exact HP.out (.slice ao n' cap) w1 _ w2 HT1.out HB1.out (by rw [HEl.out, HE.out]; exact HOw.out) (below_alloc w1 _) HGr.out

end Go.Proofs.YtfedgcdkagngnaaGreat

namespace Go.Proofs.YtfedgcdkagngnaaGreat
open Go.RowKit Go.Maps
set_option linter.unusedVariables false
open Go.Lib (decDigits itoa nDigits)

theorem OwnI.rowBlk {w : World} {v : Value} {xs : List Nat} (h : OwnI w v xs) {b : Nat} (hb : rowOf v = some b) : ∃ cs, w.heap[b]? = some (.cells cs 3 (0, 0)) := by
  rcases h with h | ⟨a, rfl, rfl⟩
  · rcases h.2 with ⟨rfl, h0⟩ | ⟨g, cap, cur, rfl, hb', hg, h1, h2, h3, h4⟩
    · cases hb
    · have hb2 : (if cap = 0 then none else some g) = some b := hb
      by_cases hc : cap = 0
      · rw [if_pos hc] at hb2; cases hb2
      · rw [if_neg hc] at hb2
        have : g = b := by simpa using hb2
        subst this
        exact ⟨cur, hg⟩
  · have hb2 : (if (0 : Nat) = 0 then none else some a.block) = some b := hb
    rw [if_pos rfl] at hb2; cases hb2
theorem IMap.blk {P : Program} {k : TypeId} {w : World} {b n : Nat} {M : Int → Option Int} (h : IMap P k w b n M) : ∃ es clock, w.heap[b]? = some (.map es clock) := by
  obtain ⟨D, ⟨es, clock, hb, _⟩, _⟩ := h; exact ⟨es, clock, hb⟩

structure GMem (q : Nat) (w : World) (ba bn bo mp : Nat) (A : AF) (v : Value) (o : List Nat) : Prop where
  la : q ≤ ba
  ln : q ≤ bn
  lo : q ≤ bo
  lm : q ≤ mp
  lr : ∀ b, rowOf v = some b → q ≤ b
  ca : w.heap[ba]? = some (.cells #[valloc A] 24 (0, 0))
  cn : w.heap[bn]? = some (.cells #[.map (some mp)] 84 (0, 0))
  co : w.heap[bo]? = some (.cells #[v] 26 (0, 0))
  own : OwnI w v o
  map : IMap Tryz.prog 3 w mp o.length (ordM o)
def gL (bo mp : Nat) (v : Value) : List Nat := bo :: mp :: (rowOf v).toList
theorem gL_mem {bo mp k : Nat} {v : Value} : k ∈ gL bo mp v ↔ k = bo ∨ k = mp ∨ rowOf v = some k := by
  unfold gL
  cases rowOf v with
  | none => simp
  | some g =>
    simp
    exact ⟨fun h => h.elim .inl (fun h => .inr (h.elim .inl (fun h => .inr h.symm))), fun h => h.elim .inl (fun h => .inr (h.elim .inl (fun h => .inr h.symm)))⟩

section
variable {q ba bn bo mp : Nat} {A : AF} {v : Value} {o : List Nat} {w w' : World}
theorem GMem.blk (h : GMem q w ba bn bo mp A v o) {k : Nat} (hk : k = ba ∨ k = bn ∨ k ∈ gL bo mp v) : (∃ cs t, w.heap[k]? = some (.cells cs t (0, 0)) ∧ (t = 24 ∨ t = 84 ∨ t = 26 ∨ t = 3)) ∨ ∃ es clock, w.heap[k]? = some (.map es clock) := by
  rcases hk with rfl | rfl | hk
  · exact .inl ⟨_, _, h.ca, .inl rfl⟩
  · exact .inl ⟨_, _, h.cn, .inr (.inl rfl)⟩
  · rcases gL_mem.1 hk with rfl | rfl | hk
    · exact .inl ⟨_, _, h.co, .inr (.inr (.inl rfl))⟩
    · exact .inr h.map.blk
    · obtain ⟨cs, hc⟩ := h.own.rowBlk hk
      exact .inl ⟨cs, _, hc, .inr (.inr (.inr rfl))⟩
theorem GMem.lt (h : GMem q w ba bn bo mp A v o) {k : Nat} (hk : k = ba ∨ k = bn ∨ k ∈ gL bo mp v) : k < w.heap.size := by
  rcases h.blk hk with ⟨cs, t, h, _⟩ | ⟨es, c, h⟩
  · exact (Array.getElem?_eq_some_iff.1 h).1
  · exact (Array.getElem?_eq_some_iff.1 h).1
theorem GMem.above (h : GMem q w ba bn bo mp A v o) {k : Nat} (hk : k ∈ gL bo mp v) : q ≤ k := by
  rcases gL_mem.1 hk with rfl | rfl | hk
  · exact h.lo
  · exact h.lm
  · exact h.lr k hk
theorem GMem.keep (h : GMem q w ba bn bo mp A v o) (hk : ∀ k, k = ba ∨ k = bn ∨ k ∈ gL bo mp v → w'.heap[k]? = w.heap[k]?) : GMem q w' ba bn bo mp A v o :=
  ⟨h.la, h.ln, h.lo, h.lm, h.lr, (hk ba (.inl rfl)).trans h.ca, (hk bn (.inr (.inl rfl))).trans h.cn, (hk bo (.inr (.inr (gL_mem.2 (.inl rfl))))).trans h.co,
    h.own.keep (fun b hb => hk b (.inr (.inr (gL_mem.2 (.inr (.inr hb)))))), h.map.block (hk mp (.inr (.inr (gL_mem.2 (.inr (.inl rfl))))))⟩
theorem GMem.later (h : GMem q w ba bn bo mp A v o) (hb : Below w.heap.size w w') : GMem q w' ba bn bo mp A v o := h.keep (fun k hk => hb.block k (h.lt hk))
theorem GMem.apart (h : GMem q w ba bn bo mp A v o) {B b : Nat} {vb : Value} {l : List UInt8} (hd : Bdr B b vb l w) {k : Nat} (hk : k = ba ∨ k = bn ∨ k ∈ gL bo mp v) : k ∉ bdL b vb := by
  intro hm
  have hbd : ∃ cs t, w.heap[k]? = some (.cells cs t (0, 0)) ∧ (t = 155 ∨ t = 5) := by
    rcases bdL_mem.1 hm with rfl | e
    · obtain ⟨cs, h1⟩ := hd.block; exact ⟨cs, _, h1, .inl rfl⟩
    · obtain ⟨_, cs, h1⟩ := hd.row e; exact ⟨cs, _, h1, .inr rfl⟩
  obtain ⟨cs, t, h1, h2⟩ := hbd
  rcases h.blk hk with ⟨cs', t', h3, h4⟩ | ⟨es, c, h3⟩
  · rw [h1] at h3
    simp only [Option.some.injEq, Obj.cells.injEq] at h3
    have e := h3.2.1
    rcases h2 with rfl | rfl <;> rcases h4 with rfl | rfl | rfl | rfl <;> exact absurd e (by decide)
  · rw [h1] at h3; simp at h3
theorem GMem.bd (h : GMem q w ba bn bo mp A v o) {B b : Nat} {vb : Value} {l : List UInt8} (hd : Bdr B b vb l w) (ht : Touch (bdL b vb) w w') : GMem q w' ba bn bo mp A v o :=
  h.keep (fun k hk => ht.block k (h.lt hk) (h.apart hd hk))
theorem Bdr.gm {B b : Nat} {vb : Value} {l : List UInt8} (hd : Bdr B b vb l w) (h : GMem q w ba bn bo mp A v o) (ht : Touch (gL bo mp v) w w') : Bdr B b vb l w' :=
  hd.off ht (fun _ hk => h.apart hd (.inr (.inr hk)))
theorem GMem.add (h : GMem q w ba bn bo mp A v o) {x : Nat} (hx : x ∉ o) {w1 wa w2 : World} {v2 : Value} (h1 : IMap Tryz.prog 3 w1 mp (o.length + 1) (fun z => if z = (x : Int) then some ((o.length : Nat) : Int) else ordM o z)) (g1 : w.grownBy w1 (some mp))
    (hb : Below w1.heap.size w1 wa) (h2 : OwnI w2 v2 (o ++ [x])) (g2 : wa.grownBy w2 (rowOf v)) (hr : ∀ b, rowOf v2 = some b → rowOf v = some b ∨ b = wa.heap.size) :
    GMem q (w2.setCell ⟨bo, 0, none⟩ v2) ba bn bo mp A v2 (o ++ [x]) ∧ Touch (gL bo mp v) w (w2.setCell ⟨bo, 0, none⟩ v2) := by
  have hs1 := g1.size
  have hs2 := hb.size
  have hs3 := g2.size
  have tt : Touch (gL bo mp v) w w2 := ⟨(g2.os.trans hb.os).trans g1.os, (g2.tape.trans hb.tape).trans g1.tape, (g2.output.trans hb.output).trans g1.output, by omega, fun k hk hn =>
    ((g2.block k (by omega) (fun e => hn (gL_mem.2 (.inr (.inr e.symm))))).trans (hb.block k (by omega))).trans (g1.block k hk (fun e => hn (gL_mem.2 (.inr (.inl (by injection e))))))⟩
  have key : ∀ (k : Nat) (cs : Array Value) (t : TypeId), w.heap[k]? = some (Obj.cells cs t (0, 0)) → t ≠ 3 → w2.heap[k]? = some (Obj.cells cs t (0, 0)) := fun k cs t hk ht => by
    have hlt := (Array.getElem?_eq_some_iff.1 hk).1
    refine (((g2.block k (by omega) (fun e => ?_)).trans (hb.block k (by omega))).trans (g1.block k hlt (fun e => ?_))).trans hk
    · obtain ⟨cs', hc⟩ := h.own.rowBlk e.symm
      rw [hc] at hk
      simp only [Option.some.injEq, Obj.cells.injEq] at hk
      exact ht hk.2.1.symm
    · obtain ⟨es, c, hc⟩ := h.map.blk
      have : k = mp := by injection e
      subst this
      rw [hc] at hk; simp at hk
  have kco := key bo _ _ h.co (by decide)
  have nbo : ∀ (k : Nat) (cs : Array Value) (t : TypeId), w2.heap[k]? = some (Obj.cells cs t (0, 0)) → t ≠ 26 → (w2.setCell ⟨bo, 0, none⟩ v2).heap[k]? = some (.cells cs t (0, 0)) := fun k cs t hk ht => by
    refine (Below.heap_setCell _ _ _ _ (fun e => ?_)).trans hk
    have e' : k = bo := e
    subst e'
    rw [kco] at hk
    simp only [Option.some.injEq, Obj.cells.injEq] at hk
    exact ht hk.2.1.symm
  refine ⟨⟨h.la, h.ln, h.lo, h.lm, fun b hb' => ?_, nbo _ _ _ (key _ _ _ h.ca (by decide)) (by decide), nbo _ _ _ (key _ _ _ h.cn (by decide)) (by decide), ?_, ?_, ?_⟩, tt.trans (Touch.setCell ⟨bo, 0, none⟩ (gL_mem.2 (.inl rfl)) _)⟩
  · rcases hr b hb' with c | c
    · exact h.lr b c
    · have h3 := h.lo
      have h4 := h.lt (k := bo) (.inr (.inr (gL_mem.2 (.inl rfl))))
      omega
  · simp [World.setCell, Array.getElem?_modify, kco]
  · refine h2.keep (fun b hb' => Below.heap_setCell _ _ _ _ (fun e => ?_))
    have e' : b = bo := e
    subst e'
    obtain ⟨cs, hc⟩ := h2.rowBlk hb'
    rw [kco] at hc
    simp only [Option.some.injEq, Obj.cells.injEq] at hc
    exact absurd hc.2.1 (by decide)
  · have hl : (o ++ [x]).length = o.length + 1 := by simp
    rw [hl, ← ordM_add hx]
    refine h1.block ?_
    obtain ⟨es, c, hc⟩ := h1.blk
    have hlt := (Array.getElem?_eq_some_iff.1 hc).1
    refine (Below.heap_setCell _ _ _ _ (fun e => ?_)).trans ((g2.block mp (by omega) (fun e => ?_)).trans (hb.block mp hlt))
    · have e' : mp = bo := e
      obtain ⟨es2, c2, hc2⟩ := h.map.blk
      rw [e', h.co] at hc2; simp at hc2
    · obtain ⟨cs', hc'⟩ := h.own.rowBlk e.symm
      obtain ⟨es2, c2, hc2⟩ := h.map.blk
      rw [hc'] at hc2; simp at hc2
end
end Go.Proofs.YtfedgcdkagngnaaGreat

namespace Go.Proofs.YtfedgcdkagngnaaGreat
open Go.RowKit Go.Maps
set_option linter.unusedVariables false
open Go.Lib (decDigits itoa nDigits)

section
variable {q ba bn bo mp : Nat} {A : AF} {v : Value} {o : List Nat} {w : World}
theorem GMem.g1 (h : GMem q w ba bn bo mp A v o) {w1 : World} (g1 : w.grownBy w1 (some mp)) : OwnI w1 v o ∧ w1.heap[bo]? = some (.cells #[v] 26 (0, 0)) := by
  obtain ⟨es, c, hc⟩ := h.map.blk
  refine ⟨h.own.keep (fun b hb => g1.block b (h.own.lt b hb) (fun e => ?_)), (g1.block bo (h.lt (.inr (.inr (gL_mem.2 (.inl rfl))))) (fun e => ?_)).trans h.co⟩
  · obtain ⟨cs, h1⟩ := h.own.rowBlk hb
    have : b = mp := by injection e
    subst this
    rw [hc] at h1; simp at h1
  · have : bo = mp := by injection e
    have h1 := h.co
    rw [this, hc] at h1; simp at h1
theorem GMem.g2 (h : GMem q w ba bn bo mp A v o) {w1 wa w2 : World} (g1 : w.grownBy w1 (some mp)) (hb : Below w1.heap.size w1 wa) (g2 : wa.grownBy w2 (rowOf v)) : w2.heap[bo]? = some (.cells #[v] 26 (0, 0)) := by
  have h1 := (h.g1 g1).2
  have hlt := (Array.getElem?_eq_some_iff.1 h1).1
  refine ((g2.block bo (Nat.lt_of_lt_of_le hlt hb.size) (fun e => ?_)).trans (hb.block bo hlt)).trans h1
  obtain ⟨cs, hc⟩ := h.own.rowBlk e.symm
  have := h.co
  rw [hc] at this
  simp only [Option.some.injEq, Obj.cells.injEq] at this
  exact absurd this.2.1 (by decide)
end

def VisPost (q ba bn bo mp : Nat) (A : AF) (v : Value) (o : List Nat) (U : List Bool) (x : Nat) (w : World) : Ending → World → Prop := fun e w' =>
  e = .returned (strV (gTx U o x)) ∧ Touch (gL bo mp v) w w' ∧ ∃ v', GMem q w' ba bn bo mp A v' (gNm U o x)

set_option maxHeartbeats 4000000 in
set_option maxRecDepth 20000 in
theorem gvisit_any {q ba bn bo mp : Nat} {A : AF} {v : Value} {o : List Nat} {w : World} {n B : Nat} {m : Al} (h : GMem q w ba bn bo mp A v o) (ha : AlAt w A n B m) (hol : o.length ≤ 1000000) (x : Nat) (hx : x ≤ 1099511627776) :
    Calls Tryz.prog 119 #[.int .i64 (x : Int), .pointer (some ⟨ba, 0, none⟩), .pointer (some ⟨bn, 0, none⟩), .pointer (some ⟨bo, 0, none⟩)] w (VisPost q ba bn bo mp A v o m.used x w) := by
  have HA := Lib.hid ha
  have HG := Lib.hid h
  have HUs := Lib.hid (aused_any ha (x : Int))
  rw [hasI_nat] at HUs
  have HWx : Hid ((Lit.int .i64 (x : Int)).wf = true) := Lib.hid (by simp [Lit.wf, IntKind.min, IntKind.max, IntKind.bits, IntKind.signed]; omega)
  have ca : w.cell? ⟨ba, 0, none⟩ = some (valloc A) := by rw [Lib.cell_of_heap h.ca]; rfl
  have cn : w.cell? ⟨bn, 0, none⟩ = some (.map (some mp)) := by rw [Lib.cell_of_heap h.cn]; rfl
  have co : w.cell? ⟨bo, 0, none⟩ = some v := by rw [Lib.cell_of_heap h.co]; rfl
  cases hU : m.used.getD x false with
  | false =>
    have HPo : Hid (VisPost q ba bn bo mp A v o m.used x w (.returned (.string { data := #[45] })) w) := Lib.hid ⟨by unfold gTx; rw [hU]; rfl, Touch.refl _ _, v, by unfold gNm; rw [if_neg (by rw [hU]; simp)]; exact h⟩
    generalize VisPost q ba bn bo mp A v o m.used x w = Post at *
    rw [hU] at HUs
    clear h ha hU
    go_enter Tryz.func119, Tryz.ntmps119
    go_wp2_with fail
    refine HUs.out.mono ?_
    rintro e w1 ⟨rfl, rfl⟩
    go_wp2_with fail
    exact HPo.out
  | true =>
    have HPo : Hid (∀ w' v', Touch (gL bo mp v) w w' → GMem q w' ba bn bo mp A v' (gNm m.used o x) → VisPost q ba bn bo mp A v o m.used x w (.returned (strV (itoa ((o.idxOf x : Nat) : Int)))) w') := Lib.hid (fun w' v' h1 h2 => ⟨by unfold gTx; rw [hU]; rfl, h1, v', h2⟩)
    generalize VisPost q ba bn bo mp A v o m.used x w = Post at *
    rw [hU] at HUs
    have hix : o.idxOf x ≤ o.length := List.idxOf_le_length
    by_cases hin : x ∈ o
    · have HNm : Hid (gNm m.used o x = o) := Lib.hid (by unfold gNm; rw [if_neg (fun hc => hc.2 hin)])
      have HMx := Lib.hid (ordM_in hin)
      have HNb := Lib.hid (fun w => dnumber_any ((o.idxOf x : Nat) : Int) (by constructor <;> omega) w)
      generalize o.idxOf x = i at *
      generalize itoa (i : Int) = T at *
      clear h ha hU hin
      go_enter Tryz.func119, Tryz.ntmps119
      go_wp2_with fail
      refine HUs.out.mono ?_
      rintro e w1 ⟨rfl, rfl⟩
      go_wp2_with (refine wpList_ilook_ok rfl _ _ 84 rfl 3 Tryz.underlying3 Tryz.underlying84 (by kernel_rfl) mp o.length (ordM o) rfl HG.out.map (x : Int) rfl HWx.out ?_; rw [HMx.out]; simp only [Option.getD_some, Option.isSome_some])
      refine (HNb.out _).mono ?_
      rintro e w2 ⟨rfl, hb2⟩
      have HE := Lib.hid (HPo.out w2 v (Touch.ofBelow hb2) (by rw [HNm.out]; exact HG.out.later hb2))
      clear hb2
      go_wp2_with fail
      exact HE.out
    · have HNm : Hid (gNm m.used o x = o ++ [x]) := Lib.hid (by unfold gNm; rw [if_pos ⟨hU, hin⟩])
      have HMx := Lib.hid (ordM_out hin)
      have HNin := Lib.hid hin
      rw [idxOf_self hin] at HPo
      obtain ⟨av, cv, rfl, _⟩ := h.own.cells
      obtain ⟨l, hl⟩ : ∃ l, l = o.length := ⟨_, rfl⟩
      have HL := Lib.hid hl
      have HG1 := Lib.hid (fun w1 (g : w.grownBy w1 (some mp)) => h.g1 g)
      have HG2 := Lib.hid (fun w1 wa w2 (g1 : w.grownBy w1 (some mp)) (hb : Below w1.heap.size w1 wa) (g2 : wa.grownBy w2 (rowOf (.slice av o.length cv))) => h.g2 g1 hb g2)
      have HAd := Lib.hid (fun w1 wa w2 v2 h1 g1 hb h2 g2 hr => h.add hin (w1 := w1) (wa := wa) (w2 := w2) (v2 := v2) h1 g1 hb h2 g2 hr)
      rw [← hl] at hol co HG1 HG2 HAd HPo HG
      have hl60 : (l : Int) ≤ 1000000 := by omega
      have HNb := Lib.hid (fun w => dnumber_any (l : Int) (by constructor <;> omega) w)
      have HWl : Hid ((Lit.int .i64 (l : Int)).wf = true) := Lib.hid (by simp [Lit.wf, IntKind.min, IntKind.max, IntKind.bits, IntKind.signed]; omega)
      generalize itoa (l : Int) = T at *
      clear h ha hU hin hix hl
      go_enter Tryz.func119, Tryz.ntmps119
      go_wp2_with fail
      refine HUs.out.mono ?_
      rintro e w1 ⟨rfl, rfl⟩
      go_wp2_with (first
        | (refine wpList_ilook_ok rfl _ _ 84 rfl 3 Tryz.underlying3 Tryz.underlying84 (by kernel_rfl) mp l (ordM o) rfl (by rw [HL.out]; exact HG.out.map) (x : Int) rfl HWx.out ?_; rw [HMx.out]; simp only [Option.getD_none, Option.isSome_none])
        | (refine wpList_istore rfl _ _ _ 84 rfl 3 Tryz.underlying3 Tryz.underlying84 mp l (ordM o) rfl (by rw [HL.out]; exact HG.out.map) (by unfold maxLen; omega) (x : Int) (l : Int) rfl HWx.out rfl HWl.out ?_; intro w2 hi2 hg2; have HI2 := Lib.hid hi2; have HG3 := Lib.hid hg2; have HO2 := Lib.hid (HG1.out w2 hg2).1; have c2 : w2.cell? ⟨bo, 0, none⟩ = some (.slice av l cv) := (by rw [Lib.cell_of_heap (HG1.out w2 hg2).2]; rfl); clear hi2 hg2)
        | (at_builtin; refine wpList_append_ownI (ys := [x]) (m := 1) (HO2.out.keep (fun b hb => (below_alloc _ _).block b (HO2.out.lt b hb))) (RowAt.cells ⟨_, heap_alloc_new _ _, [], rfl⟩) rfl (by rw [← HL.out]; omega) rfl rfl rfl rfl ?_; intro v4 w4 ho4 hg4 hr4; have HO4 := Lib.hid ho4; have HG4 := Lib.hid hg4; have HR4 := Lib.hid hr4; have hb4 := HG2.out w2 _ w4 HG3.out (below_alloc w2 _) hg4; have d4 : w4.cell? ⟨bo, 0, none⟩ = some (.slice av l cv) := (by rw [Lib.cell_of_heap hb4]; rfl); have f4 : w4.frozen? ⟨bo, 0, none⟩ = false := Lib.frozen_of_heap hb4 0; clear ho4 hg4 hr4 hb4; obtain ⟨a4, c4, e4, _⟩ := HO4.out.cells; obtain ⟨l4, hl4⟩ : ∃ l4, l4 = (o ++ [x]).length := ⟨_, rfl⟩; rw [← hl4] at e4; clear hl4; subst e4))
      refine (HNb.out _).mono ?_
      rintro e w5 ⟨rfl, hb5⟩
      have HAdd := HAd.out w2 _ w4 _ HI2.out HG3.out (below_alloc w2 _) HO4.out HG4.out HR4.out
      have HE := Lib.hid (HPo.out w5 _ (HAdd.2.later hb5) (by rw [HNm.out]; exact HAdd.1.later hb5))
      clear hb5 HAdd
      go_wp2_with fail
      exact HE.out
end Go.Proofs.YtfedgcdkagngnaaGreat
