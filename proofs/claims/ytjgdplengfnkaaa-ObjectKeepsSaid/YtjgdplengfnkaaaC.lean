/- bits.Bytes and the reference's Bytes: words as bytes. -/
import Derived.Test.YtjgdplengfnkaaaB
namespace Go.Proofs.Ytjgdplengfnkaaa
open Go.RowKit
set_option linter.unusedVariables false

theorem byte_val (x t : Nat) (ht : t < 8) : (x : Int) / 2 ^ (8 * t) % 256 = (((bytes8 x).getD t 0 : Nat) : Int) := by
  have c : t = 0 ∨ t = 1 ∨ t = 2 ∨ t = 3 ∨ t = 4 ∨ t = 5 ∨ t = 6 ∨ t = 7 := by omega
  rcases c with rfl | rfl | rfl | rfl | rfl | rfl | rfl | rfl <;> simp [bytes8]

theorem unpack_take (ws : List Nat) (k : Nat) (h : k < ws.length) : unpack (ws.take (k + 1)) = unpack (ws.take k) ++ bytes8 (ws.getD k 0) := by
  have e : ws.getD k 0 = ws[k] := by simp [h]
  rw [List.take_succ_eq_append_getElem h, e]
  unfold unpack
  rw [List.flatMap_append]
  simp

theorem bytes8_take (x t : Nat) (h : t < 8) : (bytes8 x).take (t + 1) = (bytes8 x).take t ++ [(bytes8 x).getD t 0] := by
  have c : t = 0 ∨ t = 1 ∨ t = 2 ∨ t = 3 ∨ t = 4 ∨ t = 5 ∨ t = 6 ∨ t = 7 := by omega
  rcases c with rfl | rfl | rfl | rfl | rfl | rfl | rfl | rfl <;> rfl

/-- What is written behind k words and t bytes of the next. -/
def unTo (ws : List Nat) (k t : Nat) : List Nat := unpack (ws.take k) ++ (bytes8 (ws.getD k 0)).take t
theorem unTo_zero (ws : List Nat) (k : Nat) : unTo ws k 0 = unpack (ws.take k) := by simp [unTo]
theorem unTo_eight (ws : List Nat) (k : Nat) (h : k < ws.length) : unTo ws k 8 = unTo ws (k + 1) 0 := by
  rw [unTo_zero, unpack_take ws k h]; rfl
theorem unTo_step (ws : List Nat) (k t : Nat) (h : t < 8) : unTo ws k (t + 1) = unTo ws k t ++ [(bytes8 (ws.getD k 0)).getD t 0] := by
  unfold unTo; rw [bytes8_take _ _ h, List.append_assoc]
theorem unTo_len (ws : List Nat) (k t : Nat) (hk : k ≤ ws.length) : (unTo ws k t).length ≤ 8 * ws.length + 8 := by
  unfold unTo
  rw [List.length_append, unpack_length, List.length_take, List.length_take]
  have : (bytes8 (ws.getD k 0)).length = 8 := rfl
  omega

theorem u8_lt (x t : Nat) : (bytes8 x).getD t 0 < 256 := by
  by_cases h : t < 8
  · have c : t = 0 ∨ t = 1 ∨ t = 2 ∨ t = 3 ∨ t = 4 ∨ t = 5 ∨ t = 6 ∨ t = 7 := by omega
    rcases c with rfl | rfl | rfl | rfl | rfl | rfl | rfl | rfl <;> (simp [bytes8]; omega)
  · rw [List.getD_eq_getElem?_getD, List.getElem?_eq_none (by show 8 ≤ t; omega)]; simp

set_option maxHeartbeats 400000 in
theorem bytes_any (a : Option Addr) {n : Nat} (cap : Nat) (ws : List Nat) (hn : ws.length = n) (w : World) (h : Cells w a (ws.map vu64)) (hz : ∀ z ∈ ws, z < 18446744073709551616) (hl : ws.length ≤ 1000000) :
    Calls Try.prog 110 #[.slice a n cap] w fun e w' => ∃ v, e = .returned v ∧ w'.ownsRow w.heap.size 5 1 v (unpack ws).length ((unpack ws).map vu8) ∧ Below w.heap.size w w' := by
  subst hn
  have HZ := Lib.hid hz
  clear hz
  go_enter Try.func110, Try.ntmps110
  go_wp2_with (at_make; refine wpList_make_cap el8 w.heap.size (8 * ws.length) (by omega) (by omega) (by decide) (Nat.le_refl _) rfl rfl rfl rfl ?_; intro w1 hown hgrow)
  go_loopw [3, 13] (fun v i wr => ∃ k : Nat, k ≤ ws.length ∧ i = .int .i64 k ∧ wr.ownsRow w.heap.size 5 1 v (unTo ws k 0).length ((unTo ws k 0).map vu8) ∧ Below w.heap.size w wr)
    (fun _ i _ => ws.length - (intOf i).toNat)
  case atStart => exact ⟨0, Nat.zero_le _, rfl, hown, below_grown hgrow (Nat.le_refl _)⟩
  case round =>
    obtain ⟨k, hk, rfl, ho, hb⟩ := hrel
    by_cases hlt : k < ws.length
    · obtain ⟨b, off, rfl, hbs, hc⟩ := h.atMap 0 hlt
      have hcell : wr.cell? ⟨b, off + k, none⟩ = some (.int .u64 (ws.getD k 0 : Nat)) := by rw [hb.cell (p := ⟨b, off + k, none⟩) hbs]; exact hc k hlt
      obtain ⟨x, hx⟩ : ∃ x, x = ws.getD k 0 := ⟨_, rfl⟩
      rw [← hx] at hcell
      have HX := Lib.hid hx
      clear hc hx
      go_wp2
      obtain ⟨wo, rfl⟩ : ∃ wo : World, wo = wr := ⟨_, rfl⟩
      go_loopw [3, 17] (fun v i wr => ∃ t : Nat, t ≤ 8 ∧ i = .int .i64 t ∧ wr.ownsRow w.heap.size 5 1 v (unTo ws k t).length ((unTo ws k t).map vu8) ∧ Below w.heap.size w wr)
        (fun _ i _ => 8 - (intOf i).toNat)
      case atStart => exact ⟨0, by omega, rfl, ho, hb⟩
      case round =>
        clear ho hb
        obtain ⟨t, ht, rfl, ho, hb⟩ := hrel
        by_cases hlt8 : t < 8
        · have HB := Lib.hid (byte_val x t hlt8)
          have HS := Lib.hid (unTo_step ws k t hlt8)
          have hln := unTo_len ws k t hk
          go_wp2_with (at_builtin; refine wpList_append_one el8 ho rfl (by omega) (by decide) hb.size rfl rfl rfl rfl ?_; intro v' w2 ho2 hg2 _)
          have hb2 := below_grownBy hb ho hg2 (Nat.le_refl _) (Nat.le_refl _)
          rw [HB.out, HX.out] at ho2
          have ho3 : w2.ownsRow w.heap.size 5 1 v' (unTo ws k (t + 1)).length ((unTo ws k (t + 1)).map vu8) := by
            rw [HS.out, List.map_append, List.length_append]; exact ho2
          clear ho2 ho hg2 hb
          go_wp2
          go_roundw
          case rel => exact ⟨t + 1, by omega, by go_num, ho3, hb2⟩
          case measure => simp [intOf]; omega
        · obtain rfl : t = 8 := by omega
          go_wp2
          go_roundw
          case rel => exact ⟨k + 1, by omega, by go_num, by rw [← unTo_eight ws k hlt]; exact ho, hb⟩
          case measure => simp [intOf]; omega
    · go_wp2
      go_ret
      have he : k = ws.length := by omega
      subst he
      rw [unTo_zero, List.take_length] at ho
      exact ⟨_, rfl, ho, hb⟩

end Go.Proofs.Ytjgdplengfnkaaa
