/- The reference's Bytes and Words. -/
import Derived.Test.YtjgdplengfnkaaaC
import Derived.Deep.QuietTactic
import Derived.BigQuiet
namespace Go.Proofs.Ytjgdplengfnkaaa
open Go.RowKit
set_option linter.unusedVariables false

theorem byte_quo (x t : Nat) (ht : t < 8) : x / 256 ^ t % 256 = (bytes8 x).getD t 0 := by
  have c : t = 0 ∨ t = 1 ∨ t = 2 ∨ t = 3 ∨ t = 4 ∨ t = 5 ∨ t = 6 ∨ t = 7 := by omega
  rcases c with rfl | rfl | rfl | rfl | rfl | rfl | rfl | rfl <;> simp [bytes8]

theorem quo_lt (x t : Nat) (h : x < 18446744073709551616) : x / 256 ^ t < 18446744073709551616 := Nat.lt_of_le_of_lt (Nat.div_le_self _ _) h

theorem quo_succ (x t : Nat) : x / 256 ^ t / 256 = x / 256 ^ (t + 1) := by rw [Nat.div_div_eq_div_mul, Nat.pow_succ]

theorem getD64 {ws : List Nat} (h : ∀ z ∈ ws, z < 18446744073709551616) (i : Nat) : ws.getD i 0 < 18446744073709551616 := by
  rw [List.getD_eq_getElem?_getD]
  by_cases c : i < ws.length
  · rw [List.getElem?_eq_getElem c]; exact h _ (List.getElem_mem c)
  · rw [List.getElem?_eq_none (by omega)]; simp

set_option maxHeartbeats 400000 in
theorem rbytes_any (a : Option Addr) {n : Nat} (cap : Nat) (ws : List Nat) (hn : ws.length = n) (w : World) (h : Cells w a (ws.map vu64)) (hz : ∀ z ∈ ws, z < 18446744073709551616) (hl : ws.length ≤ 1000000) :
    Calls Try.prog 112 #[.slice a n cap] w fun e w' => ∃ v, e = .returned v ∧ w'.ownsRow w.heap.size 5 1 v (unpack ws).length ((unpack ws).map vu8) ∧ Below w.heap.size w w' := by
  subst hn
  have HZ := Lib.hid hz
  clear hz
  go_enter Try.func112, Try.ntmps112
  go_wp2
  go_loopw [3, 4] (fun v i wr => ∃ k : Nat, k ≤ ws.length ∧ i = .int .i64 k ∧ wr.ownsRow w.heap.size 5 1 v (unTo ws k 0).length ((unTo ws k 0).map vu8) ∧ Below w.heap.size w wr)
    (fun _ i _ => ws.length - (intOf i).toNat)
  case atStart => exact ⟨0, Nat.zero_le _, rfl, World.ownsRow_nil _ _ _ _, Below.refl _ _⟩
  case round =>
    obtain ⟨k, hk, rfl, ho, hb⟩ := hrel
    by_cases hlt : k < ws.length
    · obtain ⟨b, off, rfl, hbs, hc⟩ := h.atMap 0 hlt
      have hcell : wr.cell? ⟨b, off + k, none⟩ = some (.int .u64 (ws.getD k 0 : Nat)) := by rw [hb.cell (p := ⟨b, off + k, none⟩) hbs]; exact hc k hlt
      have hx64 := getD64 HZ.out k
      obtain ⟨x, hx⟩ : ∃ x, x = ws.getD k 0 := ⟨_, rfl⟩
      rw [← hx] at hcell hx64
      have HX := Lib.hid hx
      clear hc hx
      go_wp2
      obtain ⟨wo, rfl⟩ : ∃ wo : World, wo = wr := ⟨_, rfl⟩
      go_loopw [3, 5, 6] (fun v y i wr => ∃ t : Nat, t ≤ 8 ∧ i = .int .i64 t ∧ y = .int .u64 (x / 256 ^ t : Nat) ∧ wr.ownsRow w.heap.size 5 1 v (unTo ws k t).length ((unTo ws k t).map vu8) ∧ Below w.heap.size w wr)
        (fun _ _ i _ => 8 - (intOf i).toNat)
      case atStart => exact ⟨0, by omega, rfl, by simp, ho, hb⟩
      case round =>
        clear ho hb
        obtain ⟨t, ht, rfl, rfl, ho, hb⟩ := hrel
        by_cases hlt8 : t < 8
        · have HB := Lib.hid (byte_quo x t hlt8)
          have HS := Lib.hid (unTo_step ws k t hlt8)
          have HQ := Lib.hid (quo_succ x t)
          have hy := quo_lt x t hx64
          generalize x / 256 ^ t = y at *
          have hln := unTo_len ws k t hk
          go_wp2_with (at_builtin; refine wpList_append_one el8 ho rfl (by omega) (by decide) hb.size rfl rfl rfl rfl ?_; intro v' w2 ho2 hg2 _)
          have hb2 := below_grownBy hb ho hg2 (Nat.le_refl _) (Nat.le_refl _)
          have ho3 : w2.ownsRow w.heap.size 5 1 v' (unTo ws k (t + 1)).length ((unTo ws k (t + 1)).map vu8) := by
            have e : ((y : Int) % 256) = (((bytes8 (ws.getD k 0)).getD t 0 : Nat) : Int) := by rw [← HX.out, ← HB.out]; omega
            rw [e] at ho2
            rw [HS.out, List.map_append, List.length_append]; exact ho2
          refine ⟨⟨t + 1, by omega, by go_num, ?_, ho3, hb2⟩, by simp [intOf]; omega⟩
          have := HQ.out
          congr 1
          omega
        · obtain rfl : t = 8 := by omega
          go_wp2
          go_roundw
          case rel => exact ⟨k + 1, by omega, by go_num, by rw [← unTo_eight ws k hlt]; exact ho, hb⟩
          case measure => simp [intOf]; omega
    · go_wp2
      go_ret
      have he : k = ws.length := by omega
      subst he
      rw [unTo_zero, List.take_length] at ho
      exact ⟨_, rfl, ho, hb⟩

/-- The word of the eight bytes from i on, gathered from the highest: behind t of them. -/
def hor (zs : List Nat) (i : Nat) : Nat → Nat
  | 0 => 0
  | t + 1 => hor zs i t * 256 + zs.getD (i + (7 - t)) 0

theorem hor_lt (zs : List Nat) (hz : ∀ z ∈ zs, z < 256) (i t : Nat) : hor zs i t < 256 ^ t := by
  induction t with
  | zero => simp [hor]
  | succ t ih => have := getD_lt zs hz (i + (7 - t)); rw [hor, Nat.pow_succ]; omega

theorem hor_small (zs : List Nat) (hz : ∀ z ∈ zs, z < 256) (i t : Nat) (ht : t < 8) : hor zs i t * 256 + 255 < 18446744073709551616 := by
  have h := hor_lt zs hz i t
  have h2 : 256 ^ t ≤ 256 ^ 7 := Nat.pow_le_pow_right (by decide) (by omega)
  have h3 : 256 ^ 7 = 72057594037927936 := by decide
  rw [h3] at h2
  omega

theorem hor_word (zs : List Nat) (j : Nat) : hor zs (8 * j) 8 = wordAt zs j := by
  simp only [hor, wordAt, Nat.sub_zero, Nat.reduceSub, Nat.add_zero]
  generalize zs.getD (8 * j + 1) 0 = x1
  generalize zs.getD (8 * j + 2) 0 = x2
  generalize zs.getD (8 * j + 3) 0 = x3
  generalize zs.getD (8 * j + 4) 0 = x4
  generalize zs.getD (8 * j + 5) 0 = x5
  generalize zs.getD (8 * j + 6) 0 = x6
  generalize zs.getD (8 * j + 7) 0 = x7
  omega

theorem packW_range (zs : List Nat) (k : Nat) : (List.range (k + 1)).map (wordAt zs) = (List.range k).map (wordAt zs) ++ [wordAt zs k] := by
  rw [List.range_succ, List.map_append]; rfl

theorem getD_ext {xs ys : List Nat} (hl : xs.length = ys.length) (h : ∀ i, i < xs.length → xs.getD i 0 = ys.getD i 0) : xs = ys := by
  apply List.ext_getElem hl
  intro i h1 h2
  have := h i h1
  rwa [List.getD_eq_getElem?_getD, List.getD_eq_getElem?_getD, List.getElem?_eq_getElem h1, List.getElem?_eq_getElem h2] at this

set_option maxHeartbeats 400000 in
theorem same_any (a b : Option Addr) {n m : Nat} (ca cb : Nat) (xs ys : List Nat) (hn : xs.length = n) (hm : ys.length = m) (w : World) (h : Cells w a (xs.map vu64)) (h' : Cells w b (ys.map vu64)) (hl : xs.length ≤ 1000000000) (hl' : ys.length ≤ 1000000000) :
    Calls Try.prog 48 #[.slice a n ca, .slice b m cb] w fun e w' => e = .returned (.bool (decide (xs = ys))) ∧ Below w.heap.size w w' := by
  subst hn
  subst hm
  by_cases hlen : xs.length = ys.length
  · have HL := Lib.hid hlen
    have hne : ((xs.length : Int) != (ys.length : Int)) = false := by simp [hlen]
    rw [← hlen] at hl' ⊢
    rw [← hlen] at hne
    clear hlen
    go_enter Try.func48, Try.ntmps48
    go_wp2
    go_loopw [5] (fun i wr => ∃ k : Nat, k ≤ xs.length ∧ i = .int .i64 k ∧ Hid (∀ j, j < k → xs.getD j 0 = ys.getD j 0) ∧ Below w.heap.size w wr) (fun i _ => xs.length - (intOf i).toNat)
    case atStart => exact ⟨0, by omega, rfl, Lib.hid (by intro j hj; omega), Below.refl _ _⟩
    case round =>
      obtain ⟨k, hk, rfl, hs, hb⟩ := hrel
      by_cases hlt : k < xs.length
      · obtain ⟨b1, off1, rfl, hbs1, hc1⟩ := h.atMap 0 hlt
        obtain ⟨b2, off2, rfl, hbs2, hc2⟩ := h'.atMap 0 (by rw [← HL.out]; exact hlt)
        have hcell1 : wr.cell? ⟨b1, off1 + k, none⟩ = some (.int .u64 (xs.getD k 0 : Nat)) := by rw [hb.cell (p := ⟨b1, off1 + k, none⟩) hbs1]; exact hc1 k hlt
        have hcell2 : wr.cell? ⟨b2, off2 + k, none⟩ = some (.int .u64 (ys.getD k 0 : Nat)) := by rw [hb.cell (p := ⟨b2, off2 + k, none⟩) hbs2]; exact hc2 k (by rw [← HL.out]; exact hlt)
        have hlt' : (k : Int) < (xs.length : Int) := by omega
        have hk0 : (0 : Int) ≤ (k : Int) := by omega
        clear hc1 hc2
        obtain ⟨x, hx⟩ : ∃ x, x = xs.getD k 0 := ⟨_, rfl⟩
        obtain ⟨y, hy⟩ : ∃ y, y = ys.getD k 0 := ⟨_, rfl⟩
        rw [← hx] at hcell1
        rw [← hy] at hcell2
        have HX := Lib.hid hx
        have HY := Lib.hid hy
        clear hx hy
        by_cases hxy : x = y
        · have hxy1 : ((x : Int) != (y : Int)) = false := by simp [hxy]
          have HXY := Lib.hid hxy
          clear hxy
          go_wp2
          go_quiet (fail)
          go_wp2
          refine ⟨⟨k + 1, by omega, vint (by omega), Lib.hid ?_, below_drewN hb _⟩, by simp [intOf]; omega⟩
          intro j hj
          by_cases e : j = k
          · subst e; rw [← HX.out, ← HY.out]; exact HXY.out
          · exact hs.out j (by omega)
        · have hxy1 : ((x : Int) != (y : Int)) = true := by simp; omega
          have HXY := Lib.hid hxy
          clear hxy
          go_wp2
          go_quiet (fail)
          go_wp2
          go_ret
          exact ⟨ret_bool (by symm; rw [decide_eq_false_iff_not]; intro e; rw [e] at HX; exact HXY.out (HX.out.trans HY.out.symm)), below_drewN hb _⟩
      · go_wp2
        go_ret
        exact ⟨ret_bool (by symm; rw [decide_eq_true_iff]; exact getD_ext HL.out (fun j hj => hs.out j (by omega))), hb⟩
  · have hne : ((xs.length : Int) != (ys.length : Int)) = true := by simp; omega
    have HL := Lib.hid hlen
    clear hlen
    go_enter Try.func48, Try.ntmps48
    go_wp2
    go_ret
    exact ⟨ret_bool (by symm; rw [decide_eq_false_iff_not]; intro e; exact HL.out (by rw [e])), Below.refl _ _⟩

end Go.Proofs.Ytjgdplengfnkaaa
