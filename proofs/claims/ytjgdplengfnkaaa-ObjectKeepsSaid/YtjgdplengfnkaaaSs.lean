/- law10.Spans at alike spans. -/
import Derived.Test.YtjgdplengfnkaaaSq
namespace Go.Proofs.Ytjgdplengfnkaaa
open Go.RowKit
set_option linter.unusedVariables false

theorem sp_cells {w : World} {a : Option Addr} {l : List Sp} (h : Cells w a (spCs l)) {j : Nat} (hj : j < l.length) {s n : Nat} (he : l.getD j (0, 0) = (s, n)) :
    ∃ b off, a = some ⟨b, off, none⟩ ∧ w.cell? ⟨b, off + j * 2, none⟩ = some (.int .i64 (s : Int)) ∧ w.cell? ⟨b, off + j * 2 + 1, none⟩ = some (.int .i64 (n : Int)) := by
  have e : l = (l.take j ++ [(s, n)]) ++ l.drop (j + 1) := by
    have : l[j] = (s, n) := by rw [← he]; simp [hj]
    rw [← this, ← List.take_succ_eq_append_getElem hj, List.take_append_drop]
  have hl := spCs_last (l.take j) s n
  have hjl : (l.take j).length = j := by simp; omega
  rw [hjl] at hl
  have hlen := spCs_length (l.take j ++ [(s, n)])
  simp [hjl] at hlen
  rcases h with h | ⟨b, off, rfl, h⟩
  · have := congrArg List.length h
    rw [spCs_length] at this
    simp only [List.length_nil] at this
    omega
  · refine ⟨b, off, rfl, h (j * 2) _ ?_, h (j * 2 + 1) _ ?_⟩
    · rw [e, spCs_append, List.getElem?_append_left (by simp [spCs_length]; omega)]; exact hl.1
    · rw [e, spCs_append, List.getElem?_append_left (by simp [spCs_length]; omega)]; exact hl.2

set_option maxHeartbeats 1000000 in
set_option maxRecDepth 20000 in
theorem lspans_same (a b : Option Addr) (n cap cap2 : Nat) (l : List Sp) (hn : l.length = n) (w : World) (hc : Cells w a (spCs l)) (hc2 : Cells w b (spCs l)) (hl : n ≤ 1000) :
    Calls Try.prog 19 #[.slice a n cap, .slice b n cap2] w fun e w' => e = .returned (.bool true) ∧ ∃ q, w' = w.drewN q := by
  have HN := Lib.hid hn
  have HC := Lib.hid hc
  have HC2 := Lib.hid hc2
  have hne : (n != n) = false := by simp
  have hne2 : ((n : Int) != (n : Int)) = false := by simp
  clear hn hc hc2
  go_enter Try.func19, Try.ntmps19
  go_wp2_with fail
  go_loopw [5] (fun i wr => ∃ k : Nat, k ≤ n ∧ i = .int .i64 k ∧ ∃ q, wr = w.drewN q) (fun i _ => n - (intOf i).toNat)
  case atStart => exact ⟨0, Nat.zero_le _, rfl, 0, rfl⟩
  case round =>
    obtain ⟨k, hk, rfl, q, rfl⟩ := hrel
    by_cases hlt : k < n
    · have hlt' : (k : Int) < (n : Int) := by omega
      have hkl : k < l.length := by rw [HN.out]; exact hlt
      obtain ⟨s, m, e1⟩ : ∃ s m, l.getD k (0, 0) = (s, m) := ⟨_, _, rfl⟩
      obtain ⟨b1, o1, rfl, d0, d1⟩ := sp_cells HC.out hkl e1
      obtain ⟨b2, o2, rfl, d3, d4⟩ := sp_cells HC2.out hkl e1
      have hs : (s != s) = false := by simp
      have hs2 : ((s : Int) != (s : Int)) = false := by simp
      have hm : (m != m) = false := by simp
      have hm2 : ((m : Int) != (m : Int)) = false := by simp
      clear e1 hkl
      go_wp2_with fail
      go_quiet (fail)
      go_wp2_with fail
      exact ⟨⟨k + 1, by omega, vint (by omega), _, rfl⟩, by simp [intOf]; omega⟩
    · obtain rfl : k = n := by omega
      have hlt' : decide ((k : Int) < (k : Int)) = false := by simp
      go_wp2_with fail
      go_ret
      exact ⟨rfl, _, rfl⟩

end Go.Proofs.Ytjgdplengfnkaaa
