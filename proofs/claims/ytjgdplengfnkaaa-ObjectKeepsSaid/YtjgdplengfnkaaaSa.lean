/- law07: Ref, Refs; ref10: Same. -/
import Derived.Test.YtjgdplengfnkaaaBo
import Derived.Deep.QuietTactic
import Derived.BigQuiet
namespace Go.Proofs.Ytjgdplengfnkaaa
open Go.RowKit
set_option linter.unusedVariables false

set_option maxHeartbeats 400000 in
theorem ref_any (h : Hd) (w : World) : Calls Try.prog 16 #[h.val] w fun e w' => e = .returned h.val ∧ Below w.heap.size w w' := by
  obtain ⟨k, c, l⟩ := h
  unfold Hd.val
  dsimp only
  have hb : Below w.heap.size w ((w.alloc (.cells #[.int .i64 k, .int .i64 c, .int .i64 l] 48)).alloc (.cells #[.int .i64 k, .int .i64 c, .int .i64 l] 46)) := (below_alloc _ _).alloc (by simp) _
  have HB := Lib.hid hb
  clear hb
  go_enter Try.func16, Try.ntmps16
  go_wp2_with fail
  exact bodyPost_ret (v := .agg #[.int .i64 k, .int .i64 c, .int .i64 l]) (by simp [results, Try.results16, go_sem]) rfl ⟨rfl, HB.out⟩

theorem hdGetD (l : List Hd) (j : Nat) : ∃ k c n, l.getD j default = ⟨k, c, n⟩ := ⟨_, _, _, rfl⟩

set_option maxHeartbeats 1000000 in
set_option maxRecDepth 20000 in
theorem refs_any (a : Option Addr) (n cap : Nat) (l : List Hd) (hn : l.length = n) (w : World) (hc : Cells w a (hdCs l)) (hl : n ≤ 1000) :
    Calls Try.prog 15 #[.slice a n cap] w fun e w' => ∃ v, e = .returned v ∧ w'.ownsRow w.heap.size 46 3 v n (hdCs l) ∧ Below w.heap.size w w' := by
  have HN := Lib.hid hn
  have HC := Lib.hid hc
  clear hn hc
  go_enter Try.func15, Try.ntmps15
  go_wp2_with fail
  go_loopw [3, 4] (fun v i wr => ∃ k : Nat, k ≤ n ∧ i = .int .i64 k ∧ wr.ownsRow w.heap.size 46 3 v k (hdCs (l.take k)) ∧ Below w.heap.size w wr) (fun _ i _ => n - (intOf i).toNat)
  case atStart => exact ⟨0, Nat.zero_le _, rfl, ⟨rfl, .inl ⟨rfl, rfl⟩⟩, Below.refl _ _⟩
  case round =>
    obtain ⟨k, hk, rfl, ho, hb⟩ := hrel
    obtain ⟨a1, c1, rfl, hc1, hm1⟩ := owned_form ho
    have HO := Lib.hid ho
    have HB := Lib.hid hb
    clear ho hb
    by_cases hlt : k < n
    · have hlt' : (k : Int) < (n : Int) := by omega
      have hkl : k < l.length := by rw [HN.out]; exact hlt
      have HA := hdCs_at l k hkl
      have HS : Hid (hdCs (l.take (k + 1)) = hdCs (l.take k) ++ (l.getD k default).cs) := Lib.hid (by
        rw [List.take_succ_eq_append_getElem hkl, hdCs_append]; simp [hdCs, hkl])
      generalize l.getD k default = hd at *
      obtain ⟨hk', hcl, hln⟩ := hd
      obtain ⟨b, off, rfl, hcs⟩ : ∃ b off, a = some ⟨b, off, none⟩ ∧ ∀ i v, (hdCs l)[i]? = some v → wr.cell? ⟨b, off + i, none⟩ = some v := by
        rcases HC.out.below HB.out (Nat.le_refl _) with h | ⟨b, off, rfl, h⟩
        · have := congrArg List.length h
          rw [hdCs_length] at this
          simp only [List.length_nil] at this
          omega
        · exact ⟨b, off, rfl, h⟩
      have d0 : wr.cell? ⟨b, off + k * 3, none⟩ = some (.int .i64 hk') := hcs _ _ (HA 0 _ rfl)
      have d1 : wr.cell? ⟨b, off + k * 3 + 1, none⟩ = some (.int .i64 hcl) := hcs _ _ (HA 1 _ rfl)
      have d2 : wr.cell? ⟨b, off + k * 3 + 2, none⟩ = some (.int .i64 hln) := hcs _ _ (HA 2 _ rfl)
      clear HA hcs
      go_wp2_with fail
      refine (ref_any ⟨hk', hcl, hln⟩ _).mono ?_
      rintro e w1 ⟨rfl, hb1⟩
      unfold Hd.val
      dsimp only
      have HB1 := Lib.hid (HB.out.trans (hb1.mono HB.out.size))
      have HO1 := Lib.hid (owned_below HO.out hb1 (Nat.le_refl _))
      have hone : Hid (∀ u ∈ (#[Value.int .i64 hk', Value.int .i64 hcl, Value.int .i64 hln] : Array Value).toList, u.oneCell' = true) := Lib.hid (by intro u hu; simp at hu; rcases hu with rfl | rfl | rfl <;> rfl)
      have hbase : Hid (w.heap.size ≤ w1.heap.size) := Lib.hid HB1.out.size
      have hk9 : k < 1000000000000 := by omega
      clear hb1 d0 d1 d2
      go_wp2_with (at_builtin; refine wpList_append_new (us := #[.int .i64 hk', .int .i64 hcl, .int .i64 hln]) elRh HO1.out rfl hone.out hk9 (by decide) hbase.out rfl rfl rfl (by simp [Act.eval]) ?_; intro g6 c6 w6 ho6 hg6 hc6 hm6 hb6 hl6; have HO6 := Lib.hid ho6; have HG6 := Lib.hid hg6; clear ho6 hg6)
      refine ⟨⟨k + 1, by omega, vint (by omega), ?_, below_grownBy HB1.out HO1.out HG6.out (Nat.le_refl _) (Nat.le_refl _)⟩, by simp [intOf]; omega⟩
      rw [HS.out]
      exact HO6.out
    · obtain rfl : k = n := by omega
      have hlt' : decide ((k : Int) < (k : Int)) = false := by simp
      go_wp2_with fail
      go_ret
      refine ⟨_, rfl, ?_, HB.out⟩
      have := HO.out
      rwa [List.take_of_length_le (by rw [HN.out]; exact Nat.le_refl _)] at this

theorem fsRh : (Try.prog.fieldsOf 46) = #[{ name := "Kind", type := 3, offset := 0, embedded := false, tag := "", pkgPath := "", byteOffset := 0 },
        { name := "Class", type := 3, offset := 1, embedded := false, tag := "", pkgPath := "", byteOffset := 8 },
        { name := "Len", type := 3, offset := 2, embedded := false, tag := "", pkgPath := "", byteOffset := 16 }] := by kernel_rfl
theorem usRh : Try.prog.underlying 46 = some (.struct (Try.prog.fieldsOf 46)) := by kernel_rfl
theorem ssRh : Try.prog.stoodInHeld 46 = false := by kernel_rfl
theorem gsRh : Try.prog.eqGuardType Try.prog.depth 46 = false := by kernel_rfl
theorem equalRh (w : World) (a b c a' b' c' : Int) (r : Bool) (hr : r = ((a == a') && (b == b') && (c == c'))) : (Op.equalIn 10000 46 (.agg #[.int .i64 a, .int .i64 b, .int .i64 c]) (.agg #[.int .i64 a', .int .i64 b', .int .i64 c'])).run Try.prog w = .ok r w := by
  rw [hr, show (10000 : Nat) = 9999 + 1 from rfl, run_equalIn_agg w 9999 46 _ _ usRh ssRh, fsRh]
  by_cases h1 : a = a' <;> by_cases h2 : b = b' <;> by_cases h3 : c = c' <;> simp [Op.eqFields, go_sem, h1, h2, h3, Try.underlying3, part]

theorem fsBh : (Try.prog.fieldsOf 48) = #[{ name := "Kind", type := 3, offset := 0, embedded := false, tag := "", pkgPath := "", byteOffset := 0 },
        { name := "Class", type := 3, offset := 1, embedded := false, tag := "", pkgPath := "", byteOffset := 8 },
        { name := "Len", type := 3, offset := 2, embedded := false, tag := "", pkgPath := "", byteOffset := 16 }] := by kernel_rfl
theorem usBh : Try.prog.underlying 48 = some (.struct (Try.prog.fieldsOf 48)) := by kernel_rfl
theorem ssBh : Try.prog.stoodInHeld 48 = false := by kernel_rfl
theorem gsBh : Try.prog.eqGuardType Try.prog.depth 48 = false := by kernel_rfl
theorem equalBh (w : World) (a b c a' b' c' : Int) (r : Bool) (hr : r = ((a == a') && (b == b') && (c == c'))) : (Op.equalIn 10000 48 (.agg #[.int .i64 a, .int .i64 b, .int .i64 c]) (.agg #[.int .i64 a', .int .i64 b', .int .i64 c'])).run Try.prog w = .ok r w := by
  rw [hr, show (10000 : Nat) = 9999 + 1 from rfl, run_equalIn_agg w 9999 48 _ _ usBh ssBh, fsBh]
  by_cases h1 : a = a' <;> by_cases h2 : b = b' <;> by_cases h3 : c = c' <;> simp [Op.eqFields, go_sem, h1, h2, h3, Try.underlying3, part]
theorem hd_beq (k c n k' c' n' : Int) : decide ((⟨k, c, n⟩ : Hd) = ⟨k', c', n'⟩) = ((k == k') && (c == c') && (n == n')) := by
  rw [Bool.eq_iff_iff]; simp [Hd.mk.injEq, and_assoc]

theorem hd_cells {w : World} {a : Option Addr} {l : List Hd} (h : Cells w a (hdCs l)) {j : Nat} (hj : j < l.length) {k c n : Int} (he : l.getD j default = ⟨k, c, n⟩) :
    ∃ b off, a = some ⟨b, off, none⟩ ∧ w.cell? ⟨b, off + j * 3, none⟩ = some (.int .i64 k) ∧ w.cell? ⟨b, off + j * 3 + 1, none⟩ = some (.int .i64 c) ∧ w.cell? ⟨b, off + j * 3 + 2, none⟩ = some (.int .i64 n) := by
  have HA := hdCs_at l j hj
  rw [he] at HA
  rcases h with h | ⟨b, off, rfl, h⟩
  · have := congrArg List.length h
    rw [hdCs_length] at this
    simp only [List.length_nil] at this
    omega
  · exact ⟨b, off, rfl, h _ _ (HA 0 _ rfl), h _ _ (HA 1 _ rfl), h _ _ (HA 2 _ rfl)⟩

theorem take_eq_succ {l m : List Hd} {k : Nat} (h1 : k < l.length) (h2 : k < m.length) (h : l.take k = m.take k) (he : l.getD k default = m.getD k default) : l.take (k + 1) = m.take (k + 1) := by
  rw [List.take_succ_eq_append_getElem h1, List.take_succ_eq_append_getElem h2, h]
  simp [h1, h2] at he
  rw [he]

def sameHd (l m : List Hd) : Bool := decide (l = m)

set_option maxHeartbeats 1000000 in
set_option maxRecDepth 20000 in
theorem rsame_any (a b : Option Addr) (n m cap cap2 : Nat) (l r : List Hd) (hn : l.length = n) (hm : r.length = m) (w : World) (hc : Cells w a (hdCs l)) (hc2 : Cells w b (hdCs r)) (hl : n ≤ 1000) (hl2 : m ≤ 1000) :
    Calls Try.prog 14 #[.slice a n cap, .slice b m cap2] w fun e w' => e = .returned (.bool (sameHd l r)) ∧ ∃ q, w' = w.drewN q := by
  have HN := Lib.hid hn
  have HM := Lib.hid hm
  have HC := Lib.hid hc
  have HC2 := Lib.hid hc2
  by_cases hnm : n = m
  · subst hnm
    have hne : (n != n) = false := by simp
    have hne2 : ((n : Int) != (n : Int)) = false := by simp
    clear hn hm hc hc2
    go_enter Try.func14, Try.ntmps14
    go_wp2_with fail
    go_loopw [5] (fun i wr => ∃ k : Nat, k ≤ n ∧ i = .int .i64 k ∧ l.take k = r.take k ∧ ∃ q, wr = w.drewN q) (fun i _ => n - (intOf i).toNat)
    case atStart => exact ⟨0, Nat.zero_le _, rfl, by simp, 0, rfl⟩
    case round =>
      obtain ⟨k, hk, rfl, heq, q, rfl⟩ := hrel
      have HE := Lib.hid heq
      clear heq
      by_cases hlt : k < n
      · have hlt' : (k : Int) < (n : Int) := by omega
        have hkl : k < l.length := by rw [HN.out]; exact hlt
        have hkr : k < r.length := by rw [HM.out]; exact hlt
        obtain ⟨k1, c1, l1, e1⟩ := hdGetD l k
        obtain ⟨k2, c2, l2, e2⟩ := hdGetD r k
        obtain ⟨b1, o1, rfl, d0, d1, d2⟩ := hd_cells HC.out hkl e1
        obtain ⟨b2, o2, rfl, d3, d4, d5⟩ := hd_cells HC2.out hkr e2
        have E1 := Lib.hid e1
        have E2 := Lib.hid e2
        clear e1 e2 hkl hkr
        by_cases hq : (⟨k1, c1, l1⟩ : Hd) = ⟨k2, c2, l2⟩
        · have heq : ∀ w', (Op.equalIn 10000 46 (.agg #[.int .i64 k1, .int .i64 c1, .int .i64 l1]) (.agg #[.int .i64 k2, .int .i64 c2, .int .i64 l2])).run Try.prog w' = .ok true w' := fun w' => equalRh w' _ _ _ _ _ _ _ (by rw [← hd_beq]; simp [hq])
          have hgd := gsRh
          have HQ := Lib.hid hq
          clear hq
          go_wp2_with fail
          go_quiet (fail)
          go_wp2_with fail
          refine ⟨⟨k + 1, by omega, vint (by omega), ?_, _, rfl⟩, by simp [intOf]; omega⟩
          exact take_eq_succ (by rw [HN.out]; exact hlt) (by rw [HM.out]; exact hlt) HE.out (by rw [E1.out, E2.out, HQ.out])
        · have heq : ∀ w', (Op.equalIn 10000 46 (.agg #[.int .i64 k1, .int .i64 c1, .int .i64 l1]) (.agg #[.int .i64 k2, .int .i64 c2, .int .i64 l2])).run Try.prog w' = .ok false w' := fun w' => equalRh w' _ _ _ _ _ _ _ (by rw [← hd_beq]; simp [hq])
          have hgd := gsRh
          have HQ := Lib.hid hq
          clear hq
          go_wp2_with fail
          go_quiet (fail)
          go_wp2_with fail
          go_ret
          refine ⟨ret_bool (decide_eq_false (fun h => HQ.out ?_)).symm, _, World.drewN_drewN _ _ _⟩
          rw [← E1.out, ← E2.out, h]
      · obtain rfl : k = n := by omega
        have hlt' : decide ((k : Int) < (k : Int)) = false := by simp
        go_wp2_with fail
        go_ret
        refine ⟨ret_bool (decide_eq_true ?_).symm, _, rfl⟩
        have := HE.out
        rwa [List.take_of_length_le (by rw [HN.out]; exact Nat.le_refl _), List.take_of_length_le (by rw [HM.out]; exact Nat.le_refl _)] at this
  · have hne : (n != m) = true := by simpa using hnm
    have hne2 : ((n : Int) != (m : Int)) = true := by simp; omega
    have HH := Lib.hid hnm
    clear hnm hn hm hc hc2
    go_enter Try.func14, Try.ntmps14
    go_wp2_with fail
    go_ret
    exact ⟨ret_bool (decide_eq_false (fun h => HH.out (by rw [← HN.out, ← HM.out, h]))).symm, 0, rfl⟩

end Go.Proofs.Ytjgdplengfnkaaa
