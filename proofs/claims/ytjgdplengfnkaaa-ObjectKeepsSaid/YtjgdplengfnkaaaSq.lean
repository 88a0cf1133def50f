/- Spans of free blocks: the walks. -/
import Derived.Test.YtjgdplengfnkaaaSp
namespace Go.Proofs.Ytjgdplengfnkaaa
open Go.RowKit
set_option linter.unusedVariables false

theorem elBs : Elem Try.prog 52 122 (.agg #[.int .i64 0, .int .i64 0]) 2 16 := Elem.mk' Try.underlying52 (by kernel_rfl) rfl (by decide)
theorem elRs : Elem Try.prog 54 110 (.agg #[.int .i64 0, .int .i64 0]) 2 16 := Elem.mk' Try.underlying54 (by kernel_rfl) rfl (by decide)

def SpansPost (t : Nat) (l : List Sp) (w : World) : Ending → World → Prop := fun e w' => ∃ v, e = .returned v ∧ w'.ownsRow w.heap.size t 2 v l.length (spCs l) ∧ Below w.heap.size w w'

/-- What a round meets. -/
theorem span_round (ks : Nat → Bool) (b : Nat) (hb : 1 ≤ b) :
    (ks b = false ∧ spanL ks (b + 1) = spanL ks b) ∨
    (ks b = true ∧ 1 < b ∧ ks (b - 1) = true ∧ ∃ l s n, spanL ks b = l ++ [(s, n)] ∧ s + n = b ∧ spanL ks (b + 1) = l ++ [(s, n + 1)]) ∨
    (ks b = true ∧ ¬ (1 < b ∧ ks (b - 1) = true) ∧ spanL ks b = [] ∧ spanL ks (b + 1) = [(b, 1)]) ∨
    (ks b = true ∧ ¬ (1 < b ∧ ks (b - 1) = true) ∧ ∃ l s n, spanL ks b = l ++ [(s, n)] ∧ s + n < b ∧ spanL ks (b + 1) = l ++ [(s, n)] ++ [(b, 1)]) := by
  have h := spanL_last ks b hb
  by_cases hk : ks b = true
  · by_cases hp : 1 < b ∧ ks (b - 1) = true
    · rw [if_pos hp] at h
      obtain ⟨l, s, n, h1, h2, h3⟩ := h
      exact .inr (.inl ⟨hk, hp.1, hp.2, l, s, n, h1, h2, by rw [spanL, if_neg (by simp [hk]; omega), if_pos hp, h1, bump_last]⟩)
    · rw [if_neg hp] at h
      have e : spanL ks (b + 1) = spanL ks b ++ [(b, 1)] := by rw [spanL, if_neg (by simp [hk]; omega), if_neg hp]
      rcases h with h | ⟨l, s, n, h1, h2, h3⟩
      · exact .inr (.inr (.inl ⟨hk, hp, h, by rw [e, h]; rfl⟩))
      · exact .inr (.inr (.inr ⟨hk, hp, l, s, n, h1, h2, by rw [e, h1]⟩))
  · have hk' : ks b = false := by simpa using hk
    exact .inl ⟨hk', by rw [spanL, if_pos (.inr hk')]⟩

theorem hd_kind {w : World} {a : Option Addr} {l : List Hd} (h : Cells w a (hdCs l)) {j : Nat} (hj : j < l.length) :
    ∃ b off, a = some ⟨b, off, none⟩ ∧ ∃ k, freeAt l j = (k == 0) ∧ w.cell? ⟨b, off + j * 3, none⟩ = some (.int .i64 k) := by
  obtain ⟨k, c, n, he⟩ := hdGetD l j
  obtain ⟨b, off, rfl, h0, _, _⟩ := hd_cells h hj he
  exact ⟨b, off, rfl, k, by unfold freeAt; rw [he], h0⟩

set_option maxHeartbeats 2000000 in
set_option maxRecDepth 20000 in
theorem bspans_any (a : Option Addr) (n cap : Nat) (l : List Hd) (hn : l.length = n) (w : World) (hc : Cells w a (hdCs l)) (hl : n ≤ 1000) :
    Calls Try.prog 20 #[.slice a n cap] w (SpansPost 122 (spansOf l) w) := by
  have HN := Lib.hid hn
  have HC := Lib.hid hc
  generalize hP : SpansPost 122 (spansOf l) w = Post
  have HP := Lib.hid hP
  clear hn hc hP
  go_enter Try.func20, Try.ntmps20
  go_wp2_with fail
  go_loopw [3, 4] (fun v i wr => ∃ b : Nat, 1 ≤ b ∧ (b ≤ n ∨ b = 1) ∧ i = .int .i64 b ∧ wr.ownsRow w.heap.size 122 2 v (spanL (freeAt l) b).length (spCs (spanL (freeAt l) b)) ∧ Below w.heap.size w wr) (fun _ i _ => n - (intOf i).toNat)
  case atStart => exact ⟨1, Nat.le_refl _, .inr rfl, rfl, ⟨rfl, .inl ⟨rfl, rfl⟩⟩, Below.refl _ _⟩
  case round =>
    obtain ⟨b, hb1, hbn, rfl, ho, hb⟩ := hrel
    by_cases hlt : b < n
    · have hlt' : (b : Int) < (n : Int) := by omega
      have HB := Lib.hid hb
      obtain ⟨bl, off, rfl, kd, hfk, d0⟩ := hd_kind (HC.out.below hb (Nat.le_refl _)) (j := b) (by rw [HN.out]; exact hlt)
      have hr := span_round (freeAt l) b hb1
      rw [hfk] at hr
      have HLb := Lib.hid (spanL_len (freeAt l) b)
      clear hfk hbn hb
      rcases hr with ⟨hk, hs⟩ | ⟨hk, h1b, hk2, pl, s, m, hs1, hs2, hs3⟩ | ⟨hk, hp, hs1, hs3⟩ | ⟨hk, hp, pl, s, m, hs1, hs2, hs3⟩
      · have hk1 : (kd != 0) = true := by simpa using hk
        obtain ⟨a1, c1, rfl, hc1, hm1⟩ := owned_form ho
        have HO : Hid (wr.ownsRow w.heap.size 122 2 (.slice a1 (spanL (freeAt l) b).length c1) (spanL (freeAt l) (b + 1)).length (spCs (spanL (freeAt l) (b + 1)))) := Lib.hid (by rw [hs]; exact ho)
        clear ho hs hk HLb
        go_wp2_with fail
        exact ⟨⟨b + 1, by omega, by omega, vint (by omega), HO.out, HB.out⟩, by simp [intOf]; omega⟩
      · have hk1 : (kd != 0) = false := by simpa using hk
        rw [hs1] at ho
        obtain ⟨L, hL⟩ : ∃ L, L = pl.length := ⟨_, rfl⟩
        rw [show (pl ++ [(s, m)]).length = L + 1 by simp [hL]] at ho
        obtain ⟨g, c1, rfl, hc1, hm1, hg1, hg2⟩ := owned_some ho (by omega)
        have hr := owned_row ho
        have hla := spCs_last pl s m
        rw [← hL] at hla
        have e0 : wr.cell? ⟨g, L * 2, none⟩ = some (.int .i64 (s : Int)) := hr.cell hla.1
        have e1 : wr.cell? ⟨g, L * 2 + 1, none⟩ = some (.int .i64 (m : Int)) := hr.cell hla.2
        have f1 : wr.frozen? ⟨g, L * 2 + 1, none⟩ = false := hr.frozen _
        have hsm : ((s : Int) + (m : Int) == (b : Int)) = true := by simp; omega
        have HL := Lib.hid hL
        have HS3 := Lib.hid hs3
        have HO1 := Lib.hid ho
        have hsb : (s : Int) ≤ 1000 := by omega
        have hmb : (m : Int) ≤ 1000 := by omega
        have hLb : L < 1000 := by have := HLb.out; rw [hs1] at this; simp [← hL] at this; omega
        clear ho hs1 hs2 hs3 hL hla hr hk hk2 HLb
        have hw1 : IntKind.i64.wrap (L : Int) = L := IntWalk.i64_in _ (by omega)
        have hw2 : IntKind.i64.wrap ((s : Int) + (m : Int)) = s + m := IntWalk.i64_in _ (by omega)
        go_wp2_with fail
        go_quiet (fail)
        clear hw1 hw2
        have HO2 : Hid ((wr.drewN nq).ownsRow w.heap.size 122 2 (.slice (some ⟨g, 0, none⟩) (L + 1) c1) (L + 1) (spCs (pl ++ [(s, m)]))) := Lib.hid HO1.out
        go_wp2_with fail
        refine ⟨⟨b + 1, by omega, by omega, vint (by omega), ?_, ?_⟩, by simp [intOf]; omega⟩
        · rw [HS3.out, ← show ((m + 1 : Nat) : Int) = (m : Int) + 1 from rfl, ← spCs_bump pl s m (m + 1), show (pl ++ [(s, m + 1)] : List Sp).length = L + 1 by simp [HL.out], ← HL.out]
          exact (HO2.out.stored (L * 2 + 1) _).1
        · exact below_grownBy (below_drewN HB.out _) HO2.out (HO2.out.stored (L * 2 + 1) _).2 (Nat.le_refl _) (Nat.le_refl _)
      · have hk1 : (kd != 0) = false := by simpa using hk
        rw [hs1] at ho
        obtain ⟨a1, c1, rfl, hc1, hm1⟩ := owned_form ho
        have HO := Lib.hid ho
        have HS3 := Lib.hid hs3
        have hone : Hid (∀ u ∈ (#[Value.int .i64 (b : Int), Value.int .i64 1] : Array Value).toList, u.oneCell' = true) := Lib.hid (by intro u hu; simp at hu; rcases hu with rfl | rfl <;> rfl)
        clear ho hs1 hs3 hk hp HLb
        go_wp2_with fail
        go_quiet (fail)
        have HO1 : Hid ((wr.drewN nq).ownsRow w.heap.size 122 2 (.slice a1 0 c1) 0 []) := Lib.hid HO.out
        have hbase : Hid (w.heap.size ≤ (wr.drewN nq).heap.size) := Lib.hid HB.out.size
        go_wp2_with (at_builtin; refine wpList_append_new (us := #[.int .i64 (b : Int), .int .i64 1]) elBs HO1.out rfl hone.out (by omega) (by decide) hbase.out rfl rfl rfl (by simp [Act.eval]) ?_; intro g6 c6 w6 ho6 hg6 hc6 hm6 hb6 hl6; have HO6 := Lib.hid ho6; have HG6 := Lib.hid hg6; clear ho6 hg6)
        refine ⟨⟨b + 1, by omega, by omega, vint (by omega), ?_, below_grownBy (below_drewN HB.out _) HO1.out HG6.out (Nat.le_refl _) (Nat.le_refl _)⟩, by simp [intOf]; omega⟩
        rw [HS3.out]
        exact HO6.out
      · have hk1 : (kd != 0) = false := by simpa using hk
        rw [hs1] at ho
        obtain ⟨L, hL⟩ : ∃ L, L = pl.length := ⟨_, rfl⟩
        rw [show (pl ++ [(s, m)]).length = L + 1 by simp [hL]] at ho
        obtain ⟨g, c1, rfl, hc1, hm1, hg1, hg2⟩ := owned_some ho (by omega)
        have hr := owned_row ho
        have hla := spCs_last pl s m
        rw [← hL] at hla
        have e0 : wr.cell? ⟨g, L * 2, none⟩ = some (.int .i64 (s : Int)) := hr.cell hla.1
        have e1 : wr.cell? ⟨g, L * 2 + 1, none⟩ = some (.int .i64 (m : Int)) := hr.cell hla.2
        have hsm : ((s : Int) + (m : Int) == (b : Int)) = false := by simp; omega
        have HL := Lib.hid hL
        have HS3 := Lib.hid hs3
        have HO := Lib.hid ho
        have hsb : (s : Int) ≤ 1000 := by omega
        have hmb : (m : Int) ≤ 1000 := by omega
        have hone : Hid (∀ u ∈ (#[Value.int .i64 (b : Int), Value.int .i64 1] : Array Value).toList, u.oneCell' = true) := Lib.hid (by intro u hu; simp at hu; rcases hu with rfl | rfl <;> rfl)
        have hLb : L < 1000 := by have := HLb.out; rw [hs1] at this; simp [← hL] at this; omega
        have hL9 : L + 1 < 1000000000000 := by omega
        clear ho hs1 hs2 hs3 hL hla hr hk hp HLb
        have hw1 : IntKind.i64.wrap (L : Int) = L := IntWalk.i64_in _ (by omega)
        have hw2 : IntKind.i64.wrap ((s : Int) + (m : Int)) = s + m := IntWalk.i64_in _ (by omega)
        go_wp2_with fail
        go_quiet (fail)
        clear hw1 hw2
        have HO1 : Hid ((wr.drewN nq).ownsRow w.heap.size 122 2 (.slice (some ⟨g, 0, none⟩) (L + 1) c1) (L + 1) (spCs (pl ++ [(s, m)]))) := Lib.hid HO.out
        have hbase : Hid (w.heap.size ≤ (wr.drewN nq).heap.size) := Lib.hid HB.out.size
        go_wp2_with (at_builtin; refine wpList_append_new (us := #[.int .i64 (b : Int), .int .i64 1]) elBs HO1.out rfl hone.out hL9 (by decide) hbase.out rfl rfl rfl (by simp [Act.eval]) ?_; intro g6 c6 w6 ho6 hg6 hc6 hm6 hb6 hl6; have HO6 := Lib.hid ho6; have HG6 := Lib.hid hg6; clear ho6 hg6)
        refine ⟨⟨b + 1, by omega, by omega, vint (by omega), ?_, below_grownBy (below_drewN HB.out _) HO1.out HG6.out (Nat.le_refl _) (Nat.le_refl _)⟩, by simp [intOf]; omega⟩
        rw [HS3.out, spCs_append, show (pl ++ [(s, m)] ++ [(b, 1)] : List Sp).length = L + 1 + 1 by simp [HL.out]]
        exact HO6.out
    · have hlt' : decide (b < n) = false := by simp; omega
      have hlt2 : n ≤ b := by omega
      obtain ⟨a1, c1, rfl, hc1, hm1⟩ := owned_form ho
      have HE : Hid (spansOf l = spanL (freeAt l) b) := Lib.hid (by
        unfold spansOf; rw [HN.out]
        rcases hbn with h | h
        · rw [show n = b by omega]
        · by_cases h0 : n = 0
          · rw [h0, h]; rfl
          · rw [show n = b by omega])
      have HO := Lib.hid ho
      have HB := Lib.hid hb
      clear ho hb
      go_wp2_with fail
      rw [← HP.out]
      refine ⟨_, rfl, ?_, HB.out⟩
      rw [HE.out]
      exact HO.out

theorem span_round2 (ks : Nat → Bool) (b : Nat) (hb : 1 ≤ b) :
    (ks b = false ∧ spanL ks (b + 1) = spanL ks b) ∨
    (ks b = true ∧ 1 < b ∧ ks (b - 1) = true ∧ ∃ l s n, spanL ks b = l ++ [(s, n)] ∧ s + n = b ∧ spanL ks (b + 1) = l ++ [(s, n + 1)]) ∨
    (ks b = true ∧ ¬ (1 < b ∧ ks (b - 1) = true) ∧ spanL ks (b + 1) = spanL ks b ++ [(b, 1)]) := by
  rcases span_round ks b hb with h | h | ⟨h1, h2, h3, h4⟩ | ⟨h1, h2, l, s, n, h3, _, h4⟩
  · exact .inl h
  · exact .inr (.inl h)
  · exact .inr (.inr ⟨h1, h2, by rw [h3, h4]; rfl⟩)
  · exact .inr (.inr ⟨h1, h2, by rw [h3, h4]⟩)

set_option maxHeartbeats 2000000 in
set_option maxRecDepth 20000 in
theorem rspans_any (a : Option Addr) (n cap : Nat) (l : List Hd) (hn : l.length = n) (w : World) (hc : Cells w a (hdCs l)) (hl : n ≤ 1000) :
    Calls Try.prog 21 #[.slice a n cap] w (SpansPost 110 (spansOf l) w) := by
  have HN := Lib.hid hn
  have HC := Lib.hid hc
  generalize hP : SpansPost 110 (spansOf l) w = Post
  have HP := Lib.hid hP
  clear hn hc hP
  go_enter Try.func21, Try.ntmps21
  go_wp2_with fail
  go_loopw [3, 4] (fun v i wr => ∃ b : Nat, 1 ≤ b ∧ (b ≤ n ∨ b = 1) ∧ i = .int .i64 b ∧ wr.ownsRow w.heap.size 110 2 v (spanL (freeAt l) b).length (spCs (spanL (freeAt l) b)) ∧ Below w.heap.size w wr) (fun _ i _ => n - (intOf i).toNat)
  case atStart => exact ⟨1, Nat.le_refl _, .inr rfl, rfl, ⟨rfl, .inl ⟨rfl, rfl⟩⟩, Below.refl _ _⟩
  case round =>
    obtain ⟨b, hb1, hbn, rfl, ho, hb⟩ := hrel
    by_cases hlt : b < n
    · have hlt' : (b : Int) < (n : Int) := by omega
      have HB := Lib.hid hb
      have HCr := Lib.hid (HC.out.below hb (Nat.le_refl _))
      obtain ⟨bl, off, rfl, kd, hfk, d0⟩ := hd_kind HCr.out (j := b) (by rw [HN.out]; exact hlt)
      have hr := span_round2 (freeAt l) b hb1
      have HLb := Lib.hid (spanL_len (freeAt l) b)
      rw [hfk] at hr
      clear hfk hbn hb
      rcases hr with ⟨hk, hs⟩ | ⟨hk, h1b, hk2, pl, s, m, hs1, hs2, hs3⟩ | ⟨hk, hp, hs3⟩
      · have hk1 : (kd != 0) = true := by simpa using hk
        obtain ⟨a1, c1, rfl, hc1, hm1⟩ := owned_form ho
        have HO : Hid (wr.ownsRow w.heap.size 110 2 (.slice a1 (spanL (freeAt l) b).length c1) (spanL (freeAt l) (b + 1)).length (spCs (spanL (freeAt l) (b + 1)))) := Lib.hid (by rw [hs]; exact ho)
        clear ho hs hk HLb
        go_wp2_with fail
        exact ⟨⟨b + 1, by omega, by omega, vint (by omega), HO.out, HB.out⟩, by simp [intOf]; omega⟩
      · obtain ⟨p, rfl⟩ : ∃ p, b = p + 1 := ⟨b - 1, by omega⟩
        obtain ⟨bl2, off2, hbo, kd2, hfk2, d2⟩ := hd_kind HCr.out (j := p) (by rw [HN.out]; omega)
        simp at hbo
        obtain ⟨rfl, rfl⟩ := hbo
        rw [Nat.add_sub_cancel, hfk2] at hk2
        have hk1 : (kd != 0) = false := by simpa using hk
        have hp1 : (1 : Int) < (p : Int) + 1 := by omega
        have hp0 : 0 < p := by omega
        have hpn : (p : Int) < (n : Int) := by omega
        rw [hs1] at ho
        obtain ⟨L, hL⟩ : ∃ L, L = pl.length := ⟨_, rfl⟩
        rw [show (pl ++ [(s, m)]).length = L + 1 by simp [hL]] at ho
        obtain ⟨g, c1, rfl, hc1, hm1, hg1, hg2⟩ := owned_some ho (by omega)
        have hr := owned_row ho
        have hla := spCs_last pl s m
        rw [← hL] at hla
        have e1 : wr.cell? ⟨g, L * 2 + 1, none⟩ = some (.int .i64 (m : Int)) := hr.cell hla.2
        have f1 : wr.frozen? ⟨g, L * 2 + 1, none⟩ = false := hr.frozen _
        have HL := Lib.hid hL
        have HS3 := Lib.hid hs3
        have HO2 := Lib.hid ho
        have hsb : (s : Int) ≤ 1000 := by omega
        have hmb : (m : Int) ≤ 1000 := by omega
        have hLb : L < 1000 := by have := HLb.out; rw [hs1] at this; simp [← hL] at this; omega
        have hpe : (p : Int) + 1 - 1 = p := by omega
        clear ho hs1 hs2 hs3 hL hla hr hk HLb hfk2
        go_wp2_with fail
        refine ⟨⟨p + 1 + 1, by omega, by omega, vint (by omega), ?_, ?_⟩, by simp [intOf]; omega⟩
        · rw [HS3.out, ← show ((m + 1 : Nat) : Int) = (m : Int) + 1 from rfl, ← spCs_bump pl s m (m + 1), show (pl ++ [(s, m + 1)] : List Sp).length = L + 1 by simp [HL.out], ← HL.out]
          exact (HO2.out.stored (L * 2 + 1) _).1
        · exact below_grownBy HB.out HO2.out (HO2.out.stored (L * 2 + 1) _).2 (Nat.le_refl _) (Nat.le_refl _)
      · have hk1 : (kd != 0) = false := by simpa using hk
        obtain ⟨L, hL⟩ : ∃ L, L = (spanL (freeAt l) b).length := ⟨_, rfl⟩
        rw [← hL] at ho
        obtain ⟨a1, c1, rfl, hc1, hm1⟩ := owned_form ho
        have HL := Lib.hid hL
        have HO := Lib.hid ho
        have HS3 := Lib.hid hs3
        have hone : Hid (∀ u ∈ (#[Value.int .i64 (b : Int), Value.int .i64 1] : Array Value).toList, u.oneCell' = true) := Lib.hid (by intro u hu; simp at hu; rcases hu with rfl | rfl <;> rfl)
        have hLb : L < 1000 := by have := HLb.out; omega
        have hL9 : L < 1000000000000 := by omega
        have hbase : Hid (w.heap.size ≤ wr.heap.size) := Lib.hid HB.out.size
        by_cases h1b : 1 < b
        · obtain ⟨p, rfl⟩ : ∃ p, b = p + 1 := ⟨b - 1, by omega⟩
          obtain ⟨bl2, off2, hbo, kd2, hfk2, d2⟩ := hd_kind HCr.out (j := p) (by rw [HN.out]; omega)
          simp at hbo
          obtain ⟨rfl, rfl⟩ := hbo
          rw [Nat.add_sub_cancel, hfk2] at hp
          have hp2 : (kd2 == 0) = false := by simpa [h1b] using hp
          have hp1 : (1 : Int) < (p : Int) + 1 := by omega
          have hp0 : 0 < p := by omega
          have hpn : (p : Int) < (n : Int) := by omega
          clear ho hs3 hL hk hp HLb hfk2 h1b
          go_wp2_with (at_builtin; refine wpList_append_new (us := #[.int .i64 ((p + 1 : Nat) : Int), .int .i64 1]) elRs HO.out rfl hone.out hL9 (by decide) hbase.out rfl rfl rfl (by simp [Act.eval]) ?_; intro g6 c6 w6 ho6 hg6 hc6 hm6 hb6 hl6; have HO6 := Lib.hid ho6; have HG6 := Lib.hid hg6; clear ho6 hg6)
          refine ⟨⟨p + 1 + 1, by omega, by omega, vint (by omega), ?_, below_grownBy HB.out HO.out HG6.out (Nat.le_refl _) (Nat.le_refl _)⟩, by simp [intOf]; omega⟩
          rw [HS3.out, spCs_append, show (spanL (freeAt l) (p + 1) ++ [(p + 1, 1)] : List Sp).length = L + 1 by simp [HL.out]]
          exact HO6.out
        · obtain rfl : b = 1 := by omega
          clear ho hs3 hL hk hp HLb h1b
          go_wp2_with (at_builtin; refine wpList_append_new (us := #[.int .i64 1, .int .i64 1]) elRs HO.out rfl hone.out hL9 (by decide) hbase.out rfl rfl rfl (by simp [Act.eval]) ?_; intro g6 c6 w6 ho6 hg6 hc6 hm6 hb6 hl6; have HO6 := Lib.hid ho6; have HG6 := Lib.hid hg6; clear ho6 hg6)
          refine ⟨⟨2, by omega, by omega, vint (by omega), ?_, below_grownBy HB.out HO.out HG6.out (Nat.le_refl _) (Nat.le_refl _)⟩, by simp [intOf]; omega⟩
          rw [HS3.out, spCs_append, show (spanL (freeAt l) 1 ++ [(1, 1)] : List Sp).length = L + 1 by simp [HL.out]]
          exact HO6.out
    · have hlt' : decide (b < n) = false := by simp; omega
      have hlt2 : n ≤ b := by omega
      obtain ⟨a1, c1, rfl, hc1, hm1⟩ := owned_form ho
      have HE : Hid (spansOf l = spanL (freeAt l) b) := Lib.hid (by
        unfold spansOf; rw [HN.out]
        rcases hbn with h | h
        · rw [show n = b by omega]
        · by_cases h0 : n = 0
          · rw [h0, h]; rfl
          · rw [show n = b by omega])
      have HO := Lib.hid ho
      have HB := Lib.hid hb
      clear ho hb
      go_wp2_with fail
      rw [← HP.out]
      refine ⟨_, rfl, ?_, HB.out⟩
      rw [HE.out]
      exact HO.out

end Go.Proofs.Ytjgdplengfnkaaa
