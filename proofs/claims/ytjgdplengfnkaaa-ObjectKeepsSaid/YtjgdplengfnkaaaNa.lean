/- bits.Up; nvm: load, New, Load. -/
import Derived.Test.YtjgdplengfnkaaaDz
import Derived.Test.YtjgdplengfnkaaaGrow
namespace Go.Proofs.Ytjgdplengfnkaaa
open Go.RowKit
set_option linter.unusedVariables false

/-- A new row. -/
def NewRow (B e n : Nat) (vs : List Value) : Spec := fun v lo hi x => ∃ g c, v = .slice (some ⟨g, 0, none⟩) n c ∧ n ≤ c ∧ c ≤ maxLen ∧ lo ≤ g ∧ g < hi ∧ B ≤ g ∧ RowAt x g e vs
def stable1 (R : Spec) : Prop := ∀ v lo hi x y, R v lo hi x → Below x.heap.size x y → R v lo hi y
theorem NewRow.stable (B e n : Nat) (vs : List Value) : stable1 (NewRow B e n vs) := by
  rintro v lo hi x y ⟨g, c, rfl, h1, h2, h3, h4, h6, h5⟩ hb
  exact ⟨g, c, rfl, h1, h2, h3, h4, h6, h5.keep (hb.block g h5.lt)⟩
theorem NewRow.of {w w' : World} {B e n : Nat} {v : Value} {vs : List Value} (h : w'.ownsRow w.heap.size e 1 v n vs) (hn : v ≠ .slice none 0 0) (hB : B ≤ w.heap.size) : NewRow B e n vs v w.heap.size w'.heap.size w' := by
  rcases h.2 with ⟨h0, _⟩ | ⟨g, cap, cur, rfl, hb, hg, h1, h2, h3, h4⟩
  · exact absurd h0 hn
  · refine ⟨g, cap, rfl, h1, h2, hb, (Array.getElem?_eq_some_iff.1 hg).1, Nat.le_trans hB hb, cur, hg, cur.toList.drop n, ?_⟩
    rw [← h4, Nat.mul_one, List.take_append_drop]

theorem later_size {w : World} : ∀ x, (∃ y : Later w, x = y.val) → w.heap.size ≤ x.heap.size := by
  rintro _ ⟨y, rfl⟩
  exact y.below.size

def specs (L : List (Nat × Spec)) : Nat → Option Spec := fun k => (L.find? (fun p => p.1 == k)).map (·.2)
theorem specs_stable (L : List (Nat × Spec)) (h : ∀ p ∈ L, stable1 p.2) : Stable (specs L) := by
  intro k R hk
  unfold specs at hk
  obtain ⟨p, hp, rfl⟩ := Option.map_eq_some_iff.1 hk
  exact h p (List.mem_of_find?_eq_some hp)

/-- 'make([]T, n)' in such a region. -/
theorem wpGrow_make {P : Program} {ops : Array Oper} {md : Region.Mode} {C : World → Prop} {S : Nat → Option Spec} {Fin : Act → Facts → Prop} {o : Oper} {rest : List Oper} {k : Nat} {a : Act} {F : Facts} {l c : Operand} {t e : TypeId} {z : Value} {bytes : Nat}
    (E : Elem P t e z 1 bytes) (n : Nat) {kl kc : IntKind} {L D : Int} {B : Nat} (hB : ∀ x, C x → B ≤ x.heap.size) (hk : S k = some (NewRow B e n (List.replicate n z))) (hg : o.guard = none) (hz : z.cells = #[z])
    (ho : o.op = .makeSlice t l c) (hl : a.eval l = .int kl L) (hc : a.eval c = .int kc D) (hL : L = (n : Int)) (hD : D = (n : Int)) (hn : n < 1000000000000) (hby : bytes ≤ 64)
    (h2 : ∀ v lo hi, wpGrow P md ops C S Fin rest (k + 1) (a.put o.dst v) (F.lay k (v, lo, hi))) : wpGrow P md ops C S Fin (o :: rest) k a F := by
  refine wpGrow_run hk hg (fun x hx => ?_) h2
  obtain ⟨u, y, hrun, hb, ho, hv⟩ := run_make_len (w := x) E n hz hL hD hn hby ho hl hc
  exact ⟨u, y, hrun, hb, NewRow.of ho (by rw [hv]; simp) (hB x hx)⟩

/-- A device of words that last. -/
def freshDev (ws : List Nat) (m : Nat) : Dev := ⟨ws, ws, List.replicate ws.length 0, List.replicate m false, List.replicate m false, 0, 0, false, false⟩

theorem elBool : Elem Try.prog 29 4 (.bool false) 1 1 := Elem.mk' Try.underlying29 (by kernel_rfl) rfl (by decide)

set_option maxHeartbeats 1000000 in
set_option maxRecDepth 100000 in
theorem load_any {w : World} {g cap n m : Nat} (ws : List Nat) (hn : ws.length = n) (h8 : n = 8 * m) (hr : RowAt w g 76 (ws.map vu64)) (hc : n ≤ cap) (hsm : n ≤ 1000000) (hu : ∀ z ∈ ws, z < 18446744073709551616) :
    Calls Try.prog 52 #[.slice (some ⟨g, 0, none⟩) n cap] w fun e w' => ∃ F : Foot, e = .returned (vdev F) ∧ (∀ k ∈ F.list, k = g ∨ w.heap.size ≤ k) ∧ DevAt w' F (freshDev ws m) ∧ Below w.heap.size w w' := by
  have hd : (n : Int) / 8 = (m : Int) := by omega
  have HN := Lib.hid hn
  have H8 := Lib.hid h8
  have HR := Lib.hid hr
  have HU := Lib.hid hu
  have HD := Lib.hid hd
  clear hn h8 hr hu hd
  go_enter Try.func52, Try.ntmps52
  go_wp2_with fail
  rw [HD.out]
  refine wp_region_grow 10 (specs [(2, NewRow w.heap.size 76 n (ws.map vu64)), (5, NewRow w.heap.size 76 n (List.replicate n (vu64 0))), (7, NewRow w.heap.size 4 m (List.replicate m (.bool false))), (9, NewRow w.heap.size 4 m (List.replicate m (.bool false)))]) ?hS ?hn ?hm ?hB ?_
  case hS =>
    refine specs_stable _ ?_
    intro p hp
    simp only [List.mem_cons, List.not_mem_nil, or_false] at hp
    rcases hp with rfl | rfl | rfl | rfl <;> exact NewRow.stable _ _ _ _
  case hn => exact Nat.le_of_ble_eq_true rfl
  case hm => kernel_rfl
  case hB => kernel_rfl
  simp only [List.take_succ_cons, List.take_zero, List.drop_succ_cons, List.drop_zero]
  repeat (refine wpGrow_calm rfl rfl ?_; quiet_step (fail); refine wpQuiet_nil ?_)
  refine wpGrow_call rfl rfl rfl (vs := #[.slice (some ⟨g, 0, none⟩) n cap]) (by go_simp) (by intro vs x; go_simp) ?_ ?_
  · rintro _ ⟨x, rfl⟩ _
    refine (clone_any g 0 cap ws HN.out x.val (fun i v hi => by rw [Nat.zero_add]; exact later_cell (HR.out.cell hi) x) (by rw [HN.out]; exact hsm)).mono ?_
    rintro e z ⟨v, he, ho, hb, hne⟩
    exact ⟨v, he, hb, NewRow.of ho hne x.below.size⟩
  intro v1 lo1 hi1
  go_simp
  repeat (refine wpGrow_calm rfl rfl ?_; quiet_step (fail); refine wpQuiet_nil ?_)
  refine wpGrow_make el64 n later_size rfl rfl rfl rfl rfl rfl rfl rfl (by omega) (by decide) ?_
  intro v2 lo2 hi2
  go_simp
  repeat (refine wpGrow_calm rfl rfl ?_; quiet_step (fail); refine wpQuiet_nil ?_)
  refine wpGrow_make elBool m later_size rfl rfl rfl rfl rfl rfl rfl rfl (by have := H8.out; omega) (by decide) ?_
  intro v3 lo3 hi3
  go_simp
  repeat (refine wpGrow_calm rfl rfl ?_; quiet_step (fail); refine wpQuiet_nil ?_)
  refine wpGrow_make elBool m later_size rfl rfl rfl rfl rfl rfl rfl rfl (by have := H8.out; omega) (by decide) ?_
  intro v4 lo4 hi4
  go_simp
  unfold wpGrow
  intro x hh ha
  have q1 := hh.get (k := 2) rfl rfl
  have q2 := hh.get (k := 5) rfl rfl
  have q3 := hh.get (k := 7) rfl rfl
  have q4 := hh.get (k := 9) rfl rfl
  have a12 := ha 2 5 (by decide) _ _ _ _ _ _ rfl rfl
  have a13 := ha 2 7 (by decide) _ _ _ _ _ _ rfl rfl
  have a14 := ha 2 9 (by decide) _ _ _ _ _ _ rfl rfl
  have a23 := ha 5 7 (by decide) _ _ _ _ _ _ rfl rfl
  have a24 := ha 5 9 (by decide) _ _ _ _ _ _ rfl rfl
  have a34 := ha 7 9 (by decide) _ _ _ _ _ _ rfl rfl
  obtain ⟨⟨g1, c1, rfl, p1, p2, p3, p4, p7, p5⟩, p6⟩ := q1
  obtain ⟨⟨g2, c2, rfl, r1, r2, r3, r4, r7, r5⟩, r6⟩ := q2
  obtain ⟨⟨g3, c3, rfl, s1, s2, s3, s4, s7, s5⟩, s6⟩ := q3
  obtain ⟨⟨g4, c4, rfl, t1, t2, t3, t4, t7, t5⟩, t6⟩ := q4
  clear hh ha
  have hx := x.below
  generalize x.val = w5 at *
  clear x
  have hgl := HR.out.lt
  have hs5 := hx.size
  have HR5 : Hid (RowAt w5 g 76 (ws.map vu64)) := Lib.hid (HR.out.keep (hx.block g hgl))
  have HX := Lib.hid hx
  have P5 := Lib.hid p5
  have R5 := Lib.hid r5
  have S5 := Lib.hid s5
  have T5 := Lib.hid t5
  clear hx p5 r5 s5 t5
  have k1 : g1 < w5.heap.size := by omega
  have k2 : g2 < w5.heap.size := by omega
  have k3 : g3 < w5.heap.size := by omega
  have k4 : g4 < w5.heap.size := by omega
  have d1 : Hid (g1 ≠ g2 ∧ g1 ≠ g3 ∧ g1 ≠ g4 ∧ g2 ≠ g3 ∧ g2 ≠ g4 ∧ g3 ≠ g4) := Lib.hid (by omega)
  clear a12 a13 a14 a23 a24 a34
  go_wp2_with fail
  go_ret
  refine ⟨⟨w5.heap.size, g, g1, g2, g3, g4, cap, c1, c2, c3, c4⟩, rfl, ?_, ?_, ?_⟩
  · simp only [Foot.list, List.mem_cons, List.not_mem_nil, or_false, forall_eq_or_imp, forall_eq]
    exact ⟨.inr hs5, .inl trivial, .inr p7, .inr r7, .inr s7, .inr t7⟩
  · have hk : ∀ k, k < w5.heap.size → (w5.alloc (.cells #[.slice (some ⟨g, 0, none⟩) n cap, .slice (some ⟨g1, 0, none⟩) n c1, .slice (some ⟨g2, 0, none⟩) n c2, .slice (some ⟨g3, 0, none⟩) m c3, .slice (some ⟨g4, 0, none⟩) m c4, .int .i64 0, .int .i64 0, .bool false, .bool false] 134)).heap[k]? = w5.heap[k]? := fun k hk => Below.heap_alloc w5 _ k hk
    obtain ⟨d12, d13, d14, d23, d24, d34⟩ := d1.out
    have e8 := H8.out
    have en := HN.out
    refine ⟨?_, HR5.out.keep (hk g (by omega)), P5.out.keep (hk g1 k1), ?_, ?_, ?_, ?_, rfl, ?_, rfl, ?_, ?_, ?_, ?_, ?_, HU.out, HU.out, ?_⟩
    · rw [heap_alloc_new]
      simp [devV, freshDev, en]
    · have := R5.out.keep (hk g2 k2)
      simpa [freshDev, en] using this
    · have := S5.out.keep (hk g3 k3)
      simpa [freshDev] using this
    · have := T5.out.keep (hk g4 k4)
      simpa [freshDev] using this
    · simp only [Foot.list, List.nodup_cons, List.mem_cons, List.not_mem_nil, or_false, not_or, List.nodup_nil, and_true, not_false_eq_true]
      refine ⟨⟨by omega, by omega, by omega, by omega, by omega⟩, ⟨by omega, by omega, by omega, by omega⟩, ⟨d12, d13, d14⟩, ⟨d23, d24⟩, d34⟩
    · simp [freshDev]
    · simp [freshDev]; omega
    · simp [freshDev]; omega
    · simp [freshDev]; omega
    · simp [freshDev]; omega
    · simp [freshDev]; omega
    · intro z hz
      simp [freshDev] at hz
      omega
  · exact HX.out.trans (((Below.refl _ _).alloc (Nat.le_refl _) _).mono hs5)

set_option maxHeartbeats 400000 in
theorem new_any (k : Int) (w : World) (hk : k ≤ 100000) :
    Calls Try.prog 25 #[.int .i64 k] w fun e w' => ∃ F : Foot, e = .returned (vdev F) ∧ (∀ i ∈ F.list, w.heap.size ≤ i) ∧ DevAt w' F (freshDev (List.replicate (8 * ((k.toNat + 7) / 8)) 0) ((k.toNat + 7) / 8)) ∧ Below w.heap.size w w' := by
  have HU : Hid (upN k 8 = (((k.toNat + 7) / 8 : Nat) : Int)) := Lib.hid (by unfold upN; split <;> omega)
  obtain ⟨m, hm⟩ : ∃ m, m = (k.toNat + 7) / 8 := ⟨_, rfl⟩
  have hmb : m ≤ 20000 := by omega
  rw [← hm] at HU ⊢
  clear hm
  go_enter Try.func25, Try.ntmps25
  go_wp2_with fail
  refine (up_any _ _ _ (by omega) (by omega)).mono ?_
  rintro e w1 ⟨rfl, rfl⟩
  rw [HU.out]
  clear HU
  go_wp2_with (at_make; refine wpList_make_len el64 w.heap.size (8 * m) rfl (by omega) (by omega) (by omega) (by decide) (Nat.le_refl _) rfl rfl rfl rfl ?_; intro w1 hown hgrow)
  have hb := below_grown hgrow (Nat.le_refl _)
  obtain ⟨g, c, hv, _, _, _, _, hB, hr⟩ := NewRow.of (w := w) (B := w.heap.size) hown (by simp) (Nat.le_refl _)
  simp at hv
  obtain ⟨rfl, _⟩ := hv
  have HR : Hid (RowAt w1 w.heap.size 76 ((List.replicate (8 * m) 0).map vu64)) := Lib.hid (by rw [List.map_replicate]; exact hr)
  have HB := Lib.hid hb
  clear hown hgrow hb hr
  refine (load_any (List.replicate (8 * m) 0) (by simp) rfl HR.out (by omega) (by omega) (fun z hz => by simp at hz; omega)).mono ?_
  rintro e w2 ⟨F, rfl, hF, hd, hb2⟩
  go_wp2_with fail
  go_ret
  refine ⟨F, rfl, fun i hi => ?_, hd, HB.out.trans (hb2.mono HB.out.size)⟩
  rcases hF i hi with h | h
  · omega
  · exact Nat.le_trans HB.out.size h

end Go.Proofs.Ytjgdplengfnkaaa
