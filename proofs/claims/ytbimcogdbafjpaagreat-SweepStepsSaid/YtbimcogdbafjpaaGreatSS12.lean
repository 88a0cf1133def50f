/- Parts of the proof, one behind the other: Km, Kr, Ko, Ri, Kq. -/
import Derived.Test.YtbimcogdbafjpaaGreatSS11
set_option linter.unusedVariables false
namespace Go.Proofs.YtbimcogdbafjpaaGreat
open Go.RowKit Go.Maps
structure MemSw (w wr : World) (Q : List Nat) (q : Nat) (A : AF) (B : Nat) (m : Al) (K : MkF) (M : Mk) (U0 : List Bool) (vm : Value) (mk : List Nat) (s b : Nat) (vg : Value) (G : List Nat) : Prop where
 hs : Hs w wr (Q ++ swL s vg) A (2000000 + 200 * b) B (25000000 + 500000 * (G.length + b)) m K M
 sw : SwAt wr s A K b vg G
 own : OwnQ wr Q vm mk
 di : ∀ k ∈ swL s vg, k ∉ Q
 qq : q ∈ Q
 mr : MemR w.heap.size wr [⟨q, 74, [valloc A, vdev A.X.F, .slice none 0 0], true⟩]
 cnt : G.length + m.used.count true ≤ 40
 sp : Swept B U0 M m b
section
variable {w w1 w2 w3 w4 wr w' : World} {Q : List Nat} {q : Nat} {A : AF} {n B N : Nat} {m : Al} {K : MkF} {M : Mk} {U0 : List Bool} {vm : Value} {mk : List Nat} {s b c : Nat} {vg : Value} {G : List Nat}
theorem MemSw.later (h : MemSw w wr Q q A B m K M U0 vm mk s b vg G) (hb : Below wr.heap.size wr w') : MemSw w w' Q q A B m K M U0 vm mk s b vg G :=
 ⟨h.hs.later hb, h.sw.below hb, h.own.below hb, h.di, h.qq, h.mr.later hb, h.cnt, h.sp⟩
structure NewSw (w wr : World) (q : Nat) (A : AF) (n B : Nat) (m : Al) (K : MkF) (M : Mk) (vm : Value) (mk : List Nat) (s : Nat) : Prop where
 hs : Hs w wr (([q] ++ (rowOf vm).toList) ++ swL s (.slice none 0 0)) A n B 25000000 m K M
 sw : SwAt wr s A K B (.slice none 0 0) []
 own : OwnQ wr ([q] ++ (rowOf vm).toList) vm mk
 di : ∀ k ∈ swL s (.slice none 0 0), k ∉ [q] ++ (rowOf vm).toList
 mr : MemR w.heap.size wr [⟨q, 74, [valloc A, vdev A.X.F, .slice none 0 0], true⟩]
theorem NewSw.start (h : Mem23 w w2 [q] A n B 25000000 m K M vm mk c) (hmr : MemR w.heap.size w2 [⟨q, 74, [valloc A, vdev A.X.F, .slice none 0 0], true⟩]) (hsw : SwAt w3 w2.heap.size A K B (.slice none 0 0) []) (hb : Below w2.heap.size w2 w3) (hz : w3.heap.size = w2.heap.size + 1) :
  NewSw w w3 q A n B m K M vm mk w2.heap.size := by
 have hr0 : rowOf (.slice none 0 0) = none := rfl
 have hsl : swL w2.heap.size (.slice none 0 0) = [w2.heap.size] := by simp [swL, hr0]
 refine ⟨h.hs.more (fun k hk => ?_) hb, hsw, ⟨h.own.keep (fun b hb' => hb.block b (h.own.lt b hb')), fun b hb' => by simp [hb']⟩, fun k hk hm => ?_, hmr.later hb⟩
 ·rw [hsl] at hk
  rcases List.mem_append.1 hk with c | c
  ·exact .inl c
  ·simp at c; subst c; exact .inr ⟨Nat.le_refl _, by omega⟩
 ·rw [hsl] at hk
  simp only [List.mem_singleton] at hk
  subst hk
  have := h.hs.hp.qlt _ (List.mem_append_left _ hm)
  omega
theorem NewSw.later (h : NewSw w wr q A n B m K M vm mk s) (hb : Below wr.heap.size wr w') : NewSw w w' q A n B m K M vm mk s :=
 ⟨h.hs.later hb, h.sw.below hb, h.own.below hb, h.di, h.mr.later hb⟩
theorem NewSw.begin (h : NewSw w w3 q A n B m K M vm mk s) (hn : n ≤ 2000000) (hc : m.used.count true ≤ 40) (hsw : SwAt w4 s A K 1 (.slice none 0 0) []) (ht : Touch [s] w3 w4) : MemSw w w4 ([q] ++ (rowOf vm).toList) q A B m K M m.used vm mk s 1 (.slice none 0 0) [] := by
 have hsq : s ∉ [q] ++ (rowOf vm).toList := h.di s (by simp [swL])
 have ho : Off ([q] ++ (rowOf vm).toList) w3 w4 := ⟨[s], ht, fun k hk hm => by simp at hm; subst hm; exact hsq hk⟩
 exact ⟨(h.hs.grow (ht.wide (fun k hk => List.mem_append_right _ (by simp at hk; subst hk; simp [swL]))) (fun k hk => .inl hk)).mono (by omega) (by omega), hsw, h.own.off ho, h.di, by simp, h.mr.off ho (by simp), by simpa using hc, Swept.start h.hs.hp.ok h.hs.hp.lg M⟩
def StepSw (w w0 : World) (Q : List Nat) (q : Nat) (A : AF) (B : Nat) (m : Al) (K : MkF) (M : Mk) (U0 : List Bool) (vm : Value) (mk : List Nat) (s b : Nat) (G : List Nat) : Ending → World → Prop := fun e w' => ∃ (R : List Nat) (m' : Al) (vg' : Value),
 e = .returned (.int .i64 0) ∧ MemSw w w' Q q (A.re R) B m' K M U0 vm mk s (b + 1) vg' (G ++ whiteL m.used M b) ∧ SwStep M b m m' ∧ Off Q w0 w'
theorem MemSw.step {w0 : World} (h : MemSw w w0 Q q A B m K M U0 vm mk s b vg G) (h1 : 1 ≤ b) (h2 : b < B) (hB : B ≤ 100) : Calls Tryz.prog 42 #[vsw s] w0 (StepSw w w0 Q q A B m K M U0 vm mk s b G) := by
 have hc := h.cnt
 refine (sstep_any h.hs h.sw h.di h1 h2 hB (by omega) (by omega) (by omega) (by omega)).mono ?_
 rintro e w' ⟨R, m', vg', rfl, hh, hsw, hd, ho, hst⟩
 have hcn := offs_count m.used M b
 rw [← hst.used] at hcn
 exact ⟨R, m', vg', rfl, ⟨hh.mono (by omega) (by rw [List.length_append]; omega), hsw.reA, h.own.off ho, hd, h.qq, h.mr.off ho (by simpa using h.qq), by rw [List.length_append]; omega, h.sp.step hst hh.hp.ok hh.hp.lg h1 h2⟩, hst, ho⟩
end
set_option maxHeartbeats 8000000 in
set_option maxRecDepth 100000 in
theorem awake23_any (w : World) : Calls Tryz.prog 37 #[] w (Gives (.bool true) w) := by
 have HP : Hid (∀ w', Below w.heap.size w w' → Gives (.bool true) w (.returned (.bool true)) w') := LH (fun w' h => ⟨rfl, h⟩)
 generalize Gives (.bool true) w = Post at *
 go_enter Tryz.func37, Tryz.ntmps37
 go_wp2_with fail
 refine (made23_any 1 (by omega) none 0 0 [] rfl w (Cells.nil _ _) (by decide)).mono ?_
 rintro e w1 ⟨B, A, n, m, K, M, am, lm, cm, mk, hB2, hB8, hBe, rfl, hm, hn, hl⟩
 obtain rfl : B = 3 := by
  have : (1 : Int).tmod 7 = 1 := by decide
  rw [this] at hBe; omega
 obtain ⟨q, hq⟩ : ∃ q, q = w1.heap.size := ⟨_, rfl⟩
 have HM2 : Hid (Mem23 w (w1.alloc (.cells #[valloc A, vdev A.X.F, .slice none 0 0] 74)) [q] A n 3 25000000 m K M (.slice am lm cm) mk 40) := LH (hm.more (by intro k hk; simp at hk; subst hk; exact .inr (by simp [hq])) (below_alloc _ _))
 have HR2 : Hid (MemR w.heap.size (w1.alloc (.cells #[valloc A, vdev A.X.F, .slice none 0 0] 74)) [⟨q, 74, [valloc A, vdev A.X.F, .slice none 0 0], true⟩]) := LH (by
  have h0 : MemR w.heap.size w1 [] := ⟨by simp, by simp, by simp, hm.hs.below.size⟩
  have := h0.alloc #[valloc A, vdev A.X.F, .slice none 0 0] 74
  rw [← hq] at this
  exact this)
 have HN := LH hn
 clear hm hn hl hBe hB2 hB8
 go_upto_region 2 with fail
 rw [← hq]
 generalize w1.alloc _ = w2 at *
 clear hq
 have c0 := HR2.out.cell 0 0 rfl rfl
 go_wp2_with fail
 refine (swnew_any HM2.out.hs.hp.at_).mono ?_
 rintro e w3 ⟨rfl, hsw, hb3, hz3⟩
 have HS3 := LH (NewSw.start HM2.out HR2.out hsw hb3 hz3)
 have HCn := LH HM2.out.cnt
 generalize w2.heap.size = s at *
 clear hsw hb3 hz3 c0 HM2 HR2
 go_wp2_with fail
 refine (sdone_any HS3.out.hs.hp.at_ HS3.out.sw (by omega) (by omega)).mono ?_
 rintro e w4 ⟨rfl, hb4⟩
 have HS4 := LH (HS3.out.later hb4)
 rw [show decide (3 ≤ 3) = true from rfl]
 clear hb4 HS3
 go_wp2_with fail
 refine (sblock_any HS4.out.sw).mono ?_
 rintro e w5 ⟨rfl, rfl⟩
 go_wp2_with fail
 refine (sbegin_any HS4.out.sw).mono ?_
 rintro e w6 ⟨rfl, hsw6, ht6⟩
 have HM6 := LH (HS4.out.begin HN.out HCn.out hsw6 ht6)
 clear hsw6 ht6 HS4
 go_wp2_with fail
 refine (HM6.out.step (by omega) (by omega) (by omega)).mono ?_
 rintro e w7 ⟨R7, m7, v7, rfl, hm7, _, _⟩
 have HM7 := LH hm7
 clear hm7 HM6
 go_wp2_with fail
 refine (sdone_any HM7.out.hs.hp.at_ HM7.out.sw (by omega) (by omega)).mono ?_
 rintro e w8 ⟨rfl, hb8⟩
 have HM8 := LH (HM7.out.later hb8)
 rw [show decide (3 ≤ 1 + 1) = false from rfl]
 clear hb8 HM7
 go_wp2_with fail
 refine (HM8.out.step (by omega) (by omega) (by omega)).mono ?_
 rintro e w9 ⟨R9, m9, v9, rfl, hm9, _, _⟩
 have HM9 := LH hm9
 clear hm9 HM8
 go_wp2_with fail
 refine (sdone_any HM9.out.hs.hp.at_ HM9.out.sw (by omega) (by omega)).mono ?_
 rintro e w10 ⟨rfl, hb10⟩
 have HFin := LH (HP.out _ (HM9.out.later hb10).hs.below)
 rw [show decide (3 ≤ 1 + 1 + 1) = true from rfl]
 clear hb10 HM9
 go_wp2_with fail
 exact HFin.out
section
variable {w w3 w4 w5 wr w' : World} {Q Q' : List Nat} {q : Nat} {A : AF} {n B N : Nat} {m : Al} {K : MkF} {M : Mk} {U0 : List Bool} {vm v v2 : Value} {mk xs : List Nat} {s b c : Nat} {vg : Value} {G : List Nat}
theorem ListPost.ownI {w w' : World} {xs : List Nat} {e : Ending} (h : ListPost w xs e w') : NewI w xs e w' := by
 obtain ⟨v, rfl, ⟨h1, h2⟩, _, hb⟩ := h
 refine ⟨v, rfl, .inl ⟨h1, ?_⟩, fun b hb' => ?_, hb⟩
 ·rcases h2 with h2 | ⟨g, cap, cur, e1, e2, e3⟩
  ·exact .inl h2
  ·exact .inr ⟨g, cap, cur, e1, Nat.zero_le _, e3⟩
 ·rcases h2 with ⟨rfl, _⟩ | ⟨g, cap, cur, rfl, e2, e3⟩
  ·cases hb'
  ·have e : ¬cap = 0 ∧ g = b := by simpa [rowOf] using hb'
   omega
theorem MemSw.more (h : MemSw w wr Q q A B m K M U0 vm mk s b vg G) (hQ : ∀ k ∈ Q', k ∈ Q ∨ (wr.heap.size ≤ k ∧ k < w'.heap.size)) (hb : Below wr.heap.size wr w') (hq : q ∈ Q') (hr : ∀ b, rowOf vm = some b → b ∈ Q') : MemSw w w' Q' q A B m K M U0 vm mk s b vg G :=
 ⟨h.hs.more (fun k hk => (List.mem_append.1 hk).elim (fun c => (hQ k c).imp (fun c => List.mem_append_left _ c) id) (fun c => .inl (List.mem_append_right _ c))) hb, h.sw.below hb, ⟨h.own.own.keep (fun b hb' => hb.block b (h.own.own.lt b hb')), hr⟩,
  fun k hk hm => (hQ k hm).elim (h.di k hk) (fun c => by have := h.sw.lt k hk; omega), hq, h.mr.later hb, h.cnt, h.sp⟩
theorem MemSw.less (h : MemSw w wr Q q A B m K M U0 vm mk s b vg G) (hQ : ∀ k ∈ Q', k ∈ Q) (hq : q ∈ Q') (hr : ∀ b, rowOf vm = some b → b ∈ Q') : MemSw w wr Q' q A B m K M U0 vm mk s b vg G :=
 h.more (fun k hk => .inl (hQ k hk)) (Below.refl _ _) hq hr
theorem MemSw.app (h : MemSw w w3 (Q ++ (rowOf v).toList) q A B m K M U0 vm mk s b vg G) (hb : Below w3.heap.size w3 w4) (ho : OwnI w5 v2 xs) (hgr : w4.grownBy w5 (rowOf v)) (hr : ∀ b, rowOf v2 = some b → rowOf v = some b ∨ b = w4.heap.size) (hd : ∀ b, rowOf v = some b → b ∉ Q) (hq : q ∈ Q) (hm : ∀ b, rowOf vm = some b → b ∈ Q) :
  MemSw w w5 (Q ++ (rowOf v2).toList) q A B m K M U0 vm mk s b vg G ∧ Off Q w3 w5 ∧ Touch (rowOf v).toList w3 w5 ∧ ∀ b, rowOf v2 = some b → b ∉ Q := by
 have ht : Touch (rowOf v).toList w3 w5 := (Touch.ofBelow hb).trans (grown_touchO hgr)
 have hoff : Off Q w3 w5 := ⟨_, ht, fun k hk hm => hd k (by simpa using hm) hk⟩
 have hk2 : ∀ k ∈ (rowOf v2).toList, k ∈ (rowOf v).toList ∨ (w3.heap.size ≤ k ∧ k < w5.heap.size) := fun k hk => by
  rcases hr k (by simpa using hk) with e | e
  ·exact .inl (by simpa using e)
  ·exact .inr ⟨by rw [e]; exact hb.size, ho.lt k (by simpa using hk)⟩
 refine ⟨⟨h.hs.grow (ht.wide (fun k hk => List.mem_append_left _ (List.mem_append_right _ hk))) (fun k hk => ?_), h.sw.keep (fun k hk => ht.block k (h.sw.lt k hk) (fun c => h.di k hk (List.mem_append_right _ c))), ⟨h.own.own.keep (fun b hb' => hoff.block (hm b hb') (h.own.own.lt b hb')), fun b hb' => List.mem_append_left _ (hm b hb')⟩, fun k hk hm' => ?_, List.mem_append_left _ hq, h.mr.off hoff (by simpa using hq), h.cnt, h.sp⟩, hoff, ht, fun b hb2 hm => ?_⟩
 ·rcases List.mem_append.1 hk with c | c
  ·rcases List.mem_append.1 c with c | c
   ·exact .inl (List.mem_append_left _ (List.mem_append_left _ c))
   ·exact (hk2 k c).imp (fun c => List.mem_append_left _ (List.mem_append_right _ c)) id
  ·exact .inl (List.mem_append_right _ c)
 ·rcases List.mem_append.1 hm' with c | c
  ·exact h.di k hk (List.mem_append_left _ c)
  ·rcases hk2 k c with c | c
   ·exact h.di k hk (List.mem_append_right _ c)
   ·have := h.sw.lt k hk; omega
 ·rcases hr b hb2 with e | e
  ·exact hd b e hm
  ·have := h.hs.hp.qlt b (List.mem_append_left _ (List.mem_append_left _ (List.mem_append_left _ hm)))
   have := hb.size
   omega
end
theorem headKind (k c l : Int) (w : World) : (Instr.field 104 (.agg #[.int .i64 k, .int .i64 c, .int .i64 l]) 0).run Tryz.prog w = .ok (.int .i64 k) w := by
 have h1 := Tryz.isAgg3
 simp [Instr.field, run_underlying Tryz.underlying104, part, asAgg, h1, Sem.run_bind, Result.andThen, go_sem]
set_option maxHeartbeats 8000000 in
set_option maxRecDepth 100000 in
theorem sweepSteps_any (n8 : Int) (hn8 : 0 ≤ n8 ∧ n8 ≤ 255) (a : Option Addr) (mm cap : Nat) (s : List Ob23) (hm : s.length = mm) (y : Nat) (hy : y ≤ 65535) (w : World) (hcs : Cells w a (recs Ob23.cs s)) (hmm : mm ≤ maxLen) :
  Calls Tryz.prog 6 #[.int .u8 n8, .slice a mm cap, .int .u16 (y : Int)] w (Gives (.bool true) w) := by
 have hy0 : (0 : Int) ≤ (y : Int) := by omega
 have hy1 : (y : Int) ≤ 65535 := by omega
 have HM := LH hm
 have HCS := LH hcs
 have HMM := LH hmm
 clear hm hcs hmm
 have HP : Hid (∀ w', Below w.heap.size w w' → Gives (.bool true) w (.returned (.bool true)) w') := LH (fun w' h => ⟨rfl, h⟩)
 generalize Gives (.bool true) w = Post at *
 go_enter Tryz.func6, Tryz.ntmps6
 go_wp2_with fail
 refine (awake23_any _).mono ?_
 rintro e wa ⟨rfl, hba⟩
 have HBa := LH hba
 clear hba
 go_wp2_with fail
 refine (made23_any n8 hn8 a mm cap s HM.out wa (HCS.out.below HBa.out (Nat.le_refl _)) HMM.out).mono ?_
 rintro e w1 ⟨B, A, n, m, K, M, am, lm, cm, mk, hB2, hB8, hBe, rfl, hm, hn, hl⟩
 obtain ⟨q, hq⟩ : ∃ q, q = w1.heap.size := ⟨_, rfl⟩
 have HM2 : Hid (Mem23 wa (w1.alloc (.cells #[valloc A, vdev A.X.F, .slice none 0 0] 74)) [q] A n B 25000000 m K M (.slice am lm cm) mk 40) := LH (hm.more (by intro k hk; simp at hk; subst hk; exact .inr (by simp [hq])) (below_alloc _ _))
 have HR2 : Hid (MemR wa.heap.size (w1.alloc (.cells #[valloc A, vdev A.X.F, .slice none 0 0] 74)) [⟨q, 74, [valloc A, vdev A.X.F, .slice none 0 0], true⟩]) := LH (by
  have h0 : MemR wa.heap.size w1 [] := ⟨by simp, by simp, by simp, hm.hs.below.size⟩
  have := h0.alloc #[valloc A, vdev A.X.F, .slice none 0 0] 74
  rw [← hq] at this
  exact this)
 have HN := LH hn
 have HLm := LH hl
 have HMd := LH hm.mkd
 have HUs := LH hm.us
 have HMkl := LH hm.len
 clear hm hn hl hBe
 go_upto_region 4 with fail
 rw [← hq]
 generalize w1.alloc _ = w2 at *
 clear hq
 have c0 := HR2.out.cell 0 0 rfl rfl
 go_wp2_with fail
 refine (swnew_any HM2.out.hs.hp.at_).mono ?_
 rintro e w3 ⟨rfl, hsw, hb3, hz3⟩
 have HS3 := LH (NewSw.start HM2.out HR2.out hsw hb3 hz3)
 have HCn := LH HM2.out.cnt
 have HUl := LH HM2.out.hs.hp.ok.lenU
 generalize w2.heap.size = sp at *
 clear hsw hb3 hz3 c0 HM2 HR2
 go_wp2_with fail
 refine (sbegin_any HS3.out.sw).mono ?_
 rintro e w4 ⟨rfl, hsw4, ht4⟩
 have HM4 := LH (HS3.out.begin HN.out HCn.out hsw4 ht4)
 clear hsw4 ht4 HS3
 obtain ⟨U0, hU0⟩ : ∃ U0, U0 = m.used := ⟨_, rfl⟩
 rw [← hU0] at HM4 HUs
 clear hU0 HCn HUl HN
 have HPa : Hid (∀ w', Below wa.heap.size wa w' → Post (.returned (.bool true)) w') := LH (fun w' h => HP.out w' (HBa.out.trans (h.mono HBa.out.size)))
 clear HP HBa
 have HQq : Hid (q ∈ [q] ++ (rowOf (.slice am lm cm)).toList) := LH (by simp)
 have HQm : Hid (∀ b, rowOf (.slice am lm cm) = some b → b ∈ [q] ++ (rowOf (.slice am lm cm)).toList) := LH (fun b hb => by simp [hb])
 have hlm : lm ≤ 40 := by rw [HLm.out]; exact HMkl.out
 generalize [q] ++ (rowOf (.slice am lm cm)).toList = Q0 at *
 have hr0 : rowOf (.slice none 0 0) = none := rfl
 have HM5 : Hid (MemSw wa w4 (Q0 ++ (rowOf (.slice none 0 0)).toList) q A B m K M U0 (.slice am lm cm) mk sp 1 (.slice none 0 0) []) := LH (HM4.out.less (fun k hk => by rw [hr0] at hk; simpa using hk) (List.mem_append_left _ HQq.out) (fun b hb => List.mem_append_left _ (HQm.out b hb)))
 clear hr0 HM4
 go_wp2_with fail
 go_loopw [12, 13] (fun gv bv wr => ∃ (b : Nat) (R : List Nat) (m1 : Al) (vg : Value) (G : List Nat) (ga : Option Addr) (gl gc : Nat), 1 ≤ b ∧ b ≤ B ∧ bv = .int .i64 (b : Int) ∧ gv = .slice ga gl gc ∧ Hid (gl = G.length) ∧ Hid (MemSw wa wr (Q0 ++ (rowOf (.slice ga gl gc)).toList) q (A.re R) B m1 K M U0 (.slice am lm cm) mk sp b vg G) ∧ Hid (OwnI wr (.slice ga gl gc) G) ∧ Hid (∀ b, rowOf (.slice ga gl gc) = some b → b ∉ Q0)) (fun _ bv _ => B - (RowKit.intOf bv).toNat)
 case atStart => exact ⟨1, A.R, m, _, [], none, 0, 0, Nat.le_refl _, by omega, rfl, rfl, LH rfl, HM5, LH (OwnI.nil _), LH (fun b hb => by cases hb)⟩
 case round =>
  clear HM5
  obtain ⟨b, R, m1, vg, G, ga, gl, gc, hb1, hbB, rfl, rfl, HGl, HS, HG, HGd⟩ := hrel
  rename World => wo
  have c0 := HS.out.mr.cell 0 0 rfl rfl
  have a0 := HS.out.hs.hp.at_.c0
  have a1 := HS.out.hs.hp.at_.man.c0
  have HT := LH (tlen_any HS.out.hs.hp.at_.man.tab)
  have hG40 : gl ≤ 40 := by have := HS.out.cnt; rw [HGl.out]; omega
  by_cases hlt : b < B
  case neg =>
   obtain rfl : b = B := by omega
   have hlt' : decide ((b : Int) < (b : Int)) = false := by simp
   have HDn := LH (fun w' (h' : Below wo.heap.size wo w') => sdone_any (HS.out.later h').hs.hp.at_ (HS.out.later h').sw (by omega) (by omega))
   have HSd := LH (fun w' (h' : Below wo.heap.size wo w') => sstepd_any (HS.out.later h').hs.hp.at_ (HS.out.later h').sw (by omega))
   have HGn := LH (fun w' (h' : Below wo.heap.size wo w') => sgone_any (HS.out.later h').sw (by rw [← HGl.out]; omega))
   have HBz := LH HS.out.hs.below
   have HGr := LH (fun w' (h' : Below wo.heap.size wo w') => HG.out.keep (fun b hb => h'.block b (HG.out.lt b hb)))
   clear HS HG
   go_wp2_with fail
   refine HT.out.mono ?_
   rintro e w5 ⟨rfl, rfl⟩
   go_wp2_with fail
   refine (HDn.out _ (Below.refl _ _)).mono ?_
   rintro e w6 ⟨rfl, hb6⟩
   have HB6 := LH hb6
   rw [show decide (b ≤ b) = true from decide_eq_true (Nat.le_refl _)]
   clear hb6 c0 a0 a1
   go_wp2_with fail
   refine (HSd.out _ HB6.out).mono ?_
   rintro e w7 ⟨rfl, hb7⟩
   have HB7 := LH (HB6.out.trans (hb7.mono HB6.out.size))
   clear hb7 HB6
   go_wp2_with fail
   refine (HGn.out _ HB7.out).mono ?_
   rintro e w8 ⟨v8, rfl, ho8, _, hb8⟩
   obtain ⟨a8, c8, rfl, hc8, _, _⟩ := ho8.cells
   have HB8 := LH (HB7.out.trans (hb8.mono HB7.out.size))
   have HC8 := LH hc8
   have HCg : Hid (Cells w8 ga (G.map vi)) := LH (by
    obtain ⟨a', c', he, h, _, _⟩ := (HGr.out _ HB8.out).cells
    cases he
    exact h)
   rw [← HGl.out]
   clear hb8 hc8 ho8 HB7
   go_wp2_with fail
   refine (rints_same a8 ga gl c8 gc G HGl.out.symm HC8.out HCg.out (by omega)).mono ?_
   rintro e w9 ⟨rfl, hb9⟩
   have HFin := LH (HPa.out _ (HBz.out.trans ((HB8.out.trans (hb9.mono HB8.out.size)).mono HBz.out.size)))
   clear hb9
   go_wp2_with fail
   exact HFin.out
  have hlt' : (b : Int) < (B : Int) := by omega
  have hGc := HS.out.cnt
  obtain ⟨hd, hhd⟩ : ∃ hd, hd = m1.bm.list.getD b default := ⟨_, rfl⟩
  have HGet := LH (fun w' (h' : Below wo.heap.size wo w') => tget_any ((HS.out.later h').hs.hp.at_.man.tab.at (MF.notHot (MF.apart (HS.out.later h').hs.hp.at_.man.nd).t).1) (b : Int) (by rw [HS.out.hs.hp.at_.man.tab.len]; omega))
  rw [hdGet_nat hb1 (by rw [HS.out.hs.hp.at_.man.tab.len]; exact hlt), ← hhd] at HGet
  have HKs : Hid (∀ m2, SwStep M b m1 m2 → AlOk B m2 → hd.k = 1 → ((m2.bm.list.getD b default).k = 0 ↔ ∀ x, m2.used.getD x false = true → x / 512 ≠ b)) := LH (fun m2 h1 h2 h3 => h1.small HS.out.hs.hp.ok h2 hb1 hlt (by rw [← hhd]; exact h3))
  clear hhd
  obtain ⟨hk, hc, hl⟩ := hd
  unfold Hd.val at HGet
  dsimp only at HGet HKs
  have hul9 : (onesL m1.used).length ≤ 40 := by rw [onesL_length]; omega
  have HUx : Hid (∀ x ∈ onesL m1.used, x ≤ 1000000) := LH (fun x hx => by
   have h1 := mem_onesL.1 hx
   rcases Nat.lt_or_ge x m1.used.length with c | c
   ·have := HS.out.hs.hp.ok.lenU; omega
   ·rw [List.getD_eq_getElem?_getD, List.getElem?_eq_none c] at h1; cases h1)
  have HWh : Hid ((onesL m1.used).filter (fun x => decide (x / 512 = b) && !mk.contains x) = whiteL m1.used M b) := LH (white_is HMd.out b)
  have HLf : Hid (∀ m2, SwStep M b m1 m2 → (onesL m1.used).filter (fun x => !(whiteL m1.used M b).contains x) = onesL m2.used) := LH (fun m2 h => by rw [h.used, onesL_offs])
  have hwl9 : (whiteL m1.used M b).length ≤ 40 := Nat.le_trans (whiteL_len _ _ _) (by omega)
  go_wp2_with fail
  refine HT.out.mono ?_
  rintro e w5 ⟨rfl, rfl⟩
  go_wp2_with fail
  refine (aobjects_any HS.out.hs.hp.at_).mono ?_
  intro e w6 hp
  obtain ⟨vu, rfl, hou, hru, hb6⟩ := hp.ownI
  obtain ⟨au, cu, rfl, hcu, _, _⟩ := hou.cells
  have HOu := LH hou
  have HRu := LH hru
  have HB6 := LH hb6
  have HS6 := LH (HS.out.later hb6)
  have HCu := LH hcu
  have HCm : Hid (Cells w6 am (mk.map vi)) := LH (by
   obtain ⟨a', c', he, h, _, _⟩ := HS6.out.own.own.cells
   cases he
   exact h)
  have c6 := HS6.out.mr.cell 0 0 rfl rfl
  have a6 := HS6.out.hs.hp.at_.c0
  have b6 := HS6.out.hs.hp.at_.man.c0
  obtain ⟨us, hus⟩ : ∃ us, us = onesL m1.used := ⟨_, rfl⟩
  obtain ⟨ws, hws⟩ : ∃ ws, ws = whiteL m1.used M b := ⟨_, rfl⟩
  have HWse := LH hws
  rw [← hus] at HOu HCu HUx HWh HLf hul9 HRu ⊢
  rw [← hws] at HWh HLf hwl9
  obtain ⟨ul, hul⟩ : ∃ ul, ul = us.length := ⟨_, rfl⟩
  have HUn := LH hul
  rw [← hul] at HOu HRu hul9 ⊢
  clear hp hou hru hb6 hcu c0 a0 a1 HT hus hws hul
  go_wp2_with fail
  refine (HGet.out _ HB6.out).mono ?_
  rintro e w7 ⟨rfl, hb7⟩
  have HB7 := LH (HB6.out.trans (hb7.mono HB6.out.size))
  have HCu7 := LH (HCu.out.below hb7 (Nat.le_refl _))
  have HCm7 := LH (HCm.out.below hb7 (Nat.le_refl _))
  have HOu7 := LH (HOu.out.keep (fun b hb => hb7.block b (HOu.out.lt b hb)))
  have hfk := fun w' => headKind hk hc hl w'
  have HWt := LH (rwhite_any (c1 := cu) (c2 := cm) (b := b) HCu7.out HCm7.out HUn.out HLm.out (by omega) (by omega) HUx.out)
  rw [HWh.out] at HWt
  clear hb7 HCu HCm HOu c6 a6 b6
  go_wp2_with fail
  refine HWt.out.mono ?_
  rintro e w8 ⟨vw, rfl, how, hrw, hb8⟩
  obtain ⟨aw, cw, rfl, hcw, _, _⟩ := how.cells
  have HB8 := LH (HB7.out.trans (hb8.mono HB7.out.size))
  have HRw : Hid (∀ b, rowOf (.slice aw ws.length cw) = some b → wo.heap.size ≤ b) := LH (fun b hb => Nat.le_trans HB7.out.size (hrw b hb))
  have HOu8 : Hid (OwnI w8 (.slice au ul cu) us) := LH (HOu7.out.keep (fun b hb => hb8.block b (HOu7.out.lt b hb)))
  have HOw8 := LH how
  have HGo : Hid (∀ b, rowOf (.slice ga gl gc) = some b → b < wo.heap.size) := LH HG.out.lt
  have HSw : Hid (MemSw wa w8 ((Q0 ++ (rowOf (.slice ga gl gc)).toList) ++ ((rowOf (.slice au ul cu)).toList ++ (rowOf (.slice aw ws.length cw)).toList)) q (A.re R) B m1 K M U0 (.slice am lm cm) mk sp b vg G) := LH (HS.out.more (fun k hk => by
    rcases List.mem_append.1 hk with c | c
    ·exact .inl c
    ·rcases List.mem_append.1 c with c | c
     ·have c : rowOf (.slice au ul cu) = some k := by simpa using c
      exact .inr ⟨HRu.out k c, HOu8.out.lt k c⟩
     ·have c : rowOf (.slice aw ws.length cw) = some k := by simpa using c
      exact .inr ⟨HRw.out k c, how.lt k c⟩) HB8.out (List.mem_append_left _ (List.mem_append_left _ HQq.out)) (fun b hb => List.mem_append_left _ (List.mem_append_left _ (HQm.out b hb))))
  have HQu : Hid (OwnQ w8 ((Q0 ++ (rowOf (.slice ga gl gc)).toList) ++ ((rowOf (.slice au ul cu)).toList ++ (rowOf (.slice aw ws.length cw)).toList)) (.slice au ul cu) us) := LH ⟨HOu8.out, fun b hb => by simp [hb]⟩
  have HQw : Hid (OwnQ w8 ((Q0 ++ (rowOf (.slice ga gl gc)).toList) ++ ((rowOf (.slice au ul cu)).toList ++ (rowOf (.slice aw ws.length cw)).toList)) (.slice aw ws.length cw) ws) := LH ⟨how, fun b hb => by simp [hb]⟩
  have HQg : Hid (OwnQ w8 ((Q0 ++ (rowOf (.slice ga gl gc)).toList) ++ ((rowOf (.slice au ul cu)).toList ++ (rowOf (.slice aw ws.length cw)).toList)) (.slice ga gl gc) G) := LH ⟨HG.out.keep (fun b hb => HB8.out.block b (HG.out.lt b hb)), fun b hb => by simp [hb]⟩
  have HQs : Hid (∀ k ∈ Q0 ++ (rowOf (.slice ga gl gc)).toList, k ∈ (Q0 ++ (rowOf (.slice ga gl gc)).toList) ++ ((rowOf (.slice au ul cu)).toList ++ (rowOf (.slice aw ws.length cw)).toList)) := LH (fun k hk => List.mem_append_left _ hk)
  generalize (Q0 ++ (rowOf (.slice ga gl gc)).toList) ++ ((rowOf (.slice au ul cu)).toList ++ (rowOf (.slice aw ws.length cw)).toList) = Qr at *
  obtain ⟨wl, hwl⟩ : ∃ wl, wl = ws.length := ⟨_, rfl⟩
  have HWn := LH hwl
  rw [← hwl] at HQw HRw hwl9 ⊢
  have hq : (y : Int).tdiv 512 = ((y / 512 : Nat) : Int) := by rw [Int.tdiv_eq_ediv_of_nonneg (by omega)]; rfl
  have HPs := LH (fun w' (h' : Below w8.heap.size w8 w') => spassed_any (HSw.out.later h').sw (by omega) y (by omega))
  obtain ⟨yq, hyq⟩ : ∃ yq, yq = y / 512 := ⟨_, rfl⟩
  rw [← hyq] at hq HPs
  obtain ⟨pb, hpb⟩ : ∃ pb, pb = decide (yq < b) := ⟨_, rfl⟩
  have hpb' : decide (yq < b) = pb := hpb.symm
  rw [← hpb] at HPs
  have HBl := LH (sblock_any HSw.out.sw)
  have HDn := LH (sdone_any HSw.out.hs.hp.at_ HSw.out.sw (by omega) (by omega))
  rw [show decide (B ≤ b) = false by simp; omega] at HDn
  have hyq9 : yq ≤ 128 := by omega
  clear how hrw hcw hb8 hyq hpb HWt HWh HOu7 HOu8 HOw8 HCu7 HCm7 HB6 HB7 HS HG hwl HS6
  go_wp2_with fail
  refine HBl.out.mono ?_
  rintro e w9 ⟨rfl, rfl⟩
  go_wp2_with fail
  refine HDn.out.mono ?_
  rintro e w10 ⟨rfl, hb10⟩
  have HB10 := LH hb10
  clear hb10
  go_wp2_with fail
  refine (HPs.out _ HB10.out).mono ?_
  rintro e w11 ⟨rfl, rfl⟩
  go_wp2_with fail
  refine ((HSw.out.later HB10.out).step hb1 hlt (by omega)).mono ?_
  rintro e w12 ⟨R12, m2, v12, rfl, hs12, hst, ho12⟩
  rw [AF.re_re] at hs12
  have HO12 := LH ((Off.ofBelow (Q := Qr) HB10.out).chain ho12)
  have HU12 := LH (HQu.out.off HO12.out)
  have HW12 := LH (HQw.out.off HO12.out)
  have HG12 := LH (HQg.out.off HO12.out)
  have HS12 : Hid (MemSw wa w12 (Q0 ++ (rowOf (.slice ga gl gc)).toList) q (A.re R12) B m2 K M U0 (.slice am lm cm) mk sp (b + 1) v12 (G ++ ws)) := LH (by rw [HWse.out]; exact hs12.less HQs.out (List.mem_append_left _ HQq.out) (fun b hb => List.mem_append_left _ (HQm.out b hb)))
  have HLf2 := LH (HLf.out m2 hst)
  have HKs2 := LH (HKs.out m2 hst hs12.hs.hp.ok)
  have HCw12 : Hid (Cells w12 aw (ws.map vi)) := LH (by
   obtain ⟨a', c', he, h, _, _⟩ := HW12.out.own.cells
   cases he
   exact h)
  have HNl : Hid (G.length + wl ≤ 1000000000000) := LH (by have := HGl.out; omega)
  clear hs12 hst ho12 hpb' hfk HB10 HSw HQu HQw HQg HQs HLf HKs HBl HDn HPs HO12
  go_wp2_with (at_builtin; refine wpList_append_ownI (m := wl) HG12.out.own HCw12.out HWn.out.symm HNl.out rfl rfl rfl rfl ?_; intro v13 w13 ho13 hg13 hr13; have HO13 := LH ho13; have HG13 := LH hg13; have HR13 := LH hr13; clear ho13 hg13 hr13)
  obtain ⟨a13, c13, rfl, hc13, _, _⟩ := HO13.out.cells
  obtain ⟨hs13, ho13, ht13, hd13⟩ := HS12.out.app (Below.refl _ _) HO13.out HG13.out HR13.out HGd.out HQq.out HQm.out
  have HS13 := LH hs13
  have HD13 := LH hd13
  have HC13 := LH hc13
  have HCu13 : Hid (Cells w13 au (us.map vi)) := LH (by
   have h := HU12.out.own.keep (w' := w13) (fun b hb => ht13.block b (HU12.out.own.lt b hb) (fun c => by
    have h1 := HRu.out b hb
    have h2 := HGo.out b (by simpa using c)
    omega))
   obtain ⟨a', c', he, hz, _, _⟩ := h.cells
   cases he
   exact hz)
  have HCw13 : Hid (Cells w13 aw (ws.map vi)) := LH (by
   have h := HW12.out.own.keep (w' := w13) (fun b hb => ht13.block b (HW12.out.own.lt b hb) (fun c => by
    have h1 := HRw.out b hb
    have h2 := HGo.out b (by simpa using c)
    omega))
   obtain ⟨a', c', he, hz, _, _⟩ := h.cells
   cases he
   exact hz)
  have HWo := LH (without_any (c1 := cu) (c2 := cw) HCu13.out HCw13.out HUn.out HWn.out (by omega) (by omega))
  rw [HLf2.out] at HWo
  have HGn : Hid ((G ++ ws).length = gl + wl) := LH (by rw [List.length_append, HGl.out, HWn.out])
  have HUs2 := LH (fun x => (mem_onesL (l := m2.used) (i := x)).symm)
  have hl2 : (onesL m2.used).length ≤ 40 := by rw [onesL_length]; have := HS13.out.cnt; omega
  clear hs13 ho13 ht13 hd13 hc13 HS12 HU12 HW12 HG12 HCw12 HCu13 HCw13 HG13 HR13
  go_wp2_with fail
  refine HWo.out.mono ?_
  rintro e w14 ⟨v14, rfl, ho14, hr14, hb14⟩
  obtain ⟨a14, c14, rfl, hc14, _, _⟩ := ho14.cells
  have HS14 := LH (HS13.out.later hb14)
  have HC14 := LH hc14
  have HG14 := LH (HC13.out.below hb14 (Nat.le_refl _))
  have c0 := HS14.out.mr.cell 0 0 rfl rfl
  have HZ14 := LH hb14
  clear hb14 hc14 ho14 hr14 HWo HS13 HC13
  rw [HGn.out] at HS14 HO13 HD13 ⊢
  obtain ⟨l2, hl2e⟩ : ∃ l2, l2 = (onesL m2.used).length := ⟨_, rfl⟩
  have HL2 := LH hl2e
  rw [← hl2e] at hl2 ⊢
  clear hl2e
  go_wp2_with fail
  refine (aobjects_any HS14.out.hs.hp.at_).mono ?_
  intro e w15 hp
  obtain ⟨v15, rfl, ho15, hr15, hb15⟩ := hp.ownI
  obtain ⟨a15, c15, rfl, hc15, _, _⟩ := ho15.cells
  have HS15 := LH (HS14.out.later hb15)
  have HG15 := LH (HG14.out.below hb15 (Nat.le_refl _))
  have HC15 := LH (HC14.out.below hb15 (Nat.le_refl _))
  have HI1 := LH (rints_same a15 a14 l2 c15 c14 (onesL m2.used) HL2.out.symm hc15 HC15.out (by omega))
  rw [← HL2.out]
  have HZ15 := LH (HZ14.out.trans (hb15.mono HZ14.out.size))
  clear hb15 hc15 ho15 hr15 hp c0 HZ14 HS14 HG14 HC14
  go_wp2_with fail
  refine HI1.out.mono ?_
  rintro e w16 ⟨rfl, hb16⟩
  have HS16 := LH (HS15.out.later hb16)
  have HG16 := LH (HG15.out.below hb16 (Nat.le_refl _))
  have HC16 := LH (HC15.out.below hb16 (Nat.le_refl _))
  have HGn2 := LH (sgone_any HS16.out.sw (by rw [HGn.out]; omega))
  have HZ16 := LH (HZ15.out.trans (hb16.mono HZ15.out.size))
  clear hb16 HZ15 HS15 HG15 HC15 HI1
  go_wp2_with fail
  refine HGn2.out.mono ?_
  rintro e w17 ⟨v17, rfl, ho17, _, hb17⟩
  obtain ⟨a17, c17, rfl, hc17, _, _⟩ := ho17.cells
  have HS17 := LH (HS16.out.later hb17)
  have HG17 := LH (HG16.out.below hb17 (Nat.le_refl _))
  have HC17 := LH (HC16.out.below hb17 (Nat.le_refl _))
  rw [HGn.out]
  have HI2 := LH (rints_same a17 a13 (gl + wl) c17 c13 (G ++ ws) HGn.out hc17 HG17.out (by omega))
  have HZ17 := LH (HZ16.out.trans (hb17.mono HZ16.out.size))
  clear hb17 HZ16 hc17 ho17 HS16 HG16 HC16 HGn2
  go_wp2_with fail
  refine HI2.out.mono ?_
  rintro e w18 ⟨rfl, hb18⟩
  have HS18 := LH (HS17.out.later hb18)
  have HG18 := LH (HG17.out.below hb18 (Nat.le_refl _))
  have HC18 := LH (HC17.out.below hb18 (Nat.le_refl _))
  have HZ18 := LH (HZ17.out.trans (hb18.mono HZ17.out.size))
  have HO18 : Hid (OwnI w18 (.slice a13 (gl + wl) c13) (G ++ ws)) := LH (HO13.out.keep (fun b hb => HZ18.out.block b (HO13.out.lt b hb)))
  clear hb18 HZ17 HZ18 HS17 HG17 HG18 HC17 HI2 HO13
  have HPos : Hid (0 < hereN b (onesL m2.used) ↔ ∃ x, m2.used.getD x false = true ∧ x / 512 = b) := LH hereN_pos
  have HXs : Hid (∀ x ∈ onesL m2.used, x ≤ 1000000) := LH (fun x hx => by
   have h1 := mem_onesL.1 hx
   rcases Nat.lt_or_ge x m2.used.length with c | c
   ·have := HS18.out.hs.hp.ok.lenU; omega
   ·rw [List.getD_eq_getElem?_getD, List.getElem?_eq_none c] at h1; cases h1)
  obtain ⟨hd2, hhd2⟩ : ∃ hd, hd = m2.bm.list.getD b default := ⟨_, rfl⟩
  have HKd : Hid (hk = 1 → (hd2.k = 0 ↔ ¬ 0 < hereN b (onesL m2.used))) := LH (fun h => by
   rw [hhd2, HKs2.out h, HPos.out]
   exact ⟨fun c ⟨x, h1, h2⟩ => c x h1 h2, fun c x h1 h2 => c ⟨x, h1, h2⟩⟩)
  have HGet2 : Hid (∀ w', Below w18.heap.size w18 w' → _) := LH (fun w' (h' : Below w18.heap.size w18 w') => tget_any ((HS18.out.later h').hs.hp.at_.man.tab.at (MF.notHot (MF.apart (HS18.out.later h').hs.hp.at_.man.nd).t).1) (b : Int) (by rw [HS18.out.hs.hp.at_.man.tab.len]; omega))
  rw [hdGet_nat hb1 (by rw [HS18.out.hs.hp.at_.man.tab.len]; exact hlt), ← hhd2] at HGet2
  clear hhd2 HPos HKs2 HUs2
  obtain ⟨k2, x2, y2⟩ := hd2
  unfold Hd.val at HGet2
  dsimp only at HGet2 HKd
  generalize onesL m2.used = us2 at *
  rename World => wx
  go_wp2_with fail
  go_loopw [18, 19] (fun hv iv wr2 => ∃ i : Nat, i ≤ l2 ∧ hv = .int .i64 ((hereN b (us2.take i) : Nat) : Int) ∧ iv = .int .i64 (i : Int) ∧ Hid (Below wx.heap.size wx wr2)) (fun _ iv _ => l2 - (RowKit.intOf iv).toNat)
  case atStart => exact ⟨0, Nat.zero_le _, rfl, rfl, LH (Below.refl _ _)⟩
  case round =>
   obtain ⟨i, hi, rfl, rfl, HBi⟩ := hrel
   by_cases hil : i < l2
   case neg =>
    obtain rfl : i = l2 := by omega
    have hil' : decide ((i : Int) < (i : Int)) = false := by simp
    have HTk : Hid (us2.take i = us2) := LH (by rw [HL2.out]; exact List.take_length)
    rw [HTk.out]
    have hle : hereN b us2 ≤ 40 := Nat.le_trans (hereN_le b us2) (by rw [← HL2.out]; exact hl2)
    generalize hereN b us2 = hz at *
    have HSz := LH (HS18.out.later HBi.out)
    have HOz : Hid (OwnI wr (.slice a13 (gl + wl) c13) (G ++ ws)) := LH (HO18.out.keep (fun b hb => HBi.out.block b (HO18.out.lt b hb)))
    by_cases hk1 : hk = 1
    case neg =>
     have hk1' : (hk == 1) = false := by simpa using hk1
     clear HKd
     go_wp2_with fail
     refine ⟨⟨b + 1, R12, m2, v12, G ++ ws, a13, gl + wl, c13, by omega, by omega, vint (by omega), rfl, LH HGn.out.symm, HSz, HOz, HD13⟩, ?_⟩
     simp [RowKit.intOf]; omega
    subst hk1
    have hkd := HKd.out rfl
    have hfk := fun w' => headKind k2 x2 y2 w'
    have HGz := LH (HGet2.out _ HBi.out)
    have c0 := HSz.out.mr.cell 0 0 rfl rfl
    have a0 := HSz.out.hs.hp.at_.c0
    have a1 := HSz.out.hs.hp.at_.man.c0
    clear HKd
    by_cases hz0 : 0 < hz
    ·have hk2 : (k2 == 0) = false := by
      rcases h : k2 == 0 with _ | _
      ·rfl
      ·exact absurd hz0 (hkd.1 (by simpa using h))
     have hz1 : ((hz : Int) == 0) = false := by simp; omega
     clear hkd
     go_wp2_with fail
     refine HGz.out.mono ?_
     rintro e w20 ⟨rfl, hb20⟩
     have HSf := LH (HSz.out.later hb20)
     have HOf : Hid (OwnI w20 (.slice a13 (gl + wl) c13) (G ++ ws)) := LH (HOz.out.keep (fun b hb => hb20.block b (HOz.out.lt b hb)))
     clear hb20 c0 a0 a1
     go_wp2_with fail
     refine ⟨⟨b + 1, R12, m2, v12, G ++ ws, a13, gl + wl, c13, by omega, by omega, vint (by omega), rfl, LH HGn.out.symm, HSf, HOf, HD13⟩, ?_⟩
     simp [RowKit.intOf]; omega
    ·obtain rfl : hz = 0 := by omega
     have hk2 : k2 = 0 := hkd.2 hz0
     subst hk2
     clear hkd
     go_wp2_with fail
     refine HGz.out.mono ?_
     rintro e w20 ⟨rfl, hb20⟩
     have HSf := LH (HSz.out.later hb20)
     have HOf : Hid (OwnI w20 (.slice a13 (gl + wl) c13) (G ++ ws)) := LH (HOz.out.keep (fun b hb => hb20.block b (HOz.out.lt b hb)))
     clear hb20 c0 a0 a1
     go_wp2_with fail
     refine ⟨⟨b + 1, R12, m2, v12, G ++ ws, a13, gl + wl, c13, by omega, by omega, vint (by omega), rfl, LH HGn.out.symm, HSf, HOf, HD13⟩, ?_⟩
     simp [RowKit.intOf]; omega
   have hil' : (i : Int) < (l2 : Int) := by omega
   obtain ⟨x, hx⟩ : ∃ x, us2[i]? = some x := ⟨_, List.getElem?_eq_getElem (by rw [← HL2.out]; exact hil)⟩
   obtain ⟨b1, o1, q1, _, hc1⟩ := (HC18.out.below HBi.out (Nat.le_refl _)).at (i := i) (by rw [List.length_map, ← HL2.out]; exact hil)
   have hc1 := hc1 i (vi x) (by rw [List.getElem?_map, hx]; rfl)
   have HTk := LH (hereN_take (b := b) hx)
   have hq2 : (x : Int).tdiv 512 = ((x / 512 : Nat) : Int) := by rw [Int.tdiv_eq_ediv_of_nonneg (by omega)]; rfl
   have hx9 : x ≤ 1000000 := HXs.out x (List.mem_of_getElem? hx)
   have hle : hereN b (us2.take i) ≤ 40 := Nat.le_trans (hereN_le b _) (by rw [List.length_take]; omega)
   obtain ⟨xq, hxq⟩ : ∃ xq, xq = x / 512 := ⟨_, rfl⟩
   rw [← hxq] at HTk hq2
   generalize hereN b (us2.take i) = hn at *
   subst q1
   clear hx
   by_cases hqb : xq = b
   ·have hqb' : ((xq : Int) == (b : Int)) = true := by simp; omega
    have HTe : Hid (hereN b (us2.take (i + 1)) = hn + 1) := LH (by rw [HTk.out, if_pos hqb])
    go_wp2_with fail
    refine ⟨⟨i + 1, by omega, by rw [HTe.out]; exact vint (by omega), vint (by omega), HBi⟩, ?_⟩
    simp [RowKit.intOf]; omega
   ·have hqb' : ((xq : Int) == (b : Int)) = false := by simp; omega
    have HTe : Hid (hereN b (us2.take (i + 1)) = hn) := LH (by rw [HTk.out, if_neg hqb]; rfl)
    go_wp2_with fail
    refine ⟨⟨i + 1, by omega, by rw [HTe.out], vint (by omega), HBi⟩, ?_⟩
    simp [RowKit.intOf]; omega
theorem sweepSteps_int (n8 : Int) (hn8 : 0 ≤ n8 ∧ n8 ≤ 255) (a : Option Addr) (mm cap : Nat) (s : List Ob23) (hm : s.length = mm) (x : Int) (hx : 0 ≤ x ∧ x < 65536) (w : World) (hcs : Cells w a (recs Ob23.cs s)) (hmm : mm ≤ maxLen) :
  Calls Tryz.prog 6 #[.int .u8 n8, .slice a mm cap, .int .u16 x] w (Gives (.bool true) w) := by
 obtain ⟨y, rfl⟩ := Int.eq_ofNat_of_zero_le hx.1
 exact sweepSteps_any n8 hn8 a mm cap s hm y (by omega) w hcs hmm
theorem wf_u16 {z : Int} (h : (Lit.int .u16 z).wf = true) : 0 ≤ z ∧ z < 65536 := by
 simp [Lit.wf, IntKind.min, IntKind.max, IntKind.signed, IntKind.bits] at h; omega
end Go.Proofs.YtbimcogdbafjpaaGreat
namespace Go.Proofs.YtbimcogdbafjpaaGreat
open Go.RowKit Go.ChangeShapes Go.WideShapes Go.Deep
section
variable {H : Type} {enc : TypeId × Value → H} {P : Program} {w : World} {base : Nat} {spare : Nat → Bool} {held : Bool}
end
section
variable {H : Type} {enc : TypeId × Value → H} {w : World} {base : Nat} {spare : Nat → Bool} {held : Bool}
set_option maxRecDepth 100000 in
theorem ob23_cells {fuel : Nat} {us : List Value} {z : DataW H × List MemPlace} (hlen : us.length = 3) (h : DataW.trod enc Tryz.prog w base spare held fuel 205 us = some z) :
  ∃ o : Ob23, us = o.cs := by
 obtain ⟨ys, n', _, _, _, hyl, hf⟩ := DataW.trod_struct Tryz.underlying205 h
 have hl2 : ys.length = 3 := hyl
 match us, hlen with
 | [u0, u1, u2], _ =>
  have c0 : Tryz.prog.cellsOf 3 = 1 := by kernel_rfl
  have c1 : Tryz.prog.cellsOf 4 = 1 := by kernel_rfl
  have h0 := hf 0 _ rfl
  have h1 := hf 1 _ rfl
  have h2 := hf 2 _ rfl
  rw [List.getElem?_eq_getElem (by omega)] at h0 h1 h2
  have h0 : DataW.trod enc Tryz.prog w base spare held n' 3 (List.take (Tryz.prog.cellsOf 3) [u0, u1, u2]) = some _ := h0
  have h1 : DataW.trod enc Tryz.prog w base spare held n' 3 (List.take (Tryz.prog.cellsOf 3) [u1, u2]) = some _ := h1
  have h2 : DataW.trod enc Tryz.prog w base spare held n' 4 (List.take (Tryz.prog.cellsOf 4) [u2]) = some _ := h2
  rw [c0] at h0 h1
  rw [c1] at h2
  obtain ⟨k, hk, _, _⟩ := DataW.trod_int Tryz.underlying3 h0
  obtain ⟨k', hk', _, _⟩ := DataW.trod_int Tryz.underlying3 h1
  obtain ⟨k2, hk2, _⟩ := DataW.trod_bool Tryz.underlying4 h2
  refine ⟨⟨k, k', k2⟩, ?_⟩
  have e0 : u0 = .int .i64 k := by simpa using hk
  have e1 : u1 = .int .i64 k' := by simpa using hk'
  have e2 : u2 = .bool k2 := by simpa using hk2
  rw [e0, e1, e2]; rfl
theorem ob23_read {fuel : Nat} {v : Value} {y : DataW H × List MemPlace} (h : DataW.trod enc Tryz.prog w base spare held fuel 95 [v] = some y) :
  ∃ (a : Option Addr) (len cap : Nat) (l : List Ob23), v = .slice a len cap ∧ l.length = len ∧ Cells w a (recs Ob23.cs l) ∧ len ≤ maxLen := by
 obtain ⟨a, len, cap, m, rfl, hl, hm, hcs⟩ := elems_read (size := 3) Tryz.underlying95 (by kernel_rfl) (by decide) h
 rcases hcs with rfl | ⟨b, off, rfl, hcs⟩
 ·exact ⟨a, 0, cap, [], rfl, rfl, Cells.nil _ _, Nat.zero_le _⟩
 ·have each : ∀ i, i < len → ∃ x : Ob23, (∀ r u, (x.cs)[r]? = some u → w.cell? ⟨b, off + i * 3 + r, none⟩ = some u) ∧ True := by
   intro i hi
   obtain ⟨us, z, hlen, hat, hz⟩ := hcs i hi
   obtain ⟨o, e1⟩ := ob23_cells hlen hz
   exact ⟨o, fun r u hr => hat r u (by rw [e1]; exact hr), trivial⟩
  obtain ⟨l, hll, hcl, _⟩ := recs_of Ob23.len (by decide) ⟨0, 0, false⟩ each
  exact ⟨_, len, cap, l, rfl, hll, hcl, by omega⟩
end
end Go.Proofs.YtbimcogdbafjpaaGreat
