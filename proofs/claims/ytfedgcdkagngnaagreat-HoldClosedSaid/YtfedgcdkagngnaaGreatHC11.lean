/- Parts of the proof, one behind the other: Hf, Ri. -/
import Derived.Test.YtfedgcdkagngnaaGreatHC10
import Derived.Deep.DeepCutAuto
import Derived.Deep.CutBlock

/- law20: HoldClosed. -/
namespace Go.Proofs.YtfedgcdkagngnaaGreat
open Go.RowKit Go.Maps
set_option linter.unusedVariables false

/-- Where an object has no such pointer, nothing is changed. -/
theorem lead_none {m : Al} {xs : List Nat} {i p t : Int} (h : (placeN m.bm.dev (pickN xs i : Nat) p false).code ≠ 0) : m.lead xs i p t = m := by
  unfold Al.lead Dev.setPtr
  split
  · rfl
  · rfl

/-- What is held: in use, closed. -/
structure HeldOk (m : Al) (xs : List Nat) (M : List Bool) : Prop where
  shut : ShutBy m.used (fun x : Nat => ptrsD m.bm.dev (x : Int)) M
  us : ∀ x, M.getD x false = true → m.used.getD x false = true
  len : M.length = m.used.length
  full : ∀ a, m.used.getD a false = true → a ∈ xs
section
variable {m : Al} {xs : List Nat} {M M' : List Bool} {B : Nat}
theorem HeldOk.closed (h : HeldOk m xs M) : ∀ x ∈ onesL M, ∀ y ∈ ptrsD m.bm.dev (x : Int), m.used.getD y false = true → M.getD y false = true := fun x hx y hy hu => h.shut x (mem_onesL.1 hx) y hy hu
/-- A pointer of what isn't held. -/
theorem HeldOk.led (h : HeldOk m xs M) (hw : WOk B m xs) (hB : B ≤ 200) {i p t : Int} (hM : M.getD (pickN xs i) false = false) : HeldOk (m.lead xs i p t) xs M := by
  refine ⟨fun x hx y hy hu => ?_, fun x hx => by rw [lead_used]; exact h.us x hx, by rw [lead_used]; exact h.len, fun a ha => h.full a (by rw [lead_used] at ha; exact ha)⟩
  rw [lead_used] at hu
  have hxx := h.full x (h.us x hx)
  have hne : x ≠ pickN xs i := fun e => by rw [← e, hx] at hM; cases hM
  exact h.shut x hx y (by show y ∈ ptrsO m x; have := (lead_ptrs hw hB i p t).1 x hxx hne; rw [← this]; exact hy) hu
/-- A pointer of what is held, and where it leads is added. -/
theorem HeldOk.add (h : HeldOk m xs M) (hw : WOk B m xs) (hB : B ≤ 200) {i p t : Int} (ha : Added (m.lead xs i p t).used (fun x : Nat => ptrsD (m.lead xs i p t).bm.dev (x : Int)) M (pickN xs t) M') : HeldOk (m.lead xs i p t) xs M' := by
  refine ⟨ha.shut (fun x hx y hy hu => ?_), ha.used (fun x hx => by rw [lead_used]; exact h.us x hx), by rw [ha.len, lead_used]; exact h.len, fun a ha => h.full a (by rw [lead_used] at ha; exact ha)⟩
  rw [lead_used] at hu
  have hxx := h.full x (h.us x hx)
  by_cases e : x = pickN xs i
  · rcases (lead_ptrs hw hB i p t).2 y (by rw [← e]; exact hy) with c | c
    · exact .inl (h.shut x hx y (by rw [e]; exact c) hu)
    · exact .inr c
  · exact .inl (h.shut x hx y (by show y ∈ ptrsO m x; have := (lead_ptrs hw hB i p t).1 x hxx e; rw [← this]; exact hy) hu)
theorem HeldOk.reset {x : Nat} (hf : ∀ a, m.used.getD a false = true → a ∈ xs) (ha : Added m.used (fun x : Nat => ptrsD m.bm.dev (x : Int)) (List.replicate m.used.length false) x M') : HeldOk m xs M' := by
  have hz : ∀ z : Nat, (List.replicate m.used.length false).getD z false = false := fun z => by rw [List.getD_eq_getElem?_getD, List.getElem?_replicate]; split <;> rfl
  refine ⟨ha.shut (fun z hx => ?_), ha.used (fun z hx => ?_), by rw [ha.len]; simp, hf⟩
  · rw [hz] at hx; cases hx
  · rw [hz] at hx; cases hx
end

/-- A heap, what is held of it, blocks of the law's own. -/
structure MemH (w1 wr : World) (q hp : Nat) (E : List Nat) (A : AF) (R : List Nat) (n N : Nat) (m : Al) (sa : Option Addr) (l sc : Nat) (xs : List Nat) (X : SetF) (M : List Bool) : Prop where
  pp : Hp w1 wr (q :: hp :: (X.list ++ E)) (A.re R) n 4 N m (.slice sa l sc) xs
  mr : MemR w1.heap.size wr [⟨q, 28, [valloc A, vdev A.X.F, .slice sa l sc], true⟩]
  hd : HdAt wr (A.re R) hp X M
  lo : ∀ k ∈ q :: hp :: (X.list ++ E), w1.heap.size ≤ k
  qn : q ∉ X.list
section
variable {w1 wr w' : World} {q hp : Nat} {E : List Nat} {A : AF} {R R' : List Nat} {n N N' : Nat} {m m' : Al} {sa : Option Addr} {l sc : Nat} {xs : List Nat} {X : SetF} {M M' : List Bool}
theorem MemH.later (h : MemH w1 wr q hp E A R n N m sa l sc xs X M) (hb : Below wr.heap.size wr w') : MemH w1 w' q hp E A R n N m sa l sc xs X M :=
  ⟨h.pp.later hb, h.mr.later hb, h.hd.later hb, h.lo, h.qn⟩
theorem MemH.led (h : MemH w1 wr q hp E A R n N m sa l sc xs X M) (hh : Hp w1 w' (q :: hp :: (X.list ++ E)) (A.re R') n 4 N' m' (.slice sa l sc) xs) (hk : Off (q :: hp :: (X.list ++ E)) wr w') : MemH w1 w' q hp E A R' n N' m' sa l sc xs X M := by
  refine ⟨hh, h.mr.off hk (by simp), ⟨(hk.block (by simp) h.hd.lt).trans h.hd.head, h.hd.set.keep (fun k hx => hk.block (by simp [hx]) (h.hd.set.mem k hx)), h.hd.ne, fun k hx hm => (hh.new k hm).2 (by simp [hx])⟩, h.lo, h.qn⟩
theorem MemH.add (h : MemH w1 wr q hp E A R n N m sa l sc xs X M) (hd : HdAt w' (A.re R) hp X M') (ht : Touch X.list wr w') : MemH w1 w' q hp E A R n N m sa l sc xs X M' :=
  ⟨h.pp.own (ht.wide (fun k hk => by simp [hk])) h.lo, h.mr.apart ht (by simp; exact h.qn), hd, h.lo, h.qn⟩
theorem MemH.more (h : MemH w1 wr q hp E A R n N m sa l sc xs X M) (hb : Below wr.heap.size wr w') {E' : List Nat} (hE : ∀ k ∈ E', k ∈ E ∨ (wr.heap.size ≤ k ∧ k < w'.heap.size)) : MemH w1 w' q hp E' A R n N m sa l sc xs X M := by
  have hs := h.pp.below.size
  refine ⟨h.pp.more (fun k hk => ?_) hb, h.mr.later hb, h.hd.later hb, fun k hk => ?_, h.qn⟩
  · simp only [List.mem_cons, List.mem_append] at hk ⊢
    rcases hk with c | c | c | c
    · exact .inl (.inl c)
    · exact .inl (.inr (.inl c))
    · exact .inl (.inr (.inr (.inl c)))
    · exact (hE k c).elim (fun c => .inl (.inr (.inr (.inr c)))) .inr
  · simp only [List.mem_cons, List.mem_append] at hk
    rcases hk with c | c | c | c
    · exact h.lo k (by simp [c])
    · exact h.lo k (by simp [c])
    · exact h.lo k (by simp [c])
    · rcases hE k c with c | c
      · exact h.lo k (by simp [c])
      · omega
theorem MemH.mono (h : MemH w1 wr q hp E A R n N m sa l sc xs X M) (hN : N ≤ N') : MemH w1 wr q hp E A R n N' m sa l sc xs X M := ⟨h.pp.mono (Nat.le_refl _) hN, h.mr, h.hd, h.lo, h.qn⟩
theorem Cells.off {a : Option Addr} {vs : List Value} {Q : List Nat} (h : Cells wr a vs) (ho : Off Q wr w') (hm : ∀ z, a = some z → z.block ∈ Q) : Cells w' a vs := by
  obtain ⟨L, h1, h2⟩ := ho
  exact h.touchL h1 (fun z hz _ => h2 _ (hm z hz))
end

set_option maxHeartbeats 8000000 in
set_option maxRecDepth 100000 in
theorem holdClosed_any (a : Option Addr) (mm cap : Nat) (s : List Op20) (hm : s.length = mm) (from_ : Int) (w : World) (hcs : Cells w a (recs Op20.cs s)) (hmm : mm ≤ maxLen) :
    Calls Tryz.prog 10 #[.slice a mm cap, .int .i64 from_] w (Gives (.bool true) w) := by
  unfold maxLen at hmm
  have HM := Lib.hid hm
  have HCS := Lib.hid hcs
  clear hm hcs
  have HP : Hid (∀ w', Below w.heap.size w w' → Gives (.bool true) w (.returned (.bool true)) w') := Lib.hid (fun w' h => ⟨rfl, h⟩)
  generalize Gives (.bool true) w = Post at *
  go_enter Tryz.func10, Tryz.ntmps10
  go_wp2_with fail
  refine (awake20_any _).mono ?_
  rintro e w1 ⟨rfl, hb1⟩
  have HB1 := Lib.hid hb1
  clear hb1
  go_wp2_with fail
  refine (begun20_any 4 (by omega) (by omega) _).mono ?_
  rintro e w2 ⟨A, n, rfl, ha, hn, hA, hb⟩
  have hh := Hp.begun (w := w1) (by omega) (by omega) ha hA (Below.refl _ _) hb (Q := []) (by simp)
  obtain ⟨q, hq⟩ : ∃ q, q = w2.heap.size := ⟨_, rfl⟩
  have HH : Hid (Hp w1 (w2.alloc (.cells #[valloc A, vdev A.X.F, .slice none 0 0] 28)) [q] A n 4 201000 (al0 4) (.slice none 0 0) []) := Lib.hid (hh.more (fun k hk => by
    simp only [List.mem_cons, List.not_mem_nil, or_false] at hk
    subst hk
    exact .inr ⟨by rw [hq]; exact Nat.le_refl _, by simp [hq]⟩) (below_alloc _ _))
  have HMr : Hid (MemR w1.heap.size (w2.alloc (.cells #[valloc A, vdev A.X.F, .slice none 0 0] 28)) [⟨q, 28, [valloc A, vdev A.X.F, .slice none 0 0], true⟩]) := Lib.hid (by
    have := ((⟨by simp, by simp, by simp, hb.size⟩ : MemR w1.heap.size w2 []).alloc #[valloc A, vdev A.X.F, .slice none 0 0] 28)
    rw [← hq] at this
    exact this)
  have HN := Lib.hid hn
  clear ha hA hb hh hn
  go_upto_region 4 with fail
  rw [← hq]
  generalize w2.alloc _ = w3 at *
  clear hq
  go_upto_block 0 with fail
  go_cut [] (fun wc => ∃ (R : List Nat) (m : Al) (sa : Option Addr) (l sc : Nat) (xs : List Nat), l = xs.length ∧ Hid (Hp w1 wc [q] (A.re R) (n + 120) 4 13000000 m (.slice sa l sc) xs) ∧ Hid (MemR w1.heap.size wc [⟨q, 28, [valloc A, vdev A.X.F, .slice sa l sc], true⟩]) ∧ Hid (∀ a, m.used.getD a false = true → a ∈ xs))
  case first =>
    go_wp2_with fail
    go_loopw [6, 7] (fun f i wr => ∃ (k : Nat) (R : List Nat) (m : Al) (v : Value) (xs : List Nat), k ≤ mm ∧ k ≤ 20 ∧ f = .bool true ∧ i = .int .i64 (k : Int) ∧ Hid (Hp w1 wr [q] (A.re R) (n + 6 * k) 4 (201000 + 600000 * k) m v xs) ∧ Hid (MemR w1.heap.size wr [⟨q, 28, [valloc A, vdev A.X.F, v], true⟩]) ∧ Hid (∀ a, m.used.getD a false = true → a ∈ xs)) (fun _ i _ => 20 - (intOf i).toNat)
    case atStart => exact ⟨0, A.R, _, _, _, Nat.zero_le _, Nat.zero_le _, rfl, rfl, HH, HMr, Lib.hid (full_begun 4)⟩
    case round =>
      clear HH HMr
      obtain ⟨k, R, m, v, xs, hkm, hk20, rfl, rfl, HH, HMr, HFu⟩ := hrel
      have hN := HN.out
      obtain ⟨sa, sc, rfl, _⟩ := HH.out.at_.own.cells
      by_cases hlt : k < mm ∧ k < 20
      · obtain ⟨h1, h2⟩ := hlt
        have h1' : (k : Int) < (mm : Int) := by omega
        have h2' : (k : Int) < 20 := by omega
        have hkl : k < s.length := by rw [HM.out]; exact h1
        obtain ⟨b1, o1, rfl, hbl, hcell⟩ := recs_cells Op20.len (by decide) (⟨0, 0, 0, 0⟩ : Op20) (HCS.out.below (HB1.out.trans (HH.out.below.mono HB1.out.size)) (Nat.le_refl _)) hkl
        generalize s.getD k ⟨0, 0, 0, 0⟩ = o at *
        obtain ⟨ok, oi, op, ot⟩ := o
        have e0 : wr.cell? ⟨b1, o1 + k * 4, none⟩ = some (.int .i64 ok) := hcell 0 _ rfl
        have e1 : wr.cell? ⟨b1, o1 + k * 4 + 1, none⟩ = some (.int .i64 oi) := hcell 1 _ rfl
        have e2 : wr.cell? ⟨b1, o1 + k * 4 + 2, none⟩ = some (.int .i64 op) := hcell 2 _ rfl
        have e3 : wr.cell? ⟨b1, o1 + k * 4 + 3, none⟩ = some (.int .i64 ot) := hcell 3 _ rfl
        clear hcell hkl
        obtain ⟨l, hl⟩ : ∃ l, l = xs.length := ⟨_, rfl⟩
        rw [← hl] at HH HMr
        clear hl
        by_cases hk2 : ok < 2
        · have c0 := HMr.out.cell 0 0 rfl rfl
          have c1 := HMr.out.cell 0 1 rfl rfl
          have c2 := HMr.out.cell 0 2 rfl rfl
          have r0 := fun x => later_cell c0 x
          have r1 := fun x => later_cell c1 x
          have r2 := fun x => later_cell c2 x
          have q0 := fun x => later_cell e0 x
          have q1 := fun x => later_cell e1 x
          have q2 := fun x => later_cell e2 x
          have q3 := fun x => later_cell e3 x
          go_upto_region 10 with fail
          refine wp_region_tr (C := fun w' => ∃ x : Later (wr), w' = x.val) (.fl [0, 1, 2, 3, 4] (.sq [5, 6] false (.pu [7, 8, 9] (.sq [10, 11] false (.nil))))) (by kernel_rfl) (by kernel_rfl) (by intro c a d v w h; cases d <;> exact h) ?_
          simp only [trO, picks, List.getElem?_cons_succ, List.getElem?_cons_zero]
          have hC1 := later_drew (wr)
          have HH6 := Lib.hid (HH.out.later (later_below hC1))
          have HMr6 := Lib.hid (HMr.out.later (later_below hC1))
          refine wpTr_fl hC1 ?_
          repeat (first | go_big_quiet_step (fail) | quiet_step (fail))
          refine wpQuiet_nil ?_
          clear r0 r1 r2 q0 q1 q2 q3 c0 c1 c2 e0 e1 e2 e3 HH HMr
          generalize wr.drew = w6 at *
          refine wpTr_sq (fun K hK => ?_)
          go_wp2_with fail
          refine (ddo20_any HH6.out (by intro z hz; simp at hz; subst hz; exact HMr6.out.gbase 0 rfl) (by omega) (by omega) HFu.out ok oi op ot hk2).mono ?_
          rintro e w7 ⟨m', v', xs', R', rfl, hh, hk, hf⟩
          have HH7 : Hid (Hp w1 w7 [q] (A.re R') (n + 6 * (k + 1)) 4 (201000 + 600000 * (k + 1)) m' v' xs') := Lib.hid (hh.mono (by omega) (by omega))
          have HMr7 := Lib.hid (HMr6.out.off hk (by simp))
          have HFu7 := Lib.hid hf
          obtain ⟨sa', sc', rfl, _⟩ := hh.at_.own.cells
          obtain ⟨l', hl'⟩ : ∃ l', l' = xs'.length := ⟨_, rfl⟩
          rw [← hl'] at HH7 ⊢
          clear hh hk hf hl' HH6 HMr6
          go_wp2_with fail
          refine hK _ _ (fun h => nomatch h) ?_
          clear hK K
          refine wpTr_pu ?_
          repeat (first | go_big_quiet_step (fail) | quiet_step (fail))
          refine wpQuiet_nil ?_
          refine wpTr_last ?_
          go_wp2_with (refine wpList_store_r aggW HMr7.out 0 rfl rfl rfl rfl rfl rfl rfl rfl ?_; intro w8 h8 ht8; have HM8 := Lib.hid h8; have HT8 := Lib.hid ht8; clear h8 ht8)
          have HH8 := Lib.hid (HH7.out.own (HT8.out.wide (by simp)) (by intro z hz; simp at hz; subst hz; exact HMr7.out.gbase 0 rfl))
          clear HH7 HMr7 HT8
          go_wp2_with fail
          refine ⟨⟨k + 1, R', m', _, xs', by omega, by omega, rfl, vint (by omega), HH8, HM8, HFu7⟩, ?_⟩
          simp [intOf]; omega
        · have hk2' : decide (ok < 2) = false := by simpa using hk2
          go_wp2_with fail
          refine ⟨⟨k + 1, R, m, _, xs, by omega, by omega, rfl, vint (by omega), Lib.hid (HH.out.mono (by omega) (by omega)), HMr, HFu⟩, ?_⟩
          simp [intOf]; omega
      · have hor : (k : Int) = (mm : Int) ∨ ((k : Int) < (mm : Int) ∧ (k : Int) = 20) := by omega
        have HEnd : Hid (∃ (R : List Nat) (m : Al) (sa : Option Addr) (l sc : Nat) (xs : List Nat), l = xs.length ∧ Hid (Hp w1 wr [q] (A.re R) (n + 120) 4 13000000 m (.slice sa l sc) xs) ∧ Hid (MemR w1.heap.size wr [⟨q, 28, [valloc A, vdev A.X.F, .slice sa l sc], true⟩]) ∧ Hid (∀ a, m.used.getD a false = true → a ∈ xs)) :=
          Lib.hid ⟨R, m, sa, _, sc, xs, rfl, Lib.hid (HH.out.mono (by omega) (by omega)), HMr, HFu⟩
        clear hlt HH HMr
        rcases hor with h1 | ⟨h1, h2⟩
        · obtain rfl : k = mm := by omega
          have hlt' : decide ((k : Int) < (k : Int)) = false := by simp
          clear h1
          go_wp2_with fail
          go_meet
          exact HEnd.out
        · obtain rfl : k = 20 := by omega
          clear h2
          go_wp2_with fail
          go_meet
          exact HEnd.out
  case rest =>
    clear HH HMr
    obtain ⟨R, m, sa, l, sc, xs, hl, HH, HMr, HFu⟩ := hcut
    have HL := Lib.hid hl
    clear hl
    have HNa : Hid (n + 120 ≤ 1000120) := Lib.hid (by have := HN.out; omega)
    generalize n + 120 = n1 at *
    have hul := HH.out.ok.ok.lenU
    have hcl := HH.out.ok.ok.len
    have HUl : Hid (m.used.length = 2048) := Lib.hid hul
    have HNw := Lib.hid (hnew_any HH.out.at_.al (by rw [hcl]; omega) (by rw [hcl]; omega))
    have c0 := HMr.out.cell 0 0 rfl rfl
    rw [show m.bm.dev.cache.length = m.used.length by rw [hcl, hul]] at HNw
    clear hul hcl HN
    go_upto_region 13 with fail
    go_wp2_with fail
    refine HNw.out.mono ?_
    rintro e w8 ⟨hp, X, rfl, hd8, hb8, hp8, hx8⟩
    have HH8 := Lib.hid (HH.out.later hb8)
    have HMe : Hid (MemH w1 w8 q hp [] A R n1 13000000 m sa l sc xs X (List.replicate m.used.length false)) := Lib.hid (by
      have h1 := HH.out.below.size
      have h2 := HH.out.qlt q (by simp)
      refine ⟨HH.out.more (fun k hk => ?_) hb8, HMr.out.later hb8, hd8, fun k hk => ?_, fun hm => by have := hx8 q hm; omega⟩
      · simp only [List.mem_cons, List.mem_append, List.not_mem_nil, or_false] at hk
        rcases hk with c | c | c
        · exact .inl (by simp [c])
        · subst c; exact .inr ⟨hp8, hd8.lt⟩
        · exact .inr ⟨hx8 k c, hd8.set.mem k c⟩
      · simp only [List.mem_cons, List.mem_append, List.not_mem_nil, or_false] at hk
        rcases hk with c | c | c
        · subst c; exact HMr.out.gbase 0 rfl
        · subst c; omega
        · have := hx8 k c; omega)
    clear hd8 hb8 hp8 hx8 c0 HNw HH HMr HH8
    go_upto_region 16 with fail
    go_wp2_with (refine wpList_load_r aggW HMe.out.mr 0 rfl rfl rfl rfl rfl ?_)
    refine (wpick_any _ _ _ xs HMe.out.pp.at_.own (by have := HMe.out.pp.ok.len; omega) from_).mono ?_
    rintro e w9 ⟨rfl, hb9⟩
    have hx9 : pickN xs from_ ≤ 2048 := by
      by_cases c : pickN xs from_ = 0
      · omega
      · have := (HMe.out.pp.ok.lt (pickN_mem c)).2; omega
    obtain ⟨g, hg⟩ : ∃ g, g = w9.heap.size := ⟨_, rfl⟩
    have HM9 := Lib.hid (HMe.out.later (hb9.trans ((below_alloc w9 (.cells #[.int .i64 ((pickN xs from_ : Nat) : Int)] 3)).mono hb9.size)))
    have HC9 : Hid (Cells (w9.alloc (.cells #[.int .i64 ((pickN xs from_ : Nat) : Int)] 3)) (some ⟨g, 0, none⟩) ([pickN xs from_].map vi)) := Lib.hid (by rw [hg]; exact RowAt.cells ⟨_, heap_alloc_new _ _, [], rfl⟩)
    have HG9 : Hid (g ∉ X.list) := Lib.hid (fun hm => by have := HMe.out.hd.set.mem g hm; have := hb9.size; omega)
    generalize pickN xs from_ = x0 at *
    have HRs := Lib.hid (hreset_any HM9.out.pp.at_.al HM9.out.hd (by simp) (by rw [HUl.out]; omega) x0 (by omega) _ 1 HC9.out (fun z hz => by cases hz; exact HG9.out))
    rw [hg] at HRs
    clear hb9 hg HC9 HG9 HMe hx9
    go_wp2_with fail
    refine HRs.out.mono ?_
    rintro e w10 ⟨rfl, M0, hd10, hh10, ht10⟩
    have HM10 := Lib.hid (HM9.out.add hh10 ht10)
    have HK10 := Lib.hid (HeldOk.reset HFu.out hd10)
    clear HM9 HRs hd10 hh10 ht10 HFu
    go_wp2_with fail
    go_loopw [9] (fun i wr => ∃ (k : Nat) (R : List Nat) (m : Al) (M : List Bool), k ≤ mm ∧ k ≤ 20 ∧ i = .int .i64 (k : Int) ∧ Hid (MemH w1 wr q hp [] A R n1 (13000000 + k) m sa l sc xs X M) ∧ Hid (HeldOk m xs M)) (fun i _ => 20 - (intOf i).toNat)
    case atStart => exact ⟨0, R, m, M0, Nat.zero_le _, Nat.zero_le _, rfl, HM10, HK10⟩
    case round =>
      clear HM10 HK10 HUl
      obtain ⟨k, R, m, M, hkm, hk20, rfl, HMe, HKo⟩ := hrel
      have HCl := Lib.hid (hclosed_any HMe.out.pp.at_.al HMe.out.hd.set HMe.out.hd.head HKo.out.closed)
      by_cases hlt : k < mm ∧ k < 20
      · obtain ⟨h1, h2⟩ := hlt
        have h1' : (k : Int) < (mm : Int) := by omega
        have h2' : (k : Int) < 20 := by omega
        go_wp2_with fail
        refine HCl.out.mono ?_
        rintro e w11 ⟨rfl, hb11⟩
        have HM11 := Lib.hid (HMe.out.later hb11)
        have HLs := Lib.hid (hlist_any HM11.out.hd)
        clear hb11 HCl HMe
        go_wp2_with fail
        refine HLs.out.mono ?_
        intro e w12 hp12
        obtain ⟨la, lc, rfl, hcl, hb12, hla⟩ := hp12.own
        have HCs : Hid (Cells w12 la ((onesL M).map vi)) := Lib.hid hcl
        have HM12 : Hid (MemH w1 w12 q hp [] A R n1 (13000000 + k) m sa l sc xs X M) := Lib.hid (HM11.out.later hb12)
        have HLa : Hid (∀ z, la = some z → onesL M ≠ [] → w11.heap.size ≤ z.block ∧ z.block < w12.heap.size) := Lib.hid (fun z hz hne => ⟨by subst hz; exact hla _ _ _ rfl, by
          obtain ⟨b, o, e, _, hc⟩ := hcl.at (i := 0) (by rw [List.length_map]; exact List.length_pos_iff.2 hne)
          rw [hz] at e
          cases e
          have := World.block_lt_of_cell? w12 _ (hc 0 _ (List.getElem?_eq_getElem (by rw [List.length_map]; exact List.length_pos_iff.2 hne)))
          exact this⟩)
        have hkl : k < s.length := by rw [HM.out]; exact h1
        obtain ⟨b1, o1, rfl, hbl, hcell⟩ := recs_cells Op20.len (by decide) (⟨0, 0, 0, 0⟩ : Op20) (HCS.out.below (HB1.out.trans (HM12.out.pp.below.mono HB1.out.size)) (Nat.le_refl _)) hkl
        generalize s.getD k ⟨0, 0, 0, 0⟩ = o at *
        obtain ⟨ok, oi, op, ot⟩ := o
        have e0 : w12.cell? ⟨b1, o1 + k * 4, none⟩ = some (.int .i64 ok) := hcell 0 _ rfl
        have e1 : w12.cell? ⟨b1, o1 + k * 4 + 1, none⟩ = some (.int .i64 oi) := hcell 1 _ rfl
        have e2 : w12.cell? ⟨b1, o1 + k * 4 + 2, none⟩ = some (.int .i64 op) := hcell 2 _ rfl
        have e3 : w12.cell? ⟨b1, o1 + k * 4 + 3, none⟩ = some (.int .i64 ot) := hcell 3 _ rfl
        obtain ⟨g, hg⟩ : ∃ g, g = w12.heap.size := ⟨_, rfl⟩
        have HMo : Hid (MemR w1.heap.size (w12.alloc (.cells #[.int .i64 ok, .int .i64 oi, .int .i64 op, .int .i64 ot] 75)) [⟨g, 75, [.int .i64 ok, .int .i64 oi, .int .i64 op, .int .i64 ot], true⟩]) := Lib.hid (by
          have := ((⟨by simp, by simp, by simp, HM12.out.pp.below.size⟩ : MemR w1.heap.size w12 []).alloc #[.int .i64 ok, .int .i64 oi, .int .i64 op, .int .i64 ot] 75)
          rw [← hg] at this
          exact this)
        obtain ⟨E, hE⟩ : ∃ E, E = g :: ((if onesL M = [] then none else la).map (fun z => z.block)).toList := ⟨_, rfl⟩
        have hEw : ∀ z ∈ E, w11.heap.size ≤ z ∧ z < (w12.alloc (.cells #[.int .i64 ok, .int .i64 oi, .int .i64 op, .int .i64 ot] 75)).heap.size := fun z hz => by
          rw [hE] at hz
          have := hb12.size
          rcases List.mem_cons.1 hz with c | c
          · subst c; simp [hg]; exact this
          · by_cases hne : onesL M = []
            · rw [if_pos hne] at c; simp at c
            · rw [if_neg hne] at c
              cases la with
              | none => simp at c
              | some y =>
                simp at c
                subst c
                have := HLa.out y rfl hne
                simp; omega
        have HMe : Hid (MemH w1 (w12.alloc (.cells #[.int .i64 ok, .int .i64 oi, .int .i64 op, .int .i64 ot] 75)) q hp E A R n1 (13000000 + k) m sa l sc xs X M) := Lib.hid (HM11.out.more (hb12.trans ((below_alloc _ _).mono hb12.size)) (fun z hz => .inr (hEw z hz)))
        have HEx : Hid (∀ z ∈ E, z ∉ X.list) := Lib.hid (fun z hz hm => by have := HM11.out.hd.set.mem z hm; have := (hEw z hz).1; omega)
        have HCs2 : Hid (Cells (w12.alloc (.cells #[.int .i64 ok, .int .i64 oi, .int .i64 op, .int .i64 ot] 75)) la ((onesL M).map vi)) := Lib.hid (HCs.out.below (below_alloc _ _) (Nat.le_refl _))
        have HEm : Hid (g ∈ E ∧ ∀ z, la = some z → onesL M ≠ [] → z.block ∈ E) := Lib.hid (by
          rw [hE]
          refine ⟨by simp, fun z hz hne => ?_⟩
          rw [if_neg hne, hz]
          simp)
        clear hcell hkl hp12 hcl hb12 hla HCs HM12 HLa HM11 HLs hE hEw
        go_upto_region 24 with fail
        rw [← hg]
        generalize w12.alloc _ = w13 at *
        clear hg e0 e1 e2 e3
        obtain ⟨ll, hll⟩ : ∃ ll, ll = (onesL M).length := ⟨_, rfl⟩
        rw [← hll]
        have HLl := Lib.hid hll
        have hl9 : ll ≤ 2048 := by
          have h1 := HMe.out.pp.ok.ok.lenU
          have h2 := HKo.out.len
          have h3 : (onesL M).length ≤ M.length := by rw [onesL_length]; exact count_le_len M
          omega
        clear hll
        have d1 := HMo.out.cell 0 1 rfl rfl
        go_wp2_with (refine wpList_load_r aggW HMe.out.mr 0 rfl rfl rfl rfl rfl ?_)
        refine (wpick_any _ _ _ xs HMe.out.pp.at_.own (by have := HMe.out.pp.ok.len; omega) oi).mono ?_
        rintro e w14 ⟨rfl, hb14⟩
        have HM14 := Lib.hid (HMe.out.later hb14)
        have HMo14 := Lib.hid (HMo.out.later hb14)
        have HCs14 := Lib.hid (HCs2.out.below hb14 (Nat.le_refl _))
        obtain ⟨x, hx⟩ : ∃ x, pickN xs oi = x := ⟨_, rfl⟩
        rw [hx]
        have HX := Lib.hid hx
        clear hb14 HMe HMo HCs2 hx d1
        go_upto_if 87 with fail
        go_cut [] (fun wc => ∃ (R2 : List Nat) (m2 : Al) (M2 : List Bool), Hid (MemH w1 wc q hp E A R2 n1 (13000000 + (k + 1)) m2 sa l sc xs X M2) ∧ Hid (HeldOk m2 xs M2) ∧ Hid (∀ y, M.getD y false = true → M2.getD y false = true) ∧ Hid (Cells wc la ((onesL M).map vi)))
        case first =>
          have HSkip : Hid (∃ (R2 : List Nat) (m2 : Al) (M2 : List Bool), Hid (MemH w1 w14 q hp E A R2 n1 (13000000 + (k + 1)) m2 sa l sc xs X M2) ∧ Hid (HeldOk m2 xs M2) ∧ Hid (∀ y, M.getD y false = true → M2.getD y false = true) ∧ Hid (Cells w14 la ((onesL M).map vi))) := Lib.hid ⟨R, m, M, Lib.hid (HM14.out.mono (by omega)), HKo, Lib.hid (fun y h => h), HCs14⟩
          by_cases hx0 : x = 0
          · have hx0' : decide ((0 : Int) < (x : Int)) = false := by simp; omega
            have hx0'' : decide (0 < x) = false := by simp; omega
            go_wp2_with fail
            go_meet
            exact HSkip.out
          · have hx0' : (0 : Int) < (x : Int) := by omega
            have c1 := HM14.out.mr.cell 0 1 rfl rfl
            have d2 := HMo14.out.cell 0 2 rfl rfl
            clear HSkip
            go_wp2_with fail
            refine (optrG_any HM14.out.pp.at_.al.man.dev (x : Int) op).mono ?_
            rintro e w15 ⟨rfl, hb15⟩
            have HLn : Hid ((placeN m.bm.dev (x : Int) op false).code ≠ 0 → m.lead xs oi op ot = m) := Lib.hid (fun h => lead_none (by rw [HX.out]; exact h))
            generalize ((if (placeN m.bm.dev (x : Int) op false).code = 0 then capP (peek m.bm.dev.cache (placeN m.bm.dev (x : Int) op false).at_) else 0 : Nat) : Int) = pv at *
            generalize (placeN m.bm.dev (x : Int) op false).code = cd at *
            have HM15 := Lib.hid (HM14.out.later hb15)
            have HMo15 := Lib.hid (HMo14.out.later hb15)
            have HCs15 := Lib.hid (HCs14.out.below hb15 (Nat.le_refl _))
            clear hb15 c1 d2 HM14 HMo14 HCs14
            have d1 := HMo15.out.cell 0 1 rfl rfl
            have d2 := HMo15.out.cell 0 2 rfl rfl
            have d3 := HMo15.out.cell 0 3 rfl rfl
            go_upto_region 27 with fail
            go_wp2_with (refine wpList_load_r aggW HM15.out.mr 0 rfl rfl rfl rfl rfl ?_)
            refine (HM15.out.pp.lead (by omega) (by omega) oi op ot).mono ?_
            rintro e w16 ⟨R', rfl, hh, hk⟩
            have HM16 : Hid (MemH w1 w16 q hp E A R' n1 (13000000 + (k + 1)) (m.lead xs oi op ot) sa l sc xs X M) := Lib.hid ((HM15.out.led hh hk).mono (by omega))
            have HMo16 := Lib.hid (HMo15.out.off hk (by simp; exact .inr (.inr (.inr HEm.out.1))))
            have HCs16 : Hid (Cells w16 la ((onesL M).map vi)) := Lib.hid (by
              by_cases hne : onesL M = []
              · rw [hne]; exact .inl rfl
              · exact HCs15.out.off hk (fun z hz => by simp; exact .inr (.inr (.inr (HEm.out.2 z hz hne)))))
            have HWk := Lib.hid HM15.out.pp.ok
            clear hh hk d1 d2 d3 HM15 HMo15 HCs15
            by_cases hc : cd = 0
            · subst hc
              have HHs := Lib.hid (hhas_any HM16.out.hd x)
              cases hMx : M.getD x false with
              | false =>
                rw [hMx] at HHs
                have HEnd : Hid (∃ (R2 : List Nat) (m2 : Al) (M2 : List Bool), Hid (MemH w1 w16 q hp E A R2 n1 (13000000 + (k + 1)) m2 sa l sc xs X M2) ∧ Hid (HeldOk m2 xs M2) ∧ Hid (∀ y, M.getD y false = true → M2.getD y false = true) ∧ Hid (Cells w16 la ((onesL M).map vi))) := Lib.hid ⟨R', _, M, HM16, Lib.hid (HKo.out.led HWk.out (by omega) (by rw [HX.out]; exact hMx)), Lib.hid (fun y h => h), HCs16⟩
                clear hMx HM16 HMo16 HCs16
                go_wp2_with fail
                refine HHs.out.mono ?_
                rintro e w17 ⟨rfl, rfl⟩
                go_wp2_with fail
                go_meet
                exact HEnd.out
              | true =>
                rw [hMx] at HHs
                clear hMx
                have d3 := HMo16.out.cell 0 3 rfl rfl
                go_wp2_with fail
                refine HHs.out.mono ?_
                rintro e w17 ⟨rfl, rfl⟩
                go_upto_region 29 with fail
                go_wp2_with (refine wpList_load_r aggW HM16.out.mr 0 rfl rfl rfl rfl rfl ?_)
                refine (wpick_any _ _ _ xs HM16.out.pp.at_.own (by have := HM16.out.pp.ok.len; omega) ot).mono ?_
                rintro e w18 ⟨rfl, hb18⟩
                have HM18 := Lib.hid (HM16.out.later hb18)
                have HCs18 := Lib.hid (HCs16.out.below hb18 (Nat.le_refl _))
                have HUl : Hid ((m.lead xs oi op ot).used.length = 2048) := Lib.hid HM18.out.pp.ok.ok.lenU
                have HAd := Lib.hid (hadd_any HM18.out.pp.at_.al HM18.out.hd (by rw [lead_used]; exact HKo.out.len) (by rw [HUl.out]; omega) (pickN xs ot) (by
                  by_cases c : pickN xs ot = 0
                  · omega
                  · have := (HM18.out.pp.ok.lt (pickN_mem c)).2; omega))
                have HTo := Lib.hid (fun M' h => HKo.out.add HWk.out (by omega) (i := oi) (p := op) (t := ot) (M' := M') h)
                generalize pickN xs ot = y at *
                clear hb18 d3 HM16 HMo16 HCs16 HHs
                go_wp2_with fail
                refine HAd.out.mono ?_
                rintro e w19 ⟨M', rfl, had, hh19, ht19⟩
                have HEnd : Hid (∃ (R2 : List Nat) (m2 : Al) (M2 : List Bool), Hid (MemH w1 w19 q hp E A R2 n1 (13000000 + (k + 1)) m2 sa l sc xs X M2) ∧ Hid (HeldOk m2 xs M2) ∧ Hid (∀ y, M.getD y false = true → M2.getD y false = true) ∧ Hid (Cells w19 la ((onesL M).map vi))) := Lib.hid ⟨R', _, M', Lib.hid (HM18.out.add hh19 ht19), Lib.hid (HTo.out M' had), Lib.hid had.mono, Lib.hid (by
                  by_cases hne : onesL M = []
                  · rw [hne]; exact .inl rfl
                  · refine HCs18.out.touchL ht19 (fun z hz _ hm => ?_)
                    exact HEx.out _ (HEm.out.2 z hz hne) hm)⟩
                clear had hh19 ht19 HM18 HCs18 HAd HTo
                go_wp2_with fail
                go_meet
                exact HEnd.out
            · have hc' : (cd == 0) = false := by simpa using hc
              have HEnd : Hid (∃ (R2 : List Nat) (m2 : Al) (M2 : List Bool), Hid (MemH w1 w16 q hp E A R2 n1 (13000000 + (k + 1)) m2 sa l sc xs X M2) ∧ Hid (HeldOk m2 xs M2) ∧ Hid (∀ y, M.getD y false = true → M2.getD y false = true) ∧ Hid (Cells w16 la ((onesL M).map vi))) := Lib.hid ⟨R', _, M, HM16, Lib.hid (by rw [HLn.out hc]; exact HKo.out), Lib.hid (fun y h => h), HCs16⟩
              clear HM16 HMo16 HCs16
              go_wp2_with fail
              go_meet
              exact HEnd.out
        case rest =>
          clear HM14 HMo14 HCs14 HKo
          obtain ⟨R2, m2, M2, HM2, HK2, HMM, HCs⟩ := hcut
          have HLe : Hid (∀ j, j < ll → ∃ y, (onesL M)[j]? = some y ∧ M2.getD y false = true) := Lib.hid (fun j hj => by
            rw [HLl.out] at hj
            exact ⟨_, List.getElem?_eq_getElem hj, HMM.out _ (mem_onesL.1 (List.getElem_mem hj))⟩)
          go_wp2_with fail
          go_loopw [15] (fun jv wr => ∃ j : Nat, j ≤ ll ∧ jv = .int .i64 (j : Int) ∧ wc = wr) (fun jv _ => ll - (intOf jv).toNat)
          case atStart => exact ⟨0, Nat.zero_le _, rfl, rfl⟩
          case round =>
            obtain ⟨j, hj, rfl, rfl⟩ := hrel
            by_cases hjl : j < ll
            · have hjl' : (j : Int) < (ll : Int) := by omega
              obtain ⟨y, hy, hMy⟩ := HLe.out j hjl
              obtain ⟨b2, o2, rfl, _, hc2⟩ := HCs.out.at (i := j) (by rw [List.length_map, ← HLl.out]; exact hjl)
              have cy := hc2 j (vi y) (by rw [List.getElem?_map, hy]; rfl)
              have HHs := Lib.hid (hhas_any HM2.out.hd y)
              rw [hMy] at HHs
              clear hc2 hy hMy
              go_wp2_with fail
              refine HHs.out.mono ?_
              rintro e w17 ⟨rfl, rfl⟩
              go_wp2_with fail
              exact ⟨⟨j + 1, by omega, vint (by omega), trivial⟩, by simp [intOf]; omega⟩
            · obtain rfl : j = ll := by omega
              have hjl' : decide (j < j) = false := by simp
              have HM3 : Hid (MemH w1 wc q hp [] A R2 n1 (13000000 + (k + 1)) m2 sa l sc xs X M2) := Lib.hid (HM2.out.more (Below.refl _ _) (by simp))
              go_wp2_with fail
              exact ⟨⟨k + 1, R2, m2, M2, by omega, by omega, vint (by omega), HM3, HK2⟩, by simp [intOf]; omega⟩
      · have hor : (k : Int) = (mm : Int) ∨ ((k : Int) < (mm : Int) ∧ (k : Int) = 20) := by omega
        have HEnd : Hid (∀ w6, Below wr.heap.size wr w6 → Post (.returned (.bool true)) w6) := Lib.hid (fun w6 hb => HP.out _ (HB1.out.trans ((HMe.out.later hb).pp.below.mono HB1.out.size)))
        clear hlt HMe
        rcases hor with h1 | ⟨h1, h2⟩
        · obtain rfl : k = mm := by omega
          have hlt' : decide ((k : Int) < (k : Int)) = false := by simp
          clear h1
          go_wp2_with fail
          refine HCl.out.mono ?_
          rintro e w11 ⟨rfl, hb11⟩
          have HPp := Lib.hid (HEnd.out _ hb11)
          clear hb11
          go_wp2_with fail
          exact HPp.out
        · obtain rfl : k = 20 := by omega
          clear h2
          go_wp2_with fail
          refine HCl.out.mono ?_
          rintro e w11 ⟨rfl, hb11⟩
          have HPp := Lib.hid (HEnd.out _ hb11)
          clear hb11
          go_wp2_with fail
          exact HPp.out
end Go.Proofs.YtfedgcdkagngnaaGreat

/- Slices of structs whose fields are all ints: what the reading of such an argument says. -/
namespace Go.Proofs.YtfedgcdkagngnaaGreat
open Go.RowKit Go.ChangeShapes Go.WideShapes Go.Deep
set_option linter.unusedVariables false

theorem wf_bounds {x : Int} (h : (Lit.int .i64 x).wf = true) : -9223372036854775808 ≤ x ∧ x ≤ 9223372036854775807 := by
  simp [Lit.wf, IntKind.min, IntKind.max, IntKind.bits, IntKind.signed] at h
  omega

/-- A list out of what each place holds. -/
theorem list_of {α : Type} (P : Nat → α → Prop) : ∀ n, (∀ i, i < n → ∃ x, P i x) → ∃ l : List α, l.length = n ∧ ∀ i x, l[i]? = some x → P i x
  | 0, _ => ⟨[], rfl, by simp⟩
  | n + 1, h => by
    obtain ⟨l, hl, hp⟩ := list_of P n (fun i hi => h i (by omega))
    obtain ⟨x, hx⟩ := h n (by omega)
    refine ⟨l ++ [x], by simp [hl], fun i y hy => ?_⟩
    by_cases hi : i < l.length
    · rw [List.getElem?_append_left hi] at hy; exact hp i y hy
    · rw [List.getElem?_append_right (by omega)] at hy
      have h0 : i - l.length = 0 := by
        have := (List.getElem?_eq_some_iff.1 hy).1; simp at this; omega
      rw [h0] at hy
      simp at hy
      subst hy
      rw [show i = n by omega]; exact hx

section
variable {H : Type} {enc : TypeId × Value → H} {P : Program} {w : World} {base : Nat} {spare : Nat → Bool} {held : Bool}

theorem ints_struct {e T : TypeId} {fs : Array Field} {n fuel : Nat} {us : List Value} {z : DataW H × List MemPlace} (he : P.underlying e = some (.struct fs)) (hT : P.underlying T = some (.int .i64)) (hc : P.cellsOf T = 1)
    (hF : ((List.range n).all fun j => match fs[j]? with | some f => f.type == T && f.offset == j | none => false) = true) (hlen : us.length = n) (hz : DataW.trod enc P w base spare held fuel e us = some z) :
    ∃ zs : List Int, zs.length = n ∧ us = zs.map (Value.int .i64) ∧ ∀ x ∈ zs, -9223372036854775808 ≤ x ∧ x ≤ 9223372036854775807 := by
  obtain ⟨ys, n', _, _, _, hyl, hf⟩ := DataW.trod_struct he hz
  have each : ∀ j, j < n → ∃ x : Int, us[j]? = some (.int .i64 x) ∧ (-9223372036854775808 ≤ x ∧ x ≤ 9223372036854775807) := by
    intro j hj
    have h1 := List.all_eq_true.1 hF j (List.mem_range.2 hj)
    cases hfj : fs[j]? with
    | none => rw [hfj] at h1; cases h1
    | some f =>
      rw [hfj] at h1
      simp only [Bool.and_eq_true, beq_iff_eq] at h1
      have h2 := hf j f hfj
      rw [h1.1, h1.2, hc] at h2
      have hjs : j < ys.length := by rw [hyl]; exact (Array.getElem?_eq_some_iff.1 hfj).1
      rw [List.getElem?_eq_getElem hjs] at h2
      have hju : j < us.length := by omega
      have h3 : (us.drop j).take 1 = [us[j]] := by rw [List.drop_eq_getElem_cons hju]; rfl
      rw [h3] at h2
      obtain ⟨x, hx, _, hw⟩ := DataW.trod_int hT h2
      have hx' : us[j] = .int .i64 x := by simpa using hx
      exact ⟨x, by rw [List.getElem?_eq_getElem hju, hx'], wf_bounds hw⟩
  obtain ⟨zs, hl, hp⟩ := list_of (fun j x => us[j]? = some (.int .i64 x) ∧ (-9223372036854775808 ≤ x ∧ x ≤ 9223372036854775807)) n each
  refine ⟨zs, hl, ?_, fun x hx => ?_⟩
  · apply List.ext_getElem?
    intro i
    by_cases hi : i < zs.length
    · rw [(hp i _ (List.getElem?_eq_getElem hi)).1, List.getElem?_map, List.getElem?_eq_getElem hi]; rfl
    · rw [List.getElem?_eq_none (by omega), List.getElem?_eq_none (by simp; omega)]
  · obtain ⟨i, hi, rfl⟩ := List.mem_iff_getElem.1 hx
    exact (hp i _ (List.getElem?_eq_getElem hi)).2

theorem recs_ints_read {α : Type} {f : α → List Value} {n : Nat} (hfl : ∀ x, (f x).length = n) (hn : 0 < n) (d : α) (mk : List Int → α) (hmk : ∀ zs : List Int, zs.length = n → f (mk zs) = zs.map (Value.int .i64))
    {t e T : TypeId} {fs : Array Field} {fuel : Nat} {v : Value} {y : DataW H × List MemPlace} (ht : P.underlying t = some (.slice e)) (he : P.underlying e = some (.struct fs)) (hT : P.underlying T = some (.int .i64)) (hC : P.cellsOf e = n) (hc : P.cellsOf T = 1)
    (hF : ((List.range n).all fun j => match fs[j]? with | some f => f.type == T && f.offset == j | none => false) = true) (h : DataW.trod enc P w base spare held fuel t [v] = some y) :
    ∃ (a : Option Addr) (len cap : Nat) (l : List α), v = .slice a len cap ∧ l.length = len ∧ Cells w a (recs f l) ∧ (∀ o ∈ l, ∃ zs : List Int, o = mk zs ∧ zs.length = n ∧ ∀ x ∈ zs, -9223372036854775808 ≤ x ∧ x ≤ 9223372036854775807) ∧ len ≤ maxLen := by
  obtain ⟨a, len, cap, m, rfl, hl, hm, hcs⟩ := elems_read ht hC hn h
  rcases hcs with rfl | ⟨b, off, rfl, hcs⟩
  · exact ⟨a, 0, cap, [], rfl, rfl, Cells.nil _ _, by simp, Nat.zero_le _⟩
  · have each : ∀ i, i < len → ∃ x : α, (∀ r u, (f x)[r]? = some u → w.cell? ⟨b, off + i * n + r, none⟩ = some u) ∧ ∃ zs : List Int, x = mk zs ∧ zs.length = n ∧ ∀ x ∈ zs, -9223372036854775808 ≤ x ∧ x ≤ 9223372036854775807 := by
      intro i hi
      obtain ⟨us, z, hlen, hat, hz⟩ := hcs i hi
      obtain ⟨zs, h1, h2, h3⟩ := ints_struct he hT hc hF hlen hz
      exact ⟨mk zs, fun r u hr => by rw [hmk zs h1, ← h2] at hr; exact hat r u hr, zs, rfl, h1, h3⟩
    obtain ⟨l, hll, hcl, hok⟩ := recs_of hfl hn d each
    exact ⟨_, len, cap, l, rfl, hll, hcl, hok, by omega⟩
end

end Go.Proofs.YtfedgcdkagngnaaGreat
