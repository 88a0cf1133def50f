/- Parts of the proof, one behind the other: Ep, Eq, Er, Es, Yf, Zw, Qv, Zl, Oa, St, Et, Eu, Ev, Rx, Ry, Uf, Ew, Ex, Ey, Wf, Wg, Wm, Wh. -/
import Derived.Test.YtfedgcdkagngnaaGreatHC8
import Derived.BigQuiet
import Derived.Lib.ItoaNum
import Derived.Lib.ItoaLen
import Derived.Lib.SplitLaws
import Derived.Deep.CutBlock

/- alloc: room; how many steps the device takes. -/
namespace Go.Proofs.YtfedgcdkagngnaaGreat
open Go.RowKit Go.Maps
set_option linter.unusedVariables false

theorem putAll_okB {S : Dev} {N : Nat} (hw : S.inv) (h : S.ok N) (L : List Hd) (b : Int) (l : List Hd) : (putAll S L b l).dev.ok (N + L.length + 200000) := by
  by_cases c : L.length < l.length
  · have : putAll S L b l = ⟨S, L, 1⟩ := by
      unfold putAll
      rw [if_pos]
      by_cases c : b < 1
      · exact .inl c
      · exact .inr (.inr (.inl (by omega)))
    rw [this]; exact h.mono (by omega)
  · exact (putAll_ok hw h L b l).mono (by omega)
theorem small_okN {b : Bm} {N : Nat} (hi : b.dev.inv) (h : b.dev.ok N) (hB : b.list.length ≤ 1000) (k : Int) : (b.small k).bm.dev.ok (N + 500000) := by
  unfold Bm.small
  split
  · exact h.mono (by omega)
  · split
    · exact h.mono (by omega)
    · exact (putAll_okB hi h _ _ _).mono (by omega)
theorem large_okN {b : Bm} {N : Nat} (hi : b.dev.inv) (h : b.dev.ok N) (hB : b.list.length ≤ 1000) (k : Int) : (b.large k).bm.dev.ok (N + 500000) := by
  unfold Bm.large
  split
  · exact h.mono (by omega)
  · split
    · exact h.mono (by omega)
    · split
      · exact (putAll_okB hi h _ _ _).mono (by omega)
      · exact (putAll_okB (putAll_inv hi _ _ _) (putAll_okB hi h _ _ _) _ _ _).mono (by rw [putAll_len]; omega)
/-- Numbers below a bound, each once, are no more than it. -/
theorem nodup_len : ∀ (M : Nat) (l : List Nat), (∀ x ∈ l, x < M) → (∀ a, l.count a ≤ 1) → l.length ≤ M
  | 0, l, h, _ => by
    cases l with
    | nil => simp
    | cons x l => exact absurd (h x (by simp)) (by omega)
  | M + 1, l, h, h1 => by
    have e : l.length = (l.filter (fun x => x == M)).length + (l.filter (fun x => !(x == M))).length := by
      induction l with
      | nil => rfl
      | cons x l ih =>
        have := ih (fun y hy => h y (by simp [hy])) (fun a => Nat.le_trans (List.count_le_count_cons) (h1 a))
        by_cases c : x = M <;> simp [c] <;> omega
    have h2 : (l.filter (fun x => x == M)).length ≤ 1 := by
      rw [← List.countP_eq_length_filter]
      exact h1 M
    have h3 := nodup_len M (l.filter (fun x => !(x == M))) (fun x hx => by
      obtain ⟨g1, g2⟩ := List.mem_filter.1 hx
      have := h x g1
      simp at g2
      omega) (fun a => Nat.le_trans (List.Sublist.count_le a List.filter_sublist) (h1 a))
    omega

theorem AlOk.upto {B : Nat} {m : Al} (h : AlOk B m) : m.fl.upto (512 * B) := by
  have key : ∀ k, k < 32 → ∀ l : List Nat, (∀ a, l.count a ≤ m.fl.cnt k a) → l.length ≤ 512 * B := fun k hk l hl => by
    refine nodup_len _ l (fun x hx => ?_) (fun a => ?_)
    · have h1 := hl x
      have h2 : 0 < l.count x := List.count_pos_iff.2 hx
      have h3 := h.cells k x hk
      by_cases c : isCell m.bm.list k x ∧ m.used.getD x false = false
      · have := c.1.2.1
        rw [h.bm.lenL] at this
        exact this
      · rw [if_neg c] at h3; omega
    · have h1 := hl a
      have h3 := h.cells k a hk
      split at h3 <;> omega
  intro i hi
  unfold FL.at
  by_cases e : i < 32
  · rw [if_pos e]
    refine key i e _ (fun a => ?_)
    unfold FL.cnt; omega
  · rw [if_neg e]
    refine key ((i - 32) % 32) (Nat.mod_lt _ (by decide)) _ (fun a => ?_)
    unfold FL.cnt
    have : (i - 32) / 32 < 4 := by omega
    rcases four this with c | c | c | c <;> rw [c] <;> omega

theorem FL.carve_upto {used : Nat → Bool} {at_ : Nat → Nat} {k : Nat} : ∀ {S : FL} {N : Nat}, S.upto N → ∀ n, (S.carve used at_ k n).upto (N + n)
  | S, N, h, 0 => h
  | S, N, h, n + 1 => by
    unfold FL.carve
    have h2 : (if used (at_ n) then S else S.pushed k (at_ n)).upto (N + 1) := by
      split
      · exact h.mono (by omega)
      · exact FL.pushed_upto h _ _
    exact (FL.carve_upto h2 n).mono (by omega)

set_option maxHeartbeats 1000000 in
theorem gfirstN_any (B : Nat) (hB : B ≤ 1000) (b : Nat) (hb : b < B) (w : World) : Calls Tryz.prog 186 #[vgeom (B : Int), .int .i64 (b : Int)] w fun e w' => e = .returned (.int .i64 ((b : Int) * 512)) ∧ Below w.heap.size w w' := by
  have := gfirst_any B hB (b : Int) w
  rw [show firstOf (B : Int) (b : Int) = (b : Int) * 512 by unfold firstOf; rw [if_neg (by omega)]] at this
  exact this

set_option maxHeartbeats 4000000 in
set_option maxRecDepth 20000 in
theorem aroom_any {w : World} {A : AF} {n B : Nat} {m : Al} (h : AlAt w A n B m) (hok : AlOk B m) (hB : B ≤ 200) (hn : n < 900000000000) {N : Nat} (hN : N ≤ 900000000) (ho : m.bm.dev.ok N) (mu : Nat) (hm4 : mu < 4) (p d : Int) (hs : objSize p d ≠ 0) :
    Calls Tryz.prog 150 #[valloc A, .int .i64 (mu : Int), vob p d] w (RoomPost w A (n + 6) B (m.room mu (objSize p d))) := by
  have HA := Lib.hid h
  have HOk := Lib.hid hok
  have HUp := Lib.hid hok.upto
  have HSz := Lib.hid (objSize_le p d)
  have HMem := Lib.hid (Mem.one w #[.int .i64 p, .int .i64 d] 142)
  have HA0 := Lib.hid (h.below HMem.out.below)
  have HW0 := Lib.hid HMem.out.below
  have HSm := Lib.hid (fun w => osmall_any p d w)
  have HBl := Lib.hid (fun w => oblocks_any p d w)
  have HP : Hid (∀ (a er : Int) (al : Al) w', (⟨al, a, er⟩ : AlR) = m.room mu (objSize p d) → AlGo w w' A (n + 6) B al → RoomPost w A (n + 6) B (m.room mu (objSize p d)) (.returned (.tuple #[.int .i64 a, .int .i64 er])) w') := Lib.hid (fun a er al w' h1 h2 => by rw [← h1]; exact ⟨rfl, h2⟩)
  have HR : Hid (m.room mu (objSize p d) = if small (objSize p d) then m.roomS mu (ofN (objSize p d : Nat)) else m.roomL (objBlocks (objSize p d))) := Lib.hid rfl
  generalize m.room mu (objSize p d) = r at *
  generalize RoomPost w A (n + 6) B r = Post at *
  have HOkN := Lib.hid ho
  clear h hok ho
  go_enter Tryz.func150, Tryz.ntmps150
  go_upto_region 1 with fail
  obtain ⟨q, hq⟩ : ∃ q, q = w.heap.size := ⟨_, rfl⟩
  rw [← hq] at HMem ⊢
  generalize w.alloc _ = w0 at *
  have HQh : Hid (q ∉ A.X.hot) := Lib.hid (fun hm => by
    have := HA.out.mem q (by simp [AF.list, AF.fix, MF.hot_sub hm])
    rw [hq] at this
    exact Nat.lt_irrefl _ this)
  clear hq
  have d0 := HMem.out.cell 0 0 rfl rfl
  have d1 := HMem.out.cell 0 1 rfl rfl
  go_wp2_with fail
  refine (HSm.out _).mono ?_
  rintro e w1 ⟨rfl, hb1⟩
  have HA1 := Lib.hid (HA0.out.below hb1)
  have HM1 := Lib.hid (HMem.out.later hb1)
  have HW1 := Lib.hid (HW0.out.trans (hb1.mono HW0.out.size))
  clear hb1 d0 d1
  by_cases hsm : small (objSize p d)
  case neg =>
    have HE : Hid (r = m.roomL (objBlocks (objSize p d))) := Lib.hid (by rw [HR.out, if_neg hsm])
    have HNb : Hid (1 ≤ objBlocks (objSize p d) ∧ objBlocks (objSize p d) < 256) := Lib.hid (by
      have := HSz.out
      unfold objBlocks
      rw [if_neg hsm]
      omega)
    rw [ofV_large _ hsm]
    clear hsm
    generalize objBlocks (objSize p d) = nb at *
    go_upto_region 3 with fail
    have hAn : A.a ∉ A.X.hot := fun hm => by
      have nd := HA.out.nd
      unfold AF.fix at nd
      rw [List.nodup_cons] at nd
      exact nd.1 (List.mem_append_left _ (MF.hot_sub hm))
    have d0 := HM1.out.cell 0 0 rfl rfl
    have d1 := HM1.out.cell 0 1 rfl rfl
    have r0 := fun x => near_cell (L := A.X.hot) d0 HQh.out x
    have r1 := fun x => near_cell (L := A.X.hot) d1 HQh.out x
    have r2 := fun x => near_cell (L := A.X.hot) HA1.out.c0 hAn x
    have HT1 : Hid (Touch A.X.hot w1 w1.drew) := Lib.hid (Touch.ofBelow (later_below (later_drew w1)))
    have HD1 : Hid (Below w1.heap.size w1 w1.drew) := Lib.hid (later_below (later_drew w1))
    have hC1 := near_of HT1.out
    clear d0 d1 hAn
    refine wp_region_seg (C := fun w' => ∃ x : Near A.X.hot w1, w' = x.val) [.fl [0, 1, 2, 3, 4], .sq [5] true, .sq [6, 7] false, .fl [8, 9, 10], .sq [11] false] (by kernel_rfl) (by kernel_rfl) (by intro c a d v w h; cases d <;> exact h) ?_
    simp only [segs, picks, List.getElem?_cons_succ, List.getElem?_cons_zero]
    refine wpSeg_fl hC1 ?_
    repeat (first | go_big_quiet_step (fail) | quiet_step (fail))
    refine wpQuiet_nil ?_
    clear r0 r1 r2
    generalize w1.drew = wd at *
    refine wpSeg_sq (fun K hK => ?_)
    go_wp2_with fail
    refine (HBl.out _).mono ?_
    rintro e w2 ⟨rfl, hb2⟩
    have HD2 : Hid (Below w1.heap.size w1 w2) := Lib.hid (HD1.out.trans (hb2.mono HD1.out.size))
    have hC2 : ∃ x : Near A.X.hot w1, w2 = x.val := near_of (Touch.ofBelow HD2.out)
    clear hb2
    go_wp2_with fail
    refine hK _ _ (fun _ => hC2) ?_
    clear hK K
    have HA2 := Lib.hid (HA1.out.below HD2.out)
    refine wpSeg_sq (fun K hK => ?_)
    go_wp2_with fail
    refine (blarge_any HA2.out.man (by omega) (by omega) (N := N) (by omega) HOkN.out HOk.out.bm.clean.inv (nb : Int)).mono ?_
    rintro e w3 ⟨rfl, hm3, ht3⟩
    have HT3 : Hid (Touch A.X.hot w1 w3) := Lib.hid ((Touch.ofBelow HD2.out).trans ht3)
    have hC3 := near_of HT3.out
    have HLn : Hid ((m.bm.large (nb : Int)).bm.dev.cache.length = m.bm.dev.cache.length) := Lib.hid (by
      rcases large_live HOk.out.bm HOk.out.live nb HNb.out.1 HNb.out.2 with ⟨e, _⟩ | ⟨b, _, _, _, _, _, _, _, s8, _⟩
      · rw [e]
      · exact s8.len)
    have HGo3 : Hid (AlGo w w3 A (n + 1) B ⟨(m.bm.large (nb : Int)).bm, m.used, m.fl⟩) := Lib.hid (AlGo.ahead (HW1.out.trans (HD2.out.mono HW1.out.size)) (HA2.out.setMan (by omega) hm3 ht3 HLn.out))
    have HRL : Hid (r = if (m.bm.large (nb : Int)).err ≠ 0 then ⟨⟨(m.bm.large (nb : Int)).bm, m.used, m.fl⟩, 0, (m.bm.large (nb : Int)).err⟩ else ⟨⟨(m.bm.large (nb : Int)).bm, m.used, m.fl⟩, 512 * (m.bm.large (nb : Int)).b, 0⟩) := Lib.hid HE.out
    have HCase : Hid (((m.bm.large (nb : Int)).err = 4 ∧ (m.bm.large (nb : Int)).b = 0) ∨ ∃ b : Nat, (m.bm.large (nb : Int)).err = 0 ∧ (m.bm.large (nb : Int)).b = (b : Int) ∧ b < B) := Lib.hid (by
      rcases large_live HOk.out.bm HOk.out.live nb HNb.out.1 HNb.out.2 with ⟨e, _⟩ | ⟨b, s1, s2, _, s4, _⟩
      · rw [e]; exact .inl ⟨rfl, rfl⟩
      · exact .inr ⟨b, s2, s1, by have := HNb.out; omega⟩)
    clear ht3 hm3 HLn HE
    obtain ⟨lr, hlr⟩ : ∃ lr, lr = m.bm.large (nb : Int) := ⟨_, rfl⟩
    rw [← hlr] at HGo3 HRL HCase ⊢
    clear hlr
    obtain ⟨bm, bb, er⟩ := lr
    dsimp only at HGo3 HRL HCase ⊢
    go_wp2_with fail
    refine hK _ _ (fun _ => hC3) ?_
    clear hK K
    refine wpSeg_fl hC3 ?_
    repeat (first | go_big_quiet_step (fail) | quiet_step (fail))
    refine wpQuiet_nil ?_
    rcases HCase.out with ⟨rfl, rfl⟩ | ⟨b, rfl, rfl, hbB⟩
    · have HE : Hid (⟨⟨bm, m.used, m.fl⟩, 0, 4⟩ = r) := Lib.hid (by rw [HRL.out]; rfl)
      refine wpSeg_last ?_
      go_wp2_with fail
      exact HP.out _ _ _ _ HE.out (HGo3.out.mono (by omega))
    · have HE : Hid (⟨⟨bm, m.used, m.fl⟩, 512 * (b : Int), 0⟩ = r) := Lib.hid (by rw [HRL.out]; rfl)
      obtain ⟨R3, ha3, _⟩ := HGo3.out
      have c2 := ha3.c2
      change w3.cell? ⟨A.a, 2, none⟩ = some (.int .i64 (B : Int)) at c2
      clear ha3
      refine wpSeg_last ?_
      go_wp2_with fail
      refine (gfirstN_any B (by omega) b hbB _).mono ?_
      rintro e w4 ⟨rfl, hb4⟩
      have HGo4 := Lib.hid (HGo3.out.later hb4)
      clear hb4 c2
      go_wp2_with fail
      refine HP.out _ _ _ _ ?_ (HGo4.out.mono (by omega))
      rw [← HE.out, Int.mul_comm]
  have hk := ofN_lt hsm
  have HE : Hid (r = m.roomS mu (ofN (objSize p d : Nat))) := Lib.hid (by rw [HR.out, if_pos hsm])
  rw [ofV_small _ hsm]
  generalize ofN (objSize p d : Nat) = k at *
  have HRS : Hid (r = if (m.fl.cell mu k).isSome then m.take m.bm m.fl mu k
    else if (m.bm.small k).err = 0 then m.take (m.bm.small k).bm (m.carved (m.bm.small k).b.toNat k) mu k
    else if (m.bm.small k).err ≠ 4 then ⟨⟨(m.bm.small k).bm, m.used, m.fl⟩, 0, (m.bm.small k).err⟩
    else m.steal (m.bm.small k).bm mu k) := Lib.hid HE.out
  clear HE HR HBl HSm
  have c4 := HA1.out.c4
  go_wp2_with fail
  refine (atake_any HA1.out (HUp.out.mono (by omega)) (by omega) mu k hm4 hk).mono ?_
  rintro e w2 ⟨rfl, hg2⟩
  have HG2 := Lib.hid (AlGo.ahead HW1.out hg2)
  clear hg2 c4
  cases hc : m.fl.cell mu k with
  | some x =>
    have HT : Hid (m.take m.bm m.fl mu k = r) := Lib.hid (by rw [HRS.out, hc]; rfl)
    have HT2 : Hid (m.take m.bm m.fl mu k = ⟨⟨m.bm, m.used, m.fl.taken mu k⟩, (x : Int), 0⟩) := Lib.hid (by unfold Al.take; rw [hc]; rfl)
    rw [HT2.out] at HG2 ⊢
    have HT3 := Lib.hid (HT2.out.symm.trans HT.out)
    clear HRS hc
    go_wp2_with fail
    exact HP.out _ _ _ _ HT3.out (HG2.out.mono (by omega))
  | none =>
    have HT2 : Hid (m.take m.bm m.fl mu k = ⟨m, 0, 4⟩) := Lib.hid (by unfold Al.take; rw [hc]; rfl)
    rw [HT2.out] at HG2 ⊢
    have HRS2 : Hid (r = if (m.bm.small k).err = 0 then m.take (m.bm.small k).bm (m.carved (m.bm.small k).b.toNat k) mu k
      else if (m.bm.small k).err ≠ 4 then ⟨⟨(m.bm.small k).bm, m.used, m.fl⟩, 0, (m.bm.small k).err⟩
      else m.steal (m.bm.small k).bm mu k) := Lib.hid (by rw [HRS.out, hc]; rfl)
    clear HRS hc HT2
    obtain ⟨R2, ha2, ht2, hr2⟩ := HG2.out
    have HA2 := Lib.hid ha2
    have HT2 := Lib.hid ht2
    have HR2 := Lib.hid hr2
    have c0 := ha2.c0
    change w2.cell? ⟨A.a, 0, none⟩ = some (.pointer (some ⟨A.X.m, 0, none⟩)) at c0
    clear ha2 ht2 hr2
    go_wp2_with fail
    refine (bsmall_any (X := A.X) HA2.out.man (by omega) (by omega) (N := N) (by omega) HOkN.out (k : Int)).mono ?_
    rintro e w3 ⟨rfl, hm3, ht3⟩
    rcases small_live HOk.out.bm HOk.out.live k hk with ⟨e, hp⟩ | ⟨b, s1, s2, s3, s4, s5, s6, s7, s8, s9, s10, s11⟩
    · rw [e] at HRS2 hm3 ⊢
      have HE : Hid (r = m.steal m.bm mu k) := Lib.hid (by rw [HRS2.out]; rfl)
      have HG3 : Hid (AlGo w w3 A (n + 3) B m) := Lib.hid (AlGo.trans HT2.out HR2.out (HA2.out.setMan (bm := m.bm) (by omega) hm3 ht3 rfl))
      obtain ⟨R3, ha3, ht3', hr3⟩ := HG3.out
      have HA3 := Lib.hid ha3
      have HT3 := Lib.hid ht3'
      have HR3 := Lib.hid hr3
      clear ha3 ht3' hr3 hm3 ht3 e hp HRS2 c0
      dsimp only
      go_wp2_with fail
      refine (asteal_any (A := A.re R3) HA3.out (HUp.out.mono (by omega)) (by omega) mu k hm4 hk).mono ?_
      rintro e w4 ⟨rfl, hg4⟩
      have HG4 := Lib.hid (AlGo.trans HT3.out HR3.out hg4)
      clear hg4
      have HE' : Hid (m.steal m.bm mu k = r) := Lib.hid HE.out.symm
      generalize m.steal m.bm mu k = st at *
      obtain ⟨al, a, er⟩ := st
      dsimp only at HG4 ⊢
      go_wp2_with fail
      exact HP.out _ _ _ _ HE'.out (HG4.out.mono (by omega))
    · have HE : Hid (r = m.take (m.bm.small k).bm (m.carved b k) mu k) := Lib.hid (by rw [HRS2.out, if_pos s2, s1]; rfl)
      have HG3 : Hid (AlGo w w3 A (n + 3) B ⟨(m.bm.small k).bm, m.used, m.fl⟩) := Lib.hid (AlGo.trans HT2.out HR2.out (HA2.out.setMan (by omega) hm3 ht3 s8.len))
      rw [s1, s2]
      generalize (m.bm.small k).bm = bm' at *
      clear hm3 ht3 HRS2 s2 s1 s5 s6 s7 s8 s9 s10 s11 c0
      obtain ⟨R3, ha3, ht3', hr3⟩ := HG3.out
      have HA3 := Lib.hid ha3
      have HT3 := Lib.hid ht3'
      have HR3 := Lib.hid hr3
      clear ha3 ht3' hr3
      go_wp2_with fail
      refine (acarve_any (A := A.re R3) HA3.out hB (HUp.out.mono (by omega)) b k hk s3 s4 HOk.out.lenU).mono ?_
      rintro e w4 ⟨rfl, hg4⟩
      have HG4 : Hid (AlGo w w4 A (n + 3) B ⟨bm', m.used, m.carved b k⟩) := Lib.hid (AlGo.trans HT3.out HR3.out hg4)
      obtain ⟨R4, ha4, ht4', hr4⟩ := HG4.out
      have HA4 := Lib.hid ha4
      have HT4 := Lib.hid ht4'
      have HR4 := Lib.hid hr4
      have c4 := ha4.c4
      change w4.cell? ⟨A.a, 4, none⟩ = some (.pointer (some ⟨A.f, 0, none⟩)) at c4
      have HUc : Hid ((m.carved b k).upto 1000000) := Lib.hid ((FL.carve_upto (HUp.out) (clsCells k)).mono (by
        have := clsWords_pos (k : Int) (by omega)
        have : clsCells (k : Int) ≤ 256 := Nat.div_le_of_le_mul (by omega)
        omega))
      clear ha4 ht4' hr4 hg4
      go_wp2_with fail
      refine (atake_any (A := A.re R4) HA4.out HUc.out (by omega) mu k hm4 hk).mono ?_
      rintro e w5 ⟨rfl, hg5⟩
      have HG5 := Lib.hid (AlGo.trans HT4.out HR4.out hg5)
      clear hg5
      have HE' : Hid ((⟨bm', m.used, m.carved b k⟩ : Al).take bm' (m.carved b k) mu k = r) := Lib.hid HE.out.symm
      dsimp only at HG5 ⊢
      generalize (⟨bm', m.used, m.carved b k⟩ : Al).take bm' (m.carved b k) mu k = st at *
      obtain ⟨al, a, er⟩ := st
      dsimp only at HG5 ⊢
      go_wp2_with fail
      exact HP.out _ _ _ _ HE'.out (HG5.out.mono (by omega))

end Go.Proofs.YtfedgcdkagngnaaGreat

/- alloc: Alloc. -/
namespace Go.Proofs.YtfedgcdkagngnaaGreat
open Go.RowKit Go.Maps
set_option linter.unusedVariables false

theorem zeroTo_clen (S : Dev) (a : Nat) : ∀ k, (zeroTo S a k).dev.cache.length = S.cache.length
  | 0 => rfl
  | k + 1 => by
    unfold zeroTo
    split
    · exact zeroTo_clen S a k
    · dsimp only; rw [store_clen]; exact zeroTo_clen S a k
theorem init_clen (S : Dev) (a p d : Int) : (S.init a p d).dev.cache.length = S.cache.length := by
  unfold Dev.init
  split
  · rfl
  · split
    · rfl
    · unfold Dev.initN
      split
      · exact zeroTo_clen _ _ _
      · dsimp only; rw [store_clen]; exact zeroTo_clen _ _ _
theorem ManAt.setDev {w w' : World} {X : MF} {n B : Nat} {m : Bm} (h : ManAt w X n B m) {d : Dev} (hd : DevAt w' X.F d) (ht : Touch X.F.list w w') : ManAt w' X n B ⟨d, m.list, m.free⟩ ∧ Touch X.hot w w' := by
  have ap := MF.apart h.nd
  have h2 := MF.notHot ap.t
  exact h.put hd (h.tab.touch ht h2.2.2.2 ap.g) (ht.wide (fun b hb => List.mem_cons_of_mem _ hb))

theorem take_bm (m : Al) (bm : Bm) (f : FL) (mu k : Nat) : (m.take bm f mu k).al.bm = bm := by unfold Al.take; split <;> rfl
theorem room_bm (m : Al) (mu n : Nat) : (m.room mu n).al.bm = m.bm ∨ (m.room mu n).al.bm = (m.bm.small (ofN (n : Int) : Nat)).bm ∨ (m.room mu n).al.bm = (m.bm.large (objBlocks n : Nat)).bm := by
  unfold Al.room
  split
  · unfold Al.roomS
    split
    · exact .inl (take_bm _ _ _ _ _)
    · split
      · exact .inr (.inl (take_bm _ _ _ _ _))
      · split
        · exact .inr (.inl rfl)
        · unfold Al.steal
          split
          · exact .inr (.inl (take_bm _ _ _ _ _))
          · exact .inr (.inl rfl)
  · unfold Al.roomL
    split
    · exact .inr (.inr rfl)
    · exact .inr (.inr rfl)
theorem room_okN {m : Al} {N : Nat} (hi : m.bm.dev.inv) (h : m.bm.dev.ok N) (hB : m.bm.list.length ≤ 1000) (mu n : Nat) : (m.room mu n).al.bm.dev.ok (N + 500000) := by
  rcases room_bm m mu n with e | e | e <;> rw [e]
  · exact h.mono (by omega)
  · exact small_okN hi h hB _
  · exact large_okN hi h hB _
theorem alloc_okN {m : Al} {N : Nat} (hi : m.bm.dev.inv) (h : m.bm.dev.ok N) (hB : m.bm.list.length ≤ 1000) (mu p d : Int) : (m.alloc mu p d).al.bm.dev.ok (N + 600000) := by
  unfold Al.alloc
  split
  · exact h.mono (by omega)
  · split
    · exact h.mono (by omega)
    · have hr := room_okN hi h hB mu.toNat (objSize p d)
      split
      · exact hr.mono (by omega)
      · have := init_ok hr (m.room mu.toNat (objSize p d)).a p d
        unfold Al.made
        split
        · exact this.mono (by omega)
        · exact this.mono (by omega)

set_option maxHeartbeats 4000000 in
set_option maxRecDepth 20000 in
theorem aalloc_any {w : World} {A : AF} {n B : Nat} {m : Al} (h : AlAt w A n B m) (hok : AlOk B m) (hB1 : 1 ≤ B) (hB : B ≤ 200) (hn : n < 900000000000) {N : Nat} (hN : N ≤ 900000000) (ho : m.bm.dev.ok N) (mu p d : Int) :
    Calls Tryz.prog 77 #[valloc A, .int .i64 mu, .int .i64 p, .int .i64 d] w (RoomPost w A (n + 6) B (m.alloc mu p d)) := by
  have HMem := Lib.hid (Mem.one w #[.int .i64 p, .int .i64 d] 142)
  have HA0 := Lib.hid (h.below HMem.out.below)
  have HW0 := Lib.hid HMem.out.below
  have HOk := Lib.hid hok
  have HOkN := Lib.hid ho
  have HSz := Lib.hid (fun w => osize_any p d w)
  have HLn : Hid (m.bm.list.length = B) := Lib.hid hok.bm.lenL
  have HP : Hid (∀ (a er : Int) (al : Al) w', (⟨al, a, er⟩ : AlR) = m.alloc mu p d → AlGo w w' A (n + 6) B al → RoomPost w A (n + 6) B (m.alloc mu p d) (.returned (.tuple #[.int .i64 a, .int .i64 er])) w') := Lib.hid (fun a er al w' h1 h2 => by rw [← h1]; exact ⟨rfl, h2⟩)
  have HR : Hid (m.alloc mu p d = if mu < 0 ∨ 4 ≤ mu then ⟨m, 0, 1⟩
    else if objSize p d = 0 ∨ 512 * ((m.bm.list.length : Int) - 1) < (objSize p d : Nat) then ⟨m, 0, 5⟩
    else if (m.room mu.toNat (objSize p d)).err ≠ 0 then ⟨(m.room mu.toNat (objSize p d)).al, 0, (m.room mu.toNat (objSize p d)).err⟩
    else (m.room mu.toNat (objSize p d)).al.made (m.room mu.toNat (objSize p d)).a p d) := Lib.hid rfl
  rw [HLn.out] at HR
  generalize m.alloc mu p d = r at *
  generalize RoomPost w A (n + 6) B r = Post at *
  have HAh := Lib.hid h
  clear h hok ho
  go_enter Tryz.func77, Tryz.ntmps77
  go_upto_region 2 with fail
  obtain ⟨q, hq⟩ : ∃ q, q = w.heap.size := ⟨_, rfl⟩
  rw [← hq] at HMem ⊢
  have HQ := Lib.hid hq
  generalize w.alloc _ = w0 at *
  clear hq
  by_cases hmu : mu < 0 ∨ 4 ≤ mu
  · have HE : Hid (⟨m, 0, 1⟩ = r) := Lib.hid (by rw [HR.out, if_pos hmu])
    have HG : Hid (AlGo w w0 A (n + 6) B m) := Lib.hid (AlGo.ahead HW0.out ((AlGo.refl HA0.out).mono (by omega)))
    rcases hmu with hmu | hmu
    · go_wp2_with fail
      exact HP.out _ _ _ _ HE.out HG.out
    · have hmu0 : 0 ≤ mu := by omega
      go_wp2_with fail
      exact HP.out _ _ _ _ HE.out HG.out
  have hmu0 : 0 ≤ mu := by omega
  have hmu4 : mu < 4 := by omega
  have HR2 : Hid (r = if objSize p d = 0 ∨ 512 * ((B : Int) - 1) < (objSize p d : Nat) then ⟨m, 0, 5⟩
    else if (m.room mu.toNat (objSize p d)).err ≠ 0 then ⟨(m.room mu.toNat (objSize p d)).al, 0, (m.room mu.toNat (objSize p d)).err⟩
    else (m.room mu.toNat (objSize p d)).al.made (m.room mu.toNat (objSize p d)).a p d) := Lib.hid (by rw [HR.out, if_neg hmu])
  clear HR hmu
  obtain ⟨s, hs⟩ : ∃ s, s = objSize p d := ⟨_, rfl⟩
  rw [← hs] at HR2
  have HSzs : Hid (∀ w, Calls Tryz.prog 148 #[.agg #[.int .i64 p, .int .i64 d]] w fun e w' => e = .returned (.int .i64 (s : Int)) ∧ Below w.heap.size w w') := Lib.hid (by rw [hs]; exact HSz.out)
  have HSs := Lib.hid hs
  have hsl : s ≤ 16448 := by rw [hs]; exact objSize_le _ _
  clear hs HSz
  have d0 := HMem.out.cell 0 0 rfl rfl
  have d1 := HMem.out.cell 0 1 rfl rfl
  have r0 := fun x => later_cell d0 x
  have r1 := fun x => later_cell d1 x
  have r2 := fun x => later_cell HA0.out.c2 x
  have HD1 : Hid (Below w0.heap.size w0 w0.drew) := Lib.hid (later_below (later_drew w0))
  have d0' := r0 ⟨w0.drew, HD1.out⟩
  have d1' := r1 ⟨w0.drew, HD1.out⟩
  dsimp only at d0' d1'
  go_upto_region 4 with fail
  by_cases hs0 : s = 0
  · subst hs0
    have HE : Hid (⟨m, 0, 5⟩ = r) := Lib.hid (by rw [HR2.out, if_pos (.inl rfl)])
    refine wp_region_seg (C := fun w' => ∃ x : Later (w0), w' = x.val) [.sq [0, 1, 2, 3] false, .fl [4, 6, 7, 8, 9], .sq [5] true, .sq [10, 11, 12, 13] false] (by kernel_rfl) (by kernel_rfl) (by intro c a d v w h; cases d <;> exact h) ?_
    simp only [segs, picks, List.getElem?_cons_succ, List.getElem?_cons_zero]
    have hC1 := later_drew (w0)
    refine wpSeg_sq (fun K hK => ?_)
    go_wp2_with fail
    refine (HSzs.out _).mono ?_
    rintro e w1 ⟨rfl, hb1⟩
    have hC2 := later_step hC1 hb1
    have HG : Hid (AlGo w w1 A (n + 6) B m) := Lib.hid (AlGo.ahead (HW0.out.trans ((HD1.out.trans (hb1.mono HD1.out.size)).mono HW0.out.size)) ((AlGo.refl (HA0.out.below (HD1.out.trans (hb1.mono HD1.out.size)))).mono (by omega)))
    clear hb1
    go_wp2_with fail
    refine hK _ _ (fun _ => hC2) ?_
    clear hK K
    refine wpSeg_fl hC2 ?_
    repeat (first | go_big_quiet_step (fail) | quiet_step (fail))
    refine wpQuiet_nil ?_
    refine wpSeg_sq (fun K hK => ?_)
    go_wp2_with fail
    go_wp2_with fail
    refine hK _ _ (fun _ => hC2) ?_
    clear hK K
    refine wpSeg_last ?_
    go_wp2_with fail
    exact HP.out _ _ _ _ HE.out HG.out
  have hs0' : ((s : Int) == 0) = false := by simpa using hs0
  refine wp_region_seg (C := fun w' => ∃ x : Later (w0), w' = x.val) [.sq [0, 1, 2, 3] false, .fl [4, 6, 7, 8, 9], .sq [5] true, .sq [10, 11, 12, 13] false] (by kernel_rfl) (by kernel_rfl) (by intro c a d v w h; cases d <;> exact h) ?_
  simp only [segs, picks, List.getElem?_cons_succ, List.getElem?_cons_zero]
  have hC1 := later_drew (w0)
  refine wpSeg_sq (fun K hK => ?_)
  go_wp2_with fail
  refine (HSzs.out _).mono ?_
  rintro e w1 ⟨rfl, hb1⟩
  have hC2 := later_step hC1 hb1
  clear hb1 d0' d1'
  go_wp2_with fail
  refine hK _ _ (fun _ => hC2) ?_
  clear hK K
  refine wpSeg_fl hC2 ?_
  repeat (first | go_big_quiet_step (fail) | quiet_step (fail))
  refine wpQuiet_nil ?_
  refine wpSeg_sq (fun K hK => ?_)
  go_wp2_with fail
  refine (HSzs.out _).mono ?_
  rintro e w2 ⟨rfl, hb2⟩
  have hC3 := later_step hC2 hb2
  clear hb2
  go_wp2_with fail
  refine hK _ _ (fun _ => hC3) ?_
  clear hK K
  refine wpSeg_last ?_
  go_wp2_with fail
  refine (gmost_any B hB1 (by omega) _).mono ?_
  rintro e w3 ⟨rfl, hb3⟩
  have hC4 := later_step hC3 hb3
  have HD4 : Hid (Below w0.heap.size w0 w3) := Lib.hid (later_below hC4)
  clear hb3 hC1 hC2 hC3 hC4 d0 d1 r0 r1 r2
  have HA3 := Lib.hid (HA0.out.below HD4.out)
  have HM3 := Lib.hid (HMem.out.later HD4.out)
  have HW3 := Lib.hid (HW0.out.trans (HD4.out.mono HW0.out.size))
  by_cases hbig : 512 * ((B : Int) - 1) < (s : Nat)
  · have HE : Hid (⟨m, 0, 5⟩ = r) := Lib.hid (by rw [HR2.out, if_pos (.inr hbig)])
    have HG : Hid (AlGo w w3 A (n + 6) B m) := Lib.hid (AlGo.ahead HW3.out ((AlGo.refl HA3.out).mono (by omega)))
    have hbig' : ((B : Int) - 1) * 512 < (s : Int) := by omega
    go_wp2_with fail
    exact HP.out _ _ _ _ HE.out HG.out
  have hbig' : (s : Int) ≤ ((B : Int) - 1) * 512 := by omega
  have HR3 : Hid (r = if (m.room mu.toNat s).err ≠ 0 then ⟨(m.room mu.toNat s).al, 0, (m.room mu.toNat s).err⟩
    else (m.room mu.toNat s).al.made (m.room mu.toNat s).a p d) := Lib.hid (by rw [HR2.out, if_neg (by omega)])
  clear HR2
  obtain ⟨mn, hmn⟩ : ∃ mn : Nat, mu = (mn : Int) := ⟨mu.toNat, by omega⟩
  subst hmn
  rw [Int.toNat_natCast] at HR3
  have HRoom := Lib.hid (aroom_any HA3.out HOk.out hB hn hN HOkN.out mn (by omega) p d (by rw [← HSs.out]; exact hs0))
  rw [← HSs.out] at HRoom
  have HOkR : Hid ((m.room mn s).al.bm.dev.ok (N + 500000)) := Lib.hid (room_okN HOk.out.bm.clean.inv HOkN.out (by rw [HLn.out]; omega) mn s)
  have d0 := HM3.out.cell 0 0 rfl rfl
  have d1 := HM3.out.cell 0 1 rfl rfl
  have HQn : Hid (q ∉ A.hot) := Lib.hid (fun hm => by
    have : q < w.heap.size := HAh.out.mem q (by
      simp only [AF.hot, AF.list, AF.fix, List.mem_append, List.mem_cons] at hm ⊢
      rcases hm with hm | hm | hm
      · exact .inl (.inr (.inl (MF.hot_sub hm)))
      · exact .inl (.inr (.inr hm))
      · exact .inr hm)
    rw [HQ.out] at this
    exact Nat.lt_irrefl _ this)
  go_wp2_with fail
  refine HRoom.out.mono ?_
  rintro e w4 ⟨rfl, hg4⟩
  have HG4 := Lib.hid (AlGo.ahead HW3.out hg4)
  have HRow4 : Hid (RowAt w4 q 142 [.int .i64 p, .int .i64 d]) := Lib.hid (by
    obtain ⟨_, _, ht, _⟩ := hg4
    exact (HM3.out.at 0 rfl).keep (ht.block q (HM3.out.glt 0 rfl) HQn.out))
  clear hg4 d0 d1 HRoom
  generalize m.room mn s = rm at *
  obtain ⟨al, a, er⟩ := rm
  dsimp only at HR3 HOkR HG4 ⊢
  by_cases her : er = 0
  case neg =>
    have her' : (er != 0) = true := by simpa using her
    have HE : Hid (⟨al, 0, er⟩ = r) := Lib.hid (by rw [HR3.out, if_pos her])
    clear her
    go_wp2_with fail
    exact HP.out _ _ _ _ HE.out HG4.out
  subst her
  have HR4 : Hid (r = al.made a p d) := Lib.hid (by rw [HR3.out, if_neg (by simp)])
  clear HR3
  obtain ⟨R4, ha4, ht4, hr4⟩ := HG4.out
  have HA4 := Lib.hid ha4
  have HT4 := Lib.hid ht4
  have HR4' := Lib.hid hr4
  clear ha4 ht4 hr4
  go_upto_region 9 with fail
  have d0 := HRow4.out.cell (i := 0) rfl
  have d1 := HRow4.out.cell (i := 1) rfl
  have c1 := HA4.out.c1
  change w4.cell? ⟨A.a, 1, none⟩ = some (vdev A.X.F) at c1
  have r0 := fun x => later_cell d0 x
  have r1 := fun x => later_cell d1 x
  have r2 := fun x => later_cell c1 x
  clear d0 d1 c1
  refine wp_region_seg (C := fun w' => ∃ x : Later (w4), w' = x.val) [.fl [0, 1, 2, 3, 4, 5], .sq [6, 7] false] (by kernel_rfl) (by kernel_rfl) (by intro c a d v w h; cases d <;> exact h) ?_
  simp only [segs, picks, List.getElem?_cons_succ, List.getElem?_cons_zero]
  have hC5 := later_drew (w4)
  refine wpSeg_fl hC5 ?_
  repeat (first | go_big_quiet_step (fail) | quiet_step (fail))
  refine wpQuiet_nil ?_
  clear r0 r1 r2
  have HD5 : Hid (Below w4.heap.size w4 w4.drew) := Lib.hid (later_below hC5)
  generalize w4.drew = w5 at *
  have HA5 := Lib.hid (HA4.out.below HD5.out)
  refine wpSeg_last ?_
  go_wp2_with fail
  refine (oinit_any HA5.out.man.dev (N := N + 500000) (by omega) HOkR.out a p d).mono ?_
  rintro e w6 ⟨rfl, hd6, ht6⟩
  obtain ⟨hm6, ht6'⟩ := HA5.out.man.setDev hd6 ht6
  have HG6 : Hid (AlGo w w6 A (n + 6) B ⟨⟨(al.bm.dev.init a p d).dev, al.bm.list, al.bm.free⟩, al.used, al.fl⟩) := Lib.hid (AlGo.trans (HT4.out.later HD5.out) HR4'.out (HA5.out.setMan (Nat.le_refl _) hm6 ht6' (init_clen _ _ _ _)))
  have HR6 : Hid (r = if (al.bm.dev.init a p d).err ≠ 0 then ⟨⟨⟨(al.bm.dev.init a p d).dev, al.bm.list, al.bm.free⟩, al.used, al.fl⟩, 0, (al.bm.dev.init a p d).err⟩
    else ⟨⟨⟨(al.bm.dev.init a p d).dev, al.bm.list, al.bm.free⟩, addI al.used a, al.fl⟩, a, 0⟩) := Lib.hid HR4.out
  clear hd6 ht6 hm6 ht6' HR4 hC5
  generalize al.bm.dev.init a p d = di at *
  obtain ⟨dv, er⟩ := di
  dsimp only at HG6 HR6 ⊢
  by_cases her : er = 0
  case neg =>
    have her' : (er != 0) = true := by simpa using her
    have HE : Hid (⟨⟨⟨dv, al.bm.list, al.bm.free⟩, al.used, al.fl⟩, 0, er⟩ = r) := Lib.hid (by rw [HR6.out, if_pos her])
    clear her
    go_wp2_with fail
    exact HP.out _ _ _ _ HE.out HG6.out
  subst her
  have HE : Hid (⟨⟨⟨dv, al.bm.list, al.bm.free⟩, addI al.used a, al.fl⟩, a, 0⟩ = r) := Lib.hid (by rw [HR6.out, if_neg (by simp)])
  obtain ⟨R6, ha6, ht6, hr6⟩ := HG6.out
  have HA6 := Lib.hid ha6
  have HT6 := Lib.hid ht6
  have HR6' := Lib.hid hr6
  have c3 := ha6.c3
  change w6.cell? ⟨A.a, 3, none⟩ = some (vset A.U) at c3
  clear ha6 ht6 hr6 HR6
  go_wp2_with fail
  refine (sadd_any HA6.out.set a).mono ?_
  rintro e w7 ⟨rfl, hs7, ht7⟩
  have hal : (addI al.used a).length = al.used.length := by
    unfold addI
    split
    · rw [List.length_set]
    · rfl
  have HG7 := Lib.hid (AlGo.trans HT6.out HR6'.out (HA6.out.setUsed hs7 ht7 hal))
  clear hs7 ht7 hal c3
  generalize freshI al.used a = fr at *
  go_wp2_with fail
  exact HP.out _ _ _ _ HE.out HG7.out

end Go.Proofs.YtfedgcdkagngnaaGreat

/- cells: At, of an address of a data block. -/
namespace Go.Proofs.YtfedgcdkagngnaaGreat
open Go.RowKit
set_option linter.unusedVariables false

end Go.Proofs.YtfedgcdkagngnaaGreat

/- alloc: Placed, Place. -/
namespace Go.Proofs.YtfedgcdkagngnaaGreat
open Go.RowKit
set_option linter.unusedVariables false

end Go.Proofs.YtfedgcdkagngnaaGreat

/- bman: Open. -/
namespace Go.Proofs.YtfedgcdkagngnaaGreat
open Go.RowKit
set_option linter.unusedVariables false

/-- A manager, as it is opened. -/
def bmOf (S : Dev) (B : Nat) : Bm := ⟨S, hds (devWord S) B, freeL (freeAt (hds (devWord S) B)) B B⟩

def OpenBm (w : World) (F : Foot) (S : Dev) (B : Nat) : Ending → World → Prop := fun e w' => Below w.heap.size w w' ∧
  ((AllOk (devWord S) B ∧ soundN (hds (devWord S) B) B 1 = 0 ∧ ∃ (X : MF) (n : Nat), e = .returned (.tuple #[.pointer (some ⟨X.m, 0, none⟩), .int .i64 0]) ∧ X.F = F ∧ ManAt w' X n B (bmOf S B) ∧ n ≤ 1000000 ∧
      (∀ k ∈ X.list, k ∈ F.list ∨ w.heap.size ≤ k)) ∨
   (AllOk (devWord S) B ∧ soundN (hds (devWord S) B) B 1 ≠ 0 ∧ e = .returned (.tuple #[.pointer none, .int .i64 40])) ∨
   (¬ AllOk (devWord S) B ∧ e = .returned (.tuple #[.pointer none, .int .i64 21])))

theorem bspans_fill (l : List Hd) (B : Nat) (h : l.length = B) : fillR (op2s (spansOf l)) (List.replicate B false) = (freeL (freeAt l) B B, 0) := by
  unfold spansOf
  rw [h]
  exact fill_spans (freeAt l) B B (Nat.le_refl _)

set_option maxHeartbeats 4000000 in
set_option maxRecDepth 20000 in
theorem bopen_any {w : World} {F : Foot} {S : Dev} (h : DevAt w F S) (B : Nat) (hB1 : 1 ≤ B) (hB : B ≤ 1000) :
    Calls Tryz.prog 71 #[vdev F, vgeom B] w (OpenBm w F S B) := by
  have HM := Lib.hid (Mem.one w #[.int .i64 (B : Int)] 42)
  have HD := Lib.hid (h.below HM.out.below)
  have HMF := Lib.hid h.mem
  have HNF := Lib.hid h.nodup
  have HL : Hid ((hds (devWord S) B).length = B) := Lib.hid (hds_length _ _)
  have HFill := Lib.hid (bspans_fill (hds (devWord S) B) B HL.out)
  have HBm : Hid (bmOf S B = ⟨S, hds (devWord S) B, freeL (freeAt (hds (devWord S) B)) B B⟩) := Lib.hid rfl
  have HFl : Hid ((freeL (freeAt (hds (devWord S) B)) B B).length = B) := Lib.hid (freeL_len _ _ _)
  have HPE : Hid (OpenBm w F S B = fun e w' => Below w.heap.size w w' ∧
  ((AllOk (devWord S) B ∧ soundN (hds (devWord S) B) B 1 = 0 ∧ ∃ (X : MF) (n : Nat), e = .returned (.tuple #[.pointer (some ⟨X.m, 0, none⟩), .int .i64 0]) ∧ X.F = F ∧ ManAt w' X n B (bmOf S B) ∧ n ≤ 1000000 ∧
      (∀ k ∈ X.list, k ∈ F.list ∨ w.heap.size ≤ k)) ∨
   (AllOk (devWord S) B ∧ soundN (hds (devWord S) B) B 1 ≠ 0 ∧ e = .returned (.tuple #[.pointer none, .int .i64 40])) ∨
   (¬ AllOk (devWord S) B ∧ e = .returned (.tuple #[.pointer none, .int .i64 21])))) := Lib.hid rfl
  generalize hP : OpenBm w F S B = Post at *
  clear h hP
  go_enter Tryz.func71, Tryz.ntmps71
  go_upto_region 1 with fail
  generalize hw0 : w.alloc _ = w0 at *
  clear hw0
  obtain ⟨q, hq⟩ : ∃ q, q = w.heap.size := ⟨_, rfl⟩
  rw [← hq] at HM ⊢
  have HQ := Lib.hid hq
  clear hq
  have c0 := HM.out.cell 0 0 rfl rfl
  unfold vdev at *
  go_wp2_with fail
  refine (open_tabG HD.out B hB1 hB).mono ?_
  rintro e w1 ⟨hb1, ⟨hok, p, g, cc, rfl, hp, hg, hpg, htab⟩ | ⟨b, hb0, hbB, hok, hbad, rfl⟩⟩
  case inr =>
    have HE : Hid (¬ AllOk (devWord S) B) := Lib.hid (fun h => hbad (h b hb0 hbB))
    have HB1 := Lib.hid (HM.out.later hb1)
    clear hok hbad hb1
    go_wp2_with fail
    rw [HPE.out]
    exact ⟨HB1.out.below, .inr (.inr ⟨HE.out, rfl⟩)⟩
  have HM1 := Lib.hid (HM.out.later hb1)
  have HD1 := Lib.hid (HD.out.below hb1)
  have HT1 := Lib.hid htab
  have HOK := Lib.hid hok
  have HG : Hid (w0.heap.size ≤ p ∧ w0.heap.size ≤ g ∧ p ≠ g) := Lib.hid ⟨hp, hg, hpg⟩
  have HW0 : Hid (w.heap.size + 1 ≤ w0.heap.size) := Lib.hid (by have := HM.out.glt 0 rfl; have := HQ.out; omega)
  clear hb1 htab hok hp hg hpg c0 HM HD
  generalize hds (devWord S) B = L at *
  go_wp2_with fail
  refine (tall_any HT1.out hB).mono ?_
  rintro e w2 ⟨a2, k2, rfl, hq2, hk2, hr2, hb2⟩
  have HM2 := Lib.hid (HM1.out.later hb2)
  have HD2 := Lib.hid (HD1.out.below hb2)
  have HT2 := Lib.hid (HT1.out.keep (hb2.block p HT1.out.lt.1) (hb2.block g HT1.out.lt.2))
  have HR2 := Lib.hid hr2
  clear hq2 hk2 hr2 hb2 HM1 HD1 HT1
  go_wp2_with fail
  refine (bsound_any _ B k2 L HL.out w2 HR2.out.cells hB).mono ?_
  rintro e w3 ⟨rfl, hb3⟩
  rw [HL.out]
  have HM3 := Lib.hid (HM2.out.later hb3)
  have HD3 := Lib.hid (HD2.out.below hb3)
  have HT3 := Lib.hid (HT2.out.keep (hb3.block p HT2.out.lt.1) (hb3.block g HT2.out.lt.2))
  clear hb3 HM2 HD2 HT2 HR2
  obtain ⟨sn, hsn⟩ : ∃ sn, sn = soundN L B 1 := ⟨_, rfl⟩
  rw [← hsn] at HPE ⊢
  clear hsn
  by_cases hs : sn = 0
  case neg =>
    have hs' : decide (sn = 0) = false := by simpa using hs
    rw [hs']
    have HS := Lib.hid hs
    clear hs hs'
    go_wp2_with fail
    rw [HPE.out]
    exact ⟨HM3.out.below, .inr (.inl ⟨HOK.out, HS.out, rfl⟩)⟩
  have hs' : decide (sn = 0) = true := by simpa using hs
  rw [hs']
  have HS := Lib.hid hs
  clear hs hs'
  have c0 := HM3.out.cell 0 0 rfl rfl
  go_upto_region 7 with fail
  have r0 := fun x => later_cell c0 x
  clear c0
  refine wp_region_seg (C := fun w' => ∃ x : Later (w3), w' = x.val) [.fl [0, 1, 2], .sq [3] true, .sq [4, 5] false, .fl [6, 7, 8], .sq [9] false] (by kernel_rfl) (by kernel_rfl) (by intro c a d v w h; cases d <;> exact h) ?_
  simp only [segs, picks, List.getElem?_cons_succ, List.getElem?_cons_zero]
  have hC1 := later_drew (w3)
  refine wpSeg_fl hC1 ?_
  repeat (first | go_big_quiet_step (fail) | quiet_step (fail))
  refine wpQuiet_nil ?_
  refine wpSeg_sq (fun K hK => ?_)
  go_wp2_with fail
  refine (tspans_any ((HT3.out.keep ((later_below hC1).block p HT3.out.lt.1) ((later_below hC1).block g HT3.out.lt.2)).at HG.out.2.2) (by rw [HL.out]; exact hB)).mono ?_
  rintro e w4 ⟨v, rfl, ho4, hb4⟩
  have hC2 := later_step hC1 hb4
  obtain ⟨a4, c4, rfl, _, hm4⟩ := owned_form ho4
  have HC4 : Hid (Cells w4 a4 (recs Op2.cs (op2s (spansOf L)))) := Lib.hid (by rw [op2s_cs]; exact Cells.owned2 ho4)
  have HSl : Hid ((op2s (spansOf L)).length = (spansOf L).length) := Lib.hid (by simp [op2s])
  have HSl2 : Hid ((spansOf L).length ≤ 1000000) := Lib.hid (by
    have := spanL_len (freeAt L) L.length
    unfold spansOf
    rw [HL.out] at this ⊢
    omega)
  generalize (spansOf L).length = nl at *
  clear ho4 hb4 hm4
  go_wp2_with fail
  refine hK _ _ (fun _ => hC2) ?_
  clear hK K
  refine wpSeg_sq (fun K hK => ?_)
  go_wp2_with fail
  refine (ifill_any (B : Int) (by omega) a4 nl c4 (op2s (spansOf L)) HSl.out _ HC4.out HSl2.out).mono ?_
  rw [show (B : Int).toNat = B from rfl, HFill.out]
  rintro e w5 ⟨hb5, ⟨_, T, kk, rfl, hix, hkk, hT⟩ | ⟨hne, _⟩⟩
  case inr => exact absurd rfl hne
  have hC3 := later_step hC2 hb5
  have HIx := Lib.hid hix
  have HTt := Lib.hid hT
  have HW4 : Hid (w3.heap.size ≤ w4.heap.size) := Lib.hid ((later_below hC2).size)
  clear hix hT hb5 HC4 HSl HSl2
  go_wp2_with fail
  refine hK _ _ (fun _ => hC3) ?_
  clear hK K
  refine wpSeg_fl hC3 ?_
  repeat (first | go_big_quiet_step (fail) | quiet_step (fail))
  refine wpQuiet_nil ?_
  have HM5 := Lib.hid (HM3.out.later (later_below hC3))
  have HD5 := Lib.hid (HD3.out.below (later_below hC3))
  have HT5 := Lib.hid (HT3.out.keep ((later_below hC3).block p HT3.out.lt.1) ((later_below hC3).block g HT3.out.lt.2))
  have HFl3 : Hid (∀ k ∈ F.list, k < w.heap.size) := HMF
  have HT3l : Hid (p < w3.heap.size ∧ g < w3.heap.size) := Lib.hid HT3.out.lt
  have c0 := HM5.out.cell 0 0 rfl rfl
  clear hC1 hC2 hC3 r0 HM3 HD3 HT3
  refine wpSeg_last ?_
  go_wp2_with fail
  rw [HPE.out]
  have hbx := below_alloc w5 (.cells #[.pointer (some ⟨p, 0, none⟩), .pointer (some ⟨T.p, 0, none⟩), .int .i64 (B : Int)] 50)
  have hTl := HIx.out.mem
  have hsz := HW4.out
  obtain ⟨hG1, hG2, hG3⟩ := HG.out
  have hW0 := HW0.out
  have h3 := HT3l.out
  have hw05 : w0.heap.size ≤ w5.heap.size := by have := HT5.out.lt; omega
  refine ⟨HM5.out.below.trans (hbx.mono HM5.out.below.size), .inl ⟨HOK.out, HS.out, ⟨w5.heap.size, p, g, cc, F, T⟩, kk, rfl, rfl, ?_, hkk, ?_⟩⟩
  · rw [HBm.out]
    refine ⟨heap_alloc_new _ _, HT5.out.keep (hbx.block p HT5.out.lt.1) (hbx.block g HT5.out.lt.2), HD5.out.below hbx, HIx.out.below hbx, HFl.out, ?_⟩
    obtain ⟨M, E, hmp, _⟩ := HIx.out
    have e1 := hmp.ne1
    have e2 := hmp.ne2
    have e3 := hmp.ne3
    have t1 := HTt.out T.p (by simp [Tri.list])
    have t2 := HTt.out T.s (by simp [Tri.list])
    have t3 := HTt.out T.e (by simp [Tri.list])
    have l1 := hTl T.p (by simp [Tri.list])
    have l2 := hTl T.s (by simp [Tri.list])
    have l3 := hTl T.e (by simp [Tri.list])
    have lp := HT5.out.lt
    have hF : ∀ k, w.heap.size ≤ k → k ∉ F.list := fun k hk hm => by have := HFl3.out k hm; omega
    simp only [MF.list, List.nodup_cons, List.mem_cons, not_or]
    refine ⟨⟨by omega, by omega, by omega, by omega, by omega, hF _ (by omega)⟩, ⟨by omega, by omega, by omega, by omega, hF _ (by omega)⟩, ⟨by omega, e1, e2, hF _ (by omega)⟩, ⟨by omega, by omega, hF _ (by omega)⟩, ⟨e3, hF _ (by omega)⟩, hF _ (by omega), HNF.out⟩
  · intro k hk
    have t1 := HTt.out T.p (by simp [Tri.list])
    have t2 := HTt.out T.s (by simp [Tri.list])
    have t3 := HTt.out T.e (by simp [Tri.list])
    simp only [MF.list, List.mem_cons] at hk
    rcases hk with rfl | rfl | rfl | rfl | rfl | rfl | hk
    · right; omega
    · right; omega
    · right; omega
    · right; omega
    · right; omega
    · right; omega
    · exact .inl hk

end Go.Proofs.YtfedgcdkagngnaaGreat

/- Plain: a device that was made and formatted, its blocks. -/
namespace Go.Proofs.YtfedgcdkagngnaaGreat
open Go.RowKit
set_option linter.unusedVariables false

theorem fmtTo_dirty {S : Dev} (hS : ∀ l, S.dirty.getD l false = false) (hD : S.cache.length = 8 * S.dirty.length) : ∀ k l, (∀ b, 1 ≤ b → b < k → (256 + b) / 8 ≠ l) → (S.fmtTo k).dirty.getD l false = false
  | 0, l, _ => hS l
  | k + 1, l, h => by
    have ih := fmtTo_dirty hS hD k l (fun b h1 h2 => h b h1 (by omega))
    unfold Dev.fmtTo
    split
    · exact hS l
    · rename_i hk
      unfold Dev.store
      by_cases c : (((256 + k : Nat) : Int)) < 0 ∨ (((S.fmtTo k).cache.length : Nat) : Int) ≤ ((256 + k : Nat) : Int)
      · rw [if_pos c]; exact ih
      · rw [if_neg c]
        split
        · rw [(S.fmtTo k).step_rest.2.2.2.1]; exact ih
        · show ((S.fmtTo k).step.dirty.set (((256 + k : Nat) : Int).toNat / 8) true).getD l false = false
          rw [(S.fmtTo k).step_rest.2.2.2.1, List.getD_eq_getElem?_getD, List.getElem?_set_ne (by have := h k (by omega) (by omega); omega), ← List.getD_eq_getElem?_getD]
          exact ih

structure Formed (S : Dev) (B : Nat) : Prop where
  inv : S.inv
  live : S.live
  ok : S.ok 201000
  len : S.cache.length = 512 * B
  dlen : S.dirty.length = 64 * B
  last : S.lasting = S.cache
  dirty : S.dirty = List.replicate (64 * B) false
  pending : S.pending = List.replicate (64 * B) false
  clean : Clean S B
  allOk : AllOk (devWord S) B
  hds : hds (devWord S) B = List.replicate B ⟨0, 0, 0⟩
  word : ∀ b, 1 ≤ b → b < B → devWord S b = encN b 0 0 0

theorem fmt_formed {B : Nat} (hB2 : 2 ≤ B) (hB : B ≤ 100) : Formed ((freshDev (List.replicate (512 * B) 0) (64 * B)).fmt B) B := by
  obtain ⟨S, hS⟩ : ∃ S, S = freshDev (List.replicate (512 * B) 0) (64 * B) := ⟨_, rfl⟩
  rw [← hS]
  have hl : S.cache.length = 512 * B := by rw [hS]; simp [freshDev]
  have hd : S.dirty.length = 64 * B := by rw [hS]; simp [freshDev]
  have hi : S.inv := by rw [hS]; exact fresh_inv (by simp; omega) (by simp; omega) (fun z hz => by simp at hz; omega)
  have hv : S.live := by rw [hS]; exact fresh_live _ _
  have ho : S.ok 100 := by rw [hS]; exact fresh_ok _ _ _
  have hf : ∀ l, S.dirty.getD l false = false := fun l => by
    rw [hS]; unfold freshDev; simp only [List.getD_eq_getElem?_getD, List.getElem?_replicate]; split <;> rfl
  obtain ⟨p1, p2, p3, p5, p4⟩ := fmtTo_props hv ho B (by rw [hl]; omega)
  have hti := fmtTo_inv hi B
  have he := (p1.persist 257 (B - 1) (by omega) (by rw [p3, p5]; exact hi.wf.lenD) (by rw [p3, hl]; omega)).1
  obtain ⟨q1, q2, q3, q4, q5⟩ := Dev.persist_clean hti 257 (B - 1) (by omega) he
  have hfm : S.fmt B = ((S.fmtTo B).persist ((257 : Nat) : Int) ((B - 1 : Nat) : Int)).dev := by unfold Dev.fmt; rw [show ((B : Int) - 1) = ((B - 1 : Nat) : Int) by omega]; rfl
  rw [← hfm] at q1 q3 q4 q5
  have hinv : (S.fmt B).inv := by rw [hfm]; exact Dev.persist_inv hti _ _
  have hdl : (S.fmt B).dirty.length = 64 * B := by rw [q3, p5, hd]
  have hdirty : ∀ l, (S.fmt B).dirty.getD l false = false := by
    intro l
    by_cases c : ∃ b, 1 ≤ b ∧ b < B ∧ (256 + b) / 8 = l
    · obtain ⟨b, b1, b2, rfl⟩ := c
      exact q4 (256 + b) (by omega) (by omega)
    · exact q5 l (fmtTo_dirty hf hi.wf.lenD B l (fun b b1 b2 e => c ⟨b, b1, b2, e⟩))
  have hrep : ∀ n l, (List.replicate n false).getD l false = false := fun n l => by simp only [List.getD_eq_getElem?_getD, List.getElem?_replicate]; split <;> rfl
  refine ⟨hinv, ?_, ?_, by rw [q1, p3, hl], hdl, ?_, ?_, ?_, fmt_clean hi hv ho hB2 (by rw [hl]; omega), fmt_ok hv ho B hB2 hi.wf.lenD (by rw [hl]; omega), fmt_hds hv ho B hB2 hi.wf.lenD (by rw [hl]; omega), fmt_words hv ho B hB2 hi.wf.lenD (by rw [hl]; omega)⟩
  · rw [hfm]; exact p1.persist_live 257 (B - 1) (by omega) (by rw [p3, p5]; exact hi.wf.lenD) (by rw [p3, hl]; omega)
  · exact (Dev.persist_ok hti.wf p2 _ _).mono (by omega)
  · exact nat_ext (hinv.wf.lenL) (fun i => hinv.sound i (hdirty _))
  · exact bool_ext (by rw [hdl]; simp) (fun l => by rw [hdirty, hrep])
  · refine bool_ext (by rw [hinv.wf.lenP, hdl]; simp) (fun l => ?_)
    rw [hrep]
    cases hp : (S.fmt B).pending.getD l false with
    | false => rfl
    | true => have := hinv.pend l hp; rw [hdirty] at this; cases this

theorem sound_zero (B : Nat) : ∀ f b, soundN (List.replicate B ⟨0, 0, 0⟩) f b = 0
  | 0, _ => rfl
  | f + 1, b => by
    have hz : (List.replicate B (⟨0, 0, 0⟩ : Hd)).getD b default = ⟨0, 0, 0⟩ := by
      simp only [List.getD_eq_getElem?_getD, List.getElem?_replicate]; split <;> rfl
    rw [soundN, hz, sound_zero B f (b + 1)]
    split
    · rfl
    · rw [if_neg (by decide), if_neg (by decide)]
theorem Formed.bm {S : Dev} {B : Nat} (h : Formed S B) (hB : 2 ≤ B) : BmOk B (bmOf S B) := by
  have hz : ∀ b, (List.replicate B (⟨0, 0, 0⟩ : Hd)).getD b default = ⟨0, 0, 0⟩ := fun b => by
    simp only [List.getD_eq_getElem?_getD, List.getElem?_replicate]; split <;> rfl
  unfold bmOf
  rw [h.hds]
  refine ⟨by simp, freeL_len _ _ _, h.clean, fun b _ => by dsimp only; rw [hz]; decide, fun b h1 h2 => ?_, fun b => ?_, fun b h1 h2 hk => ?_⟩
  · dsimp only
    rw [hz]
    have := h.word b h1 h2
    unfold devWord at this
    rw [show (256 + (b : Int)) = ((256 + b : Nat) : Int) by omega, peek_in] at this
    exact this
  · dsimp only
    rw [freeL_fb, hz]
    unfold freeAt
    rw [hz]
    constructor
    · rintro ⟨_, h2, h3, _⟩; exact ⟨h2, h3, rfl⟩
    · rintro ⟨h2, h3, _⟩; exact ⟨h3, h2, h3, rfl⟩
  · dsimp only at hk; rw [hz] at hk; cases hk
end Go.Proofs.YtfedgcdkagngnaaGreat

/- Structs by value whose cells are one variable. -/
namespace Go.Proofs.YtfedgcdkagngnaaGreat
open Go.RowKit
set_option linter.unusedVariables false

section
variable {P : Program} {C : World → Prop} {ops : Array Oper} {rest : List Oper} {o : Oper} {a : Act}

variable {Q : Exit → Act → World → Prop} {w W : World} {L : List Ent}
theorem wpList_unguard (hw : Region.wanted o (yielded ops a.tmps) = true) (h : wpList P ops Q ({ o with guard := none } :: rest) a W) : wpList P ops Q (o :: rest) a W := by
  unfold wpList at h ⊢
  rw [if_pos (by rfl)] at h
  rw [if_pos hw]
  exact h
end

end Go.Proofs.YtfedgcdkagngnaaGreat

/- law20: Begun: an empty heap. -/
namespace Go.Proofs.YtfedgcdkagngnaaGreat
open Go.RowKit
set_option linter.unusedVariables false

/-- A world of law20. -/
abbrev vworld (A : AF) (L : Value) : Value := .agg #[valloc A, vdev A.X.F, L]
def zeroW : Array Value := #[.pointer none, .pointer none, .slice none 0 0]
theorem aggW : Agg Tryz.prog 28 zeroW := ⟨⟨_, Tryz.underlying28, rfl⟩, by kernel_rfl⟩

/-- The device of a new heap. -/
def dev0 (B : Nat) : Dev := (freshDev (List.replicate (512 * B) 0) (64 * B)).fmt B
def al0 (B : Nat) : Al := ⟨bmOf (dev0 B) B, List.replicate (512 * B) false, FL.empty⟩

theorem al0_list {B : Nat} (hB2 : 2 ≤ B) (hB : B ≤ 100) : (al0 B).bm.list = List.replicate B ⟨0, 0, 0⟩ := (fmt_formed hB2 hB).hds

def BegunPost (B : Nat) (w : World) : Ending → World → Prop := fun e w' => ∃ (A : AF) (n : Nat), e = .returned (.tuple #[vworld A (.slice none 0 0), .bool true]) ∧ AlAt w' A n B (al0 B) ∧ n ≤ 1000000 ∧ (∀ k ∈ A.list, w.heap.size ≤ k) ∧ Below w.heap.size w w'

theorem free_small {B : Nat} (b : Nat) : (hdGet (List.replicate B (⟨0, 0, 0⟩ : Hd)) (b : Int)) = ⟨0, 0, 0⟩ := by
  unfold hdGet
  split
  · rfl
  · simp only [List.getD_eq_getElem?_getD, List.getElem?_replicate]; split <;> rfl

set_option maxHeartbeats 8000000 in
set_option maxRecDepth 100000 in
theorem begun20_any (B : Nat) (hB2 : 2 ≤ B) (hB : B ≤ 100) (w : World) : Calls Tryz.prog 52 #[.int .i64 (B : Int)] w (BegunPost B w) := by
  generalize hP : BegunPost B w = Post
  have HP := Lib.hid hP
  clear hP
  have HM := Lib.hid (Mem.two w zeroW 28 #[.int .i64 (B : Int)] 42)
  have HFo : Hid (Formed (dev0 B) B) := Lib.hid (fmt_formed hB2 hB)
  go_enter Tryz.func52, Tryz.ntmps52
  go_upto_region 2 with fail
  rw [show (#[.pointer none, .pointer none, .slice none 0 0] : Array Value) = zeroW from rfl]
  generalize (w.alloc _).alloc _ = w0 at *
  obtain ⟨q, hq⟩ : ∃ q, q = w.heap.size := ⟨_, rfl⟩
  rw [← hq] at HM ⊢
  have HQ := Lib.hid hq
  clear hq
  have c0 := HM.out.cell 1 0 rfl rfl
  go_wp2_with fail
  refine (gwords_any _ _ (by omega) (by omega)).mono ?_
  rintro e w1 ⟨rfl, hb1⟩
  have HM1 := Lib.hid (HM.out.later hb1)
  clear hb1 HM c0
  go_wp2_with fail
  refine (new_any ((B : Int) * 512) _ (by omega)).mono ?_
  rintro e w2 ⟨F, rfl, hF, hd2, hb2⟩
  have hfd : freshDev (List.replicate (8 * ((((B : Int) * 512).toNat + 7) / 8)) 0) ((((B : Int) * 512).toNat + 7) / 8) = freshDev (List.replicate (512 * B) 0) (64 * B) := by
    have h1 : (((B : Int) * 512).toNat + 7) / 8 = 64 * B := by omega
    rw [h1, show 8 * (64 * B) = 512 * B by omega]
  rw [hfd] at hd2
  clear hfd
  obtain ⟨S, hS⟩ : ∃ S, S = freshDev (List.replicate (512 * B) 0) (64 * B) := ⟨_, rfl⟩
  have hlv : S.live := by rw [hS]; exact fresh_live _ _
  have hok : S.ok 100 := by rw [hS]; exact fresh_ok _ _ _
  have hSl : S.cache.length = 512 * B := by rw [hS]; simp [freshDev]
  rw [← hS] at hd2
  have HS0 : Hid (S.fmt B = dev0 B) := Lib.hid (by rw [hS]; rfl)
  have HD2 := Lib.hid hd2
  have HM2 := Lib.hid (HM1.out.later hb2)
  have HF := Lib.hid (fun k hk => Nat.le_trans HM1.out.below.size (hF k hk))
  have HF1 := Lib.hid (fun k (hk : k ∈ F.list) => Nat.lt_of_lt_of_le (HM1.out.glt 0 rfl) (hF k hk))
  have HF2 := Lib.hid (fun k (hk : k ∈ F.list) => Nat.lt_of_lt_of_le (HM1.out.glt 1 rfl) (hF k hk))
  have HLv : Hid (S.live ∧ S.ok 100 ∧ 256 + B ≤ S.cache.length) := Lib.hid ⟨hlv, hok, by omega⟩
  clear hd2 hb2 hF hS hlv hok hSl HM1
  unfold vdev
  have c0 := HM2.out.cell 1 0 rfl rfl
  go_wp2_with fail
  refine (format_any HD2.out HLv.out.1 HLv.out.2.1 B hB2 (by omega) HLv.out.2.2).mono ?_
  rintro e w3 ⟨rfl, hd3, ht3⟩
  rw [HS0.out] at hd3
  have HD3 := Lib.hid hd3
  have HM3 : Hid (Mem w w3 [⟨q, 28, zeroW.toList, true⟩, ⟨q + 1, 42, [.int .i64 (B : Int)], true⟩]) := Lib.hid (by
    have hr := HM2.out.rows
    refine ⟨below_touched HM2.out.below ht3 (fun k hk => HF.out k hk) (Nat.le_refl _), fun x hx => (hr x hx).keep (ht3.block _ (HM2.out.lt x hx) (fun hk => ?_)), HM2.out.base, HM2.out.nd⟩
    simp only [List.mem_cons, List.not_mem_nil, or_false] at hx
    rcases hx with rfl | rfl
    · exact Nat.lt_irrefl _ (HF1.out _ hk)
    · exact Nat.lt_irrefl _ (HF2.out _ hk))
  clear hd3 ht3 HM2 HD2 c0 HLv HS0
  have c0 := HM3.out.cell 1 0 rfl rfl
  go_wp2_with fail
  refine (bopen_any HD3.out B (by omega) (by omega)).mono ?_
  rintro e w4 ⟨hb4, ⟨_, _, X, n, rfl, hXF, hm4, hn4, hX4⟩ | ⟨_, hbad, _⟩ | ⟨hbad, _⟩⟩
  case inr.inr => exact absurd HFo.out.allOk hbad
  case inr.inl => exact absurd (by rw [HFo.out.hds]; exact sound_zero B B 1) hbad
  subst hXF
  have HM4 := Lib.hid (HM3.out.later hb4)
  have HA4 := Lib.hid hm4
  have HXn : Hid (∀ k ∈ X.list, w.heap.size ≤ k ∧ k ≠ q ∧ k ≠ q + 1) := Lib.hid (fun k hk => by
    have h1 := HM3.out.glt 0 rfl
    have h2 := HM3.out.glt 1 rfl
    have h3 := HM3.out.below.size
    rcases hX4 k hk with h | h
    · refine ⟨HF.out k h, fun e => ?_, fun e => ?_⟩
      · have := HF1.out k h; omega
      · have := HF2.out k h; omega
    · exact ⟨Nat.le_trans h3 h, by omega, by omega⟩)
  clear hb4 hm4 hX4 HM3 HD3 c0 HF HF1 HF2
  have HNo : Hid (∀ b : Nat, b < B → (hdGet (bmOf (dev0 B) B).list (b : Int)).k ≠ 1) := Lib.hid (fun b _ => by
    have e : (bmOf (dev0 B) B).list = List.replicate B ⟨0, 0, 0⟩ := HFo.out.hds
    rw [e, free_small]; decide)
  have HDl : Hid ((bmOf (dev0 B) B).dev.cache.length = 512 * B) := Lib.hid HFo.out.len
  go_wp2_with fail
  refine (anew_free HA4.out (by omega) (by rw [HDl.out]; omega) HNo.out).mono ?_
  rintro e w5 ⟨A, rfl, hAX, ha5, hb5, hA5⟩
  rw [HDl.out] at ha5
  have HA5 : Hid (AlAt w5 A n B (al0 B)) := Lib.hid ha5
  have HM5 := Lib.hid (HM4.out.later hb5)
  have HAn : Hid (∀ k ∈ A.list, w.heap.size ≤ k ∧ k ≠ q ∧ k ≠ q + 1) := Lib.hid (fun k hk => by
    have h1 := HM4.out.glt 0 rfl
    have h2 := HM4.out.glt 1 rfl
    have h3 := HM4.out.below.size
    rcases hA5 k hk with h | h
    · exact HXn.out k h
    · exact ⟨Nat.le_trans h3 h, by omega, by omega⟩)
  have HAX := Lib.hid hAX
  clear ha5 hb5 hA5 hAX HM4 HA4 HNo HDl
  go_upto_region 9 with fail
  have hAq : A.a ∉ [q] := by have := (HAn.out A.a (by simp [AF.list, AF.fix])).2.1; simpa using this
  have hAm : A.X.m ∉ [q] := by have := (HAn.out A.X.m (by simp [AF.list, AF.fix, MF.list])).2.1; simpa using this
  have HC0 : ∃ x : Near [q] w5, w5.drew = x.val := near_of (Touch.ofBelow (later_below (later_drew w5)))
  have r0 := fun x => near_cell (L := [q]) HA5.out.c0 hAq x
  refine wp_region_seg (C := fun w' => ∃ x : Near [q] w5, w' = x.val) [.fl [0, 1, 2, 3, 4, 5, 6, 7, 8, 9, 10, 11, 12, 13, 14, 15], .sq [16] true, .sq [17] false] (by kernel_rfl) (by kernel_rfl) (by intro c a d v w h; cases d <;> exact h) ?_
  simp only [segs, picks, List.getElem?_cons_succ, List.getElem?_cons_zero]
  refine wpSeg_fl HC0 ?_
  repeat (first | go_big_quiet_step (fail) | quiet_step (fail))
  refine wpQuiet_nil ?_
  have HM6 := Lib.hid (HM5.out.later (later_below (later_drew w5)))
  refine wpSeg_sq (fun K hK => ?_)
  go_wp2_with (refine wpList_store_mem aggW HM6.out 0 rfl rfl rfl rfl rfl rfl rfl rfl ?_; intro w6 h6 ht6; have H6 := Lib.hid h6; have HT6 := Lib.hid ht6; clear h6 ht6)
  have HC1 : ∃ x : Near [q] w5, w6 = x.val := near_of ((Touch.ofBelow (later_below (later_drew w5))).trans HT6.out)
  go_wp2_with fail
  refine hK _ _ (fun _ => HC1) ?_
  clear hK K
  refine wpSeg_last ?_
  go_wp2_with fail
  refine bodyPost_ret (results_cell_row2 (p := 2) (u := 3) rfl _ _ _ _ _ _ _ rfl (H6.out.exact 0 rfl) Tryz.underlying28 rfl (by kernel_rfl)) rfl ?_
  rw [← HP.out]
  have hAe := HAX.out
  subst hAe
  refine ⟨A, n, rfl, ?_, hn4, fun k hk => (HAn.out k hk).1, H6.out.below⟩
  exact (HA5.out.below (later_below (later_drew w5))).keep (fun k hk => HT6.out.block k (Nat.lt_of_lt_of_le (HA5.out.mem k hk) (later_below (later_drew w5)).size) (by have := (HAn.out k hk).2.1; simpa using this))

end Go.Proofs.YtfedgcdkagngnaaGreat

/- Plain: numbers as text, and texts that are cut at one sign. -/
namespace Go.Proofs.YtfedgcdkagngnaaGreat
open Go.Lib
set_option linter.unusedVariables false

/-- taprootref31.Number's loop. -/
def over (n d : Int) : Bool := decide (n > 922337203685477580) || decide (n < -922337203685477580) || (decide (n = 922337203685477580) && decide (d > 7)) || (decide (n = -922337203685477580) && decide (d < -8))

end Go.Proofs.YtfedgcdkagngnaaGreat

/- Texts as values; numbers as text: what needs no function of the program. -/
namespace Go.Proofs.YtfedgcdkagngnaaGreat
open Go.RowKit
set_option linter.unusedVariables false
open Go.Lib (decDigits itoa nDigits)

/-- A value is handed back, memory is made. -/
def Gives (v : Value) (w : World) : Ending → World → Prop := fun e w' => e = .returned v ∧ Below w.heap.size w w'

end Go.Proofs.YtfedgcdkagngnaaGreat

/- law20: a world in memory; a new one; Pick. -/
namespace Go.Proofs.YtfedgcdkagngnaaGreat
open Go.RowKit
set_option linter.unusedVariables false

/-- A world of law20: an allocator, its objects in the order in which they were made. -/
structure WAt (w : World) (A : AF) (n B : Nat) (m : Al) (v : Value) (xs : List Nat) : Prop where
  al : AlAt w A n B m
  own : OwnI w v xs
  apart : ∀ b, rowOf v = some b → b ∉ A.list
theorem WAt.below {w w' : World} {A : AF} {n B : Nat} {m : Al} {v : Value} {xs : List Nat} (h : WAt w A n B m v xs) (hb : Below w.heap.size w w') : WAt w' A n B m v xs :=
  ⟨h.al.below hb, h.own.keep (fun b hb' => hb.block b (h.own.lt b hb')), h.apart⟩
theorem WAt.mono {w : World} {A : AF} {n n' B : Nat} {m : Al} {v : Value} {xs : List Nat} (h : WAt w A n B m v xs) (hn : n ≤ n') : WAt w A n' B m v xs := ⟨h.al.mono hn, h.own, h.apart⟩
/-- What calls leave of a world. -/
def WGo (w w' : World) (A : AF) (n B : Nat) (m : Al) (v : Value) (xs : List Nat) : Prop := ∃ R', WAt w' (A.re R') n B m v xs ∧ Touch A.hot w w' ∧ ∀ b ∈ R', b ∈ A.R ∨ w.heap.size ≤ b
theorem WGo.refl {w : World} {A : AF} {n B : Nat} {m : Al} {v : Value} {xs : List Nat} (h : WAt w A n B m v xs) : WGo w w A n B m v xs := ⟨A.R, h, Touch.refl _ _, fun _ h => .inl h⟩
theorem WGo.ahead {w w0 w1 : World} {A : AF} {n B : Nat} {m : Al} {v : Value} {xs : List Nat} (hb : Below w.heap.size w w0) (h : WGo w0 w1 A n B m v xs) : WGo w w1 A n B m v xs := by
  obtain ⟨R', h1, h2, h3⟩ := h
  exact ⟨R', h1, (Touch.ofBelow hb).trans h2, fun b hb' => (h3 b hb').imp id (fun c => Nat.le_trans hb.size c)⟩
theorem AF.hot_list {A : AF} {k : Nat} (h : k ∈ A.hot) : k ∈ A.list := by
  simp only [AF.hot, AF.list, AF.fix, List.mem_append, List.mem_cons] at h ⊢
  rcases h with h | h | h
  · exact .inl (.inr (.inl (MF.hot_sub h)))
  · exact .inl (.inr (.inr h))
  · exact .inr h
theorem AF.re_list {A : AF} {R : List Nat} {k : Nat} (h : k ∈ (A.re R).list) : k ∈ A.list ∨ k ∈ R := by
  simp only [AF.re, AF.list, AF.fix, List.mem_append, List.mem_cons] at h ⊢
  rcases h with h | h
  · exact .inl (.inl h)
  · exact .inr h
/-- The allocator changes; the list stays. -/
theorem WAt.al' {w w' : World} {A : AF} {n n' B : Nat} {m m' : Al} {v : Value} {xs : List Nat} (h : WAt w A n B m v xs) (hg : AlGo w w' A n' B m') : WGo w w' A n' B m' v xs := by
  obtain ⟨R', g1, g2, g3⟩ := hg
  refine ⟨R', ⟨g1, h.own.keep (fun b hb => g2.block b (h.own.lt b hb) (fun hm => h.apart b hb (AF.hot_list hm))), fun b hb hm => ?_⟩, g2, g3⟩
  rcases AF.re_list hm with c | c
  · exact h.apart b hb c
  · rcases g3 b c with c | c
    · exact h.apart b hb (by simp [AF.list, c])
    · have := h.own.lt b hb; omega
/-- A new heap. -/
theorem al0_ok {B : Nat} (hB2 : 2 ≤ B) (hB : B ≤ 100) : AlOk B (al0 B) := by
  have hf := fmt_formed hB2 hB
  have hl := al0_list hB2 hB
  have hbm : BmOk B (al0 B).bm := hf.bm hB2
  have hu : ∀ a, (List.replicate (512 * B) false).getD a false = false := fun a => by
    simp only [List.getD_eq_getElem?_getD, List.getElem?_replicate]; split <;> rfl
  refine ⟨hbm, hf.live, hf.len, by simp [al0], fun a ha => ?_, fun k a hk => ?_⟩
  · have := hu a
    unfold al0 at ha
    dsimp only at ha
    rw [this] at ha; cases ha
  · have h0 : (al0 B).fl.cnt k a = 0 := by unfold al0 FL.cnt FL.empty; simp
    rw [h0, if_neg]
    rintro ⟨hc, _⟩
    have := isCell_kind hc
    rw [hl] at this
    simp only [List.getD_eq_getElem?_getD, List.getElem?_replicate] at this
    split at this <;> cases this

/-- The n-th one, round and round; 0: there is none. -/
def pickN (xs : List Nat) (i : Int) : Nat := if i < 0 ∨ xs = [] then 0 else xs.getD (i.toNat % xs.length) 0
theorem pickN_mem {xs : List Nat} {i : Int} (h : pickN xs i ≠ 0) : pickN xs i ∈ xs := by
  unfold pickN at h ⊢
  by_cases c : i < 0 ∨ xs = []
  · rw [if_pos c] at h; exact absurd rfl h
  · rw [if_neg c] at h ⊢
    have hl : 0 < xs.length := List.length_pos_iff.2 (fun e => c (.inr e))
    have := Nat.mod_lt i.toNat hl
    rw [List.getD_eq_getElem?_getD, List.getElem?_eq_getElem this]
    exact List.getElem_mem _

set_option maxHeartbeats 2000000 in
set_option maxRecDepth 20000 in
theorem wpick_any {w : World} (x y v : Value) (xs : List Nat) (ho : OwnI w v xs) (hl : xs.length ≤ 1000000) (i : Int) :
    Calls Tryz.prog 28 #[.agg #[x, y, v], .int .i64 i] w (Gives (.int .i64 (pickN xs i : Nat)) w) := by
  obtain ⟨a, c, rfl, hc, _⟩ := ho.cells
  have HP : Hid (∀ z w', z = ((pickN xs i : Nat) : Int) → Below w.heap.size w w' → Gives (.int .i64 (pickN xs i : Nat)) w (.returned (.int .i64 z)) w') := Lib.hid (fun z w' h1 h2 => by subst h1; exact ⟨rfl, h2⟩)
  have HPk : Hid (pickN xs i = if i < 0 ∨ xs = [] then 0 else xs.getD (i.toNat % xs.length) 0) := Lib.hid rfl
  generalize Gives (.int .i64 (pickN xs i : Nat)) w = Post at *
  generalize pickN xs i = pk at *
  have HB := Lib.hid (below_alloc w (Obj.cells #[x, y, .slice a xs.length c] 28))
  have c2 : (w.alloc (Obj.cells #[x, y, .slice a xs.length c] 28)).cell? ⟨w.heap.size, 2, none⟩ = some (.slice a xs.length c) := cell_alloc_new _ _ _ 2 _ rfl
  have HC := Lib.hid (hc.below HB.out (Nat.le_refl _))
  clear ho hc
  obtain ⟨l, hl'⟩ : ∃ l, l = xs.length := ⟨_, rfl⟩
  rw [← hl'] at c2 HB HC hl ⊢
  have HL := Lib.hid hl'
  clear hl'
  go_enter Tryz.func28, Tryz.ntmps28
  go_upto_region 1 with fail
  generalize w.alloc _ = w0 at *
  by_cases hi : i < 0
  · have HE : Hid (0 = (pk : Int)) := Lib.hid (by rw [HPk.out, if_pos (.inl hi)]; rfl)
    go_wp2_with fail
    exact HP.out _ _ HE.out HB.out
  have hi0 : 0 ≤ i := by omega
  by_cases hx : l = 0
  · subst hx
    have HE : Hid (0 = (pk : Int)) := Lib.hid (by rw [HPk.out, if_pos (.inr (List.length_eq_zero_iff.1 HL.out.symm))]; rfl)
    go_wp2_with fail
    exact HP.out _ _ HE.out HB.out
  have hx0 : ((l : Int) == 0) = false := by simpa using hx
  obtain ⟨j, rfl⟩ := Int.eq_ofNat_of_zero_le hi0
  have hjl : j % l < l := Nat.mod_lt _ (by omega)
  have HE : Hid (pk = xs.getD (j % l) 0) := Lib.hid (by rw [HPk.out, if_neg (by rintro (h | h); exact hi h; exact hx (by rw [HL.out, h]; rfl)), HL.out]; rfl)
  have hcx : ∃ b off, a = some ⟨b, off, none⟩ ∧ w0.cell? ⟨b, off + j % l, none⟩ = some (.int .i64 ((xs.getD (j % l) 0 : Nat) : Int)) := by
    rcases HC.out with h | ⟨b, off, e, h⟩
    · exfalso
      have := congrArg List.length h
      rw [List.length_map, ← HL.out] at this
      exact hx (by simpa using this)
    · refine ⟨b, off, e, h _ _ ?_⟩
      rw [List.getElem?_map, List.getElem?_eq_getElem (by rw [← HL.out]; exact hjl), List.getD_eq_getElem?_getD, List.getElem?_eq_getElem (by rw [← HL.out]; exact hjl)]
      rfl
  obtain ⟨b, off, rfl, hcx⟩ := hcx
  rw [← HE.out] at hcx
  have hjm : (j : Int).tmod (l : Int) = ((j % l : Nat) : Int) := by rw [Int.tmod_eq_emod_of_nonneg (by omega)]; rfl
  have HE' := Lib.hid HE.out
  generalize j % l = jm at *
  go_upto_region 3 with fail
  have r0 := fun x => later_cell c2 x
  have r1 := fun x => later_cell hcx x
  clear c2 hcx
  refine wp_region_later (by kernel_rfl) (by kernel_rfl) ?_
  repeat (quiet_step (fail))
  refine wpQuiet_nil ?_
  rintro w5 ⟨x5, hx5⟩
  have HB5 := Lib.hid (HB.out.trans ((show Below w0.heap.size w0 w5 by rw [hx5]; exact x5.below).mono HB.out.size))
  clear hx5 r0 r1
  go_wp2_with fail
  exact HP.out _ _ rfl HB5.out

end Go.Proofs.YtfedgcdkagngnaaGreat

/- law20: Make. -/
namespace Go.Proofs.YtfedgcdkagngnaaGreat
open Go.RowKit
set_option linter.unusedVariables false

def clampI (x hi : Int) : Int := min (max x 0) hi
theorem clamp_size (p d : Int) : objSize (clampI p 8) (clampI d 12) ≠ 0 ∧ objSize (clampI p 8) (clampI d 12) ≤ 21 := by
  unfold clampI objSize
  split <;> omega

/-- Steps in blocks of the call's own; another list. -/
theorem WGo.mine {w w0 w1 w6 : World} {A : AF} {n B : Nat} {m : Al} {v v' : Value} {xs xs' : List Nat} {Q : List Nat} (hb : Below w.heap.size w w0) (hA : ∀ k ∈ A.list, k < w.heap.size) (hg : WGo w0 w1 A n B m v xs)
    (ht : Touch Q w1 w6) (hQ : ∀ k ∈ Q, w.heap.size ≤ k ∧ k < w0.heap.size) (ho : OwnI w6 v' xs') (hr : ∀ b, rowOf v' = some b → b < w.heap.size ∧ b ∉ A.list ∨ w1.heap.size ≤ b) : WGo w w6 A n B m v' xs' := by
  obtain ⟨R1, h1, h2, h3⟩ := hg
  have hl : ∀ k ∈ (A.re R1).list, k ∉ Q := fun k hk hq => by
    have h4 := hQ k hq
    rcases AF.re_list hk with c | c
    · have := hA k c; omega
    · rcases h3 k c with c | c
      · have := hA k (by simp [AF.list, c]); omega
      · omega
  refine ⟨R1, ⟨h1.al.keep (fun k hk => ht.block k (h1.al.mem k hk) (hl k hk)), ho, fun b hb' hm => ?_⟩, ((Touch.ofBelow hb).trans h2).own ht (fun k hk => .inl (hQ k hk).1), fun b hb' => (h3 b hb').imp id (fun c => Nat.le_trans hb.size c)⟩
  rcases hr b hb' with ⟨c1, c2⟩ | c
  · rcases AF.re_list hm with d | d
    · exact c2 d
    · rcases h3 b d with d | d
      · exact c2 (by simp [AF.list, d])
      · have := hb.size; omega
  · have := h1.al.mem b hm; omega

/-- What Make leaves: one more object, or all is as it was. -/
def MakePost (w : World) (A : AF) (n B : Nat) (m : Al) (v : Value) (xs : List Nat) (p d : Int) : Ending → World → Prop := fun e w' => ∃ (m' : Al) (v' : Value) (xs' : List Nat),
  e = .returned (.tuple #[vworld A v', .bool true]) ∧ WGo w w' A (n + 6) B m' v' xs' ∧ ((∃ a, Made B m m' a p d ∧ xs' = xs ++ [a]) ∨ (m' = m ∧ xs' = xs ∧ v' = v ∧ NoRoom m (objSize p d))) ∧ (∀ b, rowOf v' = some b → rowOf v = some b ∨ w.heap.size ≤ b) ∧ m' = (m.alloc 0 p d).al

set_option maxHeartbeats 4000000 in
set_option maxRecDepth 20000 in
theorem wmake_any {w : World} {A : AF} {n B : Nat} {m : Al} {v : Value} {xs : List Nat} (h : WAt w A n B m v xs) (hok : AlOk B m) (hB2 : 2 ≤ B) (hB : B ≤ 200) (hn : n < 900000000000) {N : Nat} (hN : N ≤ 900000000) (ho : m.bm.dev.ok N) (hl : xs.length ≤ 1000000) (p d : Int) :
    Calls Tryz.prog 76 #[vworld A v, .int .i64 p, .int .i64 d] w (MakePost w A n B m v xs (clampI p 8) (clampI d 12)) := by
  have HMem := Lib.hid (Mem.two w #[valloc A, vdev A.X.F, v] 28 #[.pointer none, .pointer none, .slice none 0 0] 28)
  have HW0 := Lib.hid (h.below HMem.out.below)
  have HB0 := Lib.hid HMem.out.below
  have HOk := Lib.hid hok
  have HCs := Lib.hid (clamp_size p d)
  have HP : Hid (∀ (m' : Al) (v' : Value) (xs' : List Nat) w', WGo w w' A (n + 6) B m' v' xs' → ((∃ a, Made B m m' a (clampI p 8) (clampI d 12) ∧ xs' = xs ++ [a]) ∨ (m' = m ∧ xs' = xs ∧ v' = v ∧ NoRoom m (objSize (clampI p 8) (clampI d 12)))) → (∀ b, rowOf v' = some b → rowOf v = some b ∨ w.heap.size ≤ b) → m' = (m.alloc 0 (clampI p 8) (clampI d 12)).al → MakePost w A n B m v xs (clampI p 8) (clampI d 12) (.returned (.tuple #[vworld A v', .bool true])) w') := Lib.hid (fun m' v' xs' w' h1 h2 h3 h4 => ⟨m', v', xs', rfl, h1, h2, h3, h4⟩)
  generalize MakePost w A n B m v xs (clampI p 8) (clampI d 12) = Post at *
  obtain ⟨p1, hp1⟩ : ∃ p1, max p 0 = p1 := ⟨_, rfl⟩
  obtain ⟨p2, hp2⟩ : ∃ p2, min p1 8 = p2 := ⟨_, rfl⟩
  obtain ⟨d1, hd1⟩ : ∃ d1, max d 0 = d1 := ⟨_, rfl⟩
  obtain ⟨d2, hd2⟩ : ∃ d2, min d1 12 = d2 := ⟨_, rfl⟩
  have ep : clampI p 8 = p2 := by unfold clampI; rw [hp1, hp2]
  have ed : clampI d 12 = d2 := by unfold clampI; rw [hd1, hd2]
  rw [ep, ed] at HP HCs
  have hAll := fun w' (h : AlAt w' A n B m) => aalloc_any h hok (by omega) hB hn hN ho 0 p2 d2
  have HAll := Lib.hid hAll
  have HDone : Hid ((∃ m' a, m.alloc 0 p2 d2 = ⟨m', ((a : Nat) : Int), 0⟩ ∧ Made B m m' a p2 d2) ∨ (m.alloc 0 p2 d2 = ⟨m, 0, 4⟩ ∧ NoRoom m (objSize p2 d2))) := Lib.hid (alloc_done hok hB (Int.le_refl _) (by decide) HCs.out.1 (by have := HCs.out.2; omega))
  have HV := Lib.hid h
  obtain ⟨sa, sc, rfl, hcs, _⟩ := h.own.cells
  have HCl := Lib.hid hcs
  obtain ⟨l, hl'⟩ : ∃ l, l = xs.length := ⟨_, rfl⟩
  rw [← hl'] at HMem HW0 HB0 HP HV hl ⊢
  have HL := Lib.hid hl'
  clear h hok ho hAll ep ed hcs hl'
  go_enter Tryz.func76, Tryz.ntmps76
  go_upto_region 1 with fail
  obtain ⟨q, hq⟩ : ∃ q, q = w.heap.size := ⟨_, rfl⟩
  rw [← hq] at HMem ⊢
  have HQ := Lib.hid hq
  generalize (w.alloc _).alloc _ = w0 at *
  clear hq
  have c0 := HMem.out.cell 0 0 rfl rfl
  go_wp2_with fail
  refine (HAll.out _ HW0.out.al).mono ?_
  rintro e w1 ⟨rfl, hg1⟩
  have HWg := Lib.hid (HW0.out.al' hg1)
  have HMr : Hid (MemR w.heap.size w1 [⟨q, 28, [valloc A, vdev A.X.F, .slice sa l sc], true⟩, ⟨q + 1, 28, [.pointer none, .pointer none, .slice none 0 0], true⟩]) := Lib.hid (by
    obtain ⟨_, _, ht, _⟩ := hg1
    refine HMem.out.r.apart ht (fun x hx hm => ?_)
    have h1 := HV.out.al.mem x.g (AF.hot_list hm)
    have h2 := HMem.out.base x hx
    omega)
  clear hg1 HAll
  rcases HDone.out with ⟨m', a, e, hm⟩ | ⟨e, hnr⟩
  · have HAe : Hid (m' = (m.alloc 0 p2 d2).al) := Lib.hid (by rw [e])
    rw [e] at HWg ⊢
    dsimp only at HWg ⊢
    have HMade := Lib.hid hm
    have ha0 : (0 : Int) < (a : Int) := by have := hm.lo; omega
    clear e hm HDone
    obtain ⟨R1, hw1, ht1, hr1⟩ := HWg.out
    have HW1 := Lib.hid hw1
    have HT1 := Lib.hid ht1
    have HR1 := Lib.hid hr1
    clear hw1 ht1 hr1
    have HO1 : Hid (OwnI (w1.alloc (.cells #[] 3)) (.slice (some ⟨w1.heap.size, 0, none⟩) 0 0) []) :=
      Lib.hid (.inl ⟨rfl, .inr ⟨w1.heap.size, 0, #[], rfl, Nat.zero_le _, heap_alloc_new w1 _, Nat.le_refl _, Nat.zero_le _, rfl, rfl⟩⟩)
    have HB1 := Lib.hid (below_alloc w1 (.cells #[] 3))
    have HC1 : Hid (Cells (w1.alloc (.cells #[] 3)) sa (xs.map vi)) := Lib.hid (by
      obtain ⟨a', c', e', hc', _⟩ := HW1.out.own.cells
      injection e' with e1 e2 e3
      subst e1
      exact hc'.below HB1.out (Nat.le_refl _))
    have HN1 : Hid (([] : List Nat).length + l ≤ 1000000000000) := Lib.hid (by simp; omega)
    have HMr1 := Lib.hid (HMr.out.later HB1.out)
    have c2 := HMr1.out.cell 0 2 rfl rfl
    have HN3 : Hid (([] ++ xs).length + 1 ≤ 1000000000000) := Lib.hid (by simp; have := HL.out; omega)
    have HR1n : Hid (∀ b, rowOf (.slice (some ⟨w1.heap.size, 0, none⟩) 0 0) = some b → w1.heap.size ≤ b) := Lib.hid (fun b hb => by
      have : rowOf (.slice (some ⟨w1.heap.size, 0, none⟩) 0 0) = none := rfl
      rw [this] at hb; cases hb)
    go_wp2_with (first
      | (refine wpList_load_r aggW HMr5.out 0 rfl rfl rfl rfl rfl ?_)
      | (refine wpList_store_r aggW HMr5.out 1 rfl rfl rfl rfl rfl rfl rfl rfl ?_; intro w6 h6 ht6; have H6 := Lib.hid h6; have HT6 := Lib.hid ht6; clear h6 ht6)
      | (at_builtin; refine wpList_append_newI (m := l) (B := w1.heap.size) HO1.out (Below.refl _ _) HR1n.out HB1.out.size HC1.out HL.out.symm HN1.out rfl rfl rfl rfl ?_; intro v2 w2 ho2 hb2 hr2; have HO2 := Lib.hid ho2; have HB2 := Lib.hid (HB1.out.trans hb2); have HR2 := Lib.hid hr2; clear ho2 hb2 hr2)
      | (at_builtin; refine wpList_append_newI (m := 1) (ys := [a]) (B := w1.heap.size) HO2.out (below_alloc _ _) HR2.out (Nat.le_trans HB2.out.size (below_alloc _ _).size) (RowAt.cells ⟨_, heap_alloc_new _ _, [], rfl⟩) rfl HN3.out rfl rfl rfl rfl ?_; intro v4 w4 ho4 hb4 hr4; have HO4 := Lib.hid ho4; have HB4 := Lib.hid ((HB2.out.trans ((below_alloc _ _).mono HB2.out.size)).trans hb4); have HR4 := Lib.hid hr4; clear ho4 hb4 hr4; have HMr4 := Lib.hid (HMr.out.later HB4.out); have cx := HMr4.out.cell 0 2 rfl rfl; have fx := HMr4.out.frozen 0 2 rfl; obtain ⟨a4, c4, e4, _⟩ := HO4.out.cells; generalize ([] ++ xs ++ [a]).length = l4 at e4; subst e4; have HMr5 := Lib.hid (HMr4.out.set 0 2 (.slice a4 l4 c4) rfl (Nat.lt_succ_self 2))))
    have HT5 : Hid (Touch [q, q + 1] w1 w6) := Lib.hid ((((Touch.ofBelow HB4.out).trans (Touch.setCell ⟨q, 2, none⟩ (by simp) _)).trans (HT6.out.wide (by simp))))
    have HO6 : Hid (OwnI w6 (.slice a4 l4 c4) (xs ++ [a])) := Lib.hid (by
      have h1 : ([] ++ xs ++ [a]) = xs ++ [a] := by simp
      rw [← h1]
      refine HO4.out.keep (fun b hb => ?_)
      have h2 := HR4.out b hb
      have h3 := HO4.out.lt b hb
      have h4 := HMr.out.glt 0 rfl
      have h5 := HMr.out.glt 1 rfl
      refine (HT6.out.block b (by simpa using h3) (by simp; omega)).trans (Below.heap_setCell _ _ _ b (fun e => ?_))
      have : b = q := e
      omega)
    refine bodyPost_ret (results_cell_row2 (p := 6) (u := 7) rfl _ _ _ _ _ _ _ rfl (H6.out.exact 1 rfl) Tryz.underlying28 rfl (by kernel_rfl)) rfl ?_
    refine HP.out m' _ (xs ++ [a]) w6 (WGo.mine HB0.out HV.out.al.mem HWg.out HT5.out (fun k hk => ?_) HO6.out (fun b hb => .inr (HR4.out b hb))) (.inl ⟨a, HMade.out, rfl⟩) (fun b hb => .inr (Nat.le_trans HB0.out.size (Nat.le_trans HT1.out.size (HR4.out b hb)))) HAe.out
    have h4 := HMem.out.glt 0 rfl
    have h5 := HMem.out.glt 1 rfl
    have h6 := HQ.out
    simp only [List.mem_cons, List.not_mem_nil, or_false] at hk
    rcases hk with rfl | rfl <;> omega
  · have HAe : Hid (m = (m.alloc 0 p2 d2).al) := Lib.hid (by rw [e])
    have HNr := Lib.hid hnr
    rw [e] at HWg ⊢
    dsimp only at HWg ⊢
    clear e hnr HDone
    go_wp2_with (first
      | (refine wpList_load_r aggW HMr.out 0 rfl rfl rfl rfl rfl ?_)
      | (refine wpList_store_r aggW HMr.out 1 rfl rfl rfl rfl rfl rfl rfl rfl ?_; intro w6 h6 ht6; have H6 := Lib.hid h6; have HT6 := Lib.hid ht6; clear h6 ht6))
    have HO6 : Hid (OwnI w6 (.slice sa l sc) xs) := Lib.hid (by
      refine HV.out.own.keep (fun b hb => ?_)
      have h1 := HV.out.own.lt b hb
      obtain ⟨R1, _, h2, _⟩ := HWg.out
      have h3 := HQ.out
      have h4 := HMem.out.glt 0 rfl
      have h5 := HMem.out.glt 1 rfl
      refine ((HT6.out.block b (Nat.lt_of_lt_of_le (by omega) h2.size) (by simp; omega)).trans (h2.block b (by omega) (fun hm => HV.out.apart b hb (AF.hot_list hm)))).trans (HB0.out.block b h1))
    refine bodyPost_ret (results_cell_row2 (p := 6) (u := 7) rfl _ _ _ _ _ _ _ rfl (H6.out.exact 1 rfl) Tryz.underlying28 rfl (by kernel_rfl)) rfl ?_
    refine HP.out m _ xs w6 (WGo.mine HB0.out HV.out.al.mem HWg.out HT6.out (fun k hk => ?_) HO6.out (fun b hb => .inl ⟨HV.out.own.lt b hb, HV.out.apart b hb⟩)) (.inr ⟨rfl, rfl, rfl, HNr.out⟩) (fun b hb => .inl hb) HAe.out
    have h4 := HMem.out.glt 0 rfl
    have h5 := HMem.out.glt 1 rfl
    have h6 := HQ.out
    simp only [List.mem_cons, List.not_mem_nil, or_false] at hk
    omega

end Go.Proofs.YtfedgcdkagngnaaGreat

/- law20: Lead. -/
namespace Go.Proofs.YtfedgcdkagngnaaGreat
open Go.RowKit
set_option linter.unusedVariables false

/-- A pointer of an object leads to another one. -/
def Al.lead (m : Al) (xs : List Nat) (i p t : Int) : Al := if pickN xs i = 0 then m else ⟨⟨(m.bm.dev.setPtr (pickN xs i : Nat) p (pickN xs t : Nat)).dev, m.bm.list, m.bm.free⟩, m.used, m.fl⟩

theorem setPtr_clen (S : Dev) (a i x : Int) : (S.setPtr a i x).dev.cache.length = S.cache.length := by
  unfold Dev.setPtr
  split
  · rfl
  · split
    · rfl
    · exact store_clen _ _ _

set_option maxHeartbeats 4000000 in
set_option maxRecDepth 20000 in
theorem wlead_any {w : World} {A : AF} {n B : Nat} {m : Al} {v : Value} {xs : List Nat} (h : WAt w A n B m v xs) {N : Nat} (hN : N ≤ 900000000) (ho : m.bm.dev.ok N) (hl : xs.length ≤ 1000000) (hx : ∀ x ∈ xs, x ≤ 1000000) (i p t : Int) :
    Calls Tryz.prog 59 #[vworld A v, .int .i64 i, .int .i64 p, .int .i64 t] w fun e w' => e = .returned (.tuple #[]) ∧ WGo w w' A n B (m.lead xs i p t) v xs := by
  have HMem := Lib.hid (Mem.one w #[valloc A, vdev A.X.F, v] 28)
  have HW0 := Lib.hid (h.below HMem.out.below)
  have HB0 := Lib.hid HMem.out.below
  have HOk := Lib.hid ho
  have hle : ∀ j, (pickN xs j) ≤ 1000000 := fun j => by
    by_cases c : pickN xs j = 0
    · omega
    · exact hx _ (pickN_mem c)
  have HP1 := Lib.hid (fun w' (ho : OwnI w' v xs) => wpick_any (valloc A) (vdev A.X.F) v xs ho hl i)
  have HP2 := Lib.hid (fun w' (ho : OwnI w' v xs) => wpick_any (valloc A) (vdev A.X.F) v xs ho hl t)
  have HL : Hid (m.lead xs i p t = if pickN xs i = 0 then m else ⟨⟨(m.bm.dev.setPtr (pickN xs i : Nat) p (pickN xs t : Nat)).dev, m.bm.list, m.bm.free⟩, m.used, m.fl⟩) := Lib.hid rfl
  have h1 := hle i
  have h2 := hle t
  have HHi := Lib.hid h
  generalize m.lead xs i p t = m' at *
  generalize pickN xs i = pi at *
  generalize pickN xs t = pt at *
  have HP : Hid (∀ w', WGo w w' A n B m' v xs → (fun e w' => e = Ending.returned (.tuple #[]) ∧ WGo w w' A n B m' v xs) (.returned (.tuple #[])) w') := Lib.hid (fun w' h => ⟨rfl, h⟩)
  generalize (fun e w' => e = Ending.returned (.tuple #[]) ∧ WGo w w' A n B m' v xs) = Post at *
  clear h ho hle hx
  go_enter Tryz.func59, Tryz.ntmps59
  go_upto_region 1 with fail
  obtain ⟨q, hq⟩ : ∃ q, q = w.heap.size := ⟨_, rfl⟩
  rw [← hq] at HMem ⊢
  generalize w.alloc _ = w0 at *
  clear hq
  go_wp2_with (refine wpList_load_mem aggW HMem.out 0 rfl rfl rfl rfl rfl ?_)
  refine (HP1.out _ HW0.out.own).mono ?_
  rintro e w1 ⟨rfl, hb1⟩
  have HM1 := Lib.hid (HMem.out.later hb1)
  have HW1 := Lib.hid (HW0.out.below hb1)
  clear hb1
  by_cases hp : pi = 0
  · subst hp
    have HE : Hid (m' = m) := Lib.hid (by rw [HL.out, if_pos rfl])
    go_wp2_with fail
    go_end0
    refine HP.out _ ?_
    rw [HE.out]
    exact WGo.ahead HM1.out.below (WGo.refl HW1.out)
  have hp0 : (0 : Int) < (pi : Int) := by omega
  have HE : Hid (m' = ⟨⟨(m.bm.dev.setPtr (pi : Nat) p (pt : Nat)).dev, m.bm.list, m.bm.free⟩, m.used, m.fl⟩) := Lib.hid (by rw [HL.out, if_neg hp])
  clear HL
  go_upto_region 3 with fail
  have c0 := HM1.out.cell 0 0 rfl rfl
  have c1 := HM1.out.cell 0 1 rfl rfl
  have c2 := HM1.out.cell 0 2 rfl rfl
  have r0 := fun x => later_cell c0 x
  have r1 := fun x => later_cell c1 x
  have r2 := fun x => later_cell c2 x
  refine wp_region_seg (C := fun w' => ∃ x : Later (w1), w' = x.val) [.fl [0, 1, 2, 3, 4, 5], .sq [6] true, .sq [7] false] (by kernel_rfl) (by kernel_rfl) (by intro c a d v w h; cases d <;> exact h) ?_
  simp only [segs, picks, List.getElem?_cons_succ, List.getElem?_cons_zero]
  have hC1 := later_drew (w1)
  refine wpSeg_fl hC1 ?_
  repeat (first | go_big_quiet_step (fail) | quiet_step (fail))
  refine wpQuiet_nil ?_
  have HW2 := Lib.hid (HW1.out.below (later_below hC1))
  have HM2 := Lib.hid (HM1.out.later (later_below hC1))
  clear c0 c1 c2 r0 r1 r2
  generalize w1.drew = w2 at *
  refine wpSeg_sq (fun K hK => ?_)
  go_wp2_with fail
  refine (HP2.out _ HW2.out.own).mono ?_
  rintro e w3 ⟨rfl, hb3⟩
  have HW3 := Lib.hid (HW2.out.below hb3)
  have HM3 := Lib.hid (HM2.out.later hb3)
  have hC2 := later_step hC1 hb3
  clear hb3
  go_wp2_with fail
  refine hK _ _ (fun _ => hC2) ?_
  clear hK K
  refine wpSeg_last ?_
  go_wp2_with fail
  refine (osetPtr_any HW3.out.al.man.dev (N := N) (by omega) HOk.out _ _ _ (by omega)).mono ?_
  rintro e w4 ⟨rfl, hd4, ht4⟩
  obtain ⟨hm4, ht4'⟩ := HW3.out.al.man.setDev hd4 ht4
  have HG4 : Hid (WGo w3 w4 A n B m' v xs) := Lib.hid (by
    rw [HE.out]
    exact HW3.out.al' (HW3.out.al.setMan (Nat.le_refl _) hm4 ht4' (setPtr_clen _ _ _ _)))
  clear hd4 ht4 hm4 ht4'
  go_wp2_with fail
  go_end0
  exact HP.out _ (WGo.ahead HM3.out.below HG4.out)

end Go.Proofs.YtfedgcdkagngnaaGreat

/- The reference's objects: Size, Encode, Decode; law08.Ref. -/
namespace Go.Proofs.YtfedgcdkagngnaaGreat
open Go.RowKit
set_option linter.unusedVariables false

end Go.Proofs.YtfedgcdkagngnaaGreat

/- The reference's objects on a device: Head, Place, Init. -/
namespace Go.Proofs.YtfedgcdkagngnaaGreat
open Go.RowKit
set_option linter.unusedVariables false

end Go.Proofs.YtfedgcdkagngnaaGreat

/- object: Ptr, Data, Ptrs; the reference's. -/
namespace Go.Proofs.YtfedgcdkagngnaaGreat
open Go.RowKit
set_option linter.unusedVariables false

/-- A pointer, held within its bound. -/
def capP (x : Nat) : Nat := if 1099511627776 < x then 1099511627776 else x
theorem capP_le (x : Nat) : capP x ≤ 1099511627776 := by unfold capP; split <;> omega

set_option maxHeartbeats 1000000 in
theorem optrG_any {w : World} {F : Foot} {S : Dev} (h : DevAt w F S) (a i : Int) :
    Calls Tryz.prog 58 #[vdev F, .int .i64 a, .int .i64 i] w fun e w' => e = .returned (.tuple #[.int .i64 ((if (placeN S a i false).code = 0 then capP (peek S.cache (placeN S a i false).at_) else 0 : Nat) : Int), .int .i64 (placeN S a i false).code]) ∧ Below w.heap.size w w' := by
  have HD := Lib.hid h
  clear h
  obtain ⟨pn, hpn⟩ : ∃ pn, pn = placeN S a i false := ⟨_, rfl⟩
  rw [← hpn]
  have HPN := Lib.hid hpn
  clear hpn
  generalize hR : (if pn.code = 0 then capP (peek S.cache pn.at_) else 0 : Nat) = R
  have HR := Lib.hid hR
  clear hR
  go_enter Tryz.func58, Tryz.ntmps58
  go_wp2_with fail
  refine (ofield_any HD.out a i false).mono ?_
  rw [← HPN.out]
  rintro e w1 ⟨rfl, hb1⟩
  clear HPN
  obtain ⟨q, c⟩ := pn
  dsimp only at HR ⊢
  have HB := Lib.hid hb1
  have HD1 := Lib.hid (HD.out.below hb1)
  clear hb1 HD
  by_cases hc : c = 0
  · subst hc
    go_wp2_with fail
    refine (dget_any HD1.out q).mono ?_
    rintro e w2 ⟨rfl, rfl⟩
    rw [if_pos trivial] at HR
    generalize peek S.cache q = x at *
    by_cases hx : 1099511627776 < x
    · have HV : Hid (R = 1099511627776) := Lib.hid (by rw [← HR.out]; unfold capP; rw [if_pos hx])
      have hmin : min (x : Int) 1099511627776 = 1099511627776 := Int.min_eq_right (by omega)
      go_wp2_with fail
      go_ret2
      exact ⟨by rw [HV.out]; rfl, HB.out⟩
    · have HV : Hid (R = x) := Lib.hid (by rw [← HR.out]; unfold capP; rw [if_neg hx])
      have hmin : min (x : Int) 1099511627776 = (x : Int) := Int.min_eq_left (by omega)
      go_wp2_with fail
      go_ret2
      exact ⟨by rw [HV.out]; rfl, HB.out⟩
  · have hc1 : (c != 0) = true := by simpa using hc
    have HV : Hid (R = 0) := Lib.hid (by rw [← HR.out, if_neg hc])
    clear hc
    go_wp2_with fail
    go_ret2
    exact ⟨by rw [HV.out]; rfl, HB.out⟩

/-- Where an object's pointers lead. -/
def ptrL (S : Dev) (a : Int) (k : Nat) : List Nat := (List.range k).map fun i : Nat => capP (peek S.cache (a + 1 + (i : Int)))
theorem ptrL_succ (S : Dev) (a : Int) (k : Nat) : ptrL S a (k + 1) = ptrL S a k ++ [capP (peek S.cache (a + 1 + (k : Int)))] := by simp [ptrL, List.range_succ]
theorem ptrL_length (S : Dev) (a : Int) (k : Nat) : (ptrL S a k).length = k := by simp [ptrL]

def PtrsPost (S : Dev) (a : Int) (w : World) : Ending → World → Prop := fun e w' => Below w.heap.size w w' ∧
      (((headN S a).code = 0 ∧ ∃ v, e = .returned (.tuple #[v, .int .i64 0]) ∧ w'.ownsRow w.heap.size 3 1 v (headN S a).p.toNat ((ptrL S a (headN S a).p.toNat).map vi)) ∨
       ((headN S a).code = 22 ∧ e = .returned (.tuple #[.slice none 0 0, .int .i64 22])))

set_option maxHeartbeats 1000000 in
set_option maxRecDepth 20000 in
theorem optrs_any {w : World} {F : Foot} {S : Dev} (h : DevAt w F S) (a : Int) :
    Calls Tryz.prog 38 #[vdev F, .int .i64 a] w (PtrsPost S a w) := by
  generalize hP : PtrsPost S a w = Post
  have HP := Lib.hid hP
  clear hP
  have HSm := Lib.hid (head_small h.small (a := a))
  have HD := Lib.hid h
  have HPl : Hid (∀ i, placeN S a i false = if (headN S a).code ≠ 0 then ⟨0, 22⟩ else if false = true then (if 0 ≤ i ∧ i < (headN S a).d then ⟨a + (1 + (headN S a).p + i), 0⟩ else ⟨0, 7⟩) else (if 0 ≤ i ∧ i < (headN S a).p then ⟨a + (1 + i), 0⟩ else ⟨0, 7⟩)) := Lib.hid (fun i => rfl)
  clear h
  go_enter Tryz.func38, Tryz.ntmps38
  go_wp2_with fail
  refine (ohead_any HD.out a).mono ?_
  rintro e w1 ⟨rfl, hb1⟩
  have hC22 := headN_code2 S a
  generalize hX : headN S a = x at *
  have HX := Lib.hid hX
  clear hX
  obtain ⟨p, d, c⟩ := x
  unfold Odec.val
  dsimp only at HSm HPl hC22 ⊢
  have HM := Lib.hid (((Mem.start w).later hb1).alloc #[.int .i64 p, .int .i64 d] 142)
  clear hb1
  go_upto_region 2 with fail
  generalize w1.alloc _ = w2 at *
  generalize w1.heap.size = g at *
  have c0 := HM.out.cell 0 0 rfl rfl
  by_cases hc : c = 0
  · subst hc
    obtain ⟨ha, ⟨hp0, hp1⟩, _⟩ := HSm.out rfl
    obtain ⟨n, rfl⟩ := Int.eq_ofNat_of_zero_le hp0
    have HPk : Hid (∀ k : Nat, k < n → placeN S a (k : Int) false = ⟨a + (1 + (k : Int)), 0⟩) := Lib.hid (fun k hk => by rw [HPl.out, if_neg (by simp), if_neg (by simp), if_pos (by omega)])
    clear hC22 HSm HPl
    go_wp2_with fail
    go_loopw [8, 23] (fun v i wr => ∃ k : Nat, k ≤ n ∧ i = .int .i64 k ∧ wr.ownsRow w2.heap.size 3 1 v k ((ptrL S a k).map vi) ∧ Below w2.heap.size w2 wr) (fun _ i _ => n - (intOf i).toNat)
    case atStart => exact ⟨0, Nat.zero_le _, rfl, ⟨rfl, .inl ⟨rfl, rfl⟩⟩, Below.refl _ _⟩
    case round =>
      obtain ⟨k, hk, rfl, ho, hb⟩ := hrel
      obtain ⟨a1, c1, rfl, hc1, hm1⟩ := owned_form ho
      have HO := Lib.hid ho
      have HB := Lib.hid hb
      clear ho hb
      by_cases hlt : k < n
      · have hlt' : (k : Int) < (n : Int) := by omega
        have HS := Lib.hid (ptrL_succ S a k)
        go_wp2_with fail
        refine (optrG_any ((HD.out.below HM.out.below).below HB.out) a k).mono ?_
        rw [HPk.out k hlt]
        rintro e w3 ⟨rfl, hb3⟩
        rw [if_pos rfl]
        dsimp only
        rw [show a + (1 + (k : Int)) = a + 1 + (k : Int) by omega]
        generalize capP (peek S.cache (a + 1 + (k : Int))) = y at *
        have HO3 := Lib.hid (owned_below HO.out hb3 (Nat.le_refl _))
        have HB3 := Lib.hid (HB.out.trans (hb3.mono HB.out.size))
        have hone : Hid (∀ u ∈ (#[vi y] : Array Value).toList, u.oneCell' = true) := Lib.hid (by intro u hu; simp at hu; subst hu; rfl)
        have hbase : Hid (w2.heap.size ≤ w3.heap.size) := Lib.hid HB3.out.size
        have hk9 : k < 1000000000000 := by omega
        clear hb3 HO HB
        go_wp2_with (at_builtin; refine wpList_append_new (us := #[vi y]) elInt HO3.out rfl hone.out hk9 (by decide) hbase.out rfl rfl rfl (by simp [Act.eval]) ?_; intro g6 c6 w6 ho6 hg6 hc6 hm6 hb6 hl6; have HO6 := Lib.hid ho6; have HG6 := Lib.hid hg6; clear ho6 hg6)
        refine ⟨⟨k + 1, by omega, vint (by omega), ?_, below_grownBy HB3.out HO3.out HG6.out (Nat.le_refl _) (Nat.le_refl _)⟩, by simp [intOf]; omega⟩
        rw [HS.out]
        simpa using HO6.out
      · obtain rfl : k = n := by omega
        have hlt' : decide ((k : Int) < (k : Int)) = false := by simp
        go_wp2_with fail
        rw [← HP.out]
        refine ⟨(HM.out.later HB.out).below, .inl ⟨by rw [HX.out], _, rfl, ?_⟩⟩
        rw [HX.out]
        exact owned_base HO.out HM.out.below.size
  · have hc2 : c = 22 := hC22.elim (fun h => absurd h hc) id
    subst hc2
    clear hc hC22
    go_wp2_with fail
    rw [← HP.out]
    exact ⟨HM.out.below, .inr ⟨by rw [HX.out], rfl⟩⟩

end Go.Proofs.YtfedgcdkagngnaaGreat

/- law20: Now: the device as the document's. -/
namespace Go.Proofs.YtfedgcdkagngnaaGreat
open Go.RowKit
set_option linter.unusedVariables false

end Go.Proofs.YtfedgcdkagngnaaGreat

/- law20: a heap of objects that calls leave: plain; in memory. -/
namespace Go.Proofs.YtfedgcdkagngnaaGreat
open Go.RowKit
set_option linter.unusedVariables false

/-- Objects that were made are in use, each once. -/
structure WOk (B : Nat) (m : Al) (xs : List Nat) : Prop where
  ok : AlOk B m
  us : ∀ x ∈ xs, m.used.getD x false = true
  nd : xs.Nodup
section
variable {B : Nat} {m m' : Al} {xs : List Nat}
theorem WOk.begun (hB2 : 2 ≤ B) (hB : B ≤ 100) : WOk B (al0 B) [] := ⟨al0_ok hB2 hB, by simp, List.nodup_nil⟩
theorem WOk.lt (h : WOk B m xs) {x : Nat} (hx : x ∈ xs) : 512 ≤ x ∧ x < 512 * B := by
  have h1 := h.us x hx
  have h2 := getD_true_lt h1
  rw [h.ok.lenU] at h2
  exact ⟨(h.ok.used_kind h1).1, h2⟩
theorem nodup_count {l : List Nat} (h : l.Nodup) (a : Nat) : l.count a ≤ 1 := List.nodup_iff_count.1 h a
theorem WOk.len (h : WOk B m xs) : xs.length ≤ 512 * B := nodup_len _ _ (fun x hx => (h.lt hx).2) (nodup_count h.nd)
theorem WOk.made (h : WOk B m xs) {a : Nat} {p d : Int} (hm : Made B m m' a p d) : WOk B m' (xs ++ [a]) := by
  have ha : m'.used.getD a false = true := by
    have h1 := placed_room hm.placed
    have h2 := h1.pos.2.2
    have h3 := h1.pos.1
    rw [hm.ok.bm.lenL] at h2
    rw [hm.used, getD_set_bool _ _ _ _ (by rw [h.ok.lenU]; omega), if_pos rfl]
  refine ⟨hm.ok, fun x hx => ?_, ?_⟩
  · rcases List.mem_append.1 hx with hx | hx
    · exact (hm.others h.ok (h.us x hx)).1
    · simp at hx; subst hx; exact ha
  · rw [List.nodup_append]
    refine ⟨h.nd, by simp, fun x hx y hy => ?_⟩
    simp at hy; subst hy
    intro e; subst e
    have := h.us x hx
    rw [hm.new] at this; cases this
theorem setPtr_okN {S : Dev} {N : Nat} (h : S.ok N) (a i x : Int) : (S.setPtr a i x).dev.ok (N + 1) := by
  unfold Dev.setPtr
  split
  · exact h.mono (by omega)
  · split
    · exact h.mono (by omega)
    · exact Dev.store_okN h _ _
theorem lead_okN {N : Nat} (h : m.bm.dev.ok N) (i p t : Int) : (m.lead xs i p t).bm.dev.ok (N + 1) := by
  unfold Al.lead
  split
  · exact h.mono (by omega)
  · exact setPtr_okN h _ _ _

/-- What a pointer's change does. -/
theorem lead_is (h : WOk B m xs) (hB : B ≤ 200) (i p t : Int) : m.lead xs i p t = m ∨
    ∃ (x : Nat) (o : Odec) (k : Nat), x = pickN xs i ∧ x ≠ 0 ∧ placedN m.bm.dev m.bm.list (x : Int) = some o ∧ p = (k : Int) ∧ p < o.p ∧ m.lead xs i p t = ⟨⟨m.bm.dev.store ((x + 1 + k : Nat) : Int) (pickN xs t), m.bm.list, m.bm.free⟩, m.used, m.fl⟩ := by
  by_cases c : pickN xs i = 0
  · left; unfold Al.lead; rw [if_pos c]
  · have hu := h.us _ (pickN_mem c)
    obtain ⟨o, ho⟩ := Option.isSome_iff_exists.1 (h.ok.placed _ hu)
    obtain ⟨h1, h2, _⟩ := placed_head ho
    have hc : (headN m.bm.dev ((pickN xs i : Nat) : Int)).code = 0 := by rw [h1]; exact h2
    have hpl : placeN m.bm.dev ((pickN xs i : Nat) : Int) p false = if 0 ≤ p ∧ p < o.p then ⟨((pickN xs i : Nat) : Int) + (1 + p), 0⟩ else ⟨0, 7⟩ := by
      unfold placeN
      rw [if_neg (show ¬ (headN m.bm.dev ((pickN xs i : Nat) : Int)).code ≠ 0 by omega), h1]; rfl
    unfold Al.lead
    rw [if_neg c]
    by_cases hp : 0 ≤ p ∧ p < o.p
    · right
      obtain ⟨k, rfl⟩ := Int.eq_ofNat_of_zero_le hp.1
      refine ⟨_, o, k, rfl, c, ho, rfl, hp.2, ?_⟩
      have e1 : m.bm.dev.setPtr ((pickN xs i : Nat) : Int) (k : Int) ((pickN xs t : Nat) : Int) = ⟨m.bm.dev.store (((pickN xs i : Nat) : Int) + (1 + (k : Int))) ((pickN xs t : Nat) : Int).toNat, m.bm.dev.storeE (((pickN xs i : Nat) : Int) + (1 + (k : Int)))⟩ := by
        unfold Dev.setPtr
        rw [hpl, if_pos hp]
        exact (if_neg (fun h => h rfl)).trans (if_neg (by omega))
      rw [e1]
      dsimp only
      rw [show ((pickN xs i : Nat) : Int) + (1 + (k : Int)) = ((pickN xs i + 1 + k : Nat) : Int) by push_cast; omega, Int.toNat_natCast]
    · left
      have e1 : m.bm.dev.setPtr ((pickN xs i : Nat) : Int) p ((pickN xs t : Nat) : Int) = ⟨m.bm.dev, 7⟩ := by
        unfold Dev.setPtr
        rw [hpl, if_neg hp]
        exact if_pos (fun h => by cases h)
      rw [e1]
theorem placed_size {S : Dev} {L : List Hd} {a : Int} {o : Odec} (h : placedN S L a = some o) : objSize o.p o.d ≠ 0 ∧ 0 ≤ o.p ∧ o.p < 64 ∧ 0 ≤ o.d ∧ o.d ≤ 16384 := by
  obtain ⟨h1, h2, _⟩ := placed_head h
  have := headN_code S a
  rw [h1] at this
  rcases this with this | this
  · have h3 := obj_small this.2.2.2.1
    exact ⟨this.2.2.2.1, h3.1.1, h3.1.2, h3.2⟩
  · rw [this] at h2; cases h2
theorem objSize_is {p d : Int} (h : objSize p d ≠ 0) : (objSize p d : Int) = 1 + p + d := by
  unfold objSize at h ⊢
  split
  · next c => rw [if_pos c] at h; exact absurd rfl h
  · omega
theorem WOk.lead (h : WOk B m xs) (hB : B ≤ 200) (i p t : Int) : WOk B (m.lead xs i p t) xs := by
  rcases lead_is h hB i p t with e | ⟨x, o, k, hx, x0, ho, rfl, hk, e⟩
  · rw [e]; exact h
  · have hu := h.us _ (hx ▸ pickN_mem (by rw [← hx]; exact x0))
    obtain ⟨s1, s2, s3, s4, s5⟩ := placed_size ho
    have hs := objSize_is s1
    have hv : pickN xs t < 18446744073709551616 := by
      by_cases c : pickN xs t = 0
      · omega
      · have := (h.lt (pickN_mem c)).2; omega
    obtain ⟨_, a2, _, _⟩ := h.ok.store hB hu ho (j := x + 1 + k) (v := pickN xs t) (by omega) (by omega) hv
    rw [e]
    exact ⟨a2, h.us, h.nd⟩
end

/-- While a block is free, there is room for a small object. -/
theorem roomy {B : Nat} {m : Al} (h : BmOk B m.bm) {b n : Nat} (h1 : 1 ≤ b) (h2 : b < B) (hk : (m.bm.list.getD b default).k = 0) (hs : small n) : ¬ NoRoom m n := by
  intro hn
  have hp := (hn.cell hs).1
  obtain ⟨s, k, hr, _, _⟩ := has_run (L := m.bm.free.length) (fun x hx => fb_far m.bm.free x hx) ((h.free b).2 ⟨h1, h2, hk⟩)
  have hb := pick_best (n := 1) (runsOf_is m.bm.free).rising
  rw [hp] at hb
  have h3 := hb s k (((runsOf_is m.bm.free).mem s k).2 hr)
  have := hr.1
  omega
theorem roomy0 {B n : Nat} (hB2 : 2 ≤ B) (hB : B ≤ 100) (hs : small n) : ¬ NoRoom (al0 B) n := by
  refine roomy (al0_ok hB2 hB).bm (b := 1) (Nat.le_refl _) (by omega) ?_ hs
  rw [al0_list hB2 hB, List.getD_eq_getElem?_getD, List.getElem?_replicate, if_pos (by omega)]; rfl

/-- Blocks that a call leaves as they are. -/
def Off (Q : List Nat) (w w' : World) : Prop := ∃ L, Touch L w w' ∧ ∀ k ∈ Q, k ∉ L
theorem Off.block {Q : List Nat} {w w' : World} (h : Off Q w w') {k : Nat} (hk : k ∈ Q) (hl : k < w.heap.size) : w'.heap[k]? = w.heap[k]? := by
  obtain ⟨L, h1, h2⟩ := h; exact h1.block k hl (h2 k hk)
theorem Off.ofBelow {Q : List Nat} {w w' : World} (h : Below w.heap.size w w') : Off Q w w' := ⟨[], Touch.ofBelow h, by simp⟩
theorem Off.less {Q Q' : List Nat} {w w' : World} (h : Off Q w w') (hQ : ∀ k ∈ Q', k ∈ Q) : Off Q' w w' := by
  obtain ⟨L, h1, h2⟩ := h; exact ⟨L, h1, fun k hk => h2 k (hQ k hk)⟩
theorem MemR.off {B : Nat} {W W' : World} {L : List Ent} {Q : List Nat} (h : MemR B W L) (ho : Off Q W W') (hQ : ∀ x ∈ L.map Ent.g, x ∈ Q) : MemR B W' L := by
  obtain ⟨X, h1, h2⟩ := ho
  exact h.apart h1 (fun x hx => h2 _ (hQ _ (List.mem_map_of_mem hx)))

/-- A heap of law20 that a call has made, in memory; Q: other blocks of the call's own. -/
structure Hp (w wr : World) (Q : List Nat) (A : AF) (n B N : Nat) (m : Al) (v : Value) (xs : List Nat) : Prop where
  at_ : WAt wr A n B m v xs
  ok : WOk B m xs
  steps : m.bm.dev.ok N
  new : ∀ k ∈ A.list, w.heap.size ≤ k ∧ k ∉ Q
  newv : ∀ b, rowOf v = some b → w.heap.size ≤ b ∧ b ∉ Q
  qlt : ∀ k ∈ Q, k < wr.heap.size
  below : Below w.heap.size w wr
section
variable {w wr w' : World} {Q : List Nat} {A : AF} {n n' B N N' : Nat} {m m' : Al} {v v' : Value} {xs xs' : List Nat}
theorem Hp.later (h : Hp w wr Q A n B N m v xs) (hb : Below wr.heap.size wr w') : Hp w w' Q A n B N m v xs :=
  ⟨h.at_.below hb, h.ok, h.steps, h.new, h.newv, fun k hk => Nat.lt_of_lt_of_le (h.qlt k hk) hb.size, h.below.trans (hb.mono h.below.size)⟩
theorem Hp.mono (h : Hp w wr Q A n B N m v xs) (hn : n ≤ n') (hN : N ≤ N') : Hp w wr Q A n' B N' m v xs :=
  ⟨h.at_.mono hn, h.ok, h.steps.mono hN, h.new, h.newv, h.qlt, h.below⟩
/-- Steps in the caller's own blocks. -/
theorem Hp.own (h : Hp w wr Q A n B N m v xs) (ht : Touch Q wr w') (hQ : ∀ k ∈ Q, w.heap.size ≤ k) : Hp w w' Q A n B N m v xs :=
  ⟨⟨h.at_.al.keep (fun k hk => ht.block k (h.at_.al.mem k hk) (h.new k hk).2), h.at_.own.keep (fun b hb => ht.block b (h.at_.own.lt b hb) (h.newv b hb).2), h.at_.apart⟩,
    h.ok, h.steps, h.new, h.newv, fun k hk => Nat.lt_of_lt_of_le (h.qlt k hk) ht.size, below_touched h.below ht hQ (Nat.le_refl _)⟩
theorem Hp.go (h : Hp w wr Q A n B N m v xs) (hg : WGo wr w' A n' B m' v' xs') (hok : WOk B m' xs') (hs : m'.bm.dev.ok N') (hv : ∀ b, rowOf v' = some b → rowOf v = some b ∨ wr.heap.size ≤ b) :
    ∃ R, Hp w w' Q (A.re R) n' B N' m' v' xs' ∧ Off Q wr w' := by
  obtain ⟨R, h1, h2, h3⟩ := hg
  have hlt := h.below.size
  refine ⟨R, ⟨h1, hok, hs, fun k hk => ?_, fun b hb => ?_, fun k hk => Nat.lt_of_lt_of_le (h.qlt k hk) h2.size, below_touched h.below h2 (fun k hk => (h.new k (AF.hot_list hk)).1) (Nat.le_refl _)⟩, ⟨A.hot, h2, fun k hk hm => (h.new k (AF.hot_list hm)).2 hk⟩⟩
  · rcases AF.re_list hk with c | c
    · exact h.new k c
    · rcases h3 k c with c | c
      · exact h.new k (by simp [AF.list, c])
      · exact ⟨Nat.le_trans hlt c, fun hq => by have := h.qlt k hq; omega⟩
  · rcases hv b hb with c | c
    · exact h.newv b c
    · exact ⟨Nat.le_trans hlt c, fun hq => by have := h.qlt b hq; omega⟩
theorem Hp.more (h : Hp w wr Q A n B N m v xs) {Q' : List Nat} (hQ : ∀ k ∈ Q', k ∈ Q ∨ (wr.heap.size ≤ k ∧ k < w'.heap.size)) (hb : Below wr.heap.size wr w') : Hp w w' Q' A n B N m v xs := by
  have h' := h.later hb
  refine { h' with new := fun k hk => ⟨(h.new k hk).1, fun hq => ?_⟩, newv := fun b hb' => ⟨(h.newv b hb').1, fun hq => ?_⟩, qlt := fun k hk => ?_ }
  · rcases hQ k hq with c | c
    · exact (h.new k hk).2 c
    · have := h.at_.al.mem k hk; omega
  · rcases hQ b hq with c | c
    · exact (h.newv b hb').2 c
    · have := h.at_.own.lt b hb'; omega
  · rcases hQ k hk with c | c
    · exact h'.qlt k c
    · exact c.2
theorem Hp.less (h : Hp w wr Q A n B N m v xs) {Q' : List Nat} (hQ : ∀ k ∈ Q', k ∈ Q) : Hp w wr Q' A n B N m v xs :=
  { h with new := fun k hk => ⟨(h.new k hk).1, fun hq => (h.new k hk).2 (hQ k hq)⟩, newv := fun b hb => ⟨(h.newv b hb).1, fun hq => (h.newv b hb).2 (hQ b hq)⟩, qlt := fun k hk => h.qlt k (hQ k hk) }
/-- Make, Lead, of such a heap. -/
def HpMade (w wr : World) (Q : List Nat) (A : AF) (n B N : Nat) (m : Al) (v : Value) (xs : List Nat) (p d : Int) : Ending → World → Prop := fun e w' => ∃ (m' : Al) (v' : Value) (xs' R : List Nat),
  e = .returned (.tuple #[vworld A v', .bool true]) ∧ Hp w w' Q (A.re R) (n + 6) B (N + 600000) m' v' xs' ∧ Off Q wr w' ∧ ((∃ a, Made B m m' a p d ∧ xs' = xs ++ [a]) ∨ (m' = m ∧ xs' = xs ∧ v' = v ∧ NoRoom m (objSize p d)))
theorem Hp.make (h : Hp w wr Q A n B N m v xs) (hB2 : 2 ≤ B) (hB : B ≤ 200) (hn : n < 900000000000) (hN : N ≤ 900000000) (p d : Int) :
    Calls Tryz.prog 76 #[vworld A v, .int .i64 p, .int .i64 d] wr (HpMade w wr Q A n B N m v xs (clampI p 8) (clampI d 12)) := by
  have hl := h.ok.len
  refine (wmake_any h.at_ h.ok.ok hB2 hB hn hN h.steps (by omega) p d).mono ?_
  rintro e w' ⟨m', v', xs', rfl, hg, hm, hv, ha⟩
  have hs : m'.bm.dev.ok (N + 600000) := by rw [ha]; exact alloc_okN h.ok.ok.bm.clean.inv h.steps (by rw [h.ok.ok.bm.lenL]; omega) _ _ _
  have hok : WOk B m' xs' := by
    rcases hm with ⟨a, hm, rfl⟩ | ⟨rfl, rfl, _⟩
    · exact h.ok.made hm
    · exact h.ok
  obtain ⟨R, h1, h2⟩ := h.go hg hok hs hv
  exact ⟨m', v', xs', R, rfl, h1, h2, hm⟩
def HpLed (w wr : World) (Q : List Nat) (A : AF) (n B N : Nat) (m : Al) (v : Value) (xs : List Nat) : Ending → World → Prop := fun e w' => ∃ R : List Nat, e = .returned (.tuple #[]) ∧ Hp w w' Q (A.re R) n B (N + 1) m v xs ∧ Off Q wr w'
theorem Hp.lead (h : Hp w wr Q A n B N m v xs) (hB : B ≤ 200) (hN : N ≤ 900000000) (i p t : Int) :
    Calls Tryz.prog 59 #[vworld A v, .int .i64 i, .int .i64 p, .int .i64 t] wr (HpLed w wr Q A n B N (m.lead xs i p t) v xs) := by
  have hl := h.ok.len
  refine (wlead_any h.at_ hN h.steps (by omega) (fun x hx => by have := (h.ok.lt hx).2; omega) i p t).mono ?_
  rintro e w' ⟨rfl, hg⟩
  obtain ⟨R, h1, h2⟩ := h.go hg (h.ok.lead hB i p t) (lead_okN h.steps i p t) (fun b hb => .inl hb)
  exact ⟨R, rfl, h1, h2⟩
end

end Go.Proofs.YtfedgcdkagngnaaGreat

/- alloc: Used, Objects, Device. -/
namespace Go.Proofs.YtfedgcdkagngnaaGreat
open Go.RowKit
set_option linter.unusedVariables false

set_option maxHeartbeats 400000 in
theorem adev_any {w : World} {A : AF} {n B : Nat} {m : Al} (h : AlAt w A n B m) :
    Calls Tryz.prog 83 #[valloc A] w fun e w' => e = .returned (vdev A.X.F) ∧ w = w' := by
  have c1 := h.c1
  clear h
  go_enter Tryz.func83, Tryz.ntmps83
  go_wp2_with fail
  go_ret
  exact ⟨rfl, rfl⟩
set_option maxHeartbeats 400000 in
theorem aused_any {w : World} {A : AF} {n B : Nat} {m : Al} (h : AlAt w A n B m) (x : Int) :
    Calls Tryz.prog 39 #[valloc A, .int .i64 x] w fun e w' => e = .returned (.bool (hasI m.used x)) ∧ w = w' := by
  have c3 := h.c3
  have HS := Lib.hid h.set
  clear h
  go_enter Tryz.func39, Tryz.ntmps39
  go_wp2_with fail
  refine (shas_any HS.out x).mono ?_
  rintro e w1 ⟨rfl, rfl⟩
  go_wp2_with fail
  go_ret
  exact ⟨rfl, rfl⟩
theorem ListPost.own {w w' : World} {xs : List Nat} {e : Ending} (h : ListPost w xs e w') : ∃ a c, e = .returned (.slice a xs.length c) ∧ Cells w' a (xs.map vi) ∧ Below w.heap.size w w' ∧ (∀ b o s, a = some ⟨b, o, s⟩ → w.heap.size ≤ b) := by
  obtain ⟨v, rfl, ho, _, hb⟩ := h
  obtain ⟨a, c, rfl, _⟩ := owned_form ho
  exact ⟨a, c, rfl, Cells.owned ho, hb, fun b o s e => by subst e; exact owned_addr ho _ rfl⟩

end Go.Proofs.YtfedgcdkagngnaaGreat

/- mark: a marker in memory. -/
namespace Go.Proofs.YtfedgcdkagngnaaGreat
open Go.RowKit
set_option linter.unusedVariables false

/-- Where a marker lies. -/
structure MkF where
  p : Nat
  X : SetF
  Y : SetF
  s : Nat
  v : Value
section
variable {w w' : World} {A : AF} {K : MkF} {M : Mk}
end

section
variable {w w0 w1 w' : World} {A : AF} {n B : Nat} {m : Al} {K : MkF} {M M' : Mk}
end

section
variable {w : World} {A : AF} {K : MkF} {M : Mk}
end

end Go.Proofs.YtfedgcdkagngnaaGreat

/- mark: Shade, scan. -/
namespace Go.Proofs.YtfedgcdkagngnaaGreat
open Go.RowKit
set_option linter.unusedVariables false

section
variable {w : World} {A : AF} {n B : Nat} {m : Al} {K : MkF} {M : Mk}
end

end Go.Proofs.YtfedgcdkagngnaaGreat

/- Plain: what steps of a marker do; how many there are; what is black at last. -/
namespace Go.Proofs.YtfedgcdkagngnaaGreat
set_option linter.unusedVariables false

section
variable {U : List Bool} {P : Nat → List Nat} {M : Mk}

theorem set_getD_mono {l : List Bool} {a i : Nat} (h : l.getD i false = true) : (l.set a true).getD i false = true := by
  by_cases ha : a < l.length
  · rw [getD_set_bool _ _ _ _ ha]; split
    · rfl
    · exact h
  · rw [List.set_eq_of_length_le (by omega)]; exact h
section
variable {b : Bool} {M' : Mk}
end
/-- How many of a list have what a row of bits has. -/
theorem count_in {l : List Bool} {xs : List Nat} (hn : xs.Nodup) (h : ∀ x, l.getD x false = true → x ∈ xs) : l.count true = (xs.filter (fun x => l.getD x false)).length := by
  rw [← onesL_length]
  refine List.Perm.length_eq ?_
  refine (List.perm_ext_iff_of_nodup ?_ (hn.filter _)).2 (fun x => ?_)
  · exact (List.nodup_range).filter _
  · rw [mem_onesL, List.mem_filter]
    exact ⟨fun hx => ⟨h x hx, hx⟩, fun hx => hx.2⟩
end

end Go.Proofs.YtfedgcdkagngnaaGreat

/- mark: scan, grey. -/
namespace Go.Proofs.YtfedgcdkagngnaaGreat
open Go.RowKit
set_option linter.unusedVariables false

theorem Cells.touchL {w w' : World} {a : Option Addr} {vs : List Value} {L : List Nat} (h : Cells w a vs) (ht : Touch L w w') (hne : ∀ x, a = some x → x.block < w.heap.size → x.block ∉ L) : Cells w' a vs := by
  rcases h with h | ⟨b, off, rfl, h⟩
  · exact .inl h
  · exact .inr ⟨b, off, rfl, fun i v hi => cell_of_touch ht (show (⟨b, off + i, none⟩ : Addr).block ∉ L from hne ⟨b, off, none⟩ rfl (show b < w.heap.size from World.block_lt_of_cell? w ⟨b, off + i, none⟩ (h i v hi))) (h i v hi)⟩

/-- Where an object's pointers lead; nowhere, if there is none. -/
def ptrsD (S : Dev) (a : Int) : List Nat := if (headN S a).code = 0 then ptrL S a (headN S a).p.toNat else []
def ptrsO (m : Al) (a : Nat) : List Nat := ptrsD m.bm.dev (a : Int)
theorem PtrsPost.out {S : Dev} {a : Int} {w w' : World} {e : Ending} (h : PtrsPost S a w e w') : ∃ av cp ec, e = .returned (.tuple #[.slice av (ptrsD S a).length cp, .int .i64 ec]) ∧ ec = (headN S a).code ∧ Cells w' av ((ptrsD S a).map vi) ∧ (∀ x, av = some x → w.heap.size ≤ x.block) ∧ Below w.heap.size w w' := by
  obtain ⟨hb, h⟩ := h
  rcases h with ⟨h0, v, rfl, ho⟩ | ⟨h0, rfl⟩
  · have e0 : ptrsD S a = ptrL S a (headN S a).p.toNat := by unfold ptrsD; rw [if_pos h0]
    obtain ⟨av, cp, rfl, _, _⟩ := owned_form ho
    rw [e0, ptrL_length]
    exact ⟨av, cp, _, rfl, h0.symm, Cells.owned ho, owned_addr ho, hb⟩
  · have e0 : ptrsD S a = [] := by unfold ptrsD; rw [if_neg (by rw [h0]; decide)]
    rw [e0]
    exact ⟨none, 0, _, rfl, h0.symm, Cells.nil _ _, fun x hx => (by cases hx), hb⟩
theorem ptrsD_len {S : Dev} (hs : S.cache.length ≤ 1000000) (a : Int) : (ptrsD S a).length ≤ 64 := by
  unfold ptrsD
  split
  · next h =>
    rw [ptrL_length]
    have := head_small hs (a := a) h
    omega
  · simp
theorem ptrsD_le (S : Dev) (a : Int) : ∀ x ∈ ptrsD S a, x ≤ 1099511627776 := by
  intro x hx
  unfold ptrsD at hx
  split at hx
  · unfold ptrL at hx
    obtain ⟨i, _, rfl⟩ := List.mem_map.1 hx
    exact capP_le _
  · simp at hx
section
variable {w : World} {A : AF} {n B : Nat} {m : Al} {K : MkF} {M : Mk}
end

end Go.Proofs.YtfedgcdkagngnaaGreat
