/- Parts of the proof, one behind the other: Eo, Ep, Eq, Er, Cm, Fc, Fd, So, Fe, Ff, Df, Fg. -/
import Derived.Test.YtpopbfagliagnaaGreatCF8
import Derived.WideKeyEntry
import Derived.Shelf.Sort.Plain
import Derived.Shelf.Slices.In.SortNone
import Derived.Test.YtpopbfagliagnaaGreatProg
import Derived.Shelf.SlicesE.DeleteFunc
import Derived.Lib.SliceRun
set_option linter.unusedVariables false
namespace Go.Proofs.YtpopbfagliagnaaGreat
open Go.RowKit Go.Maps
def RoomPost (w : World) (A : AF) (n B : Nat) (r : AlR) : Ending → World → Prop := fun e w' => e = .returned (.tuple #[.int .i64 r.a, .int .i64 r.err]) ∧ AlGo w w' A n B r.al
theorem atake_any {w : World} {A : AF} {n B : Nat} {m : Al} (h : AlAt w A n B m) (hL : m.fl.upto 1000000) (hn : n < 1000000000000) (mu k : Nat) (hm4 : mu < 4) (hk : k < 32) :
  Calls Tryz.prog 291 #[.pointer (some ⟨A.f, 0, none⟩), .int .i64 (mu : Int), .int .i64 (k : Int)] w (RoomPost w A (n + 2) B (m.take m.bm m.fl mu k)) := by
 refine (ftake_any h.free hL hn mu k hm4 hk).mono ?_
 rintro e w' ⟨rfl, hg⟩
 unfold RoomPost Al.take
 cases hc : m.fl.cell mu k with
 | none =>
  refine ⟨rfl, ?_⟩
  have := h.setFree (by omega) hg
  rw [FL.taken_none hc] at this
  exact this
 | some x => exact ⟨rfl, h.setFree (by omega) hg⟩
theorem FL.drain_upto {S : FL} {N : Nat} (h : S.upto N) {m : Nat} (hm : m < 4) : (S.drain m).upto (2 * N) := by
 intro i hi
 have h1 := h i hi
 unfold FL.at at h1 ⊢
 by_cases e : i < 32
 ·rw [if_pos e] at h1 ⊢
  have h2 := h (slotI m i) (by unfold slotI; omega)
  rw [S.at_c m e] at h2
  unfold FL.drain
  dsimp only
  rw [if_pos e, List.length_append]
  omega
 ·rw [if_neg e] at h1 ⊢
  unfold FL.drain
  dsimp only
  split
  ·simp
  ·omega
def FL.ownerFrom (S : FL) (k : Nat) : Nat → Option Nat
 | 0 => none
 | j + 1 => if S.c (3 - j) k ≠ [] then some (3 - j) else S.ownerFrom k j
set_option maxHeartbeats 2000000 in
set_option maxRecDepth 20000 in
theorem asteal_any {w : World} {A : AF} {n B : Nat} {m : Al} (h : AlAt w A n B m) (hL : m.fl.upto 500000) (hn : n < 1000000000000) (mu k : Nat) (hm4 : mu < 4) (hk : k < 32) :
  Calls Tryz.prog 293 #[valloc A, .int .i64 (mu : Int), .int .i64 (k : Int)] w (RoomPost w A (n + 2) B (m.steal m.bm mu k)) := by
 have HA := LH h
 have HUp := LH hL
 have HS : Hid (m.steal m.bm mu k = match m.fl.ownerFrom k 4 with | some i => m.take m.bm (m.fl.drain i) mu k | none => ⟨⟨m.bm, m.used, m.fl⟩, 0, 4⟩) := LH rfl
 have HP : Hid (∀ r e w', r = m.steal m.bm mu k → RoomPost w A (n + 2) B r e w' → RoomPost w A (n + 2) B (m.steal m.bm mu k) e w') := LH (fun r e w' h1 h2 => by rw [← h1]; exact h2)
 generalize hst : m.steal m.bm mu k = st at *
 generalize hPo : RoomPost w A (n + 2) B st = Post at *
 have HPo := LH hPo
 have c4 := h.c4
 clear h hL hst hPo
 go_enter Tryz.func293, Tryz.ntmps293
 go_wp2_with fail
 go_loop [9] (fun iv => ∃ i : Nat, i ≤ 4 ∧ iv = .int .i64 (i : Int) ∧ Hid (m.fl.ownerFrom k 4 = m.fl.ownerFrom k (4 - i))) (fun iv => 4 - (intOf iv).toNat)
 case atStart => exact ⟨0, by omega, rfl, LH rfl⟩
 case round =>
  obtain ⟨i, hi4, rfl, HO⟩ := hrel
  by_cases hlt : i < 4
  case neg =>
   obtain rfl : i = 4 := by omega
   have HE : Hid (st = ⟨⟨m.bm, m.used, m.fl⟩, 0, 4⟩) := LH (by rw [HS.out, HO.out]; rfl)
   go_wp2_with fail
   refine HP.out _ _ _ HE.out.symm ?_
   exact ⟨rfl, (AlGo.refl HA.out).mono (by omega)⟩
  obtain ⟨j, hj⟩ : ∃ j, 4 - i = j + 1 := ⟨3 - i, by omega⟩
  have hji : 3 - j = i := by omega
  have HStep : Hid (m.fl.ownerFrom k (4 - i) = if m.fl.c i k ≠ [] then some i else m.fl.ownerFrom k (4 - (i + 1))) := LH (by
   rw [hj, show 4 - (i + 1) = j by omega]
   show (if m.fl.c (3 - j) k ≠ [] then some (3 - j) else m.fl.ownerFrom k j) = _
   rw [hji])
  clear hj hji
  have HOwn := LH (fown_any HA.out.free i k hlt hk)
  obtain ⟨l, hl⟩ : ∃ l, l = (m.fl.c i k).length := ⟨_, rfl⟩
  rw [← hl] at HOwn
  have HL := LH hl
  clear hl
  go_wp2_with fail
  refine HOwn.out.mono ?_
  rintro e w1 ⟨rfl, rfl⟩
  by_cases h0 : l = 0
  ·subst h0
   have hl0 : m.fl.c i k = [] := List.length_eq_zero_iff.1 HL.out.symm
   have HO2 : Hid (m.fl.ownerFrom k 4 = m.fl.ownerFrom k (4 - (i + 1))) := LH (by rw [HO.out, HStep.out, if_neg (by rw [hl0]; simp)])
   clear hl0
   go_wp2_with fail
   go_round
   case rel => exact ⟨i + 1, by omega, vint (by omega), HO2⟩
   case measure => simp [intOf]; omega
  ·have hl0 : m.fl.c i k ≠ [] := fun e => h0 (by rw [HL.out, e]; rfl)
   have HE : Hid (st = m.take m.bm (m.fl.drain i) mu k) := LH (by rw [HS.out, HO.out, HStep.out, if_pos hl0])
   have hl1 : 0 < l := by omega
   clear hl0 h0
   go_wp2_with fail
   refine (fdrain_any HA.out.free (HUp.out.mono (by omega)) hn i hlt).mono ?_
   rintro e w2 ⟨rfl, hg2⟩
   obtain ⟨R1, ha1, ht1, hr1⟩ := HA.out.setFree (Nat.le_refl _) hg2
   have HA1 := LH ha1
   have HT1 := LH ht1
   have HR1 := LH hr1
   have c41 := ha1.c4
   change w2.cell? ⟨A.a, 4, none⟩ = some (.pointer (some ⟨A.f, 0, none⟩)) at c41
   have HUd := LH (FL.drain_upto HUp.out hlt)
   clear hg2 ha1 ht1 hr1
   go_wp2_with fail
   refine (atake_any (A := A.re R1) HA1.out (HUd.out.mono (by omega)) hn mu k hm4 hk).mono ?_
   rintro e w3 ⟨rfl, hg3⟩
   have HFin := LH (AlGo.trans HT1.out HR1.out hg3)
   clear hg3
   have HE2 : Hid (st = (⟨m.bm, m.used, m.fl.drain i⟩ : Al).take m.bm (m.fl.drain i) mu k) := LH HE.out
   dsimp only at HFin ⊢
   generalize (⟨m.bm, m.used, m.fl.drain i⟩ : Al).take m.bm (m.fl.drain i) mu k = r at *
   obtain ⟨al, a, er⟩ := r
   dsimp only at HFin ⊢
   go_wp2_with fail
   refine HP.out _ _ _ HE2.out.symm ?_
   exact ⟨rfl, HFin.out⟩
theorem putAll_okB {S : Dev} {N : Nat} (hw : S.inv) (h : S.ok N) (L : List Hd) (b : Int) (l : List Hd) : (putAll S L b l).dev.ok (N + L.length + 200000) := by
 by_cases c : L.length < l.length
 ·have : putAll S L b l = ⟨S, L, 1⟩ := by
   unfold putAll
   rw [if_pos]
   by_cases c : b < 1
   ·exact .inl c
   ·exact .inr (.inr (.inl (by omega)))
  rw [this]; exact h.mono (by omega)
 ·exact (putAll_ok hw h L b l).mono (by omega)
theorem small_okN {b : Bm} {N : Nat} (hi : b.dev.inv) (h : b.dev.ok N) (hB : b.list.length ≤ 1000) (k : Int) : (b.small k).bm.dev.ok (N + 500000) := by
 unfold Bm.small
 split
 ·exact h.mono (by omega)
 ·split
  ·exact h.mono (by omega)
  ·exact (putAll_okB hi h _ _ _).mono (by omega)
theorem large_okN {b : Bm} {N : Nat} (hi : b.dev.inv) (h : b.dev.ok N) (hB : b.list.length ≤ 1000) (k : Int) : (b.large k).bm.dev.ok (N + 500000) := by
 unfold Bm.large
 split
 ·exact h.mono (by omega)
 ·split
  ·exact h.mono (by omega)
  ·split
   ·exact (putAll_okB hi h _ _ _).mono (by omega)
   ·exact (putAll_okB (putAll_inv hi _ _ _) (putAll_okB hi h _ _ _) _ _ _).mono (by rw [putAll_len]; omega)
theorem release_okN {b : Bm} {N : Nat} (hi : b.dev.inv) (h : b.dev.ok N) (hB : b.list.length ≤ 1000) (k : Int) : (b.release k).bm.dev.ok (N + 500000) := by
 unfold Bm.release
 split
 ·exact h.mono (by omega)
 ·dsimp only
  split
  ·exact (putAll_okB hi h _ _ _).mono (by omega)
  ·split
   ·exact (putAll_okB (putAll_inv hi _ _ _) (putAll_okB hi h _ _ _) _ _ _).mono (by rw [putAll_len]; omega)
   ·exact (putAll_okB (putAll_inv hi _ _ _) (putAll_okB hi h _ _ _) _ _ _).mono (by rw [putAll_len]; omega)
theorem nodup_len : ∀ (M : Nat) (l : List Nat), (∀ x ∈ l, x < M) → (∀ a, l.count a ≤ 1) → l.length ≤ M
 | 0, l, h, _ => by
  cases l with
  | nil => simp
  | cons x l => exact absurd (h x (by simp)) (by omega)
 | M + 1, l, h, h1 => by
  have e : l.length = (l.filter (fun x => x == M)).length + (l.filter (fun x => !(x == M))).length := by
   induction l with
   | nil => rfl
   | cons x l ih =>
    have := ih (fun y hy => h y (by simp [hy])) (fun a => Nat.le_trans (List.count_le_count_cons) (h1 a))
    by_cases c : x = M <;> simp [c] <;> omega
  have h2 : (l.filter (fun x => x == M)).length ≤ 1 := by
   rw [← List.countP_eq_length_filter]
   exact h1 M
  have h3 := nodup_len M (l.filter (fun x => !(x == M))) (fun x hx => by
   obtain ⟨g1, g2⟩ := List.mem_filter.1 hx
   have := h x g1
   simp at g2
   omega) (fun a => Nat.le_trans (List.Sublist.count_le a List.filter_sublist) (h1 a))
  omega
theorem AlOk.upto {B : Nat} {m : Al} (h : AlOk B m) : m.fl.upto (512 * B) := by
 have key : ∀ k, k < 32 → ∀ l : List Nat, (∀ a, l.count a ≤ m.fl.cnt k a) → l.length ≤ 512 * B := fun k hk l hl => by
  refine nodup_len _ l (fun x hx => ?_) (fun a => ?_)
  ·have h1 := hl x
   have h2 : 0 < l.count x := List.count_pos_iff.2 hx
   have h3 := h.cells k x hk
   by_cases c : isCell m.bm.list k x ∧ m.used.getD x false = false
   ·have := c.1.2.1
    rw [h.bm.lenL] at this
    exact this
   ·rw [if_neg c] at h3; omega
  ·have h1 := hl a
   have h3 := h.cells k a hk
   split at h3 <;> omega
 intro i hi
 unfold FL.at
 by_cases e : i < 32
 ·rw [if_pos e]
  refine key i e _ (fun a => ?_)
  unfold FL.cnt; omega
 ·rw [if_neg e]
  refine key ((i - 32) % 32) (Nat.mod_lt _ (by decide)) _ (fun a => ?_)
  unfold FL.cnt
  have : (i - 32) / 32 < 4 := by omega
  rcases four this with c | c | c | c <;> rw [c] <;> omega
theorem FL.carve_upto {used : Nat → Bool} {at_ : Nat → Nat} {k : Nat} : ∀ {S : FL} {N : Nat}, S.upto N → ∀ n, (S.carve used at_ k n).upto (N + n)
 | S, N, h, 0 => h
 | S, N, h, n + 1 => by
  unfold FL.carve
  have h2 : (if used (at_ n) then S else S.pushed k (at_ n)).upto (N + 1) := by
   split
   ·exact h.mono (by omega)
   ·exact FL.pushed_upto h _ _
  exact (FL.carve_upto h2 n).mono (by omega)
set_option maxHeartbeats 1000000 in
theorem gfirstN_any (B : Nat) (hB : B ≤ 1000) (b : Nat) (hb : b < B) (w : World) : Calls Tryz.prog 185 #[vgeom (B : Int), .int .i64 (b : Int)] w fun e w' => e = .returned (.int .i64 ((b : Int) * 512)) ∧ Below w.heap.size w w' := by
 have := gfirst_any B hB (b : Int) w
 rw [show firstOf (B : Int) (b : Int) = (b : Int) * 512 by unfold firstOf; rw [if_neg (by omega)]] at this
 exact this
set_option maxHeartbeats 4000000 in
set_option maxRecDepth 20000 in
theorem aroom_any {w : World} {A : AF} {n B : Nat} {m : Al} (h : AlAt w A n B m) (hok : AlOk B m) (hB : B ≤ 200) (hn : n < 900000000000) {N : Nat} (hN : N ≤ 900000000) (ho : m.bm.dev.ok N) (mu : Nat) (hm4 : mu < 4) (p d : Int) (hs : objSize p d ≠ 0) :
  Calls Tryz.prog 233 #[valloc A, .int .i64 (mu : Int), vob p d] w (RoomPost w A (n + 6) B (m.room mu (objSize p d))) := by
 have HA := LH h
 have HOk := LH hok
 have HUp := LH hok.upto
 have HSz := LH (objSize_le p d)
 have HMem := LH (Mem.one w #[.int .i64 p, .int .i64 d] 169)
 have HA0 := LH (h.below HMem.out.below)
 have HW0 := LH HMem.out.below
 have HSm := LH (fun w => osmall_any p d w)
 have HBl := LH (fun w => oblocks_any p d w)
 have HP : Hid (∀ (a er : Int) (al : Al) w', (⟨al, a, er⟩ : AlR) = m.room mu (objSize p d) → AlGo w w' A (n + 6) B al → RoomPost w A (n + 6) B (m.room mu (objSize p d)) (.returned (.tuple #[.int .i64 a, .int .i64 er])) w') := LH (fun a er al w' h1 h2 => by rw [← h1]; exact ⟨rfl, h2⟩)
 have HR : Hid (m.room mu (objSize p d) = if small (objSize p d) then m.roomS mu (ofN (objSize p d : Nat)) else m.roomL (objBlocks (objSize p d))) := LH rfl
 generalize m.room mu (objSize p d) = r at *
 generalize RoomPost w A (n + 6) B r = Post at *
 have HOkN := LH ho
 clear h hok ho
 go_enter Tryz.func233, Tryz.ntmps233
 go_upto_region 1 with fail
 obtain ⟨q, hq⟩ : ∃ q, q = w.heap.size := ⟨_, rfl⟩
 rw [← hq] at HMem ⊢
 generalize w.alloc _ = w0 at *
 have HQh : Hid (q ∉ A.X.hot) := LH (fun hm => by
  have := HA.out.mem q (by simp [AF.list, AF.fix, MF.hot_sub hm])
  rw [hq] at this
  exact Nat.lt_irrefl _ this)
 clear hq
 have d0 := HMem.out.cell 0 0 rfl rfl
 have d1 := HMem.out.cell 0 1 rfl rfl
 go_wp2_with fail
 refine (HSm.out _).mono ?_
 rintro e w1 ⟨rfl, hb1⟩
 have HA1 := LH (HA0.out.below hb1)
 have HM1 := LH (HMem.out.later hb1)
 have HW1 := LH (HW0.out.trans (hb1.mono HW0.out.size))
 clear hb1 d0 d1
 by_cases hsm : small (objSize p d)
 case neg =>
  have HE : Hid (r = m.roomL (objBlocks (objSize p d))) := LH (by rw [HR.out, if_neg hsm])
  have HNb : Hid (1 ≤ objBlocks (objSize p d) ∧ objBlocks (objSize p d) < 256) := LH (by
   have := HSz.out
   unfold objBlocks
   rw [if_neg hsm]
   omega)
  rw [ofV_large _ hsm]
  clear hsm
  generalize objBlocks (objSize p d) = nb at *
  go_upto_region 3 with fail
  have hAn : A.a ∉ A.X.hot := fun hm => by
   have nd := HA.out.nd
   unfold AF.fix at nd
   rw [List.nodup_cons] at nd
   exact nd.1 (List.mem_append_left _ (MF.hot_sub hm))
  have d0 := HM1.out.cell 0 0 rfl rfl
  have d1 := HM1.out.cell 0 1 rfl rfl
  have r0 := fun x => near_cell (L := A.X.hot) d0 HQh.out x
  have r1 := fun x => near_cell (L := A.X.hot) d1 HQh.out x
  have r2 := fun x => near_cell (L := A.X.hot) HA1.out.c0 hAn x
  have HT1 : Hid (Touch A.X.hot w1 w1.drew) := LH (Touch.ofBelow (later_below (later_drew w1)))
  have HD1 : Hid (Below w1.heap.size w1 w1.drew) := LH (later_below (later_drew w1))
  have hC1 := near_of HT1.out
  clear d0 d1 hAn
  refine wp_region_seg (C := fun w' => ∃ x : Near A.X.hot w1, w' = x.val) [.fl [0, 1, 2, 3, 4], .sq [5] true, .sq [6, 7] false, .fl [8, 9, 10], .sq [11] false] (by kernel_rfl) (by kernel_rfl) (by intro c a d v w h; cases d <;> exact h) ?_
  simp only [segs, picks, List.getElem?_cons_succ, List.getElem?_cons_zero]
  refine wpSeg_fl hC1 ?_
  repeat (first | go_big_quiet_step (fail) | quiet_step (fail))
  refine wpQuiet_nil ?_
  clear r0 r1 r2
  generalize w1.drew = wd at *
  refine wpSeg_sq (fun K hK => ?_)
  go_wp2_with fail
  refine (HBl.out _).mono ?_
  rintro e w2 ⟨rfl, hb2⟩
  have HD2 : Hid (Below w1.heap.size w1 w2) := LH (HD1.out.trans (hb2.mono HD1.out.size))
  have hC2 : ∃ x : Near A.X.hot w1, w2 = x.val := near_of (Touch.ofBelow HD2.out)
  clear hb2
  go_wp2_with fail
  refine hK _ _ (fun _ => hC2) ?_
  clear hK K
  have HA2 := LH (HA1.out.below HD2.out)
  refine wpSeg_sq (fun K hK => ?_)
  go_wp2_with fail
  refine (blarge_any HA2.out.man (by omega) (by omega) (N := N) (by omega) HOkN.out HOk.out.bm.clean.inv (nb : Int)).mono ?_
  rintro e w3 ⟨rfl, hm3, ht3⟩
  have HT3 : Hid (Touch A.X.hot w1 w3) := LH ((Touch.ofBelow HD2.out).trans ht3)
  have hC3 := near_of HT3.out
  have HLn : Hid ((m.bm.large (nb : Int)).bm.dev.cache.length = m.bm.dev.cache.length) := LH (by
   rcases large_live HOk.out.bm HOk.out.live nb HNb.out.1 HNb.out.2 with ⟨e, _⟩ | ⟨b, _, _, _, _, _, _, _, s8, _⟩
   ·rw [e]
   ·exact s8.len)
  have HGo3 : Hid (AlGo w w3 A (n + 1) B ⟨(m.bm.large (nb : Int)).bm, m.used, m.fl⟩) := LH (AlGo.ahead (HW1.out.trans (HD2.out.mono HW1.out.size)) (HA2.out.setMan (by omega) hm3 ht3 HLn.out))
  have HRL : Hid (r = if (m.bm.large (nb : Int)).err ≠ 0 then ⟨⟨(m.bm.large (nb : Int)).bm, m.used, m.fl⟩, 0, (m.bm.large (nb : Int)).err⟩ else ⟨⟨(m.bm.large (nb : Int)).bm, m.used, m.fl⟩, 512 * (m.bm.large (nb : Int)).b, 0⟩) := LH HE.out
  have HCase : Hid (((m.bm.large (nb : Int)).err = 4 ∧ (m.bm.large (nb : Int)).b = 0) ∨ ∃ b : Nat, (m.bm.large (nb : Int)).err = 0 ∧ (m.bm.large (nb : Int)).b = (b : Int) ∧ b < B) := LH (by
   rcases large_live HOk.out.bm HOk.out.live nb HNb.out.1 HNb.out.2 with ⟨e, _⟩ | ⟨b, s1, s2, _, s4, _⟩
   ·rw [e]; exact .inl ⟨rfl, rfl⟩
   ·exact .inr ⟨b, s2, s1, by have := HNb.out; omega⟩)
  clear ht3 hm3 HLn HE
  obtain ⟨lr, hlr⟩ : ∃ lr, lr = m.bm.large (nb : Int) := ⟨_, rfl⟩
  rw [← hlr] at HGo3 HRL HCase ⊢
  clear hlr
  obtain ⟨bm, bb, er⟩ := lr
  dsimp only at HGo3 HRL HCase ⊢
  go_wp2_with fail
  refine hK _ _ (fun _ => hC3) ?_
  clear hK K
  refine wpSeg_fl hC3 ?_
  repeat (first | go_big_quiet_step (fail) | quiet_step (fail))
  refine wpQuiet_nil ?_
  rcases HCase.out with ⟨rfl, rfl⟩ | ⟨b, rfl, rfl, hbB⟩
  ·have HE : Hid (⟨⟨bm, m.used, m.fl⟩, 0, 4⟩ = r) := LH (by rw [HRL.out]; rfl)
   refine wpSeg_last ?_
   go_wp2_with fail
   exact HP.out _ _ _ _ HE.out (HGo3.out.mono (by omega))
  ·have HE : Hid (⟨⟨bm, m.used, m.fl⟩, 512 * (b : Int), 0⟩ = r) := LH (by rw [HRL.out]; rfl)
   obtain ⟨R3, ha3, _⟩ := HGo3.out
   have c2 := ha3.c2
   change w3.cell? ⟨A.a, 2, none⟩ = some (.int .i64 (B : Int)) at c2
   clear ha3
   refine wpSeg_last ?_
   go_wp2_with fail
   refine (gfirstN_any B (by omega) b hbB _).mono ?_
   rintro e w4 ⟨rfl, hb4⟩
   have HGo4 := LH (HGo3.out.later hb4)
   clear hb4 c2
   go_wp2_with fail
   refine HP.out _ _ _ _ ?_ (HGo4.out.mono (by omega))
   rw [← HE.out, Int.mul_comm]
 have hk := ofN_lt hsm
 have HE : Hid (r = m.roomS mu (ofN (objSize p d : Nat))) := LH (by rw [HR.out, if_pos hsm])
 rw [ofV_small _ hsm]
 generalize ofN (objSize p d : Nat) = k at *
 have HRS : Hid (r = if (m.fl.cell mu k).isSome then m.take m.bm m.fl mu k
  else if (m.bm.small k).err = 0 then m.take (m.bm.small k).bm (m.carved (m.bm.small k).b.toNat k) mu k
  else if (m.bm.small k).err ≠ 4 then ⟨⟨(m.bm.small k).bm, m.used, m.fl⟩, 0, (m.bm.small k).err⟩
  else m.steal (m.bm.small k).bm mu k) := LH HE.out
 clear HE HR HBl HSm
 have c4 := HA1.out.c4
 go_wp2_with fail
 refine (atake_any HA1.out (HUp.out.mono (by omega)) (by omega) mu k hm4 hk).mono ?_
 rintro e w2 ⟨rfl, hg2⟩
 have HG2 := LH (AlGo.ahead HW1.out hg2)
 clear hg2 c4
 cases hc : m.fl.cell mu k with
 | some x =>
  have HT : Hid (m.take m.bm m.fl mu k = r) := LH (by rw [HRS.out, hc]; rfl)
  have HT2 : Hid (m.take m.bm m.fl mu k = ⟨⟨m.bm, m.used, m.fl.taken mu k⟩, (x : Int), 0⟩) := LH (by unfold Al.take; rw [hc]; rfl)
  rw [HT2.out] at HG2 ⊢
  have HT3 := LH (HT2.out.symm.trans HT.out)
  clear HRS hc
  go_wp2_with fail
  exact HP.out _ _ _ _ HT3.out (HG2.out.mono (by omega))
 | none =>
  have HT2 : Hid (m.take m.bm m.fl mu k = ⟨m, 0, 4⟩) := LH (by unfold Al.take; rw [hc]; rfl)
  rw [HT2.out] at HG2 ⊢
  have HRS2 : Hid (r = if (m.bm.small k).err = 0 then m.take (m.bm.small k).bm (m.carved (m.bm.small k).b.toNat k) mu k
   else if (m.bm.small k).err ≠ 4 then ⟨⟨(m.bm.small k).bm, m.used, m.fl⟩, 0, (m.bm.small k).err⟩
   else m.steal (m.bm.small k).bm mu k) := LH (by rw [HRS.out, hc]; rfl)
  clear HRS hc HT2
  obtain ⟨R2, ha2, ht2, hr2⟩ := HG2.out
  have HA2 := LH ha2
  have HT2 := LH ht2
  have HR2 := LH hr2
  have c0 := ha2.c0
  change w2.cell? ⟨A.a, 0, none⟩ = some (.pointer (some ⟨A.X.m, 0, none⟩)) at c0
  clear ha2 ht2 hr2
  go_wp2_with fail
  refine (bsmall_any (X := A.X) HA2.out.man (by omega) (by omega) (N := N) (by omega) HOkN.out (k : Int)).mono ?_
  rintro e w3 ⟨rfl, hm3, ht3⟩
  rcases small_live HOk.out.bm HOk.out.live k hk with ⟨e, hp⟩ | ⟨b, s1, s2, s3, s4, s5, s6, s7, s8, s9, s10, s11⟩
  ·rw [e] at HRS2 hm3 ⊢
   have HE : Hid (r = m.steal m.bm mu k) := LH (by rw [HRS2.out]; rfl)
   have HG3 : Hid (AlGo w w3 A (n + 3) B m) := LH (AlGo.trans HT2.out HR2.out (HA2.out.setMan (bm := m.bm) (by omega) hm3 ht3 rfl))
   obtain ⟨R3, ha3, ht3', hr3⟩ := HG3.out
   have HA3 := LH ha3
   have HT3 := LH ht3'
   have HR3 := LH hr3
   clear ha3 ht3' hr3 hm3 ht3 e hp HRS2 c0
   dsimp only
   go_wp2_with fail
   refine (asteal_any (A := A.re R3) HA3.out (HUp.out.mono (by omega)) (by omega) mu k hm4 hk).mono ?_
   rintro e w4 ⟨rfl, hg4⟩
   have HG4 := LH (AlGo.trans HT3.out HR3.out hg4)
   clear hg4
   have HE' : Hid (m.steal m.bm mu k = r) := LH HE.out.symm
   generalize m.steal m.bm mu k = st at *
   obtain ⟨al, a, er⟩ := st
   dsimp only at HG4 ⊢
   go_wp2_with fail
   exact HP.out _ _ _ _ HE'.out (HG4.out.mono (by omega))
  ·have HE : Hid (r = m.take (m.bm.small k).bm (m.carved b k) mu k) := LH (by rw [HRS2.out, if_pos s2, s1]; rfl)
   have HG3 : Hid (AlGo w w3 A (n + 3) B ⟨(m.bm.small k).bm, m.used, m.fl⟩) := LH (AlGo.trans HT2.out HR2.out (HA2.out.setMan (by omega) hm3 ht3 s8.len))
   rw [s1, s2]
   generalize (m.bm.small k).bm = bm' at *
   clear hm3 ht3 HRS2 s2 s1 s5 s6 s7 s8 s9 s10 s11 c0
   obtain ⟨R3, ha3, ht3', hr3⟩ := HG3.out
   have HA3 := LH ha3
   have HT3 := LH ht3'
   have HR3 := LH hr3
   clear ha3 ht3' hr3
   go_wp2_with fail
   refine (acarve_any (A := A.re R3) HA3.out hB (HUp.out.mono (by omega)) b k hk s3 s4 HOk.out.lenU).mono ?_
   rintro e w4 ⟨rfl, hg4⟩
   have HG4 : Hid (AlGo w w4 A (n + 3) B ⟨bm', m.used, m.carved b k⟩) := LH (AlGo.trans HT3.out HR3.out hg4)
   obtain ⟨R4, ha4, ht4', hr4⟩ := HG4.out
   have HA4 := LH ha4
   have HT4 := LH ht4'
   have HR4 := LH hr4
   have c4 := ha4.c4
   change w4.cell? ⟨A.a, 4, none⟩ = some (.pointer (some ⟨A.f, 0, none⟩)) at c4
   have HUc : Hid ((m.carved b k).upto 1000000) := LH ((FL.carve_upto (HUp.out) (clsCells k)).mono (by
    have := clsWords_pos (k : Int) (by omega)
    have : clsCells (k : Int) ≤ 256 := Nat.div_le_of_le_mul (by omega)
    omega))
   clear ha4 ht4' hr4 hg4
   go_wp2_with fail
   refine (atake_any (A := A.re R4) HA4.out HUc.out (by omega) mu k hm4 hk).mono ?_
   rintro e w5 ⟨rfl, hg5⟩
   have HG5 := LH (AlGo.trans HT4.out HR4.out hg5)
   clear hg5
   have HE' : Hid ((⟨bm', m.used, m.carved b k⟩ : Al).take bm' (m.carved b k) mu k = r) := LH HE.out.symm
   dsimp only at HG5 ⊢
   generalize (⟨bm', m.used, m.carved b k⟩ : Al).take bm' (m.carved b k) mu k = st at *
   obtain ⟨al, a, er⟩ := st
   dsimp only at HG5 ⊢
   go_wp2_with fail
   exact HP.out _ _ _ _ HE'.out (HG5.out.mono (by omega))
theorem zeroTo_clen (S : Dev) (a : Nat) : ∀ k, (zeroTo S a k).dev.cache.length = S.cache.length
 | 0 => rfl
 | k + 1 => by
  unfold zeroTo
  split
  ·exact zeroTo_clen S a k
  ·dsimp only; rw [store_clen]; exact zeroTo_clen S a k
theorem init_clen (S : Dev) (a p d : Int) : (S.init a p d).dev.cache.length = S.cache.length := by
 unfold Dev.init
 split
 ·rfl
 ·split
  ·rfl
  ·unfold Dev.initN
   split
   ·exact zeroTo_clen _ _ _
   ·dsimp only; rw [store_clen]; exact zeroTo_clen _ _ _
theorem ManAt.setDev {w w' : World} {X : MF} {n B : Nat} {m : Bm} (h : ManAt w X n B m) {d : Dev} (hd : DevAt w' X.F d) (ht : Touch X.F.list w w') : ManAt w' X n B ⟨d, m.list, m.free⟩ ∧ Touch X.hot w w' := by
 have ap := MF.apart h.nd
 have h2 := MF.notHot ap.t
 exact h.put hd (h.tab.touch ht h2.2.2.2 ap.g) (ht.wide (fun b hb => List.mem_cons_of_mem _ hb))
theorem take_bm (m : Al) (bm : Bm) (f : FL) (mu k : Nat) : (m.take bm f mu k).al.bm = bm := by unfold Al.take; split <;> rfl
theorem room_bm (m : Al) (mu n : Nat) : (m.room mu n).al.bm = m.bm ∨ (m.room mu n).al.bm = (m.bm.small (ofN (n : Int) : Nat)).bm ∨ (m.room mu n).al.bm = (m.bm.large (objBlocks n : Nat)).bm := by
 unfold Al.room
 split
 ·unfold Al.roomS
  split
  ·exact .inl (take_bm _ _ _ _ _)
  ·split
   ·exact .inr (.inl (take_bm _ _ _ _ _))
   ·split
    ·exact .inr (.inl rfl)
    ·unfold Al.steal
     split
     ·exact .inr (.inl (take_bm _ _ _ _ _))
     ·exact .inr (.inl rfl)
 ·unfold Al.roomL
  split
  ·exact .inr (.inr rfl)
  ·exact .inr (.inr rfl)
theorem room_okN {m : Al} {N : Nat} (hi : m.bm.dev.inv) (h : m.bm.dev.ok N) (hB : m.bm.list.length ≤ 1000) (mu n : Nat) : (m.room mu n).al.bm.dev.ok (N + 500000) := by
 rcases room_bm m mu n with e | e | e <;> rw [e]
 ·exact h.mono (by omega)
 ·exact small_okN hi h hB _
 ·exact large_okN hi h hB _
theorem alloc_okN {m : Al} {N : Nat} (hi : m.bm.dev.inv) (h : m.bm.dev.ok N) (hB : m.bm.list.length ≤ 1000) (mu p d : Int) : (m.alloc mu p d).al.bm.dev.ok (N + 600000) := by
 unfold Al.alloc
 split
 ·exact h.mono (by omega)
 ·split
  ·exact h.mono (by omega)
  ·have hr := room_okN hi h hB mu.toNat (objSize p d)
   split
   ·exact hr.mono (by omega)
   ·have := init_ok hr (m.room mu.toNat (objSize p d)).a p d
    unfold Al.made
    split
    ·exact this.mono (by omega)
    ·exact this.mono (by omega)
set_option maxHeartbeats 4000000 in
set_option maxRecDepth 20000 in
theorem aalloc_any {w : World} {A : AF} {n B : Nat} {m : Al} (h : AlAt w A n B m) (hok : AlOk B m) (hB1 : 1 ≤ B) (hB : B ≤ 200) (hn : n < 900000000000) {N : Nat} (hN : N ≤ 900000000) (ho : m.bm.dev.ok N) (mu p d : Int) :
  Calls Tryz.prog 152 #[valloc A, .int .i64 mu, .int .i64 p, .int .i64 d] w (RoomPost w A (n + 6) B (m.alloc mu p d)) := by
 have HMem := LH (Mem.one w #[.int .i64 p, .int .i64 d] 169)
 have HA0 := LH (h.below HMem.out.below)
 have HW0 := LH HMem.out.below
 have HOk := LH hok
 have HOkN := LH ho
 have HSz := LH (fun w => osize_any p d w)
 have HLn : Hid (m.bm.list.length = B) := LH hok.bm.lenL
 have HP : Hid (∀ (a er : Int) (al : Al) w', (⟨al, a, er⟩ : AlR) = m.alloc mu p d → AlGo w w' A (n + 6) B al → RoomPost w A (n + 6) B (m.alloc mu p d) (.returned (.tuple #[.int .i64 a, .int .i64 er])) w') := LH (fun a er al w' h1 h2 => by rw [← h1]; exact ⟨rfl, h2⟩)
 have HR : Hid (m.alloc mu p d = if mu < 0 ∨ 4 ≤ mu then ⟨m, 0, 1⟩
  else if objSize p d = 0 ∨ 512 * ((m.bm.list.length : Int) - 1) < (objSize p d : Nat) then ⟨m, 0, 5⟩
  else if (m.room mu.toNat (objSize p d)).err ≠ 0 then ⟨(m.room mu.toNat (objSize p d)).al, 0, (m.room mu.toNat (objSize p d)).err⟩
  else (m.room mu.toNat (objSize p d)).al.made (m.room mu.toNat (objSize p d)).a p d) := LH rfl
 rw [HLn.out] at HR
 generalize m.alloc mu p d = r at *
 generalize RoomPost w A (n + 6) B r = Post at *
 have HAh := LH h
 clear h hok ho
 go_enter Tryz.func152, Tryz.ntmps152
 go_upto_region 2 with fail
 obtain ⟨q, hq⟩ : ∃ q, q = w.heap.size := ⟨_, rfl⟩
 rw [← hq] at HMem ⊢
 have HQ := LH hq
 generalize w.alloc _ = w0 at *
 clear hq
 by_cases hmu : mu < 0 ∨ 4 ≤ mu
 ·have HE : Hid (⟨m, 0, 1⟩ = r) := LH (by rw [HR.out, if_pos hmu])
  have HG : Hid (AlGo w w0 A (n + 6) B m) := LH (AlGo.ahead HW0.out ((AlGo.refl HA0.out).mono (by omega)))
  rcases hmu with hmu | hmu
  ·go_wp2_with fail
   exact HP.out _ _ _ _ HE.out HG.out
  ·have hmu0 : 0 ≤ mu := by omega
   go_wp2_with fail
   exact HP.out _ _ _ _ HE.out HG.out
 have hmu0 : 0 ≤ mu := by omega
 have hmu4 : mu < 4 := by omega
 have HR2 : Hid (r = if objSize p d = 0 ∨ 512 * ((B : Int) - 1) < (objSize p d : Nat) then ⟨m, 0, 5⟩
  else if (m.room mu.toNat (objSize p d)).err ≠ 0 then ⟨(m.room mu.toNat (objSize p d)).al, 0, (m.room mu.toNat (objSize p d)).err⟩
  else (m.room mu.toNat (objSize p d)).al.made (m.room mu.toNat (objSize p d)).a p d) := LH (by rw [HR.out, if_neg hmu])
 clear HR hmu
 obtain ⟨s, hs⟩ : ∃ s, s = objSize p d := ⟨_, rfl⟩
 rw [← hs] at HR2
 have HSzs : Hid (∀ w, Calls Tryz.prog 182 #[.agg #[.int .i64 p, .int .i64 d]] w fun e w' => e = .returned (.int .i64 (s : Int)) ∧ Below w.heap.size w w') := LH (by rw [hs]; exact HSz.out)
 have HSs := LH hs
 have hsl : s ≤ 16448 := by rw [hs]; exact objSize_le _ _
 clear hs HSz
 have d0 := HMem.out.cell 0 0 rfl rfl
 have d1 := HMem.out.cell 0 1 rfl rfl
 have r0 := fun x => later_cell d0 x
 have r1 := fun x => later_cell d1 x
 have r2 := fun x => later_cell HA0.out.c2 x
 have HD1 : Hid (Below w0.heap.size w0 w0.drew) := LH (later_below (later_drew w0))
 have d0' := r0 ⟨w0.drew, HD1.out⟩
 have d1' := r1 ⟨w0.drew, HD1.out⟩
 dsimp only at d0' d1'
 go_upto_region 4 with fail
 by_cases hs0 : s = 0
 ·subst hs0
  have HE : Hid (⟨m, 0, 5⟩ = r) := LH (by rw [HR2.out, if_pos (.inl rfl)])
  refine wp_region_seg (C := fun w' => ∃ x : Later (w0), w' = x.val) [.sq [0, 1, 2, 3] false, .fl [4, 6, 7, 8, 9], .sq [5] true, .sq [10, 11, 12, 13] false] (by kernel_rfl) (by kernel_rfl) (by intro c a d v w h; cases d <;> exact h) ?_
  simp only [segs, picks, List.getElem?_cons_succ, List.getElem?_cons_zero]
  have hC1 := later_drew (w0)
  refine wpSeg_sq (fun K hK => ?_)
  go_wp2_with fail
  refine (HSzs.out _).mono ?_
  rintro e w1 ⟨rfl, hb1⟩
  have hC2 := later_step hC1 hb1
  have HG : Hid (AlGo w w1 A (n + 6) B m) := LH (AlGo.ahead (HW0.out.trans ((HD1.out.trans (hb1.mono HD1.out.size)).mono HW0.out.size)) ((AlGo.refl (HA0.out.below (HD1.out.trans (hb1.mono HD1.out.size)))).mono (by omega)))
  clear hb1
  go_wp2_with fail
  refine hK _ _ (fun _ => hC2) ?_
  clear hK K
  refine wpSeg_fl hC2 ?_
  repeat (first | go_big_quiet_step (fail) | quiet_step (fail))
  refine wpQuiet_nil ?_
  refine wpSeg_sq (fun K hK => ?_)
  go_wp2_with fail
  go_wp2_with fail
  refine hK _ _ (fun _ => hC2) ?_
  clear hK K
  refine wpSeg_last ?_
  go_wp2_with fail
  exact HP.out _ _ _ _ HE.out HG.out
 have hs0' : ((s : Int) == 0) = false := by simpa using hs0
 refine wp_region_seg (C := fun w' => ∃ x : Later (w0), w' = x.val) [.sq [0, 1, 2, 3] false, .fl [4, 6, 7, 8, 9], .sq [5] true, .sq [10, 11, 12, 13] false] (by kernel_rfl) (by kernel_rfl) (by intro c a d v w h; cases d <;> exact h) ?_
 simp only [segs, picks, List.getElem?_cons_succ, List.getElem?_cons_zero]
 have hC1 := later_drew (w0)
 refine wpSeg_sq (fun K hK => ?_)
 go_wp2_with fail
 refine (HSzs.out _).mono ?_
 rintro e w1 ⟨rfl, hb1⟩
 have hC2 := later_step hC1 hb1
 clear hb1 d0' d1'
 go_wp2_with fail
 refine hK _ _ (fun _ => hC2) ?_
 clear hK K
 refine wpSeg_fl hC2 ?_
 repeat (first | go_big_quiet_step (fail) | quiet_step (fail))
 refine wpQuiet_nil ?_
 refine wpSeg_sq (fun K hK => ?_)
 go_wp2_with fail
 refine (HSzs.out _).mono ?_
 rintro e w2 ⟨rfl, hb2⟩
 have hC3 := later_step hC2 hb2
 clear hb2
 go_wp2_with fail
 refine hK _ _ (fun _ => hC3) ?_
 clear hK K
 refine wpSeg_last ?_
 go_wp2_with fail
 refine (gmost_any B hB1 (by omega) _).mono ?_
 rintro e w3 ⟨rfl, hb3⟩
 have hC4 := later_step hC3 hb3
 have HD4 : Hid (Below w0.heap.size w0 w3) := LH (later_below hC4)
 clear hb3 hC1 hC2 hC3 hC4 d0 d1 r0 r1 r2
 have HA3 := LH (HA0.out.below HD4.out)
 have HM3 := LH (HMem.out.later HD4.out)
 have HW3 := LH (HW0.out.trans (HD4.out.mono HW0.out.size))
 by_cases hbig : 512 * ((B : Int) - 1) < (s : Nat)
 ·have HE : Hid (⟨m, 0, 5⟩ = r) := LH (by rw [HR2.out, if_pos (.inr hbig)])
  have HG : Hid (AlGo w w3 A (n + 6) B m) := LH (AlGo.ahead HW3.out ((AlGo.refl HA3.out).mono (by omega)))
  have hbig' : ((B : Int) - 1) * 512 < (s : Int) := by omega
  go_wp2_with fail
  exact HP.out _ _ _ _ HE.out HG.out
 have hbig' : (s : Int) ≤ ((B : Int) - 1) * 512 := by omega
 have HR3 : Hid (r = if (m.room mu.toNat s).err ≠ 0 then ⟨(m.room mu.toNat s).al, 0, (m.room mu.toNat s).err⟩
  else (m.room mu.toNat s).al.made (m.room mu.toNat s).a p d) := LH (by rw [HR2.out, if_neg (by omega)])
 clear HR2
 obtain ⟨mn, hmn⟩ : ∃ mn : Nat, mu = (mn : Int) := ⟨mu.toNat, by omega⟩
 subst hmn
 rw [Int.toNat_natCast] at HR3
 have HRoom := LH (aroom_any HA3.out HOk.out hB hn hN HOkN.out mn (by omega) p d (by rw [← HSs.out]; exact hs0))
 rw [← HSs.out] at HRoom
 have HOkR : Hid ((m.room mn s).al.bm.dev.ok (N + 500000)) := LH (room_okN HOk.out.bm.clean.inv HOkN.out (by rw [HLn.out]; omega) mn s)
 have d0 := HM3.out.cell 0 0 rfl rfl
 have d1 := HM3.out.cell 0 1 rfl rfl
 have HQn : Hid (q ∉ A.hot) := LH (fun hm => by
  have : q < w.heap.size := HAh.out.mem q (by
   simp only [AF.hot, AF.list, AF.fix, List.mem_append, List.mem_cons] at hm ⊢
   rcases hm with hm | hm | hm
   ·exact .inl (.inr (.inl (MF.hot_sub hm)))
   ·exact .inl (.inr (.inr hm))
   ·exact .inr hm)
  rw [HQ.out] at this
  exact Nat.lt_irrefl _ this)
 go_wp2_with fail
 refine HRoom.out.mono ?_
 rintro e w4 ⟨rfl, hg4⟩
 have HG4 := LH (AlGo.ahead HW3.out hg4)
 have HRow4 : Hid (RowAt w4 q 169 [.int .i64 p, .int .i64 d]) := LH (by
  obtain ⟨_, _, ht, _⟩ := hg4
  exact (HM3.out.at 0 rfl).keep (ht.block q (HM3.out.glt 0 rfl) HQn.out))
 clear hg4 d0 d1 HRoom
 generalize m.room mn s = rm at *
 obtain ⟨al, a, er⟩ := rm
 dsimp only at HR3 HOkR HG4 ⊢
 by_cases her : er = 0
 case neg =>
  have her' : (er != 0) = true := by simpa using her
  have HE : Hid (⟨al, 0, er⟩ = r) := LH (by rw [HR3.out, if_pos her])
  clear her
  go_wp2_with fail
  exact HP.out _ _ _ _ HE.out HG4.out
 subst her
 have HR4 : Hid (r = al.made a p d) := LH (by rw [HR3.out, if_neg (by simp)])
 clear HR3
 obtain ⟨R4, ha4, ht4, hr4⟩ := HG4.out
 have HA4 := LH ha4
 have HT4 := LH ht4
 have HR4' := LH hr4
 clear ha4 ht4 hr4
 go_upto_region 9 with fail
 have d0 := HRow4.out.cell (i := 0) rfl
 have d1 := HRow4.out.cell (i := 1) rfl
 have c1 := HA4.out.c1
 change w4.cell? ⟨A.a, 1, none⟩ = some (vdev A.X.F) at c1
 have r0 := fun x => later_cell d0 x
 have r1 := fun x => later_cell d1 x
 have r2 := fun x => later_cell c1 x
 clear d0 d1 c1
 refine wp_region_seg (C := fun w' => ∃ x : Later (w4), w' = x.val) [.fl [0, 1, 2, 3, 4, 5], .sq [6, 7] false] (by kernel_rfl) (by kernel_rfl) (by intro c a d v w h; cases d <;> exact h) ?_
 simp only [segs, picks, List.getElem?_cons_succ, List.getElem?_cons_zero]
 have hC5 := later_drew (w4)
 refine wpSeg_fl hC5 ?_
 repeat (first | go_big_quiet_step (fail) | quiet_step (fail))
 refine wpQuiet_nil ?_
 clear r0 r1 r2
 have HD5 : Hid (Below w4.heap.size w4 w4.drew) := LH (later_below hC5)
 generalize w4.drew = w5 at *
 have HA5 := LH (HA4.out.below HD5.out)
 refine wpSeg_last ?_
 go_wp2_with fail
 refine (oinit_any HA5.out.man.dev (N := N + 500000) (by omega) HOkR.out a p d).mono ?_
 rintro e w6 ⟨rfl, hd6, ht6⟩
 obtain ⟨hm6, ht6'⟩ := HA5.out.man.setDev hd6 ht6
 have HG6 : Hid (AlGo w w6 A (n + 6) B ⟨⟨(al.bm.dev.init a p d).dev, al.bm.list, al.bm.free⟩, al.used, al.fl⟩) := LH (AlGo.trans (HT4.out.later HD5.out) HR4'.out (HA5.out.setMan (Nat.le_refl _) hm6 ht6' (init_clen _ _ _ _)))
 have HR6 : Hid (r = if (al.bm.dev.init a p d).err ≠ 0 then ⟨⟨⟨(al.bm.dev.init a p d).dev, al.bm.list, al.bm.free⟩, al.used, al.fl⟩, 0, (al.bm.dev.init a p d).err⟩
  else ⟨⟨⟨(al.bm.dev.init a p d).dev, al.bm.list, al.bm.free⟩, addI al.used a, al.fl⟩, a, 0⟩) := LH HR4.out
 clear hd6 ht6 hm6 ht6' HR4 hC5
 generalize al.bm.dev.init a p d = di at *
 obtain ⟨dv, er⟩ := di
 dsimp only at HG6 HR6 ⊢
 by_cases her : er = 0
 case neg =>
  have her' : (er != 0) = true := by simpa using her
  have HE : Hid (⟨⟨⟨dv, al.bm.list, al.bm.free⟩, al.used, al.fl⟩, 0, er⟩ = r) := LH (by rw [HR6.out, if_pos her])
  clear her
  go_wp2_with fail
  exact HP.out _ _ _ _ HE.out HG6.out
 subst her
 have HE : Hid (⟨⟨⟨dv, al.bm.list, al.bm.free⟩, addI al.used a, al.fl⟩, a, 0⟩ = r) := LH (by rw [HR6.out, if_neg (by simp)])
 obtain ⟨R6, ha6, ht6, hr6⟩ := HG6.out
 have HA6 := LH ha6
 have HT6 := LH ht6
 have HR6' := LH hr6
 have c3 := ha6.c3
 change w6.cell? ⟨A.a, 3, none⟩ = some (vset A.U) at c3
 clear ha6 ht6 hr6 HR6
 go_wp2_with fail
 refine (sadd_any HA6.out.set a).mono ?_
 rintro e w7 ⟨rfl, hs7, ht7⟩
 have hal : (addI al.used a).length = al.used.length := by
  unfold addI
  split
  ·rw [List.length_set]
  ·rfl
 have HG7 := LH (AlGo.trans HT6.out HR6'.out (HA6.out.setUsed hs7 ht7 hal))
 clear hs7 ht7 hal c3
 generalize freshI al.used a = fr at *
 go_wp2_with fail
 exact HP.out _ _ _ _ HE.out HG7.out
end Go.Proofs.YtpopbfagliagnaaGreat
namespace Go.Proofs.YtpopbfagliagnaaGreat
open Go.RowKit
def begins (k a : Nat) : Bool := decide (a % 512 % clsWords k = 0 ∧ a % 512 / clsWords k < clsCells k)
theorem aggCell : Agg Tryz.prog 289 #[.int .i64 0, .int .i64 0] := ⟨⟨_, Tryz.underlying289, rfl⟩, by kernel_rfl⟩
theorem begins_at {B k a : Nat} (hk : k < 32) (h1 : 512 ≤ a) (h2 : a < 512 * B) : begins k a = decide (cellAt (B : Int) (k : Int) ((a / 512 : Nat) : Int) ((a % 512 / clsWords k : Nat) : Int) = (a : Int)) := by
 have hp := clsWords_pos (k : Int) (by omega)
 unfold begins
 have e := Nat.div_add_mod (a % 512) (clsWords k)
 have hlt := Nat.mod_lt (a % 512) (show 0 < clsWords (k : Int) by omega)
 by_cases hi : a % 512 / clsWords k < clsCells k
 ·have hc := cellAt_of (B := B) hk (b := a / 512) (by omega) (by omega) hi
  rw [hc]
  unfold cellOf
  rw [Nat.mul_comm (clsWords (k : Int))] at e
  generalize a % 512 / clsWords (k : Int) * clsWords (k : Int) = y at *
  generalize hz : a % 512 % clsWords (k : Int) = z at *
  rw [Bool.eq_iff_iff, decide_eq_true_eq, decide_eq_true_eq]
  omega
 ·have hc : cellAt (B : Int) (k : Int) ((a / 512 : Nat) : Int) ((a % 512 / clsWords k : Nat) : Int) = -1 := by
   unfold cellAt
   rw [if_pos]
   exact .inr (.inr (.inr (.inr (by omega))))
  rw [hc, decide_eq_false (fun h => hi h.2), decide_eq_false (by omega)]
def AtPost (k a : Nat) (w : World) : Ending → World → Prop := fun e w' => (∃ x y : Int, e = .returned (.tuple #[.agg #[.int .i64 x, .int .i64 y], .bool (begins k a)])) ∧ Below w.heap.size w w'
set_option maxHeartbeats 2000000 in
set_option maxRecDepth 20000 in
theorem cat_any (B : Nat) (hB : B ≤ 1000) (k a : Nat) (hk : k < 32) (h1 : 512 ≤ a) (h2 : a < 512 * B) (w : World) : Calls Tryz.prog 183 #[vgeom (B : Int), .int .i64 (k : Int), .int .i64 (a : Int)] w (AtPost k a w) := by
 have HM := LH (Mem.two w #[.int .i64 (B : Int)] 44 #[.int .i64 0, .int .i64 0] 289)
 have HP : Hid (∀ (x y : Int) b w', b = begins k a → Below w.heap.size w w' → AtPost k a w (.returned (.tuple #[.agg #[.int .i64 x, .int .i64 y], .bool b])) w') := LH (fun x y b w' h1 h2 => by subst h1; exact ⟨⟨x, y, rfl⟩, h2⟩)
 generalize AtPost k a w = Post at *
 have HBe := LH (begins_at (B := B) hk h1 h2)
 have hp := clsWords_pos (k : Int) (by omega)
 have hbo : blockOf (B : Int) (a : Int) = ((a / 512 : Nat) : Int) := by unfold blockOf; rw [if_neg (by omega)]; omega
 have HData := LH (fun w => gdata_any B hB (a : Int) w)
 have HBlk := LH (fun w => gblockOf_any B hB (a : Int) w)
 rw [hbo] at HData HBlk
 rw [decide_eq_true (show (1 : Int) ≤ ((a / 512 : Nat) : Int) by omega)] at HData
 have HWd := LH (fun w => cwords_any (k : Int) w)
 have HAd := LH (fun w => caddr_any B hB (k : Int) ((a / 512 : Nat) : Int) ((a % 512 / clsWords k : Nat) : Int) w)
 have HRg := LH (fun w => cright_any (k : Int) w)
 rw [decide_eq_true (show (0 : Int) ≤ (k : Int) ∧ (k : Int) < 32 by omega)] at HRg
 have hda : a < 512000 := by omega
 obtain ⟨b, hb⟩ : ∃ b, b = a / 512 := ⟨_, rfl⟩
 obtain ⟨o, ho⟩ : ∃ o, o = a % 512 := ⟨_, rfl⟩
 have ho2 : (a : Int) % 512 = (o : Int) := by omega
 have ho5 : o < 512 := by omega
 rw [← hb] at HBlk HAd HBe
 rw [← ho] at HAd HBe
 obtain ⟨W, hW⟩ : ∃ W, W = clsWords (k : Int) := ⟨_, rfl⟩
 rw [← hW] at HWd HAd HBe hp
 obtain ⟨i, hi⟩ : ∃ i, i = o / W := ⟨_, rfl⟩
 rw [← hi] at HAd HBe
 have hi2 : (o : Int) / (W : Int) = (i : Int) := by rw [hi]; rfl
 have hi3 : i ≤ 512 := by rw [hi]; exact Nat.le_trans (Nat.div_le_self _ _) (by omega)
 generalize cellAt (B : Int) (k : Int) (b : Int) (i : Int) = ca at *
 generalize begins k a = be at *
 clear hbo hb ho hW hi h1 h2
 go_enter Tryz.func183, Tryz.ntmps183
 go_upto_region 1 with fail
 obtain ⟨q, hq⟩ : ∃ q, q = w.heap.size := ⟨_, rfl⟩
 rw [← hq] at HM ⊢
 generalize (w.alloc _).alloc _ = w0 at *
 clear hq
 have c0 := HM.out.cell 0 0 rfl rfl
 go_wp2_with fail
 refine (HRg.out _).mono ?_
 rintro e w1 ⟨rfl, rfl⟩
 go_wp2_with fail
 refine (HData.out _).mono ?_
 rintro e w1 ⟨rfl, hb1⟩
 have HM1 := LH (HM.out.later hb1)
 clear hb1 c0
 have c0 := HM1.out.cell 0 0 rfl rfl
 go_wp2_with fail
 refine (HBlk.out _).mono ?_
 rintro e w2 ⟨rfl, hb2⟩
 have HM2 := LH (HM1.out.later hb2)
 clear hb2 c0
 go_wp2_with fail
 refine (HWd.out _).mono ?_
 rintro e w3 ⟨rfl, hb3⟩
 have HM3 := LH (HM2.out.later hb3)
 clear hb3
 go_upto_region 4 with fail
 have HM4 := LH (HM3.out.alloc #[.int .i64 (b : Int), .int .i64 (i : Int)] 289)
 obtain ⟨q4, hq4⟩ : ∃ q4, q4 = w3.heap.size := ⟨_, rfl⟩
 rw [← hq4] at HM4 ⊢
 generalize w3.alloc _ = w4 at *
 clear hq4
 have d0 := HM4.out.cell 2 0 rfl rfl
 have d1 := HM4.out.cell 2 1 rfl rfl
 have c1 := HM4.out.cell 0 0 rfl rfl
 have hnd := HM4.out.nd
 simp only [List.map_cons, List.map_nil, List.map_append, List.cons_append, List.nil_append, List.nodup_cons, List.mem_cons, List.not_mem_nil, or_false, not_or] at hnd
 have hq1 : q ∉ [q + 1] := by simp
 have hq2 : q4 ∉ [q + 1] := by simp; exact fun e => hnd.2.1 e.symm
 have r0 := fun x => near_cell (L := [q + 1]) d0 hq2 x
 have r1 := fun x => near_cell (L := [q + 1]) d1 hq2 x
 have r2 := fun x => near_cell (L := [q + 1]) c1 hq1 x
 have HT0 : Hid (Touch [q + 1] w4 w4.drew) := LH (Touch.ofBelow (later_below (later_drew w4)))
 have HD0 : Hid (Below w4.heap.size w4 w4.drew) := LH (later_below (later_drew w4))
 have hC1 := near_of HT0.out
 clear d0 d1 c1 hnd hq1 hq2
 refine wp_region_seg (C := fun w' => ∃ x : Near [q + 1] w4, w' = x.val) [.fl [0, 1, 2, 3, 5], .sq [4] true, .fl [6], .sq [7] true, .sq [8] false] (by kernel_rfl) (by kernel_rfl) (by intro c a d v w h; cases d <;> exact h) ?_
 simp only [segs, picks, List.getElem?_cons_succ, List.getElem?_cons_zero]
 refine wpSeg_fl hC1 ?_
 repeat (first | go_big_quiet_step (fail) | quiet_step (fail))
 refine wpQuiet_nil ?_
 clear r0 r1 r2
 generalize w4.drew = w5 at *
 refine wpSeg_sq (fun K hK => ?_)
 go_wp2_with fail
 refine (HAd.out _).mono ?_
 rintro e w6 ⟨rfl, hb6⟩
 have HM6 := LH (HM4.out.later (HD0.out.trans (hb6.mono HD0.out.size)))
 have HT6 : Hid (Touch [q + 1] w4 w6) := LH (HT0.out.later hb6)
 have hC2 := near_of HT6.out
 clear hb6
 go_wp2_with fail
 refine hK _ _ (fun _ => hC2) ?_
 clear hK K
 refine wpSeg_fl hC2 ?_
 repeat (first | go_big_quiet_step (fail) | quiet_step (fail))
 refine wpQuiet_nil ?_
 refine wpSeg_sq (fun K hK => ?_)
 go_wp2_with (refine wpList_store_mem aggCell HM6.out 1 rfl rfl rfl rfl rfl rfl rfl rfl ?_; intro w7 h7 ht7; have H7 := LH h7; have HT7 := LH (HT6.out.trans ht7); clear h7 ht7)
 have hC3 := near_of HT7.out
 go_wp2_with fail
 refine hK _ _ (fun _ => hC3) ?_
 clear hK K
 refine wpSeg_last ?_
 go_wp2_with fail
 refine bodyPost_ret (results_cell_row2 (p := 6) (u := 7) rfl _ _ _ _ _ _ _ rfl (H7.out.exact 1 rfl) Tryz.underlying289 rfl (by kernel_rfl)) rfl ?_
 refine HP.out _ _ _ _ ?_ H7.out.below
 rw [HBe.out]
 rfl
def AtFull (k a : Nat) (w : World) : Ending → World → Prop := fun e w' => (∃ y : Int, e = .returned (.tuple #[.agg #[.int .i64 ((a / 512 : Nat) : Int), .int .i64 y], .bool (begins k a)])) ∧ Below w.heap.size w w'
set_option maxHeartbeats 2000000 in
set_option maxRecDepth 20000 in
theorem cat_full (B : Nat) (hB : B ≤ 1000) (k a : Nat) (hk : k < 32) (h1 : 512 ≤ a) (h2 : a < 512 * B) (w : World) : Calls Tryz.prog 183 #[vgeom (B : Int), .int .i64 (k : Int), .int .i64 (a : Int)] w (AtFull k a w) := by
 have HM := LH (Mem.two w #[.int .i64 (B : Int)] 44 #[.int .i64 0, .int .i64 0] 289)
 have HP : Hid (∀ (x y : Int) b w', b = begins k a → x = ((a / 512 : Nat) : Int) → Below w.heap.size w w' → AtFull k a w (.returned (.tuple #[.agg #[.int .i64 x, .int .i64 y], .bool b])) w') := LH (fun x y b w' h1 h3 h2 => by subst h1; subst h3; exact ⟨⟨y, rfl⟩, h2⟩)
 generalize AtFull k a w = Post at *
 have HBe := LH (begins_at (B := B) hk h1 h2)
 have hp := clsWords_pos (k : Int) (by omega)
 have hbo : blockOf (B : Int) (a : Int) = ((a / 512 : Nat) : Int) := by unfold blockOf; rw [if_neg (by omega)]; omega
 have HData := LH (fun w => gdata_any B hB (a : Int) w)
 have HBlk := LH (fun w => gblockOf_any B hB (a : Int) w)
 rw [hbo] at HData HBlk
 rw [decide_eq_true (show (1 : Int) ≤ ((a / 512 : Nat) : Int) by omega)] at HData
 have HWd := LH (fun w => cwords_any (k : Int) w)
 have HAd := LH (fun w => caddr_any B hB (k : Int) ((a / 512 : Nat) : Int) ((a % 512 / clsWords k : Nat) : Int) w)
 have HRg := LH (fun w => cright_any (k : Int) w)
 rw [decide_eq_true (show (0 : Int) ≤ (k : Int) ∧ (k : Int) < 32 by omega)] at HRg
 have hda : a < 512000 := by omega
 obtain ⟨b, hb⟩ : ∃ b, b = a / 512 := ⟨_, rfl⟩
 have HBq := LH hb
 obtain ⟨o, ho⟩ : ∃ o, o = a % 512 := ⟨_, rfl⟩
 have ho2 : (a : Int) % 512 = (o : Int) := by omega
 have ho5 : o < 512 := by omega
 rw [← hb] at HBlk HAd HBe
 rw [← ho] at HAd HBe
 obtain ⟨W, hW⟩ : ∃ W, W = clsWords (k : Int) := ⟨_, rfl⟩
 rw [← hW] at HWd HAd HBe hp
 obtain ⟨i, hi⟩ : ∃ i, i = o / W := ⟨_, rfl⟩
 rw [← hi] at HAd HBe
 have hi2 : (o : Int) / (W : Int) = (i : Int) := by rw [hi]; rfl
 have hi3 : i ≤ 512 := by rw [hi]; exact Nat.le_trans (Nat.div_le_self _ _) (by omega)
 generalize cellAt (B : Int) (k : Int) (b : Int) (i : Int) = ca at *
 generalize begins k a = be at *
 clear hbo hb ho hW hi h1 h2
 go_enter Tryz.func183, Tryz.ntmps183
 go_upto_region 1 with fail
 obtain ⟨q, hq⟩ : ∃ q, q = w.heap.size := ⟨_, rfl⟩
 rw [← hq] at HM ⊢
 generalize (w.alloc _).alloc _ = w0 at *
 clear hq
 have c0 := HM.out.cell 0 0 rfl rfl
 go_wp2_with fail
 refine (HRg.out _).mono ?_
 rintro e w1 ⟨rfl, rfl⟩
 go_wp2_with fail
 refine (HData.out _).mono ?_
 rintro e w1 ⟨rfl, hb1⟩
 have HM1 := LH (HM.out.later hb1)
 clear hb1 c0
 have c0 := HM1.out.cell 0 0 rfl rfl
 go_wp2_with fail
 refine (HBlk.out _).mono ?_
 rintro e w2 ⟨rfl, hb2⟩
 have HM2 := LH (HM1.out.later hb2)
 clear hb2 c0
 go_wp2_with fail
 refine (HWd.out _).mono ?_
 rintro e w3 ⟨rfl, hb3⟩
 have HM3 := LH (HM2.out.later hb3)
 clear hb3
 go_upto_region 4 with fail
 have HM4 := LH (HM3.out.alloc #[.int .i64 (b : Int), .int .i64 (i : Int)] 289)
 obtain ⟨q4, hq4⟩ : ∃ q4, q4 = w3.heap.size := ⟨_, rfl⟩
 rw [← hq4] at HM4 ⊢
 generalize w3.alloc _ = w4 at *
 clear hq4
 have d0 := HM4.out.cell 2 0 rfl rfl
 have d1 := HM4.out.cell 2 1 rfl rfl
 have c1 := HM4.out.cell 0 0 rfl rfl
 have hnd := HM4.out.nd
 simp only [List.map_cons, List.map_nil, List.map_append, List.cons_append, List.nil_append, List.nodup_cons, List.mem_cons, List.not_mem_nil, or_false, not_or] at hnd
 have hq1 : q ∉ [q + 1] := by simp
 have hq2 : q4 ∉ [q + 1] := by simp; exact fun e => hnd.2.1 e.symm
 have r0 := fun x => near_cell (L := [q + 1]) d0 hq2 x
 have r1 := fun x => near_cell (L := [q + 1]) d1 hq2 x
 have r2 := fun x => near_cell (L := [q + 1]) c1 hq1 x
 have HT0 : Hid (Touch [q + 1] w4 w4.drew) := LH (Touch.ofBelow (later_below (later_drew w4)))
 have HD0 : Hid (Below w4.heap.size w4 w4.drew) := LH (later_below (later_drew w4))
 have hC1 := near_of HT0.out
 clear d0 d1 c1 hnd hq1 hq2
 refine wp_region_seg (C := fun w' => ∃ x : Near [q + 1] w4, w' = x.val) [.fl [0, 1, 2, 3, 5], .sq [4] true, .fl [6], .sq [7] true, .sq [8] false] (by kernel_rfl) (by kernel_rfl) (by intro c a d v w h; cases d <;> exact h) ?_
 simp only [segs, picks, List.getElem?_cons_succ, List.getElem?_cons_zero]
 refine wpSeg_fl hC1 ?_
 repeat (first | go_big_quiet_step (fail) | quiet_step (fail))
 refine wpQuiet_nil ?_
 clear r0 r1 r2
 generalize w4.drew = w5 at *
 refine wpSeg_sq (fun K hK => ?_)
 go_wp2_with fail
 refine (HAd.out _).mono ?_
 rintro e w6 ⟨rfl, hb6⟩
 have HM6 := LH (HM4.out.later (HD0.out.trans (hb6.mono HD0.out.size)))
 have HT6 : Hid (Touch [q + 1] w4 w6) := LH (HT0.out.later hb6)
 have hC2 := near_of HT6.out
 clear hb6
 go_wp2_with fail
 refine hK _ _ (fun _ => hC2) ?_
 clear hK K
 refine wpSeg_fl hC2 ?_
 repeat (first | go_big_quiet_step (fail) | quiet_step (fail))
 refine wpQuiet_nil ?_
 refine wpSeg_sq (fun K hK => ?_)
 go_wp2_with (refine wpList_store_mem aggCell HM6.out 1 rfl rfl rfl rfl rfl rfl rfl rfl ?_; intro w7 h7 ht7; have H7 := LH h7; have HT7 := LH (HT6.out.trans ht7); clear h7 ht7)
 have hC3 := near_of HT7.out
 go_wp2_with fail
 refine hK _ _ (fun _ => hC3) ?_
 clear hK K
 refine wpSeg_last ?_
 go_wp2_with fail
 refine bodyPost_ret (results_cell_row2 (p := 6) (u := 7) rfl _ _ _ _ _ _ _ rfl (H7.out.exact 1 rfl) Tryz.underlying289 rfl (by kernel_rfl)) rfl ?_
 refine HP.out _ _ _ _ ?_ (by rw [HBq.out]) H7.out.below
 rw [HBe.out]
 rfl
end Go.Proofs.YtpopbfagliagnaaGreat
namespace Go.Proofs.YtpopbfagliagnaaGreat
open Go.Maps Go.ChangeMaps Go.MapKept Go.WideElems
section
variable {P : Program} {k e t : TypeId} {w : World} {b n : Nat} {M : Lit → Option Value}
theorem ventry_store_at {es : Array MapEntry} {clock j : Nat} {e0 : MapEntry} (hb : w.heap[b]? = some (.map es clock)) (hn : (es.toList.map (·.born)).Nodup) (hj : es.toList[j]? = some e0) (val : Value) :
  (Instr.entryStore t (.map (some b)) (goInt e0.born) val).run P w = .ok () (setBlock w b (.map (es.modify j fun e => { e with val := val }) clock)) := by
 have hidx : es.findIdx? (fun e => ((e.born : Nat) : Int) == ((e0.born : Nat) : Int)) = some j := by
  rw [findIdx_arr]; exact findIdx_born hn hj
 simp [Instr.entryStore, MapKept.run_getObj_map hb, asInt, asIntOf, goInt, hidx, MapKept.run_setObj_map _ hb, Result.andThen, setBlock]
def VPend (P : Program) (k t : TypeId) (w : World) (b n : Nat) (M : Lit → Option Value) (kl : Lit) (st : Nat) : Prop :=
 ∃ (es1 : Array MapEntry) (clock1 : Nat), w.heap[b]? = some (.map es1 clock1) ∧
  ∀ (w2 : World) (c : Value), w2.heap[b]? = some (.map es1 clock1) → ∃ es' clock', (Instr.entryStore t (.map (some b)) (goInt st) c).run P w2 = .ok () (setBlock w2 b (.map es' clock')) ∧
   VMap P k (setBlock w2 b (.map es' clock')) b (n + 1) (putL M kl (some c))
theorem vmap_entry (h : VMap P k w b n M) (K : Keyed P k) (ht : P.underlying t = some (.map k e)) {z : Value} (hz : ∀ u : World, (zeroValue e).run P u = .ok z u) (hn : n < maxLen) {key : Value} {kl : Lit} (hkey : keyOf P k key = some kl) :
  ∃ (st : Nat) (w1 : World), (Instr.mapEntry t (.map (some b)) key).run P w = .ok (.tuple #[(M kl).getD z, goInt st]) w1 ∧ VPend P k t w1 b n M kl st ∧ w.grownBy w1 (some b) := by
 have hgs : ∀ (x : Obj), w.grownBy (setBlock w b x) (some b) := fun x =>
  ⟨rfl, rfl, rfl, by simp [setBlock], fun i hi hne => by
   have : i ≠ b := fun e => hne (by rw [e])
   simp [setBlock, Ne.symm this]⟩
 have hlk := h.look K ht (hz w) hkey
 have hlt := h.lt
 obtain ⟨D, ho, hT⟩ := h
 have hup : ∀ c : Value, ∃ w', (Instr.mapUpdate t (.map (some b)) key c).run P w = .ok () w' ∧ VMap P k w' b (n + 1) (putL M kl (some c)) := fun c => by
  obtain ⟨w', h1, h2, _⟩ := ho.update K ht hn hkey (val := c) (d := .held c) (ps := []) rfl
  exact ⟨w', h1, _, h2, hT.put (K.key hkey) c⟩
 have hmove : ∀ (w2 : World) (c : Value) (es' : Array MapEntry) (clock' : Nat) (e2 : Array MapEntry) (c2 : Nat), w2.heap[b]? = some (.map e2 c2) →
   (Instr.mapUpdate t (.map (some b)) key c).run P w = .ok () (setBlock w b (.map es' clock')) → VMap P k (setBlock w2 b (.map es' clock')) b (n + 1) (putL M kl (some c)) := by
  intro w2 c es' clock' e2 c2 h2 hrun
  obtain ⟨w', h3, h4⟩ := hup c
  rw [hrun] at h3
  injection h3 with _ h5
  rw [← h5] at h4
  obtain ⟨es, clock, hb, _⟩ := ho
  exact h4.block ((heap_setBlock_same h2 _).trans (heap_setBlock_same hb _).symm)
 obtain ⟨es, clock, hb, F, _, _⟩ := ho
 obtain ⟨s1, s2, _⟩ := F.stamped
 rcases K.find w hkey es.toList F.keys with ⟨h1, h2⟩ | ⟨j, e0, h1, h2, h3⟩
 ·have hlast : (es.push ⟨key, z, clock⟩).toList[es.size]? = some ⟨key, z, clock⟩ := by simp
  have hnd : ((es.push ⟨key, z, clock⟩).toList.map (·.born)).Nodup := by
   rw [Array.toList_push, List.map_append]
   refine List.nodup_append.2 ⟨s2, by simp, fun a ha c hc e => ?_⟩
   obtain ⟨x, hx, rfl⟩ := List.mem_map.1 ha
   have := s1 x hx
   simp at hc; omega
  have hv : (M kl).getD z = z := by
   simp [Instr.lookup, run_underlying ht, MapKept.run_getObj_map hb, K.check w es.isEmpty hkey, h1, hz, Result.andThen] at hlk
   exact hlk.symm
  refine ⟨clock, _, ?_, ⟨_, clock + 1, heap_setBlock_same hb _, fun w2 c hw2 => ⟨_, _, ventry_store_at hw2 hnd hlast _, hmove w2 c _ _ _ _ hw2 ?_⟩⟩, hgs _⟩
  ·rw [hv]
   simp [Instr.mapEntry, run_underlying ht, MapKept.run_getObj_map hb, K.check w false hkey, h1, hz, MapKept.run_setObj_map _ hb, Result.andThen, setBlock]
  ·have hmod : (es.push ⟨key, z, clock⟩).modify es.size (fun e => { e with val := c }) = es.push ⟨key, c, clock⟩ := by
    apply Array.ext'
    rw [Array.toList_modify, Array.toList_push, Array.toList_push, ← Array.length_toList, modify_last]
   rw [hmod]
   simp [Instr.mapUpdate, run_underlying ht, MapKept.run_getObj_map hb, K.check w false hkey, h1, MapKept.run_setObj_map _ hb, Result.andThen, setBlock]
 ·have hj : es[j]? = some e0 := by simpa using h2
  have hsame : es.modify j (fun e => { e with key := key }) = es := by
   apply Array.ext'
   rw [Array.toList_modify, modify_eq_set _ _ _ _ h2, show ({ e0 with key := key } : MapEntry) = e0 by rw [← h3]]
   exact set_self _ _ _ h2
  have hv : (M kl).getD z = e0.val := by
   simp [Instr.lookup, run_underlying ht, MapKept.run_getObj_map hb, K.check w es.isEmpty hkey, h1, hj, Result.andThen] at hlk
   exact hlk.symm
  refine ⟨e0.born, _, ?_, ⟨es, clock, heap_setBlock_same hb _, fun w2 c hw2 => ⟨_, _, ventry_store_at hw2 s2 h2 _, hmove w2 c _ _ _ _ hw2 ?_⟩⟩, hgs _⟩
  ·rw [hv]
   simp [Instr.mapEntry, run_underlying ht, MapKept.run_getObj_map hb, K.check w false hkey, h1, hj, h3, K.stays w hkey, hsame, MapKept.run_setObj_map _ hb, Result.andThen, setBlock]
  ·have hmod : es.modify j (fun e => { e with val := c }) = es.modify j (fun e' => { e' with key := key, val := c }) := by
    apply Array.ext'
    rw [Array.toList_modify, Array.toList_modify, modify_eq_set _ _ _ _ h2, modify_eq_set _ _ _ _ h2, ← h3]
   rw [hmod]
   simp [Instr.mapUpdate, run_underlying ht, MapKept.run_getObj_map hb, K.check w false hkey, h1, hj, h3, K.stays w hkey, MapKept.run_setObj_map _ hb, Result.andThen, setBlock]
theorem VPend.block {kl : Lit} {st : Nat} (h : VPend P k t w b n M kl st) {w' : World} (he : w'.heap[b]? = w.heap[b]?) : VPend P k t w' b n M kl st := by
 obtain ⟨es1, clock1, h1, h2⟩ := h
 exact ⟨es1, clock1, he.trans h1, h2⟩
variable {ops : Array Oper} {rest : List Oper} {o : Oper} {a : Act} {Q : Exit → Act → World → Prop}
theorem wpList_ventry (hg : o.guard = none) (m x : Operand) (t : TypeId) (hop : o.op = Op.mapEntry t m x)
  (k e : TypeId) (K : Keyed P k) (ht : P.underlying t = some (.map k e)) (z : Value) (hz : ∀ u : World, (zeroValue e).run P u = .ok z u) (b n : Nat) (M : Lit → Option Value)
  (hm : a.eval m = .map (some b)) (hown : VMap P k w b n M) (hn : n < maxLen) (key : Value) (kl : Lit) (hx : a.eval x = key) (hkey : keyOf P k key = some kl)
  (hK : ∀ w' st, VPend P k t w' b n M kl st → w.grownBy w' (some b) → wpList P ops Q rest (a.put o.dst (.tuple #[(M kl).getD z, goInt st])) w') :
  wpList P ops Q (o :: rest) a w := by
 refine wpList_plain hg fun K' hK' => ?_
 obtain ⟨st, w1, h1, h2, h3⟩ := vmap_entry hown K ht hz hn hkey
 unfold Oper.wp
 simp [execOp, hop, hm, hx, h1, Result.andThen]
 exact hK' _ _ (hK _ st h2 h3)
theorem wpList_ventryStore (hg : o.guard = none) (m s x : Operand) (t : TypeId) (hop : o.op = Op.entryStore t m s x)
  (k : TypeId) (b n : Nat) (M : Lit → Option Value) (kl : Lit) (st : Nat) (c : Value)
  (hm : a.eval m = .map (some b)) (hs : a.eval s = goInt st) (hx : a.eval x = c) (hp : VPend P k t w b n M kl st)
  (hK : ∀ w', VMap P k w' b (n + 1) (putL M kl (some c)) → w.grownBy w' (some b) → wpList P ops Q rest (a.put o.dst undef) w') :
  wpList P ops Q (o :: rest) a w := by
 refine wpList_plain hg fun K' hK' => ?_
 obtain ⟨es1, clock1, h1, h2⟩ := hp
 obtain ⟨es', clock', h3, h4⟩ := h2 w c h1
 have hgs : w.grownBy (setBlock w b (.map es' clock')) (some b) :=
  ⟨rfl, rfl, rfl, by simp [setBlock], fun i hi hne => by
   have : i ≠ b := fun e => hne (by rw [e])
   simp [setBlock, Ne.symm this]⟩
 unfold Oper.wp
 simp [execOp, hop, hm, hs, hx, h3, Result.andThen]
 exact hK' _ _ (hK _ h4 hgs)
end
end Go.Proofs.YtpopbfagliagnaaGreat
namespace Go.Proofs.YtpopbfagliagnaaGreat
open Go.RowKit Go.Maps
theorem Cells.touchM {w w' : World} {a : Option Addr} {vs : List Value} {L : List Nat} (h : Cells w a vs) (ht : Touch L w w') (hne : ∀ x, a = some x → x.block < w.heap.size → x.block ∉ L) : Cells w' a vs := by
 rcases h with h | ⟨b, off, rfl, h⟩
 ·exact .inl h
 ·exact .inr ⟨b, off, rfl, fun i v hi => cell_of_touch ht (show (⟨b, off + i, none⟩ : Addr).block ∉ L from hne ⟨b, off, none⟩ rfl (show b < w.heap.size from World.block_lt_of_cell? w ⟨b, off + i, none⟩ (h i v hi))) (h i v hi)⟩
theorem step_ca {w w1 : World} {f mb n n' : Nat} {R : List Nat} {V : Nat → Value} {S : FL} {m k : Nat} {v : Value} {xs : List Nat} (hi : FreeIn w f mb n V S) (hm : m < 4) (hk : k < 32)
  (h1 : f ∈ R) (h2 : mb ∈ R) (h3 : ∀ b ∈ R, b < w.heap.size) {M : Lit → Option Value} (hM : ∀ m k : Nat, m < 4 → k < 32 → (M (pairKey m k)).getD (.slice none 0 0) = V (slotI m k))
  (hb : ∀ b, b < w.heap.size → b ≠ mb → rowOf (V (slotI m k)) ≠ some b → w1.heap[b]? = w.heap[b]?) (hsz : w.heap.size ≤ w1.heap.size)
  (hw : VMap Tryz.prog 336 w1 mb n' (putL M (pairKey m k) (some v))) (hv : OwnI w1 v xs) (hrow : ∀ b, rowOf v = some b → rowOf (V (slotI m k)) = some b ∨ w.heap.size ≤ b) :
  Step1 w w1 f mb n' V S (S.setC m k xs) (slotI m k) v xs := by
 have hfl := h3 f h1
 have hsl : slotI m k < 160 := by unfold slotI; omega
 refine ⟨?_, ⟨_, hw, fun m' k' hm' hk' => ?_⟩, hv, hrow, fun b hbl h5 h6 h7 => hb b hbl h6 h7, hsz, fun j hj => ?_⟩
 ·rw [hb f hfl hi.ne (hi.neF _ hsl).1, hi.head]
  have : (List.range 32).map (fun j => if j = slotI m k then v else V j) = (List.range 32).map V := List.map_congr_left (fun j hj => by
   have := List.mem_range.1 hj
   rw [if_neg (by unfold slotI; omega)])
  rw [this]
 ·by_cases e : m' = m ∧ k' = k
  ·obtain ⟨rfl, rfl⟩ := e
   rw [putL_same, if_pos rfl]; rfl
  ·rw [putL_other _ (fun c => e (by
    have := key_inj (wf_small m' (by omega)) (wf_small k' (by omega)) (wf_small m (by omega)) (wf_small k (by omega)) c
    omega)), hM m' k' hm' hk', if_neg (by unfold slotI; omega)]
 ·unfold FL.at
  simp only [FL.setC_g, FL.setC_c]
  by_cases e : j < 32
  ·rw [if_pos e, if_pos e, if_neg (by unfold slotI; omega)]
  ·rw [if_neg e, if_neg e]
   by_cases e2 : (j - 32) / 32 = m ∧ (j - 32) % 32 = k
   ·rw [if_pos e2, if_pos (by unfold slotI; omega)]
   ·rw [if_neg e2, if_neg (by unfold slotI; omega)]
def PutI (w : World) (f mb n : Nat) (R : List Nat) (S : FL) (m k a : Nat) : Ending → World → Prop := fun e w' => e = .returned (.int .i64 (if S.has k a then 41 else 0)) ∧ FreeGo w w' f mb n R (S.put m k a)
set_option maxHeartbeats 4000000 in
set_option maxRecDepth 20000 in
theorem fput_any {w : World} {f mb n : Nat} {R : List Nat} {S : FL} (h : FreeAt w f mb n R S) (hL : S.upto 900000) (hn : n < 1000000000000) (m k a : Nat) (hm4 : m < 4) (hk : k < 32) :
  Calls Tryz.prog 172 #[vfree f, .int .i64 (m : Int), .int .i64 (k : Int), .int .i64 (a : Int)] w (PutI w f mb (n + 2) R S m k a) := by
 have HMem := LH (Mem.one w #[.int .i64 (m : Int), .int .i64 (k : Int)] 336)
 have HF0 := LH (h.below HMem.out.below)
 have HF := LH h
 have HHas := LH (fhas_any h (hL.mono (by omega)) k a hk)
 have HRlt := LH h.mem
 have HUp := LH hL
 have HP : Hid (∀ x w', x = (if S.has k a then 41 else 0) → FreeGo w w' f mb (n + 2) R (S.put m k a) → PutI w f mb (n + 2) R S m k a (.returned (.int .i64 x)) w') := LH (fun x w' h1 h2 => by subst h1; exact ⟨rfl, h2⟩)
 generalize PutI w f mb (n + 2) R S m k a = Post at *
 clear h hL
 go_enter Tryz.func172, Tryz.ntmps172
 go_wp2_with fail
 refine (fright_any m k hm4 hk _).mono ?_
 rintro e w1 ⟨rfl, rfl⟩
 go_wp2_with fail
 refine HHas.out.mono ?_
 rintro e w1 ⟨rfl, rfl⟩
 cases hh : S.has k a with
 | true =>
  have HE : Hid (41 = (if S.has k a then (41 : Int) else 0) ∧ FreeGo w w f mb (n + 2) R (S.put m k a)) := LH ⟨by rw [hh]; rfl, by unfold FL.put; rw [hh]; exact (FreeGo.refl HF.out).mono (by omega)⟩
  clear hh
  go_wp2_with fail
  exact HP.out _ _ HE.out.1 HE.out.2
 | false =>
 have HE0 : Hid (0 = (if S.has k a then (41 : Int) else 0)) := LH (by rw [hh]; rfl)
 obtain ⟨T, hT⟩ : ∃ T, T = S.c m k ++ [a] := ⟨_, rfl⟩
 have HPut : Hid (S.put m k a = if 8 < T.length then (S.setG k (S.g k ++ T.take (T.length / 2))).setC m k (T.drop (T.length / 2)) else S.setC m k T) := LH (by unfold FL.put; rw [hh, hT]; rfl)
 have HT := LH hT
 clear hh hT
 go_upto_region 6 with fail
 have HW0 := LH (below_alloc w (Obj.cells #[.int .i64 (m : Int), .int .i64 (k : Int)] 336))
 generalize w.alloc _ = w0 at *
 obtain ⟨q, hq⟩ : ∃ q, q = w.heap.size := ⟨_, rfl⟩
 rw [← hq] at HMem HRlt ⊢
 have HQ := LH hq
 clear hq
 obtain ⟨V, hfv⟩ := HF0.out.v
 have HFV := LH hfv
 clear hfv
 obtain ⟨sl, hsl⟩ : ∃ sl, sl = slotI m k := ⟨_, rfl⟩
 have hsl160 : Hid (sl < 160 ∧ 32 ≤ sl) := LH (by rw [hsl]; unfold slotI; omega)
 have HSl := LH hsl
 have HLs : Hid ((S.c m k).length ≤ 900000) := LH (by have := HUp.out (slotI m k) (by unfold slotI; omega); rwa [S.at_c m hk] at this)
 have HLg : Hid ((S.g k).length ≤ 900000) := LH (by have := HUp.out k (by omega); rwa [S.at_g hk] at this)
 have HOs : Hid (OwnI w0 (V sl) (S.c m k)) := LH (by have := HFV.out.inn.rows (slotI m k) (by unfold slotI; omega); rwa [S.at_c m hk, ← hsl] at this)
 clear hsl
 have hkey := key_slot (m : Int) (k : Int) (wf_small m (by omega)) (wf_small k (by omega))
 have hqn : q ∉ mb :: (rowOf (V sl)).toList := fun hm => by
  rcases List.mem_cons.1 hm with e | e
  ·exact Nat.lt_irrefl _ (by have := HRlt.out mb HFV.out.mb; rw [← e] at this; exact this)
  ·exact Nat.lt_irrefl q (HRlt.out q (HFV.out.rows sl hsl160.out.1 q (by simpa using e)))
 have hfn : f ∉ mb :: (rowOf (V sl)).toList := fun hm => by
  rcases List.mem_cons.1 hm with e | e
  ·exact HFV.out.inn.ne e
  ·exact (HFV.out.inn.neF sl hsl160.out.1).1 (by simpa using e)
 have r0 := fun x => near_cell (L := mb :: (rowOf (V sl)).toList) (HMem.out.cell 0 0 rfl rfl) hqn x
 have r1 := fun x => near_cell (L := mb :: (rowOf (V sl)).toList) (HMem.out.cell 0 1 rfl rfl) hqn x
 have r2 := fun x => near_cell (L := mb :: (rowOf (V sl)).toList) HFV.out.inn.m hfn x
 have hC1 : ∃ x : Near (mb :: (rowOf (V sl)).toList) w0, w0.drew = x.val := near_of (Touch.ofBelow (later_below (later_drew w0)))
 have HD0 : Hid (Below w0.heap.size w0 w0.drew) := LH (later_below (later_drew w0))
 clear hqn hfn
 refine wp_region_seg (C := fun w' => ∃ x : Near (mb :: (rowOf (V sl)).toList) w0, w' = x.val) [.fl [0, 1, 2, 3, 4, 5], .sq [6] true, .sq [7] false, .fl [8, 10], .sq [9] true, .sq [11] false] (by kernel_rfl) (by kernel_rfl) (by intro c a d v w h; cases d <;> exact h) ?_
 simp only [segs, picks, List.getElem?_cons_succ, List.getElem?_cons_zero]
 refine wpSeg_fl hC1 ?_
 repeat (first | go_big_quiet_step (fail) | quiet_step (fail))
 refine wpQuiet_nil ?_
 clear r0 r1 r2
 generalize w0.drew = wd at *
 refine wpSeg_sq (fun K hK => ?_)
 go_wp2_with fail
 have hbn := below_alloc wd (.cells #[.int .i64 (a : Int)] 3)
 have HB2 : Hid (Below w0.heap.size w0 (wd.alloc (.cells #[.int .i64 (a : Int)] 3))) := LH (HD0.out.trans (hbn.mono HD0.out.size))
 have hC2 : ∃ x : Near (mb :: (rowOf (V sl)).toList) w0, wd.alloc (.cells #[.int .i64 (a : Int)] 3) = x.val := near_of (Touch.ofBelow HB2.out)
 have HC2 : Hid (Cells (wd.alloc (.cells #[.int .i64 (a : Int)] 3)) (some ⟨wd.heap.size, 0, none⟩) ([a].map vi)) := LH (RowAt.cells ⟨_, heap_alloc_new _ _, [], rfl⟩)
 have HQa : Hid (w0.heap.size ≤ wd.heap.size) := LH HD0.out.size
 have HQa2 : Hid (wd.heap.size < (wd.alloc (.cells #[.int .i64 (a : Int)] 3)).heap.size) := LH (by simp)
 clear hbn
 go_wp2_with fail
 refine hK _ _ (fun _ => hC2) ?_
 clear hK K
 obtain ⟨qa, hqa⟩ : ∃ qa, qa = wd.heap.size := ⟨_, rfl⟩
 rw [← hqa] at HC2 HQa HQa2 ⊢
 clear hqa
 generalize wd.alloc _ = we at *
 have HFe := LH (HFV.out.below HB2.out)
 obtain ⟨M, hm, hv⟩ := HFe.out.inn.map
 have HM := LH hm
 have HV := LH hv
 have HVi : Hid ((M (pairKey m k)).getD (.slice none 0 0) = V sl) := LH (by rw [HSl.out]; exact hv m k hm4 hk)
 have HNm : Hid (n < maxLen) := LH (by unfold maxLen; omega)
 clear hm hv
 refine wpSeg_sq (fun K hK => ?_)
 go_wp2_with (refine wpList_ventry rfl _ _ 332 rfl 336 47 keyed_slot Tryz.underlying332 _ zero_ints mb n M rfl HM.out HNm.out _ _ rfl hkey ?_; intro w3 st hp hg; have HPd := LH hp; have HG3 := LH hg; clear hp hg; rw [HVi.out])
 have HT3 : Hid (Touch (mb :: (rowOf (V sl)).toList) w0 w3) := LH ((Touch.ofBelow HB2.out).trans ((grown_touchO HG3.out).wide (by simp)))
 have hC3 := near_of HT3.out
 go_wp2_with fail
 refine hK _ _ (fun h => nomatch h) ?_
 clear hK K
 refine wpSeg_fl hC3 ?_
 repeat (first | go_big_quiet_step (fail) | quiet_step (fail))
 refine wpQuiet_nil ?_
 have hmbn : rowOf (V sl) ≠ some mb := (HFV.out.inn.neF sl hsl160.out.1).2
 have HO3 : Hid (OwnI w3 (V sl) (S.c m k)) := LH (HOs.out.keep (fun b hb => ((HG3.out.block b (Nat.lt_of_lt_of_le (HOs.out.lt b hb) HB2.out.size) (fun e => hmbn (by rw [hb]; exact e))).trans (HB2.out.block b (HOs.out.lt b hb)))))
 have HC3 : Hid (Cells w3 (some ⟨qa, 0, none⟩) ([a].map vi)) := LH (Cells.touchM HC2.out (grown_touchO HG3.out) (fun y hy _ hm => by
  cases hy
  have h1 := HFV.out.lt mb HFV.out.mb
  have h2 := HQa.out
  simp at hm
  omega))
 have HN1 : Hid ((S.c m k).length + 1 ≤ 1000000000000) := LH (by have := HLs.out; omega)
 refine wpSeg_sq (fun K hK => ?_)
 go_wp2_with (refine wpList_append_ownI (m := 1) HO3.out HC3.out rfl HN1.out rfl rfl rfl rfl ?_; intro v' w4 ho hg hr; have HO4 := LH ho; have HG4 := LH hg; have HR4 := LH hr; clear ho hg hr)
 have HT4 : Hid (Touch (mb :: (rowOf (V sl)).toList) w0 w4) := LH (HT3.out.trans ((grown_touchO HG4.out).wide (fun b hb => List.mem_cons_of_mem _ hb)))
 have hC4 := near_of HT4.out
 go_wp2_with fail
 refine hK _ _ (fun _ => hC4) ?_
 clear hK K
 have HPd4 : Hid (VPend Tryz.prog 336 332 w4 mb n M (pairKey m k) st) := LH (HPd.out.block (HG4.out.block mb (Nat.lt_of_lt_of_le (Nat.lt_of_lt_of_le (HFV.out.lt mb HFV.out.mb) HB2.out.size) HG3.out.size) (fun e => hmbn (e.symm))))
 refine wpSeg_last ?_
 go_wp2_with (refine wpList_ventryStore rfl _ _ _ 332 rfl 336 mb n M (pairKey m k) st v' rfl rfl rfl HPd4.out ?_; intro w5 hm5 hg5; have HM5 := LH hm5; have HG5 := LH hg5; clear hm5 hg5)
 have HB03 : Hid (∀ b, b < w0.heap.size → b ≠ mb → rowOf (V sl) ≠ some b → w5.heap[b]? = w0.heap[b]?) := LH (fun b hb h1 h2 => (HG5.out.block b (Nat.lt_of_lt_of_le hb HT4.out.size) (fun e => h1 (Option.some.inj e.symm).symm)).trans (HT4.out.block b hb (fun hm => by
  rcases List.mem_cons.1 hm with e | e
  ·exact h1 e
  ·exact h2 (by simpa using e))))
 have HO5 : Hid (OwnI w5 v' (S.c m k ++ [a])) := LH (HO4.out.keep (fun b hb => HG5.out.block b (HO4.out.lt b hb) (fun e => by
  rcases HR4.out b hb with c | c
  ·exact hmbn (by rw [c]; exact e)
  ·have h1 := Option.some.inj e
   have h2 := HFV.out.lt mb HFV.out.mb
   have h3 := HB2.out.size
   have h4 := HG3.out.size
   omega)))
 have hst := step_ca (v := v') (xs := S.c m k ++ [a]) HFV.out.inn hm4 hk HFV.out.f HFV.out.mb HFV.out.lt HV.out (fun b hb h1 h2 => HB03.out b hb h1 (by rw [HSl.out]; exact h2)) (Nat.le_trans HT4.out.size HG5.out.size) HM5.out HO5.out (fun b hb => by
  rcases HR4.out b hb with c | c
  ·exact .inl (by rw [← HSl.out]; exact c)
  ·exact .inr (by rw [c]; exact Nat.le_trans HB2.out.size HG3.out.size))
 have hos : w5.os = w0.os ∧ w5.tape = w0.tape ∧ w5.output = w0.output := ⟨HG5.out.os.trans HT4.out.os, HG5.out.tape.trans HT4.out.tape, HG5.out.output.trans HT4.out.output⟩
 rw [← HT.out] at hst
 have HFV5 := LH (HFV.out.step (by rw [← HSl.out]; exact hsl160.out.1) hst)
 have HT5 := LH (hst.touch HFV.out (by rw [← HSl.out]; exact hsl160.out.1) hos)
 have HGo5 : Hid (FreeGo w0 w5 f mb (n + 1) R (S.setC m k T)) := LH (hst.go HFV.out.inn (by rw [← HSl.out]; exact hsl160.out.1) HFV.out.f HFV.out.mb HFV.out.lt HFV.out.rows hos)
 have HRow5 : Hid (RowAt w5 q 336 [.int .i64 (m : Int), .int .i64 (k : Int)]) := LH ((HMem.out.at 0 rfl).keep (HB03.out q (HMem.out.glt 0 rfl) (fun e => Nat.lt_irrefl q (by have := HRlt.out mb HFV.out.mb; rw [← e] at this; exact this)) (fun e => Nat.lt_irrefl q (HRlt.out q (HFV.out.rows sl hsl160.out.1 q e)))))
 have HQl := LH (HMem.out.glt 0 rfl)
 obtain ⟨ao, co, eo, hco, hol, _, hon⟩ := HO5.out.cells2
 rw [← HT.out] at eo hco hol
 obtain ⟨V5, hV5⟩ : ∃ V5, V5 = fun j => if j = slotI m k then v' else V j := ⟨_, rfl⟩
 rw [← hV5] at HFV5
 obtain ⟨lo, hlo⟩ : ∃ lo, lo = T.length := ⟨_, rfl⟩
 rw [← hlo] at eo hol
 have HVo : Hid (V5 (slotI m k) = .slice ao lo co) := LH (by rw [hV5]; dsimp only; rw [if_pos rfl]; exact eo)
 have HVg : Hid (V5 k = V k) := LH (by rw [hV5]; dsimp only; rw [if_neg (by have := HSl.out; have := hsl160.out.2; omega)])
 have HLo := LH hlo
 have HTl : Hid (T.length ≤ 900001) := LH (by rw [HT.out]; simp; exact HLs.out)
 clear hst hos hco HC2 HM HVi HB2 HC3 HPd HG3 HO3 HG4 HO4 HPd4 HG5 HM5 hC1 hC2 hC3 hC4 HV hmbn HR4 HOs HQa HQa2 eo hV5 hlo
 go_upto_region 7 with fail
 have r0 := fun x => later_cell (HRow5.out.cell (i := 0) rfl) x
 have r1 := fun x => later_cell (HRow5.out.cell (i := 1) rfl) x
 have r2 := fun x => later_cell HFV5.out.inn.m x
 refine wp_region_seg (C := fun w' => ∃ x : Later (w5), w' = x.val) [.fl [0, 1, 2, 3, 4], .sq [5, 6] false] (by kernel_rfl) (by kernel_rfl) (by intro c a d v w h; cases d <;> exact h) ?_
 simp only [segs, picks, List.getElem?_cons_succ, List.getElem?_cons_zero]
 have hC1 := later_drew (w5)
 refine wpSeg_fl hC1 ?_
 repeat (first | go_big_quiet_step (fail) | quiet_step (fail))
 refine wpQuiet_nil ?_
 clear r0 r1 r2
 have HD6 : Hid (Below w5.heap.size w5 w5.drew) := LH (later_below hC1)
 generalize w5.drew = w6 at *
 have HFV6 := LH (HFV5.out.below HD6.out)
 obtain ⟨M, hm, hv⟩ := HFV6.out.inn.map
 have HM := LH hm
 have HVi : Hid ((M (pairKey m k)).getD (.slice none 0 0) = .slice ao lo co) := LH ((hv m k hm4 hk).trans HVo.out)
 have HRow6 := LH (HRow5.out.keep (HD6.out.block q HRow5.out.lt))
 clear hm hv
 by_cases h8 : 8 < lo
 case neg =>
  have HFin : Hid (FreeGo w w6 f mb (n + 2) R (S.put m k a)) := LH (by
   have e : S.put m k a = S.setC m k T := by rw [HPut.out, if_neg (by have := HLo.out; omega)]
   rw [e]
   exact ((HGo5.out.later HD6.out).mono (by omega)).own HQ.out HW0.out)
  have h8' : ¬ (8 : Int) < (lo : Int) := by omega
  clear h8
  refine wpSeg_last ?_
  go_wp2_with (refine wpList_vlook rfl _ _ 332 rfl 336 47 keyed_slot Tryz.underlying332 _ (zero_ints _) mb (n + 1) M rfl HM.out _ _ rfl hkey ?_; rw [HVi.out])
  exact HP.out _ _ HE0.out HFin.out
 case pos =>
 have h8' : (8 : Int) < (lo : Int) := by omega
 obtain ⟨hf, hhf⟩ : ∃ hf, hf = lo / 2 := ⟨_, rfl⟩
 have hw2 : wrap64 ((lo : Int) / 2) = (hf : Int) := by
  have h1 := HTl.out
  have h2 := HLo.out
  rw [Go.IntWalk.wrap64_in _ (by omega)]; omega
 have hfl : hf ≤ lo := by omega
 have HHf := LH hhf
 clear hhf
 refine wpSeg_last ?_
 go_upto_region 10 with (refine wpList_vlook rfl _ _ 332 rfl 336 47 keyed_slot Tryz.underlying332 _ (zero_ints _) mb (n + 1) M rfl HM.out _ _ rfl hkey ?_; rw [HVi.out])
 have HOo : Hid (OwnI w6 (.slice ao lo co) T) := LH (by
  have := HFV6.out.inn.rows (slotI m k) (by unfold slotI; omega)
  rw [FL.at_c _ m hk, FL.setC_c, if_pos ⟨rfl, rfl⟩, HVo.out] at this
  exact this)
 have HOg : Hid (OwnI w6 (V k) (S.g k)) := LH (by
  have := HFV6.out.inn.rows k (by omega)
  rw [FL.at_g _ hk, FL.setC_g, HVg.out] at this
  exact this)
 have ck := HFV6.out.inn.g hk
 rw [HVg.out] at ck
 have hfn : f ∉ (rowOf (V k)).toList := fun hm => (HFV.out.inn.neF k (by omega)).1 (by simpa using hm)
 have r0 := fun x => near_cell (L := (rowOf (V k)).toList) ck hfn x
 have hC1 : ∃ x : Near (rowOf (V k)).toList w6, w6.drew = x.val := near_of (Touch.ofBelow (later_below (later_drew w6)))
 have HD7 : Hid (Below w6.heap.size w6 w6.drew) := LH (later_below (later_drew w6))
 clear ck hfn
 refine wp_region_seg (C := fun w' => ∃ x : Near (rowOf (V k)).toList w6, w' = x.val) [.fl [0, 1, 2, 3, 4, 5, 6, 7, 8, 9, 10, 12, 13], .sq [11] true, .sq [14, 15] false] (by kernel_rfl) (by kernel_rfl) (by intro c a d v w h; cases d <;> exact h) ?_
 simp only [segs, picks, List.getElem?_cons_succ, List.getElem?_cons_zero]
 refine wpSeg_fl hC1 ?_
 repeat (first | (refine wpQuiet_slice_to el_int (ad := ao) (n := lo) (cap := co) hf rfl hfl hol rfl rfl rfl rfl ?_) | go_big_quiet_step (fail) | quiet_step (fail))
 refine wpQuiet_nil ?_
 clear r0
 generalize w6.drew = w7 at *
 have HOg7 : Hid (OwnI w7 (V k) (S.g k)) := LH (HOg.out.keep (fun b hb => HD7.out.block b (HOg.out.lt b hb)))
 have HCh : Hid (Cells w7 ao ((T.take hf).map vi)) := LH (by
  obtain ⟨a', c', e', hc', _⟩ := (HOo.out.keep (fun b hb => HD7.out.block b (HOo.out.lt b hb))).cells
  injection e' with e1 _ _
  rw [e1, List.map_take]
  exact hc'.take hf)
 have HTk : Hid ((T.take hf).length = hf) := LH (by rw [List.length_take]; have := HLo.out; omega)
 have HN2 : Hid ((S.g k).length + hf ≤ 1000000000000) := LH (by have := HLg.out; have := HTl.out; have := HLo.out; omega)
 refine wpSeg_sq (fun K hK => ?_)
 go_wp2_with (refine wpList_append_ownI (m := hf) HOg7.out HCh.out HTk.out HN2.out rfl rfl rfl rfl ?_; intro v8 w8 ho hg hr; have HO8 := LH ho; have HG8 := LH hg; have HR8 := LH hr; clear ho hg hr)
 have hC2 := near_of ((Touch.ofBelow HD7.out).trans (grown_touchO HG8.out))
 go_wp2_with fail
 refine hK _ _ (fun _ => hC2) ?_
 clear hK K
 have hst := step_g HFV6.out.inn hk HFV6.out.f HFV6.out.mb HFV6.out.lt HD7.out (by rw [HVg.out]; exact HG8.out) HO8.out (fun b hb => by
  rcases HR8.out b hb with c | c
  ·exact .inl (by rw [HVg.out]; exact c)
  ·exact .inr (by rw [c]; exact HD7.out.size))
 have hos : (w8.setCell ⟨f, k, none⟩ v8).os = w6.os ∧ (w8.setCell ⟨f, k, none⟩ v8).tape = w6.tape ∧ (w8.setCell ⟨f, k, none⟩ v8).output = w6.output := ⟨HG8.out.os.trans HD7.out.os, HG8.out.tape.trans HD7.out.tape, HG8.out.output.trans HD7.out.output⟩
 have HFV9 := LH (HFV6.out.step (by omega) hst)
 have HT9 := LH (hst.touch HFV6.out (by omega) hos)
 have HF1 : Hid (w8.heap[f]? = some (.cells ((List.range 32).map V5 ++ [Value.map (some mb)]).toArray 334 (0, 0))) := LH (by
  have := (HG8.out.block f (Nat.lt_of_lt_of_le (HFV6.out.lt f HFV6.out.f) HD7.out.size) (fun e => (HFV.out.inn.neF k (by omega)).1 e.symm)).trans (HD7.out.block f (HFV6.out.lt f HFV6.out.f))
  exact this.trans HFV6.out.inn.head)
 have fr : w8.frozen? ⟨f, k, none⟩ = false := frozen_of_row _ _ _ _ _ HF1.out
 have ck1 : w8.cell? ⟨f, k, none⟩ = some (V k) := (cell_of_row _ _ k _ _ _ HF1.out).trans ((HFV6.out.inn.lt hk).trans (congrArg some HVg.out))
 have HRow9 : Hid (RowAt (w8.setCell ⟨f, k, none⟩ v8) q 336 [.int .i64 (m : Int), .int .i64 (k : Int)]) := LH (HRow6.out.keep (HT9.out.1.block q HRow6.out.lt (fun hm => by
  rcases HT5.out.2 q hm with c | c
  ·exact Nat.lt_irrefl q (HRlt.out q c)
  ·exact absurd HQl.out (Nat.not_lt.2 c))))
 have HOo9 : Hid (OwnI (w8.setCell ⟨f, k, none⟩ v8) (.slice ao lo co) T) := LH (by
  have := HFV9.out.inn.rows (slotI m k) (by unfold slotI; omega)
  rw [FL.at_c _ m hk, FL.setG_c, FL.setC_c] at this
  rw [if_neg (show ¬ slotI m k = k by unfold slotI; omega), HVo.out, if_pos (show m = m ∧ k = k from ⟨rfl, rfl⟩)] at this
  exact this)
 obtain ⟨a', c', e', _⟩ := HO8.out.cells
 obtain ⟨l', hl'⟩ : ∃ l', l' = (S.g k ++ T.take hf).length := ⟨_, rfl⟩
 rw [← hl'] at e'
 subst e'
 clear hst hl' hos
 refine wpSeg_last ?_
 go_wp2_with fail
 generalize w8.setCell _ _ = w9 at *
 have hho : hf ≤ co := by omega
 have hon2 := HOo9.out.cells2
 obtain ⟨a9, c9, e9, hc9, _, _, hn9⟩ := hon2
 have HLTo := HLo.out
 rw [← HLTo] at e9
 injection e9 with e91 _ e93
 subst e91
 subst e93
 have HCo9 := LH hc9
 have HNil := LH hn9
 clear hc9 hn9 HLTo
 have r0 := fun x => later_cell (HRow9.out.cell (i := 0) rfl) x
 have r1 := fun x => later_cell (HRow9.out.cell (i := 1) rfl) x
 have r2 := fun x => later_cell HFV9.out.inn.m x
 clear hC1 hC2
 refine wp_region_seg (C := fun w' => ∃ x : Later (w9), w' = x.val) [.fl [0, 1, 2, 3, 4, 5, 6, 7], .sq [8] true, .sq [9] false] (by kernel_rfl) (by kernel_rfl) (by intro c a d v w h; cases d <;> exact h) ?_
 simp only [segs, picks, List.getElem?_cons_succ, List.getElem?_cons_zero]
 have hC3 := later_drew (w9)
 refine wpSeg_fl hC3 ?_
 repeat (first | (refine wpQuiet_slice_from el_int (ad := ao) (n := lo) (cap := co) hf rfl hfl hol rfl rfl rfl rfl ?_) | go_big_quiet_step (fail) | quiet_step (fail))
 refine wpQuiet_nil ?_
 clear r0 r1 r2
 obtain ⟨sa, hsa⟩ : ∃ sa, sa = (if co = hf then ao else ao.map (·.add (hf * 1))) := ⟨_, rfl⟩
 rw [← hsa]
 obtain ⟨sn, hsn⟩ : ∃ sn, sn = lo - hf := ⟨_, rfl⟩
 rw [← hsn]
 obtain ⟨sc, hsc⟩ : ∃ sc, sc = co - hf := ⟨_, rfl⟩
 rw [← hsc]
 have HD10 : Hid (Below w9.heap.size w9 w9.drew) := LH (later_below hC3)
 have HCl : Hid (Calls Tryz.prog 221 #[.slice sa sn sc] w9.drew (NewI w9.drew (T.drop hf))) := LH (by
  refine cloneI_any _ _ _ _ (by rw [List.length_drop, ← HLo.out, hsn]) ?_ (by rw [List.length_drop, ← HLo.out]; have := HTl.out; have := HLo.out; omega) (fun h => ?_)
  ·rw [List.map_drop, hsa, Nat.mul_one]
   exact (HCo9.out.below HD10.out (Nat.le_refl _)).shift hf _ (fun e => by rw [List.length_map, ← HLo.out]; omega)
  ·by_cases e : co = hf
   ·omega
   ·rw [hsa, if_neg e] at h
    cases ao with
    | none => have := HNil.out rfl; omega
    | some d => cases h)
 generalize w9.drew = w10 at *
 clear hsa hsn hsc
 refine wpSeg_sq (fun K hK => ?_)
 go_wp2_with fail
 refine HCl.out.mono ?_
 rintro e w11 ⟨v11, rfl, ho3, hr3, hb3⟩
 have HO11 := LH ho3
 have HR11 := LH hr3
 have HB11 : Hid (Below w9.heap.size w9 w11) := LH (HD10.out.trans (hb3.mono HD10.out.size))
 have HW10 := LH HD10.out.size
 have hC4 := later_step hC3 hb3
 clear ho3 hr3 hb3
 go_wp2_with fail
 refine hK _ _ (fun _ => hC4) ?_
 clear hK K
 have HFV11 := LH (HFV9.out.below HB11.out)
 obtain ⟨M3, hm3, hv3⟩ := HFV11.out.inn.map
 have HM3 := LH hm3
 have HV3 := LH hv3
 have HNm2 : Hid (n + 1 < maxLen) := LH (by unfold maxLen; omega)
 clear hm3 hv3
 refine wpSeg_last ?_
 go_wp2_with (refine wpList_vstore rfl _ _ _ 332 rfl 336 47 keyed_slot Tryz.underlying332 mb (n + 1) M3 rfl HM3.out HNm2.out _ _ _ rfl rfl hkey ?_; intro w12 hm4' hg4; have HM12 := LH hm4'; have HG12 := LH hg4; clear hm4' hg4)
 have hst := step_c (o := some v11) HFV9.out.inn hm4 hk HFV9.out.f HFV9.out.mb HFV9.out.lt HV3.out HB11.out HM12.out rfl HG12.out HO11.out (fun b hb => .inr (Nat.le_trans HW10.out (HR11.out b hb)))
 have hos : w12.os = w9.os ∧ w12.tape = w9.tape ∧ w12.output = w9.output := ⟨HG12.out.os.trans HB11.out.os, HG12.out.tape.trans HB11.out.tape, HG12.out.output.trans HB11.out.output⟩
 have HFin : Hid (FreeGo w w12 f mb (n + 2) R (S.put m k a)) := LH (by
  have e : S.put m k a = ((S.setC m k T).setG k (S.g k ++ T.take hf)).setC m k (T.drop hf) := by
   rw [HPut.out, if_pos (by have := HLo.out; omega), ← HLo.out, ← HHf.out]
   refine FL.ext' (fun j => ?_) (fun i j => ?_)
   ·simp only [FL.setC_g, FL.setG_g]
   ·simp only [FL.setC_c, FL.setG_c]
    split <;> rfl
  rw [e]
  have h1 := FreeGo.more HT9.out.1 HT9.out.2 HFV9.out (by unfold slotI; omega) hst hos
  exact ((FreeGo.trans (HT5.out.1.later HD6.out) (fun b hb => HT5.out.2 b hb) h1).mono (by omega)).own HQ.out HW0.out)
 clear hst hos
 exact HP.out _ _ HE0.out HFin.out
end Go.Proofs.YtpopbfagliagnaaGreat
namespace Go.Proofs
open Go.Shelf
def Tryz.lays189_ren : Go.Shelf.Ren := ⟨fun | 189 => 222 | 125 => 283 | 257 => 282 | 128 => 328 | 129 => 329 | 294 => 319 | 295 => 320 | 296 => 321 | 297 => 322 | 298 => 323 | 299 => 324 | 216 => 325 | 300 => 326 | 301 => 327 | 328 => 344 | 329 => 345 | 330 => 346 | 331 => 347 | 332 => 348 | 215 => 349 | 343 => 360 | n => n, fun | 28 => 47 | 3 => 3 | 46 => 167 | 0 => 0 | 51 => 231 | 53 => 40 | 4 => 4 | 183 => 408 | 182 => 407 | 131 => 238 | 5 => 5 | 9 => 9 | 218 => 421 | 222 => 424 | 228 => 433 | 229 => 258 | n => n, fun | n => n⟩
theorem Tryz.lays189 : Go.Proofs.Lays.n189 Tryz.prog Tryz.lays189_ren := {
 mixed := by kernel_rfl
 f125 := Tryz.func283.trans (congrArg some (by kernel_rfl))
 f128 := Tryz.func328.trans (congrArg some (by kernel_rfl))
 f129 := Tryz.func329.trans (congrArg some (by kernel_rfl))
 f189 := Tryz.func222.trans (congrArg some (by kernel_rfl))
 f215 := Tryz.func349.trans (congrArg some (by kernel_rfl))
 f216 := Tryz.func325.trans (congrArg some (by kernel_rfl))
 f257 := Tryz.func282.trans (congrArg some (by kernel_rfl))
 f294 := Tryz.func319.trans (congrArg some (by kernel_rfl))
 f295 := Tryz.func320.trans (congrArg some (by kernel_rfl))
 f296 := Tryz.func321.trans (congrArg some (by kernel_rfl))
 f297 := Tryz.func322.trans (congrArg some (by kernel_rfl))
 f298 := Tryz.func323.trans (congrArg some (by kernel_rfl))
 f299 := Tryz.func324.trans (congrArg some (by kernel_rfl))
 f300 := Tryz.func326.trans (congrArg some (by kernel_rfl))
 f301 := Tryz.func327.trans (congrArg some (by kernel_rfl))
 f328 := Tryz.func344.trans (congrArg some (by kernel_rfl))
 f329 := Tryz.func345.trans (congrArg some (by kernel_rfl))
 f330 := Tryz.func346.trans (congrArg some (by kernel_rfl))
 f331 := Tryz.func347.trans (congrArg some (by kernel_rfl))
 f332 := Tryz.func348.trans (congrArg some (by kernel_rfl))
 f343 := Tryz.func360.trans (congrArg some (by kernel_rfl))
 t0 := Tryz.underlying0
 a0 := Tryz.isAgg0
 z0 := Tryz.sizeOf0
 v0 := Tryz.zeroValue0
 t3 := Tryz.underlying3
 a3 := Tryz.isAgg3
 z3 := Tryz.sizeOf3
 v3 := Tryz.zeroValue3
 t4 := Tryz.underlying4
 a4 := Tryz.isAgg4
 z4 := Tryz.sizeOf4
 v4 := Tryz.zeroValue4
 t5 := Tryz.underlying5
 a5 := Tryz.isAgg5
 z5 := Tryz.sizeOf5
 v5 := Tryz.zeroValue5
 t9 := Tryz.underlying9
 a9 := Tryz.isAgg9
 z9 := Tryz.sizeOf9
 v9 := Tryz.zeroValue9
 t28 := Tryz.underlying47
 a28 := Tryz.isAgg47
 z28 := Tryz.sizeOf47
 v28 := Tryz.zeroValue47
 t46 := Tryz.underlying167
 a46 := Tryz.isAgg167
 z46 := Tryz.sizeOf167
 v46 := Tryz.zeroValue167
 t51 := Tryz.underlying231
 a51 := Tryz.isAgg231
 z51 := Tryz.sizeOf231
 v51 := Tryz.zeroValue231
 t53 := Tryz.underlying40
 a53 := Tryz.isAgg40
 z53 := Tryz.sizeOf40
 v53 := Tryz.zeroValue40
 t131 := Tryz.underlying238
 a131 := Tryz.isAgg238
 z131 := Tryz.sizeOf238
 v131 := Tryz.zeroValue238
 t182 := Tryz.underlying407
 a182 := Tryz.isAgg407
 z182 := Tryz.sizeOf407
 v182 := Tryz.zeroValue407
 t183 := Tryz.underlying408
 a183 := Tryz.isAgg408
 z183 := Tryz.sizeOf408
 v183 := Tryz.zeroValue408
 t218 := Tryz.underlying421
 a218 := Tryz.isAgg421
 z218 := Tryz.sizeOf421
 v218 := Tryz.zeroValue421
 t222 := Tryz.underlying424
 a222 := Tryz.isAgg424
 z222 := Tryz.sizeOf424
 v222 := Tryz.zeroValue424
 t228 := Tryz.underlying433
 a228 := Tryz.isAgg433
 z228 := Tryz.sizeOf433
 v228 := Tryz.zeroValue433
 t229 := Tryz.underlying258
 a229 := Tryz.isAgg258
 z229 := Tryz.sizeOf258
 v229 := Tryz.zeroValue258 }
end Go.Proofs
namespace Go.Proofs.YtpopbfagliagnaaGreat
open Go.RowKit Go.Maps Go.Shelf Go.Sort
theorem putCells_front (cur : Array Value) (d : Array Int) (h : d.size ≤ cur.size) : (putCells (Value.int .i64) 0 d cur).toList = d.toList.map (Value.int .i64) ++ cur.toList.drop d.size := by
 apply List.ext_getElem?
 intro k
 unfold putCells
 rw [Array.getElem?_toList, Array.getElem?_mapIdx]
 by_cases hk : k < d.size
 ·rw [List.getElem?_append_left (by simpa using hk), List.getElem?_map, Array.getElem?_toList, Array.getElem?_eq_getElem hk, Array.getElem?_eq_getElem (show k < cur.size by omega)]
  simp [hk]
 ·rw [List.getElem?_append_right (by simpa using hk), List.getElem?_drop]
  have e : d.size + (k - (d.toList.map (Value.int .i64)).length) = k := by simp; omega
  rw [e, Array.getElem?_toList]
  cases cur[k]? with
  | none => rfl
  | some x => simp [hk]
theorem putRow_heap {w : World} {g : Nat} {cur : Array Value} {e : TypeId} {fr : Nat × Nat} (hg : w.heap[g]? = some (.cells cur e fr)) (d : Array Int) (q : Nat) :
  (putRow (Value.int .i64) (Sort.ahead w q) g 0 d).heap[g]? = some (.cells (putCells (Value.int .i64) 0 d cur) e fr) := by
 unfold putRow mapBlock
 simp [Array.getElem?_modify, hg, onCells]
theorem putRow_grown (w : World) (g : Nat) (d : Array Int) (q : Nat) : w.grownBy (putRow (Value.int .i64) (Sort.ahead w q) g 0 d) (some g) := by
 refine ⟨rfl, rfl, rfl, by simp [putRow, mapBlock], fun k hk hne => ?_⟩
 have : ¬ g = k := fun e => hne (by rw [e])
 simp [putRow, mapBlock, Array.getElem?_modify, this]
theorem grow_grown (w : World) (os : Array Obj) : w.grownBy (grow w os) none :=
 ⟨rfl, rfl, rfl, by simp [grow], fun k hk _ => heap_grow_old w os hk⟩
theorem row_put {w : World} {g cap : Nat} {cur : Array Value} (hg : w.heap[g]? = some (.cells cur 3 (0, 0))) (hc : cur.size = cap) (h2 : cap ≤ maxLen) (d : Array Int) (hd : d.size ≤ cap) (q : Nat) (ys : List Nat) (hy : d.toList.take ys.length = ys.map (fun x : Nat => (x : Int))) (hl : ys.length ≤ d.size) :
  OwnI (putRow (Value.int .i64) (Sort.ahead w q) g 0 d) (.slice (some ⟨g, 0, none⟩) ys.length cap) ys := by
 refine .inl ⟨by simp, .inr ⟨g, cap, _, rfl, Nat.zero_le _, putRow_heap hg d q, by omega, h2, by unfold putCells; simp [hc], ?_⟩⟩
 rw [putCells_front _ _ (by omega), Nat.mul_one, List.take_append_of_le_length (by simpa using hl), ← List.map_take, hy, List.map_map]
 rfl
theorem OwnI.row {w : World} {v : Value} {xs : List Nat} (h : OwnI w v xs) (hx : xs ≠ []) : ∃ g cap cur, v = .slice (some ⟨g, 0, none⟩) xs.length cap ∧ w.heap[g]? = some (.cells cur 3 (0, 0)) ∧ xs.length ≤ cap ∧ cap ≤ maxLen ∧ cur.size = cap ∧ rowOf v = some g ∧
  Go.Sort.Holds (Value.int .i64) w g 0 (xs.map (fun x : Nat => (x : Int))).toArray := by
 rcases h with h | ⟨a, _, h⟩
 ·rcases h.2 with ⟨_, h0⟩ | ⟨g, cap, cur, rfl, hb, hg, h1, h2, h3, h4⟩
  ·exact absurd (List.length_eq_zero_iff.1 h0) hx
  ·have hpos : 0 < xs.length := List.length_pos_iff.2 hx
   refine ⟨g, cap, cur, rfl, hg, h1, h2, by omega, ?_, fun j hj => ⟨?_, frozen_of_row _ _ _ _ _ hg⟩⟩
   ·show (if cap = 0 then none else some g) = some g
    rw [if_neg (by omega)]
   ·have hj' : j < xs.length := by simpa using hj
    rw [Nat.zero_add, cell_of_row _ _ j _ _ _ hg]
    have h5 := congrArg (fun l => l[j]?) h4
    rw [Nat.mul_one] at h5
    simp only [List.getElem?_take, if_pos hj', List.getElem?_map, List.getElem?_eq_getElem hj', Option.map_some] at h5
    rw [← Array.getElem?_toList, h5]
    simp [vi, hj']
 ·exact absurd h hx
theorem OwnI.none_val {w : World} {v : Value} (h : OwnI w v []) : ∃ p c, v = .slice p 0 c := by
 obtain ⟨a, c, e, _⟩ := h.cells
 exact ⟨a, c, e⟩
def SortedI (w : World) (v : Value) (xs : List Nat) : Ending → World → Prop := fun e w' => e = .returned (.tuple #[]) ∧ ∃ ys : List Nat, OwnI w' v ys ∧ ys.Pairwise (· ≤ ·) ∧ ys.Perm xs ∧ w.grownBy w' (rowOf v)
theorem sortI_any {w : World} {v : Value} {xs : List Nat} (h : OwnI w v xs) (hl : xs.length ≤ 1000000000) : Calls Tryz.prog 222 #[v] w (SortedI w v xs) := by
 by_cases hx : xs = []
 ·subst hx
  obtain ⟨p, c, rfl⟩ := h.none_val
  refine (Any.slices_Sort_int_none Tryz.lays189 p c w).mono ?_
  rintro e w' ⟨rfl, rfl⟩
  exact ⟨rfl, [], h, List.Pairwise.nil, List.Perm.refl _, grown_self _ _⟩
 ·obtain ⟨g, cap, cur, rfl, hg, h1, h2, h3, h4, hH⟩ := h.row hx
  have hc := Any.slices_Sort_int Tryz.lays189 g 0 cap (xs.map (fun x : Nat => (x : Int))) w hH (Array.getElem?_eq_some_iff.1 hg).1 (by rw [List.length_map]; omega)
  rw [List.length_map] at hc
  refine hc.mono ?_
  rintro e w' ⟨rfl, q, os, rfl⟩
  have hm : (xs.map (fun x : Nat => (x : Int))).mergeSort (fun x y => decide (x ≤ y)) = (xs.mergeSort (fun x y => decide (x ≤ y))).map (fun x : Nat => (x : Int)) := by
   rw [List.map_mergeSort (s := fun x y : Int => decide (x ≤ y)) (fun a _ b _ => by simp)]
  rw [hm]
  have hpm := List.mergeSort_perm xs (fun x y => decide (x ≤ y))
  have hlm : (xs.mergeSort (fun x y => decide (x ≤ y))).length = xs.length := hpm.length_eq
  have hso : (xs.mergeSort (fun x y => decide (x ≤ y))).Pairwise (· ≤ ·) := by
   have := List.pairwise_mergeSort (le := fun x y : Nat => decide (x ≤ y)) (fun a b c h1 h2 => by simp at *; omega) (fun a b => by simp; omega) xs
   exact this.imp (fun h => by simpa using h)
  have ho := row_put hg h3 h2 ((xs.mergeSort (fun x y => decide (x ≤ y))).map (fun x : Nat => (x : Int))).toArray (by rw [List.size_toArray, List.length_map, hlm]; exact h1) q (xs.mergeSort (fun x y => decide (x ≤ y))) (by rw [List.take_of_length_le (by simp)]) (by simp)
  rw [hlm] at ho
  have hgr := putRow_grown w g ((xs.mergeSort (fun x y => decide (x ≤ y))).map (fun x : Nat => (x : Int))).toArray q
  refine ⟨rfl, _, ?_, hso, hpm, ?_⟩
  ·exact ho.keep (fun b hb => heap_grow_old _ _ (ho.lt b hb))
  ·have hg2 := grow_grown (putRow (Value.int .i64) (Sort.ahead w q) g 0 ((xs.mergeSort (fun x y => decide (x ≤ y))).map (fun x : Nat => (x : Int))).toArray) os
   rw [h4]
   exact ⟨hg2.os.trans hgr.os, hg2.tape.trans hgr.tape, hg2.output.trans hgr.output, Nat.le_trans hgr.size hg2.size, fun k hk hne => (hg2.block k (Nat.lt_of_lt_of_le hk hgr.size) (by simp)).trans (hgr.block k hk hne)⟩
end Go.Proofs.YtpopbfagliagnaaGreat
namespace Go.Proofs.YtpopbfagliagnaaGreat
open Go.RowKit Go.Maps
def FL.allTo (S : FL) (k : Nat) : Nat → List Nat
 | 0 => S.g k
 | i + 1 => S.allTo k i ++ S.c i k
theorem FL.allTo_all (S : FL) (k : Nat) : S.allTo k 4 = S.all k := rfl
theorem FL.allTo_len {S : FL} {N k : Nat} (h : S.upto N) (hk : k < 32) : ∀ i, i ≤ 4 → (S.allTo k i).length ≤ (i + 1) * N
 | 0, _ => by
  have := h k (by omega)
  rw [S.at_g hk] at this
  simpa [FL.allTo] using this
 | i + 1, hi => by
  have h1 := FL.allTo_len h hk i (by omega)
  have h2 := h (slotI i k) (by unfold slotI; omega)
  rw [S.at_c i hk] at h2
  unfold FL.allTo
  rw [List.length_append, Nat.add_mul (i + 1) 1 N, Nat.one_mul]
  omega
def ListI (w : World) (S : FL) (k : Nat) : Ending → World → Prop := fun e w' => ∃ v ys, e = .returned v ∧ OwnI w' v ys ∧ ys.Pairwise (· ≤ ·) ∧ (∀ a, ys.count a = S.cnt k a) ∧ (∀ b, rowOf v = some b → w.heap.size ≤ b) ∧ Below w.heap.size w w'
set_option maxHeartbeats 4000000 in
set_option maxRecDepth 20000 in
theorem flist_any {w : World} {f mb n : Nat} {R : List Nat} {S : FL} (h : FreeAt w f mb n R S) (hL : S.upto 900000) (k : Nat) (hk : k < 32) :
  Calls Tryz.prog 126 #[vfree f, .int .i64 (k : Int)] w (ListI w S k) := by
 obtain ⟨V, hfv⟩ := h.v
 have HFV := LH hfv
 have HUp := LH hL
 have HP : Hid (∀ v ys w', OwnI w' v ys → ys.Pairwise (· ≤ ·) → ys.Perm (S.all k) → (∀ b, rowOf v = some b → w.heap.size ≤ b) → Below w.heap.size w w' → ListI w S k (.returned v) w') := LH (fun v ys w' h1 h2 h3 h4 h5 => ⟨v, ys, rfl, h1, h2, fun a => by rw [← S.all_count]; exact h3.count_eq a, h4, h5⟩)
 generalize ListI w S k = Post at *
 have hVk := HFV.out.inn.rows k (by omega)
 rw [S.at_g hk] at hVk
 obtain ⟨ag, cg, eg, hcg, _, _, hgn⟩ := hVk.cells2
 have HLg : Hid ((S.g k).length ≤ 900000) := LH (by have := HUp.out k (by omega); rwa [S.at_g hk] at this)
 have HCl := LH (cloneI_any ag _ cg (S.g k) rfl hcg (by have := HLg.out; omega) hgn)
 have ck := HFV.out.inn.g hk
 rw [eg] at ck
 have c32 := HFV.out.inn.m
 obtain ⟨lg, hlg⟩ : ∃ lg, lg = (S.g k).length := ⟨_, rfl⟩
 rw [← hlg] at ck HCl
 clear h hL hfv hVk hcg hgn eg hlg
 go_enter Tryz.func126, Tryz.ntmps126
 go_wp2_with fail
 refine (cright_any _ _).mono ?_
 rintro e w1 ⟨rfl, rfl⟩
 rw [decide_eq_true (show (0 : Int) ≤ (k : Int) ∧ (k : Int) < 32 by omega)]
 go_wp2_with fail
 refine HCl.out.mono ?_
 rintro e w1 ⟨v1, rfl, ho1, hr1, hb1⟩
 have HO1 := LH ho1
 have HR1 := LH hr1
 have HB1 := LH hb1
 clear ho1 hr1 hb1 ck c32
 go_wp2_with fail
 go_loopw [5, 17] (fun ov iv wr => ∃ i : Nat, i ≤ 4 ∧ iv = .int .i64 (i : Int) ∧ Hid (OwnI wr ov (S.allTo k i)) ∧ Hid (∀ b, rowOf ov = some b → w.heap.size ≤ b) ∧ Hid (Below w.heap.size w wr)) (fun _ iv _ => 4 - (intOf iv).toNat)
 case atStart => exact ⟨0, by omega, rfl, HO1, HR1, HB1⟩
 case round =>
  obtain ⟨i, hi4, rfl, HO, HR, HB⟩ := hrel
  by_cases hlt : i < 4
  case neg =>
   obtain rfl : i = 4 := by omega
   have HSo := LH (sortI_any HO.out (by have := FL.allTo_len HUp.out hk 4 (by omega); omega))
   go_wp2_with fail
   refine HSo.out.mono ?_
   rintro e w2 ⟨rfl, ys, ho, hs, hp, hg⟩
   have HFin := LH (HP.out _ ys w2 ho hs (by rw [← S.allTo_all]; exact hp) HR.out ⟨hg.os.trans HB.out.os, hg.tape.trans HB.out.tape, hg.output.trans HB.out.output, Nat.le_trans HB.out.size hg.size, fun b hb => (hg.block b (Nat.lt_of_lt_of_le hb HB.out.size) (fun e => by have := HR.out b e.symm; omega)).trans (HB.out.block b hb)⟩)
   clear ho hs hp hg
   go_wp2_with fail
   exact HFin.out
  have hi160 : slotI i k < 160 := by unfold slotI; omega
  have HFr := LH (HFV.out.below HB.out)
  obtain ⟨ac, cc, ec, hcc, _, _, _⟩ := (HFr.out.inn.rows (slotI i k) hi160).cells2
  rw [S.at_c i hk] at ec hcc
  obtain ⟨M, hm, hv⟩ := HFr.out.inn.map
  have HM := LH hm
  obtain ⟨lc, hlc⟩ : ∃ lc, lc = (S.c i k).length := ⟨_, rfl⟩
  rw [← hlc] at ec
  have HLc := LH hlc.symm
  have HVi := LH ((hv i k hlt hk).trans ec)
  have HCc := LH hcc
  have hkey := key_slot (i : Int) (k : Int) (wf_small i (by omega)) (wf_small k (by omega))
  have c32 := HFr.out.inn.m
  have HN1 : Hid ((S.allTo k i).length + lc ≤ 1000000000000) := LH (by
   have h1 := FL.allTo_len HUp.out hk i (by omega)
   have h2 := HUp.out (slotI i k) hi160
   rw [S.at_c i hk, ← hlc] at h2
   have : (i + 1) * 900000 ≤ 5 * 900000 := Nat.mul_le_mul_right _ (by omega)
   omega)
  clear hm hv ec hcc hlc
  go_wp2_with (first
   | (refine wpList_vlook rfl _ _ 332 rfl 336 47 keyed_slot Tryz.underlying332 _ (zero_ints _) mb n M rfl HM.out _ _ rfl hkey ?_; rw [HVi.out])
   | (at_builtin; refine wpList_append_newI (m := lc) (B := w.heap.size) HO.out (Below.refl _ _) HR.out HB.out.size HCc.out HLc.out HN1.out rfl rfl rfl rfl ?_; intro v' w2 ho hb hr; have HO2 := LH ho; have HB2 := LH hb; have HR2 := LH hr; clear ho hb hr))
  go_roundw
  case rel => exact ⟨i + 1, by omega, vint (by omega), HO2, HR2, LH (HB.out.trans HB2.out)⟩
  case measure => simp [intOf]; omega
set_option maxHeartbeats 1000000 in
theorem flen_any {w : World} {f mb n : Nat} {R : List Nat} {S : FL} (h : FreeAt w f mb n R S) (hL : S.upto 900000) (k : Nat) (hk : k < 32) :
  Calls Tryz.prog 304 #[vfree f, .int .i64 (k : Int)] w fun e w' => e = .returned (.int .i64 ((S.all k).length : Nat)) ∧ Below w.heap.size w w' := by
 have HL := LH (flist_any h hL k hk)
 have HP : Hid (∀ w', Below w.heap.size w w' → (fun e w' => e = Ending.returned (.int .i64 ((S.all k).length : Nat)) ∧ Below w.heap.size w w') (.returned (.int .i64 ((S.all k).length : Nat))) w') := LH (fun w' h => ⟨rfl, h⟩)
 have HN : Hid (∀ ys : List Nat, (∀ a, ys.count a = S.cnt k a) → ys.length = (S.all k).length) := LH (fun ys h => (List.perm_iff_count.2 (fun a => by rw [h, S.all_count])).length_eq)
 generalize (S.all k).length = N at *
 clear h hL
 go_enter Tryz.func304, Tryz.ntmps304
 go_wp2_with fail
 refine HL.out.mono ?_
 rintro e w1 ⟨v, ys, rfl, ho, hs, hc, hr, hb⟩
 obtain ⟨a, c, rfl, _⟩ := ho.cells
 rw [HN.out ys hc]
 have HB := LH hb
 clear ho hs hc hr hb
 go_wp2_with fail
 go_ret
 exact ⟨rfl, HB.out⟩
end Go.Proofs.YtpopbfagliagnaaGreat
namespace Go.Proofs
open Go.Shelf
def Tryz.delFn_ren : Go.Shelf.Ren := ⟨fun | 10 => 306 | 6 => 339 | n => n, fun | 22 => 47 | 23 => 3 | 25 => 142 | 3 => 3 | 4 => 4 | 0 => 0 | n => n, fun | n => n⟩
theorem Tryz.delFn : Go.Proofs.SlLaysH.n10 Tryz.prog Tryz.delFn_ren := {
 mixed := by kernel_rfl
 f6 := ⟨Tryz.f339.name, by decide, Tryz.func339.trans (congrArg some (by kernel_rfl))⟩
 f10 := ⟨Tryz.f306.name, by decide, Tryz.func306.trans (congrArg some (by kernel_rfl))⟩
 t0 := Tryz.underlying0
 a0 := Tryz.isAgg0
 z0 := Tryz.sizeOf0
 v0 := Tryz.zeroValue0
 t3 := Tryz.underlying3
 a3 := Tryz.isAgg3
 z3 := Tryz.sizeOf3
 v3 := Tryz.zeroValue3
 t4 := Tryz.underlying4
 a4 := Tryz.isAgg4
 z4 := Tryz.sizeOf4
 v4 := Tryz.zeroValue4
 t22 := Tryz.underlying47
 a22 := Tryz.isAgg47
 z22 := Tryz.sizeOf47
 v22 := Tryz.zeroValue47
 a23 := Tryz.isAgg3
 z23 := Tryz.sizeOf3
 t25 := Tryz.underlying142
 a25 := Tryz.isAgg142
 z25 := Tryz.sizeOf142
 v25 := Tryz.zeroValue142 }
end Go.Proofs
namespace Go.Proofs.YtpopbfagliagnaaGreat
open Go.RowKit Go.Maps Go.Shelf Go.Sort Go.Lib
def outside (lo hi : Nat) (xs : List Nat) : List Nat := xs.filter (fun a => !(decide (lo ≤ a) && decide (a < hi)))
theorem outside_len (lo hi : Nat) (xs : List Nat) : (outside lo hi xs).length ≤ xs.length := List.length_filter_le _ _
theorem gone_gives (lo hi : Nat) (x : Int) (q1 q2 : Nat) (W : World) (h1 : W.cell? ⟨q1, 0, none⟩ = some (.int .i64 (lo : Int))) (h2 : W.cell? ⟨q2, 0, none⟩ = some (.int .i64 (hi : Int))) :
  FnGives Tryz.prog 305 #[.pointer (some ⟨q1, 0, none⟩), .pointer (some ⟨q2, 0, none⟩)] #[.int .i64 x] (.bool (decide ((lo : Int) ≤ x) && decide (x < (hi : Int)))) W := by
 show Calls Tryz.prog 305 #[.int .i64 x, .pointer (some ⟨q1, 0, none⟩), .pointer (some ⟨q2, 0, none⟩)] W _
 by_cases c : (lo : Int) ≤ x
 ·go_enter Tryz.func305, Tryz.ntmps305
  go_wp2
  all_goals (go_ret; exact ⟨by simp_all, 0, rfl⟩)
 ·go_enter Tryz.func305, Tryz.ntmps305
  go_wp2
  all_goals (go_ret; exact ⟨by simp_all; intros; omega, 0, rfl⟩)
theorem indexNone (p : Option Addr) (c : Nat) (fv : Value) (w : World) : Calls Tryz.prog 339 #[.slice p 0 c, fv] w (Same1 (.int .i64 (-1)) w) := by
 go_enter Tryz.func339, Tryz.ntmps339
 go_wp2_with fail
 go_loopw [8] (fun iv wr => iv = .int .i64 0 ∧ Hid (wr = w)) (fun _ _ => 0)
 case atStart => exact ⟨rfl, LH rfl⟩
 case round =>
  obtain ⟨rfl, hw⟩ := hrel
  go_wp2_with fail
  go_ret
  exact ⟨rfl, hw.out.symm⟩
theorem deleteNone (p : Option Addr) (c : Nat) (fv : Value) (w : World) : Calls Tryz.prog 306 #[.slice p 0 c, fv] w (Same1 (.slice p 0 c) w) := by
 go_enter Tryz.func306, Tryz.ntmps306
 go_wp2_with fail
 refine (indexNone p c fv _).mono ?_
 rintro e w1 ⟨rfl, rfl⟩
 go_wp2_with fail
 go_ret
 exact ⟨rfl, rfl⟩
def StruckI (w : World) (v : Value) (lo hi : Nat) (xs : List Nat) : Ending → World → Prop := fun e w' => ∃ v', e = .returned v' ∧ OwnI w' v' (outside lo hi xs) ∧ rowOf v' = rowOf v ∧ w.grownBy w' (rowOf v)
theorem deleteI_any {w : World} {v : Value} {xs : List Nat} (h : OwnI w v xs) (hl : xs.length ≤ 1000000000) (lo hi q1 q2 : Nat) (h1 : w.cell? ⟨q1, 0, none⟩ = some (.int .i64 (lo : Int))) (h2 : w.cell? ⟨q2, 0, none⟩ = some (.int .i64 (hi : Int)))
  (n1 : rowOf v ≠ some q1) (n2 : rowOf v ≠ some q2) :
  Calls Tryz.prog 306 #[v, .func (.func 305) #[] #[.pointer (some ⟨q1, 0, none⟩), .pointer (some ⟨q2, 0, none⟩)]] w (StruckI w v lo hi xs) := by
 by_cases hx : xs = []
 ·subst hx
  obtain ⟨p, c, rfl⟩ := h.none_val
  refine (deleteNone p c _ w).mono ?_
  rintro e w' ⟨rfl, rfl⟩
  exact ⟨_, rfl, h, rfl, grown_self _ _⟩
 ·obtain ⟨g, cap, cur, rfl, hg, g1, g2, g3, g4, hH⟩ := h.row hx
  have hB1 : q1 < w.heap.size := World.block_lt_of_cell? _ _ h1
  have hB2 : q2 < w.heap.size := World.block_lt_of_cell? _ _ h2
  have k1 : q1 ≠ g := fun e => n1 (by rw [g4, e])
  have k2 : q2 ≠ g := fun e => n2 (by rw [g4, e])
  have hsz : (xs.map (fun x : Nat => (x : Int))).toArray.size = xs.length := by simp
  have eg : ∀ args w, (callFunc 305 args).run Tryz.prog w = .ok (.enter 305 args) w := enters_of Tryz.func305 (by kernel_rfl) rfl
  have hp : PredAt Tryz.prog 305 #[.pointer (some ⟨q1, 0, none⟩), .pointer (some ⟨q2, 0, none⟩)] (Value.int .i64) (fun x => decide ((lo : Int) ≤ x) && decide (x < (hi : Int))) w :=
   fun W x hb => gone_gives lo hi x q1 q2 W ((hb.cell (p := ⟨q1, 0, none⟩) hB1).trans h1) ((hb.cell (p := ⟨q2, 0, none⟩) hB2).trans h2)
  have hpo : PredOver Tryz.prog 305 #[.pointer (some ⟨q1, 0, none⟩), .pointer (some ⟨q2, 0, none⟩)] (Value.int .i64) (fun x => decide ((lo : Int) ≤ x) && decide (x < (hi : Int))) g 0 (xs.map (fun x : Nat => (x : Int))).toArray.size w :=
   fun n os dk x _ => gone_gives lo hi x q1 q2 _
    (by unfold sortWorld; rw [cell?_grow _ _ _ (by show q1 < (putRow _ _ _ _ _).heap.size; rw [size_putRow]; exact hB1), cell?_putRow_other _ _ g _ _ _ (Or.inl k1)]; exact h1)
    (by unfold sortWorld; rw [cell?_grow _ _ _ (by show q2 < (putRow _ _ _ _ _).heap.size; rw [size_putRow]; exact hB2), cell?_putRow_other _ _ g _ _ _ (Or.inl k2)]; exact h2)
  have hc := AnyE.slices_DeleteFunc Tryz.delFn (Value.int .i64) (fun _ => rfl) (fun x => decide ((lo : Int) ≤ x) && decide (x < (hi : Int))) 305 _ eg 0 Tryz.zeroValue3 g 0 cap _ w hp hpo hH (by rw [hsz]; omega) (by rw [hsz]; omega)
  rw [hsz] at hc
  refine hc.mono ?_
  rintro e w' ⟨rfl, q, rfl⟩
  have hf : ((xs.map (fun x : Nat => (x : Int))).toArray.toList.filter fun x => !(decide ((lo : Int) ≤ x) && decide (x < (hi : Int)))) = (outside lo hi xs).map (fun x : Nat => (x : Int)) := by
   unfold outside
   rw [List.filter_map]
   congr 1
   refine List.filter_congr fun x _ => ?_
   simp
  rw [hf, List.length_map]
  have hlo := outside_len lo hi xs
  have ho := row_put hg g3 g2 ((outside lo hi xs).map (fun x : Nat => (x : Int)) ++ List.replicate (xs.length - (outside lo hi xs).length) 0).toArray (by simp; omega) q (outside lo hi xs) (by simp) (by simp)
  refine ⟨_, rfl, ho, by rw [rowOf_cut (some ⟨g, 0, none⟩) _ xs.length cap], ?_⟩
  rw [g4]
  exact putRow_grown w g _ q
end Go.Proofs.YtpopbfagliagnaaGreat
