/- Parts of the proof, one behind the other: Ew, Ex, Wb, Ey, Wf, Wg, Wm, Wh, Wi, Wj, Wk, Wc, Wl, Wp, Wq, Ws, Zd, Jx, Zi, Zj. -/
import Derived.Test.YtfedgcdkagngnaaGreatML9
import Derived.RangeFuncNested
import Derived.RangeFuncBound
import Derived.RangeFuncCalls
import Derived.RangeFuncLeaves
import Derived.RangeFuncBox
import Derived.Shelf.Abstract
import Derived.WalkKit
import Derived.OwnWalkIn
import Derived.TacticsInMore
import Derived.LoopNIn
import Derived.LoopIn
import Derived.Maps.AppendAt
import Derived.Lib.SliceRun
import Derived.Deep.DeepCutAuto
import Derived.Deep.CutBlock
import Derived.Deep.Cut

/- law20: Now: the device as the document's. -/
namespace Go.Proofs.YtfedgcdkagngnaaGreat
open Go.RowKit
set_option linter.unusedVariables false

/-- The device that the words as they are make. -/
def nowD (S : Dev) : Dev := freshDev S.cache S.dirty.length
theorem nowD_fit {S : Dev} (h : S.wf) (N : Nat) : (nowD S).fit N :=
  ⟨⟨rfl, by simp [nowD, freshDev], by simp [nowD, freshDev], by simp [nowD, freshDev, h.lenD], h.small, h.u64C, h.u64C, fun z hz => by simp [nowD, freshDev] at hz; omega⟩, fresh_ok _ _ _, fun h => by cases h⟩
theorem nowD_ref {S : Dev} (h : S.wf) : freshR S.cache S.dirty.length = (nowD S).ref := by
  unfold freshR Dev.ref nowD freshDev
  rw [h.lenD]; rfl

/-- What Now tells. -/
def NowPost (S : Dev) (w : World) : Ending → World → Prop := fun e w' => ∃ v, e = .returned v ∧ RAt w' v S.dirty.length (nowD S).ref ∧ (∀ b, RIn v b → w.heap.size ≤ b) ∧ Below w.heap.size w w'

set_option maxHeartbeats 4000000 in
set_option maxRecDepth 20000 in
theorem wnow_any {w : World} {F : Foot} {S : Dev} (h : DevAt w F S) (x v : Value) (hL : S.cache.length ≤ 8192) :
    Calls Tryz.prog 16 #[.agg #[x, vdev F, v]] w (NowPost S w) := by
  have HMem := Lib.hid (Mem.two w #[x, vdev F, v] 28 zeroD 34)
  have HD0 := Lib.hid (h.below HMem.out.below)
  have HWf := Lib.hid h.wf
  have HP : Hid (∀ v w', RAt w' v S.dirty.length (nowD S).ref → (∀ b, RIn v b → w.heap.size ≤ b) → Below w.heap.size w w' → NowPost S w (.returned v) w') := Lib.hid (fun v w' h1 h2 h3 => ⟨v, rfl, h1, h2, h3⟩)
  generalize NowPost S w = Post at *
  obtain ⟨l, hl⟩ : ∃ l, l = S.cache.length := ⟨_, rfl⟩
  rw [← hl] at hL
  have HL := Lib.hid hl
  clear h hl
  go_enter Tryz.func16, Tryz.ntmps16
  go_upto_region 1 with fail
  rw [show (#[.slice none 0 0, .slice none 0 0, .slice none 0 0, .slice none 0 0, .slice none 0 0, .int .i64 0, .int .i64 0, .bool false] : Array Value) = zeroD from rfl]
  obtain ⟨q, hq⟩ : ∃ q, q = w.heap.size := ⟨_, rfl⟩
  rw [← hq] at HMem ⊢
  have HQ := Lib.hid hq
  generalize (w.alloc _).alloc _ = w0 at *
  clear hq
  go_wp2_with fail
  go_loopw [3, 4] (fun v i wr => ∃ k : Nat, k ≤ l ∧ i = .int .i64 (k : Int) ∧ Hid (wr.ownsRow w0.heap.size 136 1 v k ((S.cache.take k).map vu64)) ∧ Hid (Below w0.heap.size w0 wr)) (fun _ i _ => l - (intOf i).toNat)
  case atStart => exact ⟨0, Nat.zero_le _, rfl, Lib.hid ⟨rfl, .inl ⟨rfl, rfl⟩⟩, Lib.hid (Below.refl _ _)⟩
  case round =>
    obtain ⟨k, hk, rfl, HO, HB⟩ := hrel
    obtain ⟨a1, c1, rfl, hc1, hm1⟩ := owned_form HO.out
    have HM1 := Lib.hid (HMem.out.later HB.out)
    have HD1 := Lib.hid (HD0.out.below HB.out)
    have e1 := HM1.out.cell 0 1 rfl rfl
    by_cases hlt : k < l
    · have hlt' : (k : Int) < (l : Int) := by omega
      have hlt2 : (k : Int) < 8192 := by omega
      have HLn := Lib.hid (dlen_any HD1.out)
      rw [← HL.out] at HLn
      have HGet := Lib.hid (dget_any HD1.out (k : Int))
      rw [peek_in] at HGet
      have HS : Hid ((S.cache.take (k + 1)).map vu64 = (S.cache.take k).map vu64 ++ [vu64 (S.cache.getD k 0)]) := Lib.hid (by
        have : k < S.cache.length := by rw [← HL.out]; exact hlt
        rw [List.take_succ_eq_append_getElem this, List.map_append, List.getD_eq_getElem?_getD, List.getElem?_eq_getElem this]; rfl)
      generalize S.cache.getD k 0 = y at *
      have hone : Hid (∀ u ∈ (#[vu64 y] : Array Value).toList, u.oneCell' = true) := Lib.hid (by intro u hu; simp at hu; subst hu; rfl)
      have hbase : Hid (w0.heap.size ≤ wr.heap.size) := Lib.hid HB.out.size
      have hk9 : k < 1000000000000 := by omega
      go_wp2_with fail
      refine HLn.out.mono ?_
      rintro e w3 ⟨rfl, rfl⟩
      go_wp2_with fail
      refine HGet.out.mono ?_
      rintro e w4 ⟨rfl, rfl⟩
      go_wp2_with (at_builtin; refine wpList_append_new (us := #[vu64 y]) el64 HO.out rfl hone.out hk9 (by decide) hbase.out rfl rfl rfl (by simp [Act.eval]) ?_; intro g6 c6 w6 ho6 hg6 hc6 hm6 hb6 hl6; have HO6 := Lib.hid ho6; have HG6 := Lib.hid hg6; clear ho6 hg6)
      go_roundw
      case rel =>
        refine ⟨k + 1, by omega, vint (by omega), Lib.hid ?_, Lib.hid (below_grownBy HB.out HO.out HG6.out (Nat.le_refl _) (Nat.le_refl _))⟩
        rw [HS.out]
        simpa using HO6.out
      case measure => simp [intOf]; omega
    · obtain rfl : k = l := by omega
      have hlt' : ¬ (k : Int) < (k : Int) := by omega
      have HLn := Lib.hid (dlen_any HD1.out)
      rw [← HL.out] at HLn
      go_wp2_with fail
      refine HLn.out.mono ?_
      rintro e w3 ⟨rfl, rfl⟩
      have HC := Lib.hid (Cells.owned HO.out)
      have hll : S.cache.take k = S.cache := by rw [HL.out, List.take_length]
      rw [hll] at HC
      go_wp2_with fail
      refine (rload_at a1 k c1 S.cache HL.out.symm wr HC.out (by omega) HWf.out.u64C).mono ?_
      rintro e w6 ⟨v6, rfl, hra6, hloc6, hb6⟩
      have h8 := HWf.out.lenD
      have hlo := HL.out
      rw [show (k + 7) / 8 = S.dirty.length by omega, show padTo S.cache (8 * S.dirty.length) = S.cache by unfold padTo; rw [show 8 * S.dirty.length - S.cache.length = 0 by omega]; simp, nowD_ref HWf.out] at hra6
      obtain ⟨an, cn, al, cl, aw, cw, ad, cd, ap, cp, rfl, hex⟩ := hra6.ex
      have HRA := Lib.hid hra6
      have HM6 := Lib.hid (HM1.out.later hb6)
      have HLoc : Hid (∀ b, RIn (.agg #[.slice an S.dirty.length cn, .slice al S.dirty.length cl, .slice aw S.dirty.length cw, .slice ad S.dirty.length cd, .slice ap S.dirty.length cp, .int .i64 (nowD S).ref.steps, .int .i64 (nowD S).ref.fuse, .bool (nowD S).ref.dead]) b → wr.heap.size ≤ b) := Lib.hid (by
        rintro b ⟨cs, hcs, i, x, n, c, hi, rfl⟩
        exact hloc6 cs hcs i x n c hi)
      have HWr := Lib.hid (show q + 2 ≤ wr.heap.size by have := HM1.out.glt 0 rfl; have := HM1.out.glt 1 rfl; omega)
      clear hra6 hloc6 hb6 hex hll h8 hlo
      generalize (nowD S).ref.steps = st at *
      generalize (nowD S).ref.fuse = fz at *
      generalize (nowD S).ref.dead = dd at *
      go_wp2_with (refine wpList_store_mem aggRd HM6.out 1 rfl rfl rfl rfl rfl rfl rfl rfl ?_; intro w8 h8 ht8; have H8 := Lib.hid h8; have HT8 := Lib.hid ht8; clear h8 ht8)
      refine bodyPost_ret (results_cell_row rfl _ _ _ _ _ _ _ rfl (H8.out.exact 1 rfl) Tryz.underlying34 rfl (by kernel_rfl)) rfl ?_
      refine HP.out _ _ (HRA.out.touch HT8.out (.inr (fun b hb hm => ?_))) (fun b hb => ?_) H8.out.below
      · have := HLoc.out b hb
        have := HWr.out
        simp at hm; omega
      · have := HLoc.out b hb
        have := HWr.out
        have := HQ.out
        omega

end Go.Proofs.YtfedgcdkagngnaaGreat

/- law20: a heap of objects that calls leave: plain; in memory. -/
namespace Go.Proofs.YtfedgcdkagngnaaGreat
open Go.RowKit
set_option linter.unusedVariables false

/-- Objects that were made are in use, each once. -/
structure WOk (B : Nat) (m : Al) (xs : List Nat) : Prop where
  ok : AlOk B m
  us : ∀ x ∈ xs, m.used.getD x false = true
  nd : xs.Nodup
section
variable {B : Nat} {m m' : Al} {xs : List Nat}
theorem WOk.begun (hB2 : 2 ≤ B) (hB : B ≤ 100) : WOk B (al0 B) [] := ⟨al0_ok hB2 hB, by simp, List.nodup_nil⟩
theorem WOk.lt (h : WOk B m xs) {x : Nat} (hx : x ∈ xs) : 512 ≤ x ∧ x < 512 * B := by
  have h1 := h.us x hx
  have h2 := getD_true_lt h1
  rw [h.ok.lenU] at h2
  exact ⟨(h.ok.used_kind h1).1, h2⟩
theorem nodup_count {l : List Nat} (h : l.Nodup) (a : Nat) : l.count a ≤ 1 := List.nodup_iff_count.1 h a
theorem WOk.len (h : WOk B m xs) : xs.length ≤ 512 * B := nodup_len _ _ (fun x hx => (h.lt hx).2) (nodup_count h.nd)
theorem WOk.made (h : WOk B m xs) {a : Nat} {p d : Int} (hm : Made B m m' a p d) : WOk B m' (xs ++ [a]) := by
  have ha : m'.used.getD a false = true := by
    have h1 := placed_room hm.placed
    have h2 := h1.pos.2.2
    have h3 := h1.pos.1
    rw [hm.ok.bm.lenL] at h2
    rw [hm.used, getD_set_bool _ _ _ _ (by rw [h.ok.lenU]; omega), if_pos rfl]
  refine ⟨hm.ok, fun x hx => ?_, ?_⟩
  · rcases List.mem_append.1 hx with hx | hx
    · exact (hm.others h.ok (h.us x hx)).1
    · simp at hx; subst hx; exact ha
  · rw [List.nodup_append]
    refine ⟨h.nd, by simp, fun x hx y hy => ?_⟩
    simp at hy; subst hy
    intro e; subst e
    have := h.us x hx
    rw [hm.new] at this; cases this
theorem setPtr_okN {S : Dev} {N : Nat} (h : S.ok N) (a i x : Int) : (S.setPtr a i x).dev.ok (N + 1) := by
  unfold Dev.setPtr
  split
  · exact h.mono (by omega)
  · split
    · exact h.mono (by omega)
    · exact Dev.store_okN h _ _
theorem lead_okN {N : Nat} (h : m.bm.dev.ok N) (i p t : Int) : (m.lead xs i p t).bm.dev.ok (N + 1) := by
  unfold Al.lead
  split
  · exact h.mono (by omega)
  · exact setPtr_okN h _ _ _

/-- What a pointer's change does. -/
theorem lead_is (h : WOk B m xs) (hB : B ≤ 200) (i p t : Int) : m.lead xs i p t = m ∨
    ∃ (x : Nat) (o : Odec) (k : Nat), x = pickN xs i ∧ x ≠ 0 ∧ placedN m.bm.dev m.bm.list (x : Int) = some o ∧ p = (k : Int) ∧ p < o.p ∧ m.lead xs i p t = ⟨⟨m.bm.dev.store ((x + 1 + k : Nat) : Int) (pickN xs t), m.bm.list, m.bm.free⟩, m.used, m.fl⟩ := by
  by_cases c : pickN xs i = 0
  · left; unfold Al.lead; rw [if_pos c]
  · have hu := h.us _ (pickN_mem c)
    obtain ⟨o, ho⟩ := Option.isSome_iff_exists.1 (h.ok.placed _ hu)
    obtain ⟨h1, h2, _⟩ := placed_head ho
    have hc : (headN m.bm.dev ((pickN xs i : Nat) : Int)).code = 0 := by rw [h1]; exact h2
    have hpl : placeN m.bm.dev ((pickN xs i : Nat) : Int) p false = if 0 ≤ p ∧ p < o.p then ⟨((pickN xs i : Nat) : Int) + (1 + p), 0⟩ else ⟨0, 7⟩ := by
      unfold placeN
      rw [if_neg (show ¬ (headN m.bm.dev ((pickN xs i : Nat) : Int)).code ≠ 0 by omega), h1]; rfl
    unfold Al.lead
    rw [if_neg c]
    by_cases hp : 0 ≤ p ∧ p < o.p
    · right
      obtain ⟨k, rfl⟩ := Int.eq_ofNat_of_zero_le hp.1
      refine ⟨_, o, k, rfl, c, ho, rfl, hp.2, ?_⟩
      have e1 : m.bm.dev.setPtr ((pickN xs i : Nat) : Int) (k : Int) ((pickN xs t : Nat) : Int) = ⟨m.bm.dev.store (((pickN xs i : Nat) : Int) + (1 + (k : Int))) ((pickN xs t : Nat) : Int).toNat, m.bm.dev.storeE (((pickN xs i : Nat) : Int) + (1 + (k : Int)))⟩ := by
        unfold Dev.setPtr
        rw [hpl, if_pos hp]
        exact (if_neg (fun h => h rfl)).trans (if_neg (by omega))
      rw [e1]
      dsimp only
      rw [show ((pickN xs i : Nat) : Int) + (1 + (k : Int)) = ((pickN xs i + 1 + k : Nat) : Int) by push_cast; omega, Int.toNat_natCast]
    · left
      have e1 : m.bm.dev.setPtr ((pickN xs i : Nat) : Int) p ((pickN xs t : Nat) : Int) = ⟨m.bm.dev, 7⟩ := by
        unfold Dev.setPtr
        rw [hpl, if_neg hp]
        exact if_pos (fun h => by cases h)
      rw [e1]
theorem placed_size {S : Dev} {L : List Hd} {a : Int} {o : Odec} (h : placedN S L a = some o) : objSize o.p o.d ≠ 0 ∧ 0 ≤ o.p ∧ o.p < 64 ∧ 0 ≤ o.d ∧ o.d ≤ 16384 := by
  obtain ⟨h1, h2, _⟩ := placed_head h
  have := headN_code S a
  rw [h1] at this
  rcases this with this | this
  · have h3 := obj_small this.2.2.2.1
    exact ⟨this.2.2.2.1, h3.1.1, h3.1.2, h3.2⟩
  · rw [this] at h2; cases h2
theorem objSize_is {p d : Int} (h : objSize p d ≠ 0) : (objSize p d : Int) = 1 + p + d := by
  unfold objSize at h ⊢
  split
  · next c => rw [if_pos c] at h; exact absurd rfl h
  · omega
theorem WOk.lead (h : WOk B m xs) (hB : B ≤ 200) (i p t : Int) : WOk B (m.lead xs i p t) xs := by
  rcases lead_is h hB i p t with e | ⟨x, o, k, hx, x0, ho, rfl, hk, e⟩
  · rw [e]; exact h
  · have hu := h.us _ (hx ▸ pickN_mem (by rw [← hx]; exact x0))
    obtain ⟨s1, s2, s3, s4, s5⟩ := placed_size ho
    have hs := objSize_is s1
    have hv : pickN xs t < 18446744073709551616 := by
      by_cases c : pickN xs t = 0
      · omega
      · have := (h.lt (pickN_mem c)).2; omega
    obtain ⟨_, a2, _, _⟩ := h.ok.store hB hu ho (j := x + 1 + k) (v := pickN xs t) (by omega) (by omega) hv
    rw [e]
    exact ⟨a2, h.us, h.nd⟩
end

/-- While a block is free, there is room for a small object. -/
theorem roomy {B : Nat} {m : Al} (h : BmOk B m.bm) {b n : Nat} (h1 : 1 ≤ b) (h2 : b < B) (hk : (m.bm.list.getD b default).k = 0) (hs : small n) : ¬ NoRoom m n := by
  intro hn
  have hp := (hn.cell hs).1
  obtain ⟨s, k, hr, _, _⟩ := has_run (L := m.bm.free.length) (fun x hx => fb_far m.bm.free x hx) ((h.free b).2 ⟨h1, h2, hk⟩)
  have hb := pick_best (n := 1) (runsOf_is m.bm.free).rising
  rw [hp] at hb
  have h3 := hb s k (((runsOf_is m.bm.free).mem s k).2 hr)
  have := hr.1
  omega
theorem roomy0 {B n : Nat} (hB2 : 2 ≤ B) (hB : B ≤ 100) (hs : small n) : ¬ NoRoom (al0 B) n := by
  refine roomy (al0_ok hB2 hB).bm (b := 1) (Nat.le_refl _) (by omega) ?_ hs
  rw [al0_list hB2 hB, List.getD_eq_getElem?_getD, List.getElem?_replicate, if_pos (by omega)]; rfl

/-- Blocks that a call leaves as they are. -/
def Off (Q : List Nat) (w w' : World) : Prop := ∃ L, Touch L w w' ∧ ∀ k ∈ Q, k ∉ L
theorem MemR.off {B : Nat} {W W' : World} {L : List Ent} {Q : List Nat} (h : MemR B W L) (ho : Off Q W W') (hQ : ∀ x ∈ L.map Ent.g, x ∈ Q) : MemR B W' L := by
  obtain ⟨X, h1, h2⟩ := ho
  exact h.apart h1 (fun x hx => h2 _ (hQ _ (List.mem_map_of_mem hx)))

/-- A heap of law20 that a call has made, in memory; Q: other blocks of the call's own. -/
structure Hp (w wr : World) (Q : List Nat) (A : AF) (n B N : Nat) (m : Al) (v : Value) (xs : List Nat) : Prop where
  at_ : WAt wr A n B m v xs
  ok : WOk B m xs
  steps : m.bm.dev.ok N
  new : ∀ k ∈ A.list, w.heap.size ≤ k ∧ k ∉ Q
  newv : ∀ b, rowOf v = some b → w.heap.size ≤ b ∧ b ∉ Q
  qlt : ∀ k ∈ Q, k < wr.heap.size
  below : Below w.heap.size w wr
section
variable {w wr w' : World} {Q : List Nat} {A : AF} {n n' B N N' : Nat} {m m' : Al} {v v' : Value} {xs xs' : List Nat}
theorem Hp.later (h : Hp w wr Q A n B N m v xs) (hb : Below wr.heap.size wr w') : Hp w w' Q A n B N m v xs :=
  ⟨h.at_.below hb, h.ok, h.steps, h.new, h.newv, fun k hk => Nat.lt_of_lt_of_le (h.qlt k hk) hb.size, h.below.trans (hb.mono h.below.size)⟩
theorem Hp.mono (h : Hp w wr Q A n B N m v xs) (hn : n ≤ n') (hN : N ≤ N') : Hp w wr Q A n' B N' m v xs :=
  ⟨h.at_.mono hn, h.ok, h.steps.mono hN, h.new, h.newv, h.qlt, h.below⟩
/-- Steps in the caller's own blocks. -/
theorem Hp.own (h : Hp w wr Q A n B N m v xs) (ht : Touch Q wr w') (hQ : ∀ k ∈ Q, w.heap.size ≤ k) : Hp w w' Q A n B N m v xs :=
  ⟨⟨h.at_.al.keep (fun k hk => ht.block k (h.at_.al.mem k hk) (h.new k hk).2), h.at_.own.keep (fun b hb => ht.block b (h.at_.own.lt b hb) (h.newv b hb).2), h.at_.apart⟩,
    h.ok, h.steps, h.new, h.newv, fun k hk => Nat.lt_of_lt_of_le (h.qlt k hk) ht.size, below_touched h.below ht hQ (Nat.le_refl _)⟩
theorem Hp.go (h : Hp w wr Q A n B N m v xs) (hg : WGo wr w' A n' B m' v' xs') (hok : WOk B m' xs') (hs : m'.bm.dev.ok N') (hv : ∀ b, rowOf v' = some b → rowOf v = some b ∨ wr.heap.size ≤ b) :
    ∃ R, Hp w w' Q (A.re R) n' B N' m' v' xs' ∧ Off Q wr w' := by
  obtain ⟨R, h1, h2, h3⟩ := hg
  have hlt := h.below.size
  refine ⟨R, ⟨h1, hok, hs, fun k hk => ?_, fun b hb => ?_, fun k hk => Nat.lt_of_lt_of_le (h.qlt k hk) h2.size, below_touched h.below h2 (fun k hk => (h.new k (AF.hot_list hk)).1) (Nat.le_refl _)⟩, ⟨A.hot, h2, fun k hk hm => (h.new k (AF.hot_list hm)).2 hk⟩⟩
  · rcases AF.re_list hk with c | c
    · exact h.new k c
    · rcases h3 k c with c | c
      · exact h.new k (by simp [AF.list, c])
      · exact ⟨Nat.le_trans hlt c, fun hq => by have := h.qlt k hq; omega⟩
  · rcases hv b hb with c | c
    · exact h.newv b c
    · exact ⟨Nat.le_trans hlt c, fun hq => by have := h.qlt b hq; omega⟩
theorem Hp.more (h : Hp w wr Q A n B N m v xs) {Q' : List Nat} (hQ : ∀ k ∈ Q', k ∈ Q ∨ (wr.heap.size ≤ k ∧ k < w'.heap.size)) (hb : Below wr.heap.size wr w') : Hp w w' Q' A n B N m v xs := by
  have h' := h.later hb
  refine { h' with new := fun k hk => ⟨(h.new k hk).1, fun hq => ?_⟩, newv := fun b hb' => ⟨(h.newv b hb').1, fun hq => ?_⟩, qlt := fun k hk => ?_ }
  · rcases hQ k hq with c | c
    · exact (h.new k hk).2 c
    · have := h.at_.al.mem k hk; omega
  · rcases hQ b hq with c | c
    · exact (h.newv b hb').2 c
    · have := h.at_.own.lt b hb'; omega
  · rcases hQ k hk with c | c
    · exact h'.qlt k c
    · exact c.2
theorem Hp.less (h : Hp w wr Q A n B N m v xs) {Q' : List Nat} (hQ : ∀ k ∈ Q', k ∈ Q) : Hp w wr Q' A n B N m v xs :=
  { h with new := fun k hk => ⟨(h.new k hk).1, fun hq => (h.new k hk).2 (hQ k hq)⟩, newv := fun b hb => ⟨(h.newv b hb).1, fun hq => (h.newv b hb).2 (hQ b hq)⟩, qlt := fun k hk => h.qlt k (hQ k hk) }
/-- Make, Lead, of such a heap. -/
def HpMade (w wr : World) (Q : List Nat) (A : AF) (n B N : Nat) (m : Al) (v : Value) (xs : List Nat) (p d : Int) : Ending → World → Prop := fun e w' => ∃ (m' : Al) (v' : Value) (xs' R : List Nat),
  e = .returned (.tuple #[vworld A v', .bool true]) ∧ Hp w w' Q (A.re R) (n + 6) B (N + 600000) m' v' xs' ∧ Off Q wr w' ∧ ((∃ a, Made B m m' a p d ∧ xs' = xs ++ [a]) ∨ (m' = m ∧ xs' = xs ∧ v' = v ∧ NoRoom m (objSize p d)))
theorem Hp.make (h : Hp w wr Q A n B N m v xs) (hB2 : 2 ≤ B) (hB : B ≤ 200) (hn : n < 900000000000) (hN : N ≤ 900000000) (p d : Int) :
    Calls Tryz.prog 76 #[vworld A v, .int .i64 p, .int .i64 d] wr (HpMade w wr Q A n B N m v xs (clampI p 8) (clampI d 12)) := by
  have hl := h.ok.len
  refine (wmake_any h.at_ h.ok.ok hB2 hB hn hN h.steps (by omega) p d).mono ?_
  rintro e w' ⟨m', v', xs', rfl, hg, hm, hv, ha⟩
  have hs : m'.bm.dev.ok (N + 600000) := by rw [ha]; exact alloc_okN h.ok.ok.bm.clean.inv h.steps (by rw [h.ok.ok.bm.lenL]; omega) _ _ _
  have hok : WOk B m' xs' := by
    rcases hm with ⟨a, hm, rfl⟩ | ⟨rfl, rfl, _⟩
    · exact h.ok.made hm
    · exact h.ok
  obtain ⟨R, h1, h2⟩ := h.go hg hok hs hv
  exact ⟨m', v', xs', R, rfl, h1, h2, hm⟩
def HpLed (w wr : World) (Q : List Nat) (A : AF) (n B N : Nat) (m : Al) (v : Value) (xs : List Nat) : Ending → World → Prop := fun e w' => ∃ R : List Nat, e = .returned (.tuple #[]) ∧ Hp w w' Q (A.re R) n B (N + 1) m v xs ∧ Off Q wr w'
theorem Hp.lead (h : Hp w wr Q A n B N m v xs) (hB : B ≤ 200) (hN : N ≤ 900000000) (i p t : Int) :
    Calls Tryz.prog 59 #[vworld A v, .int .i64 i, .int .i64 p, .int .i64 t] wr (HpLed w wr Q A n B N (m.lead xs i p t) v xs) := by
  have hl := h.ok.len
  refine (wlead_any h.at_ hN h.steps (by omega) (fun x hx => by have := (h.ok.lt hx).2; omega) i p t).mono ?_
  rintro e w' ⟨rfl, hg⟩
  obtain ⟨R, h1, h2⟩ := h.go hg (h.ok.lead hB i p t) (lead_okN h.steps i p t) (fun b hb => .inl hb)
  exact ⟨R, rfl, h1, h2⟩
end

end Go.Proofs.YtfedgcdkagngnaaGreat

/- bitmap: All, List: a range over a function. -/
namespace Go.Proofs.YtfedgcdkagngnaaGreat
open Go.RowKit Go.Shelf
set_option linter.unusedVariables false

attribute [local go_sem] Oper.semAt_some

theorem nextV_eq (o : Option Nat) : nextV o = .tuple #[.int .i64 ((o.getD 0 : Nat) : Int), .bool o.isSome] := by cases o <;> rfl
/-- How much is left: read off the slots. -/
def leftB (n : Nat) (v b : Value) : Nat := match b with
  | .bool true => n + 1 - (intOf v).toNat
  | _ => 0
end Go.Proofs.YtfedgcdkagngnaaGreat

/- alloc: Used, Objects, Device. -/
namespace Go.Proofs.YtfedgcdkagngnaaGreat
open Go.RowKit
set_option linter.unusedVariables false

set_option maxHeartbeats 400000 in
theorem adev_any {w : World} {A : AF} {n B : Nat} {m : Al} (h : AlAt w A n B m) :
    Calls Tryz.prog 83 #[valloc A] w fun e w' => e = .returned (vdev A.X.F) ∧ w = w' := by
  have c1 := h.c1
  clear h
  go_enter Tryz.func83, Tryz.ntmps83
  go_wp2_with fail
  go_ret
  exact ⟨rfl, rfl⟩
set_option maxHeartbeats 400000 in
theorem aused_any {w : World} {A : AF} {n B : Nat} {m : Al} (h : AlAt w A n B m) (x : Int) :
    Calls Tryz.prog 39 #[valloc A, .int .i64 x] w fun e w' => e = .returned (.bool (hasI m.used x)) ∧ w = w' := by
  have c3 := h.c3
  have HS := Lib.hid h.set
  clear h
  go_enter Tryz.func39, Tryz.ntmps39
  go_wp2_with fail
  refine (shas_any HS.out x).mono ?_
  rintro e w1 ⟨rfl, rfl⟩
  go_wp2_with fail
  go_ret
  exact ⟨rfl, rfl⟩
end Go.Proofs.YtfedgcdkagngnaaGreat

/- mark: a marker in memory. -/
namespace Go.Proofs.YtfedgcdkagngnaaGreat
open Go.RowKit
set_option linter.unusedVariables false

/-- Where a marker lies. -/
structure MkF where
  p : Nat
  X : SetF
  Y : SetF
  s : Nat
  v : Value
def MkF.fix (K : MkF) : List Nat := K.p :: K.s :: (K.X.list ++ K.Y.list)
def MkF.list (K : MkF) : List Nat := K.fix ++ (rowOf K.v).toList
def MkF.re (K : MkF) (v : Value) : MkF := ⟨K.p, K.X, K.Y, K.s, v⟩
def mkV (A : AF) (K : MkF) (M : Mk) : Array Value := #[valloc A, vset K.X, vset K.Y, .pointer (some ⟨K.s, 0, none⟩), .bool M.again, .int .i64 (M.cur : Int)]
abbrev vmark (K : MkF) : Value := .pointer (some ⟨K.p, 0, none⟩)

structure MkAt (w : World) (A : AF) (K : MkF) (M : Mk) : Prop where
  head : w.heap[K.p]? = some (.cells (mkV A K M) 167 (0, 0))
  sx : SetAt w K.X M.ms
  sy : SetAt w K.Y M.sc
  st : StkAt w K.s K.v M.st.reverse M.most M.miss
  nd : K.fix.Nodup
  nv : ∀ b, rowOf K.v = some b → b ∉ K.fix

section
variable {w w' : World} {A : AF} {K : MkF} {M : Mk}
theorem MkAt.mem (h : MkAt w A K M) : ∀ k ∈ K.list, k < w.heap.size := by
  intro k hk
  simp only [MkF.list, MkF.fix, List.mem_append, List.mem_cons, Option.mem_toList] at hk
  rcases hk with (rfl | rfl | hk | hk) | hk
  · exact (Array.getElem?_eq_some_iff.1 h.head).1
  · exact h.st.mem _ (by simp [stkL])
  · exact h.sx.mem k hk
  · exact h.sy.mem k hk
  · exact h.st.own.lt k hk
theorem MkAt.keep (h : MkAt w A K M) (hk : ∀ k ∈ K.list, w'.heap[k]? = w.heap[k]?) : MkAt w' A K M :=
  ⟨(hk K.p (by simp [MkF.list, MkF.fix])).trans h.head, h.sx.keep (fun k h => hk k (by simp [MkF.list, MkF.fix, h])), h.sy.keep (fun k h => hk k (by simp [MkF.list, MkF.fix, h])),
    h.st.keep (fun k h => hk k (by simp only [stkL, List.mem_cons, Option.mem_toList] at h; rcases h with rfl | h <;> simp [MkF.list, MkF.fix, *])), h.nd, h.nv⟩
theorem MkAt.below (h : MkAt w A K M) (hb : Below w.heap.size w w') : MkAt w' A K M := h.keep (fun k hk => hb.block k (h.mem k hk))
theorem MkAt.c0 (h : MkAt w A K M) : w.cell? ⟨K.p, 0, none⟩ = some (valloc A) := cell_of_row _ _ 0 _ _ _ h.head
theorem MkAt.c1 (h : MkAt w A K M) : w.cell? ⟨K.p, 1, none⟩ = some (vset K.X) := cell_of_row _ _ 1 _ _ _ h.head
theorem MkAt.c2 (h : MkAt w A K M) : w.cell? ⟨K.p, 2, none⟩ = some (vset K.Y) := cell_of_row _ _ 2 _ _ _ h.head
theorem MkAt.c3 (h : MkAt w A K M) : w.cell? ⟨K.p, 3, none⟩ = some (.pointer (some ⟨K.s, 0, none⟩)) := cell_of_row _ _ 3 _ _ _ h.head
theorem MkAt.c4 (h : MkAt w A K M) : w.cell? ⟨K.p, 4, none⟩ = some (.bool M.again) := cell_of_row _ _ 4 _ _ _ h.head
theorem MkAt.c5 (h : MkAt w A K M) : w.cell? ⟨K.p, 5, none⟩ = some (.int .i64 (M.cur : Int)) := cell_of_row _ _ 5 _ _ _ h.head
theorem MkAt.row (h : MkAt w A K M) : RowAt w K.p 167 (mkV A K M).toList := ⟨_, h.head, [], by simp⟩

/-- The blocks of a marker, apart. -/
structure MkF.Apart (K : MkF) : Prop where
  ps : K.p ≠ K.s
  px : K.p ∉ K.X.list
  py : K.p ∉ K.Y.list
  sx : K.s ∉ K.X.list
  sy : K.s ∉ K.Y.list
  xy : ∀ a ∈ K.X.list, a ∉ K.Y.list
theorem MkF.apart (h : K.fix.Nodup) : K.Apart := by
  unfold MkF.fix at h
  rw [List.nodup_cons, List.nodup_cons, List.nodup_append] at h
  obtain ⟨h1, h2, _, _, h3⟩ := h
  simp only [List.mem_cons, List.mem_append, not_or] at h1 h2
  exact ⟨h1.1, h1.2.1, h1.2.2, h2.1, h2.2, fun a ha hb => h3 a ha a hb rfl⟩
theorem MkAt.rowX (h : MkAt w A K M) {b : Nat} (hb : rowOf K.v = some b) : b ≠ K.p ∧ b ≠ K.s ∧ b ∉ K.X.list ∧ b ∉ K.Y.list := by
  have := h.nv b hb
  simpa only [MkF.fix, List.mem_cons, List.mem_append, not_or] using this
theorem MkAt.setX (h : MkAt w A K M) {l : List Bool} (hs : SetAt w' K.X l) (ht : Touch K.X.list w w') : MkAt w' A K { M with ms := l } := by
  have ap := MkF.apart h.nd
  refine ⟨(ht.block K.p (h.mem _ (by simp [MkF.list, MkF.fix])) ap.px).trans h.head, hs, h.sy.keep (fun k hk => ht.block k (h.sy.mem k hk) (fun hm => ap.xy k hm hk)), h.st.keep (fun k hk => ht.block k (h.st.mem k hk) (fun hm => ?_)), h.nd, h.nv⟩
  simp only [stkL, List.mem_cons, Option.mem_toList] at hk
  rcases hk with rfl | hk
  · exact ap.sx hm
  · exact (h.rowX hk).2.2.1 hm
theorem MkAt.setY (h : MkAt w A K M) {l : List Bool} (hs : SetAt w' K.Y l) (ht : Touch K.Y.list w w') : MkAt w' A K { M with sc := l } := by
  have ap := MkF.apart h.nd
  refine ⟨(ht.block K.p (h.mem _ (by simp [MkF.list, MkF.fix])) ap.py).trans h.head, h.sx.keep (fun k hk => ht.block k (h.sx.mem k hk) (fun hm => ap.xy k hk hm)), hs, h.st.keep (fun k hk => ht.block k (h.st.mem k hk) (fun hm => ?_)), h.nd, h.nv⟩
  simp only [stkL, List.mem_cons, Option.mem_toList] at hk
  rcases hk with rfl | hk
  · exact ap.sy hm
  · exact (h.rowX hk).2.2.2 hm
/-- What calls leave of a marker. -/
def MkGo (w w' : World) (A : AF) (K : MkF) (M : Mk) : Prop := ∃ v, MkAt w' A (K.re v) M ∧ Touch K.list w w' ∧ ∀ b, rowOf v = some b → rowOf K.v = some b ∨ w.heap.size ≤ b
theorem MkAt.setStk (h : MkAt w A K M) {l : List Nat} {miss : Nat} (hg : StkGo w w' K.s K.v l.reverse M.most miss) : MkGo w w' A K { M with st := l, miss := miss } := by
  have ap := MkF.apart h.nd
  obtain ⟨v, h1, h2, h3⟩ := hg
  have hk : ∀ k, k < w.heap.size → k ≠ K.s → rowOf K.v ≠ some k → w'.heap[k]? = w.heap[k]? := fun k hk h4 h5 => h2.block k hk (by simp only [stkL, List.mem_cons, Option.mem_toList, not_or]; exact ⟨h4, h5⟩)
  refine ⟨v, ⟨(hk K.p (h.mem _ (by simp [MkF.list, MkF.fix])) ap.ps (fun e => (h.rowX e).1 rfl)).trans h.head, h.sx.keep (fun k hx => hk k (h.sx.mem k hx) (fun e => ap.sx (e ▸ hx)) (fun e => (h.rowX e).2.2.1 hx)), h.sy.keep (fun k hx => hk k (h.sy.mem k hx) (fun e => ap.sy (e ▸ hx)) (fun e => (h.rowX e).2.2.2 hx)), h1, h.nd, fun b hb => ?_⟩, h2.wide (fun b hb => ?_), h3⟩
  · intro hm
    rcases h3 b hb with c | c
    · exact h.nv b c hm
    · have := h.mem b (by simp only [MkF.list, List.mem_append]; exact .inl hm); omega
  · simp only [stkL, List.mem_cons, Option.mem_toList] at hb
    rcases hb with rfl | hb <;> simp [MkF.list, MkF.fix, *]
theorem MkAt.setHead (h : MkAt w A K M) (i : Nat) (x : Value) {M' : Mk} (he : (mkV A K M).setIfInBounds i x = mkV A K M') (h1 : M'.ms = M.ms) (h2 : M'.sc = M.sc) (h3 : M'.st = M.st) (h4 : M'.most = M.most) (h5 : M'.miss = M.miss) :
    MkAt (w.setCell ⟨K.p, i, none⟩ x) A K M' ∧ Touch K.list w (w.setCell ⟨K.p, i, none⟩ x) := by
  have ap := MkF.apart h.nd
  have hk : ∀ k, k ≠ K.p → (w.setCell ⟨K.p, i, none⟩ x).heap[k]? = w.heap[k]? := fun k hk => Below.heap_setCell _ _ _ k hk
  refine ⟨⟨?_, by rw [h1]; exact h.sx.keep (fun k hx => hk k (fun e => ap.px (e ▸ hx))), by rw [h2]; exact h.sy.keep (fun k hx => hk k (fun e => ap.py (e ▸ hx))), ?_, h.nd, h.nv⟩, Touch.setCell _ (by simp [MkF.list, MkF.fix]) _⟩
  · rw [heap_setCell_same w K.p i _ _ _ h.head, he]
  · rw [h3, h4, h5]
    refine h.st.keep (fun k hx => hk k (fun e => ?_))
    simp only [stkL, List.mem_cons, Option.mem_toList] at hx
    rcases hx with rfl | hx
    · exact ap.ps e.symm
    · exact (h.rowX hx).1 e
theorem MkF.list_re {v : Value} {k : Nat} (hk : k ∈ (K.re v).list) : k ∈ K.fix ∨ rowOf v = some k := by
  simpa only [MkF.list, MkF.fix, MkF.re, List.mem_append, Option.mem_toList] using hk
theorem MkGo.ofAt (h : MkAt w' A K M) (ht : Touch K.list w w') : MkGo w w' A K M := ⟨K.v, h, ht, fun _ hb => .inl hb⟩
end

/-- An allocator and a marker over it. -/
structure MA (w : World) (A : AF) (n B : Nat) (m : Al) (K : MkF) (M : Mk) : Prop where
  al : AlAt w A n B m
  mr : MkAt w A K M
  ap : ∀ k ∈ A.list, k ∉ K.list
  lm : M.ms.length = m.used.length
  ls : M.sc.length = m.used.length
/-- What calls leave of them. -/
def MAGo (w w' : World) (A : AF) (n B : Nat) (m : Al) (K : MkF) (M : Mk) : Prop := ∃ v, MA w' A n B m (K.re v) M ∧ Touch K.list w w' ∧ ∀ b, rowOf v = some b → rowOf K.v = some b ∨ w.heap.size ≤ b
section
variable {w w0 w1 w' : World} {A : AF} {n B : Nat} {m : Al} {K : MkF} {M M' : Mk}
theorem MA.below (h : MA w A n B m K M) (hb : Below w.heap.size w w') : MA w' A n B m K M := ⟨h.al.below hb, h.mr.below hb, h.ap, h.lm, h.ls⟩
theorem MAGo.refl (h : MA w A n B m K M) : MAGo w w A n B m K M := ⟨K.v, h, Touch.refl _ _, fun _ h => .inl h⟩
/-- Two calls, one behind the other. -/
theorem MAGo.trans {v : Value} (hK : ∀ k ∈ K.list, k < w.heap.size) (ht : Touch K.list w w0) (hv : ∀ b, rowOf v = some b → rowOf K.v = some b ∨ w.heap.size ≤ b) (h : MAGo w0 w1 A n B m (K.re v) M) : MAGo w w1 A n B m K M := by
  obtain ⟨v', h1, h2, h3⟩ := h
  refine ⟨v', h1, ht.own h2 (fun k hk => ?_), fun b hb => ?_⟩
  · rcases MkF.list_re hk with c | c
    · exact .inr (by simp [MkF.list, c])
    · rcases hv k c with c | c
      · exact .inr (by simp [MkF.list, c])
      · exact .inl c
  · rcases h3 b hb with c | c
    · exact hv b c
    · exact .inr (Nat.le_trans ht.size c)
/-- The marker changes. -/
theorem MA.go (h : MA w A n B m K M) (hg : MkGo w w' A K M') (h1 : M'.ms.length = M.ms.length) (h2 : M'.sc.length = M.sc.length) : MAGo w w' A n B m K M' := by
  obtain ⟨v, g1, g2, g3⟩ := hg
  refine ⟨v, ⟨h.al.keep (fun k hk => g2.block k (h.al.mem k hk) (h.ap k hk)), g1, fun k hk hm => ?_, h1.trans h.lm, h2.trans h.ls⟩, g2, g3⟩
  rcases MkF.list_re hm with c | c
  · exact h.ap k hk (by simp [MkF.list, c])
  · rcases g3 k c with c | c
    · exact h.ap k hk (by simp [MkF.list, c])
    · have := h.al.mem k hk; omega
theorem MA.goX (h : MA w A n B m K M) {l : List Bool} (hs : SetAt w' K.X l) (ht : Touch K.X.list w w') (hl : l.length = M.ms.length) : MAGo w w' A n B m K { M with ms := l } :=
  h.go (.ofAt (h.mr.setX hs ht) (ht.wide (fun b hb => by simp [MkF.list, MkF.fix, hb]))) hl rfl
theorem MA.goY (h : MA w A n B m K M) {l : List Bool} (hs : SetAt w' K.Y l) (ht : Touch K.Y.list w w') (hl : l.length = M.sc.length) : MAGo w w' A n B m K { M with sc := l } :=
  h.go (.ofAt (h.mr.setY hs ht) (ht.wide (fun b hb => by simp [MkF.list, MkF.fix, hb]))) rfl hl
end

section
variable {w : World} {A : AF} {K : MkF} {M : Mk}
set_option maxHeartbeats 1000000 in
theorem mcolour_any (h : MkAt w A K M) (a : Nat) : Calls Tryz.prog 37 #[vmark K, .int .i64 (a : Int)] w fun e w' => e = .returned (.int .i64 (M.colour a : Nat)) ∧ w = w' := by
  have c1 := h.c1
  have c2 := h.c2
  have HX := Lib.hid (shas_any h.sx (a : Int))
  have HY := Lib.hid (shas_any h.sy (a : Int))
  rw [hasI_nat] at HX HY
  have HC : Hid (M.colour a = if M.sc.getD a false then 2 else if M.ms.getD a false then 1 else 0) := Lib.hid rfl
  generalize M.colour a = cl at *
  clear h
  cases hs : M.sc.getD a false with
  | true =>
    have HV : Hid (cl = 2) := Lib.hid (by rw [HC.out, hs]; rfl)
    rw [hs] at HY
    clear hs
    go_enter Tryz.func37, Tryz.ntmps37
    go_wp2_with fail
    refine HY.out.mono ?_
    rintro e w1 ⟨rfl, rfl⟩
    go_wp2_with fail
    go_ret
    exact ⟨by rw [HV.out]; rfl, rfl⟩
  | false =>
    cases hm : M.ms.getD a false with
    | true =>
      have HV : Hid (cl = 1) := Lib.hid (by rw [HC.out, hs, hm]; rfl)
      rw [hs] at HY
      rw [hm] at HX
      clear hs hm
      go_enter Tryz.func37, Tryz.ntmps37
      go_wp2_with fail
      refine HY.out.mono ?_
      rintro e w1 ⟨rfl, rfl⟩
      go_wp2_with fail
      refine HX.out.mono ?_
      rintro e w1 ⟨rfl, rfl⟩
      go_wp2_with fail
      go_ret
      exact ⟨by rw [HV.out]; rfl, rfl⟩
    | false =>
      have HV : Hid (cl = 0) := Lib.hid (by rw [HC.out, hs, hm]; rfl)
      rw [hs] at HY
      rw [hm] at HX
      clear hs hm
      go_enter Tryz.func37, Tryz.ntmps37
      go_wp2_with fail
      refine HY.out.mono ?_
      rintro e w1 ⟨rfl, rfl⟩
      go_wp2_with fail
      refine HX.out.mono ?_
      rintro e w1 ⟨rfl, rfl⟩
      go_wp2_with fail
      go_ret
      exact ⟨by rw [HV.out]; rfl, rfl⟩

end

end Go.Proofs.YtfedgcdkagngnaaGreat

/- mark: Shade, scan. -/
namespace Go.Proofs.YtfedgcdkagngnaaGreat
open Go.RowKit
set_option linter.unusedVariables false

theorem fresh_add {U : List Bool} {M : Mk} {a : Nat} (hl : M.ms.length = U.length) (hu : U.getD a false = true) : freshI M.ms (a : Int) = M.fresh U a ∧ addI M.ms (a : Int) = (if M.fresh U a then M.ms.set a true else M.ms) := by
  have h1 : freshI M.ms (a : Int) = M.fresh U a := by
    unfold freshI Mk.fresh
    rw [hasI_nat, hu, decide_eq_true (show (0 : Int) ≤ (a : Int) ∧ (a : Int) < (M.ms.length : Int) by have := getD_true_lt hu; omega)]
  refine ⟨h1, ?_⟩
  unfold addI
  rw [h1, Int.toNat_natCast]

section
variable {w : World} {A : AF} {n B : Nat} {m : Al} {K : MkF} {M : Mk}
def ShadePost (w : World) (A : AF) (n B : Nat) (m : Al) (K : MkF) (M : Mk) (a : Nat) : Ending → World → Prop := fun e w' => e = .returned (.bool (M.fresh m.used a)) ∧ MAGo w w' A n B m K (M.shade m.used a)

set_option maxHeartbeats 2000000 in
set_option maxRecDepth 20000 in
theorem mshade_any (h : MA w A n B m K M) (hw : M.miss ≤ 900000 ∧ M.st.length ≤ 900000) (a : Nat) :
    Calls Tryz.prog 34 #[vmark K, .int .i64 (a : Int)] w (ShadePost w A n B m K M a) := by
  have HP : Hid (∀ b w', b = M.fresh m.used a → MAGo w w' A n B m K (M.shade m.used a) → ShadePost w A n B m K M a (.returned (.bool b)) w') := Lib.hid (fun b w' h1 h2 => by subst h1; exact ⟨rfl, h2⟩)
  generalize ShadePost w A n B m K M a = Post at *
  have HM := Lib.hid h
  have c0 := h.mr.c0
  have c1 := h.mr.c1
  have HU := Lib.hid (aused_any h.al (a : Int))
  rw [hasI_nat] at HU
  have HLm := Lib.hid h.lm
  have HW := Lib.hid hw
  clear h hw
  cases hu : m.used.getD a false with
  | false =>
    have HF : Hid (M.fresh m.used a = false ∧ M.shade m.used a = M) := Lib.hid (by
      have : M.fresh m.used a = false := by unfold Mk.fresh; rw [hu]; rfl
      exact ⟨this, by unfold Mk.shade; rw [this]; rfl⟩)
    rw [hu] at HU
    clear hu
    go_enter Tryz.func34, Tryz.ntmps34
    go_wp2_with fail
    refine HU.out.mono ?_
    rintro e w1 ⟨rfl, rfl⟩
    go_wp2_with fail
    exact HP.out _ _ HF.out.1.symm (by rw [HF.out.2]; exact MAGo.refl HM.out)
  | true =>
    obtain ⟨hf1, hf2⟩ := fresh_add HLm.out hu
    have HF1 := Lib.hid hf1
    have HF2 := Lib.hid hf2
    have HSh : Hid (M.shade m.used a = if M.fresh m.used a then (M.mark a).push a else M) := Lib.hid rfl
    rw [hu] at HU
    clear hu hf1 hf2
    generalize hfr : M.fresh m.used a = fr at *
    clear hfr
    go_enter Tryz.func34, Tryz.ntmps34
    go_wp2_with fail
    refine HU.out.mono ?_
    rintro e w1 ⟨rfl, rfl⟩
    go_wp2_with fail
    refine (sadd_any HM.out.mr.sx (a : Int)).mono ?_
    rintro e w1 ⟨rfl, hs1, ht1⟩
    rw [HF1.out]
    rw [HF2.out] at hs1
    cases fr with
    | false =>
      have HG : Hid (MAGo w w1 A n B m K (M.shade m.used a)) := Lib.hid (by rw [HSh.out]; exact HM.out.goX hs1 ht1 rfl)
      clear hs1 ht1
      go_wp2_with fail
      exact HP.out _ _ rfl HG.out
    | true =>
      have HSp : Hid (M.shade m.used a = (M.mark a).push a) := Lib.hid (by rw [HSh.out]; simp)
      clear HSh
      have hg1 : MAGo w w1 A n B m K (M.mark a) := HM.out.goX hs1 ht1 (by simp)
      obtain ⟨v1, hm1, ht1', hv1⟩ := hg1
      have HM1 := Lib.hid hm1
      have HT1 := Lib.hid ht1'
      have HV1 := Lib.hid hv1
      have c3 := hm1.mr.c3
      have HPu := Lib.hid (stkpush_any hm1.mr.st (x := a) (by exact Nat.le_trans HW.out.1 (by omega)) (by rw [List.length_reverse]; exact Nat.le_trans HW.out.2 (by omega)))
      have HKl := Lib.hid HM.out.mr.mem
      clear hs1 ht1 hm1 ht1' hv1
      change w1.cell? ⟨K.p, 3, none⟩ = some (.pointer (some ⟨K.s, 0, none⟩)) at c3
      change Hid (Calls Tryz.prog 103 #[.pointer (some ⟨K.s, 0, none⟩), .int .i64 (a : Int)] w1 _) at HPu
      rw [show (M.mark a).st = M.st from rfl, show (M.mark a).most = M.most from rfl, show (M.mark a).miss = M.miss from rfl, List.length_reverse] at HPu
      go_wp2_with fail
      refine HPu.out.mono ?_
      rintro e w2 ⟨rfl, hp2⟩
      by_cases hlt : M.st.length < M.most
      · rw [if_pos hlt] at hp2
        rw [decide_eq_true hlt]
        have HG : Hid (MAGo w w2 A n B m K (M.shade m.used a)) := Lib.hid (by
          rw [HSp.out]
          refine MAGo.trans HKl.out HT1.out HV1.out (HM1.out.go ?_ ?_ ?_)
          · have := HM1.out.mr.setStk (l := a :: M.st) (miss := M.miss) (by rw [List.reverse_cons]; exact hp2)
            unfold Mk.push
            rw [if_pos (show (M.mark a).st.length < (M.mark a).most from hlt)]
            exact this
          · rw [Mk.push_mk]
          · rw [Mk.push_sc])
        clear hp2 hlt c0 c1 c3
        go_wp2_with fail
        exact HP.out _ _ rfl HG.out
      · rw [if_neg hlt] at hp2
        rw [decide_eq_false hlt]
        have hg2 : MAGo w w2 A n B m K { M.mark a with miss := M.miss + 1 } := MAGo.trans HKl.out HT1.out HV1.out (HM1.out.go (HM1.out.mr.setStk (l := M.st) (miss := M.miss + 1) hp2) rfl rfl)
        obtain ⟨v2, hm2, ht2, hv2⟩ := hg2
        have HM2 := Lib.hid hm2
        have HT2 := Lib.hid ht2
        have HV2 := Lib.hid hv2
        have c4 := hm2.mr.c4
        have f4 := hm2.mr.row.frozen 4
        change w2.cell? ⟨K.p, 4, none⟩ = _ at c4
        change w2.frozen? ⟨K.p, 4, none⟩ = _ at f4
        have HSe : Hid (M.shade m.used a = { M.mark a with miss := M.miss + 1, again := true }) := Lib.hid (by rw [HSp.out]; unfold Mk.push; rw [if_neg (show ¬ (M.mark a).st.length < (M.mark a).most from hlt)]; rfl)
        clear hp2 hm2 ht2 hv2 c0 c1 c3 hlt
        go_wp2_with fail
        refine HP.out _ _ rfl ?_
        obtain ⟨h1, h2⟩ := HM2.out.mr.setHead 4 (.bool true) (M' := { M.mark a with miss := M.miss + 1, again := true }) rfl rfl rfl rfl rfl rfl
        rw [HSe.out]
        exact MAGo.trans HKl.out HT2.out HV2.out (HM2.out.go (.ofAt h1 h2) rfl rfl)
end

end Go.Proofs.YtfedgcdkagngnaaGreat

/- Plain: what steps of a marker do; how many there are; what is black at last. -/
namespace Go.Proofs.YtfedgcdkagngnaaGreat
set_option linter.unusedVariables false

section
variable {U : List Bool} {P : Nat → List Nat} {M : Mk}

/-- How many have no room on the stack, and how many have: bounds. -/
structure Mk.Fits (M : Mk) (c : Nat) : Prop where
  st : M.st.length ≤ M.most
  miss : M.miss ≤ c
theorem Mk.Fits.new (n most : Nat) : (Mk.new n most).Fits 0 := ⟨Nat.zero_le _, Nat.le_refl _⟩
theorem Mk.Fits.mono {c d : Nat} (h : M.Fits c) (hd : c ≤ d) : M.Fits d := ⟨h.st, Nat.le_trans h.miss hd⟩
theorem Mk.Fits.push {c : Nat} (h : M.Fits c) (a : Nat) : (M.push a).Fits (c + 1) := by
  unfold Mk.push
  split
  · next hc => exact ⟨hc, Nat.le_succ_of_le h.miss⟩
  · exact ⟨h.st, Nat.succ_le_succ h.miss⟩
theorem Mk.Fits.shade {c : Nat} (h : M.Fits c) (a : Nat) : (M.shade U a).Fits (c + 1) := by
  unfold Mk.shade
  split
  · exact Mk.Fits.push (M := M.mark a) ⟨h.st, h.miss⟩ a
  · exact h.mono (Nat.le_succ _)
theorem Mk.Fits.shades {c : Nat} : ∀ {l : List Nat} {M : Mk}, M.Fits c → (M.shades U l).Fits (c + l.length)
  | [], _, h => h
  | a :: l, M, h => by
    rw [Mk.shades_cons]
    have := (h.shade (U := U) a).shades (l := l) (c := c + 1)
    rw [List.length_cons]
    exact this.mono (by omega)
theorem Mk.Fits.scan {c k : Nat} (h : M.Fits c) (a : Nat) (hk : (P a).length ≤ k) : (M.scan U P a).Fits (c + k) :=
  ((show ({ M with sc := M.sc.set a true } : Mk).Fits c from ⟨h.st, h.miss⟩).shades).mono (by omega)
theorem Mk.top_len {M : Mk} : ∀ {l : List Nat} {x : Nat} {r : List Nat}, M.top l = some (x, r) → r.length < l.length := by
  intro l x r h
  obtain ⟨_, p, rfl, _⟩ := Mk.top_some h
  simp
  omega
theorem Mk.Fits.step {c k : Nat} (h : M.Fits c) (hk : ∀ a, (P a).length ≤ k) : (M.step U P).2.Fits (c + k) := by
  unfold Mk.step
  cases ht : M.top M.st with
  | some q =>
    obtain ⟨x, r⟩ := q
    have hl := Mk.top_len ht
    exact Mk.Fits.scan (M := { M with st := r }) ⟨Nat.le_trans (Nat.le_of_lt hl) h.st, h.miss⟩ x (hk x)
  | none =>
    cases hg : M.grey with
    | some x => exact Mk.Fits.scan (M := { M with st := [], cur := x + 1 }) ⟨Nat.zero_le _, h.miss⟩ x (hk x)
    | none =>
      dsimp only
      split
      · exact ⟨Nat.zero_le _, Nat.le_trans h.miss (Nat.le_add_right _ _)⟩
      · exact ⟨Nat.zero_le _, Nat.le_trans h.miss (Nat.le_add_right _ _)⟩

/-- Where a grey object is still to be found. -/
def Mk.Cover (M : Mk) : Prop := ∀ x, M.colour x = 1 → x ∈ M.st ∨ M.again = true ∨ M.cur ≤ x
theorem Mk.shade_white {U : List Bool} {M : Mk} (a x : Nat) (h : MkOk U M) : (M.shade U a).colour x = 1 → M.colour x = 1 ∨ (x = a ∧ M.fresh U a = true) := by
  intro hc
  rw [Mk.colour_grey] at hc
  rw [h.shade_mk, Mk.shade_sc] at hc
  by_cases c : M.colour x = 1
  · exact .inl c
  · right
    rw [Mk.colour_grey] at c
    obtain ⟨h1, h2⟩ := hc
    simp only [Bool.or_eq_true, Bool.and_eq_true, decide_eq_true_eq] at h1
    rcases h1 with h1 | ⟨rfl, h1⟩
    · exact absurd ⟨h1, h2⟩ c
    · refine ⟨rfl, ?_⟩
      unfold Mk.fresh
      rw [h1]
      cases hm : M.ms.getD x false with
      | true => exact absurd ⟨hm, h2⟩ c
      | false => rfl
theorem Mk.Cover.shade (hok : MkOk U M) (h : M.Cover) (a : Nat) : (M.shade U a).Cover := by
  intro x hx
  have hb := Mk.shade_white a x hok hx
  by_cases hf : M.fresh U a = true
  · unfold Mk.shade
    rw [if_pos hf]
    unfold Mk.push
    by_cases hr : (M.mark a).st.length < (M.mark a).most
    · rw [if_pos hr]
      rcases hb with hb | ⟨rfl, _⟩
      · rcases h x hb with h | h | h
        · exact .inl (List.mem_cons_of_mem _ h)
        · exact .inr (.inl h)
        · exact .inr (.inr h)
      · exact .inl List.mem_cons_self
    · rw [if_neg hr]
      exact .inr (.inl rfl)
  · unfold Mk.shade
    rw [if_neg hf]
    rcases hb with hb | ⟨_, hb⟩
    · exact h x hb
    · exact absurd hb hf
theorem Mk.Cover.shades : ∀ {l : List Nat} {M : Mk}, MkOk U M → M.Cover → (M.shades U l).Cover
  | [], _, _, h => h
  | a :: l, M, hok, h => by
    rw [Mk.shades_cons]
    exact (Mk.Cover.shade hok h a).shades (hok.shade a)
theorem Mk.Cover.new (n most : Nat) : (Mk.new n most).Cover := by
  intro x hx
  rw [Mk.colour_grey] at hx
  have : (Mk.new n most).ms.getD x false = false := by
    simp only [Mk.new, List.getD_eq_getElem?_getD, List.getElem?_replicate]; split <;> rfl
  rw [this] at hx
  cases hx.1
theorem set_getD_mono {l : List Bool} {a i : Nat} (h : l.getD i false = true) : (l.set a true).getD i false = true := by
  by_cases ha : a < l.length
  · rw [getD_set_bool _ _ _ _ ha]; split
    · rfl
    · exact h
  · rw [List.set_eq_of_length_le (by omega)]; exact h
theorem set_getD_other {l : List Bool} {a i : Nat} (b : Bool) (h : i ≠ a) : (l.set a b).getD i false = l.getD i false := by
  by_cases ha : a < l.length
  · rw [getD_set_bool _ _ _ _ ha, if_neg h]
  · rw [List.set_eq_of_length_le (by omega)]
/-- What a step does. -/
inductive Stepped (U : List Bool) (P : Nat → List Nat) (M : Mk) : Bool → Mk → Prop
  | scan (x : Nat) (M0 : Mk) (hg : M.colour x = 1) (h1 : M0.ms = M.ms) (h2 : M0.sc = M.sc) (h3 : M0.again = M.again) (h4 : M0.most = M.most) (hc : ({ M0 with sc := M0.sc.set x true } : Mk).Cover) : Stepped U P M true (M0.scan U P x)
  | anew (M' : Mk) (ha : M.again = true) (h1 : M'.ms = M.ms) (h2 : M'.sc = M.sc) (h3 : M'.again = false) (h4 : M'.most = M.most) (hc : M'.Cover) : Stepped U P M true M'
  | done (M' : Mk) (hg : ∀ x, M.colour x ≠ 1) (h1 : M'.ms = M.ms) (h2 : M'.sc = M.sc) (h3 : M'.again = false) (h3' : M.again = false) (h4 : M'.most = M.most) (hc : M'.Cover) : Stepped U P M false M'
theorem Mk.colour_eq {M M' : Mk} (h1 : M'.ms = M.ms) (h2 : M'.sc = M.sc) (x : Nat) : M'.colour x = M.colour x := by unfold Mk.colour; rw [h1, h2]
theorem Mk.black_colour {M : Mk} {a x : Nat} (ha : a < M.sc.length) (h : ({ M with sc := M.sc.set a true } : Mk).colour x = 1) : x ≠ a ∧ M.colour x = 1 := by
  rw [Mk.colour_grey] at h
  dsimp only at h
  by_cases e : x = a
  · subst e
    rw [getD_set_bool _ _ _ _ ha, if_pos rfl] at h
    cases h.2
  · rw [set_getD_other _ e] at h
    exact ⟨e, (M.colour_grey x).2 h⟩
theorem Mk.stepped (h : MkOk U M) (hc : M.Cover) : Stepped U P M (M.step U P).1 (M.step U P).2 := by
  have hin : ∀ x, M.colour x = 1 → x < M.sc.length := fun x hx => by
    have := getD_true_lt ((M.colour_grey x).1 hx).1
    rw [h.ls, ← h.lm]; exact this
  unfold Mk.step
  cases ht : M.top M.st with
  | some q =>
    obtain ⟨x, r⟩ := q
    obtain ⟨hg, p, hs, hp⟩ := Mk.top_some ht
    refine .scan x { M with st := r } hg rfl rfl rfl rfl (fun y hy => ?_)
    obtain ⟨hn, hy1⟩ := Mk.black_colour (M := { M with st := r }) (hin x hg) hy
    have hy1 : M.colour y = 1 := hy1
    rcases hc y hy1 with c | c
    · rw [hs] at c
      rcases List.mem_append.1 c with c | c
      · exact absurd hy1 (hp y c)
      · rcases List.mem_cons.1 c with c | c
        · exact absurd c hn
        · exact .inl c
    · exact .inr c
  | none =>
    have hnt := Mk.top_none ht
    cases hg : M.grey with
    | some x =>
      obtain ⟨g1, g2, g3⟩ := Mk.grey_some hg
      refine .scan x { M with st := [], cur := x + 1 } g2 rfl rfl rfl rfl (fun y hy => ?_)
      obtain ⟨hn, hy1⟩ := Mk.black_colour (M := { M with st := [], cur := x + 1 }) (hin x g2) hy
      have hy1 : M.colour y = 1 := hy1
      rcases hc y hy1 with c | c | c
      · exact absurd hy1 (hnt y c)
      · exact .inr (.inl c)
      · right; right
        show x + 1 ≤ y
        by_cases hlt : y < x
        · exact absurd hy1 (g3 y c hlt)
        · omega
    | none =>
      have hng := Mk.grey_none hg
      dsimp only
      split
      · next ha => exact .anew _ ha rfl rfl rfl rfl (fun y _ => .inr (.inr (Nat.zero_le _)))
      · next ha =>
        have ha : M.again = false := by simpa using ha
        have hno : ∀ x, M.colour x ≠ 1 := fun x hx => by
          rcases hc x hx with c | c | c
          · exact hnt x c hx
          · rw [ha] at c; cases c
          · exact hng x c hx
        exact .done _ hno rfl rfl ha ha rfl (fun y hy => absurd hy (hno y))
theorem MkOk.same {M M' : Mk} (h : MkOk U M) (h1 : M'.ms = M.ms) (h2 : M'.sc = M.sc) : MkOk U M' := ⟨by rw [h1]; exact h.lm, by rw [h2]; exact h.ls, by rw [h1]; exact h.mu, by rw [h1, h2]; exact h.sm⟩
theorem Mk.shades_most2 (U : List Bool) : ∀ (l : List Nat) (M : Mk), (M.shades U l).most = M.most
  | [], _ => rfl
  | a :: l, M => by rw [Mk.shades_cons, Mk.shades_most2 U l, Mk.shade_most]
section
variable {b : Bool} {M' : Mk}
theorem Stepped.most (hs : Stepped U P M b M') : M'.most = M.most := by
  cases hs with
  | scan x M0 hg h1 h2 h3 h4 hc =>
    unfold Mk.scan
    rw [Mk.shades_most2]; exact h4
  | anew _ ha h1 h2 h3 h4 hc => exact h4
  | done _ hg h1 h2 h3 h3' h4 hc => exact h4
theorem Stepped.ok (h : MkOk U M) (hs : Stepped U P M b M') : MkOk U M' := by
  cases hs with
  | scan x M0 hg h1 h2 h3 h4 hc =>
    have := h.same h1 h2
    exact this.scan (by rw [h1]; exact ((M.colour_grey x).1 hg).1)
  | anew _ ha h1 h2 h3 h4 hc => exact h.same h1 h2
  | done _ hg h1 h2 h3 h3' h4 hc => exact h.same h1 h2
theorem Stepped.cover (h : MkOk U M) (hs : Stepped U P M b M') : M'.Cover := by
  cases hs with
  | scan x M0 hg h1 h2 h3 h4 hc =>
    have := h.same h1 h2
    exact hc.shades (this.black (by rw [h1]; exact ((M.colour_grey x).1 hg).1))
  | anew _ ha h1 h2 h3 h4 hc => exact hc
  | done _ hg h1 h2 h3 h3' h4 hc => exact hc
/-- In each step one object at most is black anew. -/
theorem Stepped.black (h : MkOk U M) (hs : Stepped U P M b M') : ∃ x0, (b = true → True) ∧ (∀ x, M'.sc.getD x false = true → M.sc.getD x false = true ∨ (x = x0 ∧ b = true ∧ M.colour x = 1 ∧ ∀ y ∈ P x, U.getD y false = true → M'.ms.getD y false = true)) ∧ (∀ x, M.sc.getD x false = true → M'.sc.getD x false = true) ∧ (∀ x, M.ms.getD x false = true → M'.ms.getD x false = true) ∧ (b = false → M'.ms = M.ms ∧ M'.sc = M.sc) := by
  cases hs with
  | scan x M0 hg h1 h2 h3 h4 hc =>
    have h0 := h.same h1 h2
    have hx : M0.ms.getD x false = true := by rw [h1]; exact ((M.colour_grey x).1 hg).1
    refine ⟨x, fun _ => trivial, fun y hy => ?_, fun y hy => ?_, fun y hy => ?_, fun e => by cases e⟩
    · rw [h0.scan_sc hx, h2] at hy
      by_cases e : y = x
      · right
        subst e
        refine ⟨rfl, rfl, hg, fun z hz hu => ?_⟩
        rw [h0.scan_mk hx, hu, List.contains_iff_mem.2 hz]; simp
      · rw [if_neg e] at hy; exact .inl hy
    · rw [h0.scan_sc hx, h2]; split
      · rfl
      · exact hy
    · rw [h0.scan_mk hx, h1, hy]; rfl
  | anew _ ha h1 h2 h3 h4 hc => exact ⟨0, fun _ => trivial, fun x hx => .inl (by rw [h2] at hx; exact hx), fun x hx => by rw [h2]; exact hx, fun x hx => by rw [h1]; exact hx, fun _ => ⟨h1, h2⟩⟩
  | done _ hg h1 h2 h3 h3' h4 hc => exact ⟨0, fun _ => trivial, fun x hx => .inl (by rw [h2] at hx; exact hx), fun x hx => by rw [h2]; exact hx, fun x hx => by rw [h1]; exact hx, fun _ => ⟨h1, h2⟩⟩
/-- How many steps there may still be. -/
def Mk.left (n : Nat) (M : Mk) : Nat := 2 * (n - M.sc.count true) + (if M.again then 1 else 0)
theorem Stepped.left {n : Nat} (hn : ∀ M' : Mk, MkOk U M' → M'.sc.count true ≤ n) (h : MkOk U M) (hs : Stepped U P M true M') : M'.left n < M.left n := by
  have hk := hn _ (Stepped.ok h hs)
  generalize hb : true = b at hs
  cases hs with
  | scan x M0 hg h1 h2 h3 h4 hc =>
    have hx := (M.colour_grey x).1 hg
    have hl : x < M.sc.length := by rw [h.ls, ← h.lm]; exact getD_true_lt hx.1
    have e : (M0.scan U P x).sc = M.sc.set x true := by
      unfold Mk.scan
      rw [Mk.shades_sc]
      dsimp only
      rw [h2]
    have hcnt : (M0.scan U P x).sc.count true = M.sc.count true + 1 := by rw [e]; exact count_set_true hl hx.2
    unfold Mk.left
    rw [hcnt] at hk ⊢
    split <;> split <;> omega
  | anew _ ha h1 h2 h3 h4 hc =>
    unfold Mk.left
    rw [h2, h3, ha]
    simp
  | done => cases hb
theorem Stepped.ended (hs : Stepped U P M false M') : ∀ x, M'.colour x ≠ 1 := by
  generalize hb : false = b at hs
  cases hs with
  | scan => cases hb
  | anew => cases hb
  | done _ hg h1 h2 h3 h3' h4 hc => intro x; rw [Mk.colour_eq h1 h2]; exact hg x
end
/-- Behind its end a step does nothing. -/
theorem Mk.step_end (h : MkOk U M) (hc : M.Cover) (hg : ∀ x, M.colour x ≠ 1) (ha : M.again = false) : (M.step U P).1 = false := by
  have hs := Mk.stepped (P := P) h hc
  generalize M.step U P = q at *
  obtain ⟨b, M'⟩ := q
  cases hs with
  | scan x M0 hx => exact absurd hx (hg x)
  | anew _ h' => rw [ha] at h'; cases h'
  | done => rfl

/-- What is black leads to nothing white. -/
def Mk.Barred (U : List Bool) (P : Nat → List Nat) (G : List Nat) (M : Mk) : Prop := ∀ x, M.sc.getD x false = true → x ∉ G → ∀ y ∈ P x, U.getD y false = true → M.ms.getD y false = true
theorem Mk.Barred.shade {G : List Nat} (h : MkOk U M) (hb : M.Barred U P G) (a : Nat) : (M.shade U a).Barred U P G := by
  intro x hx hG y hy hu
  rw [Mk.shade_sc] at hx
  rw [h.shade_mk, hb x hx hG y hy hu]; rfl
theorem Mk.new_sc (n most x : Nat) : (Mk.new n most).sc.getD x false = false := by
  simp only [Mk.new, List.getD_eq_getElem?_getD, List.getElem?_replicate]; split <;> rfl
theorem Mk.new_ms (n most x : Nat) : (Mk.new n most).ms.getD x false = false := by
  simp only [Mk.new, List.getD_eq_getElem?_getD, List.getElem?_replicate]; split <;> rfl

theorem Mk.ended_same (h : MkOk U M) (hg : ∀ x, M.colour x ≠ 1) : M.ms = M.sc := by
  refine List.ext_getElem? fun i => ?_
  by_cases hi : i < U.length
  · have h1 : M.ms.getD i false = M.sc.getD i false := by
      cases hc : M.sc.getD i false with
      | true => exact h.sm i hc
      | false => cases hm : M.ms.getD i false with
        | false => rfl
        | true => exact absurd ((M.colour_grey i).2 ⟨hm, hc⟩) (hg i)
    rw [List.getD_eq_getElem?_getD, List.getD_eq_getElem?_getD, List.getElem?_eq_getElem (by rw [h.lm]; exact hi), List.getElem?_eq_getElem (by rw [h.ls]; exact hi)] at h1
    rw [List.getElem?_eq_getElem (by rw [h.lm]; exact hi), List.getElem?_eq_getElem (by rw [h.ls]; exact hi)]
    simpa using h1
  · rw [List.getElem?_eq_none (by rw [h.lm]; omega), List.getElem?_eq_none (by rw [h.ls]; omega)]

/-- How many of a list have what a row of bits has. -/
theorem count_in {l : List Bool} {xs : List Nat} (hn : xs.Nodup) (h : ∀ x, l.getD x false = true → x ∈ xs) : l.count true = (xs.filter (fun x => l.getD x false)).length := by
  rw [← onesL_length]
  refine List.Perm.length_eq ?_
  refine (List.perm_ext_iff_of_nodup ?_ (hn.filter _)).2 (fun x => ?_)
  · exact (List.nodup_range).filter _
  · rw [mem_onesL, List.mem_filter]
    exact ⟨fun hx => ⟨h x hx, hx⟩, fun hx => hx.2⟩
theorem count_in_le {l : List Bool} {xs : List Nat} (hn : xs.Nodup) (h : ∀ x, l.getD x false = true → x ∈ xs) : l.count true ≤ xs.length := by
  rw [count_in hn h]; exact List.length_filter_le _ _
end

end Go.Proofs.YtfedgcdkagngnaaGreat

/- mark: scan, grey. -/
namespace Go.Proofs.YtfedgcdkagngnaaGreat
open Go.RowKit
set_option linter.unusedVariables false

theorem Cells.touchL {w w' : World} {a : Option Addr} {vs : List Value} {L : List Nat} (h : Cells w a vs) (ht : Touch L w w') (hne : ∀ x, a = some x → x.block < w.heap.size → x.block ∉ L) : Cells w' a vs := by
  rcases h with h | ⟨b, off, rfl, h⟩
  · exact .inl h
  · exact .inr ⟨b, off, rfl, fun i v hi => cell_of_touch ht (show (⟨b, off + i, none⟩ : Addr).block ∉ L from hne ⟨b, off, none⟩ rfl (show b < w.heap.size from World.block_lt_of_cell? w ⟨b, off + i, none⟩ (h i v hi))) (h i v hi)⟩

/-- Where an object's pointers lead; nowhere, if there is none. -/
def ptrsD (S : Dev) (a : Int) : List Nat := if (headN S a).code = 0 then ptrL S a (headN S a).p.toNat else []
def ptrsO (m : Al) (a : Nat) : List Nat := ptrsD m.bm.dev (a : Int)
theorem PtrsPost.out {S : Dev} {a : Int} {w w' : World} {e : Ending} (h : PtrsPost S a w e w') : ∃ av cp ec, e = .returned (.tuple #[.slice av (ptrsD S a).length cp, .int .i64 ec]) ∧ ec = (headN S a).code ∧ Cells w' av ((ptrsD S a).map vi) ∧ (∀ x, av = some x → w.heap.size ≤ x.block) ∧ Below w.heap.size w w' := by
  obtain ⟨hb, h⟩ := h
  rcases h with ⟨h0, v, rfl, ho⟩ | ⟨h0, rfl⟩
  · have e0 : ptrsD S a = ptrL S a (headN S a).p.toNat := by unfold ptrsD; rw [if_pos h0]
    obtain ⟨av, cp, rfl, _, _⟩ := owned_form ho
    rw [e0, ptrL_length]
    exact ⟨av, cp, _, rfl, h0.symm, Cells.owned ho, owned_addr ho, hb⟩
  · have e0 : ptrsD S a = [] := by unfold ptrsD; rw [if_neg (by rw [h0]; decide)]
    rw [e0]
    exact ⟨none, 0, _, rfl, h0.symm, Cells.nil _ _, fun x hx => (by cases hx), hb⟩
theorem ptrsD_len {S : Dev} (hs : S.cache.length ≤ 1000000) (a : Int) : (ptrsD S a).length ≤ 64 := by
  unfold ptrsD
  split
  · next h =>
    rw [ptrL_length]
    have := head_small hs (a := a) h
    omega
  · simp
theorem ptrsD_le (S : Dev) (a : Int) : ∀ x ∈ ptrsD S a, x ≤ 1099511627776 := by
  intro x hx
  unfold ptrsD at hx
  split at hx
  · unfold ptrL at hx
    obtain ⟨i, _, rfl⟩ := List.mem_map.1 hx
    exact capP_le _
  · simp at hx
theorem addI_set (l : List Bool) (a : Nat) : addI l (a : Int) = l.set a true := by
  unfold addI
  by_cases h : freshI l (a : Int) = true
  · rw [if_pos h, Int.toNat_natCast]
  · rw [if_neg h]
    symm
    by_cases hl : a < l.length
    · have hg : l.getD a false = true := by
        unfold freshI at h
        rw [decide_eq_true (show (0 : Int) ≤ (a : Int) ∧ (a : Int) < (l.length : Int) by omega), hasI_nat] at h
        simpa using h
      rw [List.getD_eq_getElem?_getD, List.getElem?_eq_getElem hl] at hg
      refine List.ext_getElem? fun i => ?_
      by_cases e : a = i
      · subst e
        rw [List.getElem?_set_self hl, List.getElem?_eq_getElem hl]
        simpa using hg.symm
      · rw [List.getElem?_set_ne e]
    · exact List.set_eq_of_length_le (by omega)
theorem Mk.shade_small {U : List Bool} {M : Mk} {c d : Nat} (h : M.miss ≤ c ∧ M.st.length ≤ d) (a : Nat) : (M.shade U a).miss ≤ c + 1 ∧ (M.shade U a).st.length ≤ d + 1 := by
  unfold Mk.shade
  split
  · unfold Mk.push
    split
    · exact ⟨Nat.le_succ_of_le h.1, Nat.succ_le_succ h.2⟩
    · exact ⟨Nat.succ_le_succ h.1, Nat.le_succ_of_le h.2⟩
  · exact ⟨Nat.le_succ_of_le h.1, Nat.le_succ_of_le h.2⟩
theorem Mk.shades_small {U : List Bool} : ∀ {l : List Nat} {M : Mk} {c d : Nat} (_ : M.miss ≤ c ∧ M.st.length ≤ d), (M.shades U l).miss ≤ c + l.length ∧ (M.shades U l).st.length ≤ d + l.length
  | [], _, _, _, h => h
  | a :: l, M, c, d, h => by
    rw [Mk.shades_cons]
    have := Mk.shades_small (U := U) (l := l) (Mk.shade_small (U := U) h a)
    rw [List.length_cons]
    omega

section
variable {w : World} {A : AF} {n B : Nat} {m : Al} {K : MkF} {M : Mk}
set_option maxHeartbeats 2000000 in
set_option maxRecDepth 20000 in
theorem mscan_any (h : MA w A n B m K M) (hw : M.miss ≤ 800000 ∧ M.st.length ≤ 800000) (a : Nat) :
    Calls Tryz.prog 107 #[vmark K, .int .i64 (a : Int)] w fun e w' => e = .returned (.tuple #[]) ∧ MAGo w w' A n B m K (M.scan m.used (ptrsO m) a) := by
  have HP : Hid (∀ w', MAGo w w' A n B m K (M.scan m.used (ptrsO m) a) → (fun e w' => e = Ending.returned (.tuple #[]) ∧ MAGo w w' A n B m K (M.scan m.used (ptrsO m) a)) (.returned (.tuple #[])) w') := Lib.hid (fun w' h => ⟨rfl, h⟩)
  generalize (fun e w' => e = Ending.returned (.tuple #[]) ∧ MAGo w w' A n B m K (M.scan m.used (ptrsO m) a)) = Post at *
  have HM := Lib.hid h
  have c2 := h.mr.c2
  have HKl := Lib.hid h.mr.mem
  have HW := Lib.hid hw
  have HSc : Hid (M.scan m.used (ptrsO m) a = ({ M with sc := M.sc.set a true } : Mk).shades m.used (ptrsO m a)) := Lib.hid rfl
  have HLn : Hid ((ptrsO m a).length ≤ 64) := Lib.hid (ptrsD_len h.al.man.dev.small _)
  have HLe : Hid (∀ x ∈ ptrsO m a, x ≤ 1099511627776) := Lib.hid (ptrsD_le _ _)
  have HPt := Lib.hid (fun w' (h : AlAt w' A n B m) => optrs_any h.man.dev (a : Int))
  have HPo : Hid (∀ w1 e w2, PtrsPost m.bm.dev (a : Int) w1 e w2 → ∃ av cp ec, e = .returned (.tuple #[.slice av (ptrsO m a).length cp, .int .i64 ec]) ∧ Cells w2 av ((ptrsO m a).map vi) ∧ (∀ x, av = some x → w1.heap.size ≤ x.block) ∧ Below w1.heap.size w1 w2) := Lib.hid (fun w1 e w2 hp => by
    obtain ⟨av, cp, ec, e1, _, e2, e3, e4⟩ := hp.out
    exact ⟨av, cp, ec, e1, e2, e3, e4⟩)
  clear h hw
  generalize ptrsO m a = L at *
  go_enter Tryz.func107, Tryz.ntmps107
  go_wp2_with fail
  refine (sadd_any HM.out.mr.sy (a : Int)).mono ?_
  rintro e w1 ⟨rfl, hs1, ht1⟩
  rw [addI_set] at hs1
  have hg1 : MAGo w w1 A n B m K { M with sc := M.sc.set a true } := HM.out.goY hs1 ht1 (by simp)
  obtain ⟨v1, hm1, ht1', hv1⟩ := hg1
  have HM1 := Lib.hid hm1
  have HT1 := Lib.hid ht1'
  have HV1 := Lib.hid hv1
  have c0 := hm1.mr.c0
  change w1.cell? ⟨K.p, 0, none⟩ = some (valloc A) at c0
  clear hs1 ht1 hm1 ht1' hv1 c2
  generalize freshI M.sc (a : Int) = fb at *
  have HS1 : Hid (({ M with sc := M.sc.set a true } : Mk).miss ≤ 800000 ∧ ({ M with sc := M.sc.set a true } : Mk).st.length ≤ 800000) := Lib.hid HW.out
  generalize ({ M with sc := M.sc.set a true } : Mk) = M1 at *
  obtain ⟨K1, hK1⟩ : ∃ K1, K1 = K.re v1 := ⟨_, rfl⟩
  have HK1 := Lib.hid hK1
  rw [← hK1] at HM1
  clear hK1
  go_wp2_with fail
  refine (adev_any HM1.out.al).mono ?_
  rintro e w1' ⟨rfl, rfl⟩
  go_wp2_with fail
  refine (HPt.out _ HM1.out.al).mono ?_
  intro e w2 hp
  obtain ⟨av, cp, ec, rfl, hcs, hlo, hb2⟩ := HPo.out _ _ _ hp
  have HCs := Lib.hid hcs
  have HLo := Lib.hid hlo
  have HB2 := Lib.hid hb2
  have HM2 := Lib.hid (HM1.out.below hb2)
  have HK2 : Hid (∀ k ∈ K1.list, k < w1.heap.size) := Lib.hid HM1.out.mr.mem
  clear hp hcs hlo hb2 HPo HPt c0
  obtain ⟨l, hl⟩ : ∃ l, l = L.length := ⟨_, rfl⟩
  rw [← hl]
  have HL := Lib.hid hl
  have hl64 : l ≤ 64 := by rw [hl]; exact HLn.out
  clear hl
  go_wp2_with fail
  go_loopw [26] (fun i wr => ∃ k : Nat, k ≤ l ∧ i = .int .i64 (k : Int) ∧ Hid (MAGo w2 wr A n B m K1 (M1.shades m.used (L.take k)))) (fun i _ => l - (intOf i).toNat)
  case atStart => exact ⟨0, Nat.zero_le _, rfl, Lib.hid (MAGo.refl HM2.out)⟩
  case round =>
    obtain ⟨k, hk, rfl, HG⟩ := hrel
    by_cases hlt : k < l
    · have hlt' : (k : Int) < (l : Int) := by omega
      obtain ⟨v3, hm3, ht3, hv3⟩ := HG.out
      have hcs3 : Cells wr av (L.map vi) := HCs.out.touchL ht3 (fun x hx _ hm => by
        have := HLo.out x hx
        have := HK2.out x.block hm
        omega)
      obtain ⟨b, o, rfl, hbx, hcx⟩ := hcs3.at (i := k) (by rw [List.length_map, ← HL.out]; exact hlt)
      obtain ⟨x, hx⟩ : ∃ x, L[k]? = some x := ⟨_, List.getElem?_eq_getElem (by rw [← HL.out]; exact hlt)⟩
      have hxl : x ≤ 1099511627776 := HLe.out x (List.mem_of_getElem? hx)
      have cx := hcx k (vi x) (by rw [List.getElem?_map, hx]; rfl)
      have HTk : Hid (L.take (k + 1) = L.take k ++ [x]) := Lib.hid (by
        have h1 : k < L.length := by rw [← HL.out]; exact hlt
        rw [List.take_succ_eq_append_getElem h1]
        rw [List.getElem?_eq_getElem h1] at hx
        injection hx with hx
        rw [hx])
      have HSm : Hid ((M1.shades m.used (L.take k)).miss ≤ 900000 ∧ (M1.shades m.used (L.take k)).st.length ≤ 900000) := Lib.hid (by
        have := Mk.shades_small (U := m.used) (l := L.take k) HS1.out
        have h2 : (L.take k).length ≤ 64 := by rw [List.length_take]; omega
        omega)
      have HShn : Hid (M1.shades m.used (L.take (k + 1)) = (M1.shades m.used (L.take k)).shade m.used x) := Lib.hid (by rw [HTk.out, Mk.shades_snoc])
      generalize M1.shades m.used (L.take k) = Mk' at *
      have HM3 := Lib.hid hm3
      have HT3 := Lib.hid ht3
      have HV3 := Lib.hid hv3
      have HSh := Lib.hid (mshade_any hm3 HSm.out x)
      clear hm3 ht3 hv3 hcs3 hcx hx hbx HG
      change Hid (Calls Tryz.prog 34 #[.pointer (some ⟨K1.p, 0, none⟩), .int .i64 (x : Int)] wr _) at HSh
      have HKp : Hid (K1.p = K.p) := Lib.hid (by rw [HK1.out]; rfl)
      rw [HKp.out] at HSh
      go_wp2_with fail
      refine HSh.out.mono ?_
      rintro e w4 ⟨rfl, hg4⟩
      have HG4 : Hid (MAGo w2 w4 A n B m K1 (M1.shades m.used (L.take (k + 1)))) := Lib.hid (by
        rw [HShn.out]
        exact MAGo.trans HM2.out.mr.mem HT3.out HV3.out hg4)
      clear hg4
      generalize Mk'.fresh m.used x = fx at *
      go_wp2_with fail
      refine ⟨⟨k + 1, by omega, vint (by omega), HG4⟩, ?_⟩
      simp [intOf]; omega
    · obtain rfl : k = l := by omega
      have hlt' : decide ((k : Int) < (k : Int)) = false := by simp
      have HEnd : Hid (MAGo w wr A n B m K (M.scan m.used (ptrsO m) a)) := Lib.hid (by
        have hg := HG.out
        rw [HL.out, List.take_length, ← HSc.out, HK1.out] at hg
        exact MAGo.trans HKl.out (HT1.out.later HB2.out) (fun b hb => HV1.out b hb) hg)
      go_wp2_with fail
      go_end0
      exact HP.out _ HEnd.out

theorem greyL_none {c : Nat} (h : nextB M.ms c = none) : nextB M.greyL c = none := nextB_none (fun j hj => by
  rw [M.greyL_getD, nextB_not h j hj]; rfl)
theorem greyL_found {c i : Nat} (h : nextB M.ms c = some i) (hs : M.sc.getD i false = false) : nextB M.greyL c = some i := by
  obtain ⟨h1, h2, _, h3⟩ := nextB_is h
  refine nextB_some h1 (by rw [M.greyL_getD, h2, hs]; rfl) (fun j j1 j2 => by rw [M.greyL_getD, h3 j j1 j2]; rfl)
theorem greyL_next {c i : Nat} (h : nextB M.ms c = some i) (hs : M.sc.getD i false = true) : nextB M.greyL c = nextB M.greyL (i + 1) := by
  obtain ⟨h1, h2, _, h3⟩ := nextB_is h
  have hno : ∀ j, c ≤ j → j < i + 1 → M.greyL.getD j false = false := fun j j1 j2 => by
    rw [M.greyL_getD]
    by_cases e : j = i
    · subst e; rw [hs]; simp
    · rw [h3 j j1 (by omega)]; rfl
  cases hn : nextB M.greyL (i + 1) with
  | none => exact nextB_none (fun j hj => by
      by_cases c : j < i + 1
      · exact hno j hj c
      · exact nextB_not hn j (by omega))
  | some x =>
    obtain ⟨g1, g2, _, g3⟩ := nextB_is hn
    exact nextB_some (by omega) g2 (fun j j1 j2 => by
      by_cases c : j < i + 1
      · exact hno j j1 c
      · exact g3 j (by omega) j2)
theorem leftB_nextB {l : List Bool} {c i : Nat} (h : nextB l c = some i) : leftB l.length (.int .i64 (((nextB l (i + 1)).getD 0 : Nat) : Int)) (.bool (nextB l (i + 1)).isSome) < leftB l.length (.int .i64 (i : Int)) (.bool true) := by
  obtain ⟨_, _, hi, _⟩ := nextB_is h
  cases ho : nextB l (i + 1) with
  | none => simp [leftB, intOf]; omega
  | some j =>
    have := nextB_is ho
    simp [leftB, intOf]; omega

set_option maxHeartbeats 2000000 in
set_option maxRecDepth 20000 in
theorem mgrey_any (h : MkAt w A K M) : Calls Tryz.prog 108 #[vmark K] w fun e w' => e = .returned (.tuple #[.int .i64 ((M.grey.getD 0 : Nat) : Int), .bool M.grey.isSome]) ∧ Below w.heap.size w w' := by
  have HP : Hid (∀ o b w', o = ((M.grey.getD 0 : Nat) : Int) → b = M.grey.isSome → Below w.heap.size w w' → (fun e w' => e = Ending.returned (.tuple #[.int .i64 ((M.grey.getD 0 : Nat) : Int), .bool M.grey.isSome]) ∧ Below w.heap.size w w') (.returned (.tuple #[.int .i64 o, .bool b])) w') := Lib.hid (fun o b w' h1 h2 h3 => by subst h1 h2; exact ⟨rfl, h3⟩)
  have HGr : Hid (M.grey = nextB M.greyL M.cur) := Lib.hid rfl
  generalize (fun e w' => e = Ending.returned (.tuple #[.int .i64 ((M.grey.getD 0 : Nat) : Int), .bool M.grey.isSome]) ∧ Below w.heap.size w w') = Post at *
  generalize M.grey = gr at *
  have HM := Lib.hid h
  have c1 := h.c1
  have c5 := h.c5
  have r1 := fun x => later_cell c1 x
  have r5 := fun x => later_cell c5 x
  have hls := h.sx.small
  clear h c1 c5
  go_enter Tryz.func108, Tryz.ntmps108
  go_upto_region 1 with fail
  refine wp_region_seg (C := fun w' => ∃ x : Later (w), w' = x.val) [.fl [0, 1, 2, 3, 4, 5, 6, 7], .sq [8, 9] false, .fl [10, 11, 12], .sq [13] false] (by kernel_rfl) (by kernel_rfl) (by intro c a d v w h; cases d <;> exact h) ?_
  simp only [segs, picks, List.getElem?_cons_succ, List.getElem?_cons_zero]
  have hC1 := later_drew (w)
  refine wpSeg_fl hC1 ?_
  repeat (first | go_big_quiet_step (fail) | quiet_step (fail))
  refine wpQuiet_nil ?_
  have HB1 := Lib.hid (later_below hC1)
  have HM1 := Lib.hid (HM.out.below HB1.out)
  generalize w.drew = w1 at *
  clear r1 r5
  have HN0 := Lib.hid (snext_any HM1.out.sx (M.cur : Int))
  rw [Int.toNat_natCast, nextV_eq] at HN0
  have HO0 : Hid (nextB M.ms M.cur = nextB M.ms M.cur) := Lib.hid rfl
  obtain ⟨o0, ho0⟩ : ∃ o0, o0 = nextB M.ms M.cur := ⟨_, rfl⟩
  have HO := Lib.hid ho0
  rw [← ho0] at HN0
  clear ho0 HO0
  refine wpSeg_sq (fun K hK => ?_)
  go_wp2_with fail
  refine HN0.out.mono ?_
  rintro e w2 ⟨rfl, rfl⟩
  go_wp2_with fail
  refine hK _ _ (fun h => nomatch h) ?_
  clear hK K
  refine wpSeg_fl hC1 ?_
  repeat (first | go_big_quiet_step (fail) | quiet_step (fail))
  refine wpQuiet_nil ?_
  refine wpSeg_last ?_
  go_wp2_with fail
  go_loopw [4, 5] (fun v b wr => ∃ (c : Nat) (o : Option Nat), v = .int .i64 ((o.getD 0 : Nat) : Int) ∧ b = .bool o.isSome ∧ Hid (o = nextB M.ms c) ∧ Hid (gr = nextB M.greyL c) ∧ wr = w1) (fun v b _ => leftB M.ms.length v b)
  case atStart => exact ⟨M.cur, o0, rfl, rfl, HO, HGr, rfl⟩
  case round =>
    clear HN0 HO HGr
    obtain ⟨c, o, rfl, rfl, HO, HG, rfl⟩ := hrel
    have d1 := HM1.out.c1
    have d2 := HM1.out.c2
    cases o with
    | none =>
      have HE : Hid (gr = none) := Lib.hid (by rw [HG.out]; exact greyL_none HO.out.symm)
      simp only [Option.isSome_none, Option.getD_none]
      go_wp2_with fail
      exact HP.out _ _ _ (by rw [HE.out]; rfl) (by rw [HE.out]; rfl) HB1.out
    | some i =>
      simp only [Option.isSome_some, Option.getD_some]
      have HHas := Lib.hid (shas_any HM1.out.sy (i : Int))
      rw [hasI_nat] at HHas
      have hil : i < 1000000 := by have := (nextB_is HO.out.symm).2.2.1; omega
      cases hs : M.sc.getD i false with
      | false =>
        have HE : Hid (gr = some i) := Lib.hid (by rw [HG.out]; exact greyL_found HO.out.symm hs)
        rw [hs] at HHas
        clear hs
        go_wp2_with fail
        refine HHas.out.mono ?_
        rintro e w3 ⟨rfl, rfl⟩
        go_wp2_with fail
        exact HP.out _ _ _ (by rw [HE.out]; rfl) (by rw [HE.out]; rfl) HB1.out
      | true =>
        have HE : Hid (gr = nextB M.greyL (i + 1)) := Lib.hid (by rw [HG.out]; exact greyL_next HO.out.symm hs)
        have HLf := Lib.hid (leftB_nextB HO.out.symm)
        have HN := Lib.hid (snext_any HM1.out.sx ((i : Int) + 1))
        rw [show ((i : Int) + 1).toNat = i + 1 by omega, nextV_eq] at HN
        obtain ⟨o1, ho1⟩ : ∃ o1, o1 = nextB M.ms (i + 1) := ⟨_, rfl⟩
        have HO1 := Lib.hid ho1
        rw [← ho1] at HN HLf
        rw [hs] at HHas
        clear hs ho1
        go_wp2_with fail
        refine HHas.out.mono ?_
        rintro e w3 ⟨rfl, rfl⟩
        go_wp2_with fail
        refine HN.out.mono ?_
        rintro e w3 ⟨rfl, rfl⟩
        go_wp2_with fail
        exact ⟨⟨i + 1, o1, rfl, rfl, HO1, HE, trivial⟩, HLf.out⟩
end

end Go.Proofs.YtfedgcdkagngnaaGreat

/- mark: Step. -/
namespace Go.Proofs.YtfedgcdkagngnaaGreat
open Go.RowKit
set_option linter.unusedVariables false

section
variable {U : List Bool} {P : Nat → List Nat} {M : Mk}
theorem Mk.step_some {x : Nat} {r : List Nat} (h : M.top M.st = some (x, r)) : M.step U P = (true, ({ M with st := r } : Mk).scan U P x) := by unfold Mk.step; rw [h]
theorem Mk.step_grey {x : Nat} (h : M.top M.st = none) (hg : M.grey = some x) : M.step U P = (true, ({ M with st := [], cur := x + 1 } : Mk).scan U P x) := by unfold Mk.step; rw [h, hg]
theorem Mk.step_again (h : M.top M.st = none) (hg : M.grey = none) (ha : M.again = true) : M.step U P = (true, { M with st := [], again := false, cur := 0 }) := by unfold Mk.step; rw [h, hg]; dsimp only; rw [if_pos ha]
theorem Mk.step_none (h : M.top M.st = none) (hg : M.grey = none) (ha : M.again = false) : M.step U P = (false, { M with st := [] }) := by unfold Mk.step; rw [h, hg]; dsimp only; rw [if_neg (by rw [ha]; decide)]
end
/-- How long a stack is. -/
def stkLen (w : World) (s : Nat) : Nat := match w.cell? ⟨s, 0, none⟩ with
  | some (.slice _ n _) => n
  | _ => 0
theorem StkAt.len {w : World} {s : Nat} {v : Value} {l : List Nat} {most miss : Nat} (h : StkAt w s v l most miss) : stkLen w s = l.length := by
  obtain ⟨a, c, rfl, _, _, _⟩ := h.own.cells
  have c0 : w.cell? ⟨s, 0, none⟩ = some (.slice a l.length c) := cell_of_row _ _ 0 _ _ _ h.head
  unfold stkLen
  rw [c0]

section
variable {w : World} {A : AF} {n B : Nat} {m : Al} {K : MkF} {M : Mk}
def StepPost (w : World) (A : AF) (n B : Nat) (m : Al) (K : MkF) (M : Mk) : Ending → World → Prop := fun e w' => e = .returned (.bool (M.step m.used (ptrsO m)).1) ∧ MAGo w w' A n B m K (M.step m.used (ptrsO m)).2

set_option maxHeartbeats 4000000 in
set_option maxRecDepth 20000 in
theorem mstep_any (h : MA w A n B m K M) (hw : M.miss ≤ 800000 ∧ M.st.length ≤ 800000) :
    Calls Tryz.prog 36 #[vmark K] w (StepPost w A n B m K M) := by
  have HP : Hid (∀ b M' w', M.step m.used (ptrsO m) = (b, M') → MAGo w w' A n B m K M' → StepPost w A n B m K M (.returned (.bool b)) w') := Lib.hid (fun b M' w' h1 h2 => by unfold StepPost; rw [h1]; exact ⟨rfl, h2⟩)
  generalize StepPost w A n B m K M = Post at *
  have HM := Lib.hid h
  have HKl := Lib.hid h.mr.mem
  have HW := Lib.hid hw
  clear h hw
  go_enter Tryz.func36, Tryz.ntmps36
  go_wp2_with fail
  go_loopw [2] (fun b wr => b = .bool false ∧ ∃ l : List Nat, Hid (M.top M.st = M.top l ∧ l.length ≤ 800000) ∧ Hid (MAGo w wr A n B m K { M with st := l })) (fun _ wr => stkLen wr K.s)
  case atStart => exact ⟨rfl, M.st, Lib.hid ⟨rfl, HW.out.2⟩, Lib.hid (MAGo.refl HM.out)⟩
  case round =>
    obtain ⟨rfl, l, HT, HG⟩ := hrel
    obtain ⟨v1, hm1, ht1, hv1⟩ := HG.out
    have HT1 := Lib.hid ht1
    have HV1 := Lib.hid hv1
    have hst := hm1.mr.st
    have c3 := hm1.mr.c3
    change StkAt wr K.s v1 l.reverse M.most M.miss at hst
    change wr.cell? ⟨K.p, 3, none⟩ = some (.pointer (some ⟨K.s, 0, none⟩)) at c3
    have HM1 := Lib.hid hm1
    have HLn : Hid (stkLen wr K.s = l.length) := Lib.hid (by rw [hst.len, List.length_reverse])
    clear hm1 ht1 hv1 HG
    cases l with
    | cons x r =>
      rw [List.reverse_cons] at hst
      have HPop := Lib.hid (stkpop_some hst (by have := HT.out.2; rw [List.length_cons] at this; rw [List.length_reverse]; omega))
      clear hst
      go_wp2_with fail
      refine HPop.out.mono ?_
      rintro e w2 ⟨rfl, hp2⟩
      have hg2 : MAGo wr w2 A n B m (K.re v1) { M with st := r } := HM1.out.go (HM1.out.mr.setStk (l := r) (miss := M.miss) hp2) rfl rfl
      have hg2' : MAGo w w2 A n B m K { M with st := r } := MAGo.trans HKl.out HT1.out HV1.out hg2
      obtain ⟨v2, hm2, ht2, hv2⟩ := hg2'
      have HM2 := Lib.hid hm2
      have HT2 := Lib.hid ht2
      have HV2 := Lib.hid hv2
      have HCo := Lib.hid (mcolour_any hm2.mr x)
      change Hid (Calls Tryz.prog 37 #[.pointer (some ⟨K.p, 0, none⟩), .int .i64 (x : Int)] w2 _) at HCo
      rw [show ({ M with st := r } : Mk).colour x = M.colour x from rfl] at HCo
      have HLn2 : Hid (stkLen w2 K.s = r.length) := Lib.hid (by have := hm2.mr.st.len; rw [List.length_reverse] at this; exact this)
      have HTc : Hid (M.top (x :: r) = if M.colour x = 1 then some (x, r) else M.top r) := Lib.hid rfl
      clear hp2 hg2 hm2 ht2 hv2
      generalize hcl : M.colour x = cl at *
      by_cases hc1 : cl = 1
      · subst hc1
        have HSt : Hid (M.step m.used (ptrsO m) = (true, ({ M with st := r } : Mk).scan m.used (ptrsO m) x)) := Lib.hid (Mk.step_some (by rw [HT.out.1, HTc.out, if_pos rfl]))
        have HSc := Lib.hid (mscan_any HM2.out (show M.miss ≤ 800000 ∧ r.length ≤ 800000 from ⟨HW.out.1, by have := HT.out.2; rw [List.length_cons] at this; omega⟩) x)
        change Hid (Calls Tryz.prog 107 #[.pointer (some ⟨K.p, 0, none⟩), .int .i64 (x : Int)] w2 _) at HSc
        clear hcl HTc HT HPop
        go_wp2_with fail
        refine HCo.out.mono ?_
        rintro e w3 ⟨rfl, rfl⟩
        go_wp2_with fail
        refine HSc.out.mono ?_
        rintro e w3 ⟨rfl, hg3⟩
        have HG3 := Lib.hid hg3
        clear hg3
        go_wp2_with fail
        exact HP.out _ _ _ HSt.out (MAGo.trans HKl.out HT2.out HV2.out HG3.out)
      · have hcf : (((cl : Nat) : Int) == 1) = false := by simp; omega
        have HTn : Hid (M.top M.st = M.top r ∧ r.length ≤ 800000) := Lib.hid ⟨by rw [HT.out.1, HTc.out, if_neg hc1], by have := HT.out.2; rw [List.length_cons] at this; omega⟩
        have HLt : Hid (stkLen w2 K.s < stkLen wr K.s) := Lib.hid (by rw [HLn.out, HLn2.out, List.length_cons]; omega)
        clear hcl HTc HT HPop hc1
        go_wp2_with fail
        refine HCo.out.mono ?_
        rintro e w3 ⟨rfl, rfl⟩
        go_wp2_with fail
        exact ⟨⟨rfl, r, HTn, Lib.hid ⟨v2, HM2.out, HT2.out, HV2.out⟩⟩, HLt.out⟩
    | nil =>
      rw [List.reverse_nil] at hst
      have HPop := Lib.hid (stkpop_none hst)
      have HTn : Hid (M.top M.st = none) := Lib.hid (by rw [HT.out.1]; rfl)
      clear hst HT
      go_wp2_with fail
      refine HPop.out.mono ?_
      rintro e w2 ⟨rfl, hb2⟩
      have HM2 := Lib.hid (HM1.out.below hb2)
      have HT2 := Lib.hid (HT1.out.later hb2)
      have HGr := Lib.hid (mgrey_any HM2.out.mr)
      change Hid (Calls Tryz.prog 108 #[.pointer (some ⟨K.p, 0, none⟩)] w2 _) at HGr
      rw [show ({ M with st := [] } : Mk).grey = M.grey from rfl] at HGr
      clear hb2 c3 HPop
      go_wp2_with fail
      refine HGr.out.mono ?_
      rintro e w3 ⟨rfl, hb3⟩
      have HM3 := Lib.hid (HM2.out.below hb3)
      have HT3 := Lib.hid (HT2.out.later hb3)
      clear hb3 HGr
      cases hgr : M.grey with
      | some x =>
        have HSt : Hid (M.step m.used (ptrsO m) = (true, ({ M with st := [], cur := x + 1 } : Mk).scan m.used (ptrsO m) x)) := Lib.hid (Mk.step_grey HTn.out hgr)
        have hxl : x < 1000000 := by
          have h1 := (Mk.grey_some hgr).2.1
          have h2 := getD_true_lt ((M.colour_grey x).1 h1).1
          have h3 := HM.out.mr.sx.small
          omega
        simp only [Option.isSome_some, Option.getD_some]
        have f5 := HM3.out.mr.row.frozen 5
        have c5 := HM3.out.mr.c5
        change w3.frozen? ⟨K.p, 5, none⟩ = _ at f5
        change w3.cell? ⟨K.p, 5, none⟩ = _ at c5
        obtain ⟨hh1, hh2⟩ := HM3.out.mr.setHead 5 (.int .i64 ((x : Int) + 1)) (M' := { M with st := [], cur := x + 1 }) rfl rfl rfl rfl rfl rfl
        have hg4 : MAGo w (w3.setCell ⟨K.p, 5, none⟩ (.int .i64 ((x : Int) + 1))) A n B m K { M with st := [], cur := x + 1 } := MAGo.trans HKl.out HT3.out HV1.out (HM3.out.go (.ofAt hh1 hh2) rfl rfl)
        obtain ⟨v4, hm4, ht4, hv4⟩ := hg4
        have HT4 := Lib.hid ht4
        have HV4 := Lib.hid hv4
        have HSc := Lib.hid (mscan_any hm4 (show M.miss ≤ 800000 ∧ ([] : List Nat).length ≤ 800000 from ⟨HW.out.1, Nat.zero_le _⟩) x)
        change Hid (Calls Tryz.prog 107 #[.pointer (some ⟨K.p, 0, none⟩), .int .i64 (x : Int)] _ _) at HSc
        clear hgr hh1 hh2 hm4 ht4 hv4
        go_wp2_with fail
        refine HSc.out.mono ?_
        rintro e w5 ⟨rfl, hg5⟩
        have HG5 := Lib.hid hg5
        clear hg5
        go_wp2_with fail
        exact HP.out _ _ _ HSt.out (MAGo.trans HKl.out HT4.out HV4.out HG5.out)
      | none =>
        simp only [Option.isSome_none, Option.getD_none]
        have c4 := HM3.out.mr.c4
        change w3.cell? ⟨K.p, 4, none⟩ = some (.bool M.again) at c4
        cases ha : M.again with
        | true =>
          have HSt : Hid (M.step m.used (ptrsO m) = (true, { M with st := [], again := false, cur := 0 })) := Lib.hid (Mk.step_again HTn.out hgr ha)
          rw [ha] at c4
          have f4 := HM3.out.mr.row.frozen 4
          change w3.frozen? ⟨K.p, 4, none⟩ = _ at f4
          obtain ⟨hh1, hh2⟩ := HM3.out.mr.setHead 4 (.bool false) (M' := { M with st := [], again := false }) rfl rfl rfl rfl rfl rfl
          obtain ⟨hi1, hi2⟩ := hh1.setHead 5 (.int .i64 0) (M' := { M with st := [], again := false, cur := 0 }) rfl rfl rfl rfl rfl rfl
          have c5 := hh1.c5
          have f5 := hh1.row.frozen 5
          change (w3.setCell ⟨K.p, 4, none⟩ (.bool false)).cell? ⟨K.p, 5, none⟩ = _ at c5
          change (w3.setCell ⟨K.p, 4, none⟩ (.bool false)).frozen? ⟨K.p, 5, none⟩ = _ at f5
          have HG4 : Hid (MAGo w _ A n B m K { M with st := [], again := false, cur := 0 }) := Lib.hid (MAGo.trans HKl.out HT3.out HV1.out (HM3.out.go (.ofAt hi1 (hh2.trans hi2)) rfl rfl))
          clear hgr ha hh1 hh2 hi1 hi2
          go_wp2_with fail
          exact HP.out _ _ _ HSt.out HG4.out
        | false =>
          have HSt : Hid (M.step m.used (ptrsO m) = (false, { M with st := [] })) := Lib.hid (Mk.step_none HTn.out hgr ha)
          rw [ha] at c4
          clear hgr ha
          go_wp2_with fail
          exact HP.out _ _ _ HSt.out ⟨v1, HM3.out, HT3.out, HV1.out⟩
end

end Go.Proofs.YtfedgcdkagngnaaGreat

/- bitmap: Clear; stack: Clear; mark: New, Clear, Blacken, Whiten, Greys, List. -/
namespace Go.Proofs.YtfedgcdkagngnaaGreat
open Go.RowKit
set_option linter.unusedVariables false

end Go.Proofs.YtfedgcdkagngnaaGreat

/- mark: New, Clear, Blacken, Whiten, Greys, List. -/
namespace Go.Proofs.YtfedgcdkagngnaaGreat
open Go.RowKit
set_option linter.unusedVariables false

section
variable {w : World} {A : AF} {n B : Nat} {m : Al} {K : MkF} {M : Mk}
set_option maxHeartbeats 1000000 in
theorem mgreys_any (h : MkAt w A K M) : Calls Tryz.prog 41 #[vmark K] w fun e w' => e = .returned (.int .i64 ((M.ms.count true : Int) - (M.sc.count true : Int))) ∧ Below w.heap.size w w' := by
  have HP : Hid (∀ x w', x = (M.ms.count true : Int) - (M.sc.count true : Int) → Below w.heap.size w w' → (fun e w' => e = Ending.returned (.int .i64 ((M.ms.count true : Int) - (M.sc.count true : Int))) ∧ Below w.heap.size w w') (.returned (.int .i64 x)) w') := Lib.hid (fun x w' h1 h2 => by subst h1; exact ⟨rfl, h2⟩)
  generalize (fun e w' => e = Ending.returned (.int .i64 ((M.ms.count true : Int) - (M.sc.count true : Int))) ∧ Below w.heap.size w w') = Post at *
  have HM := Lib.hid h
  have c1 := h.c1
  have c2 := h.c2
  have r1 := fun x => later_cell c1 x
  have r2 := fun x => later_cell c2 x
  have hl1 : M.ms.count true ≤ 1000000 := Nat.le_trans (count_le_len _) h.sx.small
  have hl2 : M.sc.count true ≤ 1000000 := Nat.le_trans (count_le_len _) h.sy.small
  clear h c1 c2
  go_enter Tryz.func41, Tryz.ntmps41
  go_upto_region 1 with fail
  refine wp_region_seg (C := fun w' => ∃ x : Later (w), w' = x.val) [.fl [0, 1, 2, 3, 5, 6, 7, 8], .sq [4] true, .sq [9, 10, 11] false] (by kernel_rfl) (by kernel_rfl) (by intro c a d v w h; cases d <;> exact h) ?_
  simp only [segs, picks, List.getElem?_cons_succ, List.getElem?_cons_zero]
  have hC1 := later_drew (w)
  refine wpSeg_fl hC1 ?_
  repeat (first | go_big_quiet_step (fail) | quiet_step (fail))
  refine wpQuiet_nil ?_
  have HB1 := Lib.hid (later_below hC1)
  have HM1 := Lib.hid (HM.out.below HB1.out)
  generalize w.drew = w1 at *
  clear r1 r2
  have HX := Lib.hid (slen_any HM1.out.sx)
  have HY := Lib.hid (slen_any HM1.out.sy)
  generalize M.ms.count true = k1 at *
  generalize M.sc.count true = k2 at *
  refine wpSeg_sq (fun K hK => ?_)
  go_wp2_with fail
  refine HX.out.mono ?_
  rintro e w2 ⟨rfl, rfl⟩
  go_wp2_with fail
  refine hK _ _ (fun _ => hC1) ?_
  clear hK K
  refine wpSeg_last ?_
  go_wp2_with fail
  refine HY.out.mono ?_
  rintro e w2 ⟨rfl, rfl⟩
  go_wp2_with fail
  exact HP.out _ _ rfl HB1.out

end

/-- What mark.New leaves. -/
def MNewPost (w : World) (A : AF) (n B : Nat) (m : Al) (most : Nat) : Ending → World → Prop := fun e w' => ∃ K : MkF, e = .returned (vmark K) ∧ MA w' A n B m K (Mk.new m.used.length most) ∧ Below w.heap.size w w' ∧ ∀ k ∈ K.list, w.heap.size ≤ k

set_option maxHeartbeats 2000000 in
set_option maxRecDepth 20000 in
theorem mnew_any {w : World} {A : AF} {n B : Nat} {m : Al} (h : AlAt w A n B m) (h1 : 1 ≤ m.used.length) (most : Int) (hm : most ≤ 1000000) :
    Calls Tryz.prog 33 #[valloc A, .int .i64 most] w (MNewPost w A n B m most.toNat) := by
  have HP : Hid (∀ (K : MkF) w', MA w' A n B m K (Mk.new m.used.length most.toNat) → Below w.heap.size w w' → (∀ k ∈ K.list, w.heap.size ≤ k) → MNewPost w A n B m most.toNat (.returned (vmark K)) w') := Lib.hid (fun K w' a b c => ⟨K, rfl, a, b, c⟩)
  generalize MNewPost w A n B m most.toNat = Post at *
  have HA := Lib.hid h
  have hs := h.set.small
  obtain ⟨l, hl⟩ : ∃ l, l = m.used.length := ⟨_, rfl⟩
  have hcl : m.bm.dev.cache.length = l := by rw [hl]; exact h.lenU.symm
  have HLen := Lib.hid (dlen_any h.man.dev)
  rw [hcl] at HLen
  rw [← hl] at HP h1 hs
  have HL := Lib.hid hl
  clear h hl hcl
  go_enter Tryz.func33, Tryz.ntmps33
  go_wp2_with fail
  refine (adev_any HA.out).mono ?_
  rintro e w0 ⟨rfl, rfl⟩
  go_wp2_with fail
  refine HLen.out.mono ?_
  rintro e w0 ⟨rfl, rfl⟩
  go_wp2_with fail
  refine (snew_any l h1 hs _).mono ?_
  rintro e w1 ⟨X, rfl, hX, hb1, hlo1⟩
  have HX := Lib.hid hX
  have HB1 := Lib.hid hb1
  have HLo1 := Lib.hid hlo1
  clear hX hb1 hlo1
  go_wp2_with fail
  refine (snew_any l h1 hs _).mono ?_
  rintro e w2 ⟨Y, rfl, hY, hb2, hlo2⟩
  have HY := Lib.hid hY
  have HB2 := Lib.hid hb2
  have HLo2 := Lib.hid hlo2
  clear hY hb2 hlo2
  go_wp2_with fail
  refine (stknew_any most hm _).mono ?_
  rintro e w3 ⟨s, rfl, hS, hb3, hlo3⟩
  have HS := Lib.hid hS
  have HB3 := Lib.hid hb3
  have HLo3 := Lib.hid hlo3
  clear hS hb3 hlo3
  have HBl := Lib.hid (below_alloc w3 (.cells #[valloc A, vset X, vset Y, .pointer (some ⟨s, 0, none⟩), .bool false, .int .i64 (l : Int)] 167))
  have HNew := Lib.hid (heap_alloc_new w3 (.cells #[valloc A, vset X, vset Y, .pointer (some ⟨s, 0, none⟩), .bool false, .int .i64 (l : Int)] 167))
  go_wp2_with fail
  generalize w3.alloc _ = w4 at *
  have b1 := HB1.out.size
  have b2 := HB2.out.size
  have b3 := HB3.out.size
  have x1 := HX.out.mem
  have y1 := HY.out.mem
  have s1 := HS.out.mem s (by simp [stkL])
  have hX4 := ((HX.out.below HB2.out).below HB3.out).below HBl.out
  have hY4 := (HY.out.below HB3.out).below HBl.out
  have hS4 := HS.out.below HBl.out
  have hA4 := (((HA.out.below HB1.out).below HB2.out).below HB3.out).below HBl.out
  have xl := HLo1.out
  have yl := HLo2.out
  have xne : X.u ≠ X.b := by obtain ⟨_, h⟩ := HX.out; exact h.ne
  have yne : Y.u ≠ Y.b := by obtain ⟨_, h⟩ := HY.out; exact h.ne
  have hlo3 := HLo3.out
  simp only [SetF.list, List.mem_cons, List.not_mem_nil, or_false, forall_eq_or_imp, forall_eq] at x1 y1 xl yl
  have hnd : (MkF.mk w3.heap.size X Y s (.slice none 0 0)).fix.Nodup := by
    simp only [MkF.fix, SetF.list, List.cons_append, List.nil_append, List.nodup_cons, List.mem_cons, List.not_mem_nil, or_false, not_or, List.nodup_nil, and_true, not_false_eq_true]
    refine ⟨⟨?_, ?_, ?_, ?_, ?_⟩, ⟨?_, ?_, ?_, ?_⟩, ⟨?_, ?_, ?_⟩, ⟨?_, ?_⟩, ?_⟩ <;> omega
  have hKl : ∀ k ∈ (MkF.mk w3.heap.size X Y s (.slice none 0 0)).list, w.heap.size ≤ k := by
    intro k hk
    simp only [MkF.list, MkF.fix, SetF.list, rowOf, Option.toList_none, List.append_nil, List.cons_append, List.nil_append, List.mem_cons, List.not_mem_nil, or_false] at hk
    rcases hk with h | h | h | h | h | h <;> subst h <;> omega
  refine HP.out ⟨w3.heap.size, X, Y, s, .slice none 0 0⟩ w4 ⟨hA4, ⟨HNew.out, hX4, hY4, hS4, hnd, fun b hb => by cases hb⟩, fun k hk hm' => ?_, by rw [HL.out]; simp [Mk.new], by rw [HL.out]; simp [Mk.new]⟩ ((HB1.out.trans (HB2.out.mono b1)).trans ((HB3.out.mono (Nat.le_trans b1 b2)).trans (HBl.out.mono (Nat.le_trans (Nat.le_trans b1 b2) b3)))) hKl
  have := HA.out.mem k hk
  have := hKl k hm'
  omega

end Go.Proofs.YtfedgcdkagngnaaGreat

/- law22: made. -/
namespace Go.Proofs.YtfedgcdkagngnaaGreat
open Go.RowKit
set_option linter.unusedVariables false

/-- What is done: law20's Op. -/
structure Op20 where
  k : Int
  i : Int
  p : Int
  t : Int
def Op20.cs (o : Op20) : List Value := [.int .i64 o.k, .int .i64 o.i, .int .i64 o.p, .int .i64 o.t]
theorem Op20.len (o : Op20) : o.cs.length = 4 := rfl

theorem four20 (zs : List Int) (h : zs.length = 4) : (Op20.cs ⟨zs.getD 0 0, zs.getD 1 0, zs.getD 2 0, zs.getD 3 0⟩) = zs.map (Value.int .i64) := by
  match zs, h with
  | [a, b, c, d], _ => rfl

/-- A heap that a call has made, of all its objects. -/
def Made22 (w : World) (s : List Op20) : Ending → World → Prop := fun e w' => ∃ (A : AF) (n : Nat) (m : Al) (v : Value) (xs : List Nat),
  e = .returned (.tuple #[vworld A v, .bool true]) ∧ Hp w w' [] A n 4 25000000 m v xs ∧ n ≤ 2000000 ∧ (∀ a, m.used.getD a false = true → a ∈ xs) ∧ xs.length ≤ s.length ∧ (∀ o r, s = o :: r → o.k = 0 → xs ≠ [])
/-- How many objects so many ops made. -/
structure Count22 (s : List Op20) (m : Al) (xs : List Nat) (k : Nat) : Prop where
  le : xs.length ≤ k
  one : 1 ≤ k → (s.getD 0 ⟨0, 0, 0, 0⟩).k = 0 → xs ≠ []
  new : k = 0 → m = al0 4
theorem Count22.start (s : List Op20) : Count22 s (al0 4) [] 0 := ⟨Nat.le_refl _, fun h => by omega, fun _ => rfl⟩
theorem Count22.stay {s : List Op20} {m m' : Al} {xs : List Nat} {k : Nat} (h : Count22 s m xs k) (h0 : k = 0 → (s.getD 0 ⟨0, 0, 0, 0⟩).k ≠ 0) : Count22 s m' xs (k + 1) :=
  ⟨Nat.le_succ_of_le h.le, fun _ hk => (by
    by_cases c : k = 0
    · exact absurd hk (h0 c)
    · exact h.one (by omega) hk), fun e => by omega⟩
theorem Count22.made {s : List Op20} {m m' : Al} {xs : List Nat} {k a : Nat} (h : Count22 s m xs k) : Count22 s m' (xs ++ [a]) (k + 1) :=
  ⟨by have := h.le; simp; omega, fun _ _ => by simp, fun e => by omega⟩
theorem Count22.full {s : List Op20} {m : Al} {xs : List Nat} {k : Nat} (h : Count22 s m xs k) {p d : Int} (hn : NoRoom m (objSize (clampI p 8) (clampI d 12))) : Count22 s m xs (k + 1) :=
  ⟨Nat.le_succ_of_le h.le, fun _ hk => (by
    by_cases c : k = 0
    · rw [h.new c] at hn
      have := clamp_size p d
      exact absurd hn (roomy0 (by omega) (by omega) (show 1 ≤ _ ∧ _ ≤ 256 by omega))
    · exact h.one (by omega) hk), fun e => by omega⟩

theorem dev0_ok {B : Nat} (hB2 : 2 ≤ B) (hB : B ≤ 100) : (dev0 B).ok 201000 := (fmt_formed hB2 hB).ok

theorem Hp.begun {w0 w w1 : World} {A : AF} {n B : Nat} (hB2 : 2 ≤ B) (hB : B ≤ 100) (h : AlAt w1 A n B (al0 B)) (hA : ∀ k ∈ A.list, w0.heap.size ≤ k) (hb0 : Below w.heap.size w w0) (hb : Below w0.heap.size w0 w1) {Q : List Nat} (hQ : ∀ k ∈ Q, k < w0.heap.size) :
    Hp w w1 Q A n B 201000 (al0 B) (.slice none 0 0) [] :=
  ⟨⟨h, OwnI.nil _, fun b hb => (by cases hb)⟩, WOk.begun hB2 hB, dev0_ok hB2 hB, fun k hk => ⟨Nat.le_trans hb0.size (hA k hk), fun hq => (by have := hQ k hq; have := hA k hk; omega)⟩, fun b hb => (by cases hb), fun k hk => Nat.lt_of_lt_of_le (hQ k hk) hb.size, hb0.trans (hb.mono hb0.size)⟩
theorem full_begun (B : Nat) : ∀ a, (al0 B).used.getD a false = true → a ∈ ([] : List Nat) := fun a ha => by
  have : (al0 B).used = List.replicate (512 * B) false := rfl
  rw [this] at ha
  simp only [List.getD_eq_getElem?_getD, List.getElem?_replicate] at ha
  split at ha <;> cases ha
theorem full_made {B : Nat} {m m' : Al} {xs : List Nat} {a : Nat} {p d : Int} (h : ∀ a, m.used.getD a false = true → a ∈ xs) (hm : Made B m m' a p d) (hl : m.used.length = 512 * B) : ∀ x, m'.used.getD x false = true → x ∈ xs ++ [a] := fun x hx => by
  rw [hm.used] at hx
  by_cases e : x = a
  · subst e; simp
  · by_cases ha : a < m.used.length
    · rw [getD_set_bool _ _ _ _ ha, if_neg e] at hx
      exact List.mem_append_left _ (h x hx)
    · rw [List.set_eq_of_length_le (by omega)] at hx
      exact List.mem_append_left _ (h x hx)
theorem lead_used (m : Al) (xs : List Nat) (i p t : Int) : (m.lead xs i p t).used = m.used := by unfold Al.lead; split <;> rfl

set_option maxHeartbeats 8000000 in
set_option maxRecDepth 100000 in
theorem made22_any (a : Option Addr) (mm cap : Nat) (s : List Op20) (hm : s.length = mm) (w : World) (hcs : Cells w a (recs Op20.cs s)) (hmm : mm ≤ maxLen) :
    Calls Tryz.prog 32 #[.slice a mm cap] w (Made22 w s) := by
  unfold maxLen at hmm
  have HM := Lib.hid hm
  have HCS := Lib.hid hcs
  clear hm hcs
  have HP : Hid (∀ (A : AF) (n : Nat) (m : Al) (v : Value) (xs : List Nat) w', Hp w w' [] A n 4 25000000 m v xs → n ≤ 2000000 → (∀ a, m.used.getD a false = true → a ∈ xs) → xs.length ≤ mm → (1 ≤ mm → (s.getD 0 ⟨0, 0, 0, 0⟩).k = 0 → xs ≠ []) → Made22 w s (.returned (.tuple #[vworld A v, .bool true])) w') := Lib.hid (fun A n m v xs w' h1 h2 h3 h4 h5 => ⟨A, n, m, v, xs, rfl, h1, h2, h3, by rw [HM.out]; exact h4, fun o r hs hk => h5 (by rw [← HM.out, hs]; simp) (by rw [hs]; exact hk)⟩)
  generalize Made22 w s = Post at *
  have HB0 := Lib.hid (below_alloc w (.cells zeroW 28))
  have HR0 : Hid (RowX (w.alloc (.cells zeroW 28)) ⟨w.heap.size, 28, zeroW.toList, true⟩) := Lib.hid ⟨_, heap_alloc_new _ _, [], by simp, by simp⟩
  obtain ⟨q, hq⟩ : ∃ q, q = w.heap.size := ⟨_, rfl⟩
  go_enter Tryz.func32, Tryz.ntmps32
  go_upto_region 1 with fail
  rw [show (#[.pointer none, .pointer none, .slice none 0 0] : Array Value) = zeroW from rfl]
  have HQ0 : Hid ((w.alloc (.cells zeroW 28)).heap.size = q + 1) := Lib.hid (by simp [hq])
  rw [← hq] at HR0 ⊢
  have HQ := Lib.hid hq
  generalize w.alloc _ = w0 at *
  clear hq
  go_wp2_with fail
  refine (begun20_any 4 (by omega) (by omega) _).mono ?_
  rintro e w1 ⟨A, n, rfl, ha, hn, hA, hb⟩
  have hh := Hp.begun (by omega) (by omega) ha hA HB0.out hb (Q := [q]) (by intro k hk; simp at hk; have := HQ0.out; omega)
  obtain ⟨p, hp⟩ : ∃ p, p = w1.heap.size := ⟨_, rfl⟩
  have HH : Hid (Hp w (w1.alloc (.cells #[valloc A, vdev A.X.F, .slice none 0 0] 28)) [q, p] A n 4 201000 (al0 4) (.slice none 0 0) []) := Lib.hid (hh.more (fun k hk => by
    simp only [List.mem_cons, List.not_mem_nil, or_false] at hk
    rcases hk with rfl | rfl
    · exact .inl (by simp)
    · exact .inr (by simp [hp])) (below_alloc _ _))
  have HR1 : Hid (MemR w.heap.size (w1.alloc (.cells #[valloc A, vdev A.X.F, .slice none 0 0] 28)) [⟨q, 28, zeroW.toList, true⟩, ⟨p, 28, [valloc A, vdev A.X.F, .slice none 0 0], true⟩]) := Lib.hid (by
    have h0 : MemR w.heap.size w1 [⟨q, 28, zeroW.toList, true⟩] := ⟨by
      intro x hx
      simp at hx; subst hx
      exact HR0.out.keep (hb.block q (by have := HQ0.out; omega)), by intro x hx; simp at hx; subst hx; have := HQ.out; exact Nat.le_of_eq this.symm, by simp, hh.below.size⟩
    have := h0.alloc #[valloc A, vdev A.X.F, .slice none 0 0] 28
    rw [← hp] at this
    exact this)
  have HN := Lib.hid hn
  clear ha hA hb hh hn HR0 HB0
  go_upto_region 2 with fail
  rw [← hp]
  generalize w1.alloc _ = w2 at *
  clear hp HQ0
  go_wp2_with fail
  go_loopw [5, 6] (fun f i wr => ∃ (k : Nat) (R : List Nat) (m : Al) (v : Value) (xs : List Nat), k ≤ mm ∧ k ≤ 40 ∧ f = .bool true ∧ i = .int .i64 (k : Int) ∧ Hid (Hp w wr [q, p] (A.re R) (n + 6 * k) 4 (201000 + 600000 * k) m v xs) ∧ Hid (MemR w.heap.size wr [⟨q, 28, zeroW.toList, true⟩, ⟨p, 28, [valloc A, vdev A.X.F, v], true⟩]) ∧ Hid (∀ a, m.used.getD a false = true → a ∈ xs) ∧ Hid (Count22 s m xs k)) (fun _ i _ => 40 - (intOf i).toNat)
  case atStart => exact ⟨0, A.R, _, _, _, Nat.zero_le _, Nat.zero_le _, rfl, rfl, HH, HR1, Lib.hid (full_begun 4), Lib.hid (Count22.start s)⟩
  case round =>
    clear HH HR1
    obtain ⟨k, R, m, v, xs, hkm, hk40, rfl, rfl, HH, HMr, HFu, HCt⟩ := hrel
    have HQb : Hid (∀ k ∈ [q, p], w.heap.size ≤ k) := Lib.hid (by
      intro k hk
      simp only [List.mem_cons, List.not_mem_nil, or_false] at hk
      rcases hk with rfl | rfl
      · exact HMr.out.gbase 0 rfl
      · exact HMr.out.gbase 1 rfl)
    by_cases hlt : k < mm ∧ k < 40
    · obtain ⟨h1, h2⟩ := hlt
      have h1' : (k : Int) < (mm : Int) := by omega
      have h2' : (k : Int) < 40 := by omega
      have hkl : k < s.length := by rw [HM.out]; exact h1
      obtain ⟨b1, o1, rfl, hbl, hcell⟩ := recs_cells Op20.len (by decide) (⟨0, 0, 0, 0⟩ : Op20) (HCS.out.below HH.out.below (Nat.le_refl _)) hkl
      have HK0 : Hid (k = 0 → s.getD 0 ⟨0, 0, 0, 0⟩ = s.getD k ⟨0, 0, 0, 0⟩) := Lib.hid (fun e => by rw [e])
      generalize s.getD k ⟨0, 0, 0, 0⟩ = o at *
      obtain ⟨ok, oi, op, ot⟩ := o
      have e0 : wr.cell? ⟨b1, o1 + k * 4, none⟩ = some (.int .i64 ok) := hcell 0 _ rfl
      have e1 : wr.cell? ⟨b1, o1 + k * 4 + 1, none⟩ = some (.int .i64 oi) := hcell 1 _ rfl
      have e2 : wr.cell? ⟨b1, o1 + k * 4 + 2, none⟩ = some (.int .i64 op) := hcell 2 _ rfl
      have e3 : wr.cell? ⟨b1, o1 + k * 4 + 3, none⟩ = some (.int .i64 ot) := hcell 3 _ rfl
      have HHa := Lib.hid (HH.out.later (below_alloc wr (.cells #[.int .i64 ok, .int .i64 oi, .int .i64 op, .int .i64 ot] 75)))
      have HMra := Lib.hid (HMr.out.later (below_alloc wr (.cells #[.int .i64 ok, .int .i64 oi, .int .i64 op, .int .i64 ot] 75)))
      have HMa := Lib.hid (Mem.one wr #[.int .i64 ok, .int .i64 oi, .int .i64 op, .int .i64 ot] 75)
      clear hcell hkl
      go_upto_region 6 with fail
      generalize wr.alloc _ = wa at *
      have d0 := HMa.out.cell 0 0 rfl rfl
      have d1 := HMa.out.cell 0 1 rfl rfl
      have d2 := HMa.out.cell 0 2 rfl rfl
      have d3 := HMa.out.cell 0 3 rfl rfl
      have hN := HN.out
      by_cases h0 : ok = 0
      · subst h0
        go_wp2_with (refine wpList_load_r aggW HMra.out 1 rfl rfl rfl rfl rfl ?_)
        refine (HHa.out.make (by omega) (by omega) (by omega) (by omega) op ot).mono ?_
        rintro e w2' ⟨m', v', xs', R', rfl, hh, hk, hmd⟩
        have HH2 : Hid (Hp w w2' [q, p] (A.re R') (n + 6 * (k + 1)) 4 (201000 + 600000 * (k + 1)) m' v' xs') := Lib.hid (hh.mono (by omega) (by omega))
        have HMr2 := Lib.hid (HMra.out.off hk (by simp))
        have HFu2 : Hid (∀ a, m'.used.getD a false = true → a ∈ xs') := Lib.hid (by
          rcases hmd with ⟨a, hmd, rfl⟩ | ⟨rfl, rfl, _⟩
          · exact full_made HFu.out hmd HHa.out.ok.ok.lenU
          · exact HFu.out)
        have HCt2 : Hid (Count22 s m' xs' (k + 1)) := Lib.hid (by
          rcases hmd with ⟨a, hmd, rfl⟩ | ⟨rfl, rfl, _, hn⟩
          · exact HCt.out.made
          · exact HCt.out.full hn)
        obtain ⟨sa', sc', rfl, _⟩ := hh.at_.own.cells
        obtain ⟨l', hl'⟩ : ∃ l', l' = xs'.length := ⟨_, rfl⟩
        rw [← hl'] at HH2 ⊢
        clear hh hk hmd d0 d1 d2 d3 hl'
        go_wp2_with (refine wpList_store_r aggW HMr2.out 1 rfl rfl rfl rfl rfl rfl rfl rfl ?_; intro w6 h6 ht6; have H6 := Lib.hid h6; have HT6 := Lib.hid ht6; clear h6 ht6)
        have HH6 := Lib.hid (HH2.out.own (HT6.out.wide (by simp)) HQb.out)
        refine ⟨⟨k + 1, R', m', _, xs', by omega, by omega, rfl, vint (by omega), HH6, H6, HFu2, HCt2⟩, ?_⟩
        simp [intOf]; omega
      · have h0' : (ok == 0) = false := by simpa using h0
        by_cases h1k : ok = 1
        · subst h1k
          go_wp2_with (refine wpList_load_r aggW HMra.out 1 rfl rfl rfl rfl rfl ?_)
          refine (HHa.out.lead (by omega) (by omega) oi op ot).mono ?_
          rintro e w2' ⟨R', rfl, hh, hk⟩
          have HH2 : Hid (Hp w w2' [q, p] (A.re R') (n + 6 * (k + 1)) 4 (201000 + 600000 * (k + 1)) (m.lead xs oi op ot) v xs) := Lib.hid (hh.mono (by omega) (by omega))
          have HMr2 := Lib.hid (HMra.out.off hk (by simp))
          have HCtS : Hid (Count22 s (m.lead xs oi op ot) xs (k + 1)) := Lib.hid (HCt.out.stay (fun e => by rw [HK0.out e]; exact (by decide : (1 : Int) ≠ 0)))
          have HFu2 : Hid (∀ a, (m.lead xs oi op ot).used.getD a false = true → a ∈ xs) := Lib.hid (by rw [lead_used]; exact HFu.out)
          clear hh hk d0 d1 d2 d3
          go_wp2_with fail
          refine ⟨⟨k + 1, R', _, _, xs, by omega, by omega, rfl, vint (by omega), HH2, HMr2, HFu2, HCtS⟩, ?_⟩
          simp [intOf]; omega
        · have h1' : (ok == 1) = false := by simpa using h1k
          go_wp2_with fail
          refine ⟨⟨k + 1, R, _, _, xs, by omega, by omega, rfl, vint (by omega), Lib.hid (HHa.out.mono (by omega) (by omega)), HMra, HFu, Lib.hid (HCt.out.stay (fun e => by rw [HK0.out e]; exact h0))⟩, ?_⟩
          simp [intOf]; omega
    · have hor : (k : Int) = (mm : Int) ∨ ((k : Int) < (mm : Int) ∧ (k : Int) = 40) := by omega
      obtain ⟨sa, sc, rfl, _⟩ := HH.out.at_.own.cells
      have hN := HN.out
      have HEnd : Hid (∀ w6, Touch [q] wr w6 → Post (.returned (.tuple #[vworld A (.slice sa xs.length sc), .bool true])) w6) := Lib.hid (fun w6 ht => HP.out (A.re R) _ m _ xs w6 (((HH.out.own (ht.wide (by simp)) HQb.out).less (by simp)).mono (Nat.le_refl (n + 6 * k)) (by omega)) (by omega) HFu.out (Nat.le_trans HCt.out.le hkm) (fun h1 h2 => HCt.out.one (by rcases hor with h | h <;> omega) h2))
      obtain ⟨l, hl⟩ : ∃ l, l = xs.length := ⟨_, rfl⟩
      rw [← hl] at HMr HEnd
      clear hlt hl
      rcases hor with h1 | ⟨h1, h2⟩
      · obtain rfl : k = mm := by omega
        have hlt' : decide ((k : Int) < (k : Int)) = false := by simp
        clear h1
        go_wp2_with (first
          | (refine wpList_load_r aggW HMr.out 1 rfl rfl rfl rfl rfl ?_)
          | (refine wpList_store_r aggW HMr.out 0 rfl rfl rfl rfl rfl rfl rfl rfl ?_; intro w6 h6 ht6; have H6 := Lib.hid h6; have HT6 := Lib.hid ht6; clear h6 ht6))
        refine bodyPost_ret (results_cell_row2 (p := 2) (u := 3) rfl _ _ _ _ _ _ _ rfl (H6.out.exact 0 rfl) Tryz.underlying28 rfl (by kernel_rfl)) rfl ?_
        exact HEnd.out _ HT6.out
      · obtain rfl : k = 40 := by omega
        clear h2
        go_wp2_with (first
          | (refine wpList_load_r aggW HMr.out 1 rfl rfl rfl rfl rfl ?_)
          | (refine wpList_store_r aggW HMr.out 0 rfl rfl rfl rfl rfl rfl rfl rfl ?_; intro w6 h6 ht6; have H6 := Lib.hid h6; have HT6 := Lib.hid ht6; clear h6 ht6))
        refine bodyPost_ret (results_cell_row2 (p := 2) (u := 3) rfl _ _ _ _ _ _ _ rfl (H6.out.exact 0 rfl) Tryz.underlying28 rfl (by kernel_rfl)) rfl ?_
        exact HEnd.out _ HT6.out

end Go.Proofs.YtfedgcdkagngnaaGreat

/- law22: a heap and a marker over it, that a call has made; awake. -/
namespace Go.Proofs.YtfedgcdkagngnaaGreat
open Go.RowKit
set_option linter.unusedVariables false

/-- A heap and a marker, in memory; Q: other blocks of the call's own. -/
structure HMk (w wr : World) (Q : List Nat) (A : AF) (n N : Nat) (m : Al) (v : Value) (xs : List Nat) (K : MkF) (M : Mk) : Prop where
  hp : Hp w wr (Q ++ K.list) A n 4 N m v xs
  mr : MkAt wr A K M
  lo : ∀ k ∈ Q ++ K.list, w.heap.size ≤ k
  qk : ∀ k ∈ Q, k ∉ K.list
  lm : M.ms.length = m.used.length
  ls : M.sc.length = m.used.length
section
variable {w wr w' : World} {Q Q' : List Nat} {A : AF} {n N N' : Nat} {m m' : Al} {v : Value} {xs : List Nat} {K : MkF} {M M' : Mk}
theorem HMk.ma (h : HMk w wr Q A n N m v xs K M) : MA wr A n 4 m K M := ⟨h.hp.at_.al, h.mr, fun k hk hm => (h.hp.new k hk).2 (List.mem_append_right _ hm), h.lm, h.ls⟩
theorem HMk.later (h : HMk w wr Q A n N m v xs K M) (hb : Below wr.heap.size wr w') : HMk w w' Q A n N m v xs K M := ⟨h.hp.later hb, h.mr.below hb, h.lo, h.qk, h.lm, h.ls⟩
/-- What the marker's calls leave. -/
theorem HMk.go (h : HMk w wr Q A n N m v xs K M) (hg : MAGo wr w' A n 4 m K M') : ∃ v', HMk w w' Q A n N m v xs (K.re v') M' ∧ Off Q wr w' := by
  obtain ⟨v', h1, h2, h3⟩ := hg
  have hm' := h1.mr.mem
  have hp' := h.hp.own (h2.wide (fun b hb => List.mem_append_right _ hb)) h.lo
  have hsz := h.hp.below.size
  have key : ∀ k ∈ (K.re v').list, k ∈ K.list ∨ wr.heap.size ≤ k := fun k hk => by
    rcases MkF.list_re hk with c | c
    · exact .inl (by simp [MkF.list, c])
    · rcases h3 k c with c | c
      · exact .inl (by simp [MkF.list, c])
      · exact .inr c
  refine ⟨v', ⟨⟨hp'.at_, hp'.ok, hp'.steps, fun k hk => ⟨(hp'.new k hk).1, fun hq => ?_⟩, fun b hb => ⟨(hp'.newv b hb).1, fun hq => ?_⟩, fun k hk => ?_, hp'.below⟩, h1.mr, fun k hk => ?_, fun k hk hm => ?_, h1.lm, h1.ls⟩, ⟨K.list, h2, h.qk⟩⟩
  · rcases List.mem_append.1 hq with c | c
    · exact (h.hp.new k hk).2 (List.mem_append_left _ c)
    · exact h1.ap k hk c
  · rcases List.mem_append.1 hq with c | c
    · exact (h.hp.newv b hb).2 (List.mem_append_left _ c)
    · rcases key b c with c | c
      · exact (h.hp.newv b hb).2 (List.mem_append_right _ c)
      · have := h.hp.at_.own.lt b hb; omega
  · rcases List.mem_append.1 hk with c | c
    · exact hp'.qlt k (List.mem_append_left _ c)
    · exact hm' k c
  · rcases List.mem_append.1 hk with c | c
    · exact h.lo k (List.mem_append_left _ c)
    · rcases key k c with c | c
      · exact h.lo k (List.mem_append_right _ c)
      · omega
  · rcases key k hm with c | c
    · exact h.qk k hk c
    · have := h.hp.qlt k (List.mem_append_left _ hk); omega
/-- Steps in the caller's own blocks. -/
theorem HMk.own (h : HMk w wr Q A n N m v xs K M) (ht : Touch Q wr w') : HMk w w' Q A n N m v xs K M :=
  ⟨h.hp.own (ht.wide (fun b hb => List.mem_append_left _ hb)) h.lo, h.mr.keep (fun k hk => ht.block k (h.mr.mem k hk) (fun hq => h.qk k hq hk)), h.lo, h.qk, h.lm, h.ls⟩
/-- More blocks of the caller's. -/
theorem HMk.more (h : HMk w wr Q A n N m v xs K M) (hQ : ∀ k ∈ Q', k ∈ Q ∨ (wr.heap.size ≤ k ∧ k < w'.heap.size)) (hb : Below wr.heap.size wr w') : HMk w w' Q' A n N m v xs K M := by
  have hs := h.hp.below.size
  refine ⟨h.hp.more (fun k hk => ?_) hb, h.mr.below hb, fun k hk => ?_, fun k hk hm => ?_, h.lm, h.ls⟩
  · rcases List.mem_append.1 hk with c | c
    · exact (hQ k c).imp (fun c => List.mem_append_left _ c) id
    · exact .inl (List.mem_append_right _ c)
  · rcases List.mem_append.1 hk with c | c
    · rcases hQ k c with c | c
      · exact h.lo k (List.mem_append_left _ c)
      · omega
    · exact h.lo k (List.mem_append_right _ c)
  · rcases hQ k hk with c | c
    · exact h.qk k c hm
    · have := h.mr.mem k hm; omega
theorem HMk.less (h : HMk w wr Q A n N m v xs K M) (hQ : ∀ k ∈ Q', k ∈ Q) : HMk w wr Q' A n N m v xs K M := by
  refine ⟨h.hp.less (fun k hk => ?_), h.mr, fun k hk => ?_, fun k hk => h.qk k (hQ k hk), h.lm, h.ls⟩
  · rcases List.mem_append.1 hk with c | c
    · exact List.mem_append_left _ (hQ k c)
    · exact List.mem_append_right _ c
  · rcases List.mem_append.1 hk with c | c
    · exact h.lo k (List.mem_append_left _ (hQ k c))
    · exact h.lo k (List.mem_append_right _ c)
theorem HMk.new (h : Hp w wr Q A n 4 N m v xs) (hq : ∀ k ∈ Q, w.heap.size ≤ k) (hb : Below wr.heap.size wr w') (hm : MA w' A n 4 m K M) (hk : ∀ k ∈ K.list, wr.heap.size ≤ k) : HMk w w' Q A n N m v xs K M := by
  have hs := h.below.size
  refine ⟨h.more (fun k hk' => ?_) hb, hm.mr, fun k hk' => ?_, fun k hk' hm' => ?_, hm.lm, hm.ls⟩
  · rcases List.mem_append.1 hk' with c | c
    · exact .inl c
    · exact .inr ⟨hk k c, hm.mr.mem k c⟩
  · rcases List.mem_append.1 hk' with c | c
    · exact hq k c
    · exact Nat.le_trans hs (hk k c)
  · have := h.qlt k hk'
    have := hk k hm'
    omega
theorem HMk.below (h : HMk w wr Q A n N m v xs K M) : Below w.heap.size w wr := h.hp.below
theorem HMk.xlen (h : HMk w wr Q A n N m v xs K M) : xs.length ≤ 2048 := h.hp.ok.len
end

theorem Mk.shades_id {U : List Bool} {M : Mk} : ∀ {l : List Nat}, (∀ y ∈ l, M.fresh U y = false) → M.shades U l = M
  | [], _ => rfl
  | a :: l, h => by
    rw [Mk.shades_cons]
    have : M.shade U a = M := by unfold Mk.shade; rw [h a (by simp)]; rfl
    rw [this]
    exact Mk.shades_id (fun y hy => h y (by simp [hy]))
/-- One object: it is shaded, and black behind a step. -/
theorem awake_marks {U : List Bool} (P : Nat → List Nat) {a : Nat} (ha : U.getD a false = true) (hf : ∀ x, U.getD x false = true → x = a) :
    (Mk.new U.length 1).fresh U a = true ∧ (((Mk.new U.length 1).shade U a).step U P).1 = true ∧ ((((Mk.new U.length 1).shade U a).step U P).2.step U P).1 = false ∧ (((Mk.new U.length 1).shade U a).step U P).2.most = 1 := by
  have hfr : (Mk.new U.length 1).fresh U a = true := by unfold Mk.fresh; rw [ha, Mk.new_ms]; rfl
  have e1 : (Mk.new U.length 1).shade U a = { (Mk.new U.length 1).mark a with st := [a] } := by
    unfold Mk.shade
    rw [if_pos hfr]
    unfold Mk.push
    rw [if_pos (by show (0 : Nat) < 1; omega)]
    rfl
  have hok := (MkOk.new U 1).shade a
  have hms : ((Mk.new U.length 1).shade U a).ms.getD a false = true := by rw [(MkOk.new U 1).shade_mk, ha]; simp
  have hsc : ((Mk.new U.length 1).shade U a).sc.getD a false = false := by rw [Mk.shade_sc, Mk.new_sc]
  have hag : ((Mk.new U.length 1).shade U a).again = false := by rw [e1]; rfl
  have hst : ((Mk.new U.length 1).shade U a).st = [a] := by rw [e1]
  have hmo : ((Mk.new U.length 1).shade U a).most = 1 := by rw [e1]; rfl
  generalize (Mk.new U.length 1).shade U a = M at *
  have hc1 : M.colour a = 1 := (M.colour_grey a).2 ⟨hms, hsc⟩
  have hstep : M.step U P = (true, ({ M with st := [] } : Mk).scan U P a) := by
    unfold Mk.step
    have : M.top M.st = some (a, []) := by rw [hst]; unfold Mk.top; rw [if_pos hc1]
    rw [this]
  have hcov : M.Cover := fun x hx => by
    have h1 := hf x (hok.mu x ((M.colour_grey x).1 hx).1)
    subst h1
    exact .inl (by rw [hst]; simp)
  have hs := Mk.stepped (P := P) hok hcov
  rw [hstep] at hs
  rw [hstep]
  refine ⟨hfr, rfl, ?_, hs.most.trans hmo⟩
  have hok2 := Stepped.ok hok hs
  have hcov2 := Stepped.cover hok hs
  dsimp only at hok2 hcov2 hs ⊢
  have e2 : ({ M with st := [] } : Mk).scan U P a = { M with st := [], sc := M.sc.set a true } := by
    unfold Mk.scan
    refine Mk.shades_id (fun y hy => ?_)
    unfold Mk.fresh
    cases hu : U.getD y false with
    | false => rfl
    | true =>
      have := hf y hu
      subst this
      show (true && !(M.ms.getD y false)) = false
      rw [hms]; rfl
  refine Mk.step_end hok2 hcov2 (fun x hx => ?_) (by rw [e2]; exact hag)
  have hx1 := (Mk.colour_grey _ x).1 hx
  have h1 := hf x (hok2.mu x hx1.1)
  subst h1
  have h2 := hx1.2
  rw [e2] at h2
  dsimp only at h2
  rw [getD_set_bool _ _ _ _ (by rw [hok.ls]; exact getD_true_lt ha), if_pos rfl] at h2
  cases h2

set_option maxHeartbeats 4000000 in
set_option maxRecDepth 100000 in
theorem awake22_any (w : World) : Calls Tryz.prog 31 #[] w (Gives (.bool true) w) := by
  have HP : Hid (∀ w', Below w.heap.size w w' → Gives (.bool true) w (.returned (.bool true)) w') := Lib.hid (fun w' h => ⟨rfl, h⟩)
  generalize Gives (.bool true) w = Post at *
  have HB0 := Lib.hid (below_alloc w (.cells #[.int .i64 0, .int .i64 0, .int .i64 0, .int .i64 0] 75))
  have HC0 : Hid (Cells (w.alloc (.cells #[.int .i64 0, .int .i64 0, .int .i64 0, .int .i64 0] 75)) (some ⟨w.heap.size, 0, none⟩) (recs Op20.cs [⟨0, 0, 0, 0⟩])) :=
    Lib.hid (show RowAt (w.alloc (.cells #[.int .i64 0, .int .i64 0, .int .i64 0, .int .i64 0] 75)) w.heap.size 75 [.int .i64 0, .int .i64 0, .int .i64 0, .int .i64 0] from ⟨_, heap_alloc_new _ _, [], rfl⟩).cells
  go_enter Tryz.func31, Tryz.ntmps31
  go_wp2_with fail
  refine (made22_any _ 1 1 [⟨0, 0, 0, 0⟩] rfl _ HC0.out (by unfold maxLen; omega)).mono ?_
  rintro e w1 ⟨A, n, m, v, xs, rfl, hh, hn, hf, hl, h1⟩
  have hx1 : ∃ a, xs = [a] := by
    have h2 := h1 _ _ rfl rfl
    match xs, hl, h2 with
    | [a], _, _ => exact ⟨a, rfl⟩
    | _ :: _ :: _, h, _ => simp at h
  obtain ⟨a, rfl⟩ := hx1
  obtain ⟨sa, sc, rfl, hcs, _⟩ := hh.at_.own.cells
  have ha := hh.ok.us a (by simp)
  have HMar := Lib.hid (awake_marks (ptrsO m) ha (fun x hx => by simpa using hf x hx))
  have hb := below_alloc w1 (Obj.cells #[valloc A, vdev A.X.F, .slice sa [a].length sc] 28)
  have HAl := Lib.hid (hh.at_.al.below hb)
  have HBw := Lib.hid (HB0.out.trans (hh.below.mono HB0.out.size))
  have hul := hh.ok.ok.lenU
  have HCx : Hid (Cells w1 sa ([a].map vi)) := Lib.hid hcs
  have HMb := Lib.hid (Mem.one w1 #[valloc A, vdev A.X.F, .slice sa [a].length sc] 28)
  have HUl : Hid (m.used.length = 2048) := Lib.hid hul
  clear hh hn hf hl h1 hcs ha hb hul HC0 HB0
  simp only [List.length_singleton] at HMb HAl ⊢
  go_upto_region 2 with fail
  generalize hg : w1.alloc _ = w2 at *
  have HBx := Lib.hid (show Below w1.heap.size w1 w2 by rw [← hg]; exact below_alloc _ _)
  obtain ⟨q, hq⟩ : ∃ q, q = w1.heap.size := ⟨_, rfl⟩
  rw [← hq] at HMb ⊢
  clear hg hq
  have c0 := HMb.out.cell 0 0 rfl rfl
  have c2 := HMb.out.cell 0 2 rfl rfl
  have HCx2 := Lib.hid (HCx.out.below HBx.out (Nat.le_refl _))
  go_wp2_with fail
  refine (mnew_any HAl.out (by rw [HUl.out]; omega) 1 (by omega)).mono ?_
  rintro e w3 ⟨K, rfl, hm3, hb3, hk3⟩
  have HM3 := Lib.hid hm3
  have HMb3 := Lib.hid (HMb.out.later hb3)
  have HKlo := Lib.hid hk3
  have HW3 := Lib.hid hb3
  obtain ⟨b, o, rfl, _, hcx⟩ := (HCx2.out.below hb3 (Nat.le_refl _)).at (i := 0) (by simp)
  have cx : w3.cell? ⟨b, o, none⟩ = some (.int .i64 (a : Int)) := hcx 0 _ rfl
  have d2 := HMb3.out.cell 0 2 rfl rfl
  have HSh := Lib.hid (mshade_any hm3 ⟨Nat.zero_le _, Nat.zero_le _⟩ a)
  rw [show Int.toNat 1 = 1 from rfl] at *
  clear hm3 hb3 hk3 hcx c0 c2
  go_wp2_with fail
  refine HSh.out.mono ?_
  rintro e w4 ⟨rfl, hg4⟩
  rw [HMar.out.1]
  obtain ⟨v4, hm4, ht4, hv4⟩ := hg4
  have HM4 := Lib.hid hm4
  have HT4 := Lib.hid ht4
  have HV4 := Lib.hid hv4
  have HSm : Hid (((Mk.new m.used.length 1).shade m.used a).miss ≤ 1 ∧ ((Mk.new m.used.length 1).shade m.used a).st.length ≤ 1) := Lib.hid (Mk.shade_small (c := 0) (d := 0) ⟨Nat.le_refl _, Nat.le_refl _⟩ a)
  have HFt : Hid (((Mk.new m.used.length 1).shade m.used a).Fits 1) := Lib.hid ((Mk.Fits.new _ _).shade a)
  have HMost : Hid (((Mk.new m.used.length 1).shade m.used a).most = 1) := Lib.hid (Mk.shade_most _ _ _)
  generalize (Mk.new m.used.length 1).shade m.used a = M4 at *
  have HSt := Lib.hid (mstep_any hm4 ⟨Nat.le_trans HSm.out.1 (by omega), Nat.le_trans HSm.out.2 (by omega)⟩)
  change Hid (Calls Tryz.prog 36 #[.pointer (some ⟨K.p, 0, none⟩)] w4 _) at HSt
  have HPl : Hid (∀ x, (ptrsO m x).length ≤ 64) := Lib.hid (fun x => ptrsD_len HAl.out.man.dev.small _)
  clear hm4 ht4 hv4 HSh
  go_wp2_with fail
  refine HSt.out.mono ?_
  rintro e w5 ⟨rfl, hg5⟩
  rw [HMar.out.2.1]
  obtain ⟨v5, hm5, ht5, hv5⟩ := hg5
  have hfit := HFt.out.step (U := m.used) (P := ptrsO m) HPl.out
  have hmost := HMar.out.2.2.2
  have HM5 := Lib.hid hm5
  have HT5 := Lib.hid ht5
  have HV5 := Lib.hid hv5
  have HSt2 := Lib.hid (mstep_any hm5 ⟨Nat.le_trans hfit.miss (by omega), Nat.le_trans hfit.st (by rw [hmost]; omega)⟩)
  change Hid (Calls Tryz.prog 36 #[.pointer (some ⟨K.p, 0, none⟩)] w5 _) at HSt2
  clear hm5 ht5 hv5 HSt hfit hmost
  go_wp2_with fail
  refine HSt2.out.mono ?_
  rintro e w6 ⟨rfl, hg6⟩
  rw [HMar.out.2.2.1]
  obtain ⟨v6, hm6, ht6, hv6⟩ := hg6
  have HT6 := Lib.hid ht6
  clear hm6 ht6 hv6
  go_wp2_with fail
  refine HP.out _ ?_
  have hlo : ∀ k ∈ K.list, w.heap.size ≤ k := fun k hk => Nat.le_trans (Nat.le_trans HBw.out.size HBx.out.size) (HKlo.out k hk)
  have hb2 : Below w.heap.size w w2 := HBw.out.trans (HBx.out.mono HBw.out.size)
  have hb3 : Below w.heap.size w w3 := hb2.trans (HW3.out.mono hb2.size)
  have hK3 := HM3.out.mr.mem
  have hl4 : ∀ k ∈ (K.re v4).list, w.heap.size ≤ k := fun k hk => by
    rcases MkF.list_re hk with c | c
    · exact hlo k (by simp [MkF.list, c])
    · rcases HV4.out k c with c | c
      · exact hlo k (by simp [MkF.list, c])
      · exact Nat.le_trans hb3.size c
  have hl5 : ∀ k ∈ (K.re v5).list, w.heap.size ≤ k := fun k hk => by
    rcases MkF.list_re hk with c | c
    · exact hlo k (by simp [MkF.list, c])
    · rcases HV5.out k c with c | c
      · exact hl4 k (by simp only [MkF.list, MkF.re, List.mem_append, Option.mem_toList]; exact .inr c)
      · exact Nat.le_trans hb3.size (Nat.le_trans HT4.out.size c)
  have q4 := below_touched hb3 HT4.out hlo (Nat.le_refl _)
  have q5 := below_touched q4 HT5.out hl4 (Nat.le_refl _)
  exact below_touched q5 HT6.out hl5 (Nat.le_refl _)

end Go.Proofs.YtfedgcdkagngnaaGreat

/- Plain: what a pointer's change does to where objects lead. -/
namespace Go.Proofs.YtfedgcdkagngnaaGreat
open Go.RowKit
set_option linter.unusedVariables false

section
variable {B : Nat} {m : Al} {xs : List Nat}
end

section
variable {w wr w' : World} {Q : List Nat} {A : AF} {n N N' : Nat} {m m' : Al} {v : Value} {xs : List Nat} {K : MkF} {M : Mk}
end

end Go.Proofs.YtfedgcdkagngnaaGreat

/- law22: MarkBarred. -/
namespace Go.Proofs.YtfedgcdkagngnaaGreat
open Go.RowKit Go.Maps
set_option linter.unusedVariables false

theorem wf_i8s {x : Int} (h : (Lit.int .i8 x).wf = true) : -128 ≤ x ∧ x ≤ 127 := by
  simp [Lit.wf, IntKind.min, IntKind.max, IntKind.bits, IntKind.signed] at h
  omega
theorem Cells.own22 {w wr : World} {Q : List Nat} {A : AF} {n N : Nat} {m : Al} {sa : Option Addr} {l sc : Nat} {xs : List Nat} {K : MkF} {M : Mk} (h : HMk w wr Q A n N m (.slice sa l sc) xs K M) : Cells wr sa (xs.map vi) := by
  obtain ⟨a', c', e', hc', _⟩ := h.hp.at_.own.cells
  injection e' with e1 _ _
  subst e1
  exact hc'

theorem Mk.colour_two (M : Mk) (x : Nat) : M.colour x ≤ 2 := by
  unfold Mk.colour
  split
  · omega
  · split <;> omega

/-- What is kept on the way. -/
structure Bar22 (m : Al) (M : Mk) (c : Nat) : Prop where
  ok : MkOk m.used M
  cover : M.Cover
  bar : M.Barred m.used (ptrsO m) []
  fits : M.Fits c
section
variable {m : Al} {M : Mk} {c : Nat}
theorem Bar22.new (m : Al) (most : Nat) : Bar22 m (Mk.new m.used.length most) 0 := ⟨MkOk.new _ _, Mk.Cover.new _ _, fun x hx => (by rw [Mk.new_sc] at hx; cases hx), Mk.Fits.new _ _⟩
theorem Bar22.shade (h : Bar22 m M c) (a : Nat) : Bar22 m (M.shade m.used a) (c + 1) := ⟨h.ok.shade a, h.cover.shade h.ok a, h.bar.shade h.ok a, h.fits.shade a⟩
end

end Go.Proofs.YtfedgcdkagngnaaGreat

/- ref01: Ints, of two that are alike; ref22: find, Reach. -/
namespace Go.Proofs.YtfedgcdkagngnaaGreat
open Go.RowKit Go.Maps
set_option linter.unusedVariables false

end Go.Proofs.YtfedgcdkagngnaaGreat

/- Plain: digits in a base. -/
namespace Go.Proofs.YtfedgcdkagngnaaGreat
open Go.Lib (decDigits itoa nDigits)
set_option linter.unusedVariables false

end Go.Proofs.YtfedgcdkagngnaaGreat

/- The document's Text of a number (ref31). -/
namespace Go.Proofs.YtfedgcdkagngnaaGreat
open Go.RowKit
set_option linter.unusedVariables false
open Go.Lib (decDigits itoa nDigits)

end Go.Proofs.YtfedgcdkagngnaaGreat

/- dump: digits, Number, Hex; the document's Hex. -/
namespace Go.Proofs.YtfedgcdkagngnaaGreat
open Go.RowKit
set_option linter.unusedVariables false
open Go.Lib (decDigits itoa nDigits)

end Go.Proofs.YtfedgcdkagngnaaGreat

/- dump: Number, Hex; the document's Number, Hex. -/
namespace Go.Proofs.YtfedgcdkagngnaaGreat
open Go.RowKit
set_option linter.unusedVariables false
open Go.Lib (decDigits itoa nDigits)

section
variable {P : Program} {w : World} {ops : Array Oper} {rest : List Oper} {o : Oper} {a : Act} {Q : Exit → Act → World → Prop}
end

end Go.Proofs.YtfedgcdkagngnaaGreat
