/- Parts of the proof, one behind the other: Ew, Ex, Wb, Ey, Wf, Wg, Wm, Wh, Wi, Wj. -/
import Derived.Test.YtfedgcdkagngnaaGreatMA9
import Derived.RangeFuncNested
import Derived.RangeFuncBound
import Derived.RangeFuncCalls
import Derived.RangeFuncLeaves
import Derived.RangeFuncBox
import Derived.Shelf.Abstract
import Derived.WalkKit
import Derived.OwnWalkIn
import Derived.TacticsInMore
import Derived.LoopNIn
import Derived.LoopIn
import Derived.Maps.AppendAt
import Derived.Lib.SliceRun

/- law20: Now: the device as the document's. -/
namespace Go.Proofs.YtfedgcdkagngnaaGreat
open Go.RowKit
set_option linter.unusedVariables false

/-- The device that the words as they are make. -/
def nowD (S : Dev) : Dev := freshDev S.cache S.dirty.length
theorem nowD_fit {S : Dev} (h : S.wf) (N : Nat) : (nowD S).fit N :=
  ⟨⟨rfl, by simp [nowD, freshDev], by simp [nowD, freshDev], by simp [nowD, freshDev, h.lenD], h.small, h.u64C, h.u64C, fun z hz => by simp [nowD, freshDev] at hz; omega⟩, fresh_ok _ _ _, fun h => by cases h⟩
theorem nowD_ref {S : Dev} (h : S.wf) : freshR S.cache S.dirty.length = (nowD S).ref := by
  unfold freshR Dev.ref nowD freshDev
  rw [h.lenD]; rfl

/-- What Now tells. -/
def NowPost (S : Dev) (w : World) : Ending → World → Prop := fun e w' => ∃ v, e = .returned v ∧ RAt w' v S.dirty.length (nowD S).ref ∧ (∀ b, RIn v b → w.heap.size ≤ b) ∧ Below w.heap.size w w'

set_option maxHeartbeats 4000000 in
set_option maxRecDepth 20000 in
theorem wnow_any {w : World} {F : Foot} {S : Dev} (h : DevAt w F S) (x v : Value) (hL : S.cache.length ≤ 8192) :
    Calls Tryz.prog 16 #[.agg #[x, vdev F, v]] w (NowPost S w) := by
  have HMem := Lib.hid (Mem.two w #[x, vdev F, v] 28 zeroD 34)
  have HD0 := Lib.hid (h.below HMem.out.below)
  have HWf := Lib.hid h.wf
  have HP : Hid (∀ v w', RAt w' v S.dirty.length (nowD S).ref → (∀ b, RIn v b → w.heap.size ≤ b) → Below w.heap.size w w' → NowPost S w (.returned v) w') := Lib.hid (fun v w' h1 h2 h3 => ⟨v, rfl, h1, h2, h3⟩)
  generalize NowPost S w = Post at *
  obtain ⟨l, hl⟩ : ∃ l, l = S.cache.length := ⟨_, rfl⟩
  rw [← hl] at hL
  have HL := Lib.hid hl
  clear h hl
  go_enter Tryz.func16, Tryz.ntmps16
  go_upto_region 1 with fail
  rw [show (#[.slice none 0 0, .slice none 0 0, .slice none 0 0, .slice none 0 0, .slice none 0 0, .int .i64 0, .int .i64 0, .bool false] : Array Value) = zeroD from rfl]
  obtain ⟨q, hq⟩ : ∃ q, q = w.heap.size := ⟨_, rfl⟩
  rw [← hq] at HMem ⊢
  have HQ := Lib.hid hq
  generalize (w.alloc _).alloc _ = w0 at *
  clear hq
  go_wp2_with fail
  go_loopw [3, 4] (fun v i wr => ∃ k : Nat, k ≤ l ∧ i = .int .i64 (k : Int) ∧ Hid (wr.ownsRow w0.heap.size 136 1 v k ((S.cache.take k).map vu64)) ∧ Hid (Below w0.heap.size w0 wr)) (fun _ i _ => l - (intOf i).toNat)
  case atStart => exact ⟨0, Nat.zero_le _, rfl, Lib.hid ⟨rfl, .inl ⟨rfl, rfl⟩⟩, Lib.hid (Below.refl _ _)⟩
  case round =>
    obtain ⟨k, hk, rfl, HO, HB⟩ := hrel
    obtain ⟨a1, c1, rfl, hc1, hm1⟩ := owned_form HO.out
    have HM1 := Lib.hid (HMem.out.later HB.out)
    have HD1 := Lib.hid (HD0.out.below HB.out)
    have e1 := HM1.out.cell 0 1 rfl rfl
    by_cases hlt : k < l
    · have hlt' : (k : Int) < (l : Int) := by omega
      have hlt2 : (k : Int) < 8192 := by omega
      have HLn := Lib.hid (dlen_any HD1.out)
      rw [← HL.out] at HLn
      have HGet := Lib.hid (dget_any HD1.out (k : Int))
      rw [peek_in] at HGet
      have HS : Hid ((S.cache.take (k + 1)).map vu64 = (S.cache.take k).map vu64 ++ [vu64 (S.cache.getD k 0)]) := Lib.hid (by
        have : k < S.cache.length := by rw [← HL.out]; exact hlt
        rw [List.take_succ_eq_append_getElem this, List.map_append, List.getD_eq_getElem?_getD, List.getElem?_eq_getElem this]; rfl)
      generalize S.cache.getD k 0 = y at *
      have hone : Hid (∀ u ∈ (#[vu64 y] : Array Value).toList, u.oneCell' = true) := Lib.hid (by intro u hu; simp at hu; subst hu; rfl)
      have hbase : Hid (w0.heap.size ≤ wr.heap.size) := Lib.hid HB.out.size
      have hk9 : k < 1000000000000 := by omega
      go_wp2_with fail
      refine HLn.out.mono ?_
      rintro e w3 ⟨rfl, rfl⟩
      go_wp2_with fail
      refine HGet.out.mono ?_
      rintro e w4 ⟨rfl, rfl⟩
      go_wp2_with (at_builtin; refine wpList_append_new (us := #[vu64 y]) el64 HO.out rfl hone.out hk9 (by decide) hbase.out rfl rfl rfl (by simp [Act.eval]) ?_; intro g6 c6 w6 ho6 hg6 hc6 hm6 hb6 hl6; have HO6 := Lib.hid ho6; have HG6 := Lib.hid hg6; clear ho6 hg6)
      go_roundw
      case rel =>
        refine ⟨k + 1, by omega, vint (by omega), Lib.hid ?_, Lib.hid (below_grownBy HB.out HO.out HG6.out (Nat.le_refl _) (Nat.le_refl _))⟩
        rw [HS.out]
        simpa using HO6.out
      case measure => simp [intOf]; omega
    · obtain rfl : k = l := by omega
      have hlt' : ¬ (k : Int) < (k : Int) := by omega
      have HLn := Lib.hid (dlen_any HD1.out)
      rw [← HL.out] at HLn
      go_wp2_with fail
      refine HLn.out.mono ?_
      rintro e w3 ⟨rfl, rfl⟩
      have HC := Lib.hid (Cells.owned HO.out)
      have hll : S.cache.take k = S.cache := by rw [HL.out, List.take_length]
      rw [hll] at HC
      go_wp2_with fail
      refine (rload_at a1 k c1 S.cache HL.out.symm wr HC.out (by omega) HWf.out.u64C).mono ?_
      rintro e w6 ⟨v6, rfl, hra6, hloc6, hb6⟩
      have h8 := HWf.out.lenD
      have hlo := HL.out
      rw [show (k + 7) / 8 = S.dirty.length by omega, show padTo S.cache (8 * S.dirty.length) = S.cache by unfold padTo; rw [show 8 * S.dirty.length - S.cache.length = 0 by omega]; simp, nowD_ref HWf.out] at hra6
      obtain ⟨an, cn, al, cl, aw, cw, ad, cd, ap, cp, rfl, hex⟩ := hra6.ex
      have HRA := Lib.hid hra6
      have HM6 := Lib.hid (HM1.out.later hb6)
      have HLoc : Hid (∀ b, RIn (.agg #[.slice an S.dirty.length cn, .slice al S.dirty.length cl, .slice aw S.dirty.length cw, .slice ad S.dirty.length cd, .slice ap S.dirty.length cp, .int .i64 (nowD S).ref.steps, .int .i64 (nowD S).ref.fuse, .bool (nowD S).ref.dead]) b → wr.heap.size ≤ b) := Lib.hid (by
        rintro b ⟨cs, hcs, i, x, n, c, hi, rfl⟩
        exact hloc6 cs hcs i x n c hi)
      have HWr := Lib.hid (show q + 2 ≤ wr.heap.size by have := HM1.out.glt 0 rfl; have := HM1.out.glt 1 rfl; omega)
      clear hra6 hloc6 hb6 hex hll h8 hlo
      generalize (nowD S).ref.steps = st at *
      generalize (nowD S).ref.fuse = fz at *
      generalize (nowD S).ref.dead = dd at *
      go_wp2_with (refine wpList_store_mem aggRd HM6.out 1 rfl rfl rfl rfl rfl rfl rfl rfl ?_; intro w8 h8 ht8; have H8 := Lib.hid h8; have HT8 := Lib.hid ht8; clear h8 ht8)
      refine bodyPost_ret (results_cell_row rfl _ _ _ _ _ _ _ rfl (H8.out.exact 1 rfl) Tryz.underlying34 rfl (by kernel_rfl)) rfl ?_
      refine HP.out _ _ (HRA.out.touch HT8.out (.inr (fun b hb hm => ?_))) (fun b hb => ?_) H8.out.below
      · have := HLoc.out b hb
        have := HWr.out
        simp at hm; omega
      · have := HLoc.out b hb
        have := HWr.out
        have := HQ.out
        omega

end Go.Proofs.YtfedgcdkagngnaaGreat

/- law20: a heap of objects that calls leave: plain; in memory. -/
namespace Go.Proofs.YtfedgcdkagngnaaGreat
open Go.RowKit
set_option linter.unusedVariables false

/-- Objects that were made are in use, each once. -/
structure WOk (B : Nat) (m : Al) (xs : List Nat) : Prop where
  ok : AlOk B m
  us : ∀ x ∈ xs, m.used.getD x false = true
  nd : xs.Nodup
section
variable {B : Nat} {m m' : Al} {xs : List Nat}
theorem WOk.begun (hB2 : 2 ≤ B) (hB : B ≤ 100) : WOk B (al0 B) [] := ⟨al0_ok hB2 hB, by simp, List.nodup_nil⟩
theorem WOk.lt (h : WOk B m xs) {x : Nat} (hx : x ∈ xs) : 512 ≤ x ∧ x < 512 * B := by
  have h1 := h.us x hx
  have h2 := getD_true_lt h1
  rw [h.ok.lenU] at h2
  exact ⟨(h.ok.used_kind h1).1, h2⟩
theorem nodup_count {l : List Nat} (h : l.Nodup) (a : Nat) : l.count a ≤ 1 := List.nodup_iff_count.1 h a
theorem WOk.len (h : WOk B m xs) : xs.length ≤ 512 * B := nodup_len _ _ (fun x hx => (h.lt hx).2) (nodup_count h.nd)
theorem WOk.made (h : WOk B m xs) {a : Nat} {p d : Int} (hm : Made B m m' a p d) : WOk B m' (xs ++ [a]) := by
  have ha : m'.used.getD a false = true := by
    have h1 := placed_room hm.placed
    have h2 := h1.pos.2.2
    have h3 := h1.pos.1
    rw [hm.ok.bm.lenL] at h2
    rw [hm.used, getD_set_bool _ _ _ _ (by rw [h.ok.lenU]; omega), if_pos rfl]
  refine ⟨hm.ok, fun x hx => ?_, ?_⟩
  · rcases List.mem_append.1 hx with hx | hx
    · exact (hm.others h.ok (h.us x hx)).1
    · simp at hx; subst hx; exact ha
  · rw [List.nodup_append]
    refine ⟨h.nd, by simp, fun x hx y hy => ?_⟩
    simp at hy; subst hy
    intro e; subst e
    have := h.us x hx
    rw [hm.new] at this; cases this
theorem setPtr_okN {S : Dev} {N : Nat} (h : S.ok N) (a i x : Int) : (S.setPtr a i x).dev.ok (N + 1) := by
  unfold Dev.setPtr
  split
  · exact h.mono (by omega)
  · split
    · exact h.mono (by omega)
    · exact Dev.store_okN h _ _
theorem lead_okN {N : Nat} (h : m.bm.dev.ok N) (i p t : Int) : (m.lead xs i p t).bm.dev.ok (N + 1) := by
  unfold Al.lead
  split
  · exact h.mono (by omega)
  · exact setPtr_okN h _ _ _

/-- What a pointer's change does. -/
theorem lead_is (h : WOk B m xs) (hB : B ≤ 200) (i p t : Int) : m.lead xs i p t = m ∨
    ∃ (x : Nat) (o : Odec) (k : Nat), x = pickN xs i ∧ x ≠ 0 ∧ placedN m.bm.dev m.bm.list (x : Int) = some o ∧ p = (k : Int) ∧ p < o.p ∧ m.lead xs i p t = ⟨⟨m.bm.dev.store ((x + 1 + k : Nat) : Int) (pickN xs t), m.bm.list, m.bm.free⟩, m.used, m.fl⟩ := by
  by_cases c : pickN xs i = 0
  · left; unfold Al.lead; rw [if_pos c]
  · have hu := h.us _ (pickN_mem c)
    obtain ⟨o, ho⟩ := Option.isSome_iff_exists.1 (h.ok.placed _ hu)
    obtain ⟨h1, h2, _⟩ := placed_head ho
    have hc : (headN m.bm.dev ((pickN xs i : Nat) : Int)).code = 0 := by rw [h1]; exact h2
    have hpl : placeN m.bm.dev ((pickN xs i : Nat) : Int) p false = if 0 ≤ p ∧ p < o.p then ⟨((pickN xs i : Nat) : Int) + (1 + p), 0⟩ else ⟨0, 7⟩ := by
      unfold placeN
      rw [if_neg (show ¬ (headN m.bm.dev ((pickN xs i : Nat) : Int)).code ≠ 0 by omega), h1]; rfl
    unfold Al.lead
    rw [if_neg c]
    by_cases hp : 0 ≤ p ∧ p < o.p
    · right
      obtain ⟨k, rfl⟩ := Int.eq_ofNat_of_zero_le hp.1
      refine ⟨_, o, k, rfl, c, ho, rfl, hp.2, ?_⟩
      have e1 : m.bm.dev.setPtr ((pickN xs i : Nat) : Int) (k : Int) ((pickN xs t : Nat) : Int) = ⟨m.bm.dev.store (((pickN xs i : Nat) : Int) + (1 + (k : Int))) ((pickN xs t : Nat) : Int).toNat, m.bm.dev.storeE (((pickN xs i : Nat) : Int) + (1 + (k : Int)))⟩ := by
        unfold Dev.setPtr
        rw [hpl, if_pos hp]
        exact (if_neg (fun h => h rfl)).trans (if_neg (by omega))
      rw [e1]
      dsimp only
      rw [show ((pickN xs i : Nat) : Int) + (1 + (k : Int)) = ((pickN xs i + 1 + k : Nat) : Int) by push_cast; omega, Int.toNat_natCast]
    · left
      have e1 : m.bm.dev.setPtr ((pickN xs i : Nat) : Int) p ((pickN xs t : Nat) : Int) = ⟨m.bm.dev, 7⟩ := by
        unfold Dev.setPtr
        rw [hpl, if_neg hp]
        exact if_pos (fun h => by cases h)
      rw [e1]
theorem placed_size {S : Dev} {L : List Hd} {a : Int} {o : Odec} (h : placedN S L a = some o) : objSize o.p o.d ≠ 0 ∧ 0 ≤ o.p ∧ o.p < 64 ∧ 0 ≤ o.d ∧ o.d ≤ 16384 := by
  obtain ⟨h1, h2, _⟩ := placed_head h
  have := headN_code S a
  rw [h1] at this
  rcases this with this | this
  · have h3 := obj_small this.2.2.2.1
    exact ⟨this.2.2.2.1, h3.1.1, h3.1.2, h3.2⟩
  · rw [this] at h2; cases h2
theorem objSize_is {p d : Int} (h : objSize p d ≠ 0) : (objSize p d : Int) = 1 + p + d := by
  unfold objSize at h ⊢
  split
  · next c => rw [if_pos c] at h; exact absurd rfl h
  · omega
theorem WOk.lead (h : WOk B m xs) (hB : B ≤ 200) (i p t : Int) : WOk B (m.lead xs i p t) xs := by
  rcases lead_is h hB i p t with e | ⟨x, o, k, hx, x0, ho, rfl, hk, e⟩
  · rw [e]; exact h
  · have hu := h.us _ (hx ▸ pickN_mem (by rw [← hx]; exact x0))
    obtain ⟨s1, s2, s3, s4, s5⟩ := placed_size ho
    have hs := objSize_is s1
    have hv : pickN xs t < 18446744073709551616 := by
      by_cases c : pickN xs t = 0
      · omega
      · have := (h.lt (pickN_mem c)).2; omega
    obtain ⟨_, a2, _, _⟩ := h.ok.store hB hu ho (j := x + 1 + k) (v := pickN xs t) (by omega) (by omega) hv
    rw [e]
    exact ⟨a2, h.us, h.nd⟩
end

/-- While a block is free, there is room for a small object. -/
theorem roomy {B : Nat} {m : Al} (h : BmOk B m.bm) {b n : Nat} (h1 : 1 ≤ b) (h2 : b < B) (hk : (m.bm.list.getD b default).k = 0) (hs : small n) : ¬ NoRoom m n := by
  intro hn
  have hp := (hn.cell hs).1
  obtain ⟨s, k, hr, _, _⟩ := has_run (L := m.bm.free.length) (fun x hx => fb_far m.bm.free x hx) ((h.free b).2 ⟨h1, h2, hk⟩)
  have hb := pick_best (n := 1) (runsOf_is m.bm.free).rising
  rw [hp] at hb
  have h3 := hb s k (((runsOf_is m.bm.free).mem s k).2 hr)
  have := hr.1
  omega
theorem roomy0 {B n : Nat} (hB2 : 2 ≤ B) (hB : B ≤ 100) (hs : small n) : ¬ NoRoom (al0 B) n := by
  refine roomy (al0_ok hB2 hB).bm (b := 1) (Nat.le_refl _) (by omega) ?_ hs
  rw [al0_list hB2 hB, List.getD_eq_getElem?_getD, List.getElem?_replicate, if_pos (by omega)]; rfl

/-- Blocks that a call leaves as they are. -/
def Off (Q : List Nat) (w w' : World) : Prop := ∃ L, Touch L w w' ∧ ∀ k ∈ Q, k ∉ L
theorem Off.block {Q : List Nat} {w w' : World} (h : Off Q w w') {k : Nat} (hk : k ∈ Q) (hl : k < w.heap.size) : w'.heap[k]? = w.heap[k]? := by
  obtain ⟨L, h1, h2⟩ := h; exact h1.block k hl (h2 k hk)
theorem Off.less {Q Q' : List Nat} {w w' : World} (h : Off Q w w') (hQ : ∀ k ∈ Q', k ∈ Q) : Off Q' w w' := by
  obtain ⟨L, h1, h2⟩ := h; exact ⟨L, h1, fun k hk => h2 k (hQ k hk)⟩
theorem MemR.off {B : Nat} {W W' : World} {L : List Ent} {Q : List Nat} (h : MemR B W L) (ho : Off Q W W') (hQ : ∀ x ∈ L.map Ent.g, x ∈ Q) : MemR B W' L := by
  obtain ⟨X, h1, h2⟩ := ho
  exact h.apart h1 (fun x hx => h2 _ (hQ _ (List.mem_map_of_mem hx)))

/-- A heap of law20 that a call has made, in memory; Q: other blocks of the call's own. -/
structure Hp (w wr : World) (Q : List Nat) (A : AF) (n B N : Nat) (m : Al) (v : Value) (xs : List Nat) : Prop where
  at_ : WAt wr A n B m v xs
  ok : WOk B m xs
  steps : m.bm.dev.ok N
  new : ∀ k ∈ A.list, w.heap.size ≤ k ∧ k ∉ Q
  newv : ∀ b, rowOf v = some b → w.heap.size ≤ b ∧ b ∉ Q
  qlt : ∀ k ∈ Q, k < wr.heap.size
  below : Below w.heap.size w wr
section
variable {w wr w' : World} {Q : List Nat} {A : AF} {n n' B N N' : Nat} {m m' : Al} {v v' : Value} {xs xs' : List Nat}
theorem Hp.later (h : Hp w wr Q A n B N m v xs) (hb : Below wr.heap.size wr w') : Hp w w' Q A n B N m v xs :=
  ⟨h.at_.below hb, h.ok, h.steps, h.new, h.newv, fun k hk => Nat.lt_of_lt_of_le (h.qlt k hk) hb.size, h.below.trans (hb.mono h.below.size)⟩
theorem Hp.mono (h : Hp w wr Q A n B N m v xs) (hn : n ≤ n') (hN : N ≤ N') : Hp w wr Q A n' B N' m v xs :=
  ⟨h.at_.mono hn, h.ok, h.steps.mono hN, h.new, h.newv, h.qlt, h.below⟩
/-- Steps in the caller's own blocks. -/
theorem Hp.own (h : Hp w wr Q A n B N m v xs) (ht : Touch Q wr w') (hQ : ∀ k ∈ Q, w.heap.size ≤ k) : Hp w w' Q A n B N m v xs :=
  ⟨⟨h.at_.al.keep (fun k hk => ht.block k (h.at_.al.mem k hk) (h.new k hk).2), h.at_.own.keep (fun b hb => ht.block b (h.at_.own.lt b hb) (h.newv b hb).2), h.at_.apart⟩,
    h.ok, h.steps, h.new, h.newv, fun k hk => Nat.lt_of_lt_of_le (h.qlt k hk) ht.size, below_touched h.below ht hQ (Nat.le_refl _)⟩
theorem Hp.go (h : Hp w wr Q A n B N m v xs) (hg : WGo wr w' A n' B m' v' xs') (hok : WOk B m' xs') (hs : m'.bm.dev.ok N') (hv : ∀ b, rowOf v' = some b → rowOf v = some b ∨ wr.heap.size ≤ b) :
    ∃ R, Hp w w' Q (A.re R) n' B N' m' v' xs' ∧ Off Q wr w' := by
  obtain ⟨R, h1, h2, h3⟩ := hg
  have hlt := h.below.size
  refine ⟨R, ⟨h1, hok, hs, fun k hk => ?_, fun b hb => ?_, fun k hk => Nat.lt_of_lt_of_le (h.qlt k hk) h2.size, below_touched h.below h2 (fun k hk => (h.new k (AF.hot_list hk)).1) (Nat.le_refl _)⟩, ⟨A.hot, h2, fun k hk hm => (h.new k (AF.hot_list hm)).2 hk⟩⟩
  · rcases AF.re_list hk with c | c
    · exact h.new k c
    · rcases h3 k c with c | c
      · exact h.new k (by simp [AF.list, c])
      · exact ⟨Nat.le_trans hlt c, fun hq => by have := h.qlt k hq; omega⟩
  · rcases hv b hb with c | c
    · exact h.newv b c
    · exact ⟨Nat.le_trans hlt c, fun hq => by have := h.qlt b hq; omega⟩
theorem Hp.more (h : Hp w wr Q A n B N m v xs) {Q' : List Nat} (hQ : ∀ k ∈ Q', k ∈ Q ∨ (wr.heap.size ≤ k ∧ k < w'.heap.size)) (hb : Below wr.heap.size wr w') : Hp w w' Q' A n B N m v xs := by
  have h' := h.later hb
  refine { h' with new := fun k hk => ⟨(h.new k hk).1, fun hq => ?_⟩, newv := fun b hb' => ⟨(h.newv b hb').1, fun hq => ?_⟩, qlt := fun k hk => ?_ }
  · rcases hQ k hq with c | c
    · exact (h.new k hk).2 c
    · have := h.at_.al.mem k hk; omega
  · rcases hQ b hq with c | c
    · exact (h.newv b hb').2 c
    · have := h.at_.own.lt b hb'; omega
  · rcases hQ k hk with c | c
    · exact h'.qlt k c
    · exact c.2
theorem Hp.less (h : Hp w wr Q A n B N m v xs) {Q' : List Nat} (hQ : ∀ k ∈ Q', k ∈ Q) : Hp w wr Q' A n B N m v xs :=
  { h with new := fun k hk => ⟨(h.new k hk).1, fun hq => (h.new k hk).2 (hQ k hq)⟩, newv := fun b hb => ⟨(h.newv b hb).1, fun hq => (h.newv b hb).2 (hQ b hq)⟩, qlt := fun k hk => h.qlt k (hQ k hk) }
/-- Make, Lead, of such a heap. -/
def HpMade (w wr : World) (Q : List Nat) (A : AF) (n B N : Nat) (m : Al) (v : Value) (xs : List Nat) (p d : Int) : Ending → World → Prop := fun e w' => ∃ (m' : Al) (v' : Value) (xs' R : List Nat),
  e = .returned (.tuple #[vworld A v', .bool true]) ∧ Hp w w' Q (A.re R) (n + 6) B (N + 600000) m' v' xs' ∧ Off Q wr w' ∧ ((∃ a, Made B m m' a p d ∧ xs' = xs ++ [a]) ∨ (m' = m ∧ xs' = xs ∧ v' = v ∧ NoRoom m (objSize p d)))
theorem Hp.make (h : Hp w wr Q A n B N m v xs) (hB2 : 2 ≤ B) (hB : B ≤ 200) (hn : n < 900000000000) (hN : N ≤ 900000000) (p d : Int) :
    Calls Tryz.prog 76 #[vworld A v, .int .i64 p, .int .i64 d] wr (HpMade w wr Q A n B N m v xs (clampI p 8) (clampI d 12)) := by
  have hl := h.ok.len
  refine (wmake_any h.at_ h.ok.ok hB2 hB hn hN h.steps (by omega) p d).mono ?_
  rintro e w' ⟨m', v', xs', rfl, hg, hm, hv, ha⟩
  have hs : m'.bm.dev.ok (N + 600000) := by rw [ha]; exact alloc_okN h.ok.ok.bm.clean.inv h.steps (by rw [h.ok.ok.bm.lenL]; omega) _ _ _
  have hok : WOk B m' xs' := by
    rcases hm with ⟨a, hm, rfl⟩ | ⟨rfl, rfl, _⟩
    · exact h.ok.made hm
    · exact h.ok
  obtain ⟨R, h1, h2⟩ := h.go hg hok hs hv
  exact ⟨m', v', xs', R, rfl, h1, h2, hm⟩
def HpLed (w wr : World) (Q : List Nat) (A : AF) (n B N : Nat) (m : Al) (v : Value) (xs : List Nat) : Ending → World → Prop := fun e w' => ∃ R : List Nat, e = .returned (.tuple #[]) ∧ Hp w w' Q (A.re R) n B (N + 1) m v xs ∧ Off Q wr w'
theorem Hp.lead (h : Hp w wr Q A n B N m v xs) (hB : B ≤ 200) (hN : N ≤ 900000000) (i p t : Int) :
    Calls Tryz.prog 59 #[vworld A v, .int .i64 i, .int .i64 p, .int .i64 t] wr (HpLed w wr Q A n B N (m.lead xs i p t) v xs) := by
  have hl := h.ok.len
  refine (wlead_any h.at_ hN h.steps (by omega) (fun x hx => by have := (h.ok.lt hx).2; omega) i p t).mono ?_
  rintro e w' ⟨rfl, hg⟩
  obtain ⟨R, h1, h2⟩ := h.go hg (h.ok.lead hB i p t) (lead_okN h.steps i p t) (fun b hb => .inl hb)
  exact ⟨R, rfl, h1, h2⟩
end

end Go.Proofs.YtfedgcdkagngnaaGreat

/- bitmap: All, List: a range over a function. -/
namespace Go.Proofs.YtfedgcdkagngnaaGreat
open Go.RowKit Go.Shelf
set_option linter.unusedVariables false

attribute [local go_sem] Oper.semAt_some

theorem onesF_next {l : List Bool} {a : Nat} : onesF l a = match nextB l a with | some i => i :: onesF l (i + 1) | none => [] := by
  cases h : nextB l a with
  | none => exact onesF_none h
  | some i => exact onesF_step h

/-- All that has come, and what is still to come. -/
def Coming (l : List Bool) (pre : List Nat) (o : Option Nat) : Prop := onesL l = pre ++ (match o with | some i => i :: onesF l (i + 1) | none => [])

theorem Coming.start (l : List Bool) : Coming l [] (nextB l 0) := by unfold Coming; rw [List.nil_append, ← onesF_zero]; exact onesF_next
theorem Coming.next {l : List Bool} {pre : List Nat} {i : Nat} (h : Coming l pre (some i)) : Coming l (pre ++ [i]) (nextB l (i + 1)) := by
  unfold Coming at h ⊢
  rw [h, ← onesF_next]; simp
theorem Coming.done {l : List Bool} {pre : List Nat} (h : Coming l pre none) : pre = onesL l := by unfold Coming at h; simpa using h.symm
theorem Coming.lt {l : List Bool} {pre : List Nat} {i : Nat} (h : Coming l pre (some i)) : pre.length < (onesL l).length := by unfold Coming at h; rw [h]; simp
theorem Coming.pre {l : List Bool} {pre : List Nat} {i : Nat} (h : Coming l pre (some i)) : pre ++ [i] <+: onesL l := by unfold Coming at h; rw [h]; exact ⟨onesF l (i + 1), by simp⟩
theorem Coming.in_ {l : List Bool} {pre : List Nat} {i : Nat} (h : Coming l pre (some i)) : i < l.length := by
  have : i ∈ onesL l := by unfold Coming at h; rw [h]; simp
  unfold onesL at this
  exact List.mem_range.1 (List.mem_filter.1 this).1
theorem nextV_eq (o : Option Nat) : nextV o = .tuple #[.int .i64 ((o.getD 0 : Nat) : Int), .bool o.isSome] := by cases o <;> rfl
/-- How much is left: read off the slots. -/
def leftB (n : Nat) (v b : Value) : Nat := match b with
  | .bool true => n + 1 - (intOf v).toNat
  | _ => 0
theorem leftB_next {l : List Bool} {pre : List Nat} {i : Nat} (h : Coming l pre (some i)) : leftB l.length (.int .i64 (((nextB l (i + 1)).getD 0 : Nat) : Int)) (.bool (nextB l (i + 1)).isSome) < leftB l.length (.int .i64 (i : Int)) (.bool true) := by
  have hi := h.in_
  cases ho : nextB l (i + 1) with
  | none => simp [leftB, intOf]; omega
  | some j =>
    have := nextB_is ho
    simp [leftB, intOf]; omega

/-- What a round keeps: whatever lay below, and a box. -/
def KpB (n₀ Bn : Nat) (A B : World) : Prop := Below n₀ A B ∧ B.heap[Bn]? = A.heap[Bn]?
theorem KpB.trans {n₀ Bn : Nat} {A B C : World} (h : KpB n₀ Bn A B) (k : KpB n₀ Bn B C) : KpB n₀ Bn A C := ⟨h.1.trans k.1, k.2.trans h.2⟩
theorem KpB.book {n₀ Bn : Nat} {w : World} (hn : n₀ ≤ w.heap.size) (hB : Bn < w.heap.size) (W : World) (l : Nat) (o o' : Obj) (hl : w.heap.size ≤ l) (h : W.heap[l]? = some o) (h1 : o.isCells = false) (h2 : o.isWalk = false) : KpB n₀ Bn W (W.putObj l o') :=
  ⟨belowK_b hn W l o o' hl h h1 h2, World.putObj_heap_other (by omega)⟩

set_option maxRecDepth 100000 in
set_option maxHeartbeats 2000000 in
theorem sall1_in {X : SetF} {l : List Bool} (n : Nat) (hn : 1 ≤ n) (lp Bn n₀ : Nat) (J Jx : List Nat → World → Prop)
    (hY : ∀ pre (x : Nat) W, J pre W → pre.length < (onesL l).length → YieldAt Fence.wide (n - 1) Tryz.prog lp #[.int .i64 (x : Int)] W fun e W' =>
      (e = .returned (.bool true) ∧ J (pre ++ [x]) W' ∧ KpB n₀ Bn W W') ∨ (e = .returned (.bool false) ∧ Jx (pre ++ [x]) W'))
    (W : World) (hBn : Boxed W Bn 43 (vset X)) (hS : SetAt W X l) (hX : ∀ k ∈ X.list, k < n₀) (h0 : J [] W) :
    CallsIn Fence.wide n Tryz.prog 179 #[.func (.yield lp) #[] #[], .pointer (some ⟨Bn, 0, none⟩)] W fun e W' => (∃ v, e = .returned v) ∧
      ((∃ ys, ys = onesL l ∧ J ys W') ∨ (∃ pre, pre <+: onesL l ∧ Jx pre W')) := by
  have HS := Lib.hid hS
  refine callsIn_of_wp Tryz.func179 rfl trivial ?_ rfl
  simp only [Tryz.ntmps179, List.size_toArray, List.length_cons, List.length_nil, Nat.reduceAdd, Nat.reduceSub, Array.replicate_succ, Array.replicate_zero, List.push_toArray, List.append_toArray, List.nil_append, List.cons_append]
  have HN0 := Lib.hid (snext_any hS 0)
  rw [show (0 : Int).toNat = 0 from rfl, nextV_eq] at HN0
  have HC0 := Lib.hid (Coming.start l)
  generalize nextB l 0 = o0 at *
  have hc0 := hBn.cell
  clear hS
  gi_wp2_with (refine ⟨trivial, ?_⟩; gi_at_call 166; refine (callsIn_wide.2 HN0.out).mono ?_; rintro e w1 ⟨rfl, rfl⟩)
  gi_loopw [3, 4] (fun v b wr => ∃ (pre : List Nat) (o : Option Nat), v = .int .i64 ((o.getD 0 : Nat) : Int) ∧ b = .bool o.isSome ∧ Hid (Coming l pre o) ∧ Hid (SetAt wr X l) ∧ Boxed wr Bn 43 (vset X) ∧ J pre wr) (fun v b _ => leftB l.length v b)
  case atStart => exact ⟨[], o0, rfl, rfl, HC0, HS, hBn, h0⟩
  case round =>
    clear HN0 hBn h0 HS HC0 hc0
    obtain ⟨pre, o, rfl, rfl, HC, HS, hBn, hJ⟩ := hrel
    cases o with
    | none =>
      simp only [Option.isSome_none, Option.getD_none]
      gi_wp2
      go_end0
      exact ⟨⟨_, rfl⟩, .inl ⟨pre, HC.out.done, hJ⟩⟩
    | some i =>
      simp only [Option.isSome_some, Option.getD_some]
      obtain ⟨fn, tmps, assign, body, hy, hR⟩ := hY pre i wr hJ HC.out.lt
      gi_wp2
      refine hR.mono ?_
      rintro e W3 (⟨rfl, hJ3, hk3⟩ | ⟨rfl, hJx3⟩)
      · have hBn3 : Boxed W3 Bn 43 (vset X) := hk3.2.trans hBn
        have hc3 := hBn3.cell
        have HS3 := Lib.hid (HS.out.keep (fun k hk => hk3.1.block k (hX k hk)))
        have HN := Lib.hid (snext_any HS3.out ((i : Int) + 1))
        rw [show ((i : Int) + 1).toNat = i + 1 by omega, nextV_eq] at HN
        have HL := Lib.hid (leftB_next HC.out)
        have HC3 := Lib.hid HC.out.next
        have hil := HC.out.in_
        have hls := HS.out.small
        clear hk3 hy hR
        generalize nextB l (i + 1) = o at *
        gi_wp2_with (refine ⟨trivial, ?_⟩; gi_at_call 166; refine (callsIn_wide.2 HN.out).mono ?_; rintro e w1 ⟨rfl, rfl⟩)
        go_roundw
        case rel => exact ⟨pre ++ [i], o, rfl, rfl, HC3, HS3, hBn3, hJ3⟩
        case measure => exact HL.out
      · gi_wp2
        refine bodyPost_ret (results_none rfl _ _ _) rfl ?_
        exact ⟨⟨_, rfl⟩, .inr ⟨pre ++ [i], HC.out.pre, hJx3⟩⟩

set_option maxHeartbeats 1000000 in
theorem sall_in (X : SetF) (n : Nat) (w : World) :
    CallsIn Fence.wide n Tryz.prog 127 #[vset X] w fun e w' => e = .returned (.func (.func 179) #[] #[.pointer (some ⟨w.heap.size, 0, none⟩)]) ∧ w' = w.alloc (.cells #[vset X] 43) := by
  refine callsIn_of_wp Tryz.func127 rfl trivial ?_ rfl
  simp only [Tryz.ntmps127, List.size_toArray, List.length_cons, List.length_nil, Nat.reduceAdd, Nat.reduceSub, Array.replicate_succ, Array.replicate_zero, List.push_toArray, List.append_toArray, List.nil_append, List.cons_append]
  gi_wp2
  go_ret
  exact ⟨rfl, rfl⟩

theorem sall_stops {X : SetF} {l : List Bool} (n : Nat) (hn : 1 ≤ n) (Bn n₀ : Nat) (w : World) (hn₀ : n₀ ≤ w.heap.size) (hc : Boxed w Bn 43 (vset X)) (hS : SetAt w X l) (hX : ∀ k ∈ X.list, k < n₀) :
    SeqStopsK Fence.wide n Tryz.prog 179 #[.pointer (some ⟨Bn, 0, none⟩)] (fun x : Nat => #[Value.int .i64 (x : Int)]) (KpB n₀ Bn) (fun ys => ys = onesL l) (fun pre => pre <+: onesL l) (onesL l).length w := fun lp J Jx W hW _ _ hY h0 =>
  sall1_in n hn lp Bn n₀ J Jx hY W ((hW.block Bn hc.lt).trans hc) (hS.below hW) hX h0

theorem infoInt : (Tryz.prog.info? 3).map (fun i => (i.zero, i.size, i.bytes)) = some (some (.int .i64 0), 1, 8) := by kernel_rfl

/-- A list in memory of its own. -/
def ListPost (w : World) (xs : List Nat) : Ending → World → Prop := fun e w' => ∃ v, e = .returned v ∧ w'.ownsRow w.heap.size 3 1 v xs.length (xs.map vi) ∧ (v = .slice none 0 0 ↔ xs = []) ∧ Below w.heap.size w w'

set_option maxRecDepth 100000 in
set_option maxHeartbeats 2000000 in
theorem slist_any {w : World} {X : SetF} {l : List Bool} (h : SetAt w X l) : Calls Tryz.prog 98 #[vset X] w (ListPost w (onesL l)) := by
  have hlen : (onesL l).length ≤ 1000000 := by rw [onesL_length]; exact Nat.le_trans (count_le_len l) h.small
  obtain ⟨i0, hi, hz0, hz1, hz2⟩ := info_parts infoInt
  refine (callsIn_wide (n := 5)).1 ?_
  refine callsIn_of_wp_marks Tryz.func98 rfl trivial ?_ rfl
  simp only [Tryz.ntmps98, List.size_toArray, List.length_cons, List.length_nil, Nat.reduceAdd, Nat.reduceSub, Array.replicate_succ, Array.replicate_zero, List.push_toArray, List.append_toArray, List.nil_append, List.cons_append]
  gi_wp2_with (refine ⟨trivial, ?_⟩; gi_at_call 127; refine (sall_in X _ _).mono ?_; rintro e w' ⟨rfl, rfl⟩)
  have bO := Boxed.new w 26 (.slice none 0 0)
  have bN := Boxed.new (w.alloc (.cells #[.slice none 0 0] 26)) 43 (vset X)
  rw [World.size_alloc] at bN
  have hB0 : Below w.heap.size w ((w.alloc (.cells #[.slice none 0 0] 26)).alloc (.cells #[vset X] 43)) := ((Below.refl _ w).alloc (Nat.le_refl _) _).alloc (by simp) _
  refine wpIn_rangeFunc_ownG rfl (by omega) (gf := 179) (lb := #[.pointer (some ⟨w.heap.size + 1, 0, none⟩)]) rfl trivial (enters_of Tryz.func179 (by kernel_rfl) rfl)
    (sall_stops 4 (by omega) (w.heap.size + 1) w.heap.size _ (by simp; omega) bN (h.below hB0) h.mem) KpB.trans (KpB.book (by simp; omega) (by simp)) (Below.refl _ _) (fun _ => rfl)
    (fun pre W => (∃ v, Boxed W w.heap.size 26 v ∧ W.ownsRow w.heap.size 3 1 v pre.length (pre.map vi) ∧ (v = .slice none 0 0 ↔ pre = [])) ∧ Boxed W (w.heap.size + 1) 43 (vset X) ∧ Below w.heap.size w W)
    (fun _ _ _ => False)
    (OwnFrom.and (Own.from (holdsRow_own w.heap.size w.heap.size 26 3 1 (fun pre : List Nat => pre.length) (fun pre => pre.map vi) (fun pre v => v = .slice none 0 0 ↔ pre = [])) _) (OwnFrom.and (Own.from (boxed_own _ _ _) _) (ownFrom_below (Nat.le_refl _) (by simp; omega))))
    (fun _ _ _ _ _ hs _ _ => hs)
    ⟨⟨_, bO.alloc _, World.ownsRow_nil _ _ _ _, by simp⟩, bN, hB0⟩
    (fun x => { tmps := #[vset X, undef, .slice none 0 0, .pointer (some ⟨w.heap.size, 0, none⟩), .int .i64 (x : Int), vset X, .func (.func 179) #[] #[.pointer (some ⟨w.heap.size + 1, 0, none⟩)], .int .i64 (x : Int), undef, undef, undef, undef, undef], defers := [] }) ?assign ?body ?done ?stop
  case assign =>
    intro l x W K hK
    gi_wp2
    exact hK
  case body =>
    rintro l' pre x W ⟨⟨v, hv, hrow, hnil⟩, hX, hB⟩ hlt
    have hc := hv.cell
    gi_wp2_with (gi_at_builtin; refine wpListIn_append_own _ rfl _ _ 26 rfl w.heap.size 3 i0 (.int .i64 0) 1 8 Tryz.underlying26 hi hz0 hz1 hz2 rfl (by decide) _ _ _ rfl (hrow.alloc _) ⟨W.heap.size, 0, none⟩ 1 1 [.int .i64 (x : Int)] rfl rfl (cell_one_new _ _ _) (by simp [Value.oneCell']) (by have : maxLen = 9223372036854775807 := rfl; omega) (by omega) (by have := hB.size; simp; omega) ?_; intro v' w1 hown' hgrow _; obtain ⟨g', cap', rfl⟩ := ownsRow_succ hown'; obtain ⟨hv1, hv2, hr2, hk2, hb2⟩ := hv.appended (by decide) hrow hB.size (Nat.le_refl _) hown' hgrow; have hc1 := hv1.cell; have hf1 := hv1.frozen)
    have hX2 := Boxed.other ((hX.alloc _).kept hgrow (hX.not_row (by decide) hrow)) (show w.heap.size + 1 ≠ w.heap.size by omega) (Value.slice (some ⟨g', 0, none⟩) (pre.length + 1) cap')
    exact ⟨hk2.from _, ⟨hb2, hX2.trans hX.symm⟩, ⟨_, hv2, by simpa using hr2, by simp⟩, hX2, hB.trans hb2⟩
  case done =>
    rintro D ys W hD rfl ⟨⟨v, hv, hrow, hnil⟩, _, hB⟩ hK
    have hc := hv.cell
    gi_wp2
    refine ⟨by simp, .inl ⟨_, _, rfl, run_takeDeferred hK, ?_⟩⟩
    exact ⟨_, results_tmp rfl _ _ _, v, rfl, ownsRow_putObj hrow _ hK rfl, hnil, hB.trans (belowK_b (w := w) (Nat.le_refl _) W D _ _ (by simp at hD; omega) hK rfl rfl)⟩
  case stop =>
    rintro D c pre W _ _ h _
    exact h.elim

end Go.Proofs.YtfedgcdkagngnaaGreat

/- alloc: Used, Objects, Device. -/
namespace Go.Proofs.YtfedgcdkagngnaaGreat
open Go.RowKit
set_option linter.unusedVariables false

set_option maxHeartbeats 400000 in
theorem adev_any {w : World} {A : AF} {n B : Nat} {m : Al} (h : AlAt w A n B m) :
    Calls Tryz.prog 83 #[valloc A] w fun e w' => e = .returned (vdev A.X.F) ∧ w = w' := by
  have c1 := h.c1
  clear h
  go_enter Tryz.func83, Tryz.ntmps83
  go_wp2_with fail
  go_ret
  exact ⟨rfl, rfl⟩
set_option maxHeartbeats 400000 in
theorem aused_any {w : World} {A : AF} {n B : Nat} {m : Al} (h : AlAt w A n B m) (x : Int) :
    Calls Tryz.prog 39 #[valloc A, .int .i64 x] w fun e w' => e = .returned (.bool (hasI m.used x)) ∧ w = w' := by
  have c3 := h.c3
  have HS := Lib.hid h.set
  clear h
  go_enter Tryz.func39, Tryz.ntmps39
  go_wp2_with fail
  refine (shas_any HS.out x).mono ?_
  rintro e w1 ⟨rfl, rfl⟩
  go_wp2_with fail
  go_ret
  exact ⟨rfl, rfl⟩
set_option maxHeartbeats 400000 in
theorem aobjects_any {w : World} {A : AF} {n B : Nat} {m : Al} (h : AlAt w A n B m) :
    Calls Tryz.prog 25 #[valloc A] w (ListPost w (onesL m.used)) := by
  have c3 := h.c3
  have HS := Lib.hid h.set
  have HP : Hid (∀ e w', ListPost w (onesL m.used) e w' → ListPost w (onesL m.used) e w') := Lib.hid (fun _ _ h => h)
  generalize hP : ListPost w (onesL m.used) = Post at *
  clear h
  go_enter Tryz.func25, Tryz.ntmps25
  go_wp2_with fail
  refine (slist_any HS.out).mono ?_
  rw [hP]
  rintro e w1 hp
  have HPp := Lib.hid hp
  rw [← hP] at hp
  obtain ⟨v, rfl, _⟩ := hp
  clear hP
  go_wp2_with fail
  exact HPp.out
theorem ListPost.own {w w' : World} {xs : List Nat} {e : Ending} (h : ListPost w xs e w') : ∃ a c, e = .returned (.slice a xs.length c) ∧ Cells w' a (xs.map vi) ∧ Below w.heap.size w w' ∧ (∀ b o s, a = some ⟨b, o, s⟩ → w.heap.size ≤ b) := by
  obtain ⟨v, rfl, ho, _, hb⟩ := h
  obtain ⟨a, c, rfl, _⟩ := owned_form ho
  exact ⟨a, c, rfl, Cells.owned ho, hb, fun b o s e => by subst e; exact owned_addr ho _ rfl⟩

end Go.Proofs.YtfedgcdkagngnaaGreat

/- mark: a marker in memory. -/
namespace Go.Proofs.YtfedgcdkagngnaaGreat
open Go.RowKit
set_option linter.unusedVariables false

/-- Where a marker lies. -/
structure MkF where
  p : Nat
  X : SetF
  Y : SetF
  s : Nat
  v : Value
def MkF.fix (K : MkF) : List Nat := K.p :: K.s :: (K.X.list ++ K.Y.list)
def MkF.list (K : MkF) : List Nat := K.fix ++ (rowOf K.v).toList
def MkF.re (K : MkF) (v : Value) : MkF := ⟨K.p, K.X, K.Y, K.s, v⟩
def mkV (A : AF) (K : MkF) (M : Mk) : Array Value := #[valloc A, vset K.X, vset K.Y, .pointer (some ⟨K.s, 0, none⟩), .bool M.again, .int .i64 (M.cur : Int)]
abbrev vmark (K : MkF) : Value := .pointer (some ⟨K.p, 0, none⟩)

structure MkAt (w : World) (A : AF) (K : MkF) (M : Mk) : Prop where
  head : w.heap[K.p]? = some (.cells (mkV A K M) 167 (0, 0))
  sx : SetAt w K.X M.ms
  sy : SetAt w K.Y M.sc
  st : StkAt w K.s K.v M.st.reverse M.most M.miss
  nd : K.fix.Nodup
  nv : ∀ b, rowOf K.v = some b → b ∉ K.fix

section
variable {w w' : World} {A : AF} {K : MkF} {M : Mk}
theorem MkAt.mem (h : MkAt w A K M) : ∀ k ∈ K.list, k < w.heap.size := by
  intro k hk
  simp only [MkF.list, MkF.fix, List.mem_append, List.mem_cons, Option.mem_toList] at hk
  rcases hk with (rfl | rfl | hk | hk) | hk
  · exact (Array.getElem?_eq_some_iff.1 h.head).1
  · exact h.st.mem _ (by simp [stkL])
  · exact h.sx.mem k hk
  · exact h.sy.mem k hk
  · exact h.st.own.lt k hk
theorem MkAt.keep (h : MkAt w A K M) (hk : ∀ k ∈ K.list, w'.heap[k]? = w.heap[k]?) : MkAt w' A K M :=
  ⟨(hk K.p (by simp [MkF.list, MkF.fix])).trans h.head, h.sx.keep (fun k h => hk k (by simp [MkF.list, MkF.fix, h])), h.sy.keep (fun k h => hk k (by simp [MkF.list, MkF.fix, h])),
    h.st.keep (fun k h => hk k (by simp only [stkL, List.mem_cons, Option.mem_toList] at h; rcases h with rfl | h <;> simp [MkF.list, MkF.fix, *])), h.nd, h.nv⟩
theorem MkAt.below (h : MkAt w A K M) (hb : Below w.heap.size w w') : MkAt w' A K M := h.keep (fun k hk => hb.block k (h.mem k hk))
theorem MkAt.c0 (h : MkAt w A K M) : w.cell? ⟨K.p, 0, none⟩ = some (valloc A) := cell_of_row _ _ 0 _ _ _ h.head
theorem MkAt.c1 (h : MkAt w A K M) : w.cell? ⟨K.p, 1, none⟩ = some (vset K.X) := cell_of_row _ _ 1 _ _ _ h.head
theorem MkAt.c2 (h : MkAt w A K M) : w.cell? ⟨K.p, 2, none⟩ = some (vset K.Y) := cell_of_row _ _ 2 _ _ _ h.head
theorem MkAt.c3 (h : MkAt w A K M) : w.cell? ⟨K.p, 3, none⟩ = some (.pointer (some ⟨K.s, 0, none⟩)) := cell_of_row _ _ 3 _ _ _ h.head
theorem MkAt.c4 (h : MkAt w A K M) : w.cell? ⟨K.p, 4, none⟩ = some (.bool M.again) := cell_of_row _ _ 4 _ _ _ h.head
theorem MkAt.c5 (h : MkAt w A K M) : w.cell? ⟨K.p, 5, none⟩ = some (.int .i64 (M.cur : Int)) := cell_of_row _ _ 5 _ _ _ h.head
theorem MkAt.row (h : MkAt w A K M) : RowAt w K.p 167 (mkV A K M).toList := ⟨_, h.head, [], by simp⟩

/-- The blocks of a marker, apart. -/
structure MkF.Apart (K : MkF) : Prop where
  ps : K.p ≠ K.s
  px : K.p ∉ K.X.list
  py : K.p ∉ K.Y.list
  sx : K.s ∉ K.X.list
  sy : K.s ∉ K.Y.list
  xy : ∀ a ∈ K.X.list, a ∉ K.Y.list
theorem MkF.apart (h : K.fix.Nodup) : K.Apart := by
  unfold MkF.fix at h
  rw [List.nodup_cons, List.nodup_cons, List.nodup_append] at h
  obtain ⟨h1, h2, _, _, h3⟩ := h
  simp only [List.mem_cons, List.mem_append, not_or] at h1 h2
  exact ⟨h1.1, h1.2.1, h1.2.2, h2.1, h2.2, fun a ha hb => h3 a ha a hb rfl⟩
theorem MkAt.rowX (h : MkAt w A K M) {b : Nat} (hb : rowOf K.v = some b) : b ≠ K.p ∧ b ≠ K.s ∧ b ∉ K.X.list ∧ b ∉ K.Y.list := by
  have := h.nv b hb
  simpa only [MkF.fix, List.mem_cons, List.mem_append, not_or] using this
theorem MkAt.setX (h : MkAt w A K M) {l : List Bool} (hs : SetAt w' K.X l) (ht : Touch K.X.list w w') : MkAt w' A K { M with ms := l } := by
  have ap := MkF.apart h.nd
  refine ⟨(ht.block K.p (h.mem _ (by simp [MkF.list, MkF.fix])) ap.px).trans h.head, hs, h.sy.keep (fun k hk => ht.block k (h.sy.mem k hk) (fun hm => ap.xy k hm hk)), h.st.keep (fun k hk => ht.block k (h.st.mem k hk) (fun hm => ?_)), h.nd, h.nv⟩
  simp only [stkL, List.mem_cons, Option.mem_toList] at hk
  rcases hk with rfl | hk
  · exact ap.sx hm
  · exact (h.rowX hk).2.2.1 hm
theorem MkAt.setY (h : MkAt w A K M) {l : List Bool} (hs : SetAt w' K.Y l) (ht : Touch K.Y.list w w') : MkAt w' A K { M with sc := l } := by
  have ap := MkF.apart h.nd
  refine ⟨(ht.block K.p (h.mem _ (by simp [MkF.list, MkF.fix])) ap.py).trans h.head, h.sx.keep (fun k hk => ht.block k (h.sx.mem k hk) (fun hm => ap.xy k hk hm)), hs, h.st.keep (fun k hk => ht.block k (h.st.mem k hk) (fun hm => ?_)), h.nd, h.nv⟩
  simp only [stkL, List.mem_cons, Option.mem_toList] at hk
  rcases hk with rfl | hk
  · exact ap.sy hm
  · exact (h.rowX hk).2.2.2 hm
/-- What calls leave of a marker. -/
def MkGo (w w' : World) (A : AF) (K : MkF) (M : Mk) : Prop := ∃ v, MkAt w' A (K.re v) M ∧ Touch K.list w w' ∧ ∀ b, rowOf v = some b → rowOf K.v = some b ∨ w.heap.size ≤ b
theorem MkAt.setStk (h : MkAt w A K M) {l : List Nat} {miss : Nat} (hg : StkGo w w' K.s K.v l.reverse M.most miss) : MkGo w w' A K { M with st := l, miss := miss } := by
  have ap := MkF.apart h.nd
  obtain ⟨v, h1, h2, h3⟩ := hg
  have hk : ∀ k, k < w.heap.size → k ≠ K.s → rowOf K.v ≠ some k → w'.heap[k]? = w.heap[k]? := fun k hk h4 h5 => h2.block k hk (by simp only [stkL, List.mem_cons, Option.mem_toList, not_or]; exact ⟨h4, h5⟩)
  refine ⟨v, ⟨(hk K.p (h.mem _ (by simp [MkF.list, MkF.fix])) ap.ps (fun e => (h.rowX e).1 rfl)).trans h.head, h.sx.keep (fun k hx => hk k (h.sx.mem k hx) (fun e => ap.sx (e ▸ hx)) (fun e => (h.rowX e).2.2.1 hx)), h.sy.keep (fun k hx => hk k (h.sy.mem k hx) (fun e => ap.sy (e ▸ hx)) (fun e => (h.rowX e).2.2.2 hx)), h1, h.nd, fun b hb => ?_⟩, h2.wide (fun b hb => ?_), h3⟩
  · intro hm
    rcases h3 b hb with c | c
    · exact h.nv b c hm
    · have := h.mem b (by simp only [MkF.list, List.mem_append]; exact .inl hm); omega
  · simp only [stkL, List.mem_cons, Option.mem_toList] at hb
    rcases hb with rfl | hb <;> simp [MkF.list, MkF.fix, *]
theorem MkAt.setHead (h : MkAt w A K M) (i : Nat) (x : Value) {M' : Mk} (he : (mkV A K M).setIfInBounds i x = mkV A K M') (h1 : M'.ms = M.ms) (h2 : M'.sc = M.sc) (h3 : M'.st = M.st) (h4 : M'.most = M.most) (h5 : M'.miss = M.miss) :
    MkAt (w.setCell ⟨K.p, i, none⟩ x) A K M' ∧ Touch K.list w (w.setCell ⟨K.p, i, none⟩ x) := by
  have ap := MkF.apart h.nd
  have hk : ∀ k, k ≠ K.p → (w.setCell ⟨K.p, i, none⟩ x).heap[k]? = w.heap[k]? := fun k hk => Below.heap_setCell _ _ _ k hk
  refine ⟨⟨?_, by rw [h1]; exact h.sx.keep (fun k hx => hk k (fun e => ap.px (e ▸ hx))), by rw [h2]; exact h.sy.keep (fun k hx => hk k (fun e => ap.py (e ▸ hx))), ?_, h.nd, h.nv⟩, Touch.setCell _ (by simp [MkF.list, MkF.fix]) _⟩
  · rw [heap_setCell_same w K.p i _ _ _ h.head, he]
  · rw [h3, h4, h5]
    refine h.st.keep (fun k hx => hk k (fun e => ?_))
    simp only [stkL, List.mem_cons, Option.mem_toList] at hx
    rcases hx with rfl | hx
    · exact ap.ps e.symm
    · exact (h.rowX hx).1 e
theorem MkF.list_re {v : Value} {k : Nat} (hk : k ∈ (K.re v).list) : k ∈ K.fix ∨ rowOf v = some k := by
  simpa only [MkF.list, MkF.fix, MkF.re, List.mem_append, Option.mem_toList] using hk
theorem MkGo.ofAt (h : MkAt w' A K M) (ht : Touch K.list w w') : MkGo w w' A K M := ⟨K.v, h, ht, fun _ hb => .inl hb⟩
end

/-- An allocator and a marker over it. -/
structure MA (w : World) (A : AF) (n B : Nat) (m : Al) (K : MkF) (M : Mk) : Prop where
  al : AlAt w A n B m
  mr : MkAt w A K M
  ap : ∀ k ∈ A.list, k ∉ K.list
  lm : M.ms.length = m.used.length
  ls : M.sc.length = m.used.length
/-- What calls leave of them. -/
def MAGo (w w' : World) (A : AF) (n B : Nat) (m : Al) (K : MkF) (M : Mk) : Prop := ∃ v, MA w' A n B m (K.re v) M ∧ Touch K.list w w' ∧ ∀ b, rowOf v = some b → rowOf K.v = some b ∨ w.heap.size ≤ b
section
variable {w w0 w1 w' : World} {A : AF} {n B : Nat} {m : Al} {K : MkF} {M M' : Mk}
theorem MA.below (h : MA w A n B m K M) (hb : Below w.heap.size w w') : MA w' A n B m K M := ⟨h.al.below hb, h.mr.below hb, h.ap, h.lm, h.ls⟩
theorem MAGo.refl (h : MA w A n B m K M) : MAGo w w A n B m K M := ⟨K.v, h, Touch.refl _ _, fun _ h => .inl h⟩
/-- Two calls, one behind the other. -/
theorem MAGo.trans {v : Value} (hK : ∀ k ∈ K.list, k < w.heap.size) (ht : Touch K.list w w0) (hv : ∀ b, rowOf v = some b → rowOf K.v = some b ∨ w.heap.size ≤ b) (h : MAGo w0 w1 A n B m (K.re v) M) : MAGo w w1 A n B m K M := by
  obtain ⟨v', h1, h2, h3⟩ := h
  refine ⟨v', h1, ht.own h2 (fun k hk => ?_), fun b hb => ?_⟩
  · rcases MkF.list_re hk with c | c
    · exact .inr (by simp [MkF.list, c])
    · rcases hv k c with c | c
      · exact .inr (by simp [MkF.list, c])
      · exact .inl c
  · rcases h3 b hb with c | c
    · exact hv b c
    · exact .inr (Nat.le_trans ht.size c)
/-- The marker changes. -/
theorem MA.go (h : MA w A n B m K M) (hg : MkGo w w' A K M') (h1 : M'.ms.length = M.ms.length) (h2 : M'.sc.length = M.sc.length) : MAGo w w' A n B m K M' := by
  obtain ⟨v, g1, g2, g3⟩ := hg
  refine ⟨v, ⟨h.al.keep (fun k hk => g2.block k (h.al.mem k hk) (h.ap k hk)), g1, fun k hk hm => ?_, h1.trans h.lm, h2.trans h.ls⟩, g2, g3⟩
  rcases MkF.list_re hm with c | c
  · exact h.ap k hk (by simp [MkF.list, c])
  · rcases g3 k c with c | c
    · exact h.ap k hk (by simp [MkF.list, c])
    · have := h.al.mem k hk; omega
theorem MA.goX (h : MA w A n B m K M) {l : List Bool} (hs : SetAt w' K.X l) (ht : Touch K.X.list w w') (hl : l.length = M.ms.length) : MAGo w w' A n B m K { M with ms := l } :=
  h.go (.ofAt (h.mr.setX hs ht) (ht.wide (fun b hb => by simp [MkF.list, MkF.fix, hb]))) hl rfl
theorem MA.goY (h : MA w A n B m K M) {l : List Bool} (hs : SetAt w' K.Y l) (ht : Touch K.Y.list w w') (hl : l.length = M.sc.length) : MAGo w w' A n B m K { M with sc := l } :=
  h.go (.ofAt (h.mr.setY hs ht) (ht.wide (fun b hb => by simp [MkF.list, MkF.fix, hb]))) rfl hl
end

section
variable {w : World} {A : AF} {K : MkF} {M : Mk}
set_option maxHeartbeats 1000000 in
theorem mcolour_any (h : MkAt w A K M) (a : Nat) : Calls Tryz.prog 37 #[vmark K, .int .i64 (a : Int)] w fun e w' => e = .returned (.int .i64 (M.colour a : Nat)) ∧ w = w' := by
  have c1 := h.c1
  have c2 := h.c2
  have HX := Lib.hid (shas_any h.sx (a : Int))
  have HY := Lib.hid (shas_any h.sy (a : Int))
  rw [hasI_nat] at HX HY
  have HC : Hid (M.colour a = if M.sc.getD a false then 2 else if M.ms.getD a false then 1 else 0) := Lib.hid rfl
  generalize M.colour a = cl at *
  clear h
  cases hs : M.sc.getD a false with
  | true =>
    have HV : Hid (cl = 2) := Lib.hid (by rw [HC.out, hs]; rfl)
    rw [hs] at HY
    clear hs
    go_enter Tryz.func37, Tryz.ntmps37
    go_wp2_with fail
    refine HY.out.mono ?_
    rintro e w1 ⟨rfl, rfl⟩
    go_wp2_with fail
    go_ret
    exact ⟨by rw [HV.out]; rfl, rfl⟩
  | false =>
    cases hm : M.ms.getD a false with
    | true =>
      have HV : Hid (cl = 1) := Lib.hid (by rw [HC.out, hs, hm]; rfl)
      rw [hs] at HY
      rw [hm] at HX
      clear hs hm
      go_enter Tryz.func37, Tryz.ntmps37
      go_wp2_with fail
      refine HY.out.mono ?_
      rintro e w1 ⟨rfl, rfl⟩
      go_wp2_with fail
      refine HX.out.mono ?_
      rintro e w1 ⟨rfl, rfl⟩
      go_wp2_with fail
      go_ret
      exact ⟨by rw [HV.out]; rfl, rfl⟩
    | false =>
      have HV : Hid (cl = 0) := Lib.hid (by rw [HC.out, hs, hm]; rfl)
      rw [hs] at HY
      rw [hm] at HX
      clear hs hm
      go_enter Tryz.func37, Tryz.ntmps37
      go_wp2_with fail
      refine HY.out.mono ?_
      rintro e w1 ⟨rfl, rfl⟩
      go_wp2_with fail
      refine HX.out.mono ?_
      rintro e w1 ⟨rfl, rfl⟩
      go_wp2_with fail
      go_ret
      exact ⟨by rw [HV.out]; rfl, rfl⟩

set_option maxHeartbeats 400000 in
theorem mmarked_any (h : MkAt w A K M) : Calls Tryz.prog 44 #[vmark K] w fun e w' => e = .returned (.int .i64 (M.ms.count true : Int)) ∧ w = w' := by
  have c1 := h.c1
  have HX := Lib.hid (slen_any h.sx)
  clear h
  go_enter Tryz.func44, Tryz.ntmps44
  go_wp2_with fail
  refine HX.out.mono ?_
  rintro e w1 ⟨rfl, rfl⟩
  go_wp2_with fail
  go_ret
  exact ⟨rfl, rfl⟩
end

end Go.Proofs.YtfedgcdkagngnaaGreat

/- mark: Shade, scan. -/
namespace Go.Proofs.YtfedgcdkagngnaaGreat
open Go.RowKit
set_option linter.unusedVariables false

theorem fresh_add {U : List Bool} {M : Mk} {a : Nat} (hl : M.ms.length = U.length) (hu : U.getD a false = true) : freshI M.ms (a : Int) = M.fresh U a ∧ addI M.ms (a : Int) = (if M.fresh U a then M.ms.set a true else M.ms) := by
  have h1 : freshI M.ms (a : Int) = M.fresh U a := by
    unfold freshI Mk.fresh
    rw [hasI_nat, hu, decide_eq_true (show (0 : Int) ≤ (a : Int) ∧ (a : Int) < (M.ms.length : Int) by have := getD_true_lt hu; omega)]
  refine ⟨h1, ?_⟩
  unfold addI
  rw [h1, Int.toNat_natCast]

section
variable {w : World} {A : AF} {n B : Nat} {m : Al} {K : MkF} {M : Mk}
def ShadePost (w : World) (A : AF) (n B : Nat) (m : Al) (K : MkF) (M : Mk) (a : Nat) : Ending → World → Prop := fun e w' => e = .returned (.bool (M.fresh m.used a)) ∧ MAGo w w' A n B m K (M.shade m.used a)

set_option maxHeartbeats 2000000 in
set_option maxRecDepth 20000 in
theorem mshade_any (h : MA w A n B m K M) (hw : M.miss ≤ 900000 ∧ M.st.length ≤ 900000) (a : Nat) :
    Calls Tryz.prog 34 #[vmark K, .int .i64 (a : Int)] w (ShadePost w A n B m K M a) := by
  have HP : Hid (∀ b w', b = M.fresh m.used a → MAGo w w' A n B m K (M.shade m.used a) → ShadePost w A n B m K M a (.returned (.bool b)) w') := Lib.hid (fun b w' h1 h2 => by subst h1; exact ⟨rfl, h2⟩)
  generalize ShadePost w A n B m K M a = Post at *
  have HM := Lib.hid h
  have c0 := h.mr.c0
  have c1 := h.mr.c1
  have HU := Lib.hid (aused_any h.al (a : Int))
  rw [hasI_nat] at HU
  have HLm := Lib.hid h.lm
  have HW := Lib.hid hw
  clear h hw
  cases hu : m.used.getD a false with
  | false =>
    have HF : Hid (M.fresh m.used a = false ∧ M.shade m.used a = M) := Lib.hid (by
      have : M.fresh m.used a = false := by unfold Mk.fresh; rw [hu]; rfl
      exact ⟨this, by unfold Mk.shade; rw [this]; rfl⟩)
    rw [hu] at HU
    clear hu
    go_enter Tryz.func34, Tryz.ntmps34
    go_wp2_with fail
    refine HU.out.mono ?_
    rintro e w1 ⟨rfl, rfl⟩
    go_wp2_with fail
    exact HP.out _ _ HF.out.1.symm (by rw [HF.out.2]; exact MAGo.refl HM.out)
  | true =>
    obtain ⟨hf1, hf2⟩ := fresh_add HLm.out hu
    have HF1 := Lib.hid hf1
    have HF2 := Lib.hid hf2
    have HSh : Hid (M.shade m.used a = if M.fresh m.used a then (M.mark a).push a else M) := Lib.hid rfl
    rw [hu] at HU
    clear hu hf1 hf2
    generalize hfr : M.fresh m.used a = fr at *
    clear hfr
    go_enter Tryz.func34, Tryz.ntmps34
    go_wp2_with fail
    refine HU.out.mono ?_
    rintro e w1 ⟨rfl, rfl⟩
    go_wp2_with fail
    refine (sadd_any HM.out.mr.sx (a : Int)).mono ?_
    rintro e w1 ⟨rfl, hs1, ht1⟩
    rw [HF1.out]
    rw [HF2.out] at hs1
    cases fr with
    | false =>
      have HG : Hid (MAGo w w1 A n B m K (M.shade m.used a)) := Lib.hid (by rw [HSh.out]; exact HM.out.goX hs1 ht1 rfl)
      clear hs1 ht1
      go_wp2_with fail
      exact HP.out _ _ rfl HG.out
    | true =>
      have HSp : Hid (M.shade m.used a = (M.mark a).push a) := Lib.hid (by rw [HSh.out]; simp)
      clear HSh
      have hg1 : MAGo w w1 A n B m K (M.mark a) := HM.out.goX hs1 ht1 (by simp)
      obtain ⟨v1, hm1, ht1', hv1⟩ := hg1
      have HM1 := Lib.hid hm1
      have HT1 := Lib.hid ht1'
      have HV1 := Lib.hid hv1
      have c3 := hm1.mr.c3
      have HPu := Lib.hid (stkpush_any hm1.mr.st (x := a) (by exact Nat.le_trans HW.out.1 (by omega)) (by rw [List.length_reverse]; exact Nat.le_trans HW.out.2 (by omega)))
      have HKl := Lib.hid HM.out.mr.mem
      clear hs1 ht1 hm1 ht1' hv1
      change w1.cell? ⟨K.p, 3, none⟩ = some (.pointer (some ⟨K.s, 0, none⟩)) at c3
      change Hid (Calls Tryz.prog 103 #[.pointer (some ⟨K.s, 0, none⟩), .int .i64 (a : Int)] w1 _) at HPu
      rw [show (M.mark a).st = M.st from rfl, show (M.mark a).most = M.most from rfl, show (M.mark a).miss = M.miss from rfl, List.length_reverse] at HPu
      go_wp2_with fail
      refine HPu.out.mono ?_
      rintro e w2 ⟨rfl, hp2⟩
      by_cases hlt : M.st.length < M.most
      · rw [if_pos hlt] at hp2
        rw [decide_eq_true hlt]
        have HG : Hid (MAGo w w2 A n B m K (M.shade m.used a)) := Lib.hid (by
          rw [HSp.out]
          refine MAGo.trans HKl.out HT1.out HV1.out (HM1.out.go ?_ ?_ ?_)
          · have := HM1.out.mr.setStk (l := a :: M.st) (miss := M.miss) (by rw [List.reverse_cons]; exact hp2)
            unfold Mk.push
            rw [if_pos (show (M.mark a).st.length < (M.mark a).most from hlt)]
            exact this
          · rw [Mk.push_mk]
          · rw [Mk.push_sc])
        clear hp2 hlt c0 c1 c3
        go_wp2_with fail
        exact HP.out _ _ rfl HG.out
      · rw [if_neg hlt] at hp2
        rw [decide_eq_false hlt]
        have hg2 : MAGo w w2 A n B m K { M.mark a with miss := M.miss + 1 } := MAGo.trans HKl.out HT1.out HV1.out (HM1.out.go (HM1.out.mr.setStk (l := M.st) (miss := M.miss + 1) hp2) rfl rfl)
        obtain ⟨v2, hm2, ht2, hv2⟩ := hg2
        have HM2 := Lib.hid hm2
        have HT2 := Lib.hid ht2
        have HV2 := Lib.hid hv2
        have c4 := hm2.mr.c4
        have f4 := hm2.mr.row.frozen 4
        change w2.cell? ⟨K.p, 4, none⟩ = _ at c4
        change w2.frozen? ⟨K.p, 4, none⟩ = _ at f4
        have HSe : Hid (M.shade m.used a = { M.mark a with miss := M.miss + 1, again := true }) := Lib.hid (by rw [HSp.out]; unfold Mk.push; rw [if_neg (show ¬ (M.mark a).st.length < (M.mark a).most from hlt)]; rfl)
        clear hp2 hm2 ht2 hv2 c0 c1 c3 hlt
        go_wp2_with fail
        refine HP.out _ _ rfl ?_
        obtain ⟨h1, h2⟩ := HM2.out.mr.setHead 4 (.bool true) (M' := { M.mark a with miss := M.miss + 1, again := true }) rfl rfl rfl rfl rfl rfl
        rw [HSe.out]
        exact MAGo.trans HKl.out HT2.out HV2.out (HM2.out.go (.ofAt h1 h2) rfl rfl)
end

end Go.Proofs.YtfedgcdkagngnaaGreat

/- Plain: what steps of a marker do; how many there are; what is black at last. -/
namespace Go.Proofs.YtfedgcdkagngnaaGreat
set_option linter.unusedVariables false

section
variable {U : List Bool} {P : Nat → List Nat} {M : Mk}

/-- How many have no room on the stack, and how many have: bounds. -/
structure Mk.Fits (M : Mk) (c : Nat) : Prop where
  st : M.st.length ≤ M.most
  miss : M.miss ≤ c
theorem Mk.Fits.new (n most : Nat) : (Mk.new n most).Fits 0 := ⟨Nat.zero_le _, Nat.le_refl _⟩
theorem Mk.Fits.mono {c d : Nat} (h : M.Fits c) (hd : c ≤ d) : M.Fits d := ⟨h.st, Nat.le_trans h.miss hd⟩
theorem Mk.Fits.push {c : Nat} (h : M.Fits c) (a : Nat) : (M.push a).Fits (c + 1) := by
  unfold Mk.push
  split
  · next hc => exact ⟨hc, Nat.le_succ_of_le h.miss⟩
  · exact ⟨h.st, Nat.succ_le_succ h.miss⟩
theorem Mk.Fits.shade {c : Nat} (h : M.Fits c) (a : Nat) : (M.shade U a).Fits (c + 1) := by
  unfold Mk.shade
  split
  · exact Mk.Fits.push (M := M.mark a) ⟨h.st, h.miss⟩ a
  · exact h.mono (Nat.le_succ _)
theorem Mk.Fits.shades {c : Nat} : ∀ {l : List Nat} {M : Mk}, M.Fits c → (M.shades U l).Fits (c + l.length)
  | [], _, h => h
  | a :: l, M, h => by
    rw [Mk.shades_cons]
    have := (h.shade (U := U) a).shades (l := l) (c := c + 1)
    rw [List.length_cons]
    exact this.mono (by omega)
theorem Mk.Fits.scan {c k : Nat} (h : M.Fits c) (a : Nat) (hk : (P a).length ≤ k) : (M.scan U P a).Fits (c + k) :=
  ((show ({ M with sc := M.sc.set a true } : Mk).Fits c from ⟨h.st, h.miss⟩).shades).mono (by omega)
theorem Mk.top_len {M : Mk} : ∀ {l : List Nat} {x : Nat} {r : List Nat}, M.top l = some (x, r) → r.length < l.length := by
  intro l x r h
  obtain ⟨_, p, rfl, _⟩ := Mk.top_some h
  simp
  omega
theorem Mk.Fits.step {c k : Nat} (h : M.Fits c) (hk : ∀ a, (P a).length ≤ k) : (M.step U P).2.Fits (c + k) := by
  unfold Mk.step
  cases ht : M.top M.st with
  | some q =>
    obtain ⟨x, r⟩ := q
    have hl := Mk.top_len ht
    exact Mk.Fits.scan (M := { M with st := r }) ⟨Nat.le_trans (Nat.le_of_lt hl) h.st, h.miss⟩ x (hk x)
  | none =>
    cases hg : M.grey with
    | some x => exact Mk.Fits.scan (M := { M with st := [], cur := x + 1 }) ⟨Nat.zero_le _, h.miss⟩ x (hk x)
    | none =>
      dsimp only
      split
      · exact ⟨Nat.zero_le _, Nat.le_trans h.miss (Nat.le_add_right _ _)⟩
      · exact ⟨Nat.zero_le _, Nat.le_trans h.miss (Nat.le_add_right _ _)⟩

/-- Where a grey object is still to be found. -/
def Mk.Cover (M : Mk) : Prop := ∀ x, M.colour x = 1 → x ∈ M.st ∨ M.again = true ∨ M.cur ≤ x
theorem Mk.shade_white {U : List Bool} {M : Mk} (a x : Nat) (h : MkOk U M) : (M.shade U a).colour x = 1 → M.colour x = 1 ∨ (x = a ∧ M.fresh U a = true) := by
  intro hc
  rw [Mk.colour_grey] at hc
  rw [h.shade_mk, Mk.shade_sc] at hc
  by_cases c : M.colour x = 1
  · exact .inl c
  · right
    rw [Mk.colour_grey] at c
    obtain ⟨h1, h2⟩ := hc
    simp only [Bool.or_eq_true, Bool.and_eq_true, decide_eq_true_eq] at h1
    rcases h1 with h1 | ⟨rfl, h1⟩
    · exact absurd ⟨h1, h2⟩ c
    · refine ⟨rfl, ?_⟩
      unfold Mk.fresh
      rw [h1]
      cases hm : M.ms.getD x false with
      | true => exact absurd ⟨hm, h2⟩ c
      | false => rfl
theorem Mk.Cover.shade (hok : MkOk U M) (h : M.Cover) (a : Nat) : (M.shade U a).Cover := by
  intro x hx
  have hb := Mk.shade_white a x hok hx
  by_cases hf : M.fresh U a = true
  · unfold Mk.shade
    rw [if_pos hf]
    unfold Mk.push
    by_cases hr : (M.mark a).st.length < (M.mark a).most
    · rw [if_pos hr]
      rcases hb with hb | ⟨rfl, _⟩
      · rcases h x hb with h | h | h
        · exact .inl (List.mem_cons_of_mem _ h)
        · exact .inr (.inl h)
        · exact .inr (.inr h)
      · exact .inl List.mem_cons_self
    · rw [if_neg hr]
      exact .inr (.inl rfl)
  · unfold Mk.shade
    rw [if_neg hf]
    rcases hb with hb | ⟨_, hb⟩
    · exact h x hb
    · exact absurd hb hf
theorem Mk.Cover.shades : ∀ {l : List Nat} {M : Mk}, MkOk U M → M.Cover → (M.shades U l).Cover
  | [], _, _, h => h
  | a :: l, M, hok, h => by
    rw [Mk.shades_cons]
    exact (Mk.Cover.shade hok h a).shades (hok.shade a)
theorem Mk.Cover.new (n most : Nat) : (Mk.new n most).Cover := by
  intro x hx
  rw [Mk.colour_grey] at hx
  have : (Mk.new n most).ms.getD x false = false := by
    simp only [Mk.new, List.getD_eq_getElem?_getD, List.getElem?_replicate]; split <;> rfl
  rw [this] at hx
  cases hx.1
theorem set_getD_mono {l : List Bool} {a i : Nat} (h : l.getD i false = true) : (l.set a true).getD i false = true := by
  by_cases ha : a < l.length
  · rw [getD_set_bool _ _ _ _ ha]; split
    · rfl
    · exact h
  · rw [List.set_eq_of_length_le (by omega)]; exact h
theorem set_getD_other {l : List Bool} {a i : Nat} (b : Bool) (h : i ≠ a) : (l.set a b).getD i false = l.getD i false := by
  by_cases ha : a < l.length
  · rw [getD_set_bool _ _ _ _ ha, if_neg h]
  · rw [List.set_eq_of_length_le (by omega)]
theorem Mk.Cover.sets (h : M.Cover) (hok : MkOk U M) {M' : Mk} (a : Nat) (h1 : ∀ x, x ≠ a → M'.colour x = M.colour x) (h2 : M'.colour a ≠ 1) (h3 : M'.st = M.st) (h4 : M'.again = M.again) (h5 : M'.cur = M.cur) : M'.Cover := by
  intro x hx
  by_cases e : x = a
  · subst e; exact absurd hx h2
  · rw [h1 x e] at hx
    rw [h3, h4, h5]
    exact h x hx
theorem Mk.blacken_other {x a : Nat} (h : x ≠ a) : (M.blacken a).colour x = M.colour x := by
  unfold Mk.colour Mk.blacken
  dsimp only
  rw [set_getD_other _ h, set_getD_other _ h]
theorem Mk.blacken_self {a : Nat} (hok : MkOk U M) (ha : a < U.length) : (M.blacken a).colour a = 2 := by
  rw [Mk.colour_black]
  unfold Mk.blacken
  dsimp only
  rw [getD_set_bool _ _ _ _ (by rw [hok.ls]; exact ha), if_pos rfl]
theorem Mk.Cover.blacken (h : M.Cover) (hok : MkOk U M) {a : Nat} (ha : a < U.length) : (M.blacken a).Cover :=
  h.sets hok a (fun x hx => Mk.blacken_other hx) (by rw [Mk.blacken_self hok ha]; decide) rfl rfl rfl

/-- What a step does. -/
inductive Stepped (U : List Bool) (P : Nat → List Nat) (M : Mk) : Bool → Mk → Prop
  | scan (x : Nat) (M0 : Mk) (hg : M.colour x = 1) (h1 : M0.ms = M.ms) (h2 : M0.sc = M.sc) (h3 : M0.again = M.again) (h4 : M0.most = M.most) (hc : ({ M0 with sc := M0.sc.set x true } : Mk).Cover) : Stepped U P M true (M0.scan U P x)
  | anew (M' : Mk) (ha : M.again = true) (h1 : M'.ms = M.ms) (h2 : M'.sc = M.sc) (h3 : M'.again = false) (h4 : M'.most = M.most) (hc : M'.Cover) : Stepped U P M true M'
  | done (M' : Mk) (hg : ∀ x, M.colour x ≠ 1) (h1 : M'.ms = M.ms) (h2 : M'.sc = M.sc) (h3 : M'.again = false) (h3' : M.again = false) (h4 : M'.most = M.most) (hc : M'.Cover) : Stepped U P M false M'
theorem Mk.colour_eq {M M' : Mk} (h1 : M'.ms = M.ms) (h2 : M'.sc = M.sc) (x : Nat) : M'.colour x = M.colour x := by unfold Mk.colour; rw [h1, h2]
theorem Mk.black_colour {M : Mk} {a x : Nat} (ha : a < M.sc.length) (h : ({ M with sc := M.sc.set a true } : Mk).colour x = 1) : x ≠ a ∧ M.colour x = 1 := by
  rw [Mk.colour_grey] at h
  dsimp only at h
  by_cases e : x = a
  · subst e
    rw [getD_set_bool _ _ _ _ ha, if_pos rfl] at h
    cases h.2
  · rw [set_getD_other _ e] at h
    exact ⟨e, (M.colour_grey x).2 h⟩
theorem Mk.stepped (h : MkOk U M) (hc : M.Cover) : Stepped U P M (M.step U P).1 (M.step U P).2 := by
  have hin : ∀ x, M.colour x = 1 → x < M.sc.length := fun x hx => by
    have := getD_true_lt ((M.colour_grey x).1 hx).1
    rw [h.ls, ← h.lm]; exact this
  unfold Mk.step
  cases ht : M.top M.st with
  | some q =>
    obtain ⟨x, r⟩ := q
    obtain ⟨hg, p, hs, hp⟩ := Mk.top_some ht
    refine .scan x { M with st := r } hg rfl rfl rfl rfl (fun y hy => ?_)
    obtain ⟨hn, hy1⟩ := Mk.black_colour (M := { M with st := r }) (hin x hg) hy
    have hy1 : M.colour y = 1 := hy1
    rcases hc y hy1 with c | c
    · rw [hs] at c
      rcases List.mem_append.1 c with c | c
      · exact absurd hy1 (hp y c)
      · rcases List.mem_cons.1 c with c | c
        · exact absurd c hn
        · exact .inl c
    · exact .inr c
  | none =>
    have hnt := Mk.top_none ht
    cases hg : M.grey with
    | some x =>
      obtain ⟨g1, g2, g3⟩ := Mk.grey_some hg
      refine .scan x { M with st := [], cur := x + 1 } g2 rfl rfl rfl rfl (fun y hy => ?_)
      obtain ⟨hn, hy1⟩ := Mk.black_colour (M := { M with st := [], cur := x + 1 }) (hin x g2) hy
      have hy1 : M.colour y = 1 := hy1
      rcases hc y hy1 with c | c | c
      · exact absurd hy1 (hnt y c)
      · exact .inr (.inl c)
      · right; right
        show x + 1 ≤ y
        by_cases hlt : y < x
        · exact absurd hy1 (g3 y c hlt)
        · omega
    | none =>
      have hng := Mk.grey_none hg
      dsimp only
      split
      · next ha => exact .anew _ ha rfl rfl rfl rfl (fun y _ => .inr (.inr (Nat.zero_le _)))
      · next ha =>
        have ha : M.again = false := by simpa using ha
        have hno : ∀ x, M.colour x ≠ 1 := fun x hx => by
          rcases hc x hx with c | c | c
          · exact hnt x c hx
          · rw [ha] at c; cases c
          · exact hng x c hx
        exact .done _ hno rfl rfl ha ha rfl (fun y hy => absurd hy (hno y))
theorem MkOk.same {M M' : Mk} (h : MkOk U M) (h1 : M'.ms = M.ms) (h2 : M'.sc = M.sc) : MkOk U M' := ⟨by rw [h1]; exact h.lm, by rw [h2]; exact h.ls, by rw [h1]; exact h.mu, by rw [h1, h2]; exact h.sm⟩
theorem Mk.shades_most2 (U : List Bool) : ∀ (l : List Nat) (M : Mk), (M.shades U l).most = M.most
  | [], _ => rfl
  | a :: l, M => by rw [Mk.shades_cons, Mk.shades_most2 U l, Mk.shade_most]
section
variable {b : Bool} {M' : Mk}
theorem Stepped.most (hs : Stepped U P M b M') : M'.most = M.most := by
  cases hs with
  | scan x M0 hg h1 h2 h3 h4 hc =>
    unfold Mk.scan
    rw [Mk.shades_most2]; exact h4
  | anew _ ha h1 h2 h3 h4 hc => exact h4
  | done _ hg h1 h2 h3 h3' h4 hc => exact h4
theorem Stepped.ok (h : MkOk U M) (hs : Stepped U P M b M') : MkOk U M' := by
  cases hs with
  | scan x M0 hg h1 h2 h3 h4 hc =>
    have := h.same h1 h2
    exact this.scan (by rw [h1]; exact ((M.colour_grey x).1 hg).1)
  | anew _ ha h1 h2 h3 h4 hc => exact h.same h1 h2
  | done _ hg h1 h2 h3 h3' h4 hc => exact h.same h1 h2
theorem Stepped.cover (h : MkOk U M) (hs : Stepped U P M b M') : M'.Cover := by
  cases hs with
  | scan x M0 hg h1 h2 h3 h4 hc =>
    have := h.same h1 h2
    exact hc.shades (this.black (by rw [h1]; exact ((M.colour_grey x).1 hg).1))
  | anew _ ha h1 h2 h3 h4 hc => exact hc
  | done _ hg h1 h2 h3 h3' h4 hc => exact hc
/-- In each step one object at most is black anew. -/
theorem Stepped.black (h : MkOk U M) (hs : Stepped U P M b M') : ∃ x0, (b = true → True) ∧ (∀ x, M'.sc.getD x false = true → M.sc.getD x false = true ∨ (x = x0 ∧ b = true ∧ M.colour x = 1 ∧ ∀ y ∈ P x, U.getD y false = true → M'.ms.getD y false = true)) ∧ (∀ x, M.sc.getD x false = true → M'.sc.getD x false = true) ∧ (∀ x, M.ms.getD x false = true → M'.ms.getD x false = true) ∧ (b = false → M'.ms = M.ms ∧ M'.sc = M.sc) := by
  cases hs with
  | scan x M0 hg h1 h2 h3 h4 hc =>
    have h0 := h.same h1 h2
    have hx : M0.ms.getD x false = true := by rw [h1]; exact ((M.colour_grey x).1 hg).1
    refine ⟨x, fun _ => trivial, fun y hy => ?_, fun y hy => ?_, fun y hy => ?_, fun e => by cases e⟩
    · rw [h0.scan_sc hx, h2] at hy
      by_cases e : y = x
      · right
        subst e
        refine ⟨rfl, rfl, hg, fun z hz hu => ?_⟩
        rw [h0.scan_mk hx, hu, List.contains_iff_mem.2 hz]; simp
      · rw [if_neg e] at hy; exact .inl hy
    · rw [h0.scan_sc hx, h2]; split
      · rfl
      · exact hy
    · rw [h0.scan_mk hx, h1, hy]; rfl
  | anew _ ha h1 h2 h3 h4 hc => exact ⟨0, fun _ => trivial, fun x hx => .inl (by rw [h2] at hx; exact hx), fun x hx => by rw [h2]; exact hx, fun x hx => by rw [h1]; exact hx, fun _ => ⟨h1, h2⟩⟩
  | done _ hg h1 h2 h3 h3' h4 hc => exact ⟨0, fun _ => trivial, fun x hx => .inl (by rw [h2] at hx; exact hx), fun x hx => by rw [h2]; exact hx, fun x hx => by rw [h1]; exact hx, fun _ => ⟨h1, h2⟩⟩
/-- How many steps there may still be. -/
def Mk.left (n : Nat) (M : Mk) : Nat := 2 * (n - M.sc.count true) + (if M.again then 1 else 0)
theorem Stepped.left {n : Nat} (hn : ∀ M' : Mk, MkOk U M' → M'.sc.count true ≤ n) (h : MkOk U M) (hs : Stepped U P M true M') : M'.left n < M.left n := by
  have hk := hn _ (Stepped.ok h hs)
  generalize hb : true = b at hs
  cases hs with
  | scan x M0 hg h1 h2 h3 h4 hc =>
    have hx := (M.colour_grey x).1 hg
    have hl : x < M.sc.length := by rw [h.ls, ← h.lm]; exact getD_true_lt hx.1
    have e : (M0.scan U P x).sc = M.sc.set x true := by
      unfold Mk.scan
      rw [Mk.shades_sc]
      dsimp only
      rw [h2]
    have hcnt : (M0.scan U P x).sc.count true = M.sc.count true + 1 := by rw [e]; exact count_set_true hl hx.2
    unfold Mk.left
    rw [hcnt] at hk ⊢
    split <;> split <;> omega
  | anew _ ha h1 h2 h3 h4 hc =>
    unfold Mk.left
    rw [h2, h3, ha]
    simp
  | done => cases hb
theorem Stepped.ended (hs : Stepped U P M false M') : ∀ x, M'.colour x ≠ 1 := by
  generalize hb : false = b at hs
  cases hs with
  | scan => cases hb
  | anew => cases hb
  | done _ hg h1 h2 h3 h3' h4 hc => intro x; rw [Mk.colour_eq h1 h2]; exact hg x
theorem Stepped.again (hs : Stepped U P M false M') : M'.again = false := by
  generalize hb : false = b at hs
  cases hs with
  | scan => cases hb
  | anew => cases hb
  | done _ hg h1 h2 h3 h3' h4 hc => exact h3
end
/-- Behind its end a step does nothing. -/
theorem Mk.step_end (h : MkOk U M) (hc : M.Cover) (hg : ∀ x, M.colour x ≠ 1) (ha : M.again = false) : (M.step U P).1 = false := by
  have hs := Mk.stepped (P := P) h hc
  generalize M.step U P = q at *
  obtain ⟨b, M'⟩ := q
  cases hs with
  | scan x M0 hx => exact absurd hx (hg x)
  | anew _ h' => rw [ha] at h'; cases h'
  | done => rfl

/-- What is black leads to nothing white. -/
def Mk.Barred (U : List Bool) (P : Nat → List Nat) (G : List Nat) (M : Mk) : Prop := ∀ x, M.sc.getD x false = true → x ∉ G → ∀ y ∈ P x, U.getD y false = true → M.ms.getD y false = true
theorem Mk.Barred.step {G : List Nat} (h : MkOk U M) (hb : M.Barred U P G) {b : Bool} {M' : Mk} (hs : Stepped U P M b M') : M'.Barred U P G := by
  obtain ⟨x0, _, h1, _, h3, _⟩ := Stepped.black h hs
  intro x hx hG y hy hu
  rcases h1 x hx with c | ⟨_, _, _, c⟩
  · exact h3 y (hb x c hG y hy hu)
  · exact c y hy hu
theorem Mk.Barred.shade {G : List Nat} (h : MkOk U M) (hb : M.Barred U P G) (a : Nat) : (M.shade U a).Barred U P G := by
  intro x hx hG y hy hu
  rw [Mk.shade_sc] at hx
  rw [h.shade_mk, hb x hx hG y hy hu]; rfl
theorem Mk.new_sc (n most x : Nat) : (Mk.new n most).sc.getD x false = false := by
  simp only [Mk.new, List.getD_eq_getElem?_getD, List.getElem?_replicate]; split <;> rfl
theorem Mk.new_ms (n most x : Nat) : (Mk.new n most).ms.getD x false = false := by
  simp only [Mk.new, List.getD_eq_getElem?_getD, List.getElem?_replicate]; split <;> rfl

/-- Marking that comes to what it should. -/
structure Closes (U : List Bool) (P : Nat → List Nat) (G F : List Nat) (M : Mk) : Prop where
  ok : MkOk U M
  cover : M.Cover
  in_ : ∀ x, M.ms.getD x false = true → x ∈ G ∨ Rch (fun x => U.getD x false = true ∧ x ∉ G) P F x
  bar : M.Barred U P G
  gone : ∀ x ∈ G, M.sc.getD x false = true
  base : ∀ x ∈ F, U.getD x false = true → M.ms.getD x false = true
theorem Rch.wide {ok : Nat → Prop} {F F' : List Nat} (h : ∀ x ∈ F, x ∈ F') {x : Nat} (hr : Rch ok P F x) : Rch ok P F' x := by
  induction hr with
  | base hm hx => exact .base (h _ hm) hx
  | step _ hm hx ih => exact .step ih hm hx
theorem Closes.new (U : List Bool) (P : Nat → List Nat) (most : Nat) : Closes U P [] [] (Mk.new U.length most) :=
  ⟨MkOk.new U most, Mk.Cover.new _ _, fun x hx => (by rw [Mk.new_ms] at hx; cases hx), fun x hx => (by rw [Mk.new_sc] at hx; cases hx), fun _ h => by simp at h, fun _ h => by simp at h⟩
/-- Before anything is shaded. -/
theorem Closes.blacken {G : List Nat} (h : Closes U P G [] M) (hn : ∀ x, M.ms.getD x false = true → x ∈ G) {a : Nat} (ha : U.getD a false = true) : Closes U P (G ++ [a]) [] (M.blacken a) ∧ ∀ x, (M.blacken a).ms.getD x false = true → x ∈ G ++ [a] := by
  have hl := getD_true_lt ha
  have hm : ∀ x, (M.blacken a).ms.getD x false = true → x ∈ G ++ [a] := fun x hx => by
    by_cases e : x = a
    · simp [e]
    · unfold Mk.blacken at hx
      dsimp only at hx
      rw [set_getD_other _ e] at hx
      exact List.mem_append_left _ (hn x hx)
  refine ⟨⟨h.ok.blacken ha, h.cover.blacken h.ok hl, fun x hx => .inl (hm x hx), fun x hx hG => ?_, fun x hx => ?_, fun _ h => by simp at h⟩, hm⟩
  · exact absurd (hm x ((h.ok.blacken ha).sm x hx)) hG
  · unfold Mk.blacken
    dsimp only
    rcases List.mem_append.1 hx with c | c
    · exact set_getD_mono (h.gone x c)
    · simp at c; subst c
      rw [getD_set_bool _ _ _ _ (by rw [h.ok.ls]; exact hl), if_pos rfl]
theorem Closes.shade {G F : List Nat} (h : Closes U P G F M) (a : Nat) : Closes U P G (F ++ [a]) (M.shade U a) := by
  refine ⟨h.ok.shade a, h.cover.shade h.ok a, fun x hx => ?_, h.bar.shade h.ok a, fun x hx => by rw [Mk.shade_sc]; exact h.gone x hx, fun x hx hu => ?_⟩
  · rw [h.ok.shade_mk] at hx
    simp only [Bool.or_eq_true, Bool.and_eq_true, decide_eq_true_eq] at hx
    rcases hx with hx | ⟨rfl, hx⟩
    · exact (h.in_ x hx).imp id (fun c => c.wide (fun y hy => List.mem_append_left _ hy))
    · by_cases c : x ∈ G
      · exact .inl c
      · exact .inr (.base (by simp) ⟨hx, c⟩)
  · rw [h.ok.shade_mk]
    rcases List.mem_append.1 hx with c | c
    · rw [h.base x c hu]; rfl
    · simp at c; subst c; rw [hu]; simp
theorem Closes.step {G F : List Nat} (h : Closes U P G F M) {b : Bool} {M' : Mk} (hs : Stepped U P M b M') : Closes U P G F M' := by
  obtain ⟨x0, _, h1, h2, h3, _⟩ := Stepped.black h.ok hs
  refine ⟨Stepped.ok h.ok hs, Stepped.cover h.ok hs, fun x hx => ?_, h.bar.step h.ok hs, fun x hx => h2 x (h.gone x hx), fun x hx hu => h3 x (h.base x hx hu)⟩
  cases hs with
  | scan y M0 hg e1 e2 e3 e4 hc =>
    have h0 := h.ok.same e1 e2
    have hy := (M.colour_grey y).1 hg
    have hym : M0.ms.getD y false = true := by rw [e1]; exact hy.1
    rw [h0.scan_mk hym, e1] at hx
    simp only [Bool.or_eq_true, Bool.and_eq_true] at hx
    rcases hx with hx | ⟨hx, hu⟩
    · exact h.in_ x hx
    · by_cases c : x ∈ G
      · exact .inl c
      · right
        rcases h.in_ y hy.1 with d | d
        · have := h.gone y d; rw [hy.2] at this; cases this
        · exact .step d (List.contains_iff_mem.1 hx) ⟨hu, c⟩
  | anew _ ha e1 e2 e3 e4 hc => rw [e1] at hx; exact h.in_ x hx
  | done _ hg e1 e2 e3 e3' e4 hc => rw [e1] at hx; exact h.in_ x hx
/-- At the end. -/
theorem Closes.end_ {G F : List Nat} (h : Closes U P G F M) (hg : ∀ x, M.colour x ≠ 1) (x : Nat) : M.ms.getD x false = true ↔ (x ∈ G ∨ Rch (fun x => U.getD x false = true ∧ x ∉ G) P F x) := by
  have hs : ∀ x, M.ms.getD x false = true → M.sc.getD x false = true := fun x hx => by
    cases hc : M.sc.getD x false with
    | true => rfl
    | false => exact absurd ((M.colour_grey x).2 ⟨hx, hc⟩) (hg x)
  refine ⟨h.in_ x, fun hx => ?_⟩
  rcases hx with hx | hx
  · exact h.ok.sm x (h.gone x hx)
  · induction hx with
    | base hm hx => exact h.base _ hm hx.1
    | step hy hm hx ih => exact h.bar _ (hs _ ih) hy.ok'.2 _ hm hx.1
theorem Mk.ended_same (h : MkOk U M) (hg : ∀ x, M.colour x ≠ 1) : M.ms = M.sc := by
  refine List.ext_getElem? fun i => ?_
  by_cases hi : i < U.length
  · have h1 : M.ms.getD i false = M.sc.getD i false := by
      cases hc : M.sc.getD i false with
      | true => exact h.sm i hc
      | false => cases hm : M.ms.getD i false with
        | false => rfl
        | true => exact absurd ((M.colour_grey i).2 ⟨hm, hc⟩) (hg i)
    rw [List.getD_eq_getElem?_getD, List.getD_eq_getElem?_getD, List.getElem?_eq_getElem (by rw [h.lm]; exact hi), List.getElem?_eq_getElem (by rw [h.ls]; exact hi)] at h1
    rw [List.getElem?_eq_getElem (by rw [h.lm]; exact hi), List.getElem?_eq_getElem (by rw [h.ls]; exact hi)]
    simpa using h1
  · rw [List.getElem?_eq_none (by rw [h.lm]; omega), List.getElem?_eq_none (by rw [h.ls]; omega)]

/-- How many of a list have what a row of bits has. -/
theorem count_in {l : List Bool} {xs : List Nat} (hn : xs.Nodup) (h : ∀ x, l.getD x false = true → x ∈ xs) : l.count true = (xs.filter (fun x => l.getD x false)).length := by
  rw [← onesL_length]
  refine List.Perm.length_eq ?_
  refine (List.perm_ext_iff_of_nodup ?_ (hn.filter _)).2 (fun x => ?_)
  · exact (List.nodup_range).filter _
  · rw [mem_onesL, List.mem_filter]
    exact ⟨fun hx => ⟨h x hx, hx⟩, fun hx => hx.2⟩
theorem count_in_le {l : List Bool} {xs : List Nat} (hn : xs.Nodup) (h : ∀ x, l.getD x false = true → x ∈ xs) : l.count true ≤ xs.length := by
  rw [count_in hn h]; exact List.length_filter_le _ _
end

end Go.Proofs.YtfedgcdkagngnaaGreat

/- mark: scan, grey. -/
namespace Go.Proofs.YtfedgcdkagngnaaGreat
open Go.RowKit
set_option linter.unusedVariables false

theorem Cells.touchL {w w' : World} {a : Option Addr} {vs : List Value} {L : List Nat} (h : Cells w a vs) (ht : Touch L w w') (hne : ∀ x, a = some x → x.block < w.heap.size → x.block ∉ L) : Cells w' a vs := by
  rcases h with h | ⟨b, off, rfl, h⟩
  · exact .inl h
  · exact .inr ⟨b, off, rfl, fun i v hi => cell_of_touch ht (show (⟨b, off + i, none⟩ : Addr).block ∉ L from hne ⟨b, off, none⟩ rfl (show b < w.heap.size from World.block_lt_of_cell? w ⟨b, off + i, none⟩ (h i v hi))) (h i v hi)⟩

/-- Where an object's pointers lead; nowhere, if there is none. -/
def ptrsD (S : Dev) (a : Int) : List Nat := if (headN S a).code = 0 then ptrL S a (headN S a).p.toNat else []
def ptrsO (m : Al) (a : Nat) : List Nat := ptrsD m.bm.dev (a : Int)
theorem PtrsPost.out {S : Dev} {a : Int} {w w' : World} {e : Ending} (h : PtrsPost S a w e w') : ∃ av cp ec, e = .returned (.tuple #[.slice av (ptrsD S a).length cp, .int .i64 ec]) ∧ ec = (headN S a).code ∧ Cells w' av ((ptrsD S a).map vi) ∧ (∀ x, av = some x → w.heap.size ≤ x.block) ∧ Below w.heap.size w w' := by
  obtain ⟨hb, h⟩ := h
  rcases h with ⟨h0, v, rfl, ho⟩ | ⟨h0, rfl⟩
  · have e0 : ptrsD S a = ptrL S a (headN S a).p.toNat := by unfold ptrsD; rw [if_pos h0]
    obtain ⟨av, cp, rfl, _, _⟩ := owned_form ho
    rw [e0, ptrL_length]
    exact ⟨av, cp, _, rfl, h0.symm, Cells.owned ho, owned_addr ho, hb⟩
  · have e0 : ptrsD S a = [] := by unfold ptrsD; rw [if_neg (by rw [h0]; decide)]
    rw [e0]
    exact ⟨none, 0, _, rfl, h0.symm, Cells.nil _ _, fun x hx => (by cases hx), hb⟩
theorem ptrsD_len {S : Dev} (hs : S.cache.length ≤ 1000000) (a : Int) : (ptrsD S a).length ≤ 64 := by
  unfold ptrsD
  split
  · next h =>
    rw [ptrL_length]
    have := head_small hs (a := a) h
    omega
  · simp
theorem ptrsD_le (S : Dev) (a : Int) : ∀ x ∈ ptrsD S a, x ≤ 1099511627776 := by
  intro x hx
  unfold ptrsD at hx
  split at hx
  · unfold ptrL at hx
    obtain ⟨i, _, rfl⟩ := List.mem_map.1 hx
    exact capP_le _
  · simp at hx
theorem addI_set (l : List Bool) (a : Nat) : addI l (a : Int) = l.set a true := by
  unfold addI
  by_cases h : freshI l (a : Int) = true
  · rw [if_pos h, Int.toNat_natCast]
  · rw [if_neg h]
    symm
    by_cases hl : a < l.length
    · have hg : l.getD a false = true := by
        unfold freshI at h
        rw [decide_eq_true (show (0 : Int) ≤ (a : Int) ∧ (a : Int) < (l.length : Int) by omega), hasI_nat] at h
        simpa using h
      rw [List.getD_eq_getElem?_getD, List.getElem?_eq_getElem hl] at hg
      refine List.ext_getElem? fun i => ?_
      by_cases e : a = i
      · subst e
        rw [List.getElem?_set_self hl, List.getElem?_eq_getElem hl]
        simpa using hg.symm
      · rw [List.getElem?_set_ne e]
    · exact List.set_eq_of_length_le (by omega)
theorem Mk.shade_small {U : List Bool} {M : Mk} {c d : Nat} (h : M.miss ≤ c ∧ M.st.length ≤ d) (a : Nat) : (M.shade U a).miss ≤ c + 1 ∧ (M.shade U a).st.length ≤ d + 1 := by
  unfold Mk.shade
  split
  · unfold Mk.push
    split
    · exact ⟨Nat.le_succ_of_le h.1, Nat.succ_le_succ h.2⟩
    · exact ⟨Nat.succ_le_succ h.1, Nat.le_succ_of_le h.2⟩
  · exact ⟨Nat.le_succ_of_le h.1, Nat.le_succ_of_le h.2⟩
theorem Mk.shades_small {U : List Bool} : ∀ {l : List Nat} {M : Mk} {c d : Nat} (_ : M.miss ≤ c ∧ M.st.length ≤ d), (M.shades U l).miss ≤ c + l.length ∧ (M.shades U l).st.length ≤ d + l.length
  | [], _, _, _, h => h
  | a :: l, M, c, d, h => by
    rw [Mk.shades_cons]
    have := Mk.shades_small (U := U) (l := l) (Mk.shade_small (U := U) h a)
    rw [List.length_cons]
    omega

section
variable {w : World} {A : AF} {n B : Nat} {m : Al} {K : MkF} {M : Mk}
set_option maxHeartbeats 2000000 in
set_option maxRecDepth 20000 in
theorem mscan_any (h : MA w A n B m K M) (hw : M.miss ≤ 800000 ∧ M.st.length ≤ 800000) (a : Nat) :
    Calls Tryz.prog 107 #[vmark K, .int .i64 (a : Int)] w fun e w' => e = .returned (.tuple #[]) ∧ MAGo w w' A n B m K (M.scan m.used (ptrsO m) a) := by
  have HP : Hid (∀ w', MAGo w w' A n B m K (M.scan m.used (ptrsO m) a) → (fun e w' => e = Ending.returned (.tuple #[]) ∧ MAGo w w' A n B m K (M.scan m.used (ptrsO m) a)) (.returned (.tuple #[])) w') := Lib.hid (fun w' h => ⟨rfl, h⟩)
  generalize (fun e w' => e = Ending.returned (.tuple #[]) ∧ MAGo w w' A n B m K (M.scan m.used (ptrsO m) a)) = Post at *
  have HM := Lib.hid h
  have c2 := h.mr.c2
  have HKl := Lib.hid h.mr.mem
  have HW := Lib.hid hw
  have HSc : Hid (M.scan m.used (ptrsO m) a = ({ M with sc := M.sc.set a true } : Mk).shades m.used (ptrsO m a)) := Lib.hid rfl
  have HLn : Hid ((ptrsO m a).length ≤ 64) := Lib.hid (ptrsD_len h.al.man.dev.small _)
  have HLe : Hid (∀ x ∈ ptrsO m a, x ≤ 1099511627776) := Lib.hid (ptrsD_le _ _)
  have HPt := Lib.hid (fun w' (h : AlAt w' A n B m) => optrs_any h.man.dev (a : Int))
  have HPo : Hid (∀ w1 e w2, PtrsPost m.bm.dev (a : Int) w1 e w2 → ∃ av cp ec, e = .returned (.tuple #[.slice av (ptrsO m a).length cp, .int .i64 ec]) ∧ Cells w2 av ((ptrsO m a).map vi) ∧ (∀ x, av = some x → w1.heap.size ≤ x.block) ∧ Below w1.heap.size w1 w2) := Lib.hid (fun w1 e w2 hp => by
    obtain ⟨av, cp, ec, e1, _, e2, e3, e4⟩ := hp.out
    exact ⟨av, cp, ec, e1, e2, e3, e4⟩)
  clear h hw
  generalize ptrsO m a = L at *
  go_enter Tryz.func107, Tryz.ntmps107
  go_wp2_with fail
  refine (sadd_any HM.out.mr.sy (a : Int)).mono ?_
  rintro e w1 ⟨rfl, hs1, ht1⟩
  rw [addI_set] at hs1
  have hg1 : MAGo w w1 A n B m K { M with sc := M.sc.set a true } := HM.out.goY hs1 ht1 (by simp)
  obtain ⟨v1, hm1, ht1', hv1⟩ := hg1
  have HM1 := Lib.hid hm1
  have HT1 := Lib.hid ht1'
  have HV1 := Lib.hid hv1
  have c0 := hm1.mr.c0
  change w1.cell? ⟨K.p, 0, none⟩ = some (valloc A) at c0
  clear hs1 ht1 hm1 ht1' hv1 c2
  generalize freshI M.sc (a : Int) = fb at *
  have HS1 : Hid (({ M with sc := M.sc.set a true } : Mk).miss ≤ 800000 ∧ ({ M with sc := M.sc.set a true } : Mk).st.length ≤ 800000) := Lib.hid HW.out
  generalize ({ M with sc := M.sc.set a true } : Mk) = M1 at *
  obtain ⟨K1, hK1⟩ : ∃ K1, K1 = K.re v1 := ⟨_, rfl⟩
  have HK1 := Lib.hid hK1
  rw [← hK1] at HM1
  clear hK1
  go_wp2_with fail
  refine (adev_any HM1.out.al).mono ?_
  rintro e w1' ⟨rfl, rfl⟩
  go_wp2_with fail
  refine (HPt.out _ HM1.out.al).mono ?_
  intro e w2 hp
  obtain ⟨av, cp, ec, rfl, hcs, hlo, hb2⟩ := HPo.out _ _ _ hp
  have HCs := Lib.hid hcs
  have HLo := Lib.hid hlo
  have HB2 := Lib.hid hb2
  have HM2 := Lib.hid (HM1.out.below hb2)
  have HK2 : Hid (∀ k ∈ K1.list, k < w1.heap.size) := Lib.hid HM1.out.mr.mem
  clear hp hcs hlo hb2 HPo HPt c0
  obtain ⟨l, hl⟩ : ∃ l, l = L.length := ⟨_, rfl⟩
  rw [← hl]
  have HL := Lib.hid hl
  have hl64 : l ≤ 64 := by rw [hl]; exact HLn.out
  clear hl
  go_wp2_with fail
  go_loopw [26] (fun i wr => ∃ k : Nat, k ≤ l ∧ i = .int .i64 (k : Int) ∧ Hid (MAGo w2 wr A n B m K1 (M1.shades m.used (L.take k)))) (fun i _ => l - (intOf i).toNat)
  case atStart => exact ⟨0, Nat.zero_le _, rfl, Lib.hid (MAGo.refl HM2.out)⟩
  case round =>
    obtain ⟨k, hk, rfl, HG⟩ := hrel
    by_cases hlt : k < l
    · have hlt' : (k : Int) < (l : Int) := by omega
      obtain ⟨v3, hm3, ht3, hv3⟩ := HG.out
      have hcs3 : Cells wr av (L.map vi) := HCs.out.touchL ht3 (fun x hx _ hm => by
        have := HLo.out x hx
        have := HK2.out x.block hm
        omega)
      obtain ⟨b, o, rfl, hbx, hcx⟩ := hcs3.at (i := k) (by rw [List.length_map, ← HL.out]; exact hlt)
      obtain ⟨x, hx⟩ : ∃ x, L[k]? = some x := ⟨_, List.getElem?_eq_getElem (by rw [← HL.out]; exact hlt)⟩
      have hxl : x ≤ 1099511627776 := HLe.out x (List.mem_of_getElem? hx)
      have cx := hcx k (vi x) (by rw [List.getElem?_map, hx]; rfl)
      have HTk : Hid (L.take (k + 1) = L.take k ++ [x]) := Lib.hid (by
        have h1 : k < L.length := by rw [← HL.out]; exact hlt
        rw [List.take_succ_eq_append_getElem h1]
        rw [List.getElem?_eq_getElem h1] at hx
        injection hx with hx
        rw [hx])
      have HSm : Hid ((M1.shades m.used (L.take k)).miss ≤ 900000 ∧ (M1.shades m.used (L.take k)).st.length ≤ 900000) := Lib.hid (by
        have := Mk.shades_small (U := m.used) (l := L.take k) HS1.out
        have h2 : (L.take k).length ≤ 64 := by rw [List.length_take]; omega
        omega)
      have HShn : Hid (M1.shades m.used (L.take (k + 1)) = (M1.shades m.used (L.take k)).shade m.used x) := Lib.hid (by rw [HTk.out, Mk.shades_snoc])
      generalize M1.shades m.used (L.take k) = Mk' at *
      have HM3 := Lib.hid hm3
      have HT3 := Lib.hid ht3
      have HV3 := Lib.hid hv3
      have HSh := Lib.hid (mshade_any hm3 HSm.out x)
      clear hm3 ht3 hv3 hcs3 hcx hx hbx HG
      change Hid (Calls Tryz.prog 34 #[.pointer (some ⟨K1.p, 0, none⟩), .int .i64 (x : Int)] wr _) at HSh
      have HKp : Hid (K1.p = K.p) := Lib.hid (by rw [HK1.out]; rfl)
      rw [HKp.out] at HSh
      go_wp2_with fail
      refine HSh.out.mono ?_
      rintro e w4 ⟨rfl, hg4⟩
      have HG4 : Hid (MAGo w2 w4 A n B m K1 (M1.shades m.used (L.take (k + 1)))) := Lib.hid (by
        rw [HShn.out]
        exact MAGo.trans HM2.out.mr.mem HT3.out HV3.out hg4)
      clear hg4
      generalize Mk'.fresh m.used x = fx at *
      go_wp2_with fail
      refine ⟨⟨k + 1, by omega, vint (by omega), HG4⟩, ?_⟩
      simp [intOf]; omega
    · obtain rfl : k = l := by omega
      have hlt' : decide ((k : Int) < (k : Int)) = false := by simp
      have HEnd : Hid (MAGo w wr A n B m K (M.scan m.used (ptrsO m) a)) := Lib.hid (by
        have hg := HG.out
        rw [HL.out, List.take_length, ← HSc.out, HK1.out] at hg
        exact MAGo.trans HKl.out (HT1.out.later HB2.out) (fun b hb => HV1.out b hb) hg)
      go_wp2_with fail
      go_end0
      exact HP.out _ HEnd.out

theorem greyL_none {c : Nat} (h : nextB M.ms c = none) : nextB M.greyL c = none := nextB_none (fun j hj => by
  rw [M.greyL_getD, nextB_not h j hj]; rfl)
theorem greyL_found {c i : Nat} (h : nextB M.ms c = some i) (hs : M.sc.getD i false = false) : nextB M.greyL c = some i := by
  obtain ⟨h1, h2, _, h3⟩ := nextB_is h
  refine nextB_some h1 (by rw [M.greyL_getD, h2, hs]; rfl) (fun j j1 j2 => by rw [M.greyL_getD, h3 j j1 j2]; rfl)
theorem greyL_next {c i : Nat} (h : nextB M.ms c = some i) (hs : M.sc.getD i false = true) : nextB M.greyL c = nextB M.greyL (i + 1) := by
  obtain ⟨h1, h2, _, h3⟩ := nextB_is h
  have hno : ∀ j, c ≤ j → j < i + 1 → M.greyL.getD j false = false := fun j j1 j2 => by
    rw [M.greyL_getD]
    by_cases e : j = i
    · subst e; rw [hs]; simp
    · rw [h3 j j1 (by omega)]; rfl
  cases hn : nextB M.greyL (i + 1) with
  | none => exact nextB_none (fun j hj => by
      by_cases c : j < i + 1
      · exact hno j hj c
      · exact nextB_not hn j (by omega))
  | some x =>
    obtain ⟨g1, g2, _, g3⟩ := nextB_is hn
    exact nextB_some (by omega) g2 (fun j j1 j2 => by
      by_cases c : j < i + 1
      · exact hno j j1 c
      · exact g3 j (by omega) j2)
theorem leftB_nextB {l : List Bool} {c i : Nat} (h : nextB l c = some i) : leftB l.length (.int .i64 (((nextB l (i + 1)).getD 0 : Nat) : Int)) (.bool (nextB l (i + 1)).isSome) < leftB l.length (.int .i64 (i : Int)) (.bool true) := by
  obtain ⟨_, _, hi, _⟩ := nextB_is h
  cases ho : nextB l (i + 1) with
  | none => simp [leftB, intOf]; omega
  | some j =>
    have := nextB_is ho
    simp [leftB, intOf]; omega

set_option maxHeartbeats 2000000 in
set_option maxRecDepth 20000 in
theorem mgrey_any (h : MkAt w A K M) : Calls Tryz.prog 108 #[vmark K] w fun e w' => e = .returned (.tuple #[.int .i64 ((M.grey.getD 0 : Nat) : Int), .bool M.grey.isSome]) ∧ Below w.heap.size w w' := by
  have HP : Hid (∀ o b w', o = ((M.grey.getD 0 : Nat) : Int) → b = M.grey.isSome → Below w.heap.size w w' → (fun e w' => e = Ending.returned (.tuple #[.int .i64 ((M.grey.getD 0 : Nat) : Int), .bool M.grey.isSome]) ∧ Below w.heap.size w w') (.returned (.tuple #[.int .i64 o, .bool b])) w') := Lib.hid (fun o b w' h1 h2 h3 => by subst h1 h2; exact ⟨rfl, h3⟩)
  have HGr : Hid (M.grey = nextB M.greyL M.cur) := Lib.hid rfl
  generalize (fun e w' => e = Ending.returned (.tuple #[.int .i64 ((M.grey.getD 0 : Nat) : Int), .bool M.grey.isSome]) ∧ Below w.heap.size w w') = Post at *
  generalize M.grey = gr at *
  have HM := Lib.hid h
  have c1 := h.c1
  have c5 := h.c5
  have r1 := fun x => later_cell c1 x
  have r5 := fun x => later_cell c5 x
  have hls := h.sx.small
  clear h c1 c5
  go_enter Tryz.func108, Tryz.ntmps108
  go_upto_region 1 with fail
  refine wp_region_seg (C := fun w' => ∃ x : Later (w), w' = x.val) [.fl [0, 1, 2, 3, 4, 5, 6, 7], .sq [8, 9] false, .fl [10, 11, 12], .sq [13] false] (by kernel_rfl) (by kernel_rfl) (by intro c a d v w h; cases d <;> exact h) ?_
  simp only [segs, picks, List.getElem?_cons_succ, List.getElem?_cons_zero]
  have hC1 := later_drew (w)
  refine wpSeg_fl hC1 ?_
  repeat (first | go_big_quiet_step (fail) | quiet_step (fail))
  refine wpQuiet_nil ?_
  have HB1 := Lib.hid (later_below hC1)
  have HM1 := Lib.hid (HM.out.below HB1.out)
  generalize w.drew = w1 at *
  clear r1 r5
  have HN0 := Lib.hid (snext_any HM1.out.sx (M.cur : Int))
  rw [Int.toNat_natCast, nextV_eq] at HN0
  have HO0 : Hid (nextB M.ms M.cur = nextB M.ms M.cur) := Lib.hid rfl
  obtain ⟨o0, ho0⟩ : ∃ o0, o0 = nextB M.ms M.cur := ⟨_, rfl⟩
  have HO := Lib.hid ho0
  rw [← ho0] at HN0
  clear ho0 HO0
  refine wpSeg_sq (fun K hK => ?_)
  go_wp2_with fail
  refine HN0.out.mono ?_
  rintro e w2 ⟨rfl, rfl⟩
  go_wp2_with fail
  refine hK _ _ (fun h => nomatch h) ?_
  clear hK K
  refine wpSeg_fl hC1 ?_
  repeat (first | go_big_quiet_step (fail) | quiet_step (fail))
  refine wpQuiet_nil ?_
  refine wpSeg_last ?_
  go_wp2_with fail
  go_loopw [4, 5] (fun v b wr => ∃ (c : Nat) (o : Option Nat), v = .int .i64 ((o.getD 0 : Nat) : Int) ∧ b = .bool o.isSome ∧ Hid (o = nextB M.ms c) ∧ Hid (gr = nextB M.greyL c) ∧ wr = w1) (fun v b _ => leftB M.ms.length v b)
  case atStart => exact ⟨M.cur, o0, rfl, rfl, HO, HGr, rfl⟩
  case round =>
    clear HN0 HO HGr
    obtain ⟨c, o, rfl, rfl, HO, HG, rfl⟩ := hrel
    have d1 := HM1.out.c1
    have d2 := HM1.out.c2
    cases o with
    | none =>
      have HE : Hid (gr = none) := Lib.hid (by rw [HG.out]; exact greyL_none HO.out.symm)
      simp only [Option.isSome_none, Option.getD_none]
      go_wp2_with fail
      exact HP.out _ _ _ (by rw [HE.out]; rfl) (by rw [HE.out]; rfl) HB1.out
    | some i =>
      simp only [Option.isSome_some, Option.getD_some]
      have HHas := Lib.hid (shas_any HM1.out.sy (i : Int))
      rw [hasI_nat] at HHas
      have hil : i < 1000000 := by have := (nextB_is HO.out.symm).2.2.1; omega
      cases hs : M.sc.getD i false with
      | false =>
        have HE : Hid (gr = some i) := Lib.hid (by rw [HG.out]; exact greyL_found HO.out.symm hs)
        rw [hs] at HHas
        clear hs
        go_wp2_with fail
        refine HHas.out.mono ?_
        rintro e w3 ⟨rfl, rfl⟩
        go_wp2_with fail
        exact HP.out _ _ _ (by rw [HE.out]; rfl) (by rw [HE.out]; rfl) HB1.out
      | true =>
        have HE : Hid (gr = nextB M.greyL (i + 1)) := Lib.hid (by rw [HG.out]; exact greyL_next HO.out.symm hs)
        have HLf := Lib.hid (leftB_nextB HO.out.symm)
        have HN := Lib.hid (snext_any HM1.out.sx ((i : Int) + 1))
        rw [show ((i : Int) + 1).toNat = i + 1 by omega, nextV_eq] at HN
        obtain ⟨o1, ho1⟩ : ∃ o1, o1 = nextB M.ms (i + 1) := ⟨_, rfl⟩
        have HO1 := Lib.hid ho1
        rw [← ho1] at HN HLf
        rw [hs] at HHas
        clear hs ho1
        go_wp2_with fail
        refine HHas.out.mono ?_
        rintro e w3 ⟨rfl, rfl⟩
        go_wp2_with fail
        refine HN.out.mono ?_
        rintro e w3 ⟨rfl, rfl⟩
        go_wp2_with fail
        exact ⟨⟨i + 1, o1, rfl, rfl, HO1, HE, trivial⟩, HLf.out⟩
end

end Go.Proofs.YtfedgcdkagngnaaGreat

/- mark: Step. -/
namespace Go.Proofs.YtfedgcdkagngnaaGreat
open Go.RowKit
set_option linter.unusedVariables false

section
variable {U : List Bool} {P : Nat → List Nat} {M : Mk}
theorem Mk.step_some {x : Nat} {r : List Nat} (h : M.top M.st = some (x, r)) : M.step U P = (true, ({ M with st := r } : Mk).scan U P x) := by unfold Mk.step; rw [h]
theorem Mk.step_grey {x : Nat} (h : M.top M.st = none) (hg : M.grey = some x) : M.step U P = (true, ({ M with st := [], cur := x + 1 } : Mk).scan U P x) := by unfold Mk.step; rw [h, hg]
theorem Mk.step_again (h : M.top M.st = none) (hg : M.grey = none) (ha : M.again = true) : M.step U P = (true, { M with st := [], again := false, cur := 0 }) := by unfold Mk.step; rw [h, hg]; dsimp only; rw [if_pos ha]
theorem Mk.step_none (h : M.top M.st = none) (hg : M.grey = none) (ha : M.again = false) : M.step U P = (false, { M with st := [] }) := by unfold Mk.step; rw [h, hg]; dsimp only; rw [if_neg (by rw [ha]; decide)]
end
/-- How long a stack is. -/
def stkLen (w : World) (s : Nat) : Nat := match w.cell? ⟨s, 0, none⟩ with
  | some (.slice _ n _) => n
  | _ => 0
theorem StkAt.len {w : World} {s : Nat} {v : Value} {l : List Nat} {most miss : Nat} (h : StkAt w s v l most miss) : stkLen w s = l.length := by
  obtain ⟨a, c, rfl, _, _, _⟩ := h.own.cells
  have c0 : w.cell? ⟨s, 0, none⟩ = some (.slice a l.length c) := cell_of_row _ _ 0 _ _ _ h.head
  unfold stkLen
  rw [c0]

section
variable {w : World} {A : AF} {n B : Nat} {m : Al} {K : MkF} {M : Mk}
def StepPost (w : World) (A : AF) (n B : Nat) (m : Al) (K : MkF) (M : Mk) : Ending → World → Prop := fun e w' => e = .returned (.bool (M.step m.used (ptrsO m)).1) ∧ MAGo w w' A n B m K (M.step m.used (ptrsO m)).2

set_option maxHeartbeats 4000000 in
set_option maxRecDepth 20000 in
theorem mstep_any (h : MA w A n B m K M) (hw : M.miss ≤ 800000 ∧ M.st.length ≤ 800000) :
    Calls Tryz.prog 36 #[vmark K] w (StepPost w A n B m K M) := by
  have HP : Hid (∀ b M' w', M.step m.used (ptrsO m) = (b, M') → MAGo w w' A n B m K M' → StepPost w A n B m K M (.returned (.bool b)) w') := Lib.hid (fun b M' w' h1 h2 => by unfold StepPost; rw [h1]; exact ⟨rfl, h2⟩)
  generalize StepPost w A n B m K M = Post at *
  have HM := Lib.hid h
  have HKl := Lib.hid h.mr.mem
  have HW := Lib.hid hw
  clear h hw
  go_enter Tryz.func36, Tryz.ntmps36
  go_wp2_with fail
  go_loopw [2] (fun b wr => b = .bool false ∧ ∃ l : List Nat, Hid (M.top M.st = M.top l ∧ l.length ≤ 800000) ∧ Hid (MAGo w wr A n B m K { M with st := l })) (fun _ wr => stkLen wr K.s)
  case atStart => exact ⟨rfl, M.st, Lib.hid ⟨rfl, HW.out.2⟩, Lib.hid (MAGo.refl HM.out)⟩
  case round =>
    obtain ⟨rfl, l, HT, HG⟩ := hrel
    obtain ⟨v1, hm1, ht1, hv1⟩ := HG.out
    have HT1 := Lib.hid ht1
    have HV1 := Lib.hid hv1
    have hst := hm1.mr.st
    have c3 := hm1.mr.c3
    change StkAt wr K.s v1 l.reverse M.most M.miss at hst
    change wr.cell? ⟨K.p, 3, none⟩ = some (.pointer (some ⟨K.s, 0, none⟩)) at c3
    have HM1 := Lib.hid hm1
    have HLn : Hid (stkLen wr K.s = l.length) := Lib.hid (by rw [hst.len, List.length_reverse])
    clear hm1 ht1 hv1 HG
    cases l with
    | cons x r =>
      rw [List.reverse_cons] at hst
      have HPop := Lib.hid (stkpop_some hst (by have := HT.out.2; rw [List.length_cons] at this; rw [List.length_reverse]; omega))
      clear hst
      go_wp2_with fail
      refine HPop.out.mono ?_
      rintro e w2 ⟨rfl, hp2⟩
      have hg2 : MAGo wr w2 A n B m (K.re v1) { M with st := r } := HM1.out.go (HM1.out.mr.setStk (l := r) (miss := M.miss) hp2) rfl rfl
      have hg2' : MAGo w w2 A n B m K { M with st := r } := MAGo.trans HKl.out HT1.out HV1.out hg2
      obtain ⟨v2, hm2, ht2, hv2⟩ := hg2'
      have HM2 := Lib.hid hm2
      have HT2 := Lib.hid ht2
      have HV2 := Lib.hid hv2
      have HCo := Lib.hid (mcolour_any hm2.mr x)
      change Hid (Calls Tryz.prog 37 #[.pointer (some ⟨K.p, 0, none⟩), .int .i64 (x : Int)] w2 _) at HCo
      rw [show ({ M with st := r } : Mk).colour x = M.colour x from rfl] at HCo
      have HLn2 : Hid (stkLen w2 K.s = r.length) := Lib.hid (by have := hm2.mr.st.len; rw [List.length_reverse] at this; exact this)
      have HTc : Hid (M.top (x :: r) = if M.colour x = 1 then some (x, r) else M.top r) := Lib.hid rfl
      clear hp2 hg2 hm2 ht2 hv2
      generalize hcl : M.colour x = cl at *
      by_cases hc1 : cl = 1
      · subst hc1
        have HSt : Hid (M.step m.used (ptrsO m) = (true, ({ M with st := r } : Mk).scan m.used (ptrsO m) x)) := Lib.hid (Mk.step_some (by rw [HT.out.1, HTc.out, if_pos rfl]))
        have HSc := Lib.hid (mscan_any HM2.out (show M.miss ≤ 800000 ∧ r.length ≤ 800000 from ⟨HW.out.1, by have := HT.out.2; rw [List.length_cons] at this; omega⟩) x)
        change Hid (Calls Tryz.prog 107 #[.pointer (some ⟨K.p, 0, none⟩), .int .i64 (x : Int)] w2 _) at HSc
        clear hcl HTc HT HPop
        go_wp2_with fail
        refine HCo.out.mono ?_
        rintro e w3 ⟨rfl, rfl⟩
        go_wp2_with fail
        refine HSc.out.mono ?_
        rintro e w3 ⟨rfl, hg3⟩
        have HG3 := Lib.hid hg3
        clear hg3
        go_wp2_with fail
        exact HP.out _ _ _ HSt.out (MAGo.trans HKl.out HT2.out HV2.out HG3.out)
      · have hcf : (((cl : Nat) : Int) == 1) = false := by simp; omega
        have HTn : Hid (M.top M.st = M.top r ∧ r.length ≤ 800000) := Lib.hid ⟨by rw [HT.out.1, HTc.out, if_neg hc1], by have := HT.out.2; rw [List.length_cons] at this; omega⟩
        have HLt : Hid (stkLen w2 K.s < stkLen wr K.s) := Lib.hid (by rw [HLn.out, HLn2.out, List.length_cons]; omega)
        clear hcl HTc HT HPop hc1
        go_wp2_with fail
        refine HCo.out.mono ?_
        rintro e w3 ⟨rfl, rfl⟩
        go_wp2_with fail
        exact ⟨⟨rfl, r, HTn, Lib.hid ⟨v2, HM2.out, HT2.out, HV2.out⟩⟩, HLt.out⟩
    | nil =>
      rw [List.reverse_nil] at hst
      have HPop := Lib.hid (stkpop_none hst)
      have HTn : Hid (M.top M.st = none) := Lib.hid (by rw [HT.out.1]; rfl)
      clear hst HT
      go_wp2_with fail
      refine HPop.out.mono ?_
      rintro e w2 ⟨rfl, hb2⟩
      have HM2 := Lib.hid (HM1.out.below hb2)
      have HT2 := Lib.hid (HT1.out.later hb2)
      have HGr := Lib.hid (mgrey_any HM2.out.mr)
      change Hid (Calls Tryz.prog 108 #[.pointer (some ⟨K.p, 0, none⟩)] w2 _) at HGr
      rw [show ({ M with st := [] } : Mk).grey = M.grey from rfl] at HGr
      clear hb2 c3 HPop
      go_wp2_with fail
      refine HGr.out.mono ?_
      rintro e w3 ⟨rfl, hb3⟩
      have HM3 := Lib.hid (HM2.out.below hb3)
      have HT3 := Lib.hid (HT2.out.later hb3)
      clear hb3 HGr
      cases hgr : M.grey with
      | some x =>
        have HSt : Hid (M.step m.used (ptrsO m) = (true, ({ M with st := [], cur := x + 1 } : Mk).scan m.used (ptrsO m) x)) := Lib.hid (Mk.step_grey HTn.out hgr)
        have hxl : x < 1000000 := by
          have h1 := (Mk.grey_some hgr).2.1
          have h2 := getD_true_lt ((M.colour_grey x).1 h1).1
          have h3 := HM.out.mr.sx.small
          omega
        simp only [Option.isSome_some, Option.getD_some]
        have f5 := HM3.out.mr.row.frozen 5
        have c5 := HM3.out.mr.c5
        change w3.frozen? ⟨K.p, 5, none⟩ = _ at f5
        change w3.cell? ⟨K.p, 5, none⟩ = _ at c5
        obtain ⟨hh1, hh2⟩ := HM3.out.mr.setHead 5 (.int .i64 ((x : Int) + 1)) (M' := { M with st := [], cur := x + 1 }) rfl rfl rfl rfl rfl rfl
        have hg4 : MAGo w (w3.setCell ⟨K.p, 5, none⟩ (.int .i64 ((x : Int) + 1))) A n B m K { M with st := [], cur := x + 1 } := MAGo.trans HKl.out HT3.out HV1.out (HM3.out.go (.ofAt hh1 hh2) rfl rfl)
        obtain ⟨v4, hm4, ht4, hv4⟩ := hg4
        have HT4 := Lib.hid ht4
        have HV4 := Lib.hid hv4
        have HSc := Lib.hid (mscan_any hm4 (show M.miss ≤ 800000 ∧ ([] : List Nat).length ≤ 800000 from ⟨HW.out.1, Nat.zero_le _⟩) x)
        change Hid (Calls Tryz.prog 107 #[.pointer (some ⟨K.p, 0, none⟩), .int .i64 (x : Int)] _ _) at HSc
        clear hgr hh1 hh2 hm4 ht4 hv4
        go_wp2_with fail
        refine HSc.out.mono ?_
        rintro e w5 ⟨rfl, hg5⟩
        have HG5 := Lib.hid hg5
        clear hg5
        go_wp2_with fail
        exact HP.out _ _ _ HSt.out (MAGo.trans HKl.out HT4.out HV4.out HG5.out)
      | none =>
        simp only [Option.isSome_none, Option.getD_none]
        have c4 := HM3.out.mr.c4
        change w3.cell? ⟨K.p, 4, none⟩ = some (.bool M.again) at c4
        cases ha : M.again with
        | true =>
          have HSt : Hid (M.step m.used (ptrsO m) = (true, { M with st := [], again := false, cur := 0 })) := Lib.hid (Mk.step_again HTn.out hgr ha)
          rw [ha] at c4
          have f4 := HM3.out.mr.row.frozen 4
          change w3.frozen? ⟨K.p, 4, none⟩ = _ at f4
          obtain ⟨hh1, hh2⟩ := HM3.out.mr.setHead 4 (.bool false) (M' := { M with st := [], again := false }) rfl rfl rfl rfl rfl rfl
          obtain ⟨hi1, hi2⟩ := hh1.setHead 5 (.int .i64 0) (M' := { M with st := [], again := false, cur := 0 }) rfl rfl rfl rfl rfl rfl
          have c5 := hh1.c5
          have f5 := hh1.row.frozen 5
          change (w3.setCell ⟨K.p, 4, none⟩ (.bool false)).cell? ⟨K.p, 5, none⟩ = _ at c5
          change (w3.setCell ⟨K.p, 4, none⟩ (.bool false)).frozen? ⟨K.p, 5, none⟩ = _ at f5
          have HG4 : Hid (MAGo w _ A n B m K { M with st := [], again := false, cur := 0 }) := Lib.hid (MAGo.trans HKl.out HT3.out HV1.out (HM3.out.go (.ofAt hi1 (hh2.trans hi2)) rfl rfl))
          clear hgr ha hh1 hh2 hi1 hi2
          go_wp2_with fail
          exact HP.out _ _ _ HSt.out HG4.out
        | false =>
          have HSt : Hid (M.step m.used (ptrsO m) = (false, { M with st := [] })) := Lib.hid (Mk.step_none HTn.out hgr ha)
          rw [ha] at c4
          clear hgr ha
          go_wp2_with fail
          exact HP.out _ _ _ HSt.out ⟨v1, HM3.out, HT3.out, HV1.out⟩
end

end Go.Proofs.YtfedgcdkagngnaaGreat

/- bitmap: Clear; stack: Clear; mark: New, Clear, Blacken, Whiten, Greys, List. -/
namespace Go.Proofs.YtfedgcdkagngnaaGreat
open Go.RowKit
set_option linter.unusedVariables false

theorem touch_setCells (b : Nat) : ∀ (vs : List Value) (o : Nat) (w : World), Touch [b] w (w.setCells b o vs)
  | [], _, _ => Touch.refl _ _
  | v :: r, o, w => (Touch.setCell ⟨b, o, none⟩ (by simp) v).trans (touch_setCells b r (o + 1) _)
theorem heap_setCells {b : Nat} {t : TypeId} : ∀ (vs : List Value) (o : Nat) (w : World) (xs : Array Value), w.heap[b]? = some (.cells xs t) → o + vs.length ≤ xs.size →
    ∃ ys : Array Value, (w.setCells b o vs).heap[b]? = some (.cells ys t) ∧ ys.size = xs.size ∧ ∀ j : Nat, ys[j]? = if o ≤ j ∧ j < o + vs.length then vs[j - o]? else xs[j]?
  | [], o, w, xs, h, _ => ⟨xs, h, rfl, fun j => by rw [if_neg (by simp)]⟩
  | v :: r, o, w, xs, h, hl => by
    rw [List.length_cons] at hl
    obtain ⟨ys, h1, h2, h3⟩ := heap_setCells r (o + 1) (w.setCell ⟨b, o, none⟩ v) (xs.setIfInBounds o v) (heap_setCell_same w b o _ _ _ h) (by simp; omega)
    refine ⟨ys, h1, by rw [h2]; simp, fun j => ?_⟩
    rw [h3 j]
    by_cases e : j = o
    · subst e
      rw [if_neg (by omega), if_pos (by simp), Array.getElem?_setIfInBounds_self_of_lt (by omega)]
      simp
    · rw [Array.getElem?_setIfInBounds_ne (fun h => e h.symm)]
      by_cases c : o + 1 ≤ j ∧ j < o + 1 + r.length
      · rw [if_pos c, if_pos (by rw [List.length_cons]; omega), show j - o = (j - (o + 1)) + 1 by omega, List.getElem?_cons_succ]
      · rw [if_neg c, if_neg (by rw [List.length_cons]; omega)]

theorem wpList_clear_row {P : Program} {w : World} {ops : Array Oper} {rest : List Oper} {o : Oper} {a : Act} {Q : Exit → Act → World → Prop} (hgd : o.guard = none) {d : Operand} {dT e : TypeId} {z : Value}
    (ho : o.op = .call { callee := .builtin .clear, args := #[d], argTypes := #[dT] }) (hu : P.underlying dT = some (.slice e)) (hv : ∀ w, (zeroValue e).run P w = .ok z w) (hz : z.cells = #[z]) (h1 : z.oneCell' = true)
    {g n c t : Nat} {vs : List Value} (hd : a.eval d = .slice (some ⟨g, 0, none⟩) n c) (hn : 0 < n) (hr : RowAt w g t vs) (hl : n ≤ vs.length)
    (h : ∀ w', RowAt w' g t (List.replicate n z ++ vs.drop n) → Touch [g] w w' → (∀ xs t' k, w.heap[g]? = some (.cells xs t' k) → ∃ ys, w'.heap[g]? = some (.cells ys t' k) ∧ ys.size = xs.size) → wpList P ops Q rest (a.put o.dst (.tuple #[])) w') : wpList P ops Q (o :: rest) a w := by
  obtain ⟨xs, hg, more, hx⟩ := hr
  have hsz : xs.size = vs.length + more.length := by rw [← Array.length_toList, hx, List.length_append]
  refine wpList_plain hgd fun K hK => ?_
  have hrun := Lib.run_clear_slice (P := P) w dT e o.type z hu hv hz h1 g 0 n c hn (fun j hj => by
    rw [Nat.zero_add]
    have : (w.cell? ⟨g, j, none⟩) = xs[j]? := by simp [World.cell?, hg]
    rw [this, Array.getElem?_eq_getElem (by omega)]; rfl) (fun j hj => (show RowAt w g t vs from ⟨xs, hg, more, hx⟩).frozen _)
  unfold Oper.wp
  simp [execOp, ho, resolve, invoke, builtin, hd, hrun, Result.andThen]
  obtain ⟨ys, h2, h3, h4⟩ := heap_setCells (List.replicate n z) 0 w xs hg (by simp; omega)
  refine hK _ _ (h _ ?_ (touch_setCells _ _ _ _) (fun xs' t' k hx' => by rw [hg] at hx'; cases hx'; exact ⟨ys, h2, h3⟩))
  refine ⟨ys, h2, more, List.ext_getElem? fun j => ?_⟩
  rw [Array.getElem?_toList, h4 j, List.length_replicate]
  by_cases c : j < n
  · rw [if_pos (by omega), List.append_assoc, List.getElem?_append_left (by simpa using c), Nat.sub_zero]
  · rw [if_neg (by omega), List.append_assoc, List.getElem?_append_right (by simp; omega), List.length_replicate, ← Array.getElem?_toList, hx]
    by_cases c2 : j < vs.length
    · rw [List.getElem?_append_left c2, List.getElem?_append_left (by simp; omega), List.getElem?_drop]
      congr 1; omega
    · rw [List.getElem?_append_right (by omega), List.getElem?_append_right (by simp; omega), List.length_drop]
      congr 1; omega
theorem wpList_clear_none {P : Program} {w : World} {ops : Array Oper} {rest : List Oper} {o : Oper} {a : Act} {Q : Exit → Act → World → Prop} (hgd : o.guard = none) {d : Operand} {dT e : TypeId}
    (ho : o.op = .call { callee := .builtin .clear, args := #[d], argTypes := #[dT] }) (hu : P.underlying dT = some (.slice e)) {p : Option Addr} {c : Nat} (hd : a.eval d = .slice p 0 c)
    (h : wpList P ops Q rest (a.put o.dst (.tuple #[])) w) : wpList P ops Q (o :: rest) a w := by
  refine wpList_plain hgd fun K hK => ?_
  have hrun : (Builtin.clear_ #[dT] o.type #[.slice p 0 c]).run P w = .ok (.tuple #[]) w := by
    cases p <;> simp [Builtin.clear_, run_underlying hu]
  unfold Oper.wp
  simp [execOp, ho, resolve, invoke, builtin, hd, hrun, Result.andThen]
  exact hK _ _ h

theorem zero64 : ∀ w : World, (zeroValue 136).run Tryz.prog w = .ok (.int .u64 0) w := fun w => by kernel_rfl
theorem zeroI : ∀ w : World, (zeroValue 3).run Tryz.prog w = .ok (.int .i64 0) w := fun w => by kernel_rfl
theorem SetIn.mem_u {w : World} {X : SetF} {ws : List Nat} {l : List Bool} (h : SetIn w X ws l) : X.u < w.heap.size := (Array.getElem?_eq_some_iff.1 h.head).1
theorem setV_none (X : SetF) (n : Nat) (l : List Bool) : (setV X n l).setIfInBounds 2 (.int .i64 0) = setV X n (List.replicate l.length false) := by
  simp [setV, List.count_replicate]

set_option maxHeartbeats 1000000 in
set_option maxRecDepth 20000 in
theorem sclear_any {w : World} {X : SetF} {l : List Bool} (h : SetAt w X l) : Calls Tryz.prog 116 #[vset X] w fun e w' => e = .returned (.tuple #[]) ∧ SetAt w' X (List.replicate l.length false) ∧ Touch X.list w w' := by
  obtain ⟨ws, h⟩ := h
  have c0 := h.c0
  have HI := Lib.hid h
  have HP : Hid (∀ w', SetAt w' X (List.replicate l.length false) → Touch X.list w w' → (fun e w' => e = Ending.returned (.tuple #[]) ∧ SetAt w' X (List.replicate l.length false) ∧ Touch X.list w w') (.returned (.tuple #[])) w') := Lib.hid (fun w' h1 h2 => ⟨rfl, h1, h2⟩)
  generalize (fun e w' => e = Ending.returned (.tuple #[]) ∧ SetAt w' X (List.replicate l.length false) ∧ Touch X.list w w') = Post at *
  have hB : BitsOf (List.replicate ws.length 0) (List.replicate l.length false) := by rw [h.bits.len]; exact bits_new _
  have HB := Lib.hid hB
  have hs := h.small
  obtain ⟨k, hk⟩ : ∃ k, k = ws.length := ⟨_, rfl⟩
  rw [← hk] at c0
  have HK := Lib.hid hk
  have hk9 : k ≤ 1000000 := by rw [hk, h.bits.len]; omega
  have hne : X.b ≠ X.u := fun e => h.ne e.symm
  clear h hB hk
  have HEnd : Hid (∀ w1, RowAt w1 X.b 136 ((List.replicate ws.length 0).map vu64) → w1.heap[X.u]? = w.heap[X.u]? → Touch [X.b] w w1 → Post (.returned (.tuple #[])) (w1.setCell ⟨X.u, 2, none⟩ (.int .i64 0))) := Lib.hid (fun w1 hr he ht => by
    refine HP.out _ ⟨List.replicate ws.length 0, HB.out, ?_, hr.keep (Below.heap_setCell _ _ _ _ hne), HI.out.ne, by simpa using HI.out.small⟩ ((ht.wide (by simp [SetF.list])).trans (Touch.setCell _ (by simp [SetF.list]) _))
    rw [heap_setCell_same w1 X.u 2 _ _ _ (he.trans HI.out.head), List.length_replicate, setV_none])
  go_enter Tryz.func116, Tryz.ntmps116
  by_cases h0 : k = 0
  · subst h0
    have c2 := HI.out.c2
    have f2 : w.frozen? ⟨X.u, 2, none⟩ = false := (show RowAt w X.u 222 (setV X ws.length l).toList from ⟨_, HI.out.head, [], by simp⟩).frozen 2
    go_wp2_with (refine wpList_clear_none rfl rfl Tryz.underlying131 rfl ?_)
    go_end0
    refine HEnd.out w ?_ rfl (Touch.refl _ _)
    have hr := HI.out.row
    have : ws = [] := List.length_eq_zero_iff.1 HK.out.symm
    subst this
    exact hr
  · have hk0 : 0 < k := by omega
    go_wp2_with (refine wpList_clear_row (t := 136) rfl rfl Tryz.underlying131 zero64 rfl rfl rfl hk0 HI.out.row (by rw [List.length_map, HK.out]; exact Nat.le_refl _) ?_; intro w1 hr1 ht1 _; have HR1 := Lib.hid hr1; have HT1 := Lib.hid ht1; have he1 : w1.heap[X.u]? = w.heap[X.u]? := ht1.block X.u (HI.out.mem_u) (by simpa using HI.out.ne); have HE1 := Lib.hid he1; have c2 : w1.cell? ⟨X.u, 2, none⟩ = some (.int .i64 (l.count true : Int)) := cell_of_row _ _ 2 _ _ _ (he1.trans HI.out.head); have f2 : w1.frozen? ⟨X.u, 2, none⟩ = false := (show RowAt w1 X.u 222 (setV X ws.length l).toList from ⟨_, he1.trans HI.out.head, [], by simp⟩).frozen 2; clear hr1 ht1 he1)
    go_end0
    refine HEnd.out w1 ?_ HE1.out HT1.out
    have hr := HR1.out
    rw [HK.out, List.drop_of_length_le (by simp), List.append_nil] at hr
    rw [List.map_replicate]
    exact hr

theorem OwnI.wiped {w w' : World} {a : Option Addr} {c : Nat} (h : OwnI w (.slice a 0 c) []) (hk : ∀ b, rowOf (.slice a 0 c) = some b → ∀ xs t k, w.heap[b]? = some (.cells xs t k) → ∃ ys, w'.heap[b]? = some (.cells ys t k) ∧ ys.size = xs.size) : OwnI w' (.slice a 0 c) [] := by
  rcases h with h | ⟨p, h, _⟩
  · rcases h.2 with ⟨e, h0⟩ | ⟨g, cap, cur, e, hb, hg, h1, h2, h3, h4⟩
    · cases e
      exact .inl ⟨h.1, .inl ⟨rfl, h0⟩⟩
    · cases e
      by_cases hc : c = 0
      · subst hc; exact .inr ⟨_, rfl, rfl⟩
      · obtain ⟨ys, y1, y2⟩ := hk g (by show (if c = 0 then none else some g) = some g; rw [if_neg hc]) _ _ _ hg
        exact .inl ⟨h.1, .inr ⟨g, c, ys, rfl, hb, y1, h1, h2, by rw [y2]; exact h3, by simp⟩⟩
  · cases h
    exact .inr ⟨p, rfl, rfl⟩
theorem OwnI.rowAt {w : World} {b o n c : Nat} {s : Option (Nat × Nat)} {xs : List Nat} (h : OwnI w (.slice (some ⟨b, o, none⟩) n c) xs) (hn : 0 < n) : o = 0 ∧ RowAt w b 3 (xs.map vi) ∧ n = xs.length ∧ rowOf (.slice (some ⟨b, o, none⟩) n c) = some b := by
  rcases h with h | ⟨p, h, _⟩
  · rcases h.2 with ⟨e, h0⟩ | ⟨g, cap, cur, e, hb, hg, h1, h2, h3, h4⟩
    · cases e
    · cases e
      refine ⟨rfl, ⟨cur, hg, cur.toList.drop (xs.length * 1), by rw [← h4, List.take_append_drop]⟩, rfl, ?_⟩
      show (if c = 0 then none else some b) = some b
      rw [if_neg (by omega)]
  · cases h; omega

set_option maxHeartbeats 2000000 in
set_option maxRecDepth 20000 in
theorem stkclear_any {w : World} {s : Nat} {v : Value} {l : List Nat} {most miss : Nat} (h : StkAt w s v l most miss) (hl : l.length ≤ 1000000) :
    Calls Tryz.prog 117 #[.pointer (some ⟨s, 0, none⟩)] w fun e w' => e = .returned (.tuple #[]) ∧ StkGo w w' s v [] most 0 := by
  have HP : Hid (∀ w', StkGo w w' s v [] most 0 → (fun e w' => e = Ending.returned (.tuple #[]) ∧ StkGo w w' s v [] most 0) (.returned (.tuple #[])) w') := Lib.hid (fun w' h => ⟨rfl, h⟩)
  generalize (fun e w' => e = Ending.returned (.tuple #[]) ∧ StkGo w w' s v [] most 0) = Post at *
  obtain ⟨a, c, rfl, hcs, hlc, hcm⟩ := h.own.cells
  have c0 : w.cell? ⟨s, 0, none⟩ = some (.slice a l.length c) := cell_of_row _ _ 0 _ _ _ h.head
  have HS := Lib.hid h
  have HCut := Lib.hid (h.own.cut (Nat.zero_le _))
  have HRow : Hid (∀ b o, a = some ⟨b, o, none⟩ → 0 < l.length → o = 0 ∧ RowAt w b 3 (l.map vi) ∧ rowOf (.slice (some ⟨b, o, none⟩) l.length c) = some b) := Lib.hid (fun b o e hn => by
    subst e
    obtain ⟨h1, h2, _, h4⟩ := OwnI.rowAt (s := none) h.own hn
    exact ⟨h1, h2, h4⟩)
  have HAt : Hid (0 < l.length → ∃ b o, a = some ⟨b, o, none⟩) := Lib.hid (fun hn => by
    obtain ⟨b, o, e, _⟩ := hcs.at (i := 0) (by simpa using hn)
    exact ⟨b, o, e⟩)
  have HLm : Hid ((l.map vi).length = l.length) := Lib.hid (by simp)
  obtain ⟨n, hn⟩ : ∃ n, n = l.length := ⟨_, rfl⟩
  rw [← hn] at c0 HS HRow HAt HLm hlc hl HP
  rw [List.take_zero] at HCut
  clear h hcs hcm
  -- what is left at the end: the head's two cells are set
  have HEnd : Hid (∀ w1, OwnI w1 (.slice a 0 c) [] → w1.heap[s]? = w.heap[s]? → Touch (stkL s (.slice a n c)) w w1 → StkGo w ((w1.setCell ⟨s, 0, none⟩ (.slice a 0 c)).setCell ⟨s, 2, none⟩ (.int .i64 0)) s (.slice a n c) [] most 0) := Lib.hid (fun w1 ho he ht => by
    have hr0 : rowOf (.slice a 0 c) = rowOf (.slice a n c) := rowOf_cut _ _ _ _
    have hd := he.trans HS.out.head
    have hd1 := heap_setCell_same w1 s 0 _ _ (.slice a 0 c) hd
    have hd2 := heap_setCell_same _ s 2 _ _ (.int .i64 0) hd1
    refine ⟨.slice a 0 c, ⟨hd2, ho.keep (fun b hb => ?_), fun b hb => HS.out.ne b (hr0 ▸ hb)⟩, (ht.trans (Touch.setCell _ (by simp [stkL]) _)).trans (Touch.setCell _ (by simp [stkL]) _), fun b hb => .inl (hr0 ▸ hb)⟩
    have hne := HS.out.ne b (hr0 ▸ hb)
    exact (Below.heap_setCell _ _ _ b hne).trans (Below.heap_setCell _ _ _ b hne))
  have HSl := Lib.hid (HS.out.mem s (by simp [stkL]))
  go_enter Tryz.func117, Tryz.ntmps117
  by_cases h0 : n = 0
  · subst h0
    have HR : Hid (RowAt w s 225 [.slice a 0 c, .int .i64 (most : Int), .int .i64 (miss : Int)]) := Lib.hid ⟨_, HS.out.head, [], by simp⟩
    have f0 := HR.out.frozen 0
    have HR2 := Lib.hid (HR.out.set 0 (by simp) (.slice a 0 c))
    have f2 := HR2.out.frozen 2
    have c2 := HR2.out.cell (i := 2) rfl
    clear hn hl
    go_wp2_with (first | (refine wpList_clear_none rfl rfl Tryz.underlying26 rfl ?_) | (refine wpList_slice_to elBI 0 rfl (by omega) (Nat.zero_le _) rfl rfl rfl rfl ?_))
    go_end0
    exact HP.out _ (HEnd.out w HCut.out rfl (Touch.refl _ _))
  · have hn0 : 0 < n := by omega
    obtain ⟨b, o, rfl⟩ := HAt.out hn0
    obtain ⟨rfl, hrow, hro⟩ := HRow.out b o rfl hn0
    have HRb := Lib.hid hrow
    have HRo := Lib.hid hro
    have HNe : Hid (s ≠ b) := Lib.hid (fun e => HS.out.ne b hro e.symm)
    clear hrow hro hn h0
    go_wp2_with (refine wpList_clear_row (t := 3) rfl rfl Tryz.underlying26 zeroI rfl rfl rfl hn0 HRb.out (by rw [HLm.out]; exact Nat.le_refl _) ?_; intro w1 hr1 ht1 hz1; have HR1 := Lib.hid hr1; have HT1 := Lib.hid ht1; have HZ1 := Lib.hid hz1; have he1 : w1.heap[s]? = w.heap[s]? := ht1.block s HSl.out (by simpa using HNe.out); have HE1 := Lib.hid he1; have HRs : Hid (RowAt w1 s 225 [.slice (some ⟨b, 0, none⟩) n c, .int .i64 (most : Int), .int .i64 (miss : Int)]) := Lib.hid ⟨_, he1.trans HS.out.head, [], by simp⟩; have d0 := HRs.out.cell (i := 0) rfl; have f0 := HRs.out.frozen 0; have HR2 := Lib.hid (HRs.out.set 0 (by simp) (.slice (some ⟨b, 0, none⟩) 0 c)); have f2 := HR2.out.frozen 2; have d2 := HR2.out.cell (i := 2) rfl; clear hr1 ht1 he1 hz1)
    go_end0
    refine HP.out _ (HEnd.out w1 (HCut.out.wiped (fun b' hb' xs t k hx => ?_)) HE1.out (HT1.out.wide (fun b' hb' => by simp at hb'; subst hb'; simp [stkL, HRo.out])))
    have e1 : b' = b := by
      have h1 := rowOf_cut (some ⟨b, 0, none⟩) 0 n c
      rw [h1, HRo.out] at hb'
      injection hb' with hb'
      exact hb'.symm
    subst e1
    exact HZ1.out xs t k hx
end Go.Proofs.YtfedgcdkagngnaaGreat
