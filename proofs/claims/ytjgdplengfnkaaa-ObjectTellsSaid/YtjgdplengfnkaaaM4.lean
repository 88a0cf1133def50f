/- Parts of the proof, one behind the other: Aw, Rl, Mem, Mix, Mx, Ch, Iv. -/
import Derived.Test.YtjgdplengfnkaaaM3
import Derived.Deep.Cut
import Derived.Laws.OwnMore

/- law10.awake. -/
namespace Go.Proofs.Ytjgdplengfnkaaa
open Go.RowKit
set_option linter.unusedVariables false

set_option maxHeartbeats 400000 in
theorem tspans_any {w : World} {p B : Nat} {F : Foot} {l : List Hd} (h : TabAt w p F B l) (hl : l.length ≤ 1000) :
    Calls Try.prog 50 #[.pointer (some ⟨p, 0, none⟩)] w (SpansPost 122 (spansOf l) w) := by
  obtain ⟨g, c, hp, hc, hr, hne⟩ := h.ex
  have c2 : w.cell? ⟨p, 2, none⟩ = some (.slice (some ⟨g, 0, none⟩) l.length c) := cell_of_row _ _ 2 _ _ _ hp
  generalize hP : SpansPost 122 (spansOf l) w = Post
  have HP := Lib.hid hP
  have HR := Lib.hid hr
  clear hP hp hr h
  go_enter Try.func50, Try.ntmps50
  go_wp2_with fail
  refine (bspans_any (some ⟨g, 0, none⟩) l.length c l rfl w HR.out.cells hl).mono ?_
  rintro e w1 ⟨v, rfl, h1, h2⟩
  have HZ : Hid (Post (.returned v) w1) := Lib.hid (by rw [← HP.out]; exact ⟨v, rfl, h1, h2⟩)
  clear h1 h2
  go_wp2_with fail
  exact HZ.out

/-- A device that was made and formatted: all blocks are free. -/
theorem fresh_live (ws : List Nat) (m : Nat) : (freshDev ws m).live := ⟨rfl, rfl⟩
theorem fresh_ok (ws : List Nat) (m N : Nat) : (freshDev ws m).ok N := by unfold Dev.ok freshDev; simp
theorem fmt_words {S : Dev} (hv : S.live) (ho : S.ok 100) (B : Nat) (hB2 : 2 ≤ B) (hd : S.cache.length = 8 * S.dirty.length) (hlen : 256 + B ≤ S.cache.length) (b : Nat) (h1 : 1 ≤ b) (h2 : b < B) : devWord (S.fmt B) b = encN b 0 0 0 := by
  obtain ⟨p1, p2, p3, p5, p4⟩ := fmtTo_props hv ho B hlen
  have := (p1.persist 257 (B - 1) (by omega) (by rw [p3, p5]; exact hd) (by rw [p3]; omega)).2
  rw [show ((B - 1 : Nat) : Int) = (B : Int) - 1 by omega] at this
  unfold devWord Dev.fmt
  rw [show ((257 : Nat) : Int) = 257 from rfl] at this
  rw [this, show (256 : Int) + (b : Int) = ((256 + b : Nat) : Int) by omega, peek_in, p4 b h1 h2]
theorem fmt_ok {S : Dev} (hv : S.live) (ho : S.ok 100) (B : Nat) (hB2 : 2 ≤ B) (hd : S.cache.length = 8 * S.dirty.length) (hlen : 256 + B ≤ S.cache.length) : AllOk (devWord (S.fmt B)) B := by
  intro b h1 h2
  rw [fmt_words hv ho B hB2 hd hlen b h1 h2, dec_enc _ _ _ _ right_zero]
theorem fmt_hds {S : Dev} (hv : S.live) (ho : S.ok 100) (B : Nat) (hB2 : 2 ≤ B) (hd : S.cache.length = 8 * S.dirty.length) (hlen : 256 + B ≤ S.cache.length) : hds (devWord (S.fmt B)) B = List.replicate B ⟨0, 0, 0⟩ := by
  apply List.ext_getElem (by simp [hds])
  intro i h1 h2
  simp [hds] at h1
  simp only [hds, List.getElem_map, List.getElem_range, List.getElem_replicate]
  unfold hdF
  split
  · rfl
  · rw [fmt_words hv ho B hB2 hd hlen i (by omega) h1, dec_enc _ _ _ _ right_zero]

theorem cells_of_owned {w : World} {base e size n : Nat} {v : Value} {vs : List Value} (h : w.ownsRow base e size v n vs) : ∃ a c, v = .slice a n c ∧ Cells w a vs := by
  rcases h.2 with ⟨h0, h1⟩ | ⟨g, cap, cur, rfl, hb, hg, h1, h2, h3, h4⟩
  · subst h0 h1
    have := h.1
    simp at this
    subst this
    exact ⟨none, 0, rfl, Cells.nil _ _⟩
  · exact ⟨_, _, rfl, (owned_row h).cells⟩

set_option maxHeartbeats 1000000 in
set_option maxRecDepth 20000 in
theorem awake_any (w : World) : Calls Try.prog 8 #[] w fun e w' => e = .returned (.bool true) ∧ Below w.heap.size w w' := by
  have hbx := below_alloc w (.cells #[.int .i64 4] 25)
  have hcx : (w.alloc (.cells #[.int .i64 4] 25)).cell? ⟨w.heap.size, 0, none⟩ = some (.int .i64 4) := cell_alloc_new _ _ _ 0 _ rfl
  have HB := Lib.hid hbx
  clear hbx
  go_enter Try.func8, Try.ntmps8
  go_wp2_with fail
  refine (gwords_any _ _ (by omega) (by omega)).mono ?_
  rintro e w1 ⟨rfl, hb1⟩
  have hc1 := below_cells hb1 hcx (Nat.le_refl _)
  have HB1 := Lib.hid (HB.out.trans (hb1.mono HB.out.size))
  clear hb1 hcx HB
  go_wp2_with fail
  refine (new_any _ _ (by omega)).mono ?_
  rintro e w2 ⟨F, rfl, hF, hd2, hb2⟩
  have hc2 := below_cells hb2 hc1 (Nat.le_refl _)
  have HB2 := Lib.hid (HB1.out.trans (hb2.mono HB1.out.size))
  have HF : Hid (∀ k ∈ F.list, w1.heap.size ≤ k) := Lib.hid hF
  have h1l : w.heap.size < w1.heap.size := World.block_lt_of_cell? _ _ hc1
  obtain ⟨S, hS⟩ : ∃ S, S = freshDev (List.replicate (8 * (((4 * 512 : Int).toNat + 7) / 8)) 0) (((4 * 512 : Int).toNat + 7) / 8) := ⟨_, rfl⟩
  have hlive : S.live := by rw [hS]; exact fresh_live _ _
  have hok : S.ok 100 := by rw [hS]; exact fresh_ok _ _ _
  have hlen : S.cache.length = 2048 := by rw [hS]; simp [freshDev]
  have hdl : S.cache.length = 8 * S.dirty.length := by rw [hS]; simp [freshDev]
  have HD2 : Hid (DevAt w2 F S) := Lib.hid (by rw [hS]; exact hd2)
  have HS : Hid (S.live ∧ S.ok 100 ∧ S.cache.length = 2048 ∧ S.cache.length = 8 * S.dirty.length) := Lib.hid ⟨hlive, hok, hlen, hdl⟩
  clear hS hlive hok hlen hdl hd2 hb2 hF hc1
  unfold vdev
  go_wp2_with fail
  refine (format_any HD2.out HS.out.1 HS.out.2.1 4 (by omega) (by omega) (by rw [HS.out.2.2.1]; omega)).mono ?_
  rintro e w3 ⟨rfl, hd3, ht3⟩
  have hc3 : w3.cell? ⟨w.heap.size, 0, none⟩ = some (.int .i64 4) := cell_of_touch ht3 (fun hm => by have := HF.out _ hm; simp at this; omega) hc2
  have HB3 : Hid (Below w.heap.size w w3) := Lib.hid (below_touch HB2.out ht3 (fun k hk => by have := HF.out k hk; omega) (Nat.le_refl _))
  have HD3 := Lib.hid hd3
  clear hd3 ht3 hc2 HB2 HD2
  go_wp2_with fail
  refine (open_tab HD3.out 4 (by omega) (by omega)).mono ?_
  have HOK : Hid (AllOk (devWord (S.fmt 4)) 4) := Lib.hid (fmt_ok HS.out.1 HS.out.2.1 4 (by omega) HS.out.2.2.2 (by rw [HS.out.2.2.1]; omega))
  have HHD : Hid (hds (devWord (S.fmt 4)) 4 = List.replicate 4 ⟨0, 0, 0⟩) := Lib.hid (fmt_hds HS.out.1 HS.out.2.1 4 (by omega) HS.out.2.2.2 (by rw [HS.out.2.2.1]; omega))
  rintro e w4 ⟨hb4, ⟨_, p, rfl, hp, htab⟩ | ⟨b, hb0, hbB, _, hbad, rfl⟩⟩
  · rw [HHD.out] at htab
    have HT := Lib.hid htab
    have HB4 := Lib.hid (HB3.out.trans (hb4.mono HB3.out.size))
    clear htab hb4
    go_wp2_with fail
    refine (tspans_any HT.out (by simp)).mono ?_
    rintro e w5 ⟨v, rfl, ho5, hb5⟩
    have HSP : Hid (spansOf (List.replicate 4 (⟨0, 0, 0⟩ : Hd)) = [(1, 3)]) := Lib.hid (by decide)
    rw [HSP.out] at ho5
    obtain ⟨a5, c5, rfl, hcs5⟩ := cells_of_owned ho5
    have HB5 := Lib.hid (HB4.out.trans (hb5.mono HB4.out.size))
    have HC5 := Lib.hid hcs5
    clear ho5 hb5 hcs5
    have HBA := Lib.hid (below_alloc w5 (.cells #[.int .i64 1, .int .i64 3] 110))
    have HC6 : Hid (Cells (w5.alloc (.cells #[.int .i64 1, .int .i64 3] 110)) a5 (spCs [(1, 3)])) := Lib.hid (HC5.out.below HBA.out (Nat.le_refl _))
    have HC7 : Hid (Cells (w5.alloc (.cells #[.int .i64 1, .int .i64 3] 110)) (some ⟨w5.heap.size, 0, none⟩) (spCs [(1, 3)])) := Lib.hid (.inr ⟨_, _, rfl, fun i v hi => by
      rw [Nat.zero_add]; exact cell_alloc_new _ _ _ i v (by simpa [spCs] using hi)⟩)
    go_wp2_with fail
    refine (lspans_same _ _ 1 _ _ [(1, 3)] rfl _ HC6.out HC7.out (by omega)).mono ?_
    rintro e w6 ⟨rfl, q, rfl⟩
    go_wp2_with fail
    go_ret
    exact ⟨rfl, below_drewN (HB5.out.trans (HBA.out.mono HB5.out.size)) _⟩
  · exact absurd (HOK.out b hb0 hbB) hbad

end Go.Proofs.Ytjgdplengfnkaaa

/- The reference's device: Load. -/
namespace Go.Proofs.Ytjgdplengfnkaaa
open Go.RowKit
set_option linter.unusedVariables false

theorem elLine : Elem Try.prog 28 114 (.agg #[vu64 0, vu64 0, vu64 0, vu64 0, vu64 0, vu64 0, vu64 0, vu64 0]) 8 64 := Elem.mk' Try.underlying28 (by kernel_rfl) rfl (by decide)

/-- The state of the document's device. -/
structure RDev where
  now : List Nat
  last : List Nat
  wait : List Nat
  dirty : List Bool
  pending : List Bool
  steps : Int
  fuse : Int
  dead : Bool

structure RAt (w : World) (v : Value) (m : Nat) (R : RDev) : Prop where
  ex : ∃ an cn al cl aw cw ad cd ap cp, v = .agg #[.slice an m cn, .slice al m cl, .slice aw m cw, .slice ad m cd, .slice ap m cp, .int .i64 R.steps, .int .i64 R.fuse, .bool R.dead] ∧
    Cells w an (R.now.map vu64) ∧ Cells w al (R.last.map vu64) ∧ Cells w aw (R.wait.map vu64) ∧ Cells w ad (R.dirty.map Value.bool) ∧ Cells w ap (R.pending.map Value.bool)
  lenN : R.now.length = 8 * m
  lenL : R.last.length = 8 * m
  lenW : R.wait.length = 8 * m
  lenD : R.dirty.length = m
  lenP : R.pending.length = m
  u64N : ∀ z ∈ R.now, z < 18446744073709551616
  u64L : ∀ z ∈ R.last, z < 18446744073709551616
  u64W : ∀ z ∈ R.wait, z < 18446744073709551616

theorem RAt.below {w w' : World} {v : Value} {m B : Nat} {R : RDev} (h : RAt w v m R) (hb : Below B w w') (hB : w.heap.size ≤ B) : RAt w' v m R := by
  obtain ⟨an, cn, al, cl, aw, cw, ad, cd, ap, cp, rfl, h1, h2, h3, h4, h5⟩ := h.ex
  exact { h with ex := ⟨an, cn, al, cl, aw, cw, ad, cd, ap, cp, rfl, h1.below hb hB, h2.below hb hB, h3.below hb hB, h4.below hb hB, h5.below hb hB⟩ }

def freshR (ws : List Nat) (m : Nat) : RDev := ⟨ws, ws, List.replicate (8 * m) 0, List.replicate m false, List.replicate m false, 0, -1, false⟩

theorem pad_append (ws : List Nat) (k : Nat) (h : k % 8 = 0) (hk : k < ws.length) : (padTo (ws.take k) (8 * (k / 8))).map vu64 ++ [vu64 0, vu64 0, vu64 0, vu64 0, vu64 0, vu64 0, vu64 0, vu64 0] = (padTo (ws.take k) (8 * (k / 8 + 1))).map vu64 := by
  unfold padTo
  have : (ws.take k).length = k := by simp; omega
  rw [this, show 8 * (k / 8) - k = 0 by omega, show 8 * (k / 8 + 1) - k = 8 by omega]
  simp
theorem pad_set (ws : List Nat) (k m : Nat) (hk : k < ws.length) (hm : k < 8 * m) : ((padTo (ws.take k) (8 * m)).map vu64).set k (vu64 (ws.getD k 0)) = (padTo (ws.take (k + 1)) (8 * m)).map vu64 := by
  rw [← map_set_u64]
  congr 1
  unfold padTo
  have h1 : (ws.take k).length = k := by simp; omega
  have h2 : (ws.take (k + 1)).length = k + 1 := by simp; omega
  rw [h1, h2, List.set_append_right _ _ (by omega), h1, Nat.sub_self, List.take_succ_eq_append_getElem hk, show 8 * m - k = (8 * m - (k + 1)) + 1 by omega, List.replicate_succ, List.set_cons_zero, List.append_assoc]
  simp [hk]
theorem pad_length (ws : List Nat) (k m : Nat) (hk : k ≤ ws.length) (hm : k ≤ 8 * m) : (padTo (ws.take k) (8 * m)).length = 8 * m := by
  unfold padTo; simp; omega

def zeroD : Array Value := #[.slice none 0 0, .slice none 0 0, .slice none 0 0, .slice none 0 0, .slice none 0 0, .int .i64 0, .int .i64 0, .bool false]
theorem aggRd : Agg Try.prog 31 zeroD := ⟨⟨_, Try.underlying31, rfl⟩, by kernel_rfl⟩
/-- While a device is laid: its fields, and the result's place. -/
structure LdSt (w W : World) (f : Array Value) : Prop where
  at1 : W.heap[w.heap.size + 1]? = some (.cells f 31 (0, 0))
  at0 : W.heap[w.heap.size]? = some (.cells zeroD 31 (0, 0))
  below : Below w.heap.size w W
  size : w.heap.size + 2 ≤ W.heap.size
theorem LdSt.set {w W : World} {f : Array Value} (h : LdSt w W f) (j : Nat) (v : Value) : LdSt w (W.setCell ⟨w.heap.size + 1, j, none⟩ v) (f.setIfInBounds j v) :=
  ⟨heap_setCell_same _ _ _ _ _ _ h.at1, (Below.heap_setCell _ _ _ _ (by simp)).trans h.at0, h.below.setCell (by simp) _, by simp [World.setCell]; exact h.size⟩
theorem LdSt.grown {w W W' : World} {f : Array Value} (h : LdSt w W f) (hg : W.grownBy W' none) : LdSt w W' f := by
  have hb := below_grown hg (Nat.le_refl _)
  have := h.size
  exact ⟨(hb.block _ (by omega)).trans h.at1, (hb.block _ (by omega)).trans h.at0, h.below.trans (hb.mono h.below.size), Nat.le_trans h.size hb.size⟩
theorem LdSt.cell {w W : World} {f : Array Value} (h : LdSt w W f) (j : Nat) {v : Value} (hv : f[j]? = some v) : W.cell? ⟨w.heap.size + 1, j, none⟩ = some v := by
  rw [cell_of_row _ _ j _ _ _ h.at1]; exact hv
theorem LdSt.frozen {w W : World} {f : Array Value} (h : LdSt w W f) (j : Nat) : W.frozen? ⟨w.heap.size + 1, j, none⟩ = false := frozen_of_row _ _ _ _ _ h.at1
theorem owned_grown {w w' : World} {base e size n : Nat} {v : Value} {xs : List Value} (h : w.ownsRow base e size v n xs) (hg : w.grownBy w' none) : w'.ownsRow base e size v n xs := owned_below h (below_grown hg (Nat.le_refl _)) (Nat.le_refl _)

theorem owned_addr {w : World} {base e size n n' c : Nat} {a : Option Addr} {xs : List Value} (h : w.ownsRow base e size (.slice a n' c) n xs) (x : Addr) (hx : a = some x) : base ≤ x.block := by
  rcases h.2 with ⟨h0, _⟩ | ⟨g, cap, cur, hv, hb, _⟩
  · simp at h0; rw [h0.1] at hx; cases hx
  · simp at hv; rw [hv.1] at hx; cases hx; exact hb

set_option maxHeartbeats 2000000 in
set_option maxRecDepth 100000 in
theorem rload_at (a : Option Addr) (n cap : Nat) (ws : List Nat) (hn : ws.length = n) (w : World) (hc : Cells w a (ws.map vu64)) (hl : n ≤ 100000) (hu : ∀ z ∈ ws, z < 18446744073709551616) :
    Calls Try.prog 10 #[.slice a n cap] w fun e w' => ∃ v, e = .returned v ∧ RAt w' v ((n + 7) / 8) (freshR (padTo ws (8 * ((n + 7) / 8))) ((n + 7) / 8)) ∧ (∀ cs, v = .agg cs → ∀ (i : Nat) (x : Addr) (n c : Nat), cs[i]? = some (.slice (some x) n c) → w.heap.size ≤ x.block) ∧ Below w.heap.size w w' := by
  have HN := Lib.hid hn
  have HC := Lib.hid hc
  have HU := Lib.hid hu
  obtain ⟨w0, hw0⟩ : ∃ w0, w0 = (w.alloc (.cells #[.slice none 0 0, .slice none 0 0, .slice none 0 0, .slice none 0 0, .slice none 0 0, .int .i64 0, .int .i64 0, .bool false] 31)).alloc (.cells #[.slice none 0 0, .slice none 0 0, .slice none 0 0, .slice none 0 0, .slice none 0 0, .int .i64 0, .int .i64 0, .bool false] 31) := ⟨_, rfl⟩
  have hb0 : Below w.heap.size w w0 := by rw [hw0]; exact (below_alloc _ _).alloc (by simp) _
  have hg1 : w0.heap[w.heap.size + 1]? = some (.cells #[.slice none 0 0, .slice none 0 0, .slice none 0 0, .slice none 0 0, .slice none 0 0, .int .i64 0, .int .i64 0, .bool false] 31) := by
    rw [hw0]
    have := heap_alloc_new (w.alloc (.cells #[.slice none 0 0, .slice none 0 0, .slice none 0 0, .slice none 0 0, .slice none 0 0, .int .i64 0, .int .i64 0, .bool false] 31)) (.cells #[.slice none 0 0, .slice none 0 0, .slice none 0 0, .slice none 0 0, .slice none 0 0, .int .i64 0, .int .i64 0, .bool false] 31)
    simpa using this
  have hg0 : w0.heap[w.heap.size]? = some (.cells #[.slice none 0 0, .slice none 0 0, .slice none 0 0, .slice none 0 0, .slice none 0 0, .int .i64 0, .int .i64 0, .bool false] 31) := by
    rw [hw0, Below.heap_alloc _ _ _ (by simp)]
    exact heap_alloc_new _ _
  have HW0 := Lib.hid hw0
  have HB0 := Lib.hid hb0
  have HG0 := Lib.hid hg0
  have HG1 := Lib.hid hg1
  have hsz0 : Hid (w0.heap.size = w.heap.size + 2) := Lib.hid (by rw [hw0]; simp)
  clear hn hc hu hw0 hb0 hg0 hg1
  go_enter Try.func10, Try.ntmps10
  go_wp2_with fail
  rw [← HW0.out]
  go_loopw [4] (fun i wr => ∃ k : Nat, k ≤ n ∧ i = .int .i64 k ∧ ∃ v, wr.heap[w.heap.size + 1]? = some (.cells #[v, .slice none 0 0, .slice none 0 0, .slice none 0 0, .slice none 0 0, .int .i64 0, .int .i64 0, .bool false] 31) ∧ wr.heap[w.heap.size]? = some (.cells #[.slice none 0 0, .slice none 0 0, .slice none 0 0, .slice none 0 0, .slice none 0 0, .int .i64 0, .int .i64 0, .bool false] 31) ∧ wr.ownsRow (w.heap.size + 2) 114 8 v ((k + 7) / 8) ((padTo (ws.take k) (8 * ((k + 7) / 8))).map vu64) ∧ Below w.heap.size w wr ∧ w.heap.size + 2 ≤ wr.heap.size) (fun i _ => n - (intOf i).toNat)
  case atStart => exact ⟨0, Nat.zero_le _, rfl, _, HG1.out, HG0.out, ⟨rfl, .inl ⟨rfl, rfl⟩⟩, HB0.out, by rw [hsz0.out]; exact Nat.le_refl _⟩
  case round =>
    obtain ⟨k, hk, rfl, v, hv1, hv0, ho, hb, hsz⟩ := hrel
    by_cases hlt : k < n
    · have hlt' : (k : Int) < (n : Int) := by omega
      obtain ⟨b, off, rfl, hcs⟩ : ∃ b off, a = some ⟨b, off, none⟩ ∧ wr.cell? ⟨b, off + k, none⟩ = some (vu64 (ws.getD k 0)) := by
        obtain ⟨b, off, rfl, hb', hcs⟩ := (HC.out.below hb (Nat.le_refl _)).atMap 0 (show k < ws.length by rw [HN.out]; exact hlt)
        exact ⟨b, off, rfl, hcs k (by rw [HN.out]; exact hlt)⟩
      have HX : Hid (k < ws.length) := Lib.hid (by rw [HN.out]; exact hlt)
      obtain ⟨a1, c1, rfl, hc1, hm1⟩ := owned_form ho
      have e0 : wr.cell? ⟨w.heap.size + 1, 0, none⟩ = some (.slice a1 ((k + 7) / 8) c1) := cell_of_row _ _ 0 _ _ _ hv1
      have f0 : wr.frozen? ⟨w.heap.size + 1, 0, none⟩ = false := frozen_of_row _ _ _ _ _ hv1
      by_cases hz : k % 8 = 0
      · have hz1 : ((k : Int) % 8 == 0) = true := by simp; omega
        have hz2 : (k % 8 == 0) = true := by simpa using hz
        have HZ := Lib.hid hz
        have hm : (k + 7) / 8 = k / 8 := by omega
        rw [hm] at ho e0
        have HO := Lib.hid ho
        have HV1 := Lib.hid hv1
        have HV0 := Lib.hid hv0
        have HB := Lib.hid hb
        have hk9 : k / 8 < 1000000000000 := by omega
        have hone : Hid (∀ u ∈ (#[vu64 0, vu64 0, vu64 0, vu64 0, vu64 0, vu64 0, vu64 0, vu64 0] : Array Value).toList, u.oneCell' = true) := Lib.hid (by decide)
        have hbase := Lib.hid hsz
        clear ho hv1 hv0 hb hz hm hsz
        go_wp2_with (at_builtin; refine wpList_append_new (us := #[vu64 0, vu64 0, vu64 0, vu64 0, vu64 0, vu64 0, vu64 0, vu64 0]) elLine HO.out rfl hone.out hk9 (by decide) hbase.out rfl rfl rfl (by simp [Act.eval]) ?_; intro g6 c6 w6 ho6 hg6 hc6 hm6 hb6 hl6; have HO6 := Lib.hid ho6; have HG6 := Lib.hid hg6; have HH6 := Lib.hid (And.intro (grown_heap hg6 HO.out (by omega) HV1.out) (grown_heap hg6 HO.out (by omega) HV0.out)); have e6 := cell_of_row _ _ 0 _ _ _ HH6.out.1; have f6 : w6.frozen? ⟨w.heap.size + 1, 0, none⟩ = false := frozen_of_row _ _ _ _ _ HH6.out.1; clear ho6 hg6)
        rw [pad_append _ _ HZ.out HX.out] at HO6
        obtain ⟨hv17, hv07⟩ := HH6.out
        have hv1 := heap_setCell_same w6 (w.heap.size + 1) 0 _ _ (.slice (some ⟨g6, 0, none⟩) (k / 8 + 1) c6) hv17
        have hv0 : (w6.setCell ⟨w.heap.size + 1, 0, none⟩ (.slice (some ⟨g6, 0, none⟩) (k / 8 + 1) c6)).heap[w.heap.size]? = _ := (Below.heap_setCell _ _ _ _ (by simp)).trans hv07
        have hb7 : Below w.heap.size w (w6.setCell ⟨w.heap.size + 1, 0, none⟩ (.slice (some ⟨g6, 0, none⟩) (k / 8 + 1) c6)) := (below_grownBy HB.out HO.out HG6.out (Nat.le_refl _) (by omega)).setCell (by simp) _
        have ho7 := ownsRow_setCell_below HO6.out (a := ⟨w.heap.size + 1, 0, none⟩) (by simp) (.slice (some ⟨g6, 0, none⟩) (k / 8 + 1) c6)
        have hsz7 : w.heap.size + 2 ≤ (w6.setCell ⟨w.heap.size + 1, 0, none⟩ (.slice (some ⟨g6, 0, none⟩) (k / 8 + 1) c6)).heap.size := by simp [World.setCell]; omega
        generalize w6.setCell ⟨w.heap.size + 1, 0, none⟩ (.slice (some ⟨g6, 0, none⟩) (k / 8 + 1) c6) = w7 at *
        have E0 : w7.cell? ⟨w.heap.size + 1, 0, none⟩ = some (.slice (some ⟨g6, 0, none⟩) (k / 8 + 1) c6) := cell_of_row _ _ 0 _ _ _ hv1
        have CW : w7.cell? ⟨b, off + k, none⟩ = some (vu64 (ws.getD k 0)) := by
          obtain ⟨b', off', he, hb', hcs'⟩ := (HC.out.below hb7 (Nat.le_refl _)).atMap 0 HX.out
          simp at he
          obtain ⟨rfl, rfl⟩ := he
          exact hcs' k HX.out
        obtain ⟨xk, hxk⟩ : ∃ xk, xk = ws.getD k 0 := ⟨_, rfl⟩
        rw [← hxk] at CW
        have HXK := Lib.hid hxk
        have HO7 := Lib.hid ho7
        have HV1 := Lib.hid hv1
        have HV0 := Lib.hid hv0
        have HB7 := Lib.hid hb7
        clear ho7 hv1 hv0 hb7 HO6 HG6 hv17 hv07 HH6 e6 f6 HO HB hcs e0 f0 hxk
        have hM : k / 8 < k / 8 + 1 := by omega
        have f1 := fun x => later_cell E0 x
        have f2 := fun x => later_cell CW x
        have hq3 : 0 ≤ (k : Int) / 8 := by omega
        have hq4 : ((k : Int) / 8).toNat = k / 8 := by omega
        have hq5 : (k : Int) / 8 < (k : Int) / 8 + 1 := by omega
        have hq6 : 0 ≤ (k : Int) % 8 := by omega
        have hq7 : ((k : Int) % 8).toNat = k % 8 := by omega
        have hq8 : (k : Int) % 8 < 8 := by omega
        have hq9 : k % 8 < 8 := by omega
        have hq2 : (k : Int).tmod 8 = (k : Int) % 8 := Int.tmod_eq_emod_of_nonneg (by omega)
        have hq1 : IntKind.i64.wrap ((k : Int) / 8) = (k : Int) / 8 := IntWalk.i64_in _ (by omega)
        refine wp_region_later_tail 12 ?hn ?hm ?hB ?_
        case hn => exact Nat.le_of_ble_eq_true rfl
        case hm => kernel_rfl
        case hB => kernel_rfl
        simp only [List.take_succ_cons, List.take_zero, List.drop_succ_cons, List.drop_zero]
        repeat (quiet_step (fail))
        refine wpQuiet_nil ?_
        rintro w8 ⟨x, hx8⟩
        have hb8 : Below w7.heap.size w7 w8 := by rw [hx8]; exact x.below
        have ho8 := owned_below HO7.out hb8 (Nat.le_refl _)
        have hr8 := owned_row ho8
        have hl8 : k < ((padTo (ws.take k) (8 * (k / 8 + 1))).map vu64).length := by rw [List.length_map, pad_length _ _ _ (Nat.le_of_lt HX.out) (by omega)]; omega
        have e8 : w8.cell? ⟨g6, k / 8 * 8 + k % 8, none⟩ = some (((padTo (ws.take k) (8 * (k / 8 + 1))).map vu64)[k]'hl8) := by
          rw [show k / 8 * 8 + k % 8 = k by omega]; exact hr8.cell (List.getElem?_eq_getElem hl8)
        generalize (((padTo (ws.take k) (8 * (k / 8 + 1))).map vu64)[k]'hl8) = old at e8
        have f8 : w8.frozen? ⟨g6, k / 8 * 8 + k % 8, none⟩ = false := hr8.frozen _
        have hst := ho8.stored k (vu64 xk)
        rw [HXK.out, pad_set _ _ _ HX.out (by omega), ← HXK.out] at hst
        have HST := Lib.hid hst
        have HO8 := Lib.hid ho8
        have hgl : w.heap.size + 1 < w7.heap.size := by omega
        have hgg : w.heap.size + 2 ≤ g6 := by assumption
        have HV18 : Hid (w8.heap[w.heap.size + 1]? = _) := Lib.hid ((hb8.block _ hgl).trans HV1.out)
        have HV08 : Hid (w8.heap[w.heap.size]? = _) := Lib.hid ((hb8.block _ (by omega)).trans HV0.out)
        have HB8 : Hid (Below w.heap.size w w8) := Lib.hid (HB7.out.trans (hb8.mono HB7.out.size))
        have hs8 : w.heap.size + 2 ≤ w8.heap.size := by have := hb8.size; omega
        clear hx8 hb8 ho8 hr8 hl8 hst f1 f2 hq1 hq2 hq3 hq4 hq5 hq6 hq7 hq8 hq9 E0 CW x
        go_wp2_with fail
        refine ⟨⟨k + 1, by omega, vint (by omega), .slice (some ⟨g6, 0, none⟩) (k / 8 + 1) c6, ?_, ?_, ?_, ?_, ?_⟩, by simp [intOf]; omega⟩
        · exact (Below.heap_setCell _ _ _ _ (by simp; omega)).trans HV18.out
        · exact (Below.heap_setCell _ _ _ _ (by simp; omega)).trans HV08.out
        · rw [show (k + 1 + 7) / 8 = k / 8 + 1 by omega, show k / 8 * 8 + k % 8 = k by omega]; exact HST.out.1
        · exact HB8.out.setCell (by simp; omega) _
        · simp [World.setCell]; exact hs8
      · have hz1 : ((k : Int) % 8 == 0) = false := by simp; omega
        have hz2 : (k % 8 == 0) = false := by simpa using hz
        have hm : (k + 7) / 8 = k / 8 + 1 := by omega
        rw [hm] at ho e0
        obtain ⟨g6, c6, hge, hc6, hm6, hb6, hl6⟩ := owned_some ho (by omega)
        simp at hge
        obtain ⟨rfl, rfl⟩ := hge
        rw [hm] at hv1
        obtain ⟨xk, hxk⟩ : ∃ xk, xk = ws.getD k 0 := ⟨_, rfl⟩
        rw [← hxk] at hcs
        have HXK := Lib.hid hxk
        have E0 := e0
        have CW := hcs
        have HO7 := Lib.hid ho
        have HV1 := Lib.hid hv1
        have HV0 := Lib.hid hv0
        have HB7 := Lib.hid hb
        clear ho hv1 hv0 hb hz hm e0 hcs f0 hxk
        go_wp2_with fail
        have hM : k / 8 < k / 8 + 1 := by omega
        have f1 := fun x => later_cell E0 x
        have f2 := fun x => later_cell CW x
        have hq3 : 0 ≤ (k : Int) / 8 := by omega
        have hq4 : ((k : Int) / 8).toNat = k / 8 := by omega
        have hq5 : (k : Int) / 8 < (k : Int) / 8 + 1 := by omega
        have hq6 : 0 ≤ (k : Int) % 8 := by omega
        have hq7 : ((k : Int) % 8).toNat = k % 8 := by omega
        have hq8 : (k : Int) % 8 < 8 := by omega
        have hq9 : k % 8 < 8 := by omega
        have hq2 : (k : Int).tmod 8 = (k : Int) % 8 := Int.tmod_eq_emod_of_nonneg (by omega)
        have hq1 : IntKind.i64.wrap ((k : Int) / 8) = (k : Int) / 8 := IntWalk.i64_in _ (by omega)
        refine wp_region_later_tail 12 ?hn ?hm ?hB ?_
        case hn => exact Nat.le_of_ble_eq_true rfl
        case hm => kernel_rfl
        case hB => kernel_rfl
        simp only [List.take_succ_cons, List.take_zero, List.drop_succ_cons, List.drop_zero]
        repeat (quiet_step (fail))
        refine wpQuiet_nil ?_
        rintro w8 ⟨x, hx8⟩
        have hb8 : Below wr.heap.size wr w8 := by rw [hx8]; exact x.below
        have ho8 := owned_below HO7.out hb8 (Nat.le_refl _)
        have hr8 := owned_row ho8
        have hl8 : k < ((padTo (ws.take k) (8 * (k / 8 + 1))).map vu64).length := by rw [List.length_map, pad_length _ _ _ (Nat.le_of_lt HX.out) (by omega)]; omega
        have e8 : w8.cell? ⟨g6, k / 8 * 8 + k % 8, none⟩ = some (((padTo (ws.take k) (8 * (k / 8 + 1))).map vu64)[k]'hl8) := by
          rw [show k / 8 * 8 + k % 8 = k by omega]; exact hr8.cell (List.getElem?_eq_getElem hl8)
        generalize (((padTo (ws.take k) (8 * (k / 8 + 1))).map vu64)[k]'hl8) = old at e8
        have f8 : w8.frozen? ⟨g6, k / 8 * 8 + k % 8, none⟩ = false := hr8.frozen _
        have hst := ho8.stored k (vu64 xk)
        rw [HXK.out, pad_set _ _ _ HX.out (by omega), ← HXK.out] at hst
        have HST := Lib.hid hst
        have HO8 := Lib.hid ho8
        have hgl : w.heap.size + 1 < wr.heap.size := by omega
        have hgg : w.heap.size + 2 ≤ g6 := by assumption
        have HV18 : Hid (w8.heap[w.heap.size + 1]? = _) := Lib.hid ((hb8.block _ hgl).trans HV1.out)
        have HV08 : Hid (w8.heap[w.heap.size]? = _) := Lib.hid ((hb8.block _ (by omega)).trans HV0.out)
        have HB8 : Hid (Below w.heap.size w w8) := Lib.hid (HB7.out.trans (hb8.mono HB7.out.size))
        have hs8 : w.heap.size + 2 ≤ w8.heap.size := by have := hb8.size; omega
        clear hx8 hb8 ho8 hr8 hl8 hst f1 f2 hq1 hq2 hq3 hq4 hq5 hq6 hq7 hq8 hq9 E0 CW x
        go_wp2_with fail
        refine ⟨⟨k + 1, by omega, vint (by omega), .slice (some ⟨g6, 0, none⟩) (k / 8 + 1) c1, ?_, ?_, ?_, ?_, ?_⟩, by simp [intOf]; omega⟩
        · exact (Below.heap_setCell _ _ _ _ (by simp; omega)).trans HV18.out
        · exact (Below.heap_setCell _ _ _ _ (by simp; omega)).trans HV08.out
        · rw [show (k + 1 + 7) / 8 = k / 8 + 1 by omega, show k / 8 * 8 + k % 8 = k by omega]; exact HST.out.1
        · exact HB8.out.setCell (by simp; omega) _
        · simp [World.setCell]; exact hs8
    · obtain rfl : k = n := by omega
      have hlt' : decide ((k : Int) < (k : Int)) = false := by simp
      have hlt2 : decide (k < k) = false := by simp
      rw [List.take_of_length_le (by rw [HN.out]; exact Nat.le_refl _)] at ho
      have hlen : (padTo ws (8 * ((k + 7) / 8))).length = 8 * ((k + 7) / 8) := by
        have := pad_length ws k ((k + 7) / 8) (by rw [HN.out]; exact Nat.le_refl _) (by omega)
        rwa [List.take_of_length_le (by rw [HN.out]; exact Nat.le_refl _)] at this
      have hu2 : ∀ z ∈ padTo ws (8 * ((k + 7) / 8)), z < 18446744073709551616 := fun z hz => by
        simp only [padTo, List.mem_append, List.mem_replicate] at hz
        rcases hz with hz | ⟨_, rfl⟩
        · exact HU.out z hz
        · decide
      have hMb : (k + 7) / 8 ≤ 20000 := by omega
      obtain ⟨M, hMe⟩ : ∃ M, M = (k + 7) / 8 := ⟨_, rfl⟩
      rw [← hMe] at ho hlen hu2 hMb
      obtain ⟨L, hLe⟩ : ∃ L, L = padTo ws (8 * M) := ⟨_, rfl⟩
      rw [← hLe] at ho hlen hu2
      have HRe : Hid (freshR (padTo ws (8 * ((k + 7) / 8))) ((k + 7) / 8) = freshR L M ∧ (k + 7) / 8 = M) := Lib.hid (by rw [← hMe, hLe]; exact ⟨rfl, rfl⟩)
      clear hMe hLe
      have HL := Lib.hid hlen
      have HU2 := Lib.hid hu2
      obtain ⟨a1, c1, rfl, hc1, hm1⟩ := owned_form ho
      have e0 : wr.cell? ⟨w.heap.size + 1, 0, none⟩ = some (.slice a1 M c1) := cell_of_row _ _ 0 _ _ _ hv1
      have e1 : wr.cell? ⟨w.heap.size + 1, 1, none⟩ = some (.slice none 0 0) := cell_of_row _ _ 1 _ _ _ hv1
      have HO := Lib.hid ho
      have HV1 := Lib.hid hv1
      have HV0 := Lib.hid hv0
      have HB := Lib.hid hb
      have hone : Hid (∀ u ∈ L.map vu64, u.oneCell' = true) := Lib.hid (one_cells _)
      have hM9 : 0 + M < 1000000000000 := by omega
      have hbase := Lib.hid hsz
      have hnil : Hid (wr.ownsRow (w.heap.size + 2) 114 8 (.slice none 0 0) 0 []) := Lib.hid ⟨rfl, .inl ⟨rfl, rfl⟩⟩
      clear ho hv1 hv0 hb hlen hu2 hsz
      go_upto_region 9 with (at_builtin; refine wpList_append_rows elLine hnil.out HO.out hone.out hM9 (by decide) hbase.out rfl rfl rfl rfl ?_; intro v2 w2 ho2 hg2; rw [Nat.zero_add, List.nil_append] at ho2; obtain ⟨a2, c2, rfl, hc2, hm2⟩ := owned_form ho2; have HO2 := Lib.hid ho2; have HG2 := Lib.hid hg2; have HH2 := Lib.hid (And.intro (grown_heap hg2 hnil.out (by omega) HV1.out) (grown_heap hg2 hnil.out (by omega) HV0.out)); have e2 := cell_of_row _ _ 1 _ _ _ HH2.out.1; have f2 : w2.frozen? ⟨w.heap.size + 1, 1, none⟩ = false := frozen_of_row _ _ _ _ _ HH2.out.1; clear ho2 hg2)
      have st2 : LdSt w w2 _ := ⟨HH2.out.1, HH2.out.2, below_grownBy HB.out hnil.out HG2.out (Nat.le_refl _) (by omega), Nat.le_trans hbase.out HG2.out.size⟩
      have st := st2.set 1 (.slice a2 M c2)
      have hN := ownsRow_setCell_below (owned_grown HO.out HG2.out) (a := ⟨w.heap.size + 1, 1, none⟩) (by simp) (.slice a2 M c2)
      have hL := ownsRow_setCell_below HO2.out (a := ⟨w.heap.size + 1, 1, none⟩) (by simp) (.slice a2 M c2)
      generalize w2.setCell ⟨w.heap.size + 1, 1, none⟩ (.slice a2 M c2) = W2 at *
      have ST := Lib.hid st
      have HNo := Lib.hid hN
      have HLa := Lib.hid hL
      have e0' : W2.cell? ⟨w.heap.size + 1, 0, none⟩ = some (.slice a1 M c1) := st.cell 0 rfl
      have hb2 := Lib.hid st.size
      have hM8 : M < 1000000000000 := by omega
      have hz8 : Hid (∀ i, i < (#[vu64 0, vu64 0, vu64 0, vu64 0, vu64 0, vu64 0, vu64 0, vu64 0] : Array Value).size → (#[vu64 0, vu64 0, vu64 0, vu64 0, vu64 0, vu64 0, vu64 0, vu64 0] : Array Value)[i]? = some (vu64 0)) := Lib.hid (by intro i hi; simp at hi; rcases i with _ | _ | _ | _ | _ | _ | _ | _ | i <;> first | rfl | omega)
      clear st2 st hN hL e0 e1 e2 f2 HH2 HG2 HO2 HO HV1 HV0 HB hnil hbase
      go_upto_region 10 with (at_make; refine wpList_make_rows elLine (w.heap.size + 2) M (z := vu64 0) hz8.out rfl rfl hM8 (by decide) hb2.out rfl rfl rfl rfl ?_; intro w3 ho3 hg3; have S3 := Lib.hid (ST.out.grown hg3); have HO3 := Lib.hid ho3; have HG3 := Lib.hid hg3; have e3 : w3.cell? ⟨w.heap.size + 1, 2, none⟩ = some _ := S3.out.cell 2 rfl; have f3 := S3.out.frozen 2; clear ho3 hg3)
      have st := S3.out.set 2 (.slice (some ⟨W2.heap.size, 0, none⟩) M M)
      have hN := ownsRow_setCell_below (owned_grown HNo.out HG3.out) (a := ⟨w.heap.size + 1, 2, none⟩) (by simp) (.slice (some ⟨W2.heap.size, 0, none⟩) M M)
      have hL := ownsRow_setCell_below (owned_grown HLa.out HG3.out) (a := ⟨w.heap.size + 1, 2, none⟩) (by simp) (.slice (some ⟨W2.heap.size, 0, none⟩) M M)
      have hW := ownsRow_setCell_below HO3.out (a := ⟨w.heap.size + 1, 2, none⟩) (by simp) (.slice (some ⟨W2.heap.size, 0, none⟩) M M)
      generalize w3.setCell ⟨w.heap.size + 1, 2, none⟩ (.slice (some ⟨W2.heap.size, 0, none⟩) M M) = W3 at *
      clear ST HNo HLa e3 f3 e0' S3 HO3 HG3 hb2
      generalize W2.heap.size = g3 at *
      have ST := Lib.hid st
      have HNo := Lib.hid hN
      have HLa := Lib.hid hL
      have HWa := Lib.hid hW
      have e0' : W3.cell? ⟨w.heap.size + 1, 0, none⟩ = some (.slice a1 M c1) := st.cell 0 rfl
      have hb3 := Lib.hid st.size
      clear st hN hL hW
      go_upto_region 11 with (at_make; refine wpList_make_len elBool (w.heap.size + 2) M rfl rfl rfl hM8 (by decide) hb3.out rfl rfl rfl rfl ?_; intro w4 ho4 hg4; have S4 := Lib.hid (ST.out.grown hg4); have HO4 := Lib.hid ho4; have HG4 := Lib.hid hg4; have e4 : w4.cell? ⟨w.heap.size + 1, 3, none⟩ = some _ := S4.out.cell 3 rfl; have f4 := S4.out.frozen 3; clear ho4 hg4)
      have st := S4.out.set 3 (.slice (some ⟨W3.heap.size, 0, none⟩) M M)
      have lHNo := ownsRow_setCell_below (owned_grown HNo.out HG4.out) (a := ⟨w.heap.size + 1, 3, none⟩) (by simp) (.slice (some ⟨W3.heap.size, 0, none⟩) M M)
      have lHLa := ownsRow_setCell_below (owned_grown HLa.out HG4.out) (a := ⟨w.heap.size + 1, 3, none⟩) (by simp) (.slice (some ⟨W3.heap.size, 0, none⟩) M M)
      have lHWa := ownsRow_setCell_below (owned_grown HWa.out HG4.out) (a := ⟨w.heap.size + 1, 3, none⟩) (by simp) (.slice (some ⟨W3.heap.size, 0, none⟩) M M)
      have lnew := ownsRow_setCell_below HO4.out (a := ⟨w.heap.size + 1, 3, none⟩) (by simp) (.slice (some ⟨W3.heap.size, 0, none⟩) M M)
      generalize w4.setCell ⟨w.heap.size + 1, 3, none⟩ (.slice (some ⟨W3.heap.size, 0, none⟩) M M) = W4 at *
      clear ST HNo HLa HWa e4 f4 e0' S4 HO4 HG4 hb3
      generalize W3.heap.size = g4 at *
      have ST := Lib.hid st
      have HNo := Lib.hid lHNo
      have HLa := Lib.hid lHLa
      have HWa := Lib.hid lHWa
      have HDi := Lib.hid lnew
      have e0' : W4.cell? ⟨w.heap.size + 1, 0, none⟩ = some (.slice a1 M c1) := st.cell 0 rfl
      have hb4 := Lib.hid st.size
      clear st lHNo lHLa lHWa lnew
      go_upto_region 12 with (at_make; refine wpList_make_len elBool (w.heap.size + 2) M rfl rfl rfl hM8 (by decide) hb4.out rfl rfl rfl rfl ?_; intro w5 ho5 hg5; have S5 := Lib.hid (ST.out.grown hg5); have HO5 := Lib.hid ho5; have HG5 := Lib.hid hg5; have e5 : w5.cell? ⟨w.heap.size + 1, 4, none⟩ = some _ := S5.out.cell 4 rfl; have f5 := S5.out.frozen 4; clear ho5 hg5)
      have st := S5.out.set 4 (.slice (some ⟨W4.heap.size, 0, none⟩) M M)
      have lHNo := ownsRow_setCell_below (owned_grown HNo.out HG5.out) (a := ⟨w.heap.size + 1, 4, none⟩) (by simp) (.slice (some ⟨W4.heap.size, 0, none⟩) M M)
      have lHLa := ownsRow_setCell_below (owned_grown HLa.out HG5.out) (a := ⟨w.heap.size + 1, 4, none⟩) (by simp) (.slice (some ⟨W4.heap.size, 0, none⟩) M M)
      have lHWa := ownsRow_setCell_below (owned_grown HWa.out HG5.out) (a := ⟨w.heap.size + 1, 4, none⟩) (by simp) (.slice (some ⟨W4.heap.size, 0, none⟩) M M)
      have lHDi := ownsRow_setCell_below (owned_grown HDi.out HG5.out) (a := ⟨w.heap.size + 1, 4, none⟩) (by simp) (.slice (some ⟨W4.heap.size, 0, none⟩) M M)
      have lnew := ownsRow_setCell_below HO5.out (a := ⟨w.heap.size + 1, 4, none⟩) (by simp) (.slice (some ⟨W4.heap.size, 0, none⟩) M M)
      generalize w5.setCell ⟨w.heap.size + 1, 4, none⟩ (.slice (some ⟨W4.heap.size, 0, none⟩) M M) = W5 at *
      clear ST HNo HLa HWa HDi e5 f5 e0' S5 HO5 HG5 hb4
      generalize W4.heap.size = g5 at *
      have ST := Lib.hid st
      have HNo := Lib.hid lHNo
      have HLa := Lib.hid lHLa
      have HWa := Lib.hid lHWa
      have HDi := Lib.hid lHDi
      have HPe := Lib.hid lnew
      have e0' : W5.cell? ⟨w.heap.size + 1, 0, none⟩ = some (.slice a1 M c1) := st.cell 0 rfl
      have hb5 := Lib.hid st.size
      clear st lHNo lHLa lHWa lHDi lnew
      have e6 : W5.cell? ⟨w.heap.size + 1, 6, none⟩ = some _ := ST.out.cell 6 rfl
      have f6 := ST.out.frozen 6
      go_upto_region 13 with fail
      have st := ST.out.set 6 (.int .i64 (-1))
      have lHNo := ownsRow_setCell_below HNo.out (a := ⟨w.heap.size + 1, 6, none⟩) (by simp) (.int .i64 (-1))
      have lHLa := ownsRow_setCell_below HLa.out (a := ⟨w.heap.size + 1, 6, none⟩) (by simp) (.int .i64 (-1))
      have lHWa := ownsRow_setCell_below HWa.out (a := ⟨w.heap.size + 1, 6, none⟩) (by simp) (.int .i64 (-1))
      have lHDi := ownsRow_setCell_below HDi.out (a := ⟨w.heap.size + 1, 6, none⟩) (by simp) (.int .i64 (-1))
      have lHPe := ownsRow_setCell_below HPe.out (a := ⟨w.heap.size + 1, 6, none⟩) (by simp) (.int .i64 (-1))
      generalize W5.setCell ⟨w.heap.size + 1, 6, none⟩ (.int .i64 (-1)) = W6 at *
      clear ST HNo HLa HWa HDi HPe e6 f6 e0' hb5
      have HNo := Lib.hid lHNo
      have HLa := Lib.hid lHLa
      have HWa := Lib.hid lHWa
      have HDi := Lib.hid lHDi
      have HPe := Lib.hid lHPe
      have hcs : Hid (∀ i v, [Value.slice a1 M c1, .slice a2 M c2, .slice (some ⟨g3, 0, none⟩) M M, .slice (some ⟨g4, 0, none⟩) M M, .slice (some ⟨g5, 0, none⟩) M M, .int .i64 0, .int .i64 (-1), .bool false][i]? = some v → W6.cell? ⟨w.heap.size + 1, 0 + i, none⟩ = some v) := Lib.hid (fun i v hi => by
        rw [Nat.zero_add]; exact st.cell i (by simpa using hi))
      have HA0 := Lib.hid st.at0
      have hone8 : Hid ((#[.slice a1 M c1, .slice a2 M c2, .slice (some ⟨g3, 0, none⟩) M M, .slice (some ⟨g4, 0, none⟩) M M, .slice (some ⟨g5, 0, none⟩) M M, .int .i64 0, .int .i64 (-1), .bool false] : Array Value).all (·.oneCell') = true) := Lib.hid (by simp [Value.oneCell'])
      have HBl := Lib.hid st.below
      have HSz := Lib.hid st.size
      clear st lHNo lHLa lHWa lHDi lHPe
      go_wp2_with (first
        | (refine wpList_load_part aggRd [Value.slice a1 M c1, .slice a2 M c2, .slice (some ⟨g3, 0, none⟩) M M, .slice (some ⟨g4, 0, none⟩) M M, .slice (some ⟨g5, 0, none⟩) M M, .int .i64 0, .int .i64 (-1), .bool false] hcs.out rfl rfl rfl rfl ?_)
        | (refine wpList_store_row aggRd (cs := #[.slice a1 M c1, .slice a2 M c2, .slice (some ⟨g3, 0, none⟩) M M, .slice (some ⟨g4, 0, none⟩) M M, .slice (some ⟨g5, 0, none⟩) M M, .int .i64 0, .int .i64 (-1), .bool false]) HA0.out rfl rfl hone8.out rfl rfl rfl rfl ?_; intro w9 h9 g9 s9; have H9 := Lib.hid h9; have G9 := Lib.hid g9; have S9 := Lib.hid s9; clear h9 g9 s9))
      have hk : ∀ {e size : Nat} {v : Value} {xs : List Value}, W6.ownsRow (w.heap.size + 2) e size v M xs → ∃ a c, v = .slice a M c ∧ Cells w9 a xs := fun {e size v xs} h => by
        obtain ⟨a, c, rfl, hcl⟩ := cells_of_owned h
        refine ⟨a, c, rfl, ?_⟩
        rcases h.2 with ⟨h0, h1⟩ | ⟨g, cap, cur, hv, hb, hg, _⟩
        · have := h.1
          rw [h1] at this
          simp at this
          exact .inl this
        · simp at hv
          obtain ⟨rfl, rfl⟩ := hv
          rcases hcl with h | ⟨b', off', he, h⟩
          · exact .inl h
          · simp at he
            obtain ⟨rfl, rfl⟩ := he
            refine .inr ⟨g, 0, rfl, fun i v hi => ?_⟩
            rw [World.cell?_of_block (w := W6) (G9.out.block g (Array.getElem?_eq_some_iff.1 hg).1 (by simp; omega))]
            exact h i v hi
      obtain ⟨_, _, q1, k1⟩ := hk HNo.out
      obtain ⟨_, _, q2, k2⟩ := hk HLa.out
      obtain ⟨_, _, q3, k3⟩ := hk HWa.out
      obtain ⟨_, _, q4, k4⟩ := hk HDi.out
      obtain ⟨_, _, q5, k5⟩ := hk HPe.out
      cases q1; cases q2; cases q3; cases q4; cases q5
      refine bodyPost_ret (v := .agg #[.slice a1 M c1, .slice a2 M c2, .slice (some ⟨g3, 0, none⟩) M M, .slice (some ⟨g4, 0, none⟩) M M, .slice (some ⟨g5, 0, none⟩) M M, .int .i64 0, .int .i64 (-1), .bool false]) (results_cell_row rfl _ _ _ _ _ _ _ rfl H9.out Try.underlying31 rfl (by kernel_rfl)) rfl ⟨_, rfl, ?_, ?_, ?_⟩
      rw [HRe.out.1, HRe.out.2]
      refine ⟨⟨_, _, _, _, _, _, _, _, _, _, rfl, k1, k2, ?_, ?_, ?_⟩, HL.out, HL.out, ?_, ?_, ?_, HU2.out, HU2.out, ?_⟩
      · rw [show (freshR L M).wait = List.replicate (8 * M) 0 from rfl, List.map_replicate, Nat.mul_comm]; exact k3
      · rw [show (freshR L M).dirty = List.replicate M false from rfl, List.map_replicate]; exact k4
      · rw [show (freshR L M).pending = List.replicate M false from rfl, List.map_replicate]; exact k5
      · simp [freshR]
      · simp [freshR]
      · simp [freshR]
      · intro z hz; simp [freshR] at hz; omega
      · intro cs hcs i x n' c' hi
        have l1 := owned_addr HNo.out x
        have l2 := owned_addr HLa.out x
        have l3 := owned_addr HWa.out x
        have l4 := owned_addr HDi.out x
        have l5 := owned_addr HPe.out x
        simp only [Value.agg.injEq] at hcs
        subst hcs
        rcases i with _ | _ | _ | _ | _ | _ | _ | _ | i
        · simp at hi; have := l1 hi.1; omega
        · simp at hi; have := l2 hi.1; omega
        · simp at hi; have := l3 (by rw [hi.1]); omega
        · simp at hi; have := l4 (by rw [hi.1]); omega
        · simp at hi; have := l5 (by rw [hi.1]); omega
        all_goals simp at hi
      · refine HBl.out.trans (⟨G9.out.os, G9.out.tape, G9.out.output, G9.out.size, fun k' hk' => G9.out.block k' (by have := HBl.out.size; omega) (by simp; omega)⟩)

theorem rload_any (a : Option Addr) (n cap : Nat) (ws : List Nat) (hn : ws.length = n) (w : World) (hc : Cells w a (ws.map vu64)) (hl : n ≤ 100000) (hu : ∀ z ∈ ws, z < 18446744073709551616) :
    Calls Try.prog 10 #[.slice a n cap] w fun e w' => ∃ v, e = .returned v ∧ RAt w' v ((n + 7) / 8) (freshR (padTo ws (8 * ((n + 7) / 8))) ((n + 7) / 8)) ∧ Below w.heap.size w w' :=
  (rload_at a n cap ws hn w hc hl hu).mono fun _ _ ⟨v, h1, h2, _, h3⟩ => ⟨v, h1, h2, h3⟩

end Go.Proofs.Ytjgdplengfnkaaa

/- The blocks that a call has made, as a list: what lies in each of them; all else is as it was. -/
namespace Go.Proofs.Ytjgdplengfnkaaa
open Go.RowKit
set_option linter.unusedVariables false

/-- A block: its number, its elements' type, its first cells; are these all? -/
structure Ent where
  g : Nat
  e : Nat
  vs : List Value
  ex : Bool

def RowX (W : World) (x : Ent) : Prop := ∃ xs : Array Value, W.heap[x.g]? = some (.cells xs x.e (0, 0)) ∧ ∃ more, xs.toList = x.vs ++ more ∧ (x.ex = true → more = [])

theorem RowX.row {W : World} {x : Ent} (h : RowX W x) : RowAt W x.g x.e x.vs := by
  obtain ⟨xs, h1, more, h2, _⟩ := h
  exact ⟨xs, h1, more, h2⟩
theorem RowX.of {W : World} {g e : Nat} {vs : List Value} (h : RowAt W g e vs) : RowX W ⟨g, e, vs, false⟩ := by
  obtain ⟨xs, h1, more, h2⟩ := h
  exact ⟨xs, h1, more, h2, fun h => by cases h⟩
theorem RowX.lt {W : World} {x : Ent} (h : RowX W x) : x.g < W.heap.size := h.row.lt
theorem RowX.keep {W W' : World} {x : Ent} (h : RowX W x) (hk : W'.heap[x.g]? = W.heap[x.g]?) : RowX W' x := by
  obtain ⟨xs, h1, r⟩ := h
  exact ⟨xs, hk.trans h1, r⟩
theorem RowX.exact {W : World} {g e : Nat} {vs : List Value} (h : RowX W ⟨g, e, vs, true⟩) : W.heap[g]? = some (.cells vs.toArray e (0, 0)) := by
  obtain ⟨xs, h1, more, h2, h3⟩ := h
  have := h3 rfl
  subst this
  simp at h2
  subst h2
  simpa using h1

structure Mem (w W : World) (L : List Ent) : Prop where
  below : Below w.heap.size w W
  rows : ∀ x ∈ L, RowX W x
  base : ∀ x ∈ L, w.heap.size ≤ x.g
  nd : (L.map Ent.g).Nodup

theorem Mem.start (w : World) : Mem w w [] := ⟨Below.refl _ _, by simp, by simp, by simp⟩
theorem Mem.lt {w W : World} {L : List Ent} (h : Mem w W L) : ∀ x ∈ L, x.g < W.heap.size := fun x hx => (h.rows x hx).lt
theorem Mem.later {w W W' : World} {L : List Ent} (h : Mem w W L) (hb : Below W.heap.size W W') : Mem w W' L :=
  ⟨h.below.trans (hb.mono h.below.size), fun x hx => (h.rows x hx).keep (hb.block _ (h.lt x hx)), h.base, h.nd⟩
theorem Mem.add {w W W' : World} {L : List Ent} (h : Mem w W L) (hb : Below W.heap.size W W') {x : Ent} (hx : RowX W' x) (hg : W.heap.size ≤ x.g) : Mem w W' (L ++ [x]) := by
  have h' := h.later hb
  refine ⟨h'.below, fun y hy => ?_, fun y hy => ?_, ?_⟩
  · rcases List.mem_append.1 hy with hy | hy
    · exact h'.rows y hy
    · obtain rfl : y = x := by simpa using hy
      exact hx
  · rcases List.mem_append.1 hy with hy | hy
    · exact h.base y hy
    · obtain rfl : y = x := by simpa using hy
      exact Nat.le_trans h.below.size hg
  · rw [List.map_append, List.nodup_append]
    refine ⟨h.nd, by simp, ?_⟩
    intro a ha b hb' e
    simp at hb'
    subst hb'
    subst e
    obtain ⟨y, hy, rfl'⟩ := List.mem_map.1 ha
    have := h.lt y hy
    omega
theorem Mem.alloc {w W : World} {L : List Ent} (h : Mem w W L) (cs : Array Value) (t : Nat) : Mem w (W.alloc (.cells cs t)) (L ++ [⟨W.heap.size, t, cs.toList, true⟩]) :=
  h.add (below_alloc W _) ⟨cs, heap_alloc_new W _, [], by simp, fun _ => rfl⟩ (Nat.le_refl _)
theorem Mem.one (w : World) (cs : Array Value) (t : Nat) : Mem w (w.alloc (.cells cs t)) [⟨w.heap.size, t, cs.toList, true⟩] := (Mem.start w).alloc cs t
theorem Mem.two (w : World) (cs : Array Value) (t : Nat) (cs' : Array Value) (t' : Nat) : Mem w ((w.alloc (.cells cs t)).alloc (.cells cs' t')) [⟨w.heap.size, t, cs.toList, true⟩, ⟨w.heap.size + 1, t', cs'.toList, true⟩] := by
  have h := (Mem.one w cs t).alloc cs' t'
  simpa using h
/-- A new row. -/
theorem Mem.row {w W W' : World} {L : List Ent} (h : Mem w W L) (hb : Below W.heap.size W W') {g e : Nat} {vs : List Value} (hx : RowAt W' g e vs) (hg : W.heap.size ≤ g) : Mem w W' (L ++ [⟨g, e, vs, false⟩]) :=
  h.add hb (RowX.of hx) hg

theorem Mem.at {w W : World} {L : List Ent} (h : Mem w W L) (k : Nat) {g e : Nat} {vs : List Value} {ex : Bool} (hk : L[k]? = some ⟨g, e, vs, ex⟩) : RowAt W g e vs := (h.rows _ (List.mem_of_getElem? hk)).row
theorem Mem.exact {w W : World} {L : List Ent} (h : Mem w W L) (k : Nat) {g e : Nat} {vs : List Value} (hk : L[k]? = some ⟨g, e, vs, true⟩) : W.heap[g]? = some (.cells vs.toArray e (0, 0)) := (h.rows _ (List.mem_of_getElem? hk)).exact
theorem Mem.cell {w W : World} {L : List Ent} (h : Mem w W L) (k i : Nat) {g e : Nat} {vs : List Value} {ex : Bool} {v : Value} (hk : L[k]? = some ⟨g, e, vs, ex⟩) (hi : vs[i]? = some v) : W.cell? ⟨g, i, none⟩ = some v := (h.at k hk).cell hi
theorem Mem.frozen {w W : World} {L : List Ent} (h : Mem w W L) (k i : Nat) {g e : Nat} {vs : List Value} {ex : Bool} (hk : L[k]? = some ⟨g, e, vs, ex⟩) : W.frozen? ⟨g, i, none⟩ = false := (h.at k hk).frozen i
theorem Mem.glt {w W : World} {L : List Ent} (h : Mem w W L) (k : Nat) {g e : Nat} {vs : List Value} {ex : Bool} (hk : L[k]? = some ⟨g, e, vs, ex⟩) : g < W.heap.size := (h.at k hk).lt
theorem Mem.gbase {w W : World} {L : List Ent} (h : Mem w W L) (k : Nat) {g e : Nat} {vs : List Value} {ex : Bool} (hk : L[k]? = some ⟨g, e, vs, ex⟩) : w.heap.size ≤ g := h.base _ (List.mem_of_getElem? hk)

theorem below_touched {B : Nat} {L : List Nat} {w w1 w2 : World} (h : Below B w w1) (ht : Touch L w1 w2) (hL : ∀ k ∈ L, B ≤ k) (hB : B ≤ w.heap.size) : Below B w w2 :=
  h.trans (ht.below (Nat.le_trans hB h.size) hL)
/-- One block changes. -/
theorem Mem.upd {w W W' : World} {L : List Ent} (h : Mem w W L) (k : Nat) {x y : Ent} (hk : L[k]? = some x) (hg : y.g = x.g) (ht : Touch [x.g] W W') (hy : RowX W' y) : Mem w W' (L.set k y) := by
  have hx := List.mem_of_getElem? hk
  have hkl : k < L.length := (List.getElem?_eq_some_iff.1 hk).1
  have hmap : (L.set k y).map Ent.g = L.map Ent.g := by
    rw [List.map_set]
    apply List.ext_getElem?
    intro i
    rw [List.getElem?_set]
    split
    · rename_i e
      subst e
      simp [hkl, hg]
      have := (List.getElem?_eq_some_iff.1 hk).2
      rw [this]
    · rfl
  refine ⟨below_touched h.below ht (by simpa using h.base x hx) (Nat.le_refl _), fun z hz => ?_, fun z hz => ?_, by rw [hmap]; exact h.nd⟩
  · obtain ⟨j, hj, rfl⟩ := List.mem_iff_getElem.1 hz
    rw [List.getElem_set] at hz ⊢
    split
    · exact hy
    · rename_i hne
      have hj' : j < L.length := by simpa using hj
      refine (h.rows _ (List.getElem_mem hj')).keep (ht.block _ (h.lt _ (List.getElem_mem hj')) ?_)
      simp
      intro e
      have e1 : (L.map Ent.g)[j]'(by simpa using hj') = (L.map Ent.g)[k]'(by simpa using hkl) := by
        simp [e, (List.getElem?_eq_some_iff.1 hk).2]
      exact hne (((List.getElem_inj h.nd).1 e1).symm)
  · obtain ⟨j, hj, rfl⟩ := List.mem_iff_getElem.1 hz
    rw [List.getElem_set]
    split
    · rw [hg]; exact h.base x hx
    · exact h.base _ (List.getElem_mem _)

theorem Mem.set {w W : World} {L : List Ent} (h : Mem w W L) (k i : Nat) (v : Value) {g e : Nat} {vs : List Value} {ex : Bool} (hk : L[k]? = some ⟨g, e, vs, ex⟩) (hi : i < vs.length) : Mem w (W.setCell ⟨g, i, none⟩ v) (L.set k ⟨g, e, vs.set i v, ex⟩) := by
  refine h.upd k hk rfl (Touch.setCell _ (by simp) _) ?_
  obtain ⟨xs, h1, more, h2, h3⟩ := h.rows _ (List.mem_of_getElem? hk)
  dsimp only at h1 h2 h3
  refine ⟨_, heap_setCell_same W g i xs e v h1, more, ?_, h3⟩
  dsimp only
  rw [Array.toList_setIfInBounds, h2, List.set_append_left _ _ hi]

section
variable {P : Program} {w W : World} {ops : Array Oper} {rest : List Oper} {o : Oper} {a : Act} {Q : Exit → Act → World → Prop} {L : List Ent}

/-- A struct or an array is loaded from such a block. -/
theorem wpList_load_mem {ty : TypeId} {zs : Array Value} (A : Agg P ty zs) (h : Mem w W L) (k : Nat) {p : Operand} {g e : Nat} {vs : List Value} {ex : Bool}
    (hgd : o.guard = none) (ho : o.op = .load ty p) (hp : a.eval p = .pointer (some ⟨g, 0, none⟩)) (hk : L[k]? = some ⟨g, e, vs, ex⟩) (hs : vs.length = zs.size)
    (hK : wpList P ops Q rest (a.put o.dst (.agg vs.toArray)) W) : wpList P ops Q (o :: rest) a W :=
  wpList_load_part A vs (fun i v hi => by rw [Nat.zero_add]; exact h.cell k i hk hi) hs hgd ho hp hK

/-- A struct or an array is stored into such a block, whole. -/
theorem wpList_store_mem {ty : TypeId} {zs : Array Value} (A : Agg P ty zs) (h : Mem w W L) (k : Nat) {p x : Operand} {g e : Nat} {vs : List Value} {cs : Array Value}
    (hgd : o.guard = none) (ho : o.op = .store ty p x) (hp : a.eval p = .pointer (some ⟨g, 0, none⟩)) (hx : a.eval x = .agg cs) (hk : L[k]? = some ⟨g, e, vs, true⟩) (hs : cs.size = zs.size) (hv : vs.length = cs.size) (h1 : cs.toList.all (·.oneCell') = true)
    (hK : ∀ W', Mem w W' (L.set k ⟨g, e, cs.toList, true⟩) → Touch [g] W W' → wpList P ops Q rest (a.put o.dst undef) W') : wpList P ops Q (o :: rest) a W := by
  refine wpList_store_row A (h.exact k hk) hs (by simpa using hv) (by rw [← Array.all_toList]; exact h1) hgd ho hp hx ?_
  intro W' hg hgr hsz
  have ht : Touch [g] W W' := ⟨hgr.os, hgr.tape, hgr.output, hgr.size, fun j hj hn => hgr.block j hj (fun e => hn (by simp at e; simp [e]))⟩
  exact hK W' (h.upd k hk rfl ht ⟨cs, hg, [], by simp, fun _ => rfl⟩) ht

/-- .. into a part of it. -/
theorem wpList_store_mem_part {ty : TypeId} {zs : Array Value} (A : Agg P ty zs) (h : Mem w W L) (k : Nat) {p x : Operand} {g e off : Nat} {vs : List Value} {ex : Bool} {cs : Array Value}
    (hgd : o.guard = none) (ho : o.op = .store ty p x) (hp : a.eval p = .pointer (some ⟨g, off, none⟩)) (hx : a.eval x = .agg cs) (hk : L[k]? = some ⟨g, e, vs, ex⟩) (hs : cs.size = zs.size) (hfit : off + cs.size ≤ vs.length) (h1 : cs.toList.all (·.oneCell') = true)
    (hK : ∀ W', Mem w W' (L.set k ⟨g, e, splice vs off cs.toList, false⟩) → Touch [g] W W' → wpList P ops Q rest (a.put o.dst undef) W') : wpList P ops Q (o :: rest) a W :=
  wpList_store_part A (h.at k hk) hs hfit (fun u hu => List.all_eq_true.1 h1 u hu) hgd ho hp hx (fun W' hr ht => hK W' (h.upd k hk rfl ht (RowX.of hr)) ht)

theorem run_append_owned_none' {base t ty e : Nat} {i : TypeInfo} {size c : Nat} (ht : P.underlying t = some (.slice e)) (hi : P.info? e = some i)
    {v : Value} {n : Nat} {xs : List Value} (hown : W.ownsRow base e size v n xs) : (Builtin.append_ #[t, t] ty #[v, .slice none 0 c]).run P W = .ok v W := by
  rcases hown.2 with ⟨rfl, rfl⟩ | ⟨g, cap, cur, rfl, _, _, hnc, _⟩
  · simp [Builtin.append_, run_underlying ht, sizeOf, typeInfo, hi, Builtin.lenOf, Builtin.firstCells]
  · simp [Builtin.append_, run_underlying ht, sizeOf, typeInfo, hi, Builtin.lenOf, Builtin.firstCells, hnc, storeCells]

/-- 'append(xs, ys...)', ys any slice whose cells are known. -/
theorem wpList_append_cells {s x : Operand} {t e : TypeId} {z : Value} {size bytes base n m c : Nat} {v : Value} {xs ys : List Value} {ad : Option Addr} (E : Elem P t e z size bytes)
    (hown : W.ownsRow base e size v n xs) (hc : Cells W ad ys) (hl : ys.length = m * size) (h1 : ∀ u ∈ ys, u.oneCell' = true)
    (hn : n + m < 1000000000000) (hby : bytes ≤ 64) (hbase : base ≤ W.heap.size)
    (hgd : o.guard = none) (ho : o.op = .call { callee := .builtin .append, args := #[s, x], argTypes := #[t, t] })
    (hs : a.eval s = v) (hx : a.eval x = .slice ad m c)
    (hK : ∀ v' w', w'.ownsRow base e size v' (n + m) (xs ++ ys) → W.grownBy w' v.ownBlock → (v' = .slice none 0 0 → v = .slice none 0 0 ∧ m = 0) → wpList P ops Q rest (a.put o.dst v') w') :
    wpList P ops Q (o :: rest) a W := by
  cases ad with
  | none =>
    have hy : ys = [] := by rcases hc with h | ⟨b, off, h, _⟩; exact h; cases h
    subst hy
    have hm : m = 0 := by
      have := E.pos
      rcases Nat.mul_eq_zero.1 hl.symm with h | h
      · exact h
      · omega
    subst hm
    obtain ⟨i, i1, _⟩ := E.info
    refine wpList_plain hgd fun K hK' => ?_
    have hrun := run_append_owned_none' (P := P) (W := W) (ty := o.type) (c := c) E.under i1 hown
    unfold Oper.wp
    simp [execOp, ho, resolve, invoke, builtin, hs, hx, hrun, Result.andThen]
    exact hK' _ _ (hK v W (by simpa using hown) ⟨rfl, rfl, rfl, Nat.le_refl _, fun _ _ _ => rfl⟩ (fun h => ⟨h, rfl⟩))
  | some d =>
    refine wpList_append_many E hown hl ?_ h1 hn hby hbase hgd ho hs hx (fun v' w' a b c => hK v' w' a b c.1)
    intro j u hj
    rcases hc with h | ⟨b, off, h, hc⟩
    · rw [h] at hj; simp at hj
    · cases h
      rw [add_none]
      exact hc j u hj

/-- An owned row that is not nil, as a new block. -/
theorem owned_new {w w' : World} {e size n : Nat} {v : Value} {xs : List Value} (h : w'.ownsRow w.heap.size e size v n xs) (hv : v ≠ .slice none 0 0) :
    ∃ g c, v = .slice (some ⟨g, 0, none⟩) n c ∧ w.heap.size ≤ g ∧ n ≤ c ∧ c ≤ maxLen ∧ RowAt w' g e xs := by
  rcases h.2 with ⟨h0, _⟩ | ⟨g, cap, cur, rfl, hb, hg, h1, h2, h3, h4⟩
  · exact absurd h0 hv
  · exact ⟨g, cap, rfl, hb, h1, h2, cur, hg, cur.toList.drop (n * size), by rw [← h4, List.take_append_drop]⟩
end

/-- What a function leaves that copies a slice. -/
def Copied (e n : Nat) (vs : List Value) (w : World) : Ending → World → Prop := fun r w' => ∃ g c, r = .returned (.slice (some ⟨g, 0, none⟩) n c) ∧ w.heap.size ≤ g ∧ n ≤ c ∧ c ≤ maxLen ∧ RowAt w' g e vs ∧ Below w.heap.size w w'

end Go.Proofs.Ytjgdplengfnkaaa

/- Regions that draw their order: operations that only read may float; all others come one behind the other. One walk, the reading ones as early as can be, serves every order. -/
namespace Go.Proofs.Ytjgdplengfnkaaa
open Go.RowKit
set_option linter.unusedVariables false

section
variable {P : Program} {ops : Array Oper} {md : Region.Mode} {C : World → Prop} {Q : Exit → Act → World → Prop}

/-- Such an operation may be taken first, if whatever may still come ahead of it is loose. -/
theorem wpAnyF_early {loose : Nat → Bool} {i f : Nat} {oi : Oper} {v : Value} (hi : ops[i]? = some oi) (hsel : ∀ (j : Nat) (o : Oper) cs b, ops[j]? = some o → o.op ≠ .select cs b)
    (hQ : ∀ c a d v w, Q (.panic c) (a.put d v) w → Q (.panic c) a w) :
    ∀ (fuel : Nat) (listed : Array Bool) (a : Act) (w : World),
      (∀ j oj, ops[j]? = some oj → j ≠ i → listed.getD j true = false → waitsFor md ops f j i = true ∨ loose j = true) →
      (∀ j oj, ops[j]? = some oj → j ≠ i → listed.getD j true = false → (∀ e ∈ oj.after, Region.binds md e = true → e.on ≠ i) → oi.apart ops oj = true) →
      i ∈ Region.ready md ops listed → Shut md ops listed → Stays P ops C oi v a → C w →
      wpAnyF P md ops Q C loose fuel (listed.setIfInBounds i true) (a.put oi.dst v) w → wpAnyF P md ops Q C loose (fuel + 1) listed a w := by
  intro fuel
  induction fuel with
  | zero =>
    intro listed a w _ _ hr _ hy hC H
    refine ⟨fun h => (by rw [h] at hr; cases hr), fun j hj => ?_⟩
    by_cases hji : j = i
    · subst hji; exact hy.wpOp hi hC ⟨fun _ => hC, H⟩
    · have := ready_mono hj hji
      rw [H.1] at this
      cases this
  | succ fuel ih =>
    intro listed a w hl hfree hr hsh hy hC H
    refine ⟨fun h => (by rw [h] at hr; cases hr), fun j hj => ?_⟩
    by_cases hji : j = i
    · subst hji; exact hy.wpOp hi hC ⟨fun _ => hC, H⟩
    · have h1 := H.2 j (ready_mono hj hji)
      obtain ⟨hjun, oj, hoj, hall⟩ := mem_ready.1 hj
      have hiun : listed.getD i false = false := by
        have h0 := (mem_ready.1 hr).1
        rcases Nat.lt_or_ge i listed.size with h' | h'
        · simp [h'] at h0 ⊢; exact h0
        · simp [Array.getElem?_eq_none h']
      have hnot : ∀ e ∈ oj.after, Region.binds md e = true → e.on ≠ i := fun e he hb heq => by
        have h1 := hall e he hb
        rw [heq, hiun] at h1
        cases h1
      have hlo : loose j = true := by
        rcases hl j oj hoj hji hjun with h | h
        · have := waitsFor_listed hsh f j i oj hoj hall h
          rw [hiun] at this
          cases this
        · exact h
      have h2 := wpOp_putF (C := C) hoj (hfree j oj hoj hji hjun hnot) (fun cs b => hsel i oi cs b hi) (fun cs b => hsel j oj cs b hoj) hQ hy h1
      have hun' : ∀ k, (listed.setIfInBounds j true).getD k true = false → listed.getD k true = false := fun k hun => by
        by_cases hjk : j = k
        · subst hjk; exact hjun
        · rw [getD_set_ne true hjk] at hun; exact hun
      refine wpOp_mono (fun a' w' h3 => ⟨h3.2.1, ih (listed.setIfInBounds j true) a' w' (fun k ok hk hki hun => hl k ok hk hki (hun' k hun)) (fun k ok hk hki hun hno => hfree k ok hk hki (hun' k hun) hno) (ready_mono hr (Ne.symm hji)) (hsh.set hj) h3.1 (h3.2.1 hlo) ?_⟩) h2
      rw [Array.setIfInBounds_comm _ _ hji]
      exact h3.2.2

/-- Is there an operation that only reads and that may come ahead of j as well as behind it? -/
def looseOf (md : Region.Mode) (ops : Array Oper) (j : Nat) : Bool :=
  (List.range ops.size).any fun i => i != j && (match ops[i]? with | some o => calm o.op | none => false) && !waitsFor md ops ops.size j i && !waitsFor md ops ops.size i j

def mixFrom (md : Region.Mode) (ops : Array Oper) : List (Nat × Bool) → Array Bool → Bool
  | [], listed => (Region.ready md ops listed).isEmpty
  | (k, lo) :: is, listed => (lo == looseOf md ops k) && (match ops[k]? with
      | none => false
      | some o => if calm o.op then (Region.ready md ops listed).contains k && Region.free md ops listed k && ((List.range ops.size).all fun j => j == k || listed.getD j true || waitsFor md ops ops.size j k || looseOf md ops j)
        else Region.ready md ops listed == [k]) && mixFrom md ops is (listed.setIfInBounds k true)
def mixB (md : Region.Mode) (ops : Array Oper) (is : List (Nat × Bool)) : Bool := Region.noSelect ops && is.length == ops.size && mixFrom md ops is (Array.replicate ops.size false)

/-- The walk, in an order in which reading operations come as early as they can. The Boolean: is it loose? -/
def wpMix (P : Program) (ops : Array Oper) (C : World → Prop) (Q : Exit → Act → World → Prop) : List (Oper × Bool) → Act → World → Prop
  | [], a, w => Q .normal a w
  | (o, lo) :: rest, a, w => if calm o.op then ∃ v, Stays P ops C o v a ∧ C w ∧ wpMix P ops C Q rest (a.put o.dst v) w
      else wpList P ops (Exit.then (fun a' w' => (lo = true → C w') ∧ wpMix P ops C Q rest a' w') Q) [o] a w

def mixList (l : List Oper) : List (Nat × Bool) → List (Oper × Bool)
  | [] => []
  | (k, lo) :: is => match l[k]? with
    | some o => (o, lo) :: mixList l is
    | none => mixList l is

theorem mix_ok (hs : Region.noSelect ops = true) (hQ : ∀ c a d v w, Q (.panic c) (a.put d v) w → Q (.panic c) a w) : ∀ (is : List (Nat × Bool)) (listed : Array Bool) (a : Act) (w : World), Shut md ops listed →
    mixFrom md ops is listed = true → wpMix P ops C Q (mixList ops.toList is) a w → wpAnyF P md ops Q C (looseOf md ops) is.length listed a w := by
  intro is
  induction is with
  | nil =>
    intro listed a w _ hB h
    exact ⟨by simpa [mixFrom] using hB, by simpa [wpMix, mixList] using h⟩
  | cons p is ih =>
    obtain ⟨k, lo⟩ := p
    intro listed a w hsh hB h
    simp only [mixFrom, Bool.and_eq_true, beq_iff_eq] at hB
    obtain ⟨⟨rfl, hB1⟩, hB2⟩ := hB
    cases hk : ops[k]? with
    | none => rw [hk] at hB1; cases hB1
    | some o =>
      rw [hk] at hB1
      have e : mixList ops.toList ((k, looseOf md ops k) :: is) = (o, looseOf md ops k) :: mixList ops.toList is := by simp [mixList, hk]
      rw [e] at h
      by_cases hc : calm o.op = true
      · simp only [hc, if_true, Bool.and_eq_true] at hB1
        simp only [wpMix, hc, if_true] at h
        obtain ⟨⟨hr, hf⟩, hlo⟩ := hB1
        obtain ⟨v, hy, hC, h⟩ := h
        have hrk : k ∈ Region.ready md ops listed := by simpa using hr
        refine wpAnyF_early (f := ops.size) hk (Region.noSelect_spec hs) hQ is.length listed a w ?_ (Region.free_spec hk hf) hrk hsh hy hC (ih _ _ _ (hsh.set hrk) hB2 h)
        intro j oj hj hjk hun
        simp only [List.all_eq_true, List.mem_range, Bool.or_eq_true, beq_iff_eq] at hlo
        rcases hlo j (Array.getElem?_eq_some_iff.1 hj).1 with ((h | h) | h) | h
        · exact absurd h hjk
        · rw [hun] at h; cases h
        · exact .inl h
        · exact .inr h
      · simp only [hc, Bool.false_eq_true, if_false, beq_iff_eq] at hB1
        simp only [wpMix, hc, Bool.false_eq_true, if_false] at h
        have hrk : k ∈ Region.ready md ops listed := by rw [hB1]; simp
        refine ⟨fun h' => (by rw [hB1] at h'; cases h'), fun i hi => ?_⟩
        rw [hB1] at hi
        obtain rfl : i = k := by simpa using hi
        unfold wpOp
        simp only [hk]
        unfold wpList at h
        have hmono : ∀ a' w', wpList P ops (Exit.then (fun a' w' => (looseOf md ops i = true → C w') ∧ wpMix P ops C Q (mixList ops.toList is) a' w') Q) [] a' w' →
            (looseOf md ops i = true → C w') ∧ wpAnyF P md ops Q C (looseOf md ops) is.length (listed.setIfInBounds i true) a' w' := by
          intro a' w' h'
          unfold wpList at h'
          exact ⟨h'.1, ih _ _ _ (hsh.set hrk) hB2 h'.2⟩
        by_cases hw : Region.wanted o (yielded ops a.tmps) = true
        · rw [if_pos hw] at h ⊢
          rcases h with h | h
          · refine .inl ?_
            have h := Oper.wp_mono hmono h
            unfold Oper.wp at *
            generalize (execOp a.eval o).run P w = r at *
            cases r with
            | ok n w' =>
              cases n <;> simp only [Oper.upon] at h ⊢ <;> try exact h
            | halt x w' => cases x <;> simp only [Oper.upon] at h ⊢ <;> exact h
          · exact .inr h
        · rw [if_neg hw] at h ⊢
          exact hmono _ _ h

/-- One walk serves every order. -/
theorem wp_region_mix {id : Nat} {a : Act} {w : World} {l : List Oper} (is : List (Nat × Bool)) (hm : P.follows .mixedOrders = true) (hB : mixB .any l.toArray is = true)
    (hQ : ∀ c a d v w, Q (.panic c) (a.put d v) w → Q (.panic c) a w) 
    (h : wpMix P l.toArray C Q (mixList l is) a w.drew) : (Code.region id l.toArray true).wp P Q a w := by
  simp only [mixB, Bool.and_eq_true, beq_iff_eq] at hB
  refine wp_region_any hm (wpAny_of_F (C := C) (loose := looseOf .any l.toArray) _ _ _ _ ?_)
  have := mix_ok (md := .any) (C := C) hB.1.1 hQ is (Array.replicate l.toArray.size false) a w.drew (shut_none _) hB.2 h
  rw [hB.1.2] at this
  exact this

theorem wpMix_nil {a : Act} {w : World} (h : Q .normal a w) : wpMix P ops C Q [] a w := h
theorem wpMix_calm {o : Oper} {lo : Bool} {rest : List (Oper × Bool)} {a : Act} {w : World} (hcal : calm o.op = true) (hC : C w) (h : wpQuiet P ops C (fun a' => wpMix P ops C Q rest a' w) [o] a) : wpMix P ops C Q ((o, lo) :: rest) a w := by
  unfold wpMix
  rw [if_pos hcal]
  unfold wpQuiet at h
  by_cases hw : Region.wanted o (yielded ops a.tmps) = true
  · rw [if_pos hw] at h
    obtain ⟨v, h1, h2⟩ := h
    refine ⟨v, .inl ⟨hw, fun x hx => ?_⟩, hC, h2⟩
    have h3 := h1 x hx
    unfold Oper.quietAt at h3
    cases hq : (execOp a.eval o).run P x with
    | ok nx w2 =>
      obtain ⟨u, rfl⟩ := calm_value hcal hq
      rw [hq] at h3
      simp only [Oper.quietUpon] at h3
      rw [h3.1, h3.2]
    | halt x' w2 => rw [hq] at h3; simp only [Oper.quietUpon] at h3
  · rw [if_neg hw] at h
    exact ⟨undef, .inr ⟨by simpa using hw, rfl⟩, hC, h⟩
theorem wpMix_hard {o : Oper} {lo : Bool} {rest : List (Oper × Bool)} {a : Act} {w : World} (hcal : calm o.op = false)
    (h : ∀ K : Act → World → Prop, (∀ a' w', (lo = true → C w') → wpMix P ops C Q rest a' w' → K a' w') → wpList P ops (Exit.then K Q) [o] a w) : wpMix P ops C Q ((o, lo) :: rest) a w := by
  unfold wpMix
  simp only [hcal, Bool.false_eq_true, if_false]
  exact h _ (fun _ _ h1 h2 => ⟨h1, h2⟩)

end

theorem later_step {w v v' : World} (h : ∃ x : Later w, v = x.val) (hb : Below v.heap.size v v') : ∃ x : Later w, v' = x.val := by
  obtain ⟨x, rfl⟩ := h
  exact ⟨⟨v', x.below.trans (hb.mono x.below.size)⟩, rfl⟩
theorem later_below {w v : World} (h : ∃ x : Later w, v = x.val) : Below w.heap.size w v := by
  obtain ⟨x, rfl⟩ := h
  exact x.below
theorem later_drew (w : World) : ∃ x : Later w, w.drew = x.val := ⟨⟨w.drew, (Below.refl _ _).drew⟩, rfl⟩
theorem later_drewN {w v : World} (h : ∃ x : Later w, v = x.val) (q : Nat) : ∃ x : Later w, v.drewN q = x.val := by
  obtain ⟨x, rfl⟩ := h
  exact ⟨⟨_, by have := x.below; exact ⟨this.os, this.tape, this.output, by simpa using this.size, by simpa using this.block⟩⟩, rfl⟩

/-- What the worlds of a region have in common: nothing but some blocks differs. -/
structure Near (L : List Nat) (w : World) where
  val : World
  size : w.heap.size ≤ val.heap.size
  block : ∀ k, k < w.heap.size → k ∉ L → val.heap[k]? = w.heap[k]?
instance (L : List Nat) (w : World) : Nonempty (Near L w) := ⟨⟨w, Nat.le_refl _, fun _ _ _ => rfl⟩⟩
theorem near_cell {L : List Nat} {w : World} {p : Addr} {v : Value} (h : w.cell? p = some v) (hL : p.block ∉ L) (x : Near L w) : x.val.cell? p = some v := by
  have := x.block p.block (World.block_lt_of_cell? _ _ h) hL
  unfold World.cell? at *
  rw [this]; exact h

end Go.Proofs.Ytjgdplengfnkaaa

/- Regions that draw their order, in segments: reading operations that may float are taken as early as they can; all others come one behind the other. One walk serves every order. -/
namespace Go.Proofs.Ytjgdplengfnkaaa
open Go.RowKit
set_option linter.unusedVariables false

/-- A segment: reading operations that float; or operations one by one (lo: is its last one loose?). -/
inductive Seg where
  | fl (ks : List Nat)
  | sq (ks : List Nat) (lo : Bool)
inductive SegO where
  | fl (os : List Oper)
  | sq (os : List Oper) (lo : Bool)

section
variable {P : Program} {ops : Array Oper} {md : Region.Mode} {C : World → Prop} {Q : Exit → Act → World → Prop}

def picks (l : List Oper) : List Nat → List Oper
  | [] => []
  | k :: ks => match l[k]? with
    | some o => o :: picks l ks
    | none => picks l ks
def segs (l : List Oper) : List Seg → List SegO
  | [] => []
  | .fl ks :: r => .fl (picks l ks) :: segs l r
  | .sq ks lo :: r => .sq (picks l ks) lo :: segs l r

def flFrom (md : Region.Mode) (ops : Array Oper) : List Nat → Array Bool → Bool × Array Bool
  | [], listed => (true, listed)
  | k :: ks, listed => match ops[k]? with
    | none => (false, listed)
    | some o => let r := flFrom md ops ks (listed.setIfInBounds k true)
      (calm o.op && (Region.ready md ops listed).contains k && Region.free md ops listed k && ((List.range ops.size).all fun j => j == k || listed.getD j true || waitsFor md ops ops.size j k || looseOf md ops j) && r.1, r.2)
def sqFrom (md : Region.Mode) (ops : Array Oper) (lo : Bool) : List Nat → Array Bool → Bool × Array Bool
  | [], listed => (true, listed)
  | k :: ks, listed => match ops[k]? with
    | none => (false, listed)
    | some _ => let r := sqFrom md ops lo ks (listed.setIfInBounds k true)
      (Region.ready md ops listed == [k] && (!looseOf md ops k || (lo && ks.isEmpty)) && r.1, r.2)
def segFrom (md : Region.Mode) (ops : Array Oper) : List Seg → Array Bool → Bool
  | [], listed => (Region.ready md ops listed).isEmpty
  | .fl ks :: r, listed => let x := flFrom md ops ks listed; x.1 && segFrom md ops r x.2
  | .sq ks lo :: r, listed => let x := sqFrom md ops lo ks listed; x.1 && segFrom md ops r x.2
def segLen : List Seg → Nat
  | [] => 0
  | .fl ks :: r => segLen r + ks.length
  | .sq ks _ :: r => segLen r + ks.length
def segB (md : Region.Mode) (ops : Array Oper) (is : List Seg) : Bool := Region.noSelect ops && segLen is == ops.size && segFrom md ops is (Array.replicate ops.size false)

/-- The walk. -/
def wpSeg (P : Program) (ops : Array Oper) (C : World → Prop) (Q : Exit → Act → World → Prop) : List SegO → Act → World → Prop
  | [], a, w => Q .normal a w
  | .fl os :: r, a, w => C w ∧ wpQuiet P ops C (fun a' => wpSeg P ops C Q r a' w) os a
  | .sq os lo :: r, a, w => wpList P ops (Exit.then (fun a' w' => (lo = true → C w') ∧ wpSeg P ops C Q r a' w') Q) os a w

theorem fl_ok (hs : Region.noSelect ops = true) (hQ : ∀ c a d v w, Q (.panic c) (a.put d v) w → Q (.panic c) a w) {m : Nat} {R : Act → Prop} {w : World} (hC : C w) : ∀ (ks : List Nat) (listed : Array Bool) (a : Act), Shut md ops listed → (flFrom md ops ks listed).1 = true →
    (∀ a', Shut md ops (flFrom md ops ks listed).2 → R a' → wpAnyF P md ops Q C (looseOf md ops) m (flFrom md ops ks listed).2 a' w) →
    wpQuiet P ops C R (picks ops.toList ks) a → wpAnyF P md ops Q C (looseOf md ops) (m + ks.length) listed a w := by
  intro ks
  induction ks with
  | nil =>
    intro listed a hsh _ hR h
    exact hR a hsh (by simpa [picks, wpQuiet] using h)
  | cons k ks ih =>
    intro listed a hsh hB hR h
    cases hk : ops[k]? with
    | none => simp [flFrom, hk] at hB
    | some o =>
      have e : picks ops.toList (k :: ks) = o :: picks ops.toList ks := by simp [picks, hk]
      rw [e] at h
      simp only [flFrom, hk, Bool.and_eq_true] at hB hR
      obtain ⟨⟨⟨⟨hc, hr⟩, hf⟩, hlo⟩, hB'⟩ := hB
      have hrk : k ∈ Region.ready md ops listed := by simpa using hr
      obtain ⟨v, hy, hK⟩ : ∃ v, Stays P ops C o v a ∧ wpQuiet P ops C R (picks ops.toList ks) (a.put o.dst v) := by
        unfold wpQuiet at h
        by_cases hw : Region.wanted o (yielded ops a.tmps) = true
        · rw [if_pos hw] at h
          obtain ⟨v, h1, h2⟩ := h
          refine ⟨v, .inl ⟨hw, fun x hx => ?_⟩, h2⟩
          have h3 := h1 x hx
          unfold Oper.quietAt at h3
          cases hq : (execOp a.eval o).run P x with
          | ok nx w2 =>
            obtain ⟨u, rfl⟩ := calm_value hc hq
            rw [hq] at h3
            simp only [Oper.quietUpon] at h3
            rw [h3.1, h3.2]
          | halt x' w2 => rw [hq] at h3; simp only [Oper.quietUpon] at h3
        · rw [if_neg hw] at h
          exact ⟨undef, .inr ⟨by simpa using hw, rfl⟩, h⟩
      refine wpAnyF_early (f := ops.size) hk (Region.noSelect_spec hs) hQ (m + ks.length) listed a w ?_ (Region.free_spec hk hf) hrk hsh hy hC (ih _ _ (hsh.set hrk) hB' hR hK)
      intro j oj hj hjk hun
      simp only [List.all_eq_true, List.mem_range, Bool.or_eq_true, beq_iff_eq] at hlo
      rcases hlo j (Array.getElem?_eq_some_iff.1 hj).1 with ((h | h) | h) | h
      · exact absurd h hjk
      · rw [hun] at h; cases h
      · exact .inl h
      · exact .inr h

theorem sq_ok {m : Nat} {lo : Bool} {R : Act → World → Prop} : ∀ (ks : List Nat) (listed : Array Bool) (a : Act) (w : World), Shut md ops listed → (sqFrom md ops lo ks listed).1 = true →
    (∀ a' w', Shut md ops (sqFrom md ops lo ks listed).2 → (lo = true → C w') → R a' w' → wpAnyF P md ops Q C (looseOf md ops) m (sqFrom md ops lo ks listed).2 a' w') →
    wpList P ops (Exit.then (fun a' w' => (lo = true → C w') ∧ R a' w') Q) (picks ops.toList ks) a w → wpAnyF P md ops Q C (looseOf md ops) (m + ks.length) listed a w := by
  intro ks
  induction ks with
  | nil =>
    intro listed a w hsh _ hR h
    have h : (lo = true → C w) ∧ R a w := by simpa [picks, wpList, Exit.then] using h
    exact hR a w hsh h.1 h.2
  | cons k ks ih =>
    intro listed a w hsh hB hR h
    cases hk : ops[k]? with
    | none => simp [sqFrom, hk] at hB
    | some o =>
      have e : picks ops.toList (k :: ks) = o :: picks ops.toList ks := by simp [picks, hk]
      rw [e] at h
      simp only [sqFrom, hk, Bool.and_eq_true, beq_iff_eq] at hB hR
      obtain ⟨⟨hr, hlo⟩, hB'⟩ := hB
      have hrk : k ∈ Region.ready md ops listed := by rw [hr]; simp
      refine ⟨fun h' => (by rw [hr] at h'; cases h'), fun i hi => ?_⟩
      rw [hr] at hi
      obtain rfl : i = k := by simpa using hi
      unfold wpOp
      simp only [hk]
      unfold wpList at h
      have hmono : ∀ a' w', wpList P ops (Exit.then (fun a' w' => (lo = true → C w') ∧ R a' w') Q) (picks ops.toList ks) a' w' →
          (looseOf md ops i = true → C w') ∧ wpAnyF P md ops Q C (looseOf md ops) (m + ks.length) (listed.setIfInBounds i true) a' w' := by
        intro a' w' h'
        refine ⟨fun hl => ?_, ih _ _ _ (hsh.set hrk) hB' hR h'⟩
        simp only [hl, Bool.not_true, Bool.false_or, Bool.and_eq_true, List.isEmpty_iff] at hlo
        obtain ⟨hlo1, rfl⟩ := hlo
        have h' : (lo = true → C w') ∧ R a' w' := by simpa [picks, wpList, Exit.then] using h'
        exact h'.1 hlo1
      by_cases hw : Region.wanted o (yielded ops a.tmps) = true
      · rw [if_pos hw] at h ⊢
        rcases h with h | h
        · refine .inl ?_
          have h := Oper.wp_mono hmono h
          unfold Oper.wp at *
          generalize (execOp a.eval o).run P w = r at *
          cases r with
          | ok n w' => cases n <;> simp only [Oper.upon] at h ⊢ <;> exact h
          | halt x w' => cases x <;> simp only [Oper.upon] at h ⊢ <;> exact h
        · exact .inr h
      · rw [if_neg hw] at h ⊢
        exact hmono _ _ h

theorem seg_ok (hs : Region.noSelect ops = true) (hQ : ∀ c a d v w, Q (.panic c) (a.put d v) w → Q (.panic c) a w) : ∀ (is : List Seg) (listed : Array Bool) (a : Act) (w : World), Shut md ops listed →
    segFrom md ops is listed = true → wpSeg P ops C Q (segs ops.toList is) a w → wpAnyF P md ops Q C (looseOf md ops) (segLen is) listed a w := by
  intro is
  induction is with
  | nil =>
    intro listed a w _ hB h
    exact ⟨by simpa [segFrom] using hB, by simpa [wpSeg, segs] using h⟩
  | cons s is ih =>
    intro listed a w hsh hB h
    cases s with
    | fl ks =>
      simp only [segFrom, Bool.and_eq_true] at hB
      simp only [segs, wpSeg] at h
      exact fl_ok hs hQ h.1 ks listed a hsh hB.1 (fun a' hsh' hR => ih _ a' w hsh' hB.2 hR) h.2
    | sq ks lo =>
      simp only [segFrom, Bool.and_eq_true] at hB
      simp only [segs, wpSeg] at h
      exact sq_ok ks listed a w hsh hB.1 (fun a' w' hsh' _ hR => ih _ a' w' hsh' hB.2 hR) h

/-- One walk serves every order. -/
theorem wp_region_seg {id : Nat} {a : Act} {w : World} {l : List Oper} (is : List Seg) (hm : P.follows .mixedOrders = true) (hB : segB .any l.toArray is = true)
    (hQ : ∀ c a d v w, Q (.panic c) (a.put d v) w → Q (.panic c) a w)
    (h : wpSeg P l.toArray C Q (segs l is) a w.drew) : (Code.region id l.toArray true).wp P Q a w := by
  simp only [segB, Bool.and_eq_true, beq_iff_eq] at hB
  refine wp_region_any hm (wpAny_of_F (C := C) (loose := looseOf .any l.toArray) _ _ _ _ ?_)
  have := seg_ok (md := .any) (C := C) hB.1.1 hQ is (Array.replicate l.toArray.size false) a w.drew (shut_none _) hB.2 h
  rw [hB.1.2] at this
  exact this

theorem wpSeg_fl {os : List Oper} {r : List SegO} {a : Act} {w : World} (hC : C w) (h : wpQuiet P ops C (fun a' => wpSeg P ops C Q r a' w) os a) : wpSeg P ops C Q (.fl os :: r) a w := ⟨hC, h⟩
theorem wpSeg_sq {os : List Oper} {lo : Bool} {r : List SegO} {a : Act} {w : World}
    (h : ∀ K : Act → World → Prop, (∀ a' w', (lo = true → C w') → wpSeg P ops C Q r a' w' → K a' w') → wpList P ops (Exit.then K Q) os a w) : wpSeg P ops C Q (.sq os lo :: r) a w :=
  h _ (fun _ _ h1 h2 => ⟨h1, h2⟩)
theorem wpSeg_nil {a : Act} {w : World} (h : Q .normal a w) : wpSeg P ops C Q [] a w := h
theorem exit_then_self (Q : Exit → Act → World → Prop) : Exit.then (Q .normal) Q = Q := by
  funext e a w
  cases e <;> rfl
/-- The last segment. -/
theorem wpSeg_last {os : List Oper} {a : Act} {w : World} (h : wpList P ops Q os a w) : wpSeg P ops C Q [.sq os false] a w := by
  unfold wpSeg
  have e : (fun a' w' => (false = true → C w') ∧ wpSeg P ops C Q [] a' w') = Q .normal := by
    funext a' w'
    simp [wpSeg]
  rw [e, exit_then_self]
  exact h

end
end Go.Proofs.Ytjgdplengfnkaaa

/- nvm: Dirty, Crash. -/
namespace Go.Proofs.Ytjgdplengfnkaaa
open Go.RowKit
set_option linter.unusedVariables false

theorem elInt : Elem Try.prog 100 3 (.int .i64 0) 1 8 := Elem.mk' Try.underlying100 (by kernel_rfl) rfl (by decide)
abbrev vi (n : Nat) : Value := .int .i64 (n : Int)

theorem owned_at {w : World} {base e n : Nat} {v : Value} {vs : List Value} (h : w.ownsRow base e 1 v n vs) : ∃ a c, v = .slice a n c ∧ vs.length = n ∧ ∀ i x, vs[i]? = some x → ∃ g, a = some ⟨g, 0, none⟩ ∧ base ≤ g ∧ w.cell? ⟨g, i, none⟩ = some x := by
  have hl : vs.length = n := by have := h.1; simpa using this
  rcases h.2 with ⟨h0, h1⟩ | ⟨g, cap, cur, rfl, hb, hg, h1, h2, h3, h4⟩
  · subst h0 h1
    simp at hl
    subst hl
    exact ⟨none, 0, rfl, rfl, by simp⟩
  · exact ⟨_, _, rfl, hl, fun i x hi => ⟨g, rfl, hb, (owned_row h).cell hi⟩⟩

/-- The dirty lines among the first k. -/
def dirtyL (ds : List Bool) : Nat → List Nat
  | 0 => []
  | k + 1 => dirtyL ds k ++ (if ds.getD k false then [k] else [])
theorem dirtyL_len (ds : List Bool) (k : Nat) : (dirtyL ds k).length ≤ k := by
  induction k with
  | zero => simp [dirtyL]
  | succ k ih => unfold dirtyL; split <;> simp <;> omega
theorem dirtyL_mem (ds : List Bool) (k l : Nat) : l ∈ dirtyL ds k ↔ l < k ∧ ds.getD l false = true := by
  induction k with
  | zero => simp [dirtyL]
  | succ k ih =>
    unfold dirtyL
    rw [List.mem_append, ih]
    constructor
    · rintro (⟨h1, h2⟩ | h)
      · exact ⟨by omega, h2⟩
      · split at h
        · rename_i hd
          simp at h; subst h; exact ⟨by omega, hd⟩
        · simp at h
    · rintro ⟨h1, h2⟩
      by_cases e : l = k
      · subst e; right; rw [if_pos h2]; simp
      · left; exact ⟨by omega, h2⟩

set_option maxHeartbeats 1000000 in
theorem dirty_any {w : World} {F : Foot} {S : Dev} (h : DevAt w F S) :
    Calls Try.prog 64 #[vdev F] w fun e w' => ∃ v, e = .returned v ∧ w'.ownsRow w.heap.size 3 1 v (dirtyL S.dirty S.dirty.length).length ((dirtyL S.dirty S.dirty.length).map vi) ∧ Below w.heap.size w w' := by
  have c1 : w.cell? ⟨F.d, 3, none⟩ = some (.slice (some ⟨F.t, 0, none⟩) S.dirty.length F.ct) := cell_of_row _ _ 3 _ _ _ h.head
  have hsm := h.small
  have hl := h.lenD
  have hn : S.dirty.length ≤ 1000000 := by omega
  have HR := Lib.hid h.dirty
  clear hsm hl h
  obtain ⟨n, hnn⟩ : ∃ n, n = S.dirty.length := ⟨_, rfl⟩
  rw [← hnn] at hn c1 ⊢
  have HN := Lib.hid hnn
  clear hnn
  go_enter Try.func64, Try.ntmps64
  go_wp2_with fail
  go_loopw [3, 11] (fun v i wr => ∃ k : Nat, k ≤ n ∧ i = .int .i64 k ∧ wr.ownsRow w.heap.size 3 1 v (dirtyL S.dirty k).length ((dirtyL S.dirty k).map vi) ∧ Below w.heap.size w wr) (fun _ i _ => n - (intOf i).toNat)
  case atStart => exact ⟨0, Nat.zero_le _, rfl, ⟨rfl, .inl ⟨rfl, rfl⟩⟩, Below.refl _ _⟩
  case round =>
    obtain ⟨k, hk, rfl, ho, hb⟩ := hrel
    obtain ⟨a1, c1', rfl, hc1, hm1⟩ := owned_form ho
    have hdl := dirtyL_len S.dirty k
    have HO := Lib.hid ho
    have HB := Lib.hid hb
    clear ho hb
    by_cases hlt : k < n
    · have hlt' : (k : Int) < (n : Int) := by omega
      have HS : Hid (dirtyL S.dirty (k + 1) = dirtyL S.dirty k ++ (if S.dirty.getD k false then [k] else [])) := Lib.hid rfl
      have d0 : wr.cell? ⟨F.t, k, none⟩ = some (.bool (S.dirty.getD k false)) := below_cells HB.out (HR.out.cell (by have := HN.out; simp [← this, hlt])) (Nat.le_refl _)
      cases hq : S.dirty.getD k false
      · rw [hq] at d0 HS
        clear hq
        go_wp2_with fail
        refine ⟨⟨k + 1, by omega, vint (by omega), ?_, HB.out⟩, by simp [intOf]; omega⟩
        rw [HS.out]
        simpa using HO.out
      · rw [hq] at d0 HS
        have hone : Hid (∀ u ∈ (#[Value.int .i64 (k : Int)] : Array Value).toList, u.oneCell' = true) := Lib.hid (by intro u hu; simp at hu; subst hu; rfl)
        have hbase : Hid (w.heap.size ≤ wr.heap.size) := Lib.hid HB.out.size
        have hk9 : Hid ((dirtyL S.dirty k).length < 1000000000000) := Lib.hid (by omega)
        clear hq hdl hc1 hm1
        generalize hz : (dirtyL S.dirty k).length = z at *
        have HZ := Lib.hid hz
        clear hz
        go_wp2_with (at_builtin; refine wpList_append_new (us := #[.int .i64 (k : Int)]) elInt HO.out rfl hone.out hk9.out (by decide) hbase.out rfl rfl rfl (by simp [Act.eval]) ?_; intro g6 c6 w6 ho6 hg6 hc6 hm6 hb6 hl6; have HO6 := Lib.hid ho6; have HG6 := Lib.hid hg6; clear ho6 hg6)
        refine ⟨⟨k + 1, by omega, vint (by omega), ?_, below_grownBy HB.out HO.out HG6.out (Nat.le_refl _) (Nat.le_refl _)⟩, by simp [intOf]; omega⟩
        rw [HS.out]
        simpa [HZ.out] using HO6.out
    · obtain rfl : k = n := by omega
      have hlt' : decide ((k : Int) < (k : Int)) = false := by simp
      go_wp2_with fail
      go_ret
      exact ⟨_, rfl, HO.out, HB.out⟩

/-- What becomes of one line. -/
def crashOne (S : Dev) (out : List Nat) (l c : Nat) : List Nat :=
  if c % 3 = 1 then (if S.pending.getD l false then splice out (8 * l) (seg S.flushed l) else out)
  else if c % 3 = 2 then splice out (8 * l) (seg S.cache l) else out
def crashTo (S : Dev) (ls cs : List Nat) : Nat → List Nat
  | 0 => S.lasting
  | i + 1 => crashOne S (crashTo S ls cs i) (ls.getD i 0) (cs.getD i 0)
def Dev.crashW (S : Dev) (cs : List Nat) : List Nat := crashTo S (dirtyL S.dirty S.dirty.length) cs (min (dirtyL S.dirty S.dirty.length).length cs.length)
def Dev.crash (S : Dev) (cs : List Nat) : Dev := freshDev (S.crashW cs) S.dirty.length

structure Dev.wf (S : Dev) : Prop where
  lenL : S.lasting.length = S.cache.length
  lenF : S.flushed.length = S.cache.length
  lenP : S.pending.length = S.dirty.length
  lenD : S.cache.length = 8 * S.dirty.length
  small : S.cache.length ≤ 1000000
  u64L : ∀ z ∈ S.lasting, z < 18446744073709551616
  u64C : ∀ z ∈ S.cache, z < 18446744073709551616
  u64F : ∀ z ∈ S.flushed, z < 18446744073709551616
theorem DevAt.wf {w : World} {F : Foot} {S : Dev} (h : DevAt w F S) : S.wf := ⟨h.lenL, h.lenF, h.lenP, h.lenD, h.small, h.u64L, h.u64C, h.u64F⟩

theorem crashTo_wf {S : Dev} (h : S.wf) (ls cs : List Nat) (hls : ∀ l ∈ ls, l < S.dirty.length) : ∀ i, i ≤ ls.length → (crashTo S ls cs i).length = S.cache.length ∧ ∀ z ∈ crashTo S ls cs i, z < 18446744073709551616
  | 0, _ => ⟨h.lenL, h.u64L⟩
  | i + 1, hi => by
    obtain ⟨h1, h2⟩ := crashTo_wf h ls cs hls i (by omega)
    have hl : ls.getD i 0 < S.dirty.length := hls _ (by simp [show i < ls.length by omega])
    have hD := h.lenD
    unfold crashTo crashOne
    generalize ls.getD i 0 = l at *
    split
    · split
      · have hs := seg_length S.flushed l (by rw [h.lenF]; omega)
        exact ⟨by rw [length_splice _ _ _ (by rw [hs]; omega)]; exact h1, splice_lt _ h2 (seg_lt _ h.u64F)⟩
      · exact ⟨h1, h2⟩
    · split
      · have hs := seg_length S.cache l (by omega)
        exact ⟨by rw [length_splice _ _ _ (by rw [hs]; omega)]; exact h1, splice_lt _ h2 (seg_lt _ h.u64C)⟩
      · exact ⟨h1, h2⟩

set_option maxHeartbeats 2000000 in
set_option maxRecDepth 100000 in
theorem crash_any {w : World} {F : Foot} {S : Dev} (h : DevAt w F S) (a : Option Addr) (m cap : Nat) (cs : List Nat) (hm : cs.length = m) (hc : Cells w a (cs.map vu8)) (hu : ∀ z ∈ cs, z < 256) (hmx : m ≤ 1000000000) :
    Calls Try.prog 28 #[vdev F, .slice a m cap] w fun e w' => ∃ G : Foot, e = .returned (vdev G) ∧ (∀ k ∈ G.list, w.heap.size ≤ k) ∧ DevAt w' G (S.crash cs) ∧ Below w.heap.size w w' := by
  have c0 : w.cell? ⟨F.d, 0, none⟩ = some (.slice (some ⟨F.l, 0, none⟩) S.cache.length F.cl) := cell_of_row _ _ 0 _ _ _ h.head
  have HWF := Lib.hid h.wf
  have HD := Lib.hid h
  have HMEM := Lib.hid h.mem
  have HM := Lib.hid hm
  have HC := Lib.hid hc
  have HU := Lib.hid hu
  clear hm hc hu
  have hls : ∀ l ∈ dirtyL S.dirty S.dirty.length, l < S.dirty.length := fun l hl => ((dirtyL_mem _ _ _).1 hl).1
  have hlsl := dirtyL_len S.dirty S.dirty.length
  have HCR : Hid (S.crash cs = freshDev (crashTo S (dirtyL S.dirty S.dirty.length) cs (min (dirtyL S.dirty S.dirty.length).length cs.length)) S.dirty.length) := Lib.hid rfl
  have hsml : S.cache.length ≤ 1000000 := h.small
  have HLD : Hid (S.cache.length = 8 * S.dirty.length) := Lib.hid h.lenD
  clear h
  have HLS := Lib.hid hls
  clear hls
  go_enter Try.func28, Try.ntmps28
  go_wp2_with fail
  refine (clone_any F.l 0 F.cl S.lasting HWF.out.lenL w (fun i v hi => by rw [Nat.zero_add]; exact HD.out.lasting.cell hi) (by rw [HWF.out.lenL]; exact hsml)).mono ?_
  rintro e w1 ⟨v1, rfl, ho1, hb1, hn1⟩
  obtain ⟨g, cg, rfl, hg1, hg2, hg3, hg4, hg5, hr1⟩ := NewRow.of ho1 hn1 (Nat.le_refl _)
  have hd1 := HD.out.below hb1
  have HB1 := Lib.hid hb1
  have HR1 := Lib.hid hr1
  have HD1 := Lib.hid hd1
  clear hb1 hr1 hd1
  clear ho1 hn1 HD c0
  go_wp2_with fail
  refine (dirty_any HD1.out).mono ?_
  rintro e w2 ⟨v2, rfl, ho2, hb2⟩
  generalize dirtyL S.dirty S.dirty.length = ls at *
  obtain ⟨a2, c2, rfl, hl2, hat2⟩ := owned_at ho2
  have HAT : Hid (∀ i, i < ls.length → ∃ b, a2 = some ⟨b, 0, none⟩ ∧ b ≠ g ∧ w2.cell? ⟨b, i, none⟩ = some (vi (ls.getD i 0))) := Lib.hid (fun i hi => by
    obtain ⟨b, h1, h2, h3⟩ := hat2 i (vi (ls.getD i 0)) (by simp [hi])
    exact ⟨b, h1, by omega, h3⟩)
  have HR2 := Lib.hid (HR1.out.keep (hb2.block g hg4))
  have HD2 := Lib.hid (HD1.out.below hb2)
  have HB2 := Lib.hid (HB1.out.trans (hb2.mono HB1.out.size))
  have HGF : Hid (∀ k ∈ F.list, k ≠ g) := Lib.hid (fun k hk e => by have := HMEM.out k hk; omega)
  clear hat2 ho2 hb2 HR1 HD1 HB1 hl2
  go_wp2_with fail
  go_loopw [16] (fun i wr => ∃ k : Nat, k ≤ ls.length ∧ k ≤ m ∧ i = .int .i64 k ∧ RowAt wr g 76 ((crashTo S ls cs k).map vu64) ∧ Touch [g] w2 wr) (fun i _ => ls.length - (intOf i).toNat)
  case atStart => exact ⟨0, Nat.zero_le _, Nat.zero_le _, rfl, HR2.out, Touch.refl _ _⟩
  case round =>
    obtain ⟨k, hk, hkm, rfl, hrr, htr⟩ := hrel
    have hol := (crashTo_wf HWF.out ls cs HLS.out k hk)
    have hdr := HD2.out.keep (fun b hb => htr.block b (HD2.out.mem b hb) (by simpa using HGF.out b hb))
    have HDr := Lib.hid hdr
    have HRr := Lib.hid hrr
    have HTr := Lib.hid htr
    have HOL := Lib.hid hol.1
    have HOU := Lib.hid hol.2
    clear hrr htr hol hdr
    have fin : Hid (k = min ls.length m → Calls Try.prog 52 #[.slice (some ⟨g, 0, none⟩) S.cache.length cg] wr fun e w' => ∃ G : Foot, e = .returned (vdev G) ∧ (∀ k ∈ G.list, w.heap.size ≤ k) ∧ DevAt w' G (S.crash cs) ∧ Below w.heap.size w w') := Lib.hid (fun hkk => by
      refine (load_any (crashTo S ls cs k) HOL.out HLD.out HRr.out hg1 hsml HOU.out).mono ?_
      rintro e w5 ⟨G, rfl, hG, hd5, hb5⟩
      have hbr : Below w.heap.size w wr := below_touch HB2.out HTr.out (fun q hq => by simp at hq; omega) (Nat.le_refl _)
      refine ⟨G, rfl, fun q hq => ?_, ?_, hbr.trans (hb5.mono hbr.size)⟩
      · rcases hG q hq with rfl | hq
        · exact hg3
        · exact Nat.le_trans hbr.size hq
      · rw [HCR.out, HM.out, ← hkk]
        exact hd5)
    by_cases hlt : k < ls.length
    · have hlt' : (k : Int) < (ls.length : Int) := by omega
      obtain ⟨b2, rfl, hbg, hcl⟩ := HAT.out k hlt
      have d0 : wr.cell? ⟨b2, k, none⟩ = some (vi (ls.getD k 0)) := cell_of_touch HTr.out (by simpa using hbg) hcl
      have hl1 : ls.getD k 0 < S.dirty.length := HLS.out _ (by simp [hlt])
      have HST0 : Hid (crashTo S ls cs (k + 1) = crashOne S (crashTo S ls cs k) (ls.getD k 0) (cs.getD k 0)) := Lib.hid rfl
      generalize ls.getD k 0 = l at *
      clear hcl
      by_cases hkm2 : k < m
      · have hkm' : ¬ (m : Int) ≤ (k : Int) := by omega
        obtain ⟨b3, o3, rfl, d1⟩ : ∃ b o, a = some ⟨b, o, none⟩ ∧ wr.cell? ⟨b, o + k, none⟩ = some (vu8 (cs.getD k 0)) := by
          have hwr : Cells wr a (cs.map vu8) := by
            have h1 := HC.out.below HB2.out (Nat.le_refl _)
            rcases HC.out with h0 | ⟨b, o, rfl, h0⟩
            · exact .inl h0
            · refine .inr ⟨b, o, rfl, fun i v hi => ?_⟩
              have hlt0 := World.block_lt_of_cell? _ _ (h0 i v hi)
              exact cell_of_touch HTr.out (by simp at hlt0 ⊢; omega) (below_cells HB2.out (h0 i v hi) (Nat.le_refl _))
          obtain ⟨b, o, h1, h2⟩ := hwr.atMap 0 (i := k) (by rw [HM.out]; exact hkm2)
          exact ⟨b, o, h1, h2.2 k (by rw [HM.out]; exact hkm2)⟩
        have hcu : cs.getD k 0 < 256 := HU.out _ (by simp [HM.out, hkm2])
        have e1 : wr.cell? ⟨F.d, 1, none⟩ = some (.slice (some ⟨F.c, 0, none⟩) S.cache.length F.cc) := cell_of_row _ _ 1 _ _ _ HDr.out.head
        have e2 : wr.cell? ⟨F.d, 2, none⟩ = some (.slice (some ⟨F.f, 0, none⟩) S.cache.length F.cf) := cell_of_row _ _ 2 _ _ _ HDr.out.head
        have e4 : wr.cell? ⟨F.d, 4, none⟩ = some (.slice (some ⟨F.p, 0, none⟩) S.dirty.length F.cp) := cell_of_row _ _ 4 _ _ _ HDr.out.head
        have p4 : wr.cell? ⟨F.p, l, none⟩ = some (.bool (S.pending.getD l false)) := HDr.out.pending.cell (by have := HWF.out.lenP; simp [show l < S.pending.length by omega])
        have h8 : 8 * l + 8 ≤ S.cache.length := by have := HLD.out; omega
        generalize cs.getD k 0 = c at *
        have HCC : Hid (c % 3 = 1 ∨ c % 3 = 2 ∨ c % 3 = 0) := Lib.hid (by omega)
        go_upto_region 7 with fail
        rcases HCC.out with hc | hc | hc
        · have hq : (((c : Int) % 3 == 1) = true) := by simp; omega
          cases hpd : S.pending.getD l false
          · rw [hpd] at p4
            have HST : Hid (crashTo S ls cs (k + 1) = crashTo S ls cs k) := Lib.hid (by rw [HST0.out, crashOne, if_pos hc, hpd]; rfl)
            clear hc hpd
            go_wp2_with fail
            refine ⟨⟨k + 1, by omega, by omega, vint (by omega), ?_, HTr.out⟩, by simp [intOf]; omega⟩
            rw [HST.out]
            exact HRr.out
          · rw [hpd] at p4
            have HST : Hid (crashTo S ls cs (k + 1) = splice (crashTo S ls cs k) (8 * l) (seg S.flushed l)) := Lib.hid (by rw [HST0.out, crashOne, if_pos hc, hpd]; rfl)
            clear hc hpd
            go_wp2_with fail
            have q1 := fun x => later_cell (w := wr) e2 x
            have hcap : S.cache.length ≤ F.cf := HDr.out.capF
            refine wp_region_seg (C := fun w' => ∃ x : Later (wr), w' = x.val) [.fl [0, 1, 2, 4, 5, 6, 7, 8, 9], .sq [3] true, .sq [10, 11] false] (by kernel_rfl) (by kernel_rfl) (by intro c a d v w h; cases d <;> exact h) ?_
            simp only [segs, picks, List.getElem?_cons_succ, List.getElem?_cons_zero]
            have hC1 := later_drew (wr)
            refine wpSeg_fl hC1 ?_
            repeat (first | go_big_quiet_step (fail) | quiet_step (fail))
            refine wpQuiet_nil ?_
            refine wpSeg_sq (fun K hK => ?_)
            go_wp2_with fail
            refine (part_any _ g S.cache.length cg l h8 hg1 hsml _).mono ?_
            rintro e w3 ⟨rfl, rfl⟩
            go_wp2_with fail
            refine hK _ _ (fun _ => hC1) ?_
            clear hK K
            refine wpSeg_last ?_
            go_wp2_with fail
            refine (part_any _ F.f S.cache.length F.cf l h8 hcap hsml _).mono ?_
            rintro e w3 ⟨rfl, rfl⟩
            have HRd : Hid (RowAt wr.drew g 76 ((crashTo S ls cs k).map vu64)) := Lib.hid (HRr.out.keep rfl)
            have HDd := Lib.hid (HDr.out.below (later_below hC1))
            have hsl : Hid ((seg S.flushed l).length = 8) := Lib.hid (seg_length S.flushed l (by have := HWF.out.lenF; omega))
            have HSg := Lib.hid (seg_cell HDd.out.flushed l)
            have hfit : Hid (8 * l + ((seg S.flushed l).map vu64).length ≤ ((crashTo S ls cs k).map vu64).length) := Lib.hid (by simp [hsl.out, HOL.out]; omega)
            have hmin : Hid (((seg S.flushed l).map vu64).length = Nat.min 8 8) := Lib.hid (by simp [hsl.out])
            go_wp2_with (refine wpList_copy_row (off := 8 * l) (dLen := 8) (sLen := 8) rfl rfl Try.underlying22 (by kernel_rfl) rfl rfl HRd.out ((seg S.flushed l).map vu64) hmin.out HSg.out hfit.out (one_cells _) ?_; intro w4 hr4 ht4; have HR4 := Lib.hid hr4; have HT4 := Lib.hid ht4; clear hr4 ht4)
            refine ⟨⟨k + 1, by omega, by omega, vint (by omega), ?_, HTr.out.trans ((Touch.ofBelow (later_below hC1)).trans HT4.out)⟩, by simp [intOf]; omega⟩
            rw [HST.out, ← splice_map]
            exact HR4.out
        · have hq : (((c : Int) % 3 == 1) = false) := by simp; omega
          have hq2 : (((c : Int) % 3 == 2) = true) := by simp; omega
          have HST : Hid (crashTo S ls cs (k + 1) = splice (crashTo S ls cs k) (8 * l) (seg S.cache l)) := Lib.hid (by rw [HST0.out, crashOne, if_neg (by omega), if_pos hc])
          clear hc
          go_wp2_with fail
          have q1 := fun x => later_cell (w := wr) e1 x
          have hcap : S.cache.length ≤ F.cc := HDr.out.capC
          refine wp_region_seg (C := fun w' => ∃ x : Later (wr), w' = x.val) [.fl [0, 1, 2, 4, 5, 6, 7, 8, 9], .sq [3] true, .sq [10, 11] false] (by kernel_rfl) (by kernel_rfl) (by intro c a d v w h; cases d <;> exact h) ?_
          simp only [segs, picks, List.getElem?_cons_succ, List.getElem?_cons_zero]
          have hC1 := later_drew (wr)
          refine wpSeg_fl hC1 ?_
          repeat (first | go_big_quiet_step (fail) | quiet_step (fail))
          refine wpQuiet_nil ?_
          refine wpSeg_sq (fun K hK => ?_)
          go_wp2_with fail
          refine (part_any _ g S.cache.length cg l h8 hg1 hsml _).mono ?_
          rintro e w3 ⟨rfl, rfl⟩
          go_wp2_with fail
          refine hK _ _ (fun _ => hC1) ?_
          clear hK K
          refine wpSeg_last ?_
          go_wp2_with fail
          refine (part_any _ F.c S.cache.length F.cc l h8 hcap hsml _).mono ?_
          rintro e w3 ⟨rfl, rfl⟩
          have HRd : Hid (RowAt wr.drew g 76 ((crashTo S ls cs k).map vu64)) := Lib.hid (HRr.out.keep rfl)
          have HDd := Lib.hid (HDr.out.below (later_below hC1))
          have hsl : Hid ((seg S.cache l).length = 8) := Lib.hid (seg_length S.cache l (by have := HWF.out.lenF; omega))
          have HSg := Lib.hid (seg_cell HDd.out.cache l)
          have hfit : Hid (8 * l + ((seg S.cache l).map vu64).length ≤ ((crashTo S ls cs k).map vu64).length) := Lib.hid (by simp [hsl.out, HOL.out]; omega)
          have hmin : Hid (((seg S.cache l).map vu64).length = Nat.min 8 8) := Lib.hid (by simp [hsl.out])
          go_wp2_with (refine wpList_copy_row (off := 8 * l) (dLen := 8) (sLen := 8) rfl rfl Try.underlying22 (by kernel_rfl) rfl rfl HRd.out ((seg S.cache l).map vu64) hmin.out HSg.out hfit.out (one_cells _) ?_; intro w4 hr4 ht4; have HR4 := Lib.hid hr4; have HT4 := Lib.hid ht4; clear hr4 ht4)
          refine ⟨⟨k + 1, by omega, by omega, vint (by omega), ?_, HTr.out.trans ((Touch.ofBelow (later_below hC1)).trans HT4.out)⟩, by simp [intOf]; omega⟩
          rw [HST.out, ← splice_map]
          exact HR4.out
        · have hq : (((c : Int) % 3 == 1) = false) := by simp; omega
          have hq2 : (((c : Int) % 3 == 2) = false) := by simp; omega
          have HST : Hid (crashTo S ls cs (k + 1) = crashTo S ls cs k) := Lib.hid (by rw [HST0.out, crashOne, if_neg (by omega), if_neg (by omega)])
          clear hc
          go_wp2_with fail
          refine ⟨⟨k + 1, by omega, by omega, vint (by omega), ?_, HTr.out⟩, by simp [intOf]; omega⟩
          rw [HST.out]
          exact HRr.out
      · obtain rfl : k = m := by omega
        have hkm' : (k : Int) ≤ (k : Int) := Int.le_refl _
        have HF := Lib.hid (fin.out (by omega))
        clear fin
        go_wp2_with fail
        refine HF.out.mono ?_
        rintro e w5 hz
        obtain ⟨G, rfl, hz2⟩ := hz
        have HZ2 := Lib.hid hz2
        clear hz2
        go_wp2_with fail
        go_ret
        exact ⟨G, rfl, HZ2.out⟩
    · obtain rfl : k = ls.length := by omega
      have hlt' : decide ((ls.length : Int) < (ls.length : Int)) = false := by simp
      have HF := Lib.hid (fin.out (by omega))
      clear fin
      go_wp2_with fail
      refine HF.out.mono ?_
      rintro e w5 hz
      obtain ⟨G, rfl, hz2⟩ := hz
      have HZ2 := Lib.hid hz2
      clear hz2
      go_wp2_with fail
      go_ret
      exact ⟨G, rfl, HZ2.out⟩

end Go.Proofs.Ytjgdplengfnkaaa

/- Plain: what holds of a device at all times; what a persist and a crash leave. -/
namespace Go.Proofs.Ytjgdplengfnkaaa
set_option linter.unusedVariables false

theorem splice_getD (l s : List Nat) (o i : Nat) (h : o + s.length ≤ l.length) : (splice l o s).getD i 0 = if o ≤ i ∧ i < o + s.length then s.getD (i - o) 0 else l.getD i 0 := by
  unfold splice
  simp only [List.getD_eq_getElem?_getD]
  by_cases h1 : i < o
  · rw [if_neg (by omega), List.getElem?_append_left (by simp; omega), List.getElem?_take_of_lt h1]
  · rw [List.getElem?_append_right (by simp; omega), show (l.take o).length = o by simp; omega]
    by_cases h2 : i < o + s.length
    · rw [if_pos (by omega), List.getElem?_append_left (by omega)]
    · rw [if_neg (by omega), List.getElem?_append_right (by omega), List.getElem?_drop, show o + s.length + (i - o - s.length) = i by omega]
theorem seg_getD (l : List Nat) (j i : Nat) (hi : 8 * j ≤ i) (h2 : i < 8 * j + 8) : (seg l j).getD (i - 8 * j) 0 = l.getD i 0 := by
  rw [List.getD_eq_getElem?_getD, seg_at l j (i - 8 * j) (by omega), show 8 * j + (i - 8 * j) = i by omega, ← List.getD_eq_getElem?_getD]
theorem seg_eq_iff (l m : List Nat) (j : Nat) (h1 : 8 * j + 8 ≤ l.length) (h2 : 8 * j + 8 ≤ m.length) : seg l j = seg m j ↔ ∀ i, 8 * j ≤ i → i < 8 * j + 8 → l.getD i 0 = m.getD i 0 := by
  constructor
  · intro h i hi hi2
    rw [← seg_getD l j i hi hi2, ← seg_getD m j i hi hi2, h]
  · intro h
    apply List.ext_getElem (by rw [seg_length l j h1, seg_length m j h2])
    intro i hi1 hi2
    rw [seg_length l j h1] at hi1
    have := h (8 * j + i) (by omega) (by omega)
    have e1 := seg_getD l j (8 * j + i) (by omega) (by omega)
    have e2 := seg_getD m j (8 * j + i) (by omega) (by omega)
    rw [show 8 * j + i - 8 * j = i by omega] at e1 e2
    rw [this, ← e2] at e1
    simpa [List.getD_eq_getElem?_getD, seg_length l j h1, seg_length m j h2, hi1] using e1
theorem splice_seg_getD (l s : List Nat) (j i : Nat) (h1 : 8 * j + 8 ≤ l.length) (h2 : 8 * j + 8 ≤ s.length) : (splice l (8 * j) (seg s j)).getD i 0 = if i / 8 = j then s.getD i 0 else l.getD i 0 := by
  have hl := seg_length s j h2
  rw [splice_getD _ _ _ _ (by rw [hl]; exact h1), hl]
  by_cases h : i / 8 = j
  · rw [if_pos (by omega), if_pos h, seg_getD s j i (by omega) (by omega)]
  · rw [if_neg (by omega), if_neg h]
theorem getD_setB (l : List Bool) (i j : Nat) (b : Bool) (hi : i < l.length) : (l.set i b).getD j false = if j = i then b else l.getD j false := by
  simp only [List.getD_eq_getElem?_getD]
  by_cases h : j = i
  · subst h; rw [if_pos rfl, List.getElem?_set_self hi]; rfl
  · rw [if_neg h, List.getElem?_set_ne (Ne.symm h)]
theorem getD_setN (l : List Nat) (i j x : Nat) (hi : i < l.length) : (l.set i x).getD j 0 = if j = i then x else l.getD j 0 := by
  simp only [List.getD_eq_getElem?_getD]
  by_cases h : j = i
  · subst h; rw [if_pos rfl, List.getElem?_set_self hi]; rfl
  · rw [if_neg h, List.getElem?_set_ne (Ne.symm h)]

/-- A line that is not dirty lasts as it is; a pending one is dirty. -/
structure Dev.inv (S : Dev) : Prop where
  wf : S.wf
  sound : ∀ j, S.dirty.getD (j / 8) false = false → S.lasting.getD j 0 = S.cache.getD j 0
  pend : ∀ l, S.pending.getD l false = true → S.dirty.getD l false = true

theorem Dev.step_wf {S : Dev} (h : S.wf) : S.step.wf := by
  unfold Dev.step
  split
  · exact ⟨h.lenL, h.lenF, h.lenP, h.lenD, h.small, h.u64L, h.u64C, h.u64F⟩
  · exact ⟨h.lenL, h.lenF, h.lenP, h.lenD, h.small, h.u64L, h.u64C, h.u64F⟩
theorem Dev.step_inv {S : Dev} (h : S.inv) : S.step.inv := by
  obtain ⟨e1, e2, e3, e4, e5⟩ := S.step_rest
  exact ⟨Dev.step_wf h.wf, by rw [e1, e2, e4]; exact h.sound, by rw [e5, e4]; exact h.pend⟩
theorem fresh_inv {ws : List Nat} {m : Nat} (h8 : ws.length = 8 * m) (hs : ws.length ≤ 1000000) (hu : ∀ z ∈ ws, z < 18446744073709551616) : (freshDev ws m).inv := by
  refine ⟨⟨rfl, by simp [freshDev], by simp [freshDev], by simpa [freshDev] using h8, hs, hu, hu, ?_⟩, fun j _ => rfl, fun l hl => ?_⟩
  · intro z hz
    simp [freshDev] at hz
    omega
  · exfalso
    simp [freshDev, List.getD_eq_getElem?_getD, List.getElem?_replicate] at hl
    split at hl <;> simp at hl
theorem Dev.put_inv {S : Dev} (h : S.inv) (i x : Nat) (hi : i < S.cache.length) (hx : x < 18446744073709551616) : (S.put i x).inv := by
  have hw := h.wf
  have hD := hw.lenD
  have hl : i / 8 < S.dirty.length := by omega
  refine ⟨⟨by simp [Dev.put, hw.lenL], by simp [Dev.put, hw.lenF], by simp [Dev.put, hw.lenP], by simp [Dev.put, hD], by simp [Dev.put, hw.small], hw.u64L, set_lt hw.u64C _ _ hx, hw.u64F⟩, fun j hj => ?_, fun l hl2 => ?_⟩
  · simp only [Dev.put] at hj ⊢
    rw [getD_setB _ _ _ _ hl] at hj
    rw [getD_setN _ _ _ _ hi]
    split at hj
    · cases hj
    · rw [if_neg (by rintro rfl; simp at *)]
      exact h.sound j hj
  · simp only [Dev.put] at hl2 ⊢
    rw [getD_setB _ _ _ _ hl]
    split
    · rfl
    · exact h.pend l hl2
theorem Dev.store_inv {S : Dev} (h : S.inv) (i : Int) (x : Nat) (hx : x < 18446744073709551616) : (S.store i x).inv := by
  unfold Dev.store
  split
  · exact h
  · split
    · exact Dev.step_inv h
    · exact Dev.put_inv (Dev.step_inv h) _ _ (by rw [(Dev.step_rest S).2.1]; omega) hx
theorem Dev.hold_inv {S : Dev} (h : S.inv) (j : Nat) (hj : j < S.dirty.length) : (S.hold j).inv := by
  have hw := h.wf
  have hD := hw.lenD
  unfold Dev.hold
  split
  · rename_i hd
    have hs := seg_length S.cache j (by omega)
    refine ⟨⟨hw.lenL, by rw [length_splice _ _ _ (by rw [hs, hw.lenF]; omega)]; exact hw.lenF, by simp [hw.lenP], hD, hw.small, hw.u64L, hw.u64C, splice_lt _ hw.u64F (seg_lt _ hw.u64C)⟩, h.sound, fun l hl => ?_⟩
    dsimp only at hl ⊢
    rw [getD_setB _ _ _ _ (by rw [hw.lenP]; exact hj)] at hl
    split at hl
    · rename_i e; rw [e]; exact hd
    · exact h.pend l hl
  · exact h
theorem Dev.flush_inv {S : Dev} (h : S.inv) (j : Int) : (S.flush j).inv := by
  unfold Dev.flush
  split
  · exact h
  · split
    · exact Dev.step_inv h
    · exact Dev.hold_inv (Dev.step_inv h) _ (by rw [(Dev.step_rest S).2.2.2.1]; omega)
theorem Dev.flushRun_inv {S : Dev} (h : S.inv) (a m : Nat) : (S.flushRun a m).dev.inv := by
  induction m with
  | zero => exact h
  | succ m ih =>
    unfold Dev.flushRun
    split
    · exact ih
    · exact Dev.flush_inv ih _

/-- What a fence has done up to line k. -/
structure FenceAt (S : Dev) (k : Nat) (T : Dev) : Prop where
  cache : T.cache = S.cache
  flushed : T.flushed = S.flushed
  lenD : T.dirty.length = S.dirty.length
  lenP : T.pending.length = S.pending.length
  lenL : T.lasting.length = S.lasting.length
  pending : ∀ l, T.pending.getD l false = if l < k then false else S.pending.getD l false
  dirty : ∀ l, T.dirty.getD l false = if l < k ∧ S.pending.getD l false = true then !decide (seg S.flushed l = seg S.cache l) else S.dirty.getD l false
  lasting : ∀ j, T.lasting.getD j 0 = if j / 8 < k ∧ S.pending.getD (j / 8) false = true then S.flushed.getD j 0 else S.lasting.getD j 0
  u64 : ∀ z ∈ T.lasting, z < 18446744073709551616

theorem fenceTo_at {S : Dev} (h : S.wf) : ∀ k, k ≤ S.dirty.length → FenceAt S k (S.fenceTo k)
  | 0, _ => ⟨rfl, rfl, rfl, rfl, rfl, by simp [Dev.fenceTo], by simp [Dev.fenceTo], by simp [Dev.fenceTo], h.u64L⟩
  | k + 1, hk => by
    have i := fenceTo_at h k (by omega)
    have hD := h.lenD
    have hP := h.lenP
    have hL := h.lenL
    have hF := h.lenF
    unfold Dev.fenceTo
    generalize S.fenceTo k = T at *
    have hp : T.pending.getD k false = S.pending.getD k false := by rw [i.pending k, if_neg (by omega)]
    unfold Dev.settle
    rw [hp]
    cases hq : S.pending.getD k false
    · simp only [Bool.false_eq_true, if_false]
      refine ⟨i.cache, i.flushed, i.lenD, i.lenP, i.lenL, fun l => ?_, fun l => ?_, fun j => ?_, i.u64⟩
      · rw [i.pending l]
        by_cases e : l = k
        · subst e; rw [if_neg (by omega), if_pos (by omega), hq]
        · by_cases h1 : l < k
          · rw [if_pos h1, if_pos (by omega)]
          · rw [if_neg h1, if_neg (by omega)]
      · rw [i.dirty l]
        by_cases e : l = k
        · subst e; rw [if_neg (by omega), if_neg (by rw [hq]; simp)]
        · by_cases h1 : l < k ∧ S.pending.getD l false = true
          · rw [if_pos h1, if_pos ⟨by omega, h1.2⟩]
          · rw [if_neg h1, if_neg (fun h2 => h1 ⟨by omega, h2.2⟩)]
      · rw [i.lasting j]
        by_cases e : j / 8 = k
        · rw [if_neg (by omega), if_neg (by rw [e, hq]; simp)]
        · by_cases h1 : j / 8 < k ∧ S.pending.getD (j / 8) false = true
          · rw [if_pos h1, if_pos ⟨by omega, h1.2⟩]
          · rw [if_neg h1, if_neg (fun h2 => h1 ⟨by omega, h2.2⟩)]
    · simp only [if_true]
      rw [i.flushed, i.cache]
      have hs := seg_length S.flushed k (by omega)
      have hlT : 8 * k + 8 ≤ T.lasting.length := by rw [i.lenL]; omega
      refine ⟨rfl, rfl, by simp [i.lenD], by simp [i.lenP], by rw [length_splice _ _ _ (by rw [hs]; exact hlT)]; exact i.lenL, fun l => ?_, fun l => ?_, fun j => ?_, splice_lt _ i.u64 (seg_lt _ h.u64F)⟩
      · dsimp only
        rw [getD_setB _ _ _ _ (by rw [i.lenP]; omega), i.pending l]
        by_cases e : l = k
        · subst e; rw [if_pos rfl, if_pos (by omega)]
        · rw [if_neg e]
          by_cases h1 : l < k
          · rw [if_pos h1, if_pos (by omega)]
          · rw [if_neg h1, if_neg (by omega)]
      · dsimp only
        rw [getD_setB _ _ _ _ (by rw [i.lenD]; omega), i.dirty l]
        by_cases e : l = k
        · subst e; rw [if_pos rfl, if_pos ⟨by omega, hq⟩]
        · rw [if_neg e]
          by_cases h1 : l < k ∧ S.pending.getD l false = true
          · rw [if_pos h1, if_pos ⟨by omega, h1.2⟩]
          · rw [if_neg h1, if_neg (fun h2 => h1 ⟨by omega, h2.2⟩)]
      · dsimp only
        rw [splice_seg_getD _ _ _ _ hlT (by omega), i.lasting j]
        by_cases e : j / 8 = k
        · rw [if_pos e, if_pos ⟨by omega, by rw [e]; exact hq⟩]
        · rw [if_neg e]
          by_cases h1 : j / 8 < k ∧ S.pending.getD (j / 8) false = true
          · rw [if_pos h1, if_pos ⟨by omega, h1.2⟩]
          · rw [if_neg h1, if_neg (fun h2 => h1 ⟨by omega, h2.2⟩)]

theorem getD_false_of {l : List Bool} {i : Nat} (h : l.length ≤ i) : l.getD i false = false := by simp [List.getD_eq_getElem?_getD, List.getElem?_eq_none h]
theorem getD_zero_of {l : List Nat} {i : Nat} (h : l.length ≤ i) : l.getD i 0 = 0 := by simp [List.getD_eq_getElem?_getD, List.getElem?_eq_none h]

theorem Dev.fence_at {S : Dev} (h : S.wf) (hs : S.stop = false) : FenceAt S S.dirty.length S.fence := by
  unfold Dev.fence
  rw [hs]
  simp only [Bool.false_eq_true, if_false]
  obtain ⟨e1, e2, e3, e4, e5⟩ := S.step_rest
  have i := fenceTo_at (Dev.step_wf h) S.dirty.length (by rw [e4]; exact Nat.le_refl _)
  exact ⟨by rw [← e2]; exact i.cache, by rw [← e3]; exact i.flushed, by rw [← e4]; exact e4 ▸ i.lenD, by rw [← e5]; exact i.lenP, by rw [← e1]; exact i.lenL, by have := i.pending; rwa [e5] at this, by have := i.dirty; rwa [e5, e3, e2, e4] at this, by have := i.lasting; rwa [e5, e3, e1] at this, i.u64⟩
theorem Dev.fence_inv {S : Dev} (h : S.inv) : S.fence.inv := by
  by_cases hs : S.stop = true
  · unfold Dev.fence; rw [hs]; exact Dev.step_inv h
  · have i := Dev.fence_at h.wf (by simpa using hs)
    have hw := h.wf
    have hD := hw.lenD
    generalize S.fence = T at *
    refine ⟨⟨by rw [i.lenL, i.cache]; exact hw.lenL, by rw [i.flushed, i.cache]; exact hw.lenF, by rw [i.lenP, i.lenD]; exact hw.lenP, by rw [i.cache, i.lenD]; exact hD, by rw [i.cache]; exact hw.small, i.u64, by rw [i.cache]; exact hw.u64C, by rw [i.flushed]; exact hw.u64F⟩, fun j hj => ?_, fun l hl => ?_⟩
    · rw [i.lasting j, i.cache]
      rw [i.dirty (j / 8)] at hj
      by_cases h1 : j / 8 < S.dirty.length ∧ S.pending.getD (j / 8) false = true
      · rw [if_pos h1]
        rw [if_pos h1] at hj
        have : seg S.flushed (j / 8) = seg S.cache (j / 8) := by simpa using hj
        exact (seg_eq_iff _ _ _ (by rw [hw.lenF]; omega) (by omega)).1 this j (by omega) (by omega)
      · rw [if_neg h1]
        rw [if_neg h1] at hj
        exact h.sound j hj
    · rw [i.pending l] at hl
      by_cases h1 : l < S.dirty.length
      · rw [if_pos h1] at hl; cases hl
      · rw [getD_false_of (by rw [hw.lenP]; omega)] at hl
        simp at hl
theorem Dev.persist_inv {S : Dev} (h : S.inv) (p n : Int) : (S.persist p n).dev.inv := by
  unfold Dev.persist
  split
  · exact h
  · split
    · unfold Dev.persistN
      split
      · exact Dev.flushRun_inv h _ _
      · exact Dev.fence_inv (Dev.flushRun_inv h _ _)
    · exact Dev.fence_inv h

theorem settle_steps (S : Dev) (j : Nat) : (S.settle j).steps = S.steps ∧ (S.settle j).fuse = S.fuse := by
  unfold Dev.settle; split <;> exact ⟨rfl, rfl⟩
theorem fenceTo_steps (S : Dev) (k : Nat) : (S.fenceTo k).steps = S.steps ∧ (S.fenceTo k).fuse = S.fuse := by
  induction k with
  | zero => exact ⟨rfl, rfl⟩
  | succ k ih => have h := settle_steps (S.fenceTo k) k; exact ⟨h.1.trans ih.1, h.2.trans ih.2⟩
theorem Dev.fence_ok {S : Dev} {N : Nat} (h : S.ok N) : S.fence.ok (N + 1) := by
  unfold Dev.fence
  split
  · exact Dev.step_ok h
  · have := Dev.step_ok h
    have e := fenceTo_steps S.step S.dirty.length
    unfold Dev.ok at *
    rw [e.1, e.2]
    exact this
theorem Dev.persist_ok {S : Dev} (hw : S.wf) {N : Nat} (h : S.ok N) (p n : Int) : (S.persist p n).dev.ok (N + 200000) := by
  have hD := hw.lenD
  have hs := hw.small
  unfold Dev.persist
  split
  · exact h.mono (by omega)
  · split
    · unfold Dev.persistN
      have hM : (((p : Int) + (n : Int) - 1) / 8 - (p : Int) / 8 + 1).toNat ≤ 150000 := by omega
      split
      · exact (Dev.flushRun_ok h _ _).mono (by omega)
      · exact (Dev.fence_ok (Dev.flushRun_ok h _ _)).mono (by omega)
    · exact (Dev.fence_ok h).mono (by omega)

theorem settle_live {S : Dev} (h : S.live) (j : Nat) : (S.settle j).live := by
  unfold Dev.settle; split <;> exact h
theorem fenceTo_live {S : Dev} (h : S.live) (k : Nat) : (S.fenceTo k).live := by
  induction k with
  | zero => exact h
  | succ k ih => exact settle_live ih k
theorem Dev.live.fence {S : Dev} (h : S.live) : S.fence.live := by
  unfold Dev.fence
  rw [h.stop]
  exact fenceTo_live h.step _
theorem Dev.live.persist_live {S : Dev} (h : S.live) (p n : Nat) (hn : 0 < n) (hd : S.cache.length = 8 * S.dirty.length) (hp : p + n ≤ S.cache.length) : (S.persist p n).dev.live := by
  unfold Dev.persist
  rw [if_neg (by omega), if_pos (by omega)]
  unfold Dev.persistN
  obtain ⟨i1, i2, i3, i4⟩ := h.flushRun ((p : Int) / 8).toNat (((p : Int) + (n : Int) - 1) / 8 - (p : Int) / 8 + 1).toNat (by omega)
  rw [if_neg (by rw [i1]; simp)]
  exact i2.fence

/-- A line that was flushed is held as it is. -/
theorem Dev.flushRun_held {S : Dev} (h : S.inv) (a : Nat) : ∀ m, (S.flushRun a m).err = 0 → (S.flushRun a m).dev.cache = S.cache ∧ (S.flushRun a m).dev.dirty = S.dirty ∧ (0 < m → a + m ≤ S.dirty.length) ∧
    ∀ l, a ≤ l → l < a + m → S.dirty.getD l false = true → (S.flushRun a m).dev.pending.getD l false = true ∧ seg (S.flushRun a m).dev.flushed l = seg S.cache l
  | 0, _ => ⟨rfl, rfl, fun h => absurd h (Nat.lt_irrefl _), fun l h1 h2 => by omega⟩
  | m + 1, he => by
    have hinv := Dev.flushRun_inv h a m
    unfold Dev.flushRun at he ⊢
    by_cases h0 : (S.flushRun a m).err ≠ 0
    · rw [if_pos h0] at he
      exact absurd he h0
    · rw [if_neg h0] at he ⊢
      obtain ⟨i1, i2, i3, i4⟩ := Dev.flushRun_held h a m (by simpa using h0)
      generalize (S.flushRun a m).dev = T at *
      dsimp only at he ⊢
      unfold Dev.flushE at he
      unfold Dev.flush
      by_cases c1 : ((a + m : Nat) : Int) < 0 ∨ (T.dirty.length : Int) ≤ ((a + m : Nat) : Int)
      · rw [if_pos c1] at he; simp at he
      rw [if_neg c1] at he ⊢
      cases c2 : T.stop
      · simp only [Bool.false_eq_true, if_false]
        obtain ⟨e1, e2, e3, e4, e5⟩ := T.step_rest
        rw [show ((a + m : Nat) : Int).toNat = a + m by omega]
        have hw := Dev.step_wf hinv.wf
        have hD := hw.lenD
        have hdl : T.dirty.length = S.dirty.length := by rw [i2]
        have hj : a + m < T.step.dirty.length := by rw [e4]; omega
        rw [← e4] at i2
        rw [← e2] at i1
        rw [← e5, ← e3] at i4
        generalize T.step = U at *
        refine ⟨by rw [(Dev.hold_len U _).1, i1], by rw [(Dev.hold_len U _).2, i2], fun _ => by rw [← i2]; omega, fun l h1 h2 hd => ?_⟩
        unfold Dev.hold
        by_cases hl : l = a + m
        · subst hl
          rw [if_pos (by rw [i2]; exact hd)]
          dsimp only
          refine ⟨by rw [getD_setB _ _ _ _ (by rw [hw.lenP]; exact hj), if_pos rfl], ?_⟩
          rw [seg_splice _ _ _ (seg_length _ _ (by omega)) (by rw [hw.lenF]; omega), i1]
        · have := i4 l h1 (by omega) hd
          have hll : l < U.dirty.length := by
            rcases Nat.lt_or_ge l U.dirty.length with h | h
            · exact h
            · rw [← i2, getD_false_of h] at hd; cases hd
          split
          · dsimp only
            refine ⟨by rw [getD_setB _ _ _ _ (by rw [hw.lenP]; exact hj), if_neg hl]; exact this.1, ?_⟩
            rw [← this.2]
            have hs := seg_length U.cache (a + m) (by omega)
            refine (seg_eq_iff _ _ _ (by rw [length_splice _ _ _ (by rw [hs, hw.lenF]; omega), hw.lenF]; omega) (by rw [hw.lenF]; omega)).2 (fun i h3 h4 => ?_)
            rw [splice_seg_getD _ _ _ _ (by rw [hw.lenF]; omega) (by omega), if_neg (by omega)]
          · exact this
      · rw [c2] at he
        simp at he

/-- What was persisted is clean; what was clean stays so. -/
theorem Dev.persist_clean {S : Dev} (h : S.inv) (p n : Nat) (hn : 0 < n) (he : (S.persist p n).err = 0) : (S.persist p n).dev.cache = S.cache ∧ p + n ≤ S.cache.length ∧ (S.persist p n).dev.dirty.length = S.dirty.length ∧
    (∀ j, p ≤ j → j < p + n → (S.persist p n).dev.dirty.getD (j / 8) false = false) ∧ ∀ l, S.dirty.getD l false = false → (S.persist p n).dev.dirty.getD l false = false := by
  unfold Dev.persist at he ⊢
  by_cases c1 : (p : Int) < 0 ∨ (n : Int) < 0 ∨ (S.cache.length : Int) < (p : Int) ∨ (S.cache.length : Int) - (p : Int) < (n : Int)
  · rw [if_pos c1] at he; simp at he
  rw [if_neg c1, if_pos (by omega)] at he ⊢
  unfold Dev.persistN at he ⊢
  generalize hA : ((p : Int) / 8).toNat = A at *
  generalize hM : (((p : Int) + (n : Int) - 1) / 8 - (p : Int) / 8 + 1).toNat = M at *
  by_cases c2 : (S.flushRun A M).err ≠ 0
  · rw [if_pos c2] at he; exact absurd he c2
  rw [if_neg c2] at he ⊢
  obtain ⟨i1, i2, i3, i4⟩ := Dev.flushRun_held h A M (by simpa using c2)
  have hinv := Dev.flushRun_inv h A M
  generalize (S.flushRun A M).dev = T at *
  dsimp only at he ⊢
  unfold Dev.fenceE at he
  cases c3 : T.stop
  · have f := Dev.fence_at hinv.wf c3
    refine ⟨f.cache.trans i1, by omega, by rw [f.lenD, i2], fun j h1 h2 => ?_, fun l hl => ?_⟩
    · rw [f.dirty, i2, i1]
      cases hd : S.dirty.getD (j / 8) false
      · rw [if_neg]
        rintro ⟨_, hp⟩
        have := hinv.pend _ hp
        rw [i2, hd] at this
        cases this
      · have := i4 (j / 8) (by omega) (by omega) hd
        have hl : j / 8 < S.dirty.length := by
          rcases Nat.lt_or_ge (j / 8) S.dirty.length with h | h
          · exact h
          · rw [getD_false_of h] at hd; cases hd
        rw [if_pos ⟨hl, this.1⟩, this.2]
        simp
    · rw [f.dirty, i2, if_neg]
      · exact hl
      · rintro ⟨_, hp⟩
        have := hinv.pend _ hp
        rw [i2, hl] at this
        cases this
  · rw [c3] at he
    simp at he

/-- A crash leaves what is clean. -/
theorem Dev.crash_clean {S : Dev} (h : S.inv) (cs : List Nat) (j : Nat) (hd : S.dirty.getD (j / 8) false = false) : (S.crashW cs).getD j 0 = S.cache.getD j 0 := by
  rw [← h.sound j hd]
  unfold Dev.crashW
  have hls : ∀ l ∈ dirtyL S.dirty S.dirty.length, l < S.dirty.length ∧ S.dirty.getD l false = true := fun l hl => (dirtyL_mem _ _ _).1 hl
  generalize dirtyL S.dirty S.dirty.length = ls at *
  have hw := h.wf
  have hD := hw.lenD
  have key : ∀ i, i ≤ ls.length → (crashTo S ls cs i).getD j 0 = S.lasting.getD j 0 := by
    intro i
    induction i with
    | zero => intro _; rfl
    | succ i ih =>
      intro hi
      rw [← ih (by omega)]
      have hlen := (crashTo_wf hw ls cs (fun l hl => (hls l hl).1) i (by omega)).1
      have hm : ls.getD i 0 ∈ ls := by
        rw [List.getD_eq_getElem?_getD, List.getElem?_eq_getElem (by omega)]
        exact List.getElem_mem _
      have hl := hls _ hm
      rw [show crashTo S ls cs (i + 1) = crashOne S (crashTo S ls cs i) (ls.getD i 0) (cs.getD i 0) from rfl]
      generalize crashTo S ls cs i = out at *
      generalize ls.getD i 0 = l at *
      unfold crashOne
      have hne : j / 8 ≠ l := by rintro rfl; rw [hl.2] at hd; cases hd
      split
      · split
        · rw [splice_seg_getD _ _ _ _ (by omega) (by rw [hw.lenF]; omega), if_neg hne]
        · rfl
      · split
        · rw [splice_seg_getD _ _ _ _ (by omega) (by omega), if_neg hne]
        · rfl
  exact key _ (Nat.min_le_left _ _)
theorem Dev.crash_wf {S : Dev} (h : S.wf) (cs : List Nat) : (S.crashW cs).length = S.cache.length ∧ ∀ z ∈ S.crashW cs, z < 18446744073709551616 :=
  crashTo_wf h _ cs (fun l hl => ((dirtyL_mem _ _ _).1 hl).1) _ (Nat.min_le_left _ _)

end Go.Proofs.Ytjgdplengfnkaaa
