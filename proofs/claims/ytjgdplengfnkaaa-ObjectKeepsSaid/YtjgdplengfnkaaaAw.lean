/- law10.awake. -/
import Derived.Test.YtjgdplengfnkaaaFm
namespace Go.Proofs.Ytjgdplengfnkaaa
open Go.RowKit
set_option linter.unusedVariables false

set_option maxHeartbeats 400000 in
theorem tspans_any {w : World} {p B : Nat} {F : Foot} {l : List Hd} (h : TabAt w p F B l) (hl : l.length ≤ 1000) :
    Calls Try.prog 50 #[.pointer (some ⟨p, 0, none⟩)] w (SpansPost 122 (spansOf l) w) := by
  obtain ⟨g, c, hp, hc, hr, hne⟩ := h.ex
  have c2 : w.cell? ⟨p, 2, none⟩ = some (.slice (some ⟨g, 0, none⟩) l.length c) := cell_of_row _ _ 2 _ _ _ hp
  generalize hP : SpansPost 122 (spansOf l) w = Post
  have HP := Lib.hid hP
  have HR := Lib.hid hr
  clear hP hp hr h
  go_enter Try.func50, Try.ntmps50
  go_wp2_with fail
  refine (bspans_any (some ⟨g, 0, none⟩) l.length c l rfl w HR.out.cells hl).mono ?_
  rintro e w1 ⟨v, rfl, h1, h2⟩
  have HZ : Hid (Post (.returned v) w1) := Lib.hid (by rw [← HP.out]; exact ⟨v, rfl, h1, h2⟩)
  clear h1 h2
  go_wp2_with fail
  exact HZ.out

/-- A device that was made and formatted: all blocks are free. -/
theorem fresh_live (ws : List Nat) (m : Nat) : (freshDev ws m).live := ⟨rfl, rfl⟩
theorem fresh_ok (ws : List Nat) (m N : Nat) : (freshDev ws m).ok N := by unfold Dev.ok freshDev; simp
theorem fmt_words {S : Dev} (hv : S.live) (ho : S.ok 100) (B : Nat) (hB2 : 2 ≤ B) (hd : S.cache.length = 8 * S.dirty.length) (hlen : 256 + B ≤ S.cache.length) (b : Nat) (h1 : 1 ≤ b) (h2 : b < B) : devWord (S.fmt B) b = encN b 0 0 0 := by
  obtain ⟨p1, p2, p3, p5, p4⟩ := fmtTo_props hv ho B hlen
  have := (p1.persist 257 (B - 1) (by omega) (by rw [p3, p5]; exact hd) (by rw [p3]; omega)).2
  rw [show ((B - 1 : Nat) : Int) = (B : Int) - 1 by omega] at this
  unfold devWord Dev.fmt
  rw [show ((257 : Nat) : Int) = 257 from rfl] at this
  rw [this, show (256 : Int) + (b : Int) = ((256 + b : Nat) : Int) by omega, peek_in, p4 b h1 h2]
theorem fmt_ok {S : Dev} (hv : S.live) (ho : S.ok 100) (B : Nat) (hB2 : 2 ≤ B) (hd : S.cache.length = 8 * S.dirty.length) (hlen : 256 + B ≤ S.cache.length) : AllOk (devWord (S.fmt B)) B := by
  intro b h1 h2
  rw [fmt_words hv ho B hB2 hd hlen b h1 h2, dec_enc _ _ _ _ right_zero]
theorem fmt_hds {S : Dev} (hv : S.live) (ho : S.ok 100) (B : Nat) (hB2 : 2 ≤ B) (hd : S.cache.length = 8 * S.dirty.length) (hlen : 256 + B ≤ S.cache.length) : hds (devWord (S.fmt B)) B = List.replicate B ⟨0, 0, 0⟩ := by
  apply List.ext_getElem (by simp [hds])
  intro i h1 h2
  simp [hds] at h1
  simp only [hds, List.getElem_map, List.getElem_range, List.getElem_replicate]
  unfold hdF
  split
  · rfl
  · rw [fmt_words hv ho B hB2 hd hlen i (by omega) h1, dec_enc _ _ _ _ right_zero]

theorem cells_of_owned {w : World} {base e size n : Nat} {v : Value} {vs : List Value} (h : w.ownsRow base e size v n vs) : ∃ a c, v = .slice a n c ∧ Cells w a vs := by
  rcases h.2 with ⟨h0, h1⟩ | ⟨g, cap, cur, rfl, hb, hg, h1, h2, h3, h4⟩
  · subst h0 h1
    have := h.1
    simp at this
    subst this
    exact ⟨none, 0, rfl, Cells.nil _ _⟩
  · exact ⟨_, _, rfl, (owned_row h).cells⟩

set_option maxHeartbeats 1000000 in
set_option maxRecDepth 20000 in
theorem awake_any (w : World) : Calls Try.prog 8 #[] w fun e w' => e = .returned (.bool true) ∧ Below w.heap.size w w' := by
  have hbx := below_alloc w (.cells #[.int .i64 4] 25)
  have hcx : (w.alloc (.cells #[.int .i64 4] 25)).cell? ⟨w.heap.size, 0, none⟩ = some (.int .i64 4) := cell_alloc_new _ _ _ 0 _ rfl
  have HB := Lib.hid hbx
  clear hbx
  go_enter Try.func8, Try.ntmps8
  go_wp2_with fail
  refine (gwords_any _ _ (by omega) (by omega)).mono ?_
  rintro e w1 ⟨rfl, hb1⟩
  have hc1 := below_cells hb1 hcx (Nat.le_refl _)
  have HB1 := Lib.hid (HB.out.trans (hb1.mono HB.out.size))
  clear hb1 hcx HB
  go_wp2_with fail
  refine (new_any _ _ (by omega)).mono ?_
  rintro e w2 ⟨F, rfl, hF, hd2, hb2⟩
  have hc2 := below_cells hb2 hc1 (Nat.le_refl _)
  have HB2 := Lib.hid (HB1.out.trans (hb2.mono HB1.out.size))
  have HF : Hid (∀ k ∈ F.list, w1.heap.size ≤ k) := Lib.hid hF
  have h1l : w.heap.size < w1.heap.size := World.block_lt_of_cell? _ _ hc1
  obtain ⟨S, hS⟩ : ∃ S, S = freshDev (List.replicate (8 * (((4 * 512 : Int).toNat + 7) / 8)) 0) (((4 * 512 : Int).toNat + 7) / 8) := ⟨_, rfl⟩
  have hlive : S.live := by rw [hS]; exact fresh_live _ _
  have hok : S.ok 100 := by rw [hS]; exact fresh_ok _ _ _
  have hlen : S.cache.length = 2048 := by rw [hS]; simp [freshDev]
  have hdl : S.cache.length = 8 * S.dirty.length := by rw [hS]; simp [freshDev]
  have HD2 : Hid (DevAt w2 F S) := Lib.hid (by rw [hS]; exact hd2)
  have HS : Hid (S.live ∧ S.ok 100 ∧ S.cache.length = 2048 ∧ S.cache.length = 8 * S.dirty.length) := Lib.hid ⟨hlive, hok, hlen, hdl⟩
  clear hS hlive hok hlen hdl hd2 hb2 hF hc1
  unfold vdev
  go_wp2_with fail
  refine (format_any HD2.out HS.out.1 HS.out.2.1 4 (by omega) (by omega) (by rw [HS.out.2.2.1]; omega)).mono ?_
  rintro e w3 ⟨rfl, hd3, ht3⟩
  have hc3 : w3.cell? ⟨w.heap.size, 0, none⟩ = some (.int .i64 4) := cell_of_touch ht3 (fun hm => by have := HF.out _ hm; simp at this; omega) hc2
  have HB3 : Hid (Below w.heap.size w w3) := Lib.hid (below_touch HB2.out ht3 (fun k hk => by have := HF.out k hk; omega) (Nat.le_refl _))
  have HD3 := Lib.hid hd3
  clear hd3 ht3 hc2 HB2 HD2
  go_wp2_with fail
  refine (open_tab HD3.out 4 (by omega) (by omega)).mono ?_
  have HOK : Hid (AllOk (devWord (S.fmt 4)) 4) := Lib.hid (fmt_ok HS.out.1 HS.out.2.1 4 (by omega) HS.out.2.2.2 (by rw [HS.out.2.2.1]; omega))
  have HHD : Hid (hds (devWord (S.fmt 4)) 4 = List.replicate 4 ⟨0, 0, 0⟩) := Lib.hid (fmt_hds HS.out.1 HS.out.2.1 4 (by omega) HS.out.2.2.2 (by rw [HS.out.2.2.1]; omega))
  rintro e w4 ⟨hb4, ⟨_, p, rfl, hp, htab⟩ | ⟨b, hb0, hbB, _, hbad, rfl⟩⟩
  · rw [HHD.out] at htab
    have HT := Lib.hid htab
    have HB4 := Lib.hid (HB3.out.trans (hb4.mono HB3.out.size))
    clear htab hb4
    go_wp2_with fail
    refine (tspans_any HT.out (by simp)).mono ?_
    rintro e w5 ⟨v, rfl, ho5, hb5⟩
    have HSP : Hid (spansOf (List.replicate 4 (⟨0, 0, 0⟩ : Hd)) = [(1, 3)]) := Lib.hid (by decide)
    rw [HSP.out] at ho5
    obtain ⟨a5, c5, rfl, hcs5⟩ := cells_of_owned ho5
    have HB5 := Lib.hid (HB4.out.trans (hb5.mono HB4.out.size))
    have HC5 := Lib.hid hcs5
    clear ho5 hb5 hcs5
    have HBA := Lib.hid (below_alloc w5 (.cells #[.int .i64 1, .int .i64 3] 110))
    have HC6 : Hid (Cells (w5.alloc (.cells #[.int .i64 1, .int .i64 3] 110)) a5 (spCs [(1, 3)])) := Lib.hid (HC5.out.below HBA.out (Nat.le_refl _))
    have HC7 : Hid (Cells (w5.alloc (.cells #[.int .i64 1, .int .i64 3] 110)) (some ⟨w5.heap.size, 0, none⟩) (spCs [(1, 3)])) := Lib.hid (.inr ⟨_, _, rfl, fun i v hi => by
      rw [Nat.zero_add]; exact cell_alloc_new _ _ _ i v (by simpa [spCs] using hi)⟩)
    go_wp2_with fail
    refine (lspans_same _ _ 1 _ _ [(1, 3)] rfl _ HC6.out HC7.out (by omega)).mono ?_
    rintro e w6 ⟨rfl, q, rfl⟩
    go_wp2_with fail
    go_ret
    exact ⟨rfl, below_drewN (HB5.out.trans (HBA.out.mono HB5.out.size)) _⟩
  · exact absurd (HOK.out b hb0 hbB) hbad

end Go.Proofs.Ytjgdplengfnkaaa
