/- Parts of the proof that ReviveLooks holds. -/
import Derived.Test.YtpohaahihdhleaaGreatRL5
import Derived.Deep.Cut
import Derived.BigQuiet
import Derived.Deep.CutBlock
import Derived.ChangeKeysEq
import Derived.Laws.StructEq
import Derived.Deep.QuietTactic
set_option linter.unusedVariables false
set_option maxHeartbeats 16000000
set_option maxRecDepth 100000
open Go.RowKit
namespace Go.Proofs.YtpohaahihdhleaaGreat
section
theorem elLine : Elem Tryz.prog 35 118 (.agg #[vu64 0, vu64 0, vu64 0, vu64 0, vu64 0, vu64 0, vu64 0, vu64 0]) 8 64 := Elem.mk' Tryz.underlying35 (by kernel_rfl) rfl (by decide)
structure RDev where
 now : List Nat
 last : List Nat
 wait : List Nat
 dirty : List Bool
 pending : List Bool
 steps : Int
 fuse : Int
 dead : Bool
structure RAt (w : World) (v : Value) (m : Nat) (R : RDev) : Prop where
 ex : ∃ an cn al cl aw cw ad cd ap cp, v = .agg #[.slice an m cn, .slice al m cl, .slice aw m cw, .slice ad m cd, .slice ap m cp, .int .i64 R.steps, .int .i64 R.fuse, .bool R.dead] ∧
  Cells w an (R.now.map vu64) ∧ Cells w al (R.last.map vu64) ∧ Cells w aw (R.wait.map vu64) ∧ Cells w ad (R.dirty.map Value.bool) ∧ Cells w ap (R.pending.map Value.bool)
 lenN : R.now.length = 8 * m
 lenL : R.last.length = 8 * m
 lenW : R.wait.length = 8 * m
 lenD : R.dirty.length = m
 lenP : R.pending.length = m
 u64N : ∀ z ∈ R.now, z < 18446744073709551616
 u64L : ∀ z ∈ R.last, z < 18446744073709551616
 u64W : ∀ z ∈ R.wait, z < 18446744073709551616
theorem RAt.below {w w' : World} {v : Value} {m B : Nat} {R : RDev} (h : RAt w v m R) (hb : Below B w w') (hB : w.heap.size ≤ B) : RAt w' v m R := by
 obtain ⟨an, cn, al, cl, aw, cw, ad, cd, ap, cp, rfl, h1, h2, h3, h4, h5⟩ := h.ex
 exact { h with ex := ⟨an, cn, al, cl, aw, cw, ad, cd, ap, cp, rfl, h1.below hb hB, h2.below hb hB, h3.below hb hB, h4.below hb hB, h5.below hb hB⟩ }
def freshR (ws : List Nat) (m : Nat) : RDev := ⟨ws, ws, List.replicate (8 * m) 0, List.replicate m false, List.replicate m false, 0, -1, false⟩
theorem pad_append (ws : List Nat) (k : Nat) (h : k % 8 = 0) (hk : k < ws.length) : (padTo (ws.take k) (8 * (k / 8))).map vu64 ++ [vu64 0, vu64 0, vu64 0, vu64 0, vu64 0, vu64 0, vu64 0, vu64 0] = (padTo (ws.take k) (8 * (k / 8 + 1))).map vu64 := by
 unfold padTo
 have : (ws.take k).length = k := by simp; omega
 rw [this, show 8 * (k / 8) - k = 0 by omega, show 8 * (k / 8 + 1) - k = 8 by omega]
 simp
theorem pad_set (ws : List Nat) (k m : Nat) (hk : k < ws.length) (hm : k < 8 * m) : ((padTo (ws.take k) (8 * m)).map vu64).set k (vu64 (ws.getD k 0)) = (padTo (ws.take (k + 1)) (8 * m)).map vu64 := by
 rw [← map_set_u64]
 congr 1
 unfold padTo
 have h1 : (ws.take k).length = k := by simp; omega
 have h2 : (ws.take (k + 1)).length = k + 1 := by simp; omega
 rw [h1, h2, List.set_append_right _ _ (by omega), h1, Nat.sub_self, List.take_succ_eq_append_getElem hk, show 8 * m - k = (8 * m - (k + 1)) + 1 by omega, List.replicate_succ, List.set_cons_zero, List.append_assoc]
 simp [hk]
theorem pad_length (ws : List Nat) (k m : Nat) (hk : k ≤ ws.length) (hm : k ≤ 8 * m) : (padTo (ws.take k) (8 * m)).length = 8 * m := by
 unfold padTo; simp; omega
def zeroD : Array Value := #[.slice none 0 0, .slice none 0 0, .slice none 0 0, .slice none 0 0, .slice none 0 0, .int .i64 0, .int .i64 0, .bool false]
theorem aggRd : Agg Tryz.prog 38 zeroD := ⟨⟨_, Tryz.underlying38, rfl⟩, by kernel_rfl⟩
structure LdSt (w W : World) (f : Array Value) : Prop where
 at1 : W.heap[w.heap.size + 1]? = some (.cells f 38 (0, 0))
 at0 : W.heap[w.heap.size]? = some (.cells zeroD 38 (0, 0))
 below : Below w.heap.size w W
 size : w.heap.size + 2 ≤ W.heap.size
theorem LdSt.set {w W : World} {f : Array Value} (h : LdSt w W f) (j : Nat) (v : Value) : LdSt w (W.setCell ⟨w.heap.size + 1, j, none⟩ v) (f.setIfInBounds j v) :=
 ⟨heap_setCell_same _ _ _ _ _ _ h.at1, (Below.heap_setCell _ _ _ _ (by simp)).trans h.at0, h.below.setCell (by simp) _, by simp [World.setCell]; exact h.size⟩
theorem LdSt.grown {w W W' : World} {f : Array Value} (h : LdSt w W f) (hg : W.grownBy W' none) : LdSt w W' f := by
 have hb := below_grown hg (Nat.le_refl _)
 have := h.size
 exact ⟨(hb.block _ (by omega)).trans h.at1, (hb.block _ (by omega)).trans h.at0, h.below.trans (hb.mono h.below.size), Nat.le_trans h.size hb.size⟩
theorem LdSt.cell {w W : World} {f : Array Value} (h : LdSt w W f) (j : Nat) {v : Value} (hv : f[j]? = some v) : W.cell? ⟨w.heap.size + 1, j, none⟩ = some v := by
 rw [cell_of_row _ _ j _ _ _ h.at1]; exact hv
theorem LdSt.frozen {w W : World} {f : Array Value} (h : LdSt w W f) (j : Nat) : W.frozen? ⟨w.heap.size + 1, j, none⟩ = false := frozen_of_row _ _ _ _ _ h.at1
theorem owned_grown {w w' : World} {base e size n : Nat} {v : Value} {xs : List Value} (h : w.ownsRow base e size v n xs) (hg : w.grownBy w' none) : w'.ownsRow base e size v n xs := owned_below h (below_grown hg (Nat.le_refl _)) (Nat.le_refl _)
theorem owned_addr {w : World} {base e size n n' c : Nat} {a : Option Addr} {xs : List Value} (h : w.ownsRow base e size (.slice a n' c) n xs) (x : Addr) (hx : a = some x) : base ≤ x.block := by
 rcases h.2 with ⟨h0, _⟩ | ⟨g, cap, cur, hv, hb, _⟩
 ·simp at h0; rw [h0.1] at hx; cases hx
 ·simp at hv; rw [hv.1] at hx; cases hx; exact hb
theorem rload_at (a : Option Addr) (n cap : Nat) (ws : List Nat) (hn : ws.length = n) (w : World) (hc : Cells w a (ws.map vu64)) (hl : n ≤ 100000) (hu : ∀ z ∈ ws, z < 18446744073709551616) :
  Calls Tryz.prog 11 #[.slice a n cap] w fun e w' => ∃ v, e = .returned v ∧ RAt w' v ((n + 7) / 8) (freshR (padTo ws (8 * ((n + 7) / 8))) ((n + 7) / 8)) ∧ (∀ cs, v = .agg cs → ∀ (i : Nat) (x : Addr) (n c : Nat), cs[i]? = some (.slice (some x) n c) → w.heap.size ≤ x.block) ∧ Below w.heap.size w w' := by
 have HN := LH hn
 have HC := LH hc
 have HU := LH hu
 obtain ⟨w0, hw0⟩ : ∃ w0, w0 = (w.alloc (.cells #[.slice none 0 0, .slice none 0 0, .slice none 0 0, .slice none 0 0, .slice none 0 0, .int .i64 0, .int .i64 0, .bool false] 38)).alloc (.cells #[.slice none 0 0, .slice none 0 0, .slice none 0 0, .slice none 0 0, .slice none 0 0, .int .i64 0, .int .i64 0, .bool false] 38) := ⟨_, rfl⟩
 have hb0 : Below w.heap.size w w0 := by rw [hw0]; exact (below_alloc _ _).alloc (by simp) _
 have hg1 : w0.heap[w.heap.size + 1]? = some (.cells #[.slice none 0 0, .slice none 0 0, .slice none 0 0, .slice none 0 0, .slice none 0 0, .int .i64 0, .int .i64 0, .bool false] 38) := by
  rw [hw0]
  have := heap_alloc_new (w.alloc (.cells #[.slice none 0 0, .slice none 0 0, .slice none 0 0, .slice none 0 0, .slice none 0 0, .int .i64 0, .int .i64 0, .bool false] 38)) (.cells #[.slice none 0 0, .slice none 0 0, .slice none 0 0, .slice none 0 0, .slice none 0 0, .int .i64 0, .int .i64 0, .bool false] 38)
  simpa using this
 have hg0 : w0.heap[w.heap.size]? = some (.cells #[.slice none 0 0, .slice none 0 0, .slice none 0 0, .slice none 0 0, .slice none 0 0, .int .i64 0, .int .i64 0, .bool false] 38) := by
  rw [hw0, Below.heap_alloc _ _ _ (by simp)]
  exact heap_alloc_new _ _
 have HW0 := LH hw0
 have HB0 := LH hb0
 have HG0 := LH hg0
 have HG1 := LH hg1
 have hsz0 : Hid (w0.heap.size = w.heap.size + 2) := LH (by rw [hw0]; simp)
 clear hn hc hu hw0 hb0 hg0 hg1
 go_enter Tryz.func11, Tryz.ntmps11
 go_wp2_with fail
 rw [← HW0.out]
 go_loopw [4] (fun i wr => ∃ k : Nat, k ≤ n ∧ i = .int .i64 k ∧ ∃ v, wr.heap[w.heap.size + 1]? = some (.cells #[v, .slice none 0 0, .slice none 0 0, .slice none 0 0, .slice none 0 0, .int .i64 0, .int .i64 0, .bool false] 38) ∧ wr.heap[w.heap.size]? = some (.cells #[.slice none 0 0, .slice none 0 0, .slice none 0 0, .slice none 0 0, .slice none 0 0, .int .i64 0, .int .i64 0, .bool false] 38) ∧ wr.ownsRow (w.heap.size + 2) 118 8 v ((k + 7) / 8) ((padTo (ws.take k) (8 * ((k + 7) / 8))).map vu64) ∧ Below w.heap.size w wr ∧ w.heap.size + 2 ≤ wr.heap.size) (fun i _ => n - (intOf i).toNat)
 case atStart => exact ⟨0, Nat.zero_le _, rfl, _, HG1.out, HG0.out, ⟨rfl, .inl ⟨rfl, rfl⟩⟩, HB0.out, by rw [hsz0.out]; exact Nat.le_refl _⟩
 case round =>
  obtain ⟨k, hk, rfl, v, hv1, hv0, ho, hb, hsz⟩ := hrel
  by_cases hlt : k < n
  ·have hlt' : (k : Int) < (n : Int) := by omega
   obtain ⟨b, off, rfl, hcs⟩ : ∃ b off, a = some ⟨b, off, none⟩ ∧ wr.cell? ⟨b, off + k, none⟩ = some (vu64 (ws.getD k 0)) := by
    obtain ⟨b, off, rfl, hb', hcs⟩ := (HC.out.below hb (Nat.le_refl _)).atMap 0 (show k < ws.length by rw [HN.out]; exact hlt)
    exact ⟨b, off, rfl, hcs k (by rw [HN.out]; exact hlt)⟩
   have HX : Hid (k < ws.length) := LH (by rw [HN.out]; exact hlt)
   obtain ⟨a1, c1, rfl, hc1, hm1⟩ := owned_form ho
   have e0 : wr.cell? ⟨w.heap.size + 1, 0, none⟩ = some (.slice a1 ((k + 7) / 8) c1) := cell_of_row _ _ 0 _ _ _ hv1
   have f0 : wr.frozen? ⟨w.heap.size + 1, 0, none⟩ = false := frozen_of_row _ _ _ _ _ hv1
   by_cases hz : k % 8 = 0
   ·have hz1 : ((k : Int) % 8 == 0) = true := by simp; omega
    have hz2 : (k % 8 == 0) = true := by simpa using hz
    have HZ := LH hz
    have hm : (k + 7) / 8 = k / 8 := by omega
    rw [hm] at ho e0
    have HO := LH ho
    have HV1 := LH hv1
    have HV0 := LH hv0
    have HB := LH hb
    have hk9 : k / 8 < 1000000000000 := by omega
    have hone : Hid (∀ u ∈ (#[vu64 0, vu64 0, vu64 0, vu64 0, vu64 0, vu64 0, vu64 0, vu64 0] : Array Value).toList, u.oneCell' = true) := LH (by decide)
    have hbase := LH hsz
    clear ho hv1 hv0 hb hz hm hsz
    go_wp2_with (at_builtin; refine wpList_append_new (us := #[vu64 0, vu64 0, vu64 0, vu64 0, vu64 0, vu64 0, vu64 0, vu64 0]) elLine HO.out rfl hone.out hk9 (by decide) hbase.out rfl rfl rfl (by simp [Act.eval]) ?_; intro g6 c6 w6 ho6 hg6 hc6 hm6 hb6 hl6; have HO6 := LH ho6; have HG6 := LH hg6; have HH6 := LH (And.intro (grown_heap hg6 HO.out (by omega) HV1.out) (grown_heap hg6 HO.out (by omega) HV0.out)); have e6 := cell_of_row _ _ 0 _ _ _ HH6.out.1; have f6 : w6.frozen? ⟨w.heap.size + 1, 0, none⟩ = false := frozen_of_row _ _ _ _ _ HH6.out.1; clear ho6 hg6)
    rw [pad_append _ _ HZ.out HX.out] at HO6
    obtain ⟨hv17, hv07⟩ := HH6.out
    have hv1 := heap_setCell_same w6 (w.heap.size + 1) 0 _ _ (.slice (some ⟨g6, 0, none⟩) (k / 8 + 1) c6) hv17
    have hv0 : (w6.setCell ⟨w.heap.size + 1, 0, none⟩ (.slice (some ⟨g6, 0, none⟩) (k / 8 + 1) c6)).heap[w.heap.size]? = _ := (Below.heap_setCell _ _ _ _ (by simp)).trans hv07
    have hb7 : Below w.heap.size w (w6.setCell ⟨w.heap.size + 1, 0, none⟩ (.slice (some ⟨g6, 0, none⟩) (k / 8 + 1) c6)) := (below_grownBy HB.out HO.out HG6.out (Nat.le_refl _) (by omega)).setCell (by simp) _
    have ho7 := ownsRow_setCell_below HO6.out (a := ⟨w.heap.size + 1, 0, none⟩) (by simp) (.slice (some ⟨g6, 0, none⟩) (k / 8 + 1) c6)
    have hsz7 : w.heap.size + 2 ≤ (w6.setCell ⟨w.heap.size + 1, 0, none⟩ (.slice (some ⟨g6, 0, none⟩) (k / 8 + 1) c6)).heap.size := by simp [World.setCell]; omega
    generalize w6.setCell ⟨w.heap.size + 1, 0, none⟩ (.slice (some ⟨g6, 0, none⟩) (k / 8 + 1) c6) = w7 at *
    have E0 : w7.cell? ⟨w.heap.size + 1, 0, none⟩ = some (.slice (some ⟨g6, 0, none⟩) (k / 8 + 1) c6) := cell_of_row _ _ 0 _ _ _ hv1
    have CW : w7.cell? ⟨b, off + k, none⟩ = some (vu64 (ws.getD k 0)) := by
     obtain ⟨b', off', he, hb', hcs'⟩ := (HC.out.below hb7 (Nat.le_refl _)).atMap 0 HX.out
     simp at he
     obtain ⟨rfl, rfl⟩ := he
     exact hcs' k HX.out
    obtain ⟨xk, hxk⟩ : ∃ xk, xk = ws.getD k 0 := ⟨_, rfl⟩
    rw [← hxk] at CW
    have HXK := LH hxk
    have HO7 := LH ho7
    have HV1 := LH hv1
    have HV0 := LH hv0
    have HB7 := LH hb7
    clear ho7 hv1 hv0 hb7 HO6 HG6 hv17 hv07 HH6 e6 f6 HO HB hcs e0 f0 hxk
    have hM : k / 8 < k / 8 + 1 := by omega
    have f1 := fun x => later_cell E0 x
    have f2 := fun x => later_cell CW x
    have hq3 : 0 ≤ (k : Int) / 8 := by omega
    have hq4 : ((k : Int) / 8).toNat = k / 8 := by omega
    have hq5 : (k : Int) / 8 < (k : Int) / 8 + 1 := by omega
    have hq6 : 0 ≤ (k : Int) % 8 := by omega
    have hq7 : ((k : Int) % 8).toNat = k % 8 := by omega
    have hq8 : (k : Int) % 8 < 8 := by omega
    have hq9 : k % 8 < 8 := by omega
    have hq2 : (k : Int).tmod 8 = (k : Int) % 8 := Int.tmod_eq_emod_of_nonneg (by omega)
    have hq1 : IntKind.i64.wrap ((k : Int) / 8) = (k : Int) / 8 := IntWalk.i64_in _ (by omega)
    refine wp_region_later_tail 12 ?hn ?hm ?hB ?_
    case hn => exact Nat.le_of_ble_eq_true rfl
    case hm => kernel_rfl
    case hB => kernel_rfl
    simp only [List.take_succ_cons, List.take_zero, List.drop_succ_cons, List.drop_zero]
    repeat (quiet_step (fail))
    refine wpQuiet_nil ?_
    rintro w8 ⟨x, hx8⟩
    have hb8 : Below w7.heap.size w7 w8 := by rw [hx8]; exact x.below
    have ho8 := owned_below HO7.out hb8 (Nat.le_refl _)
    have hr8 := owned_row ho8
    have hl8 : k < ((padTo (ws.take k) (8 * (k / 8 + 1))).map vu64).length := by rw [List.length_map, pad_length _ _ _ (Nat.le_of_lt HX.out) (by omega)]; omega
    have e8 : w8.cell? ⟨g6, k / 8 * 8 + k % 8, none⟩ = some (((padTo (ws.take k) (8 * (k / 8 + 1))).map vu64)[k]'hl8) := by
     rw [show k / 8 * 8 + k % 8 = k by omega]; exact hr8.cell (List.getElem?_eq_getElem hl8)
    generalize (((padTo (ws.take k) (8 * (k / 8 + 1))).map vu64)[k]'hl8) = old at e8
    have f8 : w8.frozen? ⟨g6, k / 8 * 8 + k % 8, none⟩ = false := hr8.frozen _
    have hst := ho8.stored k (vu64 xk)
    rw [HXK.out, pad_set _ _ _ HX.out (by omega), ← HXK.out] at hst
    have HST := LH hst
    have HO8 := LH ho8
    have hgl : w.heap.size + 1 < w7.heap.size := by omega
    have hgg : w.heap.size + 2 ≤ g6 := by assumption
    have HV18 : Hid (w8.heap[w.heap.size + 1]? = _) := LH ((hb8.block _ hgl).trans HV1.out)
    have HV08 : Hid (w8.heap[w.heap.size]? = _) := LH ((hb8.block _ (by omega)).trans HV0.out)
    have HB8 : Hid (Below w.heap.size w w8) := LH (HB7.out.trans (hb8.mono HB7.out.size))
    have hs8 : w.heap.size + 2 ≤ w8.heap.size := by have := hb8.size; omega
    clear hx8 hb8 ho8 hr8 hl8 hst f1 f2 hq1 hq2 hq3 hq4 hq5 hq6 hq7 hq8 hq9 E0 CW x
    go_wp2_with fail
    refine ⟨⟨k + 1, by omega, vint (by omega), .slice (some ⟨g6, 0, none⟩) (k / 8 + 1) c6, ?_, ?_, ?_, ?_, ?_⟩, by simp [intOf]; omega⟩
    ·exact (Below.heap_setCell _ _ _ _ (by simp; omega)).trans HV18.out
    ·exact (Below.heap_setCell _ _ _ _ (by simp; omega)).trans HV08.out
    ·rw [show (k + 1 + 7) / 8 = k / 8 + 1 by omega, show k / 8 * 8 + k % 8 = k by omega]; exact HST.out.1
    ·exact HB8.out.setCell (by simp; omega) _
    ·simp [World.setCell]; exact hs8
   ·have hz1 : ((k : Int) % 8 == 0) = false := by simp; omega
    have hz2 : (k % 8 == 0) = false := by simpa using hz
    have hm : (k + 7) / 8 = k / 8 + 1 := by omega
    rw [hm] at ho e0
    obtain ⟨g6, c6, hge, hc6, hm6, hb6, hl6⟩ := owned_some ho (by omega)
    simp at hge
    obtain ⟨rfl, rfl⟩ := hge
    rw [hm] at hv1
    obtain ⟨xk, hxk⟩ : ∃ xk, xk = ws.getD k 0 := ⟨_, rfl⟩
    rw [← hxk] at hcs
    have HXK := LH hxk
    have E0 := e0
    have CW := hcs
    have HO7 := LH ho
    have HV1 := LH hv1
    have HV0 := LH hv0
    have HB7 := LH hb
    clear ho hv1 hv0 hb hz hm e0 hcs f0 hxk
    go_wp2_with fail
    have hM : k / 8 < k / 8 + 1 := by omega
    have f1 := fun x => later_cell E0 x
    have f2 := fun x => later_cell CW x
    have hq3 : 0 ≤ (k : Int) / 8 := by omega
    have hq4 : ((k : Int) / 8).toNat = k / 8 := by omega
    have hq5 : (k : Int) / 8 < (k : Int) / 8 + 1 := by omega
    have hq6 : 0 ≤ (k : Int) % 8 := by omega
    have hq7 : ((k : Int) % 8).toNat = k % 8 := by omega
    have hq8 : (k : Int) % 8 < 8 := by omega
    have hq9 : k % 8 < 8 := by omega
    have hq2 : (k : Int).tmod 8 = (k : Int) % 8 := Int.tmod_eq_emod_of_nonneg (by omega)
    have hq1 : IntKind.i64.wrap ((k : Int) / 8) = (k : Int) / 8 := IntWalk.i64_in _ (by omega)
    refine wp_region_later_tail 12 ?hn ?hm ?hB ?_
    case hn => exact Nat.le_of_ble_eq_true rfl
    case hm => kernel_rfl
    case hB => kernel_rfl
    simp only [List.take_succ_cons, List.take_zero, List.drop_succ_cons, List.drop_zero]
    repeat (quiet_step (fail))
    refine wpQuiet_nil ?_
    rintro w8 ⟨x, hx8⟩
    have hb8 : Below wr.heap.size wr w8 := by rw [hx8]; exact x.below
    have ho8 := owned_below HO7.out hb8 (Nat.le_refl _)
    have hr8 := owned_row ho8
    have hl8 : k < ((padTo (ws.take k) (8 * (k / 8 + 1))).map vu64).length := by rw [List.length_map, pad_length _ _ _ (Nat.le_of_lt HX.out) (by omega)]; omega
    have e8 : w8.cell? ⟨g6, k / 8 * 8 + k % 8, none⟩ = some (((padTo (ws.take k) (8 * (k / 8 + 1))).map vu64)[k]'hl8) := by
     rw [show k / 8 * 8 + k % 8 = k by omega]; exact hr8.cell (List.getElem?_eq_getElem hl8)
    generalize (((padTo (ws.take k) (8 * (k / 8 + 1))).map vu64)[k]'hl8) = old at e8
    have f8 : w8.frozen? ⟨g6, k / 8 * 8 + k % 8, none⟩ = false := hr8.frozen _
    have hst := ho8.stored k (vu64 xk)
    rw [HXK.out, pad_set _ _ _ HX.out (by omega), ← HXK.out] at hst
    have HST := LH hst
    have HO8 := LH ho8
    have hgl : w.heap.size + 1 < wr.heap.size := by omega
    have hgg : w.heap.size + 2 ≤ g6 := by assumption
    have HV18 : Hid (w8.heap[w.heap.size + 1]? = _) := LH ((hb8.block _ hgl).trans HV1.out)
    have HV08 : Hid (w8.heap[w.heap.size]? = _) := LH ((hb8.block _ (by omega)).trans HV0.out)
    have HB8 : Hid (Below w.heap.size w w8) := LH (HB7.out.trans (hb8.mono HB7.out.size))
    have hs8 : w.heap.size + 2 ≤ w8.heap.size := by have := hb8.size; omega
    clear hx8 hb8 ho8 hr8 hl8 hst f1 f2 hq1 hq2 hq3 hq4 hq5 hq6 hq7 hq8 hq9 E0 CW x
    go_wp2_with fail
    refine ⟨⟨k + 1, by omega, vint (by omega), .slice (some ⟨g6, 0, none⟩) (k / 8 + 1) c1, ?_, ?_, ?_, ?_, ?_⟩, by simp [intOf]; omega⟩
    ·exact (Below.heap_setCell _ _ _ _ (by simp; omega)).trans HV18.out
    ·exact (Below.heap_setCell _ _ _ _ (by simp; omega)).trans HV08.out
    ·rw [show (k + 1 + 7) / 8 = k / 8 + 1 by omega, show k / 8 * 8 + k % 8 = k by omega]; exact HST.out.1
    ·exact HB8.out.setCell (by simp; omega) _
    ·simp [World.setCell]; exact hs8
  ·obtain rfl : k = n := by omega
   have hlt' : decide ((k : Int) < (k : Int)) = false := by simp
   have hlt2 : decide (k < k) = false := by simp
   rw [List.take_of_length_le (by rw [HN.out]; exact Nat.le_refl _)] at ho
   have hlen : (padTo ws (8 * ((k + 7) / 8))).length = 8 * ((k + 7) / 8) := by
    have := pad_length ws k ((k + 7) / 8) (by rw [HN.out]; exact Nat.le_refl _) (by omega)
    rwa [List.take_of_length_le (by rw [HN.out]; exact Nat.le_refl _)] at this
   have hu2 : ∀ z ∈ padTo ws (8 * ((k + 7) / 8)), z < 18446744073709551616 := fun z hz => by
    simp only [padTo, List.mem_append, List.mem_replicate] at hz
    rcases hz with hz | ⟨_, rfl⟩
    ·exact HU.out z hz
    ·decide
   have hMb : (k + 7) / 8 ≤ 20000 := by omega
   obtain ⟨M, hMe⟩ : ∃ M, M = (k + 7) / 8 := ⟨_, rfl⟩
   rw [← hMe] at ho hlen hu2 hMb
   obtain ⟨L, hLe⟩ : ∃ L, L = padTo ws (8 * M) := ⟨_, rfl⟩
   rw [← hLe] at ho hlen hu2
   have HRe : Hid (freshR (padTo ws (8 * ((k + 7) / 8))) ((k + 7) / 8) = freshR L M ∧ (k + 7) / 8 = M) := LH (by rw [← hMe, hLe]; exact ⟨rfl, rfl⟩)
   clear hMe hLe
   have HL := LH hlen
   have HU2 := LH hu2
   obtain ⟨a1, c1, rfl, hc1, hm1⟩ := owned_form ho
   have e0 : wr.cell? ⟨w.heap.size + 1, 0, none⟩ = some (.slice a1 M c1) := cell_of_row _ _ 0 _ _ _ hv1
   have e1 : wr.cell? ⟨w.heap.size + 1, 1, none⟩ = some (.slice none 0 0) := cell_of_row _ _ 1 _ _ _ hv1
   have HO := LH ho
   have HV1 := LH hv1
   have HV0 := LH hv0
   have HB := LH hb
   have hone : Hid (∀ u ∈ L.map vu64, u.oneCell' = true) := LH (one_cells _)
   have hM9 : 0 + M < 1000000000000 := by omega
   have hbase := LH hsz
   have hnil : Hid (wr.ownsRow (w.heap.size + 2) 118 8 (.slice none 0 0) 0 []) := LH ⟨rfl, .inl ⟨rfl, rfl⟩⟩
   clear ho hv1 hv0 hb hlen hu2 hsz
   go_upto_region 9 with (at_builtin; refine wpList_append_rows elLine hnil.out HO.out hone.out hM9 (by decide) hbase.out rfl rfl rfl rfl ?_; intro v2 w2 ho2 hg2; rw [Nat.zero_add, List.nil_append] at ho2; obtain ⟨a2, c2, rfl, hc2, hm2⟩ := owned_form ho2; have HO2 := LH ho2; have HG2 := LH hg2; have HH2 := LH (And.intro (grown_heap hg2 hnil.out (by omega) HV1.out) (grown_heap hg2 hnil.out (by omega) HV0.out)); have e2 := cell_of_row _ _ 1 _ _ _ HH2.out.1; have f2 : w2.frozen? ⟨w.heap.size + 1, 1, none⟩ = false := frozen_of_row _ _ _ _ _ HH2.out.1; clear ho2 hg2)
   have st2 : LdSt w w2 _ := ⟨HH2.out.1, HH2.out.2, below_grownBy HB.out hnil.out HG2.out (Nat.le_refl _) (by omega), Nat.le_trans hbase.out HG2.out.size⟩
   have st := st2.set 1 (.slice a2 M c2)
   have hN := ownsRow_setCell_below (owned_grown HO.out HG2.out) (a := ⟨w.heap.size + 1, 1, none⟩) (by simp) (.slice a2 M c2)
   have hL := ownsRow_setCell_below HO2.out (a := ⟨w.heap.size + 1, 1, none⟩) (by simp) (.slice a2 M c2)
   generalize w2.setCell ⟨w.heap.size + 1, 1, none⟩ (.slice a2 M c2) = W2 at *
   have ST := LH st
   have HNo := LH hN
   have HLa := LH hL
   have e0' : W2.cell? ⟨w.heap.size + 1, 0, none⟩ = some (.slice a1 M c1) := st.cell 0 rfl
   have hb2 := LH st.size
   have hM8 : M < 1000000000000 := by omega
   have hz8 : Hid (∀ i, i < (#[vu64 0, vu64 0, vu64 0, vu64 0, vu64 0, vu64 0, vu64 0, vu64 0] : Array Value).size → (#[vu64 0, vu64 0, vu64 0, vu64 0, vu64 0, vu64 0, vu64 0, vu64 0] : Array Value)[i]? = some (vu64 0)) := LH (by intro i hi; simp at hi; rcases i with _ | _ | _ | _ | _ | _ | _ | _ | i <;> first | rfl | omega)
   clear st2 st hN hL e0 e1 e2 f2 HH2 HG2 HO2 HO HV1 HV0 HB hnil hbase
   go_upto_region 10 with (at_make; refine wpList_make_rows elLine (w.heap.size + 2) M (z := vu64 0) hz8.out rfl rfl hM8 (by decide) hb2.out rfl rfl rfl rfl ?_; intro w3 ho3 hg3; have S3 := LH (ST.out.grown hg3); have HO3 := LH ho3; have HG3 := LH hg3; have e3 : w3.cell? ⟨w.heap.size + 1, 2, none⟩ = some _ := S3.out.cell 2 rfl; have f3 := S3.out.frozen 2; clear ho3 hg3)
   have st := S3.out.set 2 (.slice (some ⟨W2.heap.size, 0, none⟩) M M)
   have hN := ownsRow_setCell_below (owned_grown HNo.out HG3.out) (a := ⟨w.heap.size + 1, 2, none⟩) (by simp) (.slice (some ⟨W2.heap.size, 0, none⟩) M M)
   have hL := ownsRow_setCell_below (owned_grown HLa.out HG3.out) (a := ⟨w.heap.size + 1, 2, none⟩) (by simp) (.slice (some ⟨W2.heap.size, 0, none⟩) M M)
   have hW := ownsRow_setCell_below HO3.out (a := ⟨w.heap.size + 1, 2, none⟩) (by simp) (.slice (some ⟨W2.heap.size, 0, none⟩) M M)
   generalize w3.setCell ⟨w.heap.size + 1, 2, none⟩ (.slice (some ⟨W2.heap.size, 0, none⟩) M M) = W3 at *
   clear ST HNo HLa e3 f3 e0' S3 HO3 HG3 hb2
   generalize W2.heap.size = g3 at *
   have ST := LH st
   have HNo := LH hN
   have HLa := LH hL
   have HWa := LH hW
   have e0' : W3.cell? ⟨w.heap.size + 1, 0, none⟩ = some (.slice a1 M c1) := st.cell 0 rfl
   have hb3 := LH st.size
   clear st hN hL hW
   go_upto_region 11 with (at_make; refine wpList_make_len elBool (w.heap.size + 2) M rfl rfl rfl hM8 (by decide) hb3.out rfl rfl rfl rfl ?_; intro w4 ho4 hg4; have S4 := LH (ST.out.grown hg4); have HO4 := LH ho4; have HG4 := LH hg4; have e4 : w4.cell? ⟨w.heap.size + 1, 3, none⟩ = some _ := S4.out.cell 3 rfl; have f4 := S4.out.frozen 3; clear ho4 hg4)
   have st := S4.out.set 3 (.slice (some ⟨W3.heap.size, 0, none⟩) M M)
   have lHNo := ownsRow_setCell_below (owned_grown HNo.out HG4.out) (a := ⟨w.heap.size + 1, 3, none⟩) (by simp) (.slice (some ⟨W3.heap.size, 0, none⟩) M M)
   have lHLa := ownsRow_setCell_below (owned_grown HLa.out HG4.out) (a := ⟨w.heap.size + 1, 3, none⟩) (by simp) (.slice (some ⟨W3.heap.size, 0, none⟩) M M)
   have lHWa := ownsRow_setCell_below (owned_grown HWa.out HG4.out) (a := ⟨w.heap.size + 1, 3, none⟩) (by simp) (.slice (some ⟨W3.heap.size, 0, none⟩) M M)
   have lnew := ownsRow_setCell_below HO4.out (a := ⟨w.heap.size + 1, 3, none⟩) (by simp) (.slice (some ⟨W3.heap.size, 0, none⟩) M M)
   generalize w4.setCell ⟨w.heap.size + 1, 3, none⟩ (.slice (some ⟨W3.heap.size, 0, none⟩) M M) = W4 at *
   clear ST HNo HLa HWa e4 f4 e0' S4 HO4 HG4 hb3
   generalize W3.heap.size = g4 at *
   have ST := LH st
   have HNo := LH lHNo
   have HLa := LH lHLa
   have HWa := LH lHWa
   have HDi := LH lnew
   have e0' : W4.cell? ⟨w.heap.size + 1, 0, none⟩ = some (.slice a1 M c1) := st.cell 0 rfl
   have hb4 := LH st.size
   clear st lHNo lHLa lHWa lnew
   go_upto_region 12 with (at_make; refine wpList_make_len elBool (w.heap.size + 2) M rfl rfl rfl hM8 (by decide) hb4.out rfl rfl rfl rfl ?_; intro w5 ho5 hg5; have S5 := LH (ST.out.grown hg5); have HO5 := LH ho5; have HG5 := LH hg5; have e5 : w5.cell? ⟨w.heap.size + 1, 4, none⟩ = some _ := S5.out.cell 4 rfl; have f5 := S5.out.frozen 4; clear ho5 hg5)
   have st := S5.out.set 4 (.slice (some ⟨W4.heap.size, 0, none⟩) M M)
   have lHNo := ownsRow_setCell_below (owned_grown HNo.out HG5.out) (a := ⟨w.heap.size + 1, 4, none⟩) (by simp) (.slice (some ⟨W4.heap.size, 0, none⟩) M M)
   have lHLa := ownsRow_setCell_below (owned_grown HLa.out HG5.out) (a := ⟨w.heap.size + 1, 4, none⟩) (by simp) (.slice (some ⟨W4.heap.size, 0, none⟩) M M)
   have lHWa := ownsRow_setCell_below (owned_grown HWa.out HG5.out) (a := ⟨w.heap.size + 1, 4, none⟩) (by simp) (.slice (some ⟨W4.heap.size, 0, none⟩) M M)
   have lHDi := ownsRow_setCell_below (owned_grown HDi.out HG5.out) (a := ⟨w.heap.size + 1, 4, none⟩) (by simp) (.slice (some ⟨W4.heap.size, 0, none⟩) M M)
   have lnew := ownsRow_setCell_below HO5.out (a := ⟨w.heap.size + 1, 4, none⟩) (by simp) (.slice (some ⟨W4.heap.size, 0, none⟩) M M)
   generalize w5.setCell ⟨w.heap.size + 1, 4, none⟩ (.slice (some ⟨W4.heap.size, 0, none⟩) M M) = W5 at *
   clear ST HNo HLa HWa HDi e5 f5 e0' S5 HO5 HG5 hb4
   generalize W4.heap.size = g5 at *
   have ST := LH st
   have HNo := LH lHNo
   have HLa := LH lHLa
   have HWa := LH lHWa
   have HDi := LH lHDi
   have HPe := LH lnew
   have e0' : W5.cell? ⟨w.heap.size + 1, 0, none⟩ = some (.slice a1 M c1) := st.cell 0 rfl
   have hb5 := LH st.size
   clear st lHNo lHLa lHWa lHDi lnew
   have e6 : W5.cell? ⟨w.heap.size + 1, 6, none⟩ = some _ := ST.out.cell 6 rfl
   have f6 := ST.out.frozen 6
   go_upto_region 13 with fail
   have st := ST.out.set 6 (.int .i64 (-1))
   have lHNo := ownsRow_setCell_below HNo.out (a := ⟨w.heap.size + 1, 6, none⟩) (by simp) (.int .i64 (-1))
   have lHLa := ownsRow_setCell_below HLa.out (a := ⟨w.heap.size + 1, 6, none⟩) (by simp) (.int .i64 (-1))
   have lHWa := ownsRow_setCell_below HWa.out (a := ⟨w.heap.size + 1, 6, none⟩) (by simp) (.int .i64 (-1))
   have lHDi := ownsRow_setCell_below HDi.out (a := ⟨w.heap.size + 1, 6, none⟩) (by simp) (.int .i64 (-1))
   have lHPe := ownsRow_setCell_below HPe.out (a := ⟨w.heap.size + 1, 6, none⟩) (by simp) (.int .i64 (-1))
   generalize W5.setCell ⟨w.heap.size + 1, 6, none⟩ (.int .i64 (-1)) = W6 at *
   clear ST HNo HLa HWa HDi HPe e6 f6 e0' hb5
   have HNo := LH lHNo
   have HLa := LH lHLa
   have HWa := LH lHWa
   have HDi := LH lHDi
   have HPe := LH lHPe
   have hcs : Hid (∀ i v, [Value.slice a1 M c1, .slice a2 M c2, .slice (some ⟨g3, 0, none⟩) M M, .slice (some ⟨g4, 0, none⟩) M M, .slice (some ⟨g5, 0, none⟩) M M, .int .i64 0, .int .i64 (-1), .bool false][i]? = some v → W6.cell? ⟨w.heap.size + 1, 0 + i, none⟩ = some v) := LH (fun i v hi => by
    rw [Nat.zero_add]; exact st.cell i (by simpa using hi))
   have HA0 := LH st.at0
   have hone8 : Hid ((#[.slice a1 M c1, .slice a2 M c2, .slice (some ⟨g3, 0, none⟩) M M, .slice (some ⟨g4, 0, none⟩) M M, .slice (some ⟨g5, 0, none⟩) M M, .int .i64 0, .int .i64 (-1), .bool false] : Array Value).all (·.oneCell') = true) := LH (by simp [Value.oneCell'])
   have HBl := LH st.below
   have HSz := LH st.size
   clear st lHNo lHLa lHWa lHDi lHPe
   go_wp2_with (first
    | (refine wpList_load_part aggRd [Value.slice a1 M c1, .slice a2 M c2, .slice (some ⟨g3, 0, none⟩) M M, .slice (some ⟨g4, 0, none⟩) M M, .slice (some ⟨g5, 0, none⟩) M M, .int .i64 0, .int .i64 (-1), .bool false] hcs.out rfl rfl rfl rfl ?_)
    | (refine wpList_store_row aggRd (cs := #[.slice a1 M c1, .slice a2 M c2, .slice (some ⟨g3, 0, none⟩) M M, .slice (some ⟨g4, 0, none⟩) M M, .slice (some ⟨g5, 0, none⟩) M M, .int .i64 0, .int .i64 (-1), .bool false]) HA0.out rfl rfl hone8.out rfl rfl rfl rfl ?_; intro w9 h9 g9 s9; have H9 := LH h9; have G9 := LH g9; have S9 := LH s9; clear h9 g9 s9))
   have hk : ∀ {e size : Nat} {v : Value} {xs : List Value}, W6.ownsRow (w.heap.size + 2) e size v M xs → ∃ a c, v = .slice a M c ∧ Cells w9 a xs := fun {e size v xs} h => by
    obtain ⟨a, c, rfl, hcl⟩ := cells_of_owned h
    refine ⟨a, c, rfl, ?_⟩
    rcases h.2 with ⟨h0, h1⟩ | ⟨g, cap, cur, hv, hb, hg, _⟩
    ·have := h.1
     rw [h1] at this
     simp at this
     exact .inl this
    ·simp at hv
     obtain ⟨rfl, rfl⟩ := hv
     rcases hcl with h | ⟨b', off', he, h⟩
     ·exact .inl h
     ·simp at he
      obtain ⟨rfl, rfl⟩ := he
      refine .inr ⟨g, 0, rfl, fun i v hi => ?_⟩
      rw [World.cell?_of_block (w := W6) (G9.out.block g (Array.getElem?_eq_some_iff.1 hg).1 (by simp; omega))]
      exact h i v hi
   obtain ⟨_, _, q1, k1⟩ := hk HNo.out
   obtain ⟨_, _, q2, k2⟩ := hk HLa.out
   obtain ⟨_, _, q3, k3⟩ := hk HWa.out
   obtain ⟨_, _, q4, k4⟩ := hk HDi.out
   obtain ⟨_, _, q5, k5⟩ := hk HPe.out
   cases q1; cases q2; cases q3; cases q4; cases q5
   refine bodyPost_ret (v := .agg #[.slice a1 M c1, .slice a2 M c2, .slice (some ⟨g3, 0, none⟩) M M, .slice (some ⟨g4, 0, none⟩) M M, .slice (some ⟨g5, 0, none⟩) M M, .int .i64 0, .int .i64 (-1), .bool false]) (results_cell_row rfl _ _ _ _ _ _ _ rfl H9.out Tryz.underlying38 rfl (by kernel_rfl)) rfl ⟨_, rfl, ?_, ?_, ?_⟩
   rw [HRe.out.1, HRe.out.2]
   refine ⟨⟨_, _, _, _, _, _, _, _, _, _, rfl, k1, k2, ?_, ?_, ?_⟩, HL.out, HL.out, ?_, ?_, ?_, HU2.out, HU2.out, ?_⟩
   ·rw [show (freshR L M).wait = List.replicate (8 * M) 0 from rfl, List.map_replicate, Nat.mul_comm]; exact k3
   ·rw [show (freshR L M).dirty = List.replicate M false from rfl, List.map_replicate]; exact k4
   ·rw [show (freshR L M).pending = List.replicate M false from rfl, List.map_replicate]; exact k5
   ·simp [freshR]
   ·simp [freshR]
   ·simp [freshR]
   ·intro z hz; simp [freshR] at hz; omega
   ·intro cs hcs i x n' c' hi
    have l1 := owned_addr HNo.out x
    have l2 := owned_addr HLa.out x
    have l3 := owned_addr HWa.out x
    have l4 := owned_addr HDi.out x
    have l5 := owned_addr HPe.out x
    simp only [Value.agg.injEq] at hcs
    subst hcs
    rcases i with _ | _ | _ | _ | _ | _ | _ | _ | i
    ·simp at hi; have := l1 hi.1; omega
    ·simp at hi; have := l2 hi.1; omega
    ·simp at hi; have := l3 (by rw [hi.1]); omega
    ·simp at hi; have := l4 (by rw [hi.1]); omega
    ·simp at hi; have := l5 (by rw [hi.1]); omega
    all_goals simp at hi
   ·refine HBl.out.trans (⟨G9.out.os, G9.out.tape, G9.out.output, G9.out.size, fun k' hk' => G9.out.block k' (by have := HBl.out.size; omega) (by simp; omega)⟩)
theorem contTo_no {l : List Hd} {b i n : Nat} (h1 : 1 ≤ i) (h2 : i < n) (h : l.getD (b + i) default ≠ ⟨3, 0, i⟩) : contTo l b n = false := by
 cases hq : contTo l b n with
 | false => rfl
 | true => exact absurd (contTo_at hq i h1 h2) h
def WholePost (l : List Hd) (b : Nat) (w : World) : Ending → World → Prop := fun e w' => e = .returned (.tuple #[.int .i64 ((wholeN l b : Nat) : Int), .bool (decide (wholeN l b ≠ 0))]) ∧ Below w.heap.size w w'
theorem whole_none {l : List Hd} {b : Nat} {w w' : World} (h : wholeN l b = 0) (hb : Below w.heap.size w w') : WholePost l b w (.returned (.tuple #[.int .i64 0, .bool false])) w' := by
 unfold WholePost; rw [h]; exact ⟨rfl, hb⟩
theorem whole_some {l : List Hd} {b : Nat} {w w' : World} {z : Int} (h : (wholeN l b : Int) = z) (hz : 1 ≤ z) (hb : Below w.heap.size w w') : WholePost l b w (.returned (.tuple #[.int .i64 z, .bool true])) w' := by
 unfold WholePost
 rw [h, decide_eq_true (by omega : wholeN l b ≠ 0)]; exact ⟨rfl, hb⟩
theorem bwhole_any (a : Option Addr) (n cap : Nat) (l : List Hd) (hn : l.length = n) (w : World) (hc : Cells w a (hdCs l)) (hl : n ≤ 1000) (b : Nat) (hb : b < n) :
  Calls Tryz.prog 110 #[.slice a n cap, .int .i64 (b : Int)] w (WholePost l b w) := by
 have hbl : b < l.length := by rw [hn]; exact hb
 obtain ⟨k, c, z, he⟩ := hdGetD l b
 have HW : Hid (wholeN l b = if k ≠ 2 ∨ z < 1 ∨ (n : Int) - b < z then 0 else if contTo l b z.toNat then z.toNat else 0) := LH (by
  unfold wholeN
  rw [he, hn]
  dsimp only
  by_cases h1 : k ≠ 2 ∨ z < 1 ∨ (n : Int) - b < z
  ·rw [if_pos (.inr h1), if_pos h1]
  ·rw [if_neg h1, if_neg (by rintro (h | h); omega; exact h1 h)])
 obtain ⟨b1, o1, rfl, d0, d1, d2⟩ := hd_cells hc hbl he
 have HC := LH hc
 have HN := LH hn
 have H0 : Hid (wholeN l b = 0 → ∀ w', Below w.heap.size w w' → WholePost l b w (.returned (.tuple #[.int .i64 0, .bool false])) w') := LH (fun h w' => whole_none h)
 have H1 : Hid ((wholeN l b : Int) = z → 1 ≤ z → ∀ w', Below w.heap.size w w' → WholePost l b w (.returned (.tuple #[.int .i64 z, .bool true])) w') := LH (fun h hz w' => whole_some h hz)
 generalize WholePost l b w = Post at *
 clear hc hn he d1
 have hbn : (b : Int) < (n : Int) := by omega
 by_cases hk : k = 2
 case neg =>
  have HE := LH (H0.out (by rw [HW.out, if_pos (.inl hk)]))
  have hk' : (k != 2) = true := by simpa using hk
  clear hk
  go_enter Tryz.func110, Tryz.ntmps110
  go_wp2_with fail
  exact HE.out _ (Below.refl _ _)
 subst hk
 by_cases hz : z < 1
 ·have HE := LH (H0.out (by rw [HW.out, if_pos (.inr (.inl hz))]))
  go_enter Tryz.func110, Tryz.ntmps110
  go_wp2_with fail
  exact HE.out _ (Below.refl _ _)
 by_cases hz2 : (n : Int) - b < z
 ·have HE := LH (H0.out (by rw [HW.out, if_pos (.inr (.inr hz2))]))
  have hw1 : IntKind.i64.wrap ((n : Int) - (b : Int)) = (n : Int) - (b : Int) := IntWalk.i64_in _ (by omega)
  go_enter Tryz.func110, Tryz.ntmps110
  go_wp2_with fail
  exact HE.out _ (Below.refl _ _)
 obtain ⟨m, rfl⟩ := Int.eq_ofNat_of_zero_le (show 0 ≤ z by omega)
 have hm1 : 1 ≤ m := by omega
 have hmn : b + m ≤ n := by omega
 have HW2 : Hid (wholeN l b = if contTo l b m then m else 0) := LH (by rw [HW.out, if_neg (by rintro (h | h | h); exact h rfl; omega; omega)]; rfl)
 have hw1 : IntKind.i64.wrap ((n : Int) - (b : Int)) = (n : Int) - (b : Int) := IntWalk.i64_in _ (by omega)
 clear HW hz hz2
 go_enter Tryz.func110, Tryz.ntmps110
 go_wp2_with fail
 go_loopw [7] (fun i wr => ∃ j : Nat, 1 ≤ j ∧ j ≤ m ∧ i = .int .i64 (j : Int) ∧ contTo l b j = true ∧ Below w.heap.size w wr) (fun i _ => m - (intOf i).toNat)
 case atStart => exact ⟨1, Nat.le_refl _, hm1, rfl, by simp [contTo], Below.refl _ _⟩
 case round =>
  obtain ⟨j, hj1, hjm, rfl, hco, hbe⟩ := hrel
  have HCo := LH hco
  have HB := LH hbe
  clear hco hbe
  by_cases hlt : j < m
  ·have hlt' : (j : Int) < (m : Int) := by omega
   have hin : b + j < n := by omega
   have hin' : (b : Int) + (j : Int) < (n : Int) := by omega
   obtain ⟨k2, c2, z2, he2⟩ := hdGetD l (b + j)
   obtain ⟨b2, o2, hee, e0, e1, e2⟩ := hd_cells (HC.out.below HB.out (Nat.le_refl _)) (by rw [HN.out]; exact hin) he2
   cases hee
   have hto : ((b : Int) + (j : Int)).toNat = b + j := by omega
   have HE2 := LH he2
   clear he2
   by_cases hq : (⟨k2, c2, z2⟩ : Hd) = ⟨3, 0, (j : Int)⟩
   ·have heq : ∀ w', (Op.equalIn 10000 107 (.agg #[.int .i64 k2, .int .i64 c2, .int .i64 z2]) (.agg #[.int .i64 3, .int .i64 0, .int .i64 (j : Int)])).run Tryz.prog w' = .ok true w' := fun w' => equalBh w' _ _ _ _ _ _ _ (by rw [← hd_beq]; simp [hq])
    have hgd := gsBh
    have HCo2 : Hid (contTo l b (j + 1) = true) := LH (by rw [contTo, HCo.out, HE2.out, hq]; simp)
    clear hq
    go_wp2_with fail
    exact ⟨⟨j + 1, by omega, by omega, vint (by omega), HCo2.out, HB.out⟩, by simp [intOf]; omega⟩
   ·have heq : ∀ w', (Op.equalIn 10000 107 (.agg #[.int .i64 k2, .int .i64 c2, .int .i64 z2]) (.agg #[.int .i64 3, .int .i64 0, .int .i64 (j : Int)])).run Tryz.prog w' = .ok false w' := fun w' => equalBh w' _ _ _ _ _ _ _ (by rw [← hd_beq]; simp [hq])
    have hgd := gsBh
    have HE := LH (H0.out (by rw [HW2.out, contTo_no hj1 hlt (by rw [HE2.out]; exact hq)]; rfl))
    clear hq
    go_wp2_with fail
    exact HE.out _ HB.out
  ·obtain rfl : j = m := by omega
   have hlt' : decide ((j : Int) < (j : Int)) = false := by simp
   have HE := LH (H1.out (by rw [HW2.out, HCo.out, if_pos rfl]) (by omega))
   go_wp2_with fail
   exact HE.out _ HB.out
theorem wholeN_le (l : List Hd) (b : Nat) (h : wholeN l b ≠ 0) : b + wholeN l b ≤ l.length := by
 unfold wholeN at h ⊢
 by_cases hc : l.length ≤ b ∨ (l.getD b default).k ≠ 2 ∨ (l.getD b default).l < 1 ∨ (l.length : Int) - b < (l.getD b default).l
 ·rw [if_pos hc] at h; exact absurd rfl h
 ·rw [if_neg hc] at h ⊢
  by_cases hd : contTo l b (l.getD b default).l.toNat = true
  ·rw [if_pos hd]; omega
  ·rw [if_neg hd] at h; exact absurd rfl h
def SoundPost (l : List Hd) (w : World) : Ending → World → Prop := fun e w' => e = .returned (.tuple #[.int .i64 ((soundN l l.length 1 : Nat) : Int), .bool (decide (soundN l l.length 1 = 0))]) ∧ Below w.heap.size w w'
theorem bsound_any (a : Option Addr) (n cap : Nat) (l : List Hd) (hn : l.length = n) (w : World) (hc : Cells w a (hdCs l)) (hl : n ≤ 1000) :
  Calls Tryz.prog 112 #[.slice a n cap] w (SoundPost l w) := by
 have HC := LH hc
 have HN := LH hn
 have H0 : Hid (soundN l n 1 = 0 → ∀ w', Below w.heap.size w w' → SoundPost l w (.returned (.tuple #[.int .i64 0, .bool true])) w') := LH (fun h w' hb => by
  unfold SoundPost; rw [hn, h]; exact ⟨rfl, hb⟩)
 have H1 : Hid (∀ b : Nat, soundN l n 1 = b → b ≠ 0 → ∀ w', Below w.heap.size w w' → SoundPost l w (.returned (.tuple #[.int .i64 (b : Int), .bool false])) w') := LH (fun b h hne w' hb => by
  unfold SoundPost; rw [hn, h, decide_eq_false hne]; exact ⟨rfl, hb⟩)
 generalize SoundPost l w = Post at *
 clear hc hn
 go_enter Tryz.func112, Tryz.ntmps112
 go_wp2_with fail
 go_loopw [4] (fun i wr => ∃ b f : Nat, 1 ≤ b ∧ b ≤ n + 1 ∧ n ≤ b + f - 1 ∧ i = .int .i64 (b : Int) ∧ soundN l n 1 = soundN l f b ∧ Below w.heap.size w wr) (fun i _ => n + 1 - (intOf i).toNat)
 case atStart => exact ⟨1, n, Nat.le_refl _, by omega, by omega, rfl, rfl, Below.refl _ _⟩
 case round =>
  obtain ⟨b, f, hb1, hbn, hf, rfl, hs, hbe⟩ := hrel
  have HS := LH hs
  have HB := LH hbe
  clear hs hbe
  by_cases hlt : b < n
  ·have hlt' : (b : Int) < (n : Int) := by omega
   obtain ⟨g, rfl⟩ : ∃ g, f = g + 1 := ⟨f - 1, by omega⟩
   obtain ⟨k, c, z, he⟩ := hdGetD l b
   have HC1 := LH (HC.out.below HB.out (Nat.le_refl _))
   have HS2 : Hid (soundN l n 1 = if k = 2 then (if wholeN l b = 0 then b else soundN l g (b + wholeN l b)) else if k = 3 then b else soundN l g (b + 1)) := LH (by
    rw [HS.out, soundN, if_neg (by rw [HN.out]; omega), he])
   have HWh := LH (bwhole_any a n cap l HN.out wr HC1.out hl b hlt)
   have HLe := LH (wholeN_le l b)
   obtain ⟨b1, o1, rfl, d0, d1, d2⟩ := hd_cells HC1.out (by rw [HN.out]; exact hlt) he
   clear he d1 d2
   by_cases h2 : k = 2
   ·subst h2
    have h2' : ((2 : Int) == 2) = true := rfl
    go_wp2_with fail
    refine HWh.out.mono ?_
    rintro e w1 ⟨rfl, hb1⟩
    have HB1 := LH (HB.out.trans (hb1.mono HB.out.size))
    clear hb1
    obtain ⟨q, hq⟩ : ∃ q, q = wholeN l b := ⟨_, rfl⟩
    rw [← hq] at HS2 HLe ⊢
    by_cases hz : q = 0
    ·have hz' : decide (q ≠ 0) = false := by simpa using hz
     have HE := LH (H1.out b (by rw [HS2.out]; simp [hz]) (by omega))
     rw [hz']
     clear hz hq hz'
     go_wp2_with fail
     exact HE.out _ HB1.out
    ·have hz' : decide (q ≠ 0) = true := by simpa using hz
     have hle := HLe.out hz
     rw [HN.out] at hle
     have HS3 : Hid (soundN l n 1 = soundN l g (b + q)) := LH (by rw [HS2.out]; simp [hz])
     rw [hz']
     clear hq hz'
     have hw1 : IntKind.i64.wrap ((q : Int) - 1) = (q : Int) - 1 := IntWalk.i64_in _ (by omega)
     have hw2 : IntKind.i64.wrap ((b : Int) + ((q : Int) - 1)) = (b : Int) + ((q : Int) - 1) := IntWalk.i64_in _ (by omega)
     have hw3 : IntKind.i64.wrap ((b : Int) + ((q : Int) - 1) + 1) = (b : Int) + ((q : Int) - 1) + 1 := IntWalk.i64_in _ (by omega)
     go_wp2_with fail
     exact ⟨⟨b + q, g, by omega, by omega, by omega, vint (by omega), HS3.out, HB1.out⟩, by simp [intOf]; omega⟩
   ·have h2' : (k == 2) = false := by simpa using h2
    by_cases h3 : k = 3
    ·subst h3
     have HE := LH (H1.out b (by rw [HS2.out]; simp) (by omega))
     clear h2
     go_wp2_with fail
     exact HE.out _ HB.out
    ·have h3' : (k == 3) = false := by simpa using h3
     have HS3 : Hid (soundN l n 1 = soundN l g (b + 1)) := LH (by rw [HS2.out]; simp [h2, h3])
     clear h2 h3
     go_wp2_with fail
     exact ⟨⟨b + 1, g, by omega, by omega, by omega, vint (by omega), HS3.out, HB.out⟩, by simp [intOf]; omega⟩
  ·have hlt' : decide ((b : Int) < (n : Int)) = false := by simp; omega
   have HE := LH (H0.out (by
    rw [HS.out]
    cases f with
    | zero => rfl
    | succ f => rw [soundN, if_pos (by rw [HN.out]; omega)]))
   go_wp2_with fail
   exact HE.out _ HB.out
theorem tall_any {w : World} {p g c B : Nat} {F : Foot} {l : List Hd} (h : TabG w p g c F B l) (hB : B ≤ 1000) :
  Calls Tryz.prog 28 #[.pointer (some ⟨p, 0, none⟩)] w fun e w' => ∃ q k, e = .returned (.slice (some ⟨q, 0, none⟩) B k) ∧ w.heap.size ≤ q ∧ B ≤ k ∧ RowAt w' q 107 (hdCs l) ∧ Below w.heap.size w w' := by
 have hb := below_alloc w (.cells #[] 107)
 have ho := World.ownsRow_lit (base := w.heap.size) (e := 107) (size := 3) w #[] 0 (Nat.le_refl _) (by unfold maxLen; omega) rfl
 have HC := LH (h.row.cells.below hb (Nat.le_refl _))
 have c2 : (w.alloc (.cells #[] 107)).cell? ⟨p, 2, none⟩ = some (.slice (some ⟨g, 0, none⟩) B c) := by rw [hb.cell (p := ⟨p, 2, none⟩) h.lt.1]; exact cell_of_row _ _ 2 _ _ _ h.head
 have HL : Hid ((hdCs l).length = B * 3) := LH (by rw [hdCs_length, h.len, Nat.mul_comm])
 have HO := LH ho
 have HB := LH hb
 have hone : Hid (∀ u ∈ hdCs l, u.oneCell' = true) := LH (hdCs_one l)
 have hbase := LH hb.size
 have hn9 : 0 + B < 1000000000000 := by omega
 clear hb ho h
 go_enter Tryz.func28, Tryz.ntmps28
 go_wp2_with (at_builtin; refine wpList_append_cells elHd HO.out HC.out HL.out hone.out hn9 (by decide) hbase.out rfl rfl rfl rfl ?_; intro v2 w2 ho2 hg2 hv2; have HO2 := LH ho2; have HG2 := LH hg2; have HV2 := LH hv2; clear ho2 hg2 hv2)
 go_ret
 have h2 := HO2.out
 rw [Nat.zero_add] at h2
 obtain ⟨q, k, rfl, h3, h4, h5, h6⟩ := owned_new h2 (fun e => by have := (HV2.out e).1; simp at this)
 exact ⟨q, k, rfl, h3, h4, by simpa using h6, below_grownBy HB.out HO.out HG2.out (Nat.le_refl _) (Nat.le_refl _)⟩
structure MF where
 m : Nat
 t : Nat
 g : Nat
 c : Nat
 F : Foot
 T : Tri
def MF.list (X : MF) : List Nat := X.m :: X.t :: X.T.p :: X.g :: X.T.s :: X.T.e :: X.F.list
def MF.hot (X : MF) : List Nat := X.g :: X.T.s :: X.T.e :: X.F.list
structure Bm where
 dev : Dev
 list : List Hd
 free : List Bool
structure ManAt (w : World) (X : MF) (n B : Nat) (m : Bm) : Prop where
 head : w.heap[X.m]? = some (.cells #[.pointer (some ⟨X.t, 0, none⟩), .pointer (some ⟨X.T.p, 0, none⟩), .int .i64 (B : Int)] 87 (0, 0))
 tab : TabG w X.t X.g X.c X.F B m.list
 dev : DevAt w X.F m.dev
 ix : IxAt w X.T n m.free
 lenF : m.free.length = B
 nd : X.list.Nodup
theorem ManAt.mem {w : World} {X : MF} {n B : Nat} {m : Bm} (h : ManAt w X n B m) : ∀ k ∈ X.list, k < w.heap.size := by
 intro k hk
 have h1 := h.ix.mem
 simp only [Tri.list, List.mem_cons, List.not_mem_nil, or_false, forall_eq_or_imp, forall_eq] at h1
 simp only [MF.list, List.mem_cons] at hk
 rcases hk with rfl | rfl | rfl | rfl | rfl | rfl | hk
 ·exact (Array.getElem?_eq_some_iff.1 h.head).1
 ·exact h.tab.lt.1
 ·exact h1.1
 ·exact h.tab.lt.2
 ·exact h1.2.1
 ·exact h1.2.2
 ·exact h.dev.mem k hk
theorem ManAt.keep {w w' : World} {X : MF} {n B : Nat} {m : Bm} (h : ManAt w X n B m) (hk : ∀ k ∈ X.list, w'.heap[k]? = w.heap[k]?) : ManAt w' X n B m := by
 have e : ∀ k ∈ X.F.list, k ∈ X.list := fun k hk => by simp only [MF.list, List.mem_cons]; simp [hk]
 have e2 : ∀ k ∈ X.T.list, k ∈ X.list := fun k hk => by
  simp only [Tri.list, List.mem_cons, List.not_mem_nil, or_false] at hk
  simp only [MF.list, List.mem_cons]
  rcases hk with rfl | rfl | rfl <;> simp
 exact ⟨(hk X.m (by simp [MF.list])).trans h.head, h.tab.keep (hk X.t (by simp [MF.list])) (hk X.g (by simp [MF.list])), h.dev.keep (fun k hk' => hk k (e k hk')), h.ix.keep (fun k hk' => hk k (e2 k hk')), h.lenF, h.nd⟩
theorem ManAt.below {w w' : World} {X : MF} {n B : Nat} {m : Bm} (h : ManAt w X n B m) (hb : Below w.heap.size w w') : ManAt w' X n B m := h.keep (fun k hk => hb.block k (h.mem k hk))
theorem ManAt.mono {w : World} {X : MF} {n n' B : Nat} {m : Bm} (h : ManAt w X n B m) (hn : n ≤ n') : ManAt w X n' B m := by
 obtain ⟨M, E, h1, h2⟩ := h.ix
 exact { h with ix := ⟨M, E, h1.mono hn, h2⟩ }
structure MF.Apart (X : MF) : Prop where
 m : X.m ∉ X.hot
 t : X.t ∉ X.hot
 p : X.T.p ∉ X.hot
 g : X.g ∉ X.F.list
 gs : X.g ≠ X.T.s
 ge : X.g ≠ X.T.e
 s : X.T.s ∉ X.F.list
 e : X.T.e ∉ X.F.list
theorem MF.apart {X : MF} (h : X.list.Nodup) : X.Apart := by
 simp only [MF.list, List.nodup_cons, List.mem_cons, not_or] at h
 obtain ⟨⟨m1, m2, m3, m4, m5, m6⟩, ⟨t1, t2, t3, t4, t5⟩, ⟨p1, p2, p3, p4⟩, ⟨g1, g2, g3⟩, ⟨s1, s2⟩, e1, _⟩ := h
 refine ⟨?_, ?_, ?_, g3, g1, g2, s2, e1⟩
 all_goals simp only [MF.hot, List.mem_cons, not_or]
 ·exact ⟨m3, m4, m5, m6⟩
 ·exact ⟨t2, t3, t4, t5⟩
 ·exact ⟨p1, p2, p3, p4⟩
theorem MF.hot_sub {X : MF} {k : Nat} (h : k ∈ X.hot) : k ∈ X.list := by
 simp only [MF.hot, List.mem_cons] at h
 simp only [MF.list, List.mem_cons]
 rcases h with h | h | h | h <;> simp [h]
theorem MF.notHot {X : MF} {k : Nat} (h : k ∉ X.hot) : k ≠ X.g ∧ k ≠ X.T.s ∧ k ≠ X.T.e ∧ k ∉ X.F.list := by simpa only [MF.hot, List.mem_cons, not_or] using h
theorem ManAt.c0 {w : World} {X : MF} {n B : Nat} {m : Bm} (h : ManAt w X n B m) : w.cell? ⟨X.m, 0, none⟩ = some (.pointer (some ⟨X.t, 0, none⟩)) := cell_of_row _ _ 0 _ _ _ h.head
theorem ManAt.c1 {w : World} {X : MF} {n B : Nat} {m : Bm} (h : ManAt w X n B m) : w.cell? ⟨X.m, 1, none⟩ = some (.pointer (some ⟨X.T.p, 0, none⟩)) := cell_of_row _ _ 1 _ _ _ h.head
theorem ManAt.c2 {w : World} {X : MF} {n B : Nat} {m : Bm} (h : ManAt w X n B m) : w.cell? ⟨X.m, 2, none⟩ = some (.int .i64 (B : Int)) := cell_of_row _ _ 2 _ _ _ h.head
theorem splice_getD (l s : List Nat) (o i : Nat) (h : o + s.length ≤ l.length) : (splice l o s).getD i 0 = if o ≤ i ∧ i < o + s.length then s.getD (i - o) 0 else l.getD i 0 := by
 unfold splice
 simp only [List.getD_eq_getElem?_getD]
 by_cases h1 : i < o
 ·rw [if_neg (by omega), List.getElem?_append_left (by simp; omega), List.getElem?_take_of_lt h1]
 ·rw [List.getElem?_append_right (by simp; omega), show (l.take o).length = o by simp; omega]
  by_cases h2 : i < o + s.length
  ·rw [if_pos (by omega), List.getElem?_append_left (by omega)]
  ·rw [if_neg (by omega), List.getElem?_append_right (by omega), List.getElem?_drop, show o + s.length + (i - o - s.length) = i by omega]
theorem seg_getD (l : List Nat) (j i : Nat) (hi : 8 * j ≤ i) (h2 : i < 8 * j + 8) : (seg l j).getD (i - 8 * j) 0 = l.getD i 0 := by
 rw [List.getD_eq_getElem?_getD, seg_at l j (i - 8 * j) (by omega), show 8 * j + (i - 8 * j) = i by omega, ← List.getD_eq_getElem?_getD]
theorem seg_eq_iff (l m : List Nat) (j : Nat) (h1 : 8 * j + 8 ≤ l.length) (h2 : 8 * j + 8 ≤ m.length) : seg l j = seg m j ↔ ∀ i, 8 * j ≤ i → i < 8 * j + 8 → l.getD i 0 = m.getD i 0 := by
 constructor
 ·intro h i hi hi2
  rw [← seg_getD l j i hi hi2, ← seg_getD m j i hi hi2, h]
 ·intro h
  apply List.ext_getElem (by rw [seg_length l j h1, seg_length m j h2])
  intro i hi1 hi2
  rw [seg_length l j h1] at hi1
  have := h (8 * j + i) (by omega) (by omega)
  have e1 := seg_getD l j (8 * j + i) (by omega) (by omega)
  have e2 := seg_getD m j (8 * j + i) (by omega) (by omega)
  rw [show 8 * j + i - 8 * j = i by omega] at e1 e2
  rw [this, ← e2] at e1
  simpa [List.getD_eq_getElem?_getD, seg_length l j h1, seg_length m j h2, hi1] using e1
theorem splice_seg_getD (l s : List Nat) (j i : Nat) (h1 : 8 * j + 8 ≤ l.length) (h2 : 8 * j + 8 ≤ s.length) : (splice l (8 * j) (seg s j)).getD i 0 = if i / 8 = j then s.getD i 0 else l.getD i 0 := by
 have hl := seg_length s j h2
 rw [splice_getD _ _ _ _ (by rw [hl]; exact h1), hl]
 by_cases h : i / 8 = j
 ·rw [if_pos (by omega), if_pos h, seg_getD s j i (by omega) (by omega)]
 ·rw [if_neg (by omega), if_neg h]
theorem getD_setB (l : List Bool) (i j : Nat) (b : Bool) (hi : i < l.length) : (l.set i b).getD j false = if j = i then b else l.getD j false := by
 simp only [List.getD_eq_getElem?_getD]
 by_cases h : j = i
 ·subst h; rw [if_pos rfl, List.getElem?_set_self hi]; rfl
 ·rw [if_neg h, List.getElem?_set_ne (Ne.symm h)]
theorem getD_setN (l : List Nat) (i j x : Nat) (hi : i < l.length) : (l.set i x).getD j 0 = if j = i then x else l.getD j 0 := by
 simp only [List.getD_eq_getElem?_getD]
 by_cases h : j = i
 ·subst h; rw [if_pos rfl, List.getElem?_set_self hi]; rfl
 ·rw [if_neg h, List.getElem?_set_ne (Ne.symm h)]
structure Dev.inv (S : Dev) : Prop where
 wf : S.wf
 sound : ∀ j, S.dirty.getD (j / 8) false = false → S.lasting.getD j 0 = S.cache.getD j 0
 pend : ∀ l, S.pending.getD l false = true → S.dirty.getD l false = true
theorem Dev.step_wf {S : Dev} (h : S.wf) : S.step.wf := by
 unfold Dev.step
 split
 ·exact ⟨h.lenL, h.lenF, h.lenP, h.lenD, h.small, h.u64L, h.u64C, h.u64F⟩
 ·exact ⟨h.lenL, h.lenF, h.lenP, h.lenD, h.small, h.u64L, h.u64C, h.u64F⟩
theorem Dev.step_inv {S : Dev} (h : S.inv) : S.step.inv := by
 obtain ⟨e1, e2, e3, e4, e5⟩ := S.step_rest
 exact ⟨Dev.step_wf h.wf, by rw [e1, e2, e4]; exact h.sound, by rw [e5, e4]; exact h.pend⟩
theorem fresh_inv {ws : List Nat} {m : Nat} (h8 : ws.length = 8 * m) (hs : ws.length ≤ 1000000) (hu : ∀ z ∈ ws, z < 18446744073709551616) : (freshDev ws m).inv := by
 refine ⟨⟨rfl, by simp [freshDev], by simp [freshDev], by simpa [freshDev] using h8, hs, hu, hu, ?_⟩, fun j _ => rfl, fun l hl => ?_⟩
 ·intro z hz
  simp [freshDev] at hz
  omega
 ·exfalso
  simp [freshDev, List.getD_eq_getElem?_getD, List.getElem?_replicate] at hl
  split at hl <;> simp at hl
theorem Dev.put_inv {S : Dev} (h : S.inv) (i x : Nat) (hi : i < S.cache.length) (hx : x < 18446744073709551616) : (S.put i x).inv := by
 have hw := h.wf
 have hD := hw.lenD
 have hl : i / 8 < S.dirty.length := by omega
 refine ⟨⟨by simp [Dev.put, hw.lenL], by simp [Dev.put, hw.lenF], by simp [Dev.put, hw.lenP], by simp [Dev.put, hD], by simp [Dev.put, hw.small], hw.u64L, set_lt hw.u64C _ _ hx, hw.u64F⟩, fun j hj => ?_, fun l hl2 => ?_⟩
 ·simp only [Dev.put] at hj ⊢
  rw [getD_setB _ _ _ _ hl] at hj
  rw [getD_setN _ _ _ _ hi]
  split at hj
  ·cases hj
  ·rw [if_neg (by rintro rfl; simp at *)]
   exact h.sound j hj
 ·simp only [Dev.put] at hl2 ⊢
  rw [getD_setB _ _ _ _ hl]
  split
  ·rfl
  ·exact h.pend l hl2
theorem Dev.store_inv {S : Dev} (h : S.inv) (i : Int) (x : Nat) (hx : x < 18446744073709551616) : (S.store i x).inv := by
 unfold Dev.store
 split
 ·exact h
 ·split
  ·exact Dev.step_inv h
  ·exact Dev.put_inv (Dev.step_inv h) _ _ (by rw [(Dev.step_rest S).2.1]; omega) hx
theorem Dev.hold_inv {S : Dev} (h : S.inv) (j : Nat) (hj : j < S.dirty.length) : (S.hold j).inv := by
 have hw := h.wf
 have hD := hw.lenD
 unfold Dev.hold
 split
 ·rename_i hd
  have hs := seg_length S.cache j (by omega)
  refine ⟨⟨hw.lenL, by rw [length_splice _ _ _ (by rw [hs, hw.lenF]; omega)]; exact hw.lenF, by simp [hw.lenP], hD, hw.small, hw.u64L, hw.u64C, splice_lt _ hw.u64F (seg_lt _ hw.u64C)⟩, h.sound, fun l hl => ?_⟩
  dsimp only at hl ⊢
  rw [getD_setB _ _ _ _ (by rw [hw.lenP]; exact hj)] at hl
  split at hl
  ·rename_i e; rw [e]; exact hd
  ·exact h.pend l hl
 ·exact h
theorem Dev.flush_inv {S : Dev} (h : S.inv) (j : Int) : (S.flush j).inv := by
 unfold Dev.flush
 split
 ·exact h
 ·split
  ·exact Dev.step_inv h
  ·exact Dev.hold_inv (Dev.step_inv h) _ (by rw [(Dev.step_rest S).2.2.2.1]; omega)
theorem Dev.flushRun_inv {S : Dev} (h : S.inv) (a m : Nat) : (S.flushRun a m).dev.inv := by
 induction m with
 | zero => exact h
 | succ m ih =>
  unfold Dev.flushRun
  split
  ·exact ih
  ·exact Dev.flush_inv ih _
structure FenceAt (S : Dev) (k : Nat) (T : Dev) : Prop where
 cache : T.cache = S.cache
 flushed : T.flushed = S.flushed
 lenD : T.dirty.length = S.dirty.length
 lenP : T.pending.length = S.pending.length
 lenL : T.lasting.length = S.lasting.length
 pending : ∀ l, T.pending.getD l false = if l < k then false else S.pending.getD l false
 dirty : ∀ l, T.dirty.getD l false = if l < k ∧ S.pending.getD l false = true then !decide (seg S.flushed l = seg S.cache l) else S.dirty.getD l false
 lasting : ∀ j, T.lasting.getD j 0 = if j / 8 < k ∧ S.pending.getD (j / 8) false = true then S.flushed.getD j 0 else S.lasting.getD j 0
 u64 : ∀ z ∈ T.lasting, z < 18446744073709551616
theorem fenceTo_at {S : Dev} (h : S.wf) : ∀ k, k ≤ S.dirty.length → FenceAt S k (S.fenceTo k)
 | 0, _ => ⟨rfl, rfl, rfl, rfl, rfl, by simp [Dev.fenceTo], by simp [Dev.fenceTo], by simp [Dev.fenceTo], h.u64L⟩
 | k + 1, hk => by
  have i := fenceTo_at h k (by omega)
  have hD := h.lenD
  have hP := h.lenP
  have hL := h.lenL
  have hF := h.lenF
  unfold Dev.fenceTo
  generalize S.fenceTo k = T at *
  have hp : T.pending.getD k false = S.pending.getD k false := by rw [i.pending k, if_neg (by omega)]
  unfold Dev.settle
  rw [hp]
  cases hq : S.pending.getD k false
  ·simp only [Bool.false_eq_true, if_false]
   refine ⟨i.cache, i.flushed, i.lenD, i.lenP, i.lenL, fun l => ?_, fun l => ?_, fun j => ?_, i.u64⟩
   ·rw [i.pending l]
    by_cases e : l = k
    ·subst e; rw [if_neg (by omega), if_pos (by omega), hq]
    ·by_cases h1 : l < k
     ·rw [if_pos h1, if_pos (by omega)]
     ·rw [if_neg h1, if_neg (by omega)]
   ·rw [i.dirty l]
    by_cases e : l = k
    ·subst e; rw [if_neg (by omega), if_neg (by rw [hq]; simp)]
    ·by_cases h1 : l < k ∧ S.pending.getD l false = true
     ·rw [if_pos h1, if_pos ⟨by omega, h1.2⟩]
     ·rw [if_neg h1, if_neg (fun h2 => h1 ⟨by omega, h2.2⟩)]
   ·rw [i.lasting j]
    by_cases e : j / 8 = k
    ·rw [if_neg (by omega), if_neg (by rw [e, hq]; simp)]
    ·by_cases h1 : j / 8 < k ∧ S.pending.getD (j / 8) false = true
     ·rw [if_pos h1, if_pos ⟨by omega, h1.2⟩]
     ·rw [if_neg h1, if_neg (fun h2 => h1 ⟨by omega, h2.2⟩)]
  ·simp only [if_true]
   rw [i.flushed, i.cache]
   have hs := seg_length S.flushed k (by omega)
   have hlT : 8 * k + 8 ≤ T.lasting.length := by rw [i.lenL]; omega
   refine ⟨rfl, rfl, by simp [i.lenD], by simp [i.lenP], by rw [length_splice _ _ _ (by rw [hs]; exact hlT)]; exact i.lenL, fun l => ?_, fun l => ?_, fun j => ?_, splice_lt _ i.u64 (seg_lt _ h.u64F)⟩
   ·dsimp only
    rw [getD_setB _ _ _ _ (by rw [i.lenP]; omega), i.pending l]
    by_cases e : l = k
    ·subst e; rw [if_pos rfl, if_pos (by omega)]
    ·rw [if_neg e]
     by_cases h1 : l < k
     ·rw [if_pos h1, if_pos (by omega)]
     ·rw [if_neg h1, if_neg (by omega)]
   ·dsimp only
    rw [getD_setB _ _ _ _ (by rw [i.lenD]; omega), i.dirty l]
    by_cases e : l = k
    ·subst e; rw [if_pos rfl, if_pos ⟨by omega, hq⟩]
    ·rw [if_neg e]
     by_cases h1 : l < k ∧ S.pending.getD l false = true
     ·rw [if_pos h1, if_pos ⟨by omega, h1.2⟩]
     ·rw [if_neg h1, if_neg (fun h2 => h1 ⟨by omega, h2.2⟩)]
   ·dsimp only
    rw [splice_seg_getD _ _ _ _ hlT (by omega), i.lasting j]
    by_cases e : j / 8 = k
    ·rw [if_pos e, if_pos ⟨by omega, by rw [e]; exact hq⟩]
    ·rw [if_neg e]
     by_cases h1 : j / 8 < k ∧ S.pending.getD (j / 8) false = true
     ·rw [if_pos h1, if_pos ⟨by omega, h1.2⟩]
     ·rw [if_neg h1, if_neg (fun h2 => h1 ⟨by omega, h2.2⟩)]
theorem getD_false_of {l : List Bool} {i : Nat} (h : l.length ≤ i) : l.getD i false = false := by simp [List.getD_eq_getElem?_getD, List.getElem?_eq_none h]
theorem getD_zero_of {l : List Nat} {i : Nat} (h : l.length ≤ i) : l.getD i 0 = 0 := by simp [List.getD_eq_getElem?_getD, List.getElem?_eq_none h]
theorem Dev.fence_at {S : Dev} (h : S.wf) (hs : S.stop = false) : FenceAt S S.dirty.length S.fence := by
 unfold Dev.fence
 rw [hs]
 simp only [Bool.false_eq_true, if_false]
 obtain ⟨e1, e2, e3, e4, e5⟩ := S.step_rest
 have i := fenceTo_at (Dev.step_wf h) S.dirty.length (by rw [e4]; exact Nat.le_refl _)
 exact ⟨by rw [← e2]; exact i.cache, by rw [← e3]; exact i.flushed, by rw [← e4]; exact e4 ▸ i.lenD, by rw [← e5]; exact i.lenP, by rw [← e1]; exact i.lenL, by have := i.pending; rwa [e5] at this, by have := i.dirty; rwa [e5, e3, e2, e4] at this, by have := i.lasting; rwa [e5, e3, e1] at this, i.u64⟩
theorem Dev.fence_inv {S : Dev} (h : S.inv) : S.fence.inv := by
 by_cases hs : S.stop = true
 ·unfold Dev.fence; rw [hs]; exact Dev.step_inv h
 ·have i := Dev.fence_at h.wf (by simpa using hs)
  have hw := h.wf
  have hD := hw.lenD
  generalize S.fence = T at *
  refine ⟨⟨by rw [i.lenL, i.cache]; exact hw.lenL, by rw [i.flushed, i.cache]; exact hw.lenF, by rw [i.lenP, i.lenD]; exact hw.lenP, by rw [i.cache, i.lenD]; exact hD, by rw [i.cache]; exact hw.small, i.u64, by rw [i.cache]; exact hw.u64C, by rw [i.flushed]; exact hw.u64F⟩, fun j hj => ?_, fun l hl => ?_⟩
  ·rw [i.lasting j, i.cache]
   rw [i.dirty (j / 8)] at hj
   by_cases h1 : j / 8 < S.dirty.length ∧ S.pending.getD (j / 8) false = true
   ·rw [if_pos h1]
    rw [if_pos h1] at hj
    have : seg S.flushed (j / 8) = seg S.cache (j / 8) := by simpa using hj
    exact (seg_eq_iff _ _ _ (by rw [hw.lenF]; omega) (by omega)).1 this j (by omega) (by omega)
   ·rw [if_neg h1]
    rw [if_neg h1] at hj
    exact h.sound j hj
  ·rw [i.pending l] at hl
   by_cases h1 : l < S.dirty.length
   ·rw [if_pos h1] at hl; cases hl
   ·rw [getD_false_of (by rw [hw.lenP]; omega)] at hl
    simp at hl
theorem Dev.persist_inv {S : Dev} (h : S.inv) (p n : Int) : (S.persist p n).dev.inv := by
 unfold Dev.persist
 split
 ·exact h
 ·split
  ·unfold Dev.persistN
   split
   ·exact Dev.flushRun_inv h _ _
   ·exact Dev.fence_inv (Dev.flushRun_inv h _ _)
  ·exact Dev.fence_inv h
theorem settle_steps (S : Dev) (j : Nat) : (S.settle j).steps = S.steps ∧ (S.settle j).fuse = S.fuse := by
 unfold Dev.settle; split <;> exact ⟨rfl, rfl⟩
theorem fenceTo_steps (S : Dev) (k : Nat) : (S.fenceTo k).steps = S.steps ∧ (S.fenceTo k).fuse = S.fuse := by
 induction k with
 | zero => exact ⟨rfl, rfl⟩
 | succ k ih => have h := settle_steps (S.fenceTo k) k; exact ⟨h.1.trans ih.1, h.2.trans ih.2⟩
theorem Dev.fence_ok {S : Dev} {N : Nat} (h : S.ok N) : S.fence.ok (N + 1) := by
 unfold Dev.fence
 split
 ·exact Dev.step_ok h
 ·have := Dev.step_ok h
  have e := fenceTo_steps S.step S.dirty.length
  unfold Dev.ok at *
  rw [e.1, e.2]
  exact this
theorem Dev.persist_ok {S : Dev} (hw : S.wf) {N : Nat} (h : S.ok N) (p n : Int) : (S.persist p n).dev.ok (N + 200000) := by
 have hD := hw.lenD
 have hs := hw.small
 unfold Dev.persist
 split
 ·exact h.mono (by omega)
 ·split
  ·unfold Dev.persistN
   have hM : (((p : Int) + (n : Int) - 1) / 8 - (p : Int) / 8 + 1).toNat ≤ 150000 := by omega
   split
   ·exact (Dev.flushRun_ok h _ _).mono (by omega)
   ·exact (Dev.fence_ok (Dev.flushRun_ok h _ _)).mono (by omega)
  ·exact (Dev.fence_ok h).mono (by omega)
theorem settle_live {S : Dev} (h : S.live) (j : Nat) : (S.settle j).live := by
 unfold Dev.settle; split <;> exact h
theorem fenceTo_live {S : Dev} (h : S.live) (k : Nat) : (S.fenceTo k).live := by
 induction k with
 | zero => exact h
 | succ k ih => exact settle_live ih k
theorem Dev.live.fence {S : Dev} (h : S.live) : S.fence.live := by
 unfold Dev.fence
 rw [h.stop]
 exact fenceTo_live h.step _
theorem Dev.live.persist_live {S : Dev} (h : S.live) (p n : Nat) (hn : 0 < n) (hd : S.cache.length = 8 * S.dirty.length) (hp : p + n ≤ S.cache.length) : (S.persist p n).dev.live := by
 unfold Dev.persist
 rw [if_neg (by omega), if_pos (by omega)]
 unfold Dev.persistN
 obtain ⟨i1, i2, i3, i4⟩ := h.flushRun ((p : Int) / 8).toNat (((p : Int) + (n : Int) - 1) / 8 - (p : Int) / 8 + 1).toNat (by omega)
 rw [if_neg (by rw [i1]; simp)]
 exact i2.fence
theorem Dev.flushRun_held {S : Dev} (h : S.inv) (a : Nat) : ∀ m, (S.flushRun a m).err = 0 → (S.flushRun a m).dev.cache = S.cache ∧ (S.flushRun a m).dev.dirty = S.dirty ∧ (0 < m → a + m ≤ S.dirty.length) ∧
  ∀ l, a ≤ l → l < a + m → S.dirty.getD l false = true → (S.flushRun a m).dev.pending.getD l false = true ∧ seg (S.flushRun a m).dev.flushed l = seg S.cache l
 | 0, _ => ⟨rfl, rfl, fun h => absurd h (Nat.lt_irrefl _), fun l h1 h2 => by omega⟩
 | m + 1, he => by
  have hinv := Dev.flushRun_inv h a m
  unfold Dev.flushRun at he ⊢
  by_cases h0 : (S.flushRun a m).err ≠ 0
  ·rw [if_pos h0] at he
   exact absurd he h0
  ·rw [if_neg h0] at he ⊢
   obtain ⟨i1, i2, i3, i4⟩ := Dev.flushRun_held h a m (by simpa using h0)
   generalize (S.flushRun a m).dev = T at *
   dsimp only at he ⊢
   unfold Dev.flushE at he
   unfold Dev.flush
   by_cases c1 : ((a + m : Nat) : Int) < 0 ∨ (T.dirty.length : Int) ≤ ((a + m : Nat) : Int)
   ·rw [if_pos c1] at he; simp at he
   rw [if_neg c1] at he ⊢
   cases c2 : T.stop
   ·simp only [Bool.false_eq_true, if_false]
    obtain ⟨e1, e2, e3, e4, e5⟩ := T.step_rest
    rw [show ((a + m : Nat) : Int).toNat = a + m by omega]
    have hw := Dev.step_wf hinv.wf
    have hD := hw.lenD
    have hdl : T.dirty.length = S.dirty.length := by rw [i2]
    have hj : a + m < T.step.dirty.length := by rw [e4]; omega
    rw [← e4] at i2
    rw [← e2] at i1
    rw [← e5, ← e3] at i4
    generalize T.step = U at *
    refine ⟨by rw [(Dev.hold_len U _).1, i1], by rw [(Dev.hold_len U _).2, i2], fun _ => by rw [← i2]; omega, fun l h1 h2 hd => ?_⟩
    unfold Dev.hold
    by_cases hl : l = a + m
    ·subst hl
     rw [if_pos (by rw [i2]; exact hd)]
     dsimp only
     refine ⟨by rw [getD_setB _ _ _ _ (by rw [hw.lenP]; exact hj), if_pos rfl], ?_⟩
     rw [seg_splice _ _ _ (seg_length _ _ (by omega)) (by rw [hw.lenF]; omega), i1]
    ·have := i4 l h1 (by omega) hd
     have hll : l < U.dirty.length := by
      rcases Nat.lt_or_ge l U.dirty.length with h | h
      ·exact h
      ·rw [← i2, getD_false_of h] at hd; cases hd
     split
     ·dsimp only
      refine ⟨by rw [getD_setB _ _ _ _ (by rw [hw.lenP]; exact hj), if_neg hl]; exact this.1, ?_⟩
      rw [← this.2]
      have hs := seg_length U.cache (a + m) (by omega)
      refine (seg_eq_iff _ _ _ (by rw [length_splice _ _ _ (by rw [hs, hw.lenF]; omega), hw.lenF]; omega) (by rw [hw.lenF]; omega)).2 (fun i h3 h4 => ?_)
      rw [splice_seg_getD _ _ _ _ (by rw [hw.lenF]; omega) (by omega), if_neg (by omega)]
     ·exact this
   ·rw [c2] at he
    simp at he
theorem Dev.persist_clean {S : Dev} (h : S.inv) (p n : Nat) (hn : 0 < n) (he : (S.persist p n).err = 0) : (S.persist p n).dev.cache = S.cache ∧ p + n ≤ S.cache.length ∧ (S.persist p n).dev.dirty.length = S.dirty.length ∧
  (∀ j, p ≤ j → j < p + n → (S.persist p n).dev.dirty.getD (j / 8) false = false) ∧ ∀ l, S.dirty.getD l false = false → (S.persist p n).dev.dirty.getD l false = false := by
 unfold Dev.persist at he ⊢
 by_cases c1 : (p : Int) < 0 ∨ (n : Int) < 0 ∨ (S.cache.length : Int) < (p : Int) ∨ (S.cache.length : Int) - (p : Int) < (n : Int)
 ·rw [if_pos c1] at he; simp at he
 rw [if_neg c1, if_pos (by omega)] at he ⊢
 unfold Dev.persistN at he ⊢
 generalize hA : ((p : Int) / 8).toNat = A at *
 generalize hM : (((p : Int) + (n : Int) - 1) / 8 - (p : Int) / 8 + 1).toNat = M at *
 by_cases c2 : (S.flushRun A M).err ≠ 0
 ·rw [if_pos c2] at he; exact absurd he c2
 rw [if_neg c2] at he ⊢
 obtain ⟨i1, i2, i3, i4⟩ := Dev.flushRun_held h A M (by simpa using c2)
 have hinv := Dev.flushRun_inv h A M
 generalize (S.flushRun A M).dev = T at *
 dsimp only at he ⊢
 unfold Dev.fenceE at he
 cases c3 : T.stop
 ·have f := Dev.fence_at hinv.wf c3
  refine ⟨f.cache.trans i1, by omega, by rw [f.lenD, i2], fun j h1 h2 => ?_, fun l hl => ?_⟩
  ·rw [f.dirty, i2, i1]
   cases hd : S.dirty.getD (j / 8) false
   ·rw [if_neg]
    rintro ⟨_, hp⟩
    have := hinv.pend _ hp
    rw [i2, hd] at this
    cases this
   ·have := i4 (j / 8) (by omega) (by omega) hd
    have hl : j / 8 < S.dirty.length := by
     rcases Nat.lt_or_ge (j / 8) S.dirty.length with h | h
     ·exact h
     ·rw [getD_false_of h] at hd; cases hd
    rw [if_pos ⟨hl, this.1⟩, this.2]
    simp
  ·rw [f.dirty, i2, if_neg]
   ·exact hl
   ·rintro ⟨_, hp⟩
    have := hinv.pend _ hp
    rw [i2, hl] at this
    cases this
 ·rw [c3] at he
  simp at he
end
section
section
variable {P : Program} {C : World → Prop} {ops : Array Oper} {rest : List Oper} {o : Oper} {a : Act} {Q : Act → Prop}
theorem wpQuiet_slice_from {x lo : Operand} {t e : TypeId} {z : Value} {size bytes : Nat} (E : Elem P t e z size bytes) {ad : Option Addr} {n cap : Nat} {k : IntKind} {L : Int} (l : Nat)
  (hL : L = (l : Int)) (hl : l ≤ n) (hn : n ≤ cap)
  (hgd : o.guard = none) (ho : o.op = .slice t x (some lo) none none) (hx : a.eval x = .slice ad n cap) (hlo : a.eval lo = .int k L)
  (hK : wpQuiet P ops C Q rest (a.put o.dst (.slice (if cap = l then ad else ad.map (·.add (l * size))) (n - l) (cap - l)))) :
  wpQuiet P ops C Q (o :: rest) a := by
 subst hL
 have hw : Region.wanted o (yielded ops a.tmps) = true := by simp [Region.wanted, hgd]
 unfold wpQuiet
 rw [if_pos hw]
 refine ⟨_, fun w hC => ?_, hK⟩
 have hr := run_slice_any (w := w) E ad n cap l n (some (.int k l)) none (by
  have : (0 : Int) ≤ (l : Int) ∧ (l : Int) ≤ (n : Int) := by omega
  simp [Instr.sliceBounds, Instr.sliceBound, asIntOf, hl])
 unfold Oper.quietAt
 simp only [execOp, ho, hx, hlo, Option.map_some, Option.map_none]
 simp [hr, Result.andThen, Oper.quietUpon]
end
end
section
open Go.Maps
section
variable {P : Program} {C : World → Prop} {ops : Array Oper} {rest : List Oper} {o : Oper} {a : Act} {Q : Act → Prop}
end
end
section
theorem aggGe : Agg Tryz.prog 44 #[.int .i64 0] := ⟨⟨_, Tryz.underlying44, rfl⟩, by kernel_rfl⟩
theorem bgeom_any {w : World} {X : MF} {n B : Nat} {m : Bm} (h : ManAt w X n B m) :
  Calls Tryz.prog 115 #[.pointer (some ⟨X.m, 0, none⟩)] w fun e w' => e = .returned (vgeom (B : Int)) ∧ Below w.heap.size w w' := by
 have HM := LH (Mem.one w #[.int .i64 0] 44)
 have c2 := (h.below HM.out.below).c2
 clear h
 unfold vgeom
 go_enter Tryz.func115, Tryz.ntmps115
 go_upto_region 1 with fail
 generalize w.alloc _ = w0 at *
 obtain ⟨q, hq⟩ : ∃ q, q = w.heap.size := ⟨_, rfl⟩
 rw [← hq] at HM ⊢
 have HQ := LH hq
 clear hq
 go_wp2_with (refine wpList_store_mem aggGe HM.out 0 rfl rfl rfl rfl rfl rfl rfl rfl ?_; intro w9 h9 _; have H9 := LH h9; clear h9)
 refine bodyPost_ret (results_cell_row rfl _ _ _ _ _ _ _ rfl (H9.out.exact 0 rfl) Tryz.underlying44 rfl (by kernel_rfl)) rfl ⟨rfl, H9.out.below⟩
theorem bfree_any {w : World} {X : MF} {n B : Nat} {m : Bm} (h : ManAt w X n B m) (hB : B ≤ 1000) :
  Calls Tryz.prog 24 #[.pointer (some ⟨X.m, 0, none⟩)] w fun e w' => e = .returned (.int .i64 (sumOf (runsOf m.free) : Nat)) ∧ Below w.heap.size w w' := by
 have c1 := h.c1
 have HI := LH (total_any h.ix (by rw [h.lenF]; omega))
 clear h
 go_enter Tryz.func24, Tryz.ntmps24
 go_wp2_with fail
 refine HI.out.mono ?_
 rintro e w1 ⟨rfl, hb1⟩
 go_wp2_with fail
 go_ret
 exact ⟨rfl, hb1⟩
def Dev.ref (S : Dev) : RDev := ⟨S.cache, S.lasting, S.flushed, S.dirty, S.pending, S.steps, if S.armed = true then S.fuse else -1, S.dead⟩
structure Dev.fit (S : Dev) (N : Nat) : Prop where
 wf : S.wf
 ok : S.ok N
 arm : S.armed = true → 0 ≤ S.fuse
theorem Dev.fit_fuse {S : Dev} {N : Nat} (h : S.fit N) : -1 ≤ S.ref.fuse ∧ S.ref.fuse < 9223372036854775808 := by
 unfold Dev.ref
 dsimp only
 have := h.ok
 unfold Dev.ok at this
 split
 ·rename_i c; have := h.arm c; omega
 ·omega
structure ROpen (w : World) (S : Dev) (an al aw ad ap : Option Addr) (m : Nat) (sv fz : Int) (dd : Bool) : Prop where
 k1 : Cells w an (S.cache.map vu64)
 k2 : Cells w al (S.lasting.map vu64)
 k3 : Cells w aw (S.flushed.map vu64)
 k4 : Cells w ad (S.dirty.map Value.bool)
 k5 : Cells w ap (S.pending.map Value.bool)
 hm : m = S.dirty.length
 hs : sv = S.steps
 hf : fz = S.ref.fuse
 hd : dd = S.dead
 cl : S.cache.length = 8 * m
theorem ropen {w : World} {v : Value} {S : Dev} (h : RAt w v S.dirty.length S.ref) {N : Nat} (hf : S.fit N) :
  ∃ an cn al cl aw cw ad cd ap cp m sv fz dd, v = .agg #[.slice an m cn, .slice al m cl, .slice aw m cw, .slice ad m cd, .slice ap m cp, .int .i64 sv, .int .i64 fz, .bool dd] ∧ ROpen w S an al aw ad ap m sv fz dd ∧ S.dirty.length = m ∧ m ≤ 125000 ∧ (0 ≤ sv ∧ sv ≤ N) ∧ (-1 ≤ fz ∧ fz < 9223372036854775808) := by
 obtain ⟨an, cn, al, cl, aw, cw, ad, cd, ap, cp, rfl, k1, k2, k3, k4, k5⟩ := h.ex
 have h1 := hf.ok
 unfold Dev.ok at h1
 have h2 := hf.wf.small
 have h3 := hf.wf.lenD
 exact ⟨an, cn, al, cl, aw, cw, ad, cd, ap, cp, _, _, _, _, rfl, ⟨k1, k2, k3, k4, k5, rfl, rfl, rfl, rfl, h3⟩, rfl, by omega, ⟨h1.1, h1.2.1⟩, Dev.fit_fuse hf⟩
theorem run_eqItems_ints {P : Program} {e : TypeId} {k : IntKind} (he : P.underlying e = some (.int k)) (d : Nat) (w : World) (xs ys : List Int) :
  ∀ is : List Nat, (∀ i ∈ is, i < xs.length ∧ i < ys.length) → ∃ b, (Op.eqItems (d + 1) e 1 (xs.map (Value.int k)).toArray (ys.map (Value.int k)).toArray is).run P w = .ok b w ∧ (b = true ↔ ∀ i ∈ is, xs[i]? = ys[i]?)
 | [], _ => ⟨true, by simp [Op.eqItems], by simp⟩
 | i :: is, h => by
  obtain ⟨h1, h2⟩ := h i (by simp)
  obtain ⟨b, hb, hiff⟩ := run_eqItems_ints he d w xs ys is (fun j hj => h j (by simp [hj]))
  have hagg : (isAgg e).run P w = .ok false w := by unfold isAgg; rw [Sem.run_bind, run_underlying he w]; simp
  have hp : ∀ (zs : List Int) (hz : i < zs.length), (part e (zs.map (Value.int k)).toArray (i * 1)).run P w = .ok (.int k zs[i]) w := fun zs hz => by
   simp [part, hagg, hz]
  simp only [Op.eqItems, Sem.run_bind, hp xs h1, hp ys h2, Result.andThen_ok]
  rw [run_equalIn_int w d e k k _ _ he]
  simp only [Result.andThen_ok]
  by_cases hab : xs[i] = ys[i]
  ·have : (xs[i] == ys[i]) = true := by simpa using hab
   simp only [this, Bool.not_true, Bool.false_eq_true, if_false]
   refine ⟨b, hb, ?_⟩
   rw [hiff]
   simp [h1, h2, hab]
  ·have : (xs[i] == ys[i]) = false := by simpa using hab
   simp only [this, Bool.not_false, if_true, Sem.run_pure]
   refine ⟨false, rfl, ?_⟩
   simp [h1, h2, hab]
theorem cellsU64 : Tryz.prog.cellsOf 40 = 1 := by kernel_rfl
theorem infoU64 : (Tryz.prog.info? 40).isSome = true := by kernel_rfl
theorem dlines_any {w : World} {F : Foot} {S : Dev} (h : DevAt w F S) :
  Calls Tryz.prog 54 #[vdev F] w fun e w' => e = .returned (.int .i64 (S.dirty.length : Nat)) ∧ w = w' := by
 have c1 : w.cell? ⟨F.d, 3, none⟩ = some (.slice (some ⟨F.t, 0, none⟩) S.dirty.length F.ct) := cell_of_row _ _ 3 _ _ _ h.head
 clear h
 go_enter Tryz.func54, Tryz.ntmps54
 go_wp2_with fail
 go_ret
 exact ⟨rfl, rfl⟩
theorem dsteps_any {w : World} {F : Foot} {S : Dev} (h : DevAt w F S) :
  Calls Tryz.prog 20 #[vdev F] w fun e w' => e = .returned (.int .i64 S.steps) ∧ w = w' := by
 have c1 : w.cell? ⟨F.d, 5, none⟩ = some (.int .i64 S.steps) := cell_of_row _ _ 5 _ _ _ h.head
 clear h
 go_enter Tryz.func20, Tryz.ntmps20
 go_wp2_with fail
 go_ret
 exact ⟨rfl, rfl⟩
theorem ddead_any {w : World} {F : Foot} {S : Dev} (h : DevAt w F S) :
  Calls Tryz.prog 55 #[vdev F] w fun e w' => e = .returned (.bool S.dead) ∧ w = w' := by
 have c1 : w.cell? ⟨F.d, 8, none⟩ = some (.bool S.dead) := cell_of_row _ _ 8 _ _ _ h.head
 clear h
 go_enter Tryz.func55, Tryz.ntmps55
 go_wp2_with fail
 go_ret
 exact ⟨rfl, rfl⟩
theorem dall_any {w : World} {F : Foot} {S : Dev} (h : DevAt w F S) :
  Calls Tryz.prog 29 #[vdev F] w fun e w' => ∃ v, e = .returned v ∧ w'.ownsRow w.heap.size 40 1 v S.cache.length (S.lasting.map vu64) ∧ Below w.heap.size w w' := by
 have c1 : w.cell? ⟨F.d, 0, none⟩ = some (.slice (some ⟨F.l, 0, none⟩) S.cache.length F.cl) := cell_of_row _ _ 0 _ _ _ h.head
 have HL := LH h.lenL
 have HR := LH h.lasting
 have hsm := h.small
 clear h
 go_enter Tryz.func29, Tryz.ntmps29
 go_wp2_with fail
 refine (clone_any F.l 0 F.cl S.lasting HL.out w (fun i v hi => by rw [Nat.zero_add]; exact HR.out.cell hi) (by rw [HL.out]; exact hsm)).mono ?_
 rintro e w1 ⟨v, rfl, ho, hb, _⟩
 have HO := LH ho
 have HB := LH hb
 clear ho hb
 go_wp2_with fail
 go_ret
 exact ⟨v, rfl, HO.out, HB.out⟩
theorem rints_eq (a b : Option Addr) (n cap cap2 : Nat) (l : List Nat) (hn : l.length = n) (w : World) (hc : Cells w a (l.map vi)) (hc2 : Cells w b (l.map vi)) (hl : n ≤ 1000000000) :
  Calls Tryz.prog 25 #[.slice a n cap, .slice b n cap2] w fun e w' => e = .returned (.bool true) ∧ ∃ q, w' = w.drewN q := by
 have HN := LH hn
 have HC := LH hc
 have HC2 := LH hc2
 clear hn hc hc2
 have hne : (n != n) = false := by simp
 have hne2 : ((n : Int) != (n : Int)) = false := by simp
 go_enter Tryz.func25, Tryz.ntmps25
 go_wp2_with fail
 go_loopw [5] (fun i wr => ∃ k : Nat, k ≤ n ∧ i = .int .i64 k ∧ ∃ q, wr = w.drewN q) (fun i _ => n - (intOf i).toNat)
 case atStart => exact ⟨0, Nat.zero_le _, rfl, 0, rfl⟩
 case round =>
  obtain ⟨k, hk, rfl, q, rfl⟩ := hrel
  by_cases hlt : k < n
  ·have hlt' : (k : Int) < (n : Int) := by omega
   have hkl : k < l.length := by rw [HN.out]; exact hlt
   obtain ⟨b1, o1, rfl, _, h1⟩ := HC.out.atMap 0 hkl
   obtain ⟨b2, o2, rfl, _, h2⟩ := HC2.out.atMap 0 hkl
   have d0 := h1 k hkl
   have d1 := h2 k hkl
   clear h1 h2 hkl
   generalize l.getD k 0 = x at *
   have hx : ((x : Int) != (x : Int)) = false := by simp
   have hx2 : (x != x) = false := by simp
   go_wp2_with fail
   go_quiet (fail)
   go_wp2_with fail
   exact ⟨⟨k + 1, by omega, vint (by omega), _, rfl⟩, by simp [intOf]; omega⟩
  ·obtain rfl : k = n := by omega
   have hlt' : decide ((k : Int) < (k : Int)) = false := by simp
   go_wp2_with fail
   go_ret
   exact ⟨rfl, _, rfl⟩
theorem rsame_eq (a b : Option Addr) (n cap cap2 : Nat) (l : List Nat) (hn : l.length = n) (w : World) (hc : Cells w a (l.map vu64)) (hc2 : Cells w b (l.map vu64)) (hl : n ≤ 1000000000) :
  Calls Tryz.prog 30 #[.slice a n cap, .slice b n cap2] w fun e w' => e = .returned (.bool true) ∧ ∃ q, w' = w.drewN q := by
 have HN := LH hn
 have HC := LH hc
 have HC2 := LH hc2
 clear hn hc hc2
 have hne : (n != n) = false := by simp
 have hne2 : ((n : Int) != (n : Int)) = false := by simp
 go_enter Tryz.func30, Tryz.ntmps30
 go_wp2_with fail
 go_loopw [5] (fun i wr => ∃ k : Nat, k ≤ n ∧ i = .int .i64 k ∧ ∃ q, wr = w.drewN q) (fun i _ => n - (intOf i).toNat)
 case atStart => exact ⟨0, Nat.zero_le _, rfl, 0, rfl⟩
 case round =>
  obtain ⟨k, hk, rfl, q, rfl⟩ := hrel
  by_cases hlt : k < n
  ·have hlt' : (k : Int) < (n : Int) := by omega
   have hkl : k < l.length := by rw [HN.out]; exact hlt
   obtain ⟨b1, o1, rfl, _, h1⟩ := HC.out.atMap 0 hkl
   obtain ⟨b2, o2, rfl, _, h2⟩ := HC2.out.atMap 0 hkl
   have d0 := h1 k hkl
   have d1 := h2 k hkl
   clear h1 h2 hkl
   generalize l.getD k 0 = x at *
   have hx : ((x : Int) != (x : Int)) = false := by simp
   have hx2 : (x != x) = false := by simp
   go_wp2_with fail
   go_quiet (fail)
   go_wp2_with fail
   exact ⟨⟨k + 1, by omega, vint (by omega), _, rfl⟩, by simp [intOf]; omega⟩
  ·obtain rfl : k = n := by omega
   have hlt' : decide ((k : Int) < (k : Int)) = false := by simp
   go_wp2_with fail
   go_ret
   exact ⟨rfl, _, rfl⟩
theorem owned_base {w : World} {base B e size n : Nat} {v : Value} {xs : List Value} (h : w.ownsRow base e size v n xs) (hB : B ≤ base) : w.ownsRow B e size v n xs := by
 refine ⟨h.1, ?_⟩
 rcases h.2 with hn | ⟨g, cap, cur, hv, hb, r⟩
 ·exact .inl hn
 ·exact .inr ⟨g, cap, cur, hv, Nat.le_trans hB hb, r⟩
theorem rdirty_any {w : World} {v : Value} {S : Dev} {m : Nat} (hm : S.dirty.length = m) (h : RAt w v m S.ref) (hm8 : m ≤ 125000) :
  Calls Tryz.prog 57 #[v] w fun e w' => ∃ v', e = .returned v' ∧ w'.ownsRow w.heap.size 3 1 v' (dirtyL S.dirty m).length ((dirtyL S.dirty m).map vi) ∧ Below w.heap.size w w' := by
 obtain ⟨an, cn, al, cl, aw, cw, ad, cd, ap, cp, rfl, k1, k2, k3, k4, k5⟩ := h.ex
 have HK : Hid (Cells w ad (S.dirty.map Value.bool)) := LH k4
 clear h k1 k2 k3 k4 k5
 generalize S.ref.steps = sv at *
 generalize S.ref.fuse = fz at *
 generalize S.ref.dead = dd at *
 have HM := LH hm
 clear hm
 have HMm := LH (Mem.one w #[.slice an m cn, .slice al m cl, .slice aw m cw, .slice ad m cd, .slice ap m cp, .int .i64 sv, .int .i64 fz, .bool dd] 38)
 go_enter Tryz.func57, Tryz.ntmps57
 go_upto_region 1 with fail
 generalize w.alloc _ = w0 at *
 obtain ⟨q, hq⟩ : ∃ q, q = w.heap.size := ⟨_, rfl⟩
 rw [← hq] at HMm ⊢
 have HQ := LH hq
 clear hq
 go_wp2_with fail
 go_loopw [3, 4] (fun v i wr => ∃ k : Nat, k ≤ m ∧ i = .int .i64 k ∧ wr.ownsRow w0.heap.size 3 1 v (dirtyL S.dirty k).length ((dirtyL S.dirty k).map vi) ∧ Below w0.heap.size w0 wr) (fun _ i _ => m - (intOf i).toNat)
 case atStart => exact ⟨0, Nat.zero_le _, rfl, ⟨rfl, .inl ⟨rfl, rfl⟩⟩, Below.refl _ _⟩
 case round =>
  obtain ⟨k, hk, rfl, ho, hb⟩ := hrel
  obtain ⟨a1, c1', rfl, hc1, hm1⟩ := owned_form ho
  have hdl := dirtyL_len S.dirty k
  have c3 := (HMm.out.later hb).cell 0 3 rfl rfl
  have HO := LH ho
  have HB := LH hb
  clear ho hb
  by_cases hlt : k < m
  ·have hlt' : (k : Int) < (m : Int) := by omega
   have HS : Hid (dirtyL S.dirty (k + 1) = dirtyL S.dirty k ++ (if S.dirty.getD k false then [k] else [])) := LH rfl
   obtain ⟨b1, o1, rfl, _, hcs⟩ := (HK.out.below (HMm.out.later HB.out).below (Nat.le_refl _)).atMap false (show k < S.dirty.length by rw [HM.out]; exact hlt)
   have d0 := hcs k (by rw [HM.out]; exact hlt)
   clear hcs
   generalize hq : S.dirty.getD k false = bk at *
   cases bk
   ·clear hq
    go_wp2_with fail
    refine ⟨⟨k + 1, by omega, vint (by omega), ?_, HB.out⟩, by simp [intOf]; omega⟩
    rw [HS.out]
    simpa using HO.out
   ·have hone : Hid (∀ u ∈ (#[Value.int .i64 (k : Int)] : Array Value).toList, u.oneCell' = true) := LH (by intro u hu; simp at hu; subst hu; rfl)
    have hbase : Hid (w0.heap.size ≤ wr.heap.size) := LH HB.out.size
    have hk9 : Hid ((dirtyL S.dirty k).length < 1000000000000) := LH (by omega)
    clear hq hdl hc1 hm1
    generalize hz : (dirtyL S.dirty k).length = z at *
    have HZ := LH hz
    clear hz
    go_wp2_with (at_builtin; refine wpList_append_new (us := #[.int .i64 (k : Int)]) elInt HO.out rfl hone.out hk9.out (by decide) hbase.out rfl rfl rfl (by simp [Act.eval]) ?_; intro g6 c6 w6 ho6 hg6 hc6 hm6 hb6 hl6; have HO6 := LH ho6; have HG6 := LH hg6; clear ho6 hg6)
    refine ⟨⟨k + 1, by omega, vint (by omega), ?_, below_grownBy HB.out HO.out HG6.out (Nat.le_refl _) (Nat.le_refl _)⟩, by simp [intOf]; omega⟩
    rw [HS.out]
    simpa [HZ.out] using HO6.out
  ·obtain rfl : k = m := by omega
   have hlt' : decide ((k : Int) < (k : Int)) = false := by simp
   go_wp2_with fail
   go_ret
   exact ⟨_, rfl, owned_base HO.out HMm.out.below.size, HMm.out.below.trans (HB.out.mono HMm.out.below.size)⟩
theorem seg_cells {w : World} {b off : Nat} {l : List Nat} (h : Cells w (some ⟨b, off, none⟩) (l.map vu64)) (k : Nat) : Cells w (some ⟨b, off + k * 8, none⟩) ((seg l k).map vu64) := by
 have := (h.drop (8 * k)).take 8
 rw [Nat.mul_comm k 8]
 unfold seg
 rw [List.map_take, List.map_drop]
 exact this
theorem take_seg (l : List Nat) (k m : Nat) (hl : l.length = 8 * m) (hk : k < m) : l.take (8 * (k + 1)) = l.take (8 * k) ++ seg l k := by
 unfold seg
 rw [show 8 * (k + 1) = 8 * k + 8 by omega, List.take_add]
theorem rall_any (a : Option Addr) (m cap : Nat) (l : List Nat) (w : World) (hc : Cells w a (l.map vu64)) (hl : l.length = 8 * m) (hm8 : m ≤ 125000) :
  Calls Tryz.prog 58 #[.slice a m cap] w fun e w' => ∃ v, e = .returned v ∧ w'.ownsRow w.heap.size 40 1 v (8 * m) (l.map vu64) ∧ Below w.heap.size w w' := by
 have HC := LH hc
 have HL := LH hl
 clear hc hl
 go_enter Tryz.func58, Tryz.ntmps58
 go_wp2_with fail
 go_loopw [3, 4] (fun v i wr => ∃ k : Nat, k ≤ m ∧ i = .int .i64 k ∧ wr.ownsRow w.heap.size 40 1 v (8 * k) ((l.take (8 * k)).map vu64) ∧ Below w.heap.size w wr) (fun _ i _ => m - (intOf i).toNat)
 case atStart => exact ⟨0, Nat.zero_le _, rfl, ⟨rfl, .inl ⟨rfl, rfl⟩⟩, Below.refl _ _⟩
 case round =>
  obtain ⟨k, hk, rfl, ho, hb⟩ := hrel
  obtain ⟨a1, c1, rfl, hc1, hm1⟩ := owned_form ho
  have HO := LH ho
  have HB := LH hb
  clear ho hb
  by_cases hlt : k < m
  ·have hlt' : (k : Int) < (m : Int) := by omega
   have hlt8 : k * 8 < l.length := by rw [HL.out]; omega
   obtain ⟨b1, o1, rfl, hb1, _⟩ := (HC.out.below HB.out (Nat.le_refl _)).atMap 0 hlt8
   have HSeg := LH (seg_cells (HC.out.below HB.out (Nat.le_refl _)) k)
   have HSl : Hid (((seg l k).map vu64).length = 8 * 1) := LH (by rw [List.length_map, seg_length _ _ (by rw [HL.out]; omega)])
   have HT := LH (take_seg l k m HL.out hlt)
   have hone : Hid (∀ u ∈ (seg l k).map vu64, u.oneCell' = true) := LH (one_cells _)
   have hbase : Hid (w.heap.size ≤ wr.heap.size) := LH HB.out.size
   have hk9 : 8 * k + 8 < 1000000000000 := by omega
   clear hlt8 hc1 hm1
   go_wp2_with (at_builtin; refine wpList_append_cells (m := 8) (c := 8) el64 HO.out HSeg.out (by rw [HSl.out]) hone.out hk9 (by decide) hbase.out rfl rfl rfl rfl ?_; intro v6 w6 ho6 hg6 _; have HO6 := LH ho6; have HG6 := LH hg6; clear ho6 hg6)
   refine ⟨⟨k + 1, by omega, vint (by omega), ?_, below_grownBy HB.out HO.out HG6.out (Nat.le_refl _) (Nat.le_refl _)⟩, by simp [intOf]; omega⟩
   rw [HT.out, List.map_append]
   exact HO6.out
  ·obtain rfl : k = m := by omega
   have hlt' : decide ((k : Int) < (k : Int)) = false := by simp
   go_wp2_with fail
   go_ret
   refine ⟨_, rfl, ?_, HB.out⟩
   have := HO.out
   rwa [List.take_of_length_le (by rw [HL.out]; exact Nat.le_refl _)] at this
theorem dlasting_any {w : World} {F : Foot} {S : Dev} (h : DevAt w F S) (i : Int) :
  Calls Tryz.prog 60 #[vdev F, .int .i64 i] w fun e w' => e = .returned (vu64 (peek S.lasting i)) ∧ w = w' := by
 have c1 : w.cell? ⟨F.d, 0, none⟩ = some (.slice (some ⟨F.l, 0, none⟩) S.cache.length F.cl) := cell_of_row _ _ 0 _ _ _ h.head
 have hll := h.lenL
 have HR := LH h.lasting
 by_cases h0 : i < 0
 ·have HP : Hid (peek S.lasting i = 0) := LH (by unfold peek; rw [if_neg (by omega)])
  clear h hll
  go_enter Tryz.func60, Tryz.ntmps60
  go_wp2_with fail
  go_ret
  exact ⟨ret_int (by rw [HP.out]; rfl), rfl⟩
 obtain ⟨j, rfl⟩ := Int.eq_ofNat_of_zero_le (show 0 ≤ i by omega)
 by_cases h1 : j < S.cache.length
 ·have h1' : decide ((S.cache.length : Int) ≤ (j : Int)) = false := by simp; omega
  have h1n : decide (S.cache.length ≤ j) = false := by simp; omega
  have HP : Hid (peek S.lasting (j : Int) = S.lasting.getD j 0) := LH (by unfold peek; rw [if_pos (by omega)]; rfl)
  have d0 : w.cell? ⟨F.l, j, none⟩ = some (vu64 (S.lasting.getD j 0)) := HR.out.cell (by simp [show j < S.lasting.length by omega])
  clear h hll
  generalize S.lasting.getD j 0 = y at *
  go_enter Tryz.func60, Tryz.ntmps60
  go_wp2_with fail
  go_ret
  exact ⟨by rw [HP.out]; rfl, rfl⟩
 ·have h1' : (S.cache.length : Int) ≤ (j : Int) := by omega
  have h1n : S.cache.length ≤ j := by omega
  have HP : Hid (peek S.lasting (j : Int) = 0) := LH (by unfold peek; rw [if_pos (by omega)]; show S.lasting.getD j 0 = 0; exact getD_zero_of (by omega))
  clear h hll
  go_enter Tryz.func60, Tryz.ntmps60
  go_wp2_with fail
  go_ret
  exact ⟨ret_int (by rw [HP.out]; rfl), rfl⟩
theorem same3_like {w : World} {F : Foot} {v : Value} {S T : Dev} {m : Nat} (hm : S.dirty.length = m) (hd : DevAt w F S) (h : RAt w v m T.ref) (z1 : T.cache = S.cache) (z2 : T.lasting = S.lasting) (z3 : T.dirty = S.dirty) (z4 : T.steps = S.steps) (z5 : T.dead = S.dead) :
  Calls Tryz.prog 14 #[vdev F, v] w fun e w' => e = .returned (.bool true) ∧ Below w.heap.size w w' := by
 have hwf := hd.wf
 have hcl : S.cache.length = 8 * m := by have := hwf.lenD; rw [hm] at this; exact this
 have hm8 : m ≤ 125000 := by have := hwf.small; omega
 obtain ⟨an, cn, al, cl, aw, cw, ad, cd, ap, cp, rfl, k1, k2, k3, k4, k5⟩ := h.ex
 have HK1 : Hid (Cells w an (S.cache.map vu64)) := LH (by rw [← z1]; exact k1)
 have HK2 : Hid (Cells w al (S.lasting.map vu64)) := LH (by rw [← z2]; exact k2)
 have HLL : Hid (S.lasting.length = 8 * m) := LH (by rw [hwf.lenL]; exact hcl)
 have HRA := LH h
 clear k1 k2 k3 k4 k5 h hwf
 have HZ3 := LH z3
 rw [show T.ref.steps = S.steps from z4, show T.ref.dead = S.dead from z5] at *
 generalize hfz : T.ref.fuse = fz at *
 have HDSt := LH (fun W (h : DevAt W F S) => dsteps_any h)
 have HDDd := LH (fun W (h : DevAt W F S) => ddead_any h)
 generalize hsv : S.steps = sv at *
 generalize hdd : S.dead = dd at *
 have HD := LH hd
 have HMm := LH hm
 have HCL := LH hcl
 clear hfz hsv hdd hd hm hcl z1 z2 z3 z4 z5
 unfold vdev at *
 have HM := LH (Mem.one w #[.slice an m cn, .slice al m cl, .slice aw m cw, .slice ad m cd, .slice ap m cp, .int .i64 sv, .int .i64 fz, .bool dd] 38)
 go_enter Tryz.func14, Tryz.ntmps14
 go_upto_region 1 with fail
 generalize w.alloc _ = w0 at *
 obtain ⟨q, hq⟩ : ∃ q, q = w.heap.size := ⟨_, rfl⟩
 rw [← hq] at HM ⊢
 have HQ := LH hq
 clear hq
 have HD0 := LH (HD.out.below HM.out.below)
 have HRA0 := LH (HRA.out.below HM.out.below (Nat.le_refl _))
 have HK10 := LH (HK1.out.below HM.out.below (Nat.le_refl _))
 have HK20 := LH (HK2.out.below HM.out.below (Nat.le_refl _))
 have d0 := HM.out.cell 0 0 rfl rfl
 have d1 := HM.out.cell 0 1 rfl rfl
 have d2 := HM.out.cell 0 2 rfl rfl
 have d3 := HM.out.cell 0 3 rfl rfl
 have d4 := HM.out.cell 0 4 rfl rfl
 have d5 := HM.out.cell 0 5 rfl rfl
 have d6 := HM.out.cell 0 6 rfl rfl
 have d7 := HM.out.cell 0 7 rfl rfl
 have r0 := fun x => later_cell d0 x
 have r1 := fun x => later_cell d1 x
 have r2 := fun x => later_cell d2 x
 have r3 := fun x => later_cell d3 x
 have r4 := fun x => later_cell d4 x
 have r5 := fun x => later_cell d5 x
 have r6 := fun x => later_cell d6 x
 have r7 := fun x => later_cell d7 x
 clear d0 d1 d2 d3 d4 d5 d6 d7 HD HRA HK1 HK2
 have hn1 : (8 * (m : Int) != 8 * (m : Int)) = false := by simp
 have hn1' : (((8 * m : Nat) : Int) != 8 * (m : Int)) = false := by simp
 have hn2 : ((m : Int) != (m : Int)) = false := by simp
 have hn2' : (m != m) = false := by simp
 have hn3 : (sv != sv) = false := by simp
 have hn4 : (dd != dd) = false := by simp
 refine wp_region_seg (C := fun w' => ∃ x : Later (w0), w' = x.val) [.fl [0, 2, 3, 4, 5], .sq [1] true, .sq [6, 7] false, .fl [8, 10, 11, 12], .sq [9] true, .sq [13, 14, 15] false, .fl [16, 18, 19], .sq [17] true, .sq [20, 21, 22] false, .fl [23, 25, 26], .sq [24] true, .sq [27, 28, 29] false, .fl [30, 32], .sq [31] true, .sq [33, 34, 35, 36, 37] false, .fl [38, 40, 41], .sq [39] true, .sq [42, 43, 44, 45] false] (by kernel_rfl) (by kernel_rfl) (by intro c a d v w h; cases d <;> exact h) ?_
 simp only [segs, picks, List.getElem?_cons_succ, List.getElem?_cons_zero]
 have hC1 := later_drew (w0)
 refine wpSeg_fl hC1 ?_
 repeat (first | go_big_quiet_step (fail) | quiet_step (fail))
 refine wpQuiet_nil ?_
 refine wpSeg_sq (fun K hK => ?_)
 go_wp2_with fail
 refine (dlen_any (HD0.out.below (later_below hC1))).mono ?_
 rintro e w2 ⟨rfl, rfl⟩
 rw [HCL.out]
 go_wp2_with fail
 refine hK _ _ (fun _ => hC1) ?_
 clear hK K
 refine wpSeg_sq (fun K hK => ?_)
 go_wp2_with fail
 go_wp2_with fail
 refine hK _ _ (fun h => nomatch h) ?_
 clear hK K
 refine wpSeg_fl hC1 ?_
 repeat (first | go_big_quiet_step (fail) | quiet_step (fail))
 refine wpQuiet_nil ?_
 refine wpSeg_sq (fun K hK => ?_)
 go_wp2_with fail
 refine (dlines_any (HD0.out.below (later_below hC1))).mono ?_
 rintro e w2 ⟨rfl, rfl⟩
 rw [HMm.out]
 go_wp2_with fail
 refine hK _ _ (fun _ => hC1) ?_
 clear hK K
 refine wpSeg_sq (fun K hK => ?_)
 go_wp2_with fail
 go_wp2_with fail
 refine hK _ _ (fun h => nomatch h) ?_
 clear hK K
 refine wpSeg_fl hC1 ?_
 repeat (first | go_big_quiet_step (fail) | quiet_step (fail))
 refine wpQuiet_nil ?_
 refine wpSeg_sq (fun K hK => ?_)
 go_wp2_with fail
 refine (HDSt.out _ (HD0.out.below (later_below hC1))).mono ?_
 rintro e w2 ⟨rfl, rfl⟩
 go_wp2_with fail
 refine hK _ _ (fun _ => hC1) ?_
 clear hK K
 refine wpSeg_sq (fun K hK => ?_)
 go_wp2_with fail
 go_wp2_with fail
 refine hK _ _ (fun h => nomatch h) ?_
 clear hK K
 refine wpSeg_fl hC1 ?_
 repeat (first | go_big_quiet_step (fail) | quiet_step (fail))
 refine wpQuiet_nil ?_
 refine wpSeg_sq (fun K hK => ?_)
 go_wp2_with fail
 refine (HDDd.out _ (HD0.out.below (later_below hC1))).mono ?_
 rintro e w2 ⟨rfl, rfl⟩
 go_wp2_with fail
 refine hK _ _ (fun _ => hC1) ?_
 clear hK K
 refine wpSeg_sq (fun K hK => ?_)
 go_wp2_with fail
 go_wp2_with fail
 refine hK _ _ (fun h => nomatch h) ?_
 clear hK K
 refine wpSeg_fl hC1 ?_
 repeat (first | go_big_quiet_step (fail) | quiet_step (fail))
 refine wpQuiet_nil ?_
 refine wpSeg_sq (fun K hK => ?_)
 go_wp2_with fail
 refine (dirty_any (HD0.out.below (later_below hC1))).mono ?_
 rintro e w2 ⟨v2, rfl, ho2, hb2⟩
 obtain ⟨a2, c2, rfl, hc2, hm2⟩ := owned_form ho2
 have hC2 := later_step hC1 hb2
 rw [HMm.out] at ho2 ⊢
 have HO2 := LH (Cells.owned ho2)
 clear ho2 hb2 hc2 hm2
 go_wp2_with fail
 refine hK _ _ (fun _ => hC2) ?_
 clear hK K
 refine wpSeg_sq (fun K hK => ?_)
 go_wp2_with fail
 refine (rdirty_any (S := T) (by rw [HZ3.out]; exact HMm.out) (HRA0.out.below (later_below hC2) (Nat.le_refl _)) hm8).mono ?_
 rw [HZ3.out]
 rintro e w3 ⟨v3, rfl, ho3, hb3⟩
 obtain ⟨a3, c3, rfl, hc3, hm3⟩ := owned_form ho3
 have hC3 := later_step hC2 hb3
 have HO3 := LH (Cells.owned ho3)
 have HO2' := LH (HO2.out.below hb3 (Nat.le_refl _))
 have hdl : (dirtyL S.dirty m).length ≤ 1000000000 := by have := dirtyL_len S.dirty m; omega
 clear ho3 hb3 hc3 hm3
 go_wp2_with fail
 refine (rints_eq a2 a3 _ c2 c3 (dirtyL S.dirty m) rfl _ HO2'.out HO3.out hdl).mono ?_
 rintro e w4 ⟨rfl, q4, rfl⟩
 have hC4 := later_drewN hC3 q4
 clear HO2 HO3 HO2'
 go_wp2_with fail
 refine hK _ _ (fun h => nomatch h) ?_
 clear hK K
 refine wpSeg_fl hC4 ?_
 repeat (first | go_big_quiet_step (fail) | quiet_step (fail))
 refine wpQuiet_nil ?_
 refine wpSeg_sq (fun K hK => ?_)
 go_wp2_with fail
 refine (dall_any (HD0.out.below (later_below hC4))).mono ?_
 rintro e w5 ⟨v5, rfl, ho5, hb5⟩
 obtain ⟨a5, c5, rfl, hc5, hm5⟩ := owned_form ho5
 have hC5 := later_step hC4 hb5
 rw [HCL.out] at ho5 ⊢
 have HO5 := LH (Cells.owned ho5)
 clear ho5 hb5 hc5 hm5
 go_wp2_with fail
 refine hK _ _ (fun _ => hC5) ?_
 clear hK K
 refine wpSeg_last ?_
 go_wp2_with fail
 refine (rall_any al m cl S.lasting _ (HK20.out.below (later_below hC5) (Nat.le_refl _)) HLL.out hm8).mono ?_
 rintro e w6 ⟨v6, rfl, ho6, hb6⟩
 obtain ⟨a6, c6, rfl, hc6, hm6⟩ := owned_form ho6
 have hC6 := later_step hC5 hb6
 have HO6 := LH (Cells.owned ho6)
 have HO5' := LH (HO5.out.below hb6 (Nat.le_refl _))
 clear ho6 hb6 hc6 hm6
 go_wp2_with fail
 refine (rsame_eq a5 a6 (8 * m) c5 c6 S.lasting HLL.out _ HO5'.out HO6.out (by omega)).mono ?_
 rintro e w7 ⟨rfl, q7, rfl⟩
 have HB7 := LH (later_below (later_drewN hC6 q7))
 clear HO5 HO6 HO5' hC1 hC2 hC3 hC4 hC5 hC6 r0 r1 r2 r3 r4 r5 r6 r7
 generalize w6.drewN q7 = w8 at *
 go_wp2_with fail
 go_loopw [5] (fun i wr => ∃ k : Nat, k ≤ 8 * m ∧ i = .int .i64 k ∧ Below w0.heap.size w0 wr) (fun i _ => 8 * m - (intOf i).toNat)
 case atStart => exact ⟨0, Nat.zero_le _, rfl, HB7.out⟩
 case round =>
  obtain ⟨k, hk, rfl, hb⟩ := hrel
  have c0 := (HM.out.later hb).cell 0 0 rfl rfl
  have c1 := (HM.out.later hb).cell 0 1 rfl rfl
  have HB := LH hb
  clear hb
  by_cases hlt : k < 8 * m
  ·have hlt' : (k : Int) < 8 * (m : Int) := by omega
   have HDk := LH (HD0.out.below HB.out)
   have HK1k := LH (HK10.out.below HB.out (Nat.le_refl _))
   have HK2k := LH (HK20.out.below HB.out (Nat.le_refl _))
   have HGet := LH (fun W (h : DevAt W F S) => dget_any h (k : Int))
   have HLas := LH (fun W (h : DevAt W F S) => dlasting_any h (k : Int))
   have HRg1 := LH (fun W (h : Cells W an (S.cache.map vu64)) => rget_any an m cn S.cache W h HCL.out (by omega) (k : Int))
   have HRg2 := LH (fun W (h : Cells W al (S.lasting.map vu64)) => rget_any al m cl S.lasting W h HLL.out (by omega) (k : Int))
   generalize peek S.cache (k : Int) = x at *
   generalize peek S.lasting (k : Int) = y at *
   have hx1 : ((x : Int) != (x : Int)) = false := by simp
   have hx2 : (x != x) = false := by simp
   have hy1 : ((y : Int) != (y : Int)) = false := by simp
   have hy2 : (y != y) = false := by simp
   have r0 := fun x => later_cell c0 x
   have r1 := fun x => later_cell c1 x
   unfold vdev at HGet HLas
   clear HB7
   go_upto_region 6 with fail
   refine wp_region_seg (C := fun w' => ∃ x : Later (wr), w' = x.val) [.fl [0, 1, 3, 4, 5], .sq [2] true, .sq [6, 7, 8] false, .fl [9, 10, 12, 13, 14], .sq [11] true, .sq [15, 16, 17] false] (by kernel_rfl) (by kernel_rfl) (by intro c a d v w h; cases d <;> exact h) ?_
   simp only [segs, picks, List.getElem?_cons_succ, List.getElem?_cons_zero]
   have hC1 := later_drew (wr)
   refine wpSeg_fl hC1 ?_
   repeat (first | go_big_quiet_step (fail) | quiet_step (fail))
   refine wpQuiet_nil ?_
   refine wpSeg_sq (fun K hK => ?_)
   go_wp2_with fail
   refine (HGet.out _ (HDk.out.below (later_below hC1))).mono ?_
   rintro e w2 ⟨rfl, rfl⟩
   go_wp2_with fail
   refine hK _ _ (fun _ => hC1) ?_
   clear hK K
   refine wpSeg_sq (fun K hK => ?_)
   go_wp2_with fail
   refine (HRg1.out _ (HK1k.out.below (later_below hC1) (Nat.le_refl _))).mono ?_
   rintro e w2 ⟨rfl, rfl⟩
   go_wp2_with fail
   refine hK _ _ (fun h => nomatch h) ?_
   clear hK K
   refine wpSeg_fl hC1 ?_
   repeat (first | go_big_quiet_step (fail) | quiet_step (fail))
   refine wpQuiet_nil ?_
   refine wpSeg_sq (fun K hK => ?_)
   go_wp2_with fail
   refine (HLas.out _ (HDk.out.below (later_below hC1))).mono ?_
   rintro e w2 ⟨rfl, rfl⟩
   go_wp2_with fail
   refine hK _ _ (fun _ => hC1) ?_
   clear hK K
   refine wpSeg_last ?_
   go_wp2_with fail
   refine (HRg2.out _ (HK2k.out.below (later_below hC1) (Nat.le_refl _))).mono ?_
   rintro e w2 ⟨rfl, rfl⟩
   go_wp2_with fail
   exact ⟨⟨k + 1, by omega, vint (by omega), HB.out.trans ((later_below hC1).mono HB.out.size)⟩, by simp [intOf]; omega⟩
  ·obtain rfl : k = 8 * m := by omega
   have hlt' : decide (((8 * m : Nat) : Int) < 8 * (m : Int)) = false := by simp
   have hlt2 : decide (8 * (m : Int) < 8 * (m : Int)) = false := by simp
   go_wp2_with fail
   go_ret
   exact ⟨rfl, (HM.out.later HB.out).below⟩
theorem same3_any {w : World} {F : Foot} {v : Value} {S : Dev} {m : Nat} (hm : S.dirty.length = m) (hd : DevAt w F S) (h : RAt w v m S.ref) :
  Calls Tryz.prog 14 #[vdev F, v] w fun e w' => e = .returned (.bool true) ∧ Below w.heap.size w w' := same3_like hm hd h rfl rfl rfl rfl rfl
end
section
structure Clean (S : Dev) (B : Nat) : Prop where
 inv : S.inv
 fits : 256 + B ≤ S.cache.length
 clean : ∀ b, 1 ≤ b → b < B → S.dirty.getD ((256 + b) / 8) false = false
section
variable {S : Dev} {i : Nat} {V : Nat → Prop}
end
structure BmOk (B : Nat) (m : Bm) : Prop where
 lenL : m.list.length = B
 lenF : m.free.length = B
 clean : Clean m.dev B
 right : ∀ b, b < B → hdRight (m.list.getD b default).k (m.list.getD b default).c (m.list.getD b default).l = true
 word : ∀ b, 1 ≤ b → b < B → m.dev.cache.getD (256 + b) 0 = encN (b : Int) (m.list.getD b default).k (m.list.getD b default).c (m.list.getD b default).l
 free : ∀ b, fb m.free b = true ↔ 1 ≤ b ∧ b < B ∧ (m.list.getD b default).k = 0
 large : ∀ b, 1 ≤ b → b < B → (m.list.getD b default).k = 2 → (b : Int) + (m.list.getD b default).l ≤ B ∧ ∀ i : Nat, 1 ≤ i → (i : Int) < (m.list.getD b default).l → m.list.getD (b + i) default = ⟨3, 0, i⟩
variable {B : Nat} {m : Bm}
variable {B : Nat} {m : Bm}
variable {B : Nat} {m : Bm}
theorem hdGet_at (h : BmOk B m) {a : Nat} (a1 : 1 ≤ a) (a2 : a < B) : hdGet m.list (a : Int) = m.list.getD a default := by unfold hdGet; rw [if_neg (by rw [h.lenL]; omega)]; rfl
end
end Go.Proofs.YtpohaahihdhleaaGreat
