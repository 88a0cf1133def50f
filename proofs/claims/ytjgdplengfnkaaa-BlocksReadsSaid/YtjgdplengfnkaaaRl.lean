/- The reference's device: Load. -/
import Derived.Test.YtjgdplengfnkaaaAw
import Derived.Deep.Cut
namespace Go.Proofs.Ytjgdplengfnkaaa
open Go.RowKit

theorem elLine : Elem Try.prog 28 114 (.agg #[vu64 0, vu64 0, vu64 0, vu64 0, vu64 0, vu64 0, vu64 0, vu64 0]) 8 64 := Elem.mk' Try.underlying28 (by kernel_rfl) rfl (by decide)

/-- The state of the document's device. -/
structure RDev where
  now : List Nat
  last : List Nat
  wait : List Nat
  dirty : List Bool
  pending : List Bool
  steps : Int
  fuse : Int
  dead : Bool

structure RAt (w : World) (v : Value) (m : Nat) (R : RDev) : Prop where
  ex : ∃ an cn al cl aw cw ad cd ap cp, v = .agg #[.slice an m cn, .slice al m cl, .slice aw m cw, .slice ad m cd, .slice ap m cp, .int .i64 R.steps, .int .i64 R.fuse, .bool R.dead] ∧
    Cells w an (R.now.map vu64) ∧ Cells w al (R.last.map vu64) ∧ Cells w aw (R.wait.map vu64) ∧ Cells w ad (R.dirty.map Value.bool) ∧ Cells w ap (R.pending.map Value.bool)
  lenN : R.now.length = 8 * m
  lenL : R.last.length = 8 * m
  lenW : R.wait.length = 8 * m
  lenD : R.dirty.length = m
  lenP : R.pending.length = m
  u64N : ∀ z ∈ R.now, z < 18446744073709551616
  u64L : ∀ z ∈ R.last, z < 18446744073709551616
  u64W : ∀ z ∈ R.wait, z < 18446744073709551616

theorem RAt.below {w w' : World} {v : Value} {m B : Nat} {R : RDev} (h : RAt w v m R) (hb : Below B w w') (hB : w.heap.size ≤ B) : RAt w' v m R := by
  obtain ⟨an, cn, al, cl, aw, cw, ad, cd, ap, cp, rfl, h1, h2, h3, h4, h5⟩ := h.ex
  exact { h with ex := ⟨an, cn, al, cl, aw, cw, ad, cd, ap, cp, rfl, h1.below hb hB, h2.below hb hB, h3.below hb hB, h4.below hb hB, h5.below hb hB⟩ }

def freshR (ws : List Nat) (m : Nat) : RDev := ⟨ws, ws, List.replicate (8 * m) 0, List.replicate m false, List.replicate m false, 0, -1, false⟩

theorem pad_append (ws : List Nat) (k : Nat) (h : k % 8 = 0) (hk : k < ws.length) : (padTo (ws.take k) (8 * (k / 8))).map vu64 ++ [vu64 0, vu64 0, vu64 0, vu64 0, vu64 0, vu64 0, vu64 0, vu64 0] = (padTo (ws.take k) (8 * (k / 8 + 1))).map vu64 := by
  unfold padTo
  have : (ws.take k).length = k := by simp; omega
  rw [this, show 8 * (k / 8) - k = 0 by omega, show 8 * (k / 8 + 1) - k = 8 by omega]
  simp
theorem pad_set (ws : List Nat) (k m : Nat) (hk : k < ws.length) (hm : k < 8 * m) : ((padTo (ws.take k) (8 * m)).map vu64).set k (vu64 (ws.getD k 0)) = (padTo (ws.take (k + 1)) (8 * m)).map vu64 := by
  rw [← map_set_u64]
  congr 1
  unfold padTo
  have h1 : (ws.take k).length = k := by simp; omega
  have h2 : (ws.take (k + 1)).length = k + 1 := by simp; omega
  rw [h1, h2, List.set_append_right _ _ (by omega), h1, Nat.sub_self, List.take_succ_eq_append_getElem hk, show 8 * m - k = (8 * m - (k + 1)) + 1 by omega, List.replicate_succ, List.set_cons_zero, List.append_assoc]
  simp [hk]
theorem pad_length (ws : List Nat) (k m : Nat) (hk : k ≤ ws.length) (hm : k ≤ 8 * m) : (padTo (ws.take k) (8 * m)).length = 8 * m := by
  unfold padTo; simp; omega

def zeroD : Array Value := #[.slice none 0 0, .slice none 0 0, .slice none 0 0, .slice none 0 0, .slice none 0 0, .int .i64 0, .int .i64 0, .bool false]
theorem aggRd : Agg Try.prog 31 zeroD := ⟨⟨_, Try.underlying31, rfl⟩, by kernel_rfl⟩
/-- While a device is laid: its fields, and the result's place. -/
structure LdSt (w W : World) (f : Array Value) : Prop where
  at1 : W.heap[w.heap.size + 1]? = some (.cells f 31 (0, 0))
  at0 : W.heap[w.heap.size]? = some (.cells zeroD 31 (0, 0))
  below : Below w.heap.size w W
  size : w.heap.size + 2 ≤ W.heap.size
theorem LdSt.set {w W : World} {f : Array Value} (h : LdSt w W f) (j : Nat) (v : Value) : LdSt w (W.setCell ⟨w.heap.size + 1, j, none⟩ v) (f.setIfInBounds j v) :=
  ⟨heap_setCell_same _ _ _ _ _ _ h.at1, (Below.heap_setCell _ _ _ _ (by simp)).trans h.at0, h.below.setCell (by simp) _, by simp [World.setCell]; exact h.size⟩
theorem LdSt.grown {w W W' : World} {f : Array Value} (h : LdSt w W f) (hg : W.grownBy W' none) : LdSt w W' f := by
  have hb := below_grown hg (Nat.le_refl _)
  have := h.size
  exact ⟨(hb.block _ (by omega)).trans h.at1, (hb.block _ (by omega)).trans h.at0, h.below.trans (hb.mono h.below.size), Nat.le_trans h.size hb.size⟩
theorem LdSt.cell {w W : World} {f : Array Value} (h : LdSt w W f) (j : Nat) {v : Value} (hv : f[j]? = some v) : W.cell? ⟨w.heap.size + 1, j, none⟩ = some v := by
  rw [cell_of_row _ _ j _ _ _ h.at1]; exact hv
theorem LdSt.frozen {w W : World} {f : Array Value} (h : LdSt w W f) (j : Nat) : W.frozen? ⟨w.heap.size + 1, j, none⟩ = false := frozen_of_row _ _ _ _ _ h.at1
theorem owned_grown {w w' : World} {base e size n : Nat} {v : Value} {xs : List Value} (h : w.ownsRow base e size v n xs) (hg : w.grownBy w' none) : w'.ownsRow base e size v n xs := owned_below h (below_grown hg (Nat.le_refl _)) (Nat.le_refl _)

set_option maxHeartbeats 2000000 in
set_option maxRecDepth 100000 in
theorem rload_any (a : Option Addr) (n cap : Nat) (ws : List Nat) (hn : ws.length = n) (w : World) (hc : Cells w a (ws.map vu64)) (hl : n ≤ 100000) (hu : ∀ z ∈ ws, z < 18446744073709551616) :
    Calls Try.prog 10 #[.slice a n cap] w fun e w' => ∃ v, e = .returned v ∧ RAt w' v ((n + 7) / 8) (freshR (padTo ws (8 * ((n + 7) / 8))) ((n + 7) / 8)) ∧ Below w.heap.size w w' := by
  have HN := Lib.hid hn
  have HC := Lib.hid hc
  have HU := Lib.hid hu
  obtain ⟨w0, hw0⟩ : ∃ w0, w0 = (w.alloc (.cells #[.slice none 0 0, .slice none 0 0, .slice none 0 0, .slice none 0 0, .slice none 0 0, .int .i64 0, .int .i64 0, .bool false] 31)).alloc (.cells #[.slice none 0 0, .slice none 0 0, .slice none 0 0, .slice none 0 0, .slice none 0 0, .int .i64 0, .int .i64 0, .bool false] 31) := ⟨_, rfl⟩
  have hb0 : Below w.heap.size w w0 := by rw [hw0]; exact (below_alloc _ _).alloc (by simp) _
  have hg1 : w0.heap[w.heap.size + 1]? = some (.cells #[.slice none 0 0, .slice none 0 0, .slice none 0 0, .slice none 0 0, .slice none 0 0, .int .i64 0, .int .i64 0, .bool false] 31) := by
    rw [hw0]
    have := heap_alloc_new (w.alloc (.cells #[.slice none 0 0, .slice none 0 0, .slice none 0 0, .slice none 0 0, .slice none 0 0, .int .i64 0, .int .i64 0, .bool false] 31)) (.cells #[.slice none 0 0, .slice none 0 0, .slice none 0 0, .slice none 0 0, .slice none 0 0, .int .i64 0, .int .i64 0, .bool false] 31)
    simpa using this
  have hg0 : w0.heap[w.heap.size]? = some (.cells #[.slice none 0 0, .slice none 0 0, .slice none 0 0, .slice none 0 0, .slice none 0 0, .int .i64 0, .int .i64 0, .bool false] 31) := by
    rw [hw0, Below.heap_alloc _ _ _ (by simp)]
    exact heap_alloc_new _ _
  have HW0 := Lib.hid hw0
  have HB0 := Lib.hid hb0
  have HG0 := Lib.hid hg0
  have HG1 := Lib.hid hg1
  have hsz0 : Hid (w0.heap.size = w.heap.size + 2) := Lib.hid (by rw [hw0]; simp)
  clear hn hc hu hw0 hb0 hg0 hg1
  go_enter Try.func10, Try.ntmps10
  go_wp2_with fail
  rw [← HW0.out]
  go_loopw [4] (fun i wr => ∃ k : Nat, k ≤ n ∧ i = .int .i64 k ∧ ∃ v, wr.heap[w.heap.size + 1]? = some (.cells #[v, .slice none 0 0, .slice none 0 0, .slice none 0 0, .slice none 0 0, .int .i64 0, .int .i64 0, .bool false] 31) ∧ wr.heap[w.heap.size]? = some (.cells #[.slice none 0 0, .slice none 0 0, .slice none 0 0, .slice none 0 0, .slice none 0 0, .int .i64 0, .int .i64 0, .bool false] 31) ∧ wr.ownsRow (w.heap.size + 2) 114 8 v ((k + 7) / 8) ((padTo (ws.take k) (8 * ((k + 7) / 8))).map vu64) ∧ Below w.heap.size w wr ∧ w.heap.size + 2 ≤ wr.heap.size) (fun i _ => n - (intOf i).toNat)
  case atStart => exact ⟨0, Nat.zero_le _, rfl, _, HG1.out, HG0.out, ⟨rfl, .inl ⟨rfl, rfl⟩⟩, HB0.out, by rw [hsz0.out]; exact Nat.le_refl _⟩
  case round =>
    obtain ⟨k, hk, rfl, v, hv1, hv0, ho, hb, hsz⟩ := hrel
    by_cases hlt : k < n
    · have hlt' : (k : Int) < (n : Int) := by omega
      obtain ⟨b, off, rfl, hcs⟩ : ∃ b off, a = some ⟨b, off, none⟩ ∧ wr.cell? ⟨b, off + k, none⟩ = some (vu64 (ws.getD k 0)) := by
        obtain ⟨b, off, rfl, hb', hcs⟩ := (HC.out.below hb (Nat.le_refl _)).atMap 0 (show k < ws.length by rw [HN.out]; exact hlt)
        exact ⟨b, off, rfl, hcs k (by rw [HN.out]; exact hlt)⟩
      have HX : Hid (k < ws.length) := Lib.hid (by rw [HN.out]; exact hlt)
      obtain ⟨a1, c1, rfl, hc1, hm1⟩ := owned_form ho
      have e0 : wr.cell? ⟨w.heap.size + 1, 0, none⟩ = some (.slice a1 ((k + 7) / 8) c1) := cell_of_row _ _ 0 _ _ _ hv1
      have f0 : wr.frozen? ⟨w.heap.size + 1, 0, none⟩ = false := frozen_of_row _ _ _ _ _ hv1
      by_cases hz : k % 8 = 0
      · have hz1 : ((k : Int) % 8 == 0) = true := by simp; omega
        have hz2 : (k % 8 == 0) = true := by simpa using hz
        have HZ := Lib.hid hz
        have hm : (k + 7) / 8 = k / 8 := by omega
        rw [hm] at ho e0
        have HO := Lib.hid ho
        have HV1 := Lib.hid hv1
        have HV0 := Lib.hid hv0
        have HB := Lib.hid hb
        have hk9 : k / 8 < 1000000000000 := by omega
        have hone : Hid (∀ u ∈ (#[vu64 0, vu64 0, vu64 0, vu64 0, vu64 0, vu64 0, vu64 0, vu64 0] : Array Value).toList, u.oneCell' = true) := Lib.hid (by decide)
        have hbase := Lib.hid hsz
        clear ho hv1 hv0 hb hz hm hsz
        go_wp2_with (at_builtin; refine wpList_append_new (us := #[vu64 0, vu64 0, vu64 0, vu64 0, vu64 0, vu64 0, vu64 0, vu64 0]) elLine HO.out rfl hone.out hk9 (by decide) hbase.out rfl rfl rfl (by simp [Act.eval]) ?_; intro g6 c6 w6 ho6 hg6 hc6 hm6 hb6 hl6; have HO6 := Lib.hid ho6; have HG6 := Lib.hid hg6; have HH6 := Lib.hid (And.intro (grown_heap hg6 HO.out (by omega) HV1.out) (grown_heap hg6 HO.out (by omega) HV0.out)); have e6 := cell_of_row _ _ 0 _ _ _ HH6.out.1; have f6 : w6.frozen? ⟨w.heap.size + 1, 0, none⟩ = false := frozen_of_row _ _ _ _ _ HH6.out.1; clear ho6 hg6)
        rw [pad_append _ _ HZ.out HX.out] at HO6
        obtain ⟨hv17, hv07⟩ := HH6.out
        have hv1 := heap_setCell_same w6 (w.heap.size + 1) 0 _ _ (.slice (some ⟨g6, 0, none⟩) (k / 8 + 1) c6) hv17
        have hv0 : (w6.setCell ⟨w.heap.size + 1, 0, none⟩ (.slice (some ⟨g6, 0, none⟩) (k / 8 + 1) c6)).heap[w.heap.size]? = _ := (Below.heap_setCell _ _ _ _ (by simp)).trans hv07
        have hb7 : Below w.heap.size w (w6.setCell ⟨w.heap.size + 1, 0, none⟩ (.slice (some ⟨g6, 0, none⟩) (k / 8 + 1) c6)) := (below_grownBy HB.out HO.out HG6.out (Nat.le_refl _) (by omega)).setCell (by simp) _
        have ho7 := ownsRow_setCell_below HO6.out (a := ⟨w.heap.size + 1, 0, none⟩) (by simp) (.slice (some ⟨g6, 0, none⟩) (k / 8 + 1) c6)
        have hsz7 : w.heap.size + 2 ≤ (w6.setCell ⟨w.heap.size + 1, 0, none⟩ (.slice (some ⟨g6, 0, none⟩) (k / 8 + 1) c6)).heap.size := by simp [World.setCell]; omega
        generalize w6.setCell ⟨w.heap.size + 1, 0, none⟩ (.slice (some ⟨g6, 0, none⟩) (k / 8 + 1) c6) = w7 at *
        have E0 : w7.cell? ⟨w.heap.size + 1, 0, none⟩ = some (.slice (some ⟨g6, 0, none⟩) (k / 8 + 1) c6) := cell_of_row _ _ 0 _ _ _ hv1
        have CW : w7.cell? ⟨b, off + k, none⟩ = some (vu64 (ws.getD k 0)) := by
          obtain ⟨b', off', he, hb', hcs'⟩ := (HC.out.below hb7 (Nat.le_refl _)).atMap 0 HX.out
          simp at he
          obtain ⟨rfl, rfl⟩ := he
          exact hcs' k HX.out
        obtain ⟨xk, hxk⟩ : ∃ xk, xk = ws.getD k 0 := ⟨_, rfl⟩
        rw [← hxk] at CW
        have HXK := Lib.hid hxk
        have HO7 := Lib.hid ho7
        have HV1 := Lib.hid hv1
        have HV0 := Lib.hid hv0
        have HB7 := Lib.hid hb7
        clear ho7 hv1 hv0 hb7 HO6 HG6 hv17 hv07 HH6 e6 f6 HO HB hcs e0 f0 hxk
        have hM : k / 8 < k / 8 + 1 := by omega
        have f1 := fun x => later_cell E0 x
        have f2 := fun x => later_cell CW x
        have hq3 : 0 ≤ (k : Int) / 8 := by omega
        have hq4 : ((k : Int) / 8).toNat = k / 8 := by omega
        have hq5 : (k : Int) / 8 < (k : Int) / 8 + 1 := by omega
        have hq6 : 0 ≤ (k : Int) % 8 := by omega
        have hq7 : ((k : Int) % 8).toNat = k % 8 := by omega
        have hq8 : (k : Int) % 8 < 8 := by omega
        have hq9 : k % 8 < 8 := by omega
        have hq2 : (k : Int).tmod 8 = (k : Int) % 8 := Int.tmod_eq_emod_of_nonneg (by omega)
        have hq1 : IntKind.i64.wrap ((k : Int) / 8) = (k : Int) / 8 := IntWalk.i64_in _ (by omega)
        refine wp_region_later_tail 12 ?hn ?hm ?hB ?_
        case hn => exact Nat.le_of_ble_eq_true rfl
        case hm => kernel_rfl
        case hB => kernel_rfl
        simp only [List.take_succ_cons, List.take_zero, List.drop_succ_cons, List.drop_zero]
        repeat (quiet_step (fail))
        refine wpQuiet_nil ?_
        rintro w8 ⟨x, hx8⟩
        have hb8 : Below w7.heap.size w7 w8 := by rw [hx8]; exact x.below
        have ho8 := owned_below HO7.out hb8 (Nat.le_refl _)
        have hr8 := owned_row ho8
        have hl8 : k < ((padTo (ws.take k) (8 * (k / 8 + 1))).map vu64).length := by rw [List.length_map, pad_length _ _ _ (Nat.le_of_lt HX.out) (by omega)]; omega
        have e8 : w8.cell? ⟨g6, k / 8 * 8 + k % 8, none⟩ = some (((padTo (ws.take k) (8 * (k / 8 + 1))).map vu64)[k]'hl8) := by
          rw [show k / 8 * 8 + k % 8 = k by omega]; exact hr8.cell (List.getElem?_eq_getElem hl8)
        generalize (((padTo (ws.take k) (8 * (k / 8 + 1))).map vu64)[k]'hl8) = old at e8
        have f8 : w8.frozen? ⟨g6, k / 8 * 8 + k % 8, none⟩ = false := hr8.frozen _
        have hst := ho8.stored k (vu64 xk)
        rw [HXK.out, pad_set _ _ _ HX.out (by omega), ← HXK.out] at hst
        have HST := Lib.hid hst
        have HO8 := Lib.hid ho8
        have hgl : w.heap.size + 1 < w7.heap.size := by omega
        have hgg : w.heap.size + 2 ≤ g6 := by assumption
        have HV18 : Hid (w8.heap[w.heap.size + 1]? = _) := Lib.hid ((hb8.block _ hgl).trans HV1.out)
        have HV08 : Hid (w8.heap[w.heap.size]? = _) := Lib.hid ((hb8.block _ (by omega)).trans HV0.out)
        have HB8 : Hid (Below w.heap.size w w8) := Lib.hid (HB7.out.trans (hb8.mono HB7.out.size))
        have hs8 : w.heap.size + 2 ≤ w8.heap.size := by have := hb8.size; omega
        clear hx8 hb8 ho8 hr8 hl8 hst f1 f2 hq1 hq2 hq3 hq4 hq5 hq6 hq7 hq8 hq9 E0 CW x
        go_wp2_with fail
        refine ⟨⟨k + 1, by omega, vint (by omega), .slice (some ⟨g6, 0, none⟩) (k / 8 + 1) c6, ?_, ?_, ?_, ?_, ?_⟩, by simp [intOf]; omega⟩
        · exact (Below.heap_setCell _ _ _ _ (by simp; omega)).trans HV18.out
        · exact (Below.heap_setCell _ _ _ _ (by simp; omega)).trans HV08.out
        · rw [show (k + 1 + 7) / 8 = k / 8 + 1 by omega, show k / 8 * 8 + k % 8 = k by omega]; exact HST.out.1
        · exact HB8.out.setCell (by simp; omega) _
        · simp [World.setCell]; exact hs8
      · have hz1 : ((k : Int) % 8 == 0) = false := by simp; omega
        have hz2 : (k % 8 == 0) = false := by simpa using hz
        have hm : (k + 7) / 8 = k / 8 + 1 := by omega
        rw [hm] at ho e0
        obtain ⟨g6, c6, hge, hc6, hm6, hb6, hl6⟩ := owned_some ho (by omega)
        simp at hge
        obtain ⟨rfl, rfl⟩ := hge
        rw [hm] at hv1
        obtain ⟨xk, hxk⟩ : ∃ xk, xk = ws.getD k 0 := ⟨_, rfl⟩
        rw [← hxk] at hcs
        have HXK := Lib.hid hxk
        have E0 := e0
        have CW := hcs
        have HO7 := Lib.hid ho
        have HV1 := Lib.hid hv1
        have HV0 := Lib.hid hv0
        have HB7 := Lib.hid hb
        clear ho hv1 hv0 hb hz hm e0 hcs f0 hxk
        go_wp2_with fail
        have hM : k / 8 < k / 8 + 1 := by omega
        have f1 := fun x => later_cell E0 x
        have f2 := fun x => later_cell CW x
        have hq3 : 0 ≤ (k : Int) / 8 := by omega
        have hq4 : ((k : Int) / 8).toNat = k / 8 := by omega
        have hq5 : (k : Int) / 8 < (k : Int) / 8 + 1 := by omega
        have hq6 : 0 ≤ (k : Int) % 8 := by omega
        have hq7 : ((k : Int) % 8).toNat = k % 8 := by omega
        have hq8 : (k : Int) % 8 < 8 := by omega
        have hq9 : k % 8 < 8 := by omega
        have hq2 : (k : Int).tmod 8 = (k : Int) % 8 := Int.tmod_eq_emod_of_nonneg (by omega)
        have hq1 : IntKind.i64.wrap ((k : Int) / 8) = (k : Int) / 8 := IntWalk.i64_in _ (by omega)
        refine wp_region_later_tail 12 ?hn ?hm ?hB ?_
        case hn => exact Nat.le_of_ble_eq_true rfl
        case hm => kernel_rfl
        case hB => kernel_rfl
        simp only [List.take_succ_cons, List.take_zero, List.drop_succ_cons, List.drop_zero]
        repeat (quiet_step (fail))
        refine wpQuiet_nil ?_
        rintro w8 ⟨x, hx8⟩
        have hb8 : Below wr.heap.size wr w8 := by rw [hx8]; exact x.below
        have ho8 := owned_below HO7.out hb8 (Nat.le_refl _)
        have hr8 := owned_row ho8
        have hl8 : k < ((padTo (ws.take k) (8 * (k / 8 + 1))).map vu64).length := by rw [List.length_map, pad_length _ _ _ (Nat.le_of_lt HX.out) (by omega)]; omega
        have e8 : w8.cell? ⟨g6, k / 8 * 8 + k % 8, none⟩ = some (((padTo (ws.take k) (8 * (k / 8 + 1))).map vu64)[k]'hl8) := by
          rw [show k / 8 * 8 + k % 8 = k by omega]; exact hr8.cell (List.getElem?_eq_getElem hl8)
        generalize (((padTo (ws.take k) (8 * (k / 8 + 1))).map vu64)[k]'hl8) = old at e8
        have f8 : w8.frozen? ⟨g6, k / 8 * 8 + k % 8, none⟩ = false := hr8.frozen _
        have hst := ho8.stored k (vu64 xk)
        rw [HXK.out, pad_set _ _ _ HX.out (by omega), ← HXK.out] at hst
        have HST := Lib.hid hst
        have HO8 := Lib.hid ho8
        have hgl : w.heap.size + 1 < wr.heap.size := by omega
        have hgg : w.heap.size + 2 ≤ g6 := by assumption
        have HV18 : Hid (w8.heap[w.heap.size + 1]? = _) := Lib.hid ((hb8.block _ hgl).trans HV1.out)
        have HV08 : Hid (w8.heap[w.heap.size]? = _) := Lib.hid ((hb8.block _ (by omega)).trans HV0.out)
        have HB8 : Hid (Below w.heap.size w w8) := Lib.hid (HB7.out.trans (hb8.mono HB7.out.size))
        have hs8 : w.heap.size + 2 ≤ w8.heap.size := by have := hb8.size; omega
        clear hx8 hb8 ho8 hr8 hl8 hst f1 f2 hq1 hq2 hq3 hq4 hq5 hq6 hq7 hq8 hq9 E0 CW x
        go_wp2_with fail
        refine ⟨⟨k + 1, by omega, vint (by omega), .slice (some ⟨g6, 0, none⟩) (k / 8 + 1) c1, ?_, ?_, ?_, ?_, ?_⟩, by simp [intOf]; omega⟩
        · exact (Below.heap_setCell _ _ _ _ (by simp; omega)).trans HV18.out
        · exact (Below.heap_setCell _ _ _ _ (by simp; omega)).trans HV08.out
        · rw [show (k + 1 + 7) / 8 = k / 8 + 1 by omega, show k / 8 * 8 + k % 8 = k by omega]; exact HST.out.1
        · exact HB8.out.setCell (by simp; omega) _
        · simp [World.setCell]; exact hs8
    · obtain rfl : k = n := by omega
      have hlt' : decide ((k : Int) < (k : Int)) = false := by simp
      have hlt2 : decide (k < k) = false := by simp
      rw [List.take_of_length_le (by rw [HN.out]; exact Nat.le_refl _)] at ho
      have hlen : (padTo ws (8 * ((k + 7) / 8))).length = 8 * ((k + 7) / 8) := by
        have := pad_length ws k ((k + 7) / 8) (by rw [HN.out]; exact Nat.le_refl _) (by omega)
        rwa [List.take_of_length_le (by rw [HN.out]; exact Nat.le_refl _)] at this
      have hu2 : ∀ z ∈ padTo ws (8 * ((k + 7) / 8)), z < 18446744073709551616 := fun z hz => by
        simp only [padTo, List.mem_append, List.mem_replicate] at hz
        rcases hz with hz | ⟨_, rfl⟩
        · exact HU.out z hz
        · decide
      have hMb : (k + 7) / 8 ≤ 20000 := by omega
      obtain ⟨M, hMe⟩ : ∃ M, M = (k + 7) / 8 := ⟨_, rfl⟩
      rw [← hMe] at ho hlen hu2 hMb
      obtain ⟨L, hLe⟩ : ∃ L, L = padTo ws (8 * M) := ⟨_, rfl⟩
      rw [← hLe] at ho hlen hu2
      have HRe : Hid (freshR (padTo ws (8 * ((k + 7) / 8))) ((k + 7) / 8) = freshR L M ∧ (k + 7) / 8 = M) := Lib.hid (by rw [← hMe, hLe]; exact ⟨rfl, rfl⟩)
      clear hMe hLe
      have HL := Lib.hid hlen
      have HU2 := Lib.hid hu2
      obtain ⟨a1, c1, rfl, hc1, hm1⟩ := owned_form ho
      have e0 : wr.cell? ⟨w.heap.size + 1, 0, none⟩ = some (.slice a1 M c1) := cell_of_row _ _ 0 _ _ _ hv1
      have e1 : wr.cell? ⟨w.heap.size + 1, 1, none⟩ = some (.slice none 0 0) := cell_of_row _ _ 1 _ _ _ hv1
      have HO := Lib.hid ho
      have HV1 := Lib.hid hv1
      have HV0 := Lib.hid hv0
      have HB := Lib.hid hb
      have hone : Hid (∀ u ∈ L.map vu64, u.oneCell' = true) := Lib.hid (one_cells _)
      have hM9 : 0 + M < 1000000000000 := by omega
      have hbase := Lib.hid hsz
      have hnil : Hid (wr.ownsRow (w.heap.size + 2) 114 8 (.slice none 0 0) 0 []) := Lib.hid ⟨rfl, .inl ⟨rfl, rfl⟩⟩
      clear ho hv1 hv0 hb hlen hu2 hsz
      go_upto_region 9 with (at_builtin; refine wpList_append_rows elLine hnil.out HO.out hone.out hM9 (by decide) hbase.out rfl rfl rfl rfl ?_; intro v2 w2 ho2 hg2; rw [Nat.zero_add, List.nil_append] at ho2; obtain ⟨a2, c2, rfl, hc2, hm2⟩ := owned_form ho2; have HO2 := Lib.hid ho2; have HG2 := Lib.hid hg2; have HH2 := Lib.hid (And.intro (grown_heap hg2 hnil.out (by omega) HV1.out) (grown_heap hg2 hnil.out (by omega) HV0.out)); have e2 := cell_of_row _ _ 1 _ _ _ HH2.out.1; have f2 : w2.frozen? ⟨w.heap.size + 1, 1, none⟩ = false := frozen_of_row _ _ _ _ _ HH2.out.1; clear ho2 hg2)
      have st2 : LdSt w w2 _ := ⟨HH2.out.1, HH2.out.2, below_grownBy HB.out hnil.out HG2.out (Nat.le_refl _) (by omega), Nat.le_trans hbase.out HG2.out.size⟩
      have st := st2.set 1 (.slice a2 M c2)
      have hN := ownsRow_setCell_below (owned_grown HO.out HG2.out) (a := ⟨w.heap.size + 1, 1, none⟩) (by simp) (.slice a2 M c2)
      have hL := ownsRow_setCell_below HO2.out (a := ⟨w.heap.size + 1, 1, none⟩) (by simp) (.slice a2 M c2)
      generalize w2.setCell ⟨w.heap.size + 1, 1, none⟩ (.slice a2 M c2) = W2 at *
      have ST := Lib.hid st
      have HNo := Lib.hid hN
      have HLa := Lib.hid hL
      have e0' : W2.cell? ⟨w.heap.size + 1, 0, none⟩ = some (.slice a1 M c1) := st.cell 0 rfl
      have hb2 := Lib.hid st.size
      have hM8 : M < 1000000000000 := by omega
      have hz8 : Hid (∀ i, i < (#[vu64 0, vu64 0, vu64 0, vu64 0, vu64 0, vu64 0, vu64 0, vu64 0] : Array Value).size → (#[vu64 0, vu64 0, vu64 0, vu64 0, vu64 0, vu64 0, vu64 0, vu64 0] : Array Value)[i]? = some (vu64 0)) := Lib.hid (by intro i hi; simp at hi; rcases i with _ | _ | _ | _ | _ | _ | _ | _ | i <;> first | rfl | omega)
      clear st2 st hN hL e0 e1 e2 f2 HH2 HG2 HO2 HO HV1 HV0 HB hnil hbase
      go_upto_region 10 with (at_make; refine wpList_make_rows elLine (w.heap.size + 2) M (z := vu64 0) hz8.out rfl rfl hM8 (by decide) hb2.out rfl rfl rfl rfl ?_; intro w3 ho3 hg3; have S3 := Lib.hid (ST.out.grown hg3); have HO3 := Lib.hid ho3; have HG3 := Lib.hid hg3; have e3 : w3.cell? ⟨w.heap.size + 1, 2, none⟩ = some _ := S3.out.cell 2 rfl; have f3 := S3.out.frozen 2; clear ho3 hg3)
      have st := S3.out.set 2 (.slice (some ⟨W2.heap.size, 0, none⟩) M M)
      have hN := ownsRow_setCell_below (owned_grown HNo.out HG3.out) (a := ⟨w.heap.size + 1, 2, none⟩) (by simp) (.slice (some ⟨W2.heap.size, 0, none⟩) M M)
      have hL := ownsRow_setCell_below (owned_grown HLa.out HG3.out) (a := ⟨w.heap.size + 1, 2, none⟩) (by simp) (.slice (some ⟨W2.heap.size, 0, none⟩) M M)
      have hW := ownsRow_setCell_below HO3.out (a := ⟨w.heap.size + 1, 2, none⟩) (by simp) (.slice (some ⟨W2.heap.size, 0, none⟩) M M)
      generalize w3.setCell ⟨w.heap.size + 1, 2, none⟩ (.slice (some ⟨W2.heap.size, 0, none⟩) M M) = W3 at *
      clear ST HNo HLa e3 f3 e0' S3 HO3 HG3 hb2
      generalize W2.heap.size = g3 at *
      have ST := Lib.hid st
      have HNo := Lib.hid hN
      have HLa := Lib.hid hL
      have HWa := Lib.hid hW
      have e0' : W3.cell? ⟨w.heap.size + 1, 0, none⟩ = some (.slice a1 M c1) := st.cell 0 rfl
      have hb3 := Lib.hid st.size
      clear st hN hL hW
      go_upto_region 11 with (at_make; refine wpList_make_len elBool (w.heap.size + 2) M rfl rfl rfl hM8 (by decide) hb3.out rfl rfl rfl rfl ?_; intro w4 ho4 hg4; have S4 := Lib.hid (ST.out.grown hg4); have HO4 := Lib.hid ho4; have HG4 := Lib.hid hg4; have e4 : w4.cell? ⟨w.heap.size + 1, 3, none⟩ = some _ := S4.out.cell 3 rfl; have f4 := S4.out.frozen 3; clear ho4 hg4)
      have st := S4.out.set 3 (.slice (some ⟨W3.heap.size, 0, none⟩) M M)
      have lHNo := ownsRow_setCell_below (owned_grown HNo.out HG4.out) (a := ⟨w.heap.size + 1, 3, none⟩) (by simp) (.slice (some ⟨W3.heap.size, 0, none⟩) M M)
      have lHLa := ownsRow_setCell_below (owned_grown HLa.out HG4.out) (a := ⟨w.heap.size + 1, 3, none⟩) (by simp) (.slice (some ⟨W3.heap.size, 0, none⟩) M M)
      have lHWa := ownsRow_setCell_below (owned_grown HWa.out HG4.out) (a := ⟨w.heap.size + 1, 3, none⟩) (by simp) (.slice (some ⟨W3.heap.size, 0, none⟩) M M)
      have lnew := ownsRow_setCell_below HO4.out (a := ⟨w.heap.size + 1, 3, none⟩) (by simp) (.slice (some ⟨W3.heap.size, 0, none⟩) M M)
      generalize w4.setCell ⟨w.heap.size + 1, 3, none⟩ (.slice (some ⟨W3.heap.size, 0, none⟩) M M) = W4 at *
      clear ST HNo HLa HWa e4 f4 e0' S4 HO4 HG4 hb3
      generalize W3.heap.size = g4 at *
      have ST := Lib.hid st
      have HNo := Lib.hid lHNo
      have HLa := Lib.hid lHLa
      have HWa := Lib.hid lHWa
      have HDi := Lib.hid lnew
      have e0' : W4.cell? ⟨w.heap.size + 1, 0, none⟩ = some (.slice a1 M c1) := st.cell 0 rfl
      have hb4 := Lib.hid st.size
      clear st lHNo lHLa lHWa lnew
      go_upto_region 12 with (at_make; refine wpList_make_len elBool (w.heap.size + 2) M rfl rfl rfl hM8 (by decide) hb4.out rfl rfl rfl rfl ?_; intro w5 ho5 hg5; have S5 := Lib.hid (ST.out.grown hg5); have HO5 := Lib.hid ho5; have HG5 := Lib.hid hg5; have e5 : w5.cell? ⟨w.heap.size + 1, 4, none⟩ = some _ := S5.out.cell 4 rfl; have f5 := S5.out.frozen 4; clear ho5 hg5)
      have st := S5.out.set 4 (.slice (some ⟨W4.heap.size, 0, none⟩) M M)
      have lHNo := ownsRow_setCell_below (owned_grown HNo.out HG5.out) (a := ⟨w.heap.size + 1, 4, none⟩) (by simp) (.slice (some ⟨W4.heap.size, 0, none⟩) M M)
      have lHLa := ownsRow_setCell_below (owned_grown HLa.out HG5.out) (a := ⟨w.heap.size + 1, 4, none⟩) (by simp) (.slice (some ⟨W4.heap.size, 0, none⟩) M M)
      have lHWa := ownsRow_setCell_below (owned_grown HWa.out HG5.out) (a := ⟨w.heap.size + 1, 4, none⟩) (by simp) (.slice (some ⟨W4.heap.size, 0, none⟩) M M)
      have lHDi := ownsRow_setCell_below (owned_grown HDi.out HG5.out) (a := ⟨w.heap.size + 1, 4, none⟩) (by simp) (.slice (some ⟨W4.heap.size, 0, none⟩) M M)
      have lnew := ownsRow_setCell_below HO5.out (a := ⟨w.heap.size + 1, 4, none⟩) (by simp) (.slice (some ⟨W4.heap.size, 0, none⟩) M M)
      generalize w5.setCell ⟨w.heap.size + 1, 4, none⟩ (.slice (some ⟨W4.heap.size, 0, none⟩) M M) = W5 at *
      clear ST HNo HLa HWa HDi e5 f5 e0' S5 HO5 HG5 hb4
      generalize W4.heap.size = g5 at *
      have ST := Lib.hid st
      have HNo := Lib.hid lHNo
      have HLa := Lib.hid lHLa
      have HWa := Lib.hid lHWa
      have HDi := Lib.hid lHDi
      have HPe := Lib.hid lnew
      have e0' : W5.cell? ⟨w.heap.size + 1, 0, none⟩ = some (.slice a1 M c1) := st.cell 0 rfl
      have hb5 := Lib.hid st.size
      clear st lHNo lHLa lHWa lHDi lnew
      have e6 : W5.cell? ⟨w.heap.size + 1, 6, none⟩ = some _ := ST.out.cell 6 rfl
      have f6 := ST.out.frozen 6
      go_upto_region 13 with fail
      have st := ST.out.set 6 (.int .i64 (-1))
      have lHNo := ownsRow_setCell_below HNo.out (a := ⟨w.heap.size + 1, 6, none⟩) (by simp) (.int .i64 (-1))
      have lHLa := ownsRow_setCell_below HLa.out (a := ⟨w.heap.size + 1, 6, none⟩) (by simp) (.int .i64 (-1))
      have lHWa := ownsRow_setCell_below HWa.out (a := ⟨w.heap.size + 1, 6, none⟩) (by simp) (.int .i64 (-1))
      have lHDi := ownsRow_setCell_below HDi.out (a := ⟨w.heap.size + 1, 6, none⟩) (by simp) (.int .i64 (-1))
      have lHPe := ownsRow_setCell_below HPe.out (a := ⟨w.heap.size + 1, 6, none⟩) (by simp) (.int .i64 (-1))
      generalize W5.setCell ⟨w.heap.size + 1, 6, none⟩ (.int .i64 (-1)) = W6 at *
      clear ST HNo HLa HWa HDi HPe e6 f6 e0' hb5
      have HNo := Lib.hid lHNo
      have HLa := Lib.hid lHLa
      have HWa := Lib.hid lHWa
      have HDi := Lib.hid lHDi
      have HPe := Lib.hid lHPe
      have hcs : Hid (∀ i v, [Value.slice a1 M c1, .slice a2 M c2, .slice (some ⟨g3, 0, none⟩) M M, .slice (some ⟨g4, 0, none⟩) M M, .slice (some ⟨g5, 0, none⟩) M M, .int .i64 0, .int .i64 (-1), .bool false][i]? = some v → W6.cell? ⟨w.heap.size + 1, 0 + i, none⟩ = some v) := Lib.hid (fun i v hi => by
        rw [Nat.zero_add]; exact st.cell i (by simpa using hi))
      have HA0 := Lib.hid st.at0
      have hone8 : Hid ((#[.slice a1 M c1, .slice a2 M c2, .slice (some ⟨g3, 0, none⟩) M M, .slice (some ⟨g4, 0, none⟩) M M, .slice (some ⟨g5, 0, none⟩) M M, .int .i64 0, .int .i64 (-1), .bool false] : Array Value).all (·.oneCell') = true) := Lib.hid (by simp [Value.oneCell'])
      have HBl := Lib.hid st.below
      have HSz := Lib.hid st.size
      clear st lHNo lHLa lHWa lHDi lHPe
      go_wp2_with (first
        | (refine wpList_load_part aggRd [Value.slice a1 M c1, .slice a2 M c2, .slice (some ⟨g3, 0, none⟩) M M, .slice (some ⟨g4, 0, none⟩) M M, .slice (some ⟨g5, 0, none⟩) M M, .int .i64 0, .int .i64 (-1), .bool false] hcs.out rfl rfl rfl rfl ?_)
        | (refine wpList_store_row aggRd (cs := #[.slice a1 M c1, .slice a2 M c2, .slice (some ⟨g3, 0, none⟩) M M, .slice (some ⟨g4, 0, none⟩) M M, .slice (some ⟨g5, 0, none⟩) M M, .int .i64 0, .int .i64 (-1), .bool false]) HA0.out rfl rfl hone8.out rfl rfl rfl rfl ?_; intro w9 h9 g9 s9; have H9 := Lib.hid h9; have G9 := Lib.hid g9; have S9 := Lib.hid s9; clear h9 g9 s9))
      have hk : ∀ {e size : Nat} {v : Value} {xs : List Value}, W6.ownsRow (w.heap.size + 2) e size v M xs → ∃ a c, v = .slice a M c ∧ Cells w9 a xs := fun {e size v xs} h => by
        obtain ⟨a, c, rfl, hcl⟩ := cells_of_owned h
        refine ⟨a, c, rfl, ?_⟩
        rcases h.2 with ⟨h0, h1⟩ | ⟨g, cap, cur, hv, hb, hg, _⟩
        · have := h.1
          rw [h1] at this
          simp at this
          exact .inl this
        · simp at hv
          obtain ⟨rfl, rfl⟩ := hv
          rcases hcl with h | ⟨b', off', he, h⟩
          · exact .inl h
          · simp at he
            obtain ⟨rfl, rfl⟩ := he
            refine .inr ⟨g, 0, rfl, fun i v hi => ?_⟩
            rw [World.cell?_of_block (w := W6) (G9.out.block g (Array.getElem?_eq_some_iff.1 hg).1 (by simp; omega))]
            exact h i v hi
      obtain ⟨_, _, q1, k1⟩ := hk HNo.out
      obtain ⟨_, _, q2, k2⟩ := hk HLa.out
      obtain ⟨_, _, q3, k3⟩ := hk HWa.out
      obtain ⟨_, _, q4, k4⟩ := hk HDi.out
      obtain ⟨_, _, q5, k5⟩ := hk HPe.out
      cases q1; cases q2; cases q3; cases q4; cases q5
      refine bodyPost_ret (v := .agg #[.slice a1 M c1, .slice a2 M c2, .slice (some ⟨g3, 0, none⟩) M M, .slice (some ⟨g4, 0, none⟩) M M, .slice (some ⟨g5, 0, none⟩) M M, .int .i64 0, .int .i64 (-1), .bool false]) (results_cell_row rfl _ _ _ _ _ _ _ rfl H9.out Try.underlying31 rfl (by kernel_rfl)) rfl ⟨_, rfl, ?_, ?_⟩
      rw [HRe.out.1, HRe.out.2]
      refine ⟨⟨_, _, _, _, _, _, _, _, _, _, rfl, k1, k2, ?_, ?_, ?_⟩, HL.out, HL.out, ?_, ?_, ?_, HU2.out, HU2.out, ?_⟩
      · rw [show (freshR L M).wait = List.replicate (8 * M) 0 from rfl, List.map_replicate, Nat.mul_comm]; exact k3
      · rw [show (freshR L M).dirty = List.replicate M false from rfl, List.map_replicate]; exact k4
      · rw [show (freshR L M).pending = List.replicate M false from rfl, List.map_replicate]; exact k5
      · simp [freshR]
      · simp [freshR]
      · simp [freshR]
      · intro z hz; simp [freshR] at hz; omega
      · refine HBl.out.trans (⟨G9.out.os, G9.out.tape, G9.out.output, G9.out.size, fun k' hk' => G9.out.block k' (by have := HBl.out.size; omega) (by simp; omega)⟩)

end Go.Proofs.Ytjgdplengfnkaaa
