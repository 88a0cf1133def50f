/- object: SetPtr, SetData, Persist, Lasts, Words; nvm: Lasting. -/
import Derived.Test.YtjgdplengfnkaaaOb
namespace Go.Proofs.Ytjgdplengfnkaaa
open Go.RowKit
set_option linter.unusedVariables false

def Dev.setPtr (S : Dev) (a i x : Int) : Done :=
  if (placeN S a i false).code ≠ 0 then ⟨S, (placeN S a i false).code⟩ else if x < 0 then ⟨S, 1⟩ else ⟨S.store (placeN S a i false).at_ x.toNat, S.storeE (placeN S a i false).at_⟩
def Dev.setData (S : Dev) (a i : Int) (x : Nat) : Done :=
  if (placeN S a i true).code ≠ 0 then ⟨S, (placeN S a i true).code⟩ else ⟨S.store (placeN S a i true).at_ x, S.storeE (placeN S a i true).at_⟩
def Dev.opersist (S : Dev) (a : Int) : Done :=
  if (headN S a).code ≠ 0 then ⟨S, (headN S a).code⟩ else S.persist a (objSize (headN S a).p (headN S a).d : Nat)

set_option maxHeartbeats 1000000 in
theorem osetPtr_any {w : World} {F : Foot} {S : Dev} (h : DevAt w F S) {N : Nat} (hN : N < 1000000000000) (ho : S.ok N) (a i x : Int) (hx : x ≤ 9223372036854775807) :
    Calls Try.prog 31 #[vdev F, .int .i64 a, .int .i64 i, .int .i64 x] w fun e w' => e = .returned (.int .i64 (S.setPtr a i x).err) ∧ DevAt w' F (S.setPtr a i x).dev ∧ Touch F.list w w' := by
  have HI : Hid (S.setPtr a i x = if (placeN S a i false).code ≠ 0 then ⟨S, (placeN S a i false).code⟩ else if x < 0 then ⟨S, 1⟩ else ⟨S.store (placeN S a i false).at_ x.toNat, S.storeE (placeN S a i false).at_⟩) := Lib.hid rfl
  generalize S.setPtr a i x = R at *
  have HD := Lib.hid h
  clear h
  go_enter Try.func31, Try.ntmps31
  go_wp2_with fail
  refine (ofield_any HD.out a i false).mono ?_
  rintro e w1 ⟨rfl, hb1⟩
  have HD1 := Lib.hid (HD.out.below hb1)
  have HT1 : Hid (Touch F.list w w1) := Lib.hid (Touch.ofBelow hb1)
  clear hb1 HD
  generalize placeN S a i false = pn at *
  obtain ⟨q, c⟩ := pn
  dsimp only at HI ⊢
  by_cases hc : c = 0
  · subst hc
    by_cases hx0 : x < 0
    · have HV : Hid (R = ⟨S, 1⟩) := Lib.hid (by rw [HI.out, if_neg (by simp), if_pos hx0])
      go_wp2_with fail
      go_ret
      rw [HV.out]
      exact ⟨rfl, HD1.out, HT1.out⟩
    · obtain ⟨y, rfl⟩ := Int.eq_ofNat_of_zero_le (show 0 ≤ x by omega)
      have HV : Hid (R = ⟨S.store q y, S.storeE q⟩) := Lib.hid (by rw [HI.out, if_neg (by simp), if_neg hx0]; rfl)
      have hy : y < 18446744073709551616 := by omega
      clear HI
      go_wp2_with fail
      refine (store_any HD1.out hN ho _ _ hy).mono ?_
      rintro e w2 ⟨rfl, hd2, ht2⟩
      have HD2 := Lib.hid hd2
      have HT2 : Hid (Touch F.list w w2) := Lib.hid (HT1.out.trans ht2)
      clear hd2 ht2
      go_wp2_with fail
      go_ret
      rw [HV.out]
      exact ⟨rfl, HD2.out, HT2.out⟩
  · have hc1 : (c != 0) = true := by simpa using hc
    have HV : Hid (R = ⟨S, c⟩) := Lib.hid (by rw [HI.out, if_pos hc])
    clear hc
    go_wp2_with fail
    go_ret
    rw [HV.out]
    exact ⟨rfl, HD1.out, HT1.out⟩

set_option maxHeartbeats 1000000 in
theorem osetData_any {w : World} {F : Foot} {S : Dev} (h : DevAt w F S) {N : Nat} (hN : N < 1000000000000) (ho : S.ok N) (a i : Int) (x : Nat) (hx : x < 18446744073709551616) :
    Calls Try.prog 32 #[vdev F, .int .i64 a, .int .i64 i, vu64 x] w fun e w' => e = .returned (.int .i64 (S.setData a i x).err) ∧ DevAt w' F (S.setData a i x).dev ∧ Touch F.list w w' := by
  have HI : Hid (S.setData a i x = if (placeN S a i true).code ≠ 0 then ⟨S, (placeN S a i true).code⟩ else ⟨S.store (placeN S a i true).at_ x, S.storeE (placeN S a i true).at_⟩) := Lib.hid rfl
  generalize S.setData a i x = R at *
  have HD := Lib.hid h
  clear h
  go_enter Try.func32, Try.ntmps32
  go_wp2_with fail
  refine (ofield_any HD.out a i true).mono ?_
  rintro e w1 ⟨rfl, hb1⟩
  have HD1 := Lib.hid (HD.out.below hb1)
  have HT1 : Hid (Touch F.list w w1) := Lib.hid (Touch.ofBelow hb1)
  clear hb1 HD
  generalize placeN S a i true = pn at *
  obtain ⟨q, c⟩ := pn
  dsimp only at HI ⊢
  by_cases hc : c = 0
  · subst hc
    have HV : Hid (R = ⟨S.store q x, S.storeE q⟩) := Lib.hid (by rw [HI.out, if_neg (by simp)])
    clear HI
    go_wp2_with fail
    refine (store_any HD1.out hN ho _ _ hx).mono ?_
    rintro e w2 ⟨rfl, hd2, ht2⟩
    have HD2 := Lib.hid hd2
    have HT2 : Hid (Touch F.list w w2) := Lib.hid (HT1.out.trans ht2)
    clear hd2 ht2
    go_wp2_with fail
    go_ret
    rw [HV.out]
    exact ⟨rfl, HD2.out, HT2.out⟩
  · have hc1 : (c != 0) = true := by simpa using hc
    have HV : Hid (R = ⟨S, c⟩) := Lib.hid (by rw [HI.out, if_pos hc])
    clear hc
    go_wp2_with fail
    go_ret
    rw [HV.out]
    exact ⟨rfl, HD1.out, HT1.out⟩

theorem headN_code2 (S : Dev) (a : Int) : (headN S a).code = 0 ∨ (headN S a).code = 22 := (headN_code S a).elim (fun h => .inl h.1) (fun h => .inr (by rw [h]))

set_option maxHeartbeats 1000000 in
theorem opersist_any {w : World} {F : Foot} {S : Dev} (h : DevAt w F S) {N : Nat} (hN : N ≤ 100000000000) (ho : S.ok N) (a : Int) :
    Calls Try.prog 33 #[vdev F, .int .i64 a] w fun e w' => e = .returned (.int .i64 (S.opersist a).err) ∧ DevAt w' F (S.opersist a).dev ∧ Touch F.list w w' := by
  have HSm := Lib.hid (head_small h.small (a := a))
  have HI : Hid (S.opersist a = if (headN S a).code ≠ 0 then ⟨S, (headN S a).code⟩ else S.persist a (objSize (headN S a).p (headN S a).d : Nat)) := Lib.hid rfl
  generalize S.opersist a = R at *
  have HD := Lib.hid h
  clear h
  go_enter Try.func33, Try.ntmps33
  go_wp2_with fail
  refine (ohead_any HD.out a).mono ?_
  rintro e w1 ⟨rfl, hb1⟩
  have hC22 := headN_code2 S a
  generalize headN S a = x at *
  obtain ⟨p, d, c⟩ := x
  unfold Odec.val
  dsimp only at HSm HI hC22 ⊢
  have hbx := below_alloc w1 (Obj.cells #[Value.int .i64 p, Value.int .i64 d] 73)
  have hb := hb1.trans (hbx.mono hb1.size)
  have HB := Lib.hid hb
  have HD1 := Lib.hid (HD.out.below hb)
  have e0 : (w1.alloc (Obj.cells #[Value.int .i64 p, Value.int .i64 d] 73)).cell? ⟨w1.heap.size, 0, none⟩ = some (.int .i64 p) := cell_alloc_new _ _ _ 0 _ rfl
  have e1 : (w1.alloc (Obj.cells #[Value.int .i64 p, Value.int .i64 d] 73)).cell? ⟨w1.heap.size, 1, none⟩ = some (.int .i64 d) := cell_alloc_new _ _ _ 1 _ rfl
  clear hb hb1 hbx HD
  have hsz := objSize_le p d
  by_cases hc : c = 0
  · subst hc
    obtain ⟨ha, _, _⟩ := HSm.out rfl
    have HV : Hid (R = S.persist a (objSize p d : Nat)) := Lib.hid (by rw [HI.out, if_neg (by simp)])
    clear HI HSm hC22
    go_wp2_with fail
    refine (osize_any p d _).mono ?_
    rintro e w2 ⟨rfl, hb2⟩
    generalize w1.alloc (Obj.cells #[Value.int .i64 p, Value.int .i64 d] 73) = w1' at *
    have HD2 := Lib.hid (HD1.out.below hb2)
    have HT2 : Hid (Touch F.list w w2) := Lib.hid (Touch.ofBelow (HB.out.trans (hb2.mono HB.out.size)))
    clear hb2 HD1 HB e0 e1
    go_wp2_with fail
    refine (persist_any HD2.out (N := N) (by omega) ho _ _ (by omega) (by omega)).mono ?_
    rintro e w3 ⟨rfl, hd3, ht3⟩
    have HD3 := Lib.hid hd3
    have HT3 : Hid (Touch F.list w w3) := Lib.hid (HT2.out.trans ht3)
    clear hd3 ht3
    go_wp2_with fail
    go_ret
    rw [HV.out]
    exact ⟨rfl, HD3.out, HT3.out⟩
  · have hc2 : c = 22 := hC22.elim (fun h => absurd h hc) id
    subst hc2
    have HV : Hid (R = ⟨S, 22⟩) := Lib.hid (by rw [HI.out, if_pos hc])
    clear hc hC22
    go_wp2_with fail
    go_ret
    rw [HV.out]
    exact ⟨rfl, HD1.out, Touch.ofBelow HB.out⟩

set_option maxHeartbeats 1000000 in
theorem dlasting_any {w : World} {F : Foot} {S : Dev} (h : DevAt w F S) (i : Int) :
    Calls Try.prog 70 #[vdev F, .int .i64 i] w fun e w' => e = .returned (vu64 (peek S.lasting i)) ∧ w = w' := by
  have c1 : w.cell? ⟨F.d, 0, none⟩ = some (.slice (some ⟨F.l, 0, none⟩) S.cache.length F.cl) := cell_of_row _ _ 0 _ _ _ h.head
  have hll := h.lenL
  have HR := Lib.hid h.lasting
  by_cases h0 : i < 0
  · have HP : Hid (peek S.lasting i = 0) := Lib.hid (by unfold peek; rw [if_neg (by omega)])
    clear h hll
    go_enter Try.func70, Try.ntmps70
    go_wp2_with fail
    go_ret
    exact ⟨ret_int (by rw [HP.out]; rfl), rfl⟩
  obtain ⟨j, rfl⟩ := Int.eq_ofNat_of_zero_le (show 0 ≤ i by omega)
  by_cases h1 : j < S.cache.length
  · have h1' : decide ((S.cache.length : Int) ≤ (j : Int)) = false := by simp; omega
    have h1n : decide (S.cache.length ≤ j) = false := by simp; omega
    have HP : Hid (peek S.lasting (j : Int) = S.lasting.getD j 0) := Lib.hid (by unfold peek; rw [if_pos (by omega)]; rfl)
    have d0 : w.cell? ⟨F.l, j, none⟩ = some (vu64 (S.lasting.getD j 0)) := HR.out.cell (by simp [show j < S.lasting.length by omega])
    clear h hll
    generalize S.lasting.getD j 0 = y at *
    go_enter Try.func70, Try.ntmps70
    go_wp2_with fail
    go_ret
    exact ⟨by rw [HP.out]; rfl, rfl⟩
  · have h1' : (S.cache.length : Int) ≤ (j : Int) := by omega
    have h1n : S.cache.length ≤ j := by omega
    have HP : Hid (peek S.lasting (j : Int) = 0) := Lib.hid (by unfold peek; rw [if_pos (by omega)]; show S.lasting.getD j 0 = 0; exact getD_zero_of (by omega))
    clear h hll
    go_enter Try.func70, Try.ntmps70
    go_wp2_with fail
    go_ret
    exact ⟨ret_int (by rw [HP.out]; rfl), rfl⟩

end Go.Proofs.Ytjgdplengfnkaaa
