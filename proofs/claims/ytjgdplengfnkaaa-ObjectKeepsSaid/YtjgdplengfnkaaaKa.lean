/- law15.awake. -/
import Derived.Test.YtjgdplengfnkaaaKp
namespace Go.Proofs.Ytjgdplengfnkaaa
open Go.RowKit
set_option linter.unusedVariables false

set_option maxHeartbeats 2000000 in
set_option maxRecDepth 20000 in
theorem awake15_any (w : World) : Calls Try.prog 22 #[] w fun e w' => e = .returned (.bool true) ∧ Below w.heap.size w w' := by
  go_enter Try.func22, Try.ntmps22
  go_wp2_with fail
  refine (new_any 40 _ (by omega)).mono ?_
  rintro e w2 ⟨F, rfl, hF, hd2, hb2⟩
  obtain ⟨S, hS⟩ : ∃ S, S = freshDev (List.replicate (8 * (((40 : Int).toNat + 7) / 8)) 0) (((40 : Int).toNat + 7) / 8) := ⟨_, rfl⟩
  have hwl : (List.replicate (8 * (((40 : Int).toNat + 7) / 8)) 0).length = 40 := by simp
  have HS : Hid (S.live ∧ S.ok 100 ∧ S.cache.length = 40 ∧ S.inv) := Lib.hid (by
    rw [hS]
    refine ⟨fresh_live _ _, fresh_ok _ _ _, hwl, fresh_inv ?_ ?_ ?_⟩
    · simp
    · rw [hwl]; omega
    · intro z hz; simp at hz; omega)
  have HD2 : Hid (DevAt w2 F S) := Lib.hid (by rw [hS]; exact hd2)
  have HB2 := Lib.hid hb2
  have HF := Lib.hid hF
  clear hS hwl hd2 hb2 hF
  have hsz : objSize 1 2 = 4 := by decide
  have HK : Hid ((S.init (8 : Nat) 1 2).err = 0 ∧ Kept (S.init (8 : Nat) 1 2).dev 8 1 2 (List.replicate (objSize 1 2 - 1) 0)) := Lib.hid (init_kept HS.out.1 HS.out.2.2.2 8 1 2 (by decide) (by rw [hsz, HS.out.2.2.1]; omega))
  have HOk1 : Hid ((S.init (8 : Nat) 1 2).dev.ok 21000) := Lib.hid ((init_ok HS.out.2.1 _ _ _).mono (by omega))
  unfold vdev
  go_wp2_with fail
  refine (oinit_any HD2.out (N := 100) (by omega) HS.out.2.1 8 1 2).mono ?_
  rintro e w3 ⟨rfl, hd3, ht3⟩
  rw [show (8 : Int) = ((8 : Nat) : Int) from rfl] at hd3 ⊢
  rw [HK.out.1]
  have HD3 := Lib.hid hd3
  have HB3 : Hid (Below w.heap.size w w3) := Lib.hid (below_touch HB2.out ht3 (fun k hk => HF.out k hk) (Nat.le_refl _))
  have HK2 := Lib.hid (HK.out.2.setData 2 5 (by omega) (by rw [hsz]; decide) (by decide))
  clear hd3 ht3 HD2 HB2 HK
  generalize (S.init ((8 : Nat) : Int) 1 2).dev = S1 at *
  have HK3 : Hid ((S1.setData 8 1 5).err = 0 ∧ peek (S1.setData 8 1 5).dev.cache 11 = 5) := Lib.hid (by
    have h := HK2.out
    rw [show ((2 : Nat) : Int) - 1 = 1 from rfl, show ((8 : Nat) : Int) = 8 from rfl] at h
    refine ⟨h.1, ?_⟩
    have := h.2.1.words 2 (by rw [List.length_set, hsz]; decide)
    rw [show (11 : Int) = ((8 + 1 + 2 : Nat) : Int) from rfl, peek_in, this, hsz]
    rfl)
  clear HK2
  go_wp2_with fail
  refine (osetData_any HD3.out (N := 21000) (by omega) HOk1.out 8 1 5 (by decide)).mono ?_
  rintro e w4 ⟨rfl, hd4, ht4⟩
  rw [HK3.out.1]
  have HD4 := Lib.hid hd4
  have HB4 : Hid (Below w.heap.size w w4) := Lib.hid (below_touch HB3.out ht4 (fun k hk => HF.out k hk) (Nat.le_refl _))
  clear hd4 ht4 HD3 HB3
  go_wp2_with fail
  refine (dget_any HD4.out 11).mono ?_
  rintro e w5 ⟨rfl, rfl⟩
  rw [HK3.out.2]
  go_wp2_with fail
  go_ret
  exact ⟨rfl, HB4.out⟩

end Go.Proofs.Ytjgdplengfnkaaa
