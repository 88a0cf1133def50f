/- letters.Text: words as a text. -/
import Derived.Test.YtgbgjlgofjbemaaE
namespace Go.Proofs.Ytgbgjlgofjbemaa
open Go.RowKit

/-- The text of words, and the error's number. -/
def textOf : List Nat → List Nat × Nat
  | [] => ([], 31)
  | n :: r =>
    if 131064 < n then ([], 26) else if r.length < (n + 7) / 8 then ([], 31) else if (n + 7) / 8 < r.length then ([], 32)
    else if ((unpack r).drop n).all (· == 0) then ((unpack r).take n, 0) else ([], 26)

def textRes (ws : List Nat) : Ending := .returned (.tuple #[.string (strOf (textOf ws).1), .int .i64 ((textOf ws).2 : Nat)])

theorem textRes_of {ws : List Nat} {l : List Nat} {c : Nat} (h : textOf ws = (l, c)) : textRes ws = .returned (.tuple #[.string (strOf l), .int .i64 (c : Nat)]) := by
  unfold textRes; rw [h]

theorem strOf_nil : strOf [] = ⟨#[]⟩ := rfl

set_option maxHeartbeats 400000 in
theorem text_any (a : Option Addr) {n : Nat} (cap : Nat) (ws : List Nat) (hn : ws.length = n) (w : World) (h : Cells w a (ws.map vu64)) (hz : ∀ z ∈ ws, z < 18446744073709551616) (hl : ws.length ≤ 1000000) (hc : n ≤ cap) (hm : cap ≤ maxLen) :
    Calls Try.prog 8 #[.slice a n cap] w fun e w' => e = textRes ws ∧ Below w.heap.size w w' := by
  unfold maxLen at hm
  cases ws with
  | nil =>
    subst hn
    go_enter Try.func8, Try.ntmps8
    go_wp2_with fail
    go_ret2
    exact ⟨rfl, Below.refl _ _⟩
  | cons x r =>
    have hx := hz x (by simp)
    have HZ := Lib.hid (fun z (hz' : z ∈ r) => hz z (List.mem_cons_of_mem _ hz'))
    obtain rfl : n = r.length + 1 := by rw [← hn]; rfl
    clear hz hn
    simp only [List.length_cons] at hl
    obtain ⟨b, off, rfl, hbs, hcs⟩ := h.at (i := 0) (by simp)
    have hc0 : w.cell? ⟨b, off, none⟩ = some (.int .u64 (x : Nat)) := hcs 0 _ rfl
    have hn0 : (((r.length + 1 : Nat) : Int) == 0) = false := by rw [beq_eq_false_iff_ne]; omega
    have hn1 : ((r.length : Int) + 1 == 0) = false := by rw [beq_eq_false_iff_ne]; omega
    clear hcs
    by_cases hbig : 131064 < x
    · have HT := Lib.hid (textRes_of (show textOf (x :: r) = ([], 26) by simp [textOf, hbig])).symm
      go_enter Try.func8, Try.ntmps8
      go_wp2_with fail
      go_ret2
      exact ⟨HT.out, Below.refl _ _⟩
    · have HU := Lib.hid (upN8 x)
      generalize hk : (x + 7) / 8 = k at HU
      have HK := Lib.hid hk
      have hk1 : k ≤ 131064 := by omega
      clear hk
      by_cases hsh : r.length < k
      · have HT := Lib.hid (textRes_of (show textOf (x :: r) = ([], 31) by rw [textOf, if_neg hbig, HK.out, if_pos hsh])).symm
        go_enter Try.func8, Try.ntmps8
        go_wp2_with fail
        refine (up_any _ _ _ (by omega) (by omega)).mono ?_
        rintro e w' ⟨rfl, rfl⟩
        rw [HU.out]
        go_wp2_with fail
        go_ret2
        exact ⟨HT.out, Below.refl _ _⟩
      · by_cases hlo : k < r.length
        · have HT := Lib.hid (textRes_of (show textOf (x :: r) = ([], 32) by rw [textOf, if_neg hbig, HK.out, if_neg hsh, if_pos hlo])).symm
          go_enter Try.func8, Try.ntmps8
          go_wp2_with fail
          refine (up_any _ _ _ (by omega) (by omega)).mono ?_
          rintro e w' ⟨rfl, rfl⟩
          rw [HU.out]
          go_wp2_with fail
          go_ret2
          exact ⟨HT.out, Below.refl _ _⟩
        · have HT : Hid (textOf (x :: r) = if ((unpack r).drop x).all (· == 0) then ((unpack r).take x, 0) else ([], 26)) := by
            rw [textOf, if_neg hbig, HK.out, if_neg hsh, if_neg hlo]; exact Lib.hid rfl
          have hkr : k = r.length := by omega
          have hul := unpack_length r
          have hxu : x ≤ (unpack r).length := by have := HK.out; omega
          have hul2 : (unpack r).length ≤ 8000000 := by omega
          have HLT := Lib.hid (unpack_lt r)
          clear hul hsh hlo
          have hk2 : ¬ (r.length : Int) < k := by omega
          have hk3 : ¬ (k : Int) < r.length := by omega
          have HKR := Lib.hid hkr
          clear hkr
          go_enter Try.func8, Try.ntmps8
          go_wp2_with fail
          refine (up_any _ _ _ (by omega) (by omega)).mono ?_
          rintro e w' ⟨rfl, rfl⟩
          rw [HU.out]
          go_wp2_with (refine wpList_slice_from el64 1 h (by simp) rfl (by omega) hc rfl rfl rfl rfl ?_; intro ad' hcr)
          refine (bytes_any ad' _ r (by omega) w (by simpa using hcr) HZ.out (by omega)).mono ?_
          rintro e w1 ⟨v, rfl, ho, hb⟩
          obtain ⟨a3, c3, rfl, hc3, hm3⟩ := owned_form ho
          have hcu := Cells.owned ho
          unfold maxLen at hm3
          generalize unpack r = u at *
          clear hcr ho
          go_wp2_with (refine wpList_slice_from el8 x hcu (by simp) rfl hxu hc3 rfl rfl rfl rfl ?_; intro ad4 hcd)
          rw [Nat.mul_one, ← List.map_drop] at hcd
          have hdl : (u.drop x).length = u.length - x := List.length_drop
          have hdlt : ∀ z ∈ u.drop x, z < 256 := fun z hz => HLT.out z (List.mem_of_mem_drop hz)
          rw [← hdl]
          have hd2 : (u.drop x).length ≤ 8000000 := by omega
          generalize u.drop x = d at *
          have HDL := Lib.hid hdl
          have HD := Lib.hid hdlt
          clear hdl hdlt
          go_loop [41] (fun i => ∃ j : Nat, j ≤ d.length ∧ i = .int .i64 j ∧ Hid (∀ t, t < j → d.getD t 0 = 0)) (fun i => d.length - (intOf i).toNat)
          case atStart => exact ⟨0, by omega, rfl, Lib.hid (fun t ht => by omega)⟩
          case round =>
            obtain ⟨j, hj, rfl, hz⟩ := hrel
            by_cases hlt : j < d.length
            · obtain ⟨b5, off5, rfl, hbs5, hc5⟩ := hcd.atMap 0 hlt
              have hcell : w1.cell? ⟨b5, off5 + j, none⟩ = some (.int .u8 (d.getD j 0 : Nat)) := hc5 j hlt
              clear hc5
              by_cases h0 : d.getD j 0 = 0
              · have H0 := Lib.hid h0
                rw [h0] at hcell
                clear h0
                go_wp2
                refine ⟨⟨j + 1, by omega, vint (by omega), Lib.hid (fun t ht => ?_)⟩, by simp [intOf]; omega⟩
                by_cases e : t = j
                · subst e; exact H0.out
                · exact hz.out t (by omega)
              · have hne : (((d.getD j 0 : Nat) : Int) != 0) = true := by simp only [bne_iff_ne, ne_eq]; omega
                have HT2 : Hid (textOf (x :: r) = ([], 26)) := by
                  have := HT.out
                  rw [if_neg] at this
                  · exact Lib.hid this
                  · simp only [List.all_eq_true, beq_iff_eq]
                    intro hall
                    exact h0 (hall _ (by rw [List.getD_eq_getElem?_getD, List.getElem?_eq_getElem hlt]; exact List.getElem_mem hlt))
                have HR := Lib.hid (textRes_of HT2.out).symm
                generalize d.getD j 0 = y at *
                go_wp2
                go_ret2
                exact ⟨HR.out, hb⟩
            · have HT2 : Hid (textOf (x :: r) = (u.take x, 0)) := by
                have := HT.out
                rw [if_pos] at this
                · exact Lib.hid this
                · simp only [List.all_eq_true, beq_iff_eq]
                  intro y hy
                  obtain ⟨i, hi, rfl⟩ := List.getElem_of_mem hy
                  have := hz.out i (by omega)
                  rwa [List.getD_eq_getElem?_getD, List.getElem?_eq_getElem hi] at this
              have HR := Lib.hid (textRes_of HT2.out).symm
              have htl : (u.take x).length = x := by rw [List.length_take]; omega
              have HTL := Lib.hid htl
              clear htl
              go_wp2_with (first
                | (refine wpList_slice_to el8 x hcu (by simp) rfl hxu hc3 rfl rfl rfl rfl ?_; intro hct)
                | (refine wpList_string_of (ns := u.take x) Try.underlying45 Try.underlying5 Try.underlying9 (by rw [List.map_take]; rw [Nat.mul_one] at hct; exact hct) rfl rfl (by rw [HTL.out]; rfl) ?_))
              go_ret2
              exact ⟨HR.out, hb⟩

end Go.Proofs.Ytgbgjlgofjbemaa
