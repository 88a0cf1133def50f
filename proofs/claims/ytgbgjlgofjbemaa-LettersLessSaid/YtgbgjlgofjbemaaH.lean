/- The law LettersWords: its walk. -/
import Derived.Test.YtgbgjlgofjbemaaG
namespace Go.Proofs.Ytgbgjlgofjbemaa
open Go.RowKit

theorem unpack_packW (zs : List Nat) (hz : ∀ z ∈ zs, z < 256) (i : Nat) (hi : i < 8 * ((zs.length + 7) / 8)) : (unpack (packW zs)).getD i 0 = zs.getD i 0 := by
  rw [unpack_get _ _ (by rw [packW_length]; exact hi)]
  have e : (packW zs).getD (i / 8) 0 = wordAt zs (i / 8) := getD_map_range _ _ _ (by omega)
  rw [e, bytes8_word zs hz _ _ (by omega)]
  congr 1
  omega

theorem textOf_words (s : ByteArray) (hs : s.size ≤ 131064) : textOf (textWords s) = (bytesOf s, 0) := by
  have hz := bytesOf_lt s
  have hn := bytesOf_length s
  unfold textWords textOf
  rw [← hn] at hs ⊢
  generalize bytesOf s = zs at *
  have hl : (packW zs).length = (zs.length + 7) / 8 := packW_length zs
  have hg := unpack_packW zs hz
  have hu : (unpack (packW zs)).length = 8 * ((zs.length + 7) / 8) := by rw [unpack_length, hl]
  dsimp only
  rw [if_neg (by omega), if_neg (by omega), if_neg (by omega)]
  generalize unpack (packW zs) = u at *
  have h1 : (u.drop zs.length).all (· == 0) = true := by
    simp only [List.all_eq_true, beq_iff_eq]
    intro y hy
    rw [List.mem_drop_iff_getElem] at hy
    obtain ⟨i, hi, rfl⟩ := hy
    have := hg (zs.length + i) (by omega)
    rw [List.getD_eq_getElem?_getD, List.getD_eq_getElem?_getD, List.getElem?_eq_getElem (by omega), List.getElem?_eq_none (by omega)] at this
    exact this
  rw [if_pos h1]
  congr 1
  apply List.ext_getElem
  · rw [List.length_take]; omega
  · intro i h1 h2
    have := hg i (by omega)
    rw [List.getD_eq_getElem?_getD, List.getD_eq_getElem?_getD, List.getElem?_eq_getElem (by omega), List.getElem?_eq_getElem (by omega)] at this
    rw [List.getElem_take]
    exact this

theorem ab_words : textWords ⟨#[97, 98]⟩ = [2, 25185] := by decide

theorem textWords_lt (s : ByteArray) (hs : s.size ≤ 131064) : ∀ z ∈ textWords s, z < 18446744073709551616 := by
  intro z hz
  simp only [textWords, List.mem_cons] at hz
  rcases hz with rfl | hz
  · omega
  · exact packW_lt _ (bytesOf_lt s) z hz

set_option maxHeartbeats 400000 in
theorem awake_any (w : World) : Calls Try.prog 6 #[] w fun e w' => e = .returned (.bool true) ∧ Below w.heap.size w w' := by
  go_enter Try.func6, Try.ntmps6
  go_wp2_with fail
  refine (lwords_any _ _ (by decide)).mono ?_
  rintro e w1 ⟨v, rfl, ho, hb⟩
  rw [ab_words] at ho
  obtain ⟨a, c, rfl, hc, hm⟩ := owned_form ho
  obtain ⟨b, off, rfl, hbs, hcs⟩ := (Cells.owned ho).at (i := 0) (by decide)
  have h0 : w1.cell? ⟨b, off, none⟩ = some (.int .u64 2) := hcs 0 _ rfl
  have h1 : w1.cell? ⟨b, off + 1, none⟩ = some (.int .u64 25185) := hcs 1 _ rfl
  simp only [List.length_cons, List.length_nil]
  clear hcs ho
  go_wp2
  go_ret
  exact ⟨rfl, hb⟩

set_option maxHeartbeats 400000 in
theorem lettersWords_any (s : ByteArray) (a : Option Addr) (n cap : Nat) (ws : List Nat) (hn : ws.length = n) (w : World) (h : Cells w a (ws.map vu64)) (hz : ∀ z ∈ ws, z < 18446744073709551616) (hc : n ≤ cap) (hm : cap ≤ maxLen) (hs : s.size ≤ maxLen) :
    Calls Try.prog 3 #[.string s, .slice a n cap] w fun e w' => e = .returned (.bool true) ∧ Below w.heap.size w w' := by
  have hm' := hm
  unfold maxLen at hs hm'
  have HN := Lib.hid hn
  have HZ := Lib.hid hz
  clear hn hz
  by_cases h1 : 1000 < s.size
  · go_enter Try.func3, Try.ntmps3
    go_wp2_with fail
    refine (awake_any _).mono ?_
    rintro e w1 ⟨rfl, hb1⟩
    go_wp2_with fail
    go_ret
    exact ⟨rfl, hb1⟩
  by_cases h2 : 200 < n
  · go_enter Try.func3, Try.ntmps3
    go_wp2_with fail
    refine (awake_any _).mono ?_
    rintro e w1 ⟨rfl, hb1⟩
    go_wp2_with fail
    go_ret
    exact ⟨rfl, hb1⟩
  · go_enter Try.func3, Try.ntmps3
    go_wp2_with fail
    refine (awake_any _).mono ?_
    rintro e w1 ⟨rfl, hb1⟩
    go_wp2_with fail
    refine (lwords_any _ _ (by omega)).mono ?_
    rintro e w2 ⟨v, rfl, ho, hb2⟩
    obtain ⟨a2, c2, rfl, hc2, hm2⟩ := owned_form ho
    have hcl := Cells.owned ho
    have hlt := textWords_lt s (by omega)
    have htl : (textWords s).length ≤ 1000000 := by rw [textWords_len, packW_length, bytesOf_length]; omega
    have HL := Lib.hid hlt
    clear hlt ho
    go_wp2_with fail
    refine (text_any a2 c2 (textWords s) rfl w2 hcl HL.out htl hc2 hm2).mono ?_
    rintro e w3 ⟨rfl, hb3⟩
    rw [textRes_of (textOf_words s (by omega)), strOf_bytesOf]
    go_wp2_with fail
    have hb3' : Below w.heap.size w w3 := (hb1.trans (hb2.mono hb1.size)).trans (hb3.mono (Nat.le_trans hb1.size hb2.size))
    refine (text_any a cap ws HN.out w3 (h.below hb3' (Nat.le_refl _)) HZ.out (by have := HN.out; omega) hc hm).mono ?_
    rintro e w4 ⟨rfl, hb4⟩
    unfold textRes
    have hb4' := hb3'.trans (hb4.mono hb3'.size)
    go_wp2_with fail
    refine (rtext_any a cap ws HN.out w4 (h.below hb4' (Nat.le_refl _)) HZ.out (by have := HN.out; omega) hc hm).mono ?_
    rintro e w5 ⟨rfl, hb5⟩
    unfold textRes
    have hb5' := hb4'.trans (hb5.mono hb4'.size)
    have hcl5 := ((hcl.below hb3 (Nat.le_refl _)).below hb4 (Nat.le_refl _)).below hb5 (Nat.le_refl _)
    generalize strOf (textOf ws).fst = t1 at *
    generalize (textOf ws).snd = t2 at *
    go_wp2_with fail
    refine (rlwords_any _ _ (by omega)).mono ?_
    rintro e w6 ⟨v6, rfl, ho6, hb6⟩
    obtain ⟨a6, c6, rfl, hc6, hm6⟩ := owned_form ho6
    have hcl6 := Cells.owned ho6
    have hb6' := hb5'.trans (hb6.mono hb5'.size)
    have hcl7 := hcl5.below hb6 (Nat.le_refl _)
    clear hcl5 hcl ho6
    go_wp2_with fail
    refine (same_any a2 a6 c2 c6 (textWords s) (textWords s) rfl rfl w6 hcl7 hcl6 (by omega) (by omega)).mono ?_
    rintro e w7 ⟨rfl, hb7⟩
    have hb7' := hb6'.trans (hb7.mono hb6'.size)
    rw [decide_eq_true rfl]
    go_wp2_with fail
    go_ret
    exact ⟨rfl, hb7'⟩

end Go.Proofs.Ytgbgjlgofjbemaa
