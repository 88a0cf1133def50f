/- Parts of the proof that ReviveLooks holds. -/
import Derived.Test.YtpohaahihdhleaaGreatRL10
import Derived.Lib.SliceRun
import Derived.Deep.DeepCutAuto
import Derived.Deep.CutBlock
import Derived.Test.YtpohaahihdhleaaGreatProg
import Derived.WalkKit
import Derived.Deep.Cut
import Derived.Shelf.Strings.Builder1
set_option linter.unusedVariables false
set_option maxHeartbeats 16000000
set_option maxRecDepth 100000
open Go.RowKit
namespace Go.Proofs.YtpohaahihdhleaaGreat
section
def Dev.stores (S : Dev) : List (Nat × Nat) → Done
 | [] => ⟨S, 0⟩
 | p :: l => if S.storeE (p.1 : Int) ≠ 0 then ⟨S.store (p.1 : Int) p.2, S.storeE (p.1 : Int)⟩ else (S.store (p.1 : Int) p.2).stores l
def Done.bind (r : Done) (f : Dev → Done) : Done := if r.err ≠ 0 then r else f r.dev
theorem stores_cons (S : Dev) (i x : Nat) (l : List (Nat × Nat)) : S.stores ((i, x) :: l) = if S.storeE (i : Int) ≠ 0 then ⟨S.store (i : Int) x, S.storeE (i : Int)⟩ else (S.store (i : Int) x).stores l := rfl
theorem stores_ok : ∀ {S : Dev} {N : Nat} (_ : S.ok N) (l : List (Nat × Nat)), (S.stores l).dev.ok (N + l.length)
 | S, N, h, [] => h
 | S, N, h, (i, x) :: l => by
  rw [stores_cons]
  have h1 := Dev.store_okN h (i : Int) x
  split
  ·exact h1.mono (by simp)
  ·exact (stores_ok h1 l).mono (by simp; omega)
theorem Done.bind_ok (r : Dev) (f : Dev → Done) : (Done.mk r 0).bind f = f r := by unfold Done.bind; rw [if_neg (by simp)]
theorem Done.bind_err (r : Dev) {e : Int} (h : e ≠ 0) (f : Dev → Done) : (Done.mk r e).bind f = ⟨r, e⟩ := by unfold Done.bind; rw [if_pos h]
def DonePost (r : Done) (F : Foot) (w : World) : Ending → World → Prop := fun e w' => e = .returned (.int .i64 r.err) ∧ DevAt w' F r.dev ∧ Touch F.list w w'
def upL (a : Nat) (g : Nat → Nat) (k n : Nat) : List (Nat × Nat) := (List.range' k (n - k)).map (fun j => (a + j, g j))
theorem upL_cons (a : Nat) (g : Nat → Nat) {k n : Nat} (h : k < n) : upL a g k n = (a + k, g k) :: upL a g (k + 1) n := by
 unfold upL
 rw [show n - k = (n - (k + 1)) + 1 by omega, List.range'_succ]
 rfl
theorem upL_nil (a : Nat) (g : Nat → Nat) {k n : Nat} (h : n ≤ k) : upL a g k n = [] := by
 unfold upL
 rw [show n - k = 0 by omega]
 rfl
theorem upL_len (a : Nat) (g : Nat → Nat) (k n : Nat) : (upL a g k n).length = n - k := by unfold upL; simp
def Dev.writeSuper (S : Dev) (n id : Nat) : Done :=
 if 2 ≤ n ∧ n ≤ 256 ∧ 512 * n = S.cache.length then (S.stores (upL 0 (fun k => (supN n id).getD k 0) 0 8)).bind (fun S => S.persist 0 8) else ⟨S, 26⟩
theorem supN_lt {n id : Nat} (hn : n < 18446744073709551616) (hid : id < 18446744073709551616) (k : Nat) : (supN n id).getD k 0 < 18446744073709551616 := by
 rw [List.getD_eq_getElem?_getD]
 cases h : (supN n id)[k]? with
 | none => simp
 | some x =>
  have hm := List.mem_of_getElem? h
  have hw := wordsN_lt (supH n id)
  simp only [supN, List.mem_cons, List.not_mem_nil, or_false] at hm
  have hg : magicN < 18446744073709551616 := by decide
  show x < _
  rcases hm with rfl | rfl | rfl | rfl | rfl | rfl | rfl | rfl <;> omega
theorem swrite_any {w : World} {F : Foot} {S : Dev} (h : DevAt w F S) {N : Nat} (hN : N ≤ 900000000) (ho : S.ok N) (n id : Nat) (hn : n ≤ 1000000000) (hid : id < 18446744073709551616) :
  Calls Tryz.prog 66 #[vdev F, .agg #[.int .i64 (n : Int), vu64 id]] w (DonePost (S.writeSuper n id) F w) := by
 have HP : Hid (∀ (D : Done) w', D = S.writeSuper n id → DevAt w' F D.dev → Touch F.list w w' → DonePost (S.writeSuper n id) F w (.returned (.int .i64 D.err)) w') := LH (fun D w' h1 h2 h3 => by rw [← h1]; exact ⟨rfl, h2, h3⟩)
 generalize DonePost (S.writeSuper n id) F w = Post at *
 have HEn := LH (sencode_any n id (by omega) hid)
 have HLt := LH (supN_lt (n := n) (by omega) hid)
 obtain ⟨f, hf⟩ : ∃ f : Nat → Nat, f = fun k => (supN n id).getD k 0 := ⟨_, rfl⟩
 have HW : Hid (S.writeSuper n id = if 2 ≤ n ∧ n ≤ 256 ∧ 512 * n = S.cache.length then (S.stores (upL 0 f 0 8)).bind (fun S => S.persist 0 8) else ⟨S, 26⟩) := LH (by rw [hf]; rfl)
 have HAr : Hid (arrW (supN n id) = .agg #[vu64 (f 0), vu64 (f 1), vu64 (f 2), vu64 (f 3), vu64 (f 4), vu64 (f 5), vu64 (f 6), vu64 (f 7)]) := LH (by rw [hf]; rfl)
 have HF : Hid (∀ k, f k < 18446744073709551616) := LH (fun k => by rw [hf]; exact HLt.out k)
 unfold SupPost at HEn
 rw [HAr.out] at HEn
 have HD := LH h
 have HO := LH ho
 have HB0 := LH h.mem
 clear hf HLt HAr h ho
 have HM := LH ((Mem.two w #[.int .i64 (n : Int), vu64 id] 42 #[.int .i64 (n : Int)] 44))
 go_enter Tryz.func66, Tryz.ntmps66
 go_upto_region 2 with fail
 obtain ⟨q1, hq1⟩ : ∃ q, q = w.heap.size := ⟨_, rfl⟩
 obtain ⟨q2, hq2⟩ : ∃ q, q = w.heap.size + 1 := ⟨_, rfl⟩
 rw [← hq2, ← hq1] at HM ⊢
 generalize (w.alloc _).alloc _ = w1 at *
 clear hq1 hq2
 have HM1 : Hid (Mem w w1 [⟨q1, 42, [.int .i64 (n : Int), vu64 id], true⟩, ⟨q2, 44, [.int .i64 (n : Int)], true⟩]) := LH (by simpa using HM.out)
 clear HM
 have c0 := HM1.out.cell 1 0 rfl rfl
 go_wp2_with fail
 refine (gright_any (n : Int) w1).mono ?_
 rintro e w2 ⟨rfl, hb2⟩
 have HM2 := LH (HM1.out.later hb2)
 clear hb2 c0 HM1
 by_cases hr : 2 ≤ n ∧ n ≤ 256
 case neg =>
  have hr' : decide ((2 : Int) ≤ (n : Int) ∧ (n : Int) ≤ 256) = false := by rw [decide_eq_false_iff_not]; omega
  rw [hr']
  have HF2 := LH (fun w' h1 h2 => HP.out ⟨S, 26⟩ w' (by rw [HW.out, if_neg (fun hh => hr ⟨hh.1, hh.2.1⟩)]) h1 h2)
  clear hr hr'
  go_wp2_with fail
  exact HF2.out _ (HD.out.below HM2.out.below) (Touch.ofBelow HM2.out.below)
 have hr' : decide ((2 : Int) ≤ (n : Int) ∧ (n : Int) ≤ 256) = true := by rw [decide_eq_true_iff]; omega
 rw [hr']
 clear hr'
 have c0 := HM2.out.cell 1 0 rfl rfl
 go_wp2_with fail
 refine (gwords_any (n : Int) w2 (by omega) (by omega)).mono ?_
 rintro e w3 ⟨rfl, hb3⟩
 have HM3 := LH (HM2.out.later hb3)
 have hnI : (n : Int) * 512 = ((512 * n : Nat) : Int) := by omega
 rw [hnI]
 obtain ⟨K, hK⟩ : ∃ K, K = 512 * n := ⟨_, rfl⟩
 rw [← hK] at HW ⊢
 obtain ⟨l, hl⟩ : ∃ l, l = S.cache.length := ⟨_, rfl⟩
 rw [← hl] at HW
 have HLn := LH hl
 clear hb3 hnI hK hl c0 HM2
 go_wp2_with fail
 refine (dlen_any (HD.out.below HM3.out.below)).mono ?_
 rintro e w4 ⟨rfl, rfl⟩
 rw [← HLn.out]
 by_cases hc : K = l
 case neg =>
  have hc' : ((K : Int) == (l : Int)) = false := by rw [beq_eq_false_iff_ne]; omega
  have hc'' : ((K : Int) != (l : Int)) = true := by rw [bne_iff_ne]; omega
  have HF2 := LH (fun w' h1 h2 => HP.out ⟨S, 26⟩ w' (by rw [HW.out, if_neg (fun hh => hc hh.2.2)]) h1 h2)
  clear hc
  go_wp2_with fail
  exact HF2.out _ (HD.out.below HM3.out.below) (Touch.ofBelow HM3.out.below)
 have HF2 := LH (fun (D : Done) w' (h1 : D = (S.stores (upL 0 f 0 8)).bind (fun S => S.persist 0 8)) h2 h3 => HP.out D w' (by rw [HW.out, if_pos ⟨hr.1, hr.2, hc⟩, h1]) h2 h3)
 subst hc
 clear HP HW hr HLn
 have c0 := HM3.out.cell 0 0 rfl rfl
 have c1 := HM3.out.cell 0 1 rfl rfl
 go_upto_region 4 with fail
 go_wp2_with fail
 refine (HEn.out _).mono ?_
 rintro e w5 ⟨rfl, hb5⟩
 have HB5 := LH (HM3.out.below.trans (hb5.mono HM3.out.below.size))
 have HD5 := LH (HD.out.below HB5.out)
 clear hb5 c0 c1 HM3 HEn HD
 obtain ⟨A, hA⟩ : ∃ A : Array Value, A = #[vu64 (f 0), vu64 (f 1), vu64 (f 2), vu64 (f 3), vu64 (f 4), vu64 (f 5), vu64 (f 6), vu64 (f 7)] := ⟨_, rfl⟩
 rw [← hA]
 have HA : Hid (∀ k, k < 8 → A[k]? = some (vu64 (f k))) := LH (fun k hk => by
  rw [hA]
  rcases (by omega : k = 0 ∨ k = 1 ∨ k = 2 ∨ k = 3 ∨ k = 4 ∨ k = 5 ∨ k = 6 ∨ k = 7) with rfl | rfl | rfl | rfl | rfl | rfl | rfl | rfl <;> rfl)
 clear hA
 go_wp2_with fail
 go_loopw [24] (fun iv wr => ∃ (k : Nat) (T : Dev), k ≤ 8 ∧ iv = .int .i64 (k : Int) ∧ Hid (DevAt wr F T) ∧ Hid (Touch F.list w wr) ∧ Hid (T.ok (N + k)) ∧ Hid (T.stores (upL 0 f k 8) = S.stores (upL 0 f 0 8))) (fun iv _ => 8 - (intOf iv).toNat)
 case atStart => exact ⟨0, S, by omega, rfl, HD5, LH (Touch.ofBelow HB5.out), HO, LH rfl⟩
 case round =>
  obtain ⟨k, T, hk, rfl, HDr, HTr, HOr, HSt⟩ := hrel
  by_cases hlt : k < 8
  ·have hlt' : (k : Int) < 8 := by omega
   have HEq := LH (upL_cons 0 f hlt)
   rw [HEq.out, Nat.zero_add] at HSt
   have HSc := LH (stores_cons T k (f k) (upL 0 f (k + 1) 8))
   have HSt2 := LH (HSc.out.symm.trans HSt.out)
   clear HEq HSc HSt
   have hz : (0 : Int) + (k : Int) = (k : Int) := by omega
   go_wp2_with (refine wpList_index_arr k Tryz.underlying101 Tryz.underlying40 rfl (by kernel_rfl) rfl hlt (HA.out k hlt) rfl rfl rfl rfl ?_)
   refine (store_any HDr.out (N := N + k) (by omega) HOr.out (k : Int) (f k) (HF.out k)).mono ?_
   rintro e w6 ⟨rfl, hd6, ht6⟩
   have HD6 := LH hd6
   have HT6 := LH (HTr.out.trans ht6)
   have HO6 := LH (Dev.store_okN HOr.out (k : Int) (f k))
   clear hd6 ht6
   by_cases he : T.storeE (k : Int) = 0
   ·have HSt3 := LH (by rw [if_neg (by simp [he])] at HSt2; exact HSt2.out)
    rw [he]
    generalize T.store (k : Int) (f k) = T' at *
    clear he HSt2 HDr HTr HOr
    go_wp2_with fail
    exact ⟨⟨k + 1, T', by omega, vint (by omega), HD6, HT6, LH (HO6.out.mono (by omega)), HSt3⟩, by simp [intOf]; omega⟩
   ·have HSt3 := LH (by rw [if_pos he] at HSt2; exact HSt2.out)
    obtain ⟨er, her⟩ : ∃ er, er = T.storeE (k : Int) := ⟨_, rfl⟩
    have her1 : -9223372036854775808 ≤ er ∧ er ≤ 9223372036854775807 := by
     rw [her]; unfold Dev.storeE; split
     ·omega
     ·split <;> omega
    rw [← her] at he HSt3 ⊢
    have he' : (er != 0) = true := by simpa using he
    generalize T.store (k : Int) (f k) = T' at *
    have HF3 := LH (fun w' => HF2.out ⟨T', er⟩ w' (by rw [← HSt3.out, Done.bind_err _ he]))
    clear he her HSt2 HDr HTr HOr HSt3
    go_wp2_with fail
    exact HF3.out _ HD6.out HT6.out
  ·have hi8 : k = 8 := by omega
   have hltd : decide ((k : Int) < 8) = false := by simp; omega
   have HSt2 : Hid (S.stores (upL 0 f 0 8) = ⟨T, 0⟩) := LH (by rw [← HSt.out, upL_nil _ _ (by omega)]; rfl)
   clear HSt
   go_wp2_with fail
   refine (persist_any HDr.out (N := N + k) (by omega) HOr.out 0 8 (by omega) (by omega)).mono ?_
   rintro e w6 ⟨rfl, hd6, ht6⟩
   have HF3 := LH (fun w' => HF2.out (T.persist 0 8) w' (by rw [HSt2.out, Done.bind_ok]))
   have HT6 := LH (HTr.out.trans ht6)
   have HD6 := LH hd6
   clear hd6 ht6
   generalize T.persist 0 8 = D at *
   go_wp2_with fail
   exact HF3.out _ HD6.out HT6.out
def skipL (a : Nat) (g : Nat → Nat) (k : Nat) : List (Nat × Nat) := ((List.range' k (16 - k)).filter (fun j => j % 8 != 0)).map (fun j => (a + j, g j))
theorem skipL_skip (a : Nat) (g : Nat → Nat) {k : Nat} (h : k < 16) (hm : k % 8 = 0) : skipL a g k = skipL a g (k + 1) := by
 unfold skipL
 rw [show 16 - k = (16 - (k + 1)) + 1 by omega, List.range'_succ, List.filter_cons_of_neg (by simp [hm])]
theorem skipL_cons (a : Nat) (g : Nat → Nat) {k : Nat} (h : k < 16) (hm : k % 8 ≠ 0) : skipL a g k = (a + k, g k) :: skipL a g (k + 1) := by
 unfold skipL
 rw [show 16 - k = (16 - (k + 1)) + 1 by omega, List.range'_succ, List.filter_cons_of_pos (by simp [hm])]
 rfl
theorem skipL_end (a : Nat) (g : Nat → Nat) : skipL a g 16 = [] := rfl
def slotL (a : Nat) (g : Nat → Nat) : List (Nat × Nat) := skipL a g 0 ++ [(a, g 0), (a + 8, g 8)]
def Dev.writeSlot (S : Dev) (a ep : Nat) (rs : List Int) : Done := (S.stores (slotL a (fun k => (slotW ep rs).getD k 0))).bind (fun S => S.persist (a : Int) 16)
theorem slotW_lt {ep : Nat} {rs : List Int} (hep : ep < 18446744073709551616) (k : Nat) : (slotW ep rs).getD k 0 < 18446744073709551616 := by
 rw [List.getD_eq_getElem?_getD]
 cases h : (slotW ep rs)[k]? with
 | none => simp
 | some x =>
  have hm := List.mem_of_getElem? h
  show x < _
  unfold slotW at hm
  split at hm
  ·rename_i hr
   have hw0 := wordsN_lt (slotH ep (rs.map Int.toNat) 0)
   have hw1 := wordsN_lt (slotH ep (rs.map Int.toNat) 1)
   have hg : ∀ i, (rs.map Int.toNat).getD i 0 < 131072 := fun i => by
    rw [List.getD_eq_getElem?_getD]
    cases hx : (rs.map Int.toNat)[i]? with
    | none => simp
    | some y =>
     obtain ⟨r, hr1, rfl⟩ := List.mem_map.1 (List.mem_of_getElem? hx)
     obtain ⟨n, rfl, hn⟩ := slotR_nat hr r hr1
     simpa using hn
   have hh : ∀ n, n ≤ 1 → ∀ z ∈ slotLn ep (rs.map Int.toNat) n, z < 18446744073709551616 := fun n hn z hz => by
    unfold slotLn at hz
    rcases List.mem_append.1 hz with hz | hz
    ·unfold slotH at hz
     simp only [List.mem_cons, List.not_mem_nil, or_false] at hz
     have g0 := hg (4 * n)
     have g1 := hg (4 * n + 1)
     have g2 := hg (4 * n + 2)
     have g3 := hg (4 * n + 3)
     rcases hz with rfl | rfl | rfl | rfl | rfl | rfl | rfl <;> omega
    ·simp only [List.mem_cons, List.not_mem_nil, or_false] at hz
     have := wordsN_lt (slotH ep (rs.map Int.toNat) n)
     omega
   unfold slotE at hm
   rcases List.mem_append.1 hm with hm | hm
   ·exact hh 0 (by omega) x hm
   ·exact hh 1 (by omega) x hm
  ·have := List.eq_of_mem_replicate hm
   omega
theorem rtwrite_any {w : World} {F : Foot} {S : Dev} (h : DevAt w F S) {N : Nat} (hN : N ≤ 900000000) (ho : S.ok N) (i : Nat) (hi : i ≤ 1) (ep : Nat) (rs : List Int) (hl : rs.length = 8) (hep : ep < 18446744073709551616) :
  Calls Tryz.prog 107 #[vdev F, .int .i64 (i : Int), slotVal ep rs] w (DonePost (S.writeSlot (64 + 64 * i) ep rs) F w) := by
 have hsl := slotAt_any i hi
 obtain ⟨a, ha⟩ : ∃ a, a = 64 + 64 * i := ⟨_, rfl⟩
 rw [← ha] at hsl ⊢
 have ha1 : a ≤ 128 := by omega
 have HSl := LH hsl
 have HP : Hid (∀ (D : Done) w', D = S.writeSlot a ep rs → DevAt w' F D.dev → Touch F.list w w' → DonePost (S.writeSlot a ep rs) F w (.returned (.int .i64 D.err)) w') := LH (fun D w' h1 h2 h3 => by rw [← h1]; exact ⟨rfl, h2, h3⟩)
 generalize DonePost (S.writeSlot a ep rs) F w = Post at *
 have HEn := LH (slencode_any ep rs hl hep)
 obtain ⟨f, hf⟩ : ∃ f : Nat → Nat, f = fun k => (slotW ep rs).getD k 0 := ⟨_, rfl⟩
 have HF2 : Hid (∀ (D : Done) w', D = (S.stores (slotL a f)).bind (fun S => S.persist (a : Int) 16) → DevAt w' F D.dev → Touch F.list w w' → Post (.returned (.int .i64 D.err)) w') := LH (fun D w' h1 => HP.out D w' (by rw [h1, hf]; rfl))
 have HF : Hid (∀ k, f k < 18446744073709551616) := LH (fun k => by rw [hf]; exact slotW_lt hep k)
 obtain ⟨A, hA⟩ : ∃ A : Array Value, A = ((slotW ep rs).map vu64).toArray := ⟨_, rfl⟩
 have HAs : Hid (A.size = 16) := LH (by rw [hA]; simp [slotW_len])
 have HA : Hid (∀ k, k < 16 → A[k]? = some (vu64 (f k))) := LH (fun k hk => by
  rw [hA, hf]
  have hk2 : k < (slotW ep rs).length := by rw [slotW_len]; exact hk
  simp only [List.getElem?_toArray, List.getElem?_map, List.getElem?_eq_getElem hk2, Option.map_some, List.getD_eq_getElem?_getD, Option.getD_some])
 unfold SlPost at HEn
 rw [show arrW (slotW ep rs) = .agg A from by rw [hA]; rfl] at HEn
 have HD := LH h
 have HO := LH ho
 have HB0 := LH h.mem
 obtain ⟨r0, r1, r2, r3, r4, r5, r6, r7, rfl⟩ := eight_ints hl
 rw [show slotVal ep [r0, r1, r2, r3, r4, r5, r6, r7] = .agg #[vu64 ep, .int .i64 r0, .int .i64 r1, .int .i64 r2, .int .i64 r3, .int .i64 r4, .int .i64 r5, .int .i64 r6, .int .i64 r7] from rfl] at HEn ⊢
 have HA16 : Hid (∃ b0 b1 b2 b3 b4 b5 b6 b7 b8 b9 b10 b11 b12 b13 b14 b15, A = #[vu64 b0, vu64 b1, vu64 b2, vu64 b3, vu64 b4, vu64 b5, vu64 b6, vu64 b7, vu64 b8, vu64 b9, vu64 b10, vu64 b11, vu64 b12, vu64 b13, vu64 b14, vu64 b15]) := LH (by
  obtain ⟨a0, a1, a2, a3, a4, a5, a6, a7, a8, a9, a10, a11, a12, a13, a14, a15, hs⟩ := sixteen_list (slotW_len ep [r0, r1, r2, r3, r4, r5, r6, r7])
  rw [hA, hs]
  exact ⟨_, _, _, _, _, _, _, _, _, _, _, _, _, _, _, _, rfl⟩)
 clear hf hA h ho hsl ha HP hl hep
 have HM := LH (Mem.one w #[vu64 ep, .int .i64 r0, .int .i64 r1, .int .i64 r2, .int .i64 r3, .int .i64 r4, .int .i64 r5, .int .i64 r6, .int .i64 r7] 154)
 go_enter Tryz.func107, Tryz.ntmps107
 go_upto_region 1 with fail
 obtain ⟨q1, hq1⟩ : ∃ q, q = w.heap.size := ⟨_, rfl⟩
 rw [← hq1] at HM ⊢
 generalize w.alloc _ = w1 at *
 clear hq1
 have HM1 : Hid (Mem w w1 [⟨q1, 154, [vu64 ep, .int .i64 r0, .int .i64 r1, .int .i64 r2, .int .i64 r3, .int .i64 r4, .int .i64 r5, .int .i64 r6, .int .i64 r7], true⟩]) := LH (by simpa using HM.out)
 clear HM
 go_wp2_with fail
 refine (HSl.out _).mono ?_
 rintro e w2 ⟨rfl, rfl⟩
 go_wp2_with (refine wpList_load_mem aggSl HM1.out 0 rfl rfl rfl rfl rfl ?_)
 refine (HEn.out _).mono ?_
 rintro e w3 ⟨rfl, hb3⟩
 have HM3 := LH (HM1.out.later hb3)
 have HM4 : Hid (Mem w (w3.alloc (.cells A 113)) [⟨q1, 154, [vu64 ep, .int .i64 r0, .int .i64 r1, .int .i64 r2, .int .i64 r3, .int .i64 r4, .int .i64 r5, .int .i64 r6, .int .i64 r7], true⟩, ⟨w3.heap.size, 113, A.toList, true⟩]) := LH (HM3.out.alloc A 113)
 clear hb3 HM1 HSl HEn
 obtain ⟨b0, b1, b2, b3, b4, b5, b6, b7, b8, b9, b10, b11, b12, b13, b14, b15, hA16⟩ := HA16.out
 rw [hA16]
 go_upto_region 3 with fail
 rw [← hA16]
 obtain ⟨q2, hq2⟩ : ∃ q, q = w3.heap.size := ⟨_, rfl⟩
 rw [← hq2] at HM4 ⊢
 generalize w3.alloc _ = w4 at *
 clear hq2 HM3 hA16 HA16
 have HDev := LH (HD.out.below HM4.out.below)
 have hq2l := HM4.out.gbase 1 rfl
 have HQF : Hid (q2 ∉ F.list) := LH (fun hm => by have := HB0.out _ hm; omega)
 have HC8 : Hid (∀ k, k < 16 → w4.cell? ⟨q2, k, none⟩ = some (vu64 (f k))) := LH (fun k hk => HM4.out.cell 1 k rfl (by rw [Array.getElem?_toList]; exact HA.out k hk))
 have HT4 : Hid (Touch F.list w w4) := LH (Touch.ofBelow HM4.out.below)
 clear hq2l
 go_wp2_with (refine wpList_load_box agg16 HM4.out 1 rfl HAs.out rfl rfl rfl ?_)
 clear HM4
 go_loopw [19] (fun iv wr => ∃ (k : Nat) (T : Dev), k ≤ 16 ∧ iv = .int .i64 (k : Int) ∧ Hid (DevAt wr F T) ∧ Hid (Touch F.list w wr) ∧ Hid (T.ok (N + k)) ∧ Hid (∀ k, k < 16 → wr.cell? ⟨q2, k, none⟩ = some (vu64 (f k))) ∧ Hid (T.stores (skipL a f k ++ [(a, f 0), (a + 8, f 8)]) = S.stores (slotL a f))) (fun iv _ => 16 - (intOf iv).toNat)
 case atStart => exact ⟨0, S, by omega, rfl, HDev, HT4, HO, HC8, LH rfl⟩
 case round =>
  obtain ⟨k, T, hk, rfl, HDr, HTr, HOr, HCr, HSt⟩ := hrel
  clear HC8 HT4 HDev HD
  by_cases hlt : k < 16
  ·have hlt' : (k : Int) < 16 := by omega
   obtain ⟨m, hm⟩ : ∃ m, m = k % 8 := ⟨_, rfl⟩
   have hm8 : (k : Int) % 8 = (m : Int) := by omega
   by_cases hz : m = 0
   ·have HSt2 := LH (by rw [skipL_skip a f hlt (by omega)] at HSt; exact HSt.out)
    subst hz
    clear hm HSt
    go_wp2_with (refine wpList_index_arr k Tryz.underlying113 Tryz.underlying40 rfl (by kernel_rfl) rfl hlt (HA.out k hlt) rfl rfl rfl rfl ?_)
    exact ⟨⟨k + 1, T, by omega, vint (by omega), HDr, HTr, LH (HOr.out.mono (by omega)), HCr, HSt2⟩, by simp [intOf]; omega⟩
   ·have HSt1 := LH (by rw [skipL_cons a f hlt (by omega), List.cons_append] at HSt; exact HSt.out)
    have HSc := LH (stores_cons T (a + k) (f k) (skipL a f (k + 1) ++ [(a, f 0), (a + 8, f 8)]))
    have HSt2 := LH (HSc.out.symm.trans HSt1.out)
    have hz' : ((m : Int) == 0) = false := by rw [beq_eq_false_iff_ne]; omega
    have hm7 : m < 8 := by omega
    clear hm HSt HSt1 HSc hz
    have hak : (a : Int) + (k : Int) = ((a + k : Nat) : Int) := by omega
    obtain ⟨j, hj⟩ : ∃ j, j = a + k := ⟨_, rfl⟩
    have hj9 : j ≤ 1000 := by omega
    rw [← hj] at HSt2 hak
    clear hj
    go_wp2_with (refine wpList_index_arr k Tryz.underlying113 Tryz.underlying40 rfl (by kernel_rfl) rfl hlt (HA.out k hlt) rfl rfl rfl rfl ?_)
    refine (store_any HDr.out (N := N + k) (by omega) HOr.out (j : Int) (f k) (HF.out k)).mono ?_
    rintro e w6 ⟨rfl, hd6, ht6⟩
    have HD6 := LH hd6
    have HT6 := LH (HTr.out.trans ht6)
    have HO6 := LH (Dev.store_okN HOr.out (j : Int) (f k))
    have HC6 : Hid (∀ k, k < 16 → w6.cell? ⟨q2, k, none⟩ = some (vu64 (f k))) := LH (fun k hk => cell_of_touch ht6 HQF.out (HCr.out k hk))
    clear hd6 ht6
    by_cases he : T.storeE (j : Int) = 0
    ·have HSt3 := LH (by rw [if_neg (by simp [he])] at HSt2; exact HSt2.out)
     rw [he]
     generalize T.store (j : Int) (f k) = T' at *
     clear he HSt2 HDr HTr HOr HCr hak
     go_wp2_with fail
     exact ⟨⟨k + 1, T', by omega, vint (by omega), HD6, HT6, LH (HO6.out.mono (by omega)), HC6, HSt3⟩, by simp [intOf]; omega⟩
    ·have HSt3 := LH (by rw [if_pos he] at HSt2; exact HSt2.out)
     obtain ⟨er, her⟩ : ∃ er, er = T.storeE (j : Int) := ⟨_, rfl⟩
     have her1 : -9223372036854775808 ≤ er ∧ er ≤ 9223372036854775807 := by
      rw [her]; unfold Dev.storeE; split
      ·omega
      ·split <;> omega
     rw [← her] at he HSt3 ⊢
     have he' : (er != 0) = true := by simpa using he
     generalize T.store (j : Int) (f k) = T' at *
     have HF3 := LH (fun w' => HF2.out ⟨T', er⟩ w' (by rw [← HSt3.out, Done.bind_err _ he]))
     clear he her HSt2 HDr HTr HOr HSt3 HCr hak
     go_wp2_with fail
     exact HF3.out _ HD6.out HT6.out
  ·have hi8 : k = 16 := by omega
   have hltd : decide ((k : Int) < 16) = false := by simp; omega
   have HSt2 : Hid (T.stores [(a, f 0), (a + 8, f 8)] = S.stores (slotL a f)) := LH (by rw [← HSt.out, hi8, skipL_end]; rfl)
   have HOr2 : Hid (T.ok (N + 16)) := LH (by rw [hi8] at HOr; exact HOr.out)
   clear HSt hi8 HOr
   go_wp2_with fail
   go_loopw [12] (fun iv wr => ∃ (k : Nat) (T : Dev), k ≤ 2 ∧ iv = .int .i64 ((8 * k : Nat) : Int) ∧ Hid (DevAt wr F T) ∧ Hid (Touch F.list w wr) ∧ Hid (T.ok (N + 16 + k)) ∧ Hid (∀ k, k < 16 → wr.cell? ⟨q2, k, none⟩ = some (vu64 (f k))) ∧ Hid (T.stores (([(a, f 0), (a + 8, f 8)] : List (Nat × Nat)).drop k) = S.stores (slotL a f))) (fun iv _ => 16 - (intOf iv).toNat)
   case atStart => exact ⟨0, T, by omega, rfl, HDr, HTr, HOr2, HCr, HSt2⟩
   case round =>
    obtain ⟨n, T, hk, rfl, HDr, HTr, HOr, HCr, HSt⟩ := hrel
    rcases (by omega : n = 0 ∨ n = 1 ∨ n = 2) with rfl | rfl | rfl
    ·rw [show ((8 * 0 : Nat) : Int) = 0 from rfl]
     have HSc := LH (stores_cons T a (f 0) [(a + 8, f 8)])
     have HSt2 := LH (HSc.out.symm.trans HSt.out)
     have c0 := HCr.out 0 (by omega)
     clear HSt HSc
     go_wp2_with fail
     refine (store_any HDr.out (N := N + 16 + 0) (by omega) HOr.out (a : Int) (f 0) (HF.out 0)).mono ?_
     rintro e w6 ⟨rfl, hd6, ht6⟩
     have HD6 := LH hd6
     have HT6 := LH (HTr.out.trans ht6)
     have HO6 := LH (Dev.store_okN HOr.out (a : Int) (f 0))
     have HC6 : Hid (∀ k, k < 16 → w6.cell? ⟨q2, k, none⟩ = some (vu64 (f k))) := LH (fun k hk => cell_of_touch ht6 HQF.out (HCr.out k hk))
     clear hd6 ht6 c0
     by_cases he : T.storeE (a : Int) = 0
     ·have HSt3 := LH (by rw [if_neg (by simp [he])] at HSt2; exact HSt2.out)
      rw [he]
      generalize T.store (a : Int) (f 0) = T' at *
      clear he HSt2 HDr HTr HOr HCr
      go_wp2_with fail
      exact ⟨⟨1, T', by omega, rfl, HD6, HT6, HO6, HC6, HSt3⟩, by simp [intOf]⟩
     ·have HSt3 := LH (by rw [if_pos he] at HSt2; exact HSt2.out)
      obtain ⟨er, her⟩ : ∃ er, er = T.storeE (a : Int) := ⟨_, rfl⟩
      have her1 : -9223372036854775808 ≤ er ∧ er ≤ 9223372036854775807 := by
       rw [her]; unfold Dev.storeE; split
       ·omega
       ·split <;> omega
      rw [← her] at he HSt3 ⊢
      have he' : (er != 0) = true := by simpa using he
      generalize T.store (a : Int) (f 0) = T' at *
      have HF3 := LH (fun w' => HF2.out ⟨T', er⟩ w' (by rw [← HSt3.out, Done.bind_err _ he]))
      clear he her HSt2 HDr HTr HOr HSt3 HCr
      go_wp2_with fail
      exact HF3.out _ HD6.out HT6.out
    ·rw [show ((8 * 1 : Nat) : Int) = 8 from rfl]
     have HSc := LH (stores_cons T (a + 8) (f 8) [])
     have HSt2 := LH (HSc.out.symm.trans HSt.out)
     have c0 := HCr.out 8 (by omega)
     have hak : (a : Int) + 8 = ((a + 8 : Nat) : Int) := by omega
     obtain ⟨j, hj⟩ : ∃ j, j = a + 8 := ⟨_, rfl⟩
     have hj9 : j ≤ 1000 := by omega
     rw [← hj] at HSt2 hak
     clear hj HSt HSc
     go_wp2_with fail
     refine (store_any HDr.out (N := N + 16 + 1) (by omega) HOr.out (j : Int) (f 8) (HF.out 8)).mono ?_
     rintro e w6 ⟨rfl, hd6, ht6⟩
     have HD6 := LH hd6
     have HT6 := LH (HTr.out.trans ht6)
     have HO6 := LH (Dev.store_okN HOr.out (j : Int) (f 8))
     have HC6 : Hid (∀ k, k < 16 → w6.cell? ⟨q2, k, none⟩ = some (vu64 (f k))) := LH (fun k hk => cell_of_touch ht6 HQF.out (HCr.out k hk))
     clear hd6 ht6 c0
     by_cases he : T.storeE (j : Int) = 0
     ·have HSt3 := LH (by rw [if_neg (by simp [he])] at HSt2; exact HSt2.out)
      rw [he]
      generalize T.store (j : Int) (f 8) = T' at *
      clear he HSt2 HDr HTr HOr HCr hak
      go_wp2_with fail
      exact ⟨⟨2, T', by omega, rfl, HD6, HT6, HO6, HC6, HSt3⟩, by simp [intOf]⟩
     ·have HSt3 := LH (by rw [if_pos he] at HSt2; exact HSt2.out)
      obtain ⟨er, her⟩ : ∃ er, er = T.storeE (j : Int) := ⟨_, rfl⟩
      have her1 : -9223372036854775808 ≤ er ∧ er ≤ 9223372036854775807 := by
       rw [her]; unfold Dev.storeE; split
       ·omega
       ·split <;> omega
      rw [← her] at he HSt3 ⊢
      have he' : (er != 0) = true := by simpa using he
      generalize T.store (j : Int) (f 8) = T' at *
      have HF3 := LH (fun w' => HF2.out ⟨T', er⟩ w' (by rw [← HSt3.out, Done.bind_err _ he]))
      clear he her HSt2 HDr HTr HOr HSt3 HCr hak
      go_wp2_with fail
      exact HF3.out _ HD6.out HT6.out
    ·rw [show ((8 * 2 : Nat) : Int) = 16 from rfl]
     have HSt2 : Hid (S.stores (slotL a f) = ⟨T, 0⟩) := LH (by rw [← HSt.out]; rfl)
     clear HSt
     go_wp2_with fail
     refine (persist_any HDr.out (N := N + 16 + 2) (by omega) HOr.out (a : Int) 16 (by omega) (by omega)).mono ?_
     rintro e w6 ⟨rfl, hd6, ht6⟩
     have HF3 := LH (fun w' => HF2.out (T.persist (a : Int) 16) w' (by rw [HSt2.out, Done.bind_ok]))
     have HT6 := LH (HTr.out.trans ht6)
     have HD6 := LH hd6
     clear hd6 ht6
     generalize T.persist (a : Int) 16 = D at *
     go_wp2_with fail
     exact HF3.out _ HD6.out HT6.out
theorem rtformat_any {w : World} {F : Foot} {S : Dev} (h : DevAt w F S) {N : Nat} (hN : N ≤ 900000000) (ho : S.ok N) :
  Calls Tryz.prog 65 #[vdev F] w (DonePost (S.writeSlot 64 1 [0, 0, 0, 0, 0, 0, 0, 0]) F w) := by
 have hw := rtwrite_any h hN ho 0 (by omega) 1 [0, 0, 0, 0, 0, 0, 0, 0] rfl (by omega)
 rw [show slotVal 1 [0, 0, 0, 0, 0, 0, 0, 0] = .agg #[.int .u64 1, .int .i64 0, .int .i64 0, .int .i64 0, .int .i64 0, .int .i64 0, .int .i64 0, .int .i64 0, .int .i64 0] from rfl, show ((0 : Nat) : Int) = 0 from rfl] at hw
 have HW := LH hw
 clear hw
 simp only [Nat.mul_zero, Nat.add_zero] at HW
 have HP : Hid (∀ D w', D = S.writeSlot 64 1 [0, 0, 0, 0, 0, 0, 0, 0] → DevAt w' F D.dev → Touch F.list w w' → DonePost (S.writeSlot 64 1 [0, 0, 0, 0, 0, 0, 0, 0]) F w (.returned (.int .i64 D.err)) w') := LH (fun D w' h1 h2 h3 => by rw [← h1]; exact ⟨rfl, h2, h3⟩)
 generalize hD : S.writeSlot 64 1 [0, 0, 0, 0, 0, 0, 0, 0] = D at *
 go_enter Tryz.func65, Tryz.ntmps65
 go_wp2_with fail
 refine HW.out.mono ?_
 rintro e w' ⟨rfl, hd, ht⟩
 have HD := LH hd
 have HT := LH ht
 clear hd ht
 go_wp2_with fail
 go_ret
 exact HP.out D _ rfl HD.out HT.out
def Dev.fmtG (S : Dev) (B : Nat) : Done := (S.stores (upL 256 (fun b => encN (b : Int) 0 0 0) 1 B)).bind (fun S => S.persist 257 ((B : Int) - 1))
theorem formatG_any {w : World} {F : Foot} {S : Dev} (h : DevAt w F S) {N : Nat} (hN : N ≤ 900000000) (ho : S.ok N) (B : Nat) (hB2 : 2 ≤ B) (hB : B ≤ 1000) :
  Calls Tryz.prog 64 #[vdev F, vgeom B] w (DonePost (S.fmtG B) F w) := by
 have HF2 : Hid (∀ (D : Done) w', D = (S.stores (upL 256 (fun b : Nat => encN (b : Int) 0 0 0) 1 B)).bind (fun S => S.persist 257 ((B : Int) - 1)) → DevAt w' F D.dev → Touch F.list w w' → DonePost (S.fmtG B) F w (.returned (.int .i64 D.err)) w') := LH (fun D w' h1 h2 h3 => by rw [show S.fmtG B = D from h1.symm]; exact ⟨rfl, h2, h3⟩)
 generalize DonePost (S.fmtG B) F w = Post at *
 obtain ⟨f, hf⟩ : ∃ f : Nat → Nat, f = fun b : Nat => encN (b : Int) 0 0 0 := ⟨_, rfl⟩
 rw [← hf] at HF2
 have HEnc : Hid (∀ b : Nat, encN (b : Int) 0 0 0 = f b) := LH (fun b => by rw [hf])
 have HF : Hid (∀ k, f k < 18446744073709551616) := LH (fun k => by rw [hf]; exact encN_lt _ _ _ _)
 have hbx := below_alloc w (.cells #[.int .i64 (B : Int)] 44)
 have hcx : (w.alloc (.cells #[.int .i64 (B : Int)] 44)).cell? ⟨w.heap.size, 0, none⟩ = some (.int .i64 (B : Int)) := cell_alloc_new _ _ _ 0 _ rfl
 have HD := LH (h.below hbx)
 have HT : Hid (Touch F.list w (w.alloc (.cells #[.int .i64 (B : Int)] 44))) := LH (Touch.ofBelow hbx)
 have HQ : Hid (w.heap.size ∉ F.list) := LH (fun hm => by have := h.mem _ hm; omega)
 have HO := LH ho
 clear h hbx ho hf
 go_enter Tryz.func64, Tryz.ntmps64
 go_upto_region 1 with fail
 obtain ⟨q, hq⟩ : ∃ q, q = w.heap.size := ⟨_, rfl⟩
 rw [← hq] at hcx HQ ⊢
 generalize w.alloc _ = w0 at *
 clear hq
 go_wp2_with fail
 go_loopw [5] (fun iv wr => ∃ (b : Nat) (T : Dev), 1 ≤ b ∧ b ≤ B ∧ iv = .int .i64 (b : Int) ∧ Hid (DevAt wr F T) ∧ Hid (Touch F.list w wr) ∧ Hid (T.ok (N + b)) ∧ wr.cell? ⟨q, 0, none⟩ = some (.int .i64 (B : Int)) ∧ Hid (T.stores (upL 256 f b B) = S.stores (upL 256 f 1 B))) (fun iv _ => B - (intOf iv).toNat)
 case atStart => exact ⟨1, S, Nat.le_refl _, by omega, rfl, HD, HT, LH (HO.out.mono (by omega)), hcx, LH rfl⟩
 case round =>
  obtain ⟨b, T, hb1, hb2, rfl, HDr, HTr, HOr, hc, HSt⟩ := hrel
  clear hcx HD HT
  by_cases hlt : b < B
  ·have hlt' : (b : Int) < (B : Int) := by omega
   have HSt1 := LH (by rw [upL_cons 256 f hlt] at HSt; exact HSt.out)
   have HSc := LH (stores_cons T (256 + b) (f b) (upL 256 f (b + 1) B))
   have HSt2 := LH (HSc.out.symm.trans HSt1.out)
   clear HSt1 HSc HSt
   go_wp2_with fail
   refine (gheader_any _ _ _ (by omega)).mono ?_
   rintro e w1 ⟨rfl, hb1'⟩
   have HH : Hid (hdAt (B : Int) (b : Int) = ((256 + b : Nat) : Int)) := LH (by unfold hdAt; rw [if_neg (by omega)]; omega)
   rw [HH.out]
   obtain ⟨j, hj⟩ : ∃ j, j = 256 + b := ⟨_, rfl⟩
   have hj9 : j ≤ 2000 := by omega
   rw [← hj] at HSt2 ⊢
   clear hj HH
   have hc1 := below_cells hb1' hc (Nat.le_refl _)
   have HD1 := LH (HDr.out.below hb1')
   have HT1 : Hid (Touch F.list w w1) := LH (HTr.out.trans (Touch.ofBelow hb1'))
   clear hb1' hc HDr HTr
   go_wp2_with fail
   refine (bencode_any (b : Int) 0 0 0 (by omega) (by omega) _).mono ?_
   rintro e w2 ⟨rfl, hb2'⟩
   rw [HEnc.out b]
   have hc2 := below_cells hb2' hc1 (Nat.le_refl _)
   have HD2 := LH (HD1.out.below hb2')
   have HT2 : Hid (Touch F.list w w2) := LH (HT1.out.trans (Touch.ofBelow hb2'))
   clear hb2' hc1 HD1 HT1
   go_wp2_with fail
   refine (store_any HD2.out (N := N + b) (by omega) HOr.out (j : Int) (f b) (HF.out b)).mono ?_
   rintro e w3 ⟨rfl, hd3, ht3⟩
   have hc3 : w3.cell? ⟨q, 0, none⟩ = some (.int .i64 (B : Int)) := cell_of_touch ht3 HQ.out hc2
   have HD3 := LH hd3
   have HT3 : Hid (Touch F.list w w3) := LH (HT2.out.trans ht3)
   have HO3 := LH (Dev.store_okN HOr.out (j : Int) (f b))
   clear hd3 ht3 hc2 HD2 HT2
   by_cases he : T.storeE (j : Int) = 0
   ·have HSt3 := LH (by rw [if_neg (by simp [he])] at HSt2; exact HSt2.out)
    rw [he]
    generalize T.store (j : Int) (f b) = T' at *
    clear he HSt2 HOr
    go_wp2_with fail
    exact ⟨⟨b + 1, T', by omega, by omega, vint (by omega), HD3, HT3, LH (HO3.out.mono (by omega)), hc3, HSt3⟩, by simp [intOf]; omega⟩
   ·have HSt3 := LH (by rw [if_pos he] at HSt2; exact HSt2.out)
    obtain ⟨er, her⟩ : ∃ er, er = T.storeE (j : Int) := ⟨_, rfl⟩
    have her1 : -9223372036854775808 ≤ er ∧ er ≤ 9223372036854775807 := by
     rw [her]; unfold Dev.storeE; split
     ·omega
     ·split <;> omega
    rw [← her] at he HSt3 ⊢
    have he' : (er != 0) = true := by simpa using he
    generalize T.store (j : Int) (f b) = T' at *
    have HF3 := LH (fun w' => HF2.out ⟨T', er⟩ w' (by rw [← HSt3.out, Done.bind_err _ he]))
    clear he her HSt2 HOr HSt3
    go_wp2_with fail
    exact HF3.out _ HD3.out HT3.out
  ·have HSt2 : Hid (S.stores (upL 256 f 1 B) = ⟨T, 0⟩) := LH (by rw [← HSt.out, upL_nil _ _ (by omega)]; rfl)
   obtain rfl : b = B := by omega
   have hlt' : decide ((b : Int) < (b : Int)) = false := by simp
   have hw1 : IntKind.i64.wrap ((b : Int) - 1) = (b : Int) - 1 := IntWalk.i64_in _ (by omega)
   clear HSt
   go_wp2_with fail
   have hcl : ∀ x : Later wr, x.val.cell? ⟨q, 0, none⟩ = some (.int .i64 (b : Int)) := fun x => later_cell hc x
   refine wp_region_later_tail 6 ?hn ?hm ?hB ?_
   case hn => exact Nat.le_of_ble_eq_true rfl
   case hm => kernel_rfl
   case hB => kernel_rfl
   simp only [List.take_succ_cons, List.take_zero, List.drop_succ_cons, List.drop_zero]
   repeat (quiet_step ((rename_i x; exact calls_later (gheader_any _ _ _ (by omega)))))
   refine wpQuiet_nil ?_
   rintro w5 ⟨x, hx5⟩
   have hd5 := HDr.out.below x.below
   have ht5 : Touch F.list w x.val := HTr.out.trans (Touch.ofBelow x.below)
   rw [← hx5] at hd5 ht5
   have HD5 := LH hd5
   have HT5 := LH ht5
   have HH : Hid (hdAt (b : Int) 1 = 257) := LH (by unfold hdAt; rw [if_neg (by omega)]; rfl)
   rw [HH.out]
   clear hx5 x HDr HTr hd5 ht5 hw1
   go_wp2_with fail
   refine (persist_any HD5.out (N := N + b) (by omega) HOr.out _ _ (by omega) (by omega)).mono ?_
   rintro e w6 ⟨rfl, hd6, ht6⟩
   have HF3 := LH (fun w' => HF2.out (T.persist 257 ((b : Int) - 1)) w' (by rw [HSt2.out, Done.bind_ok]))
   have HT6 := LH (HT5.out.trans ht6)
   have HD6 := LH hd6
   clear hd6 ht6
   generalize T.persist 257 ((b : Int) - 1) = D at *
   go_wp2_with fail
   exact HF3.out _ HD6.out HT6.out
end
section
open Go.Maps
theorem supR_ok {S : Dev} (h : (supR S).2.2 = 0) : 2 ≤ (supR S).1 ∧ (supR S).1 ≤ 256 ∧ 512 * (supR S).1 = S.cache.length := by
 unfold supR at h ⊢
 by_cases c : (supD (dwordsAt S 0 8)).2.2 ≠ 0 ∨ 512 * (supD (dwordsAt S 0 8)).1 ≠ S.cache.length
 ·rw [if_pos c] at h; simp at h
 ·rw [if_neg c] at h ⊢
  have h2 : 512 * (supD (dwordsAt S 0 8)).1 = S.cache.length := by
   by_cases d : 512 * (supD (dwordsAt S 0 8)).1 = S.cache.length
   ·exact d
   ·exact absurd (.inr d) c
  refine ⟨?_, supD_small _, h2⟩
  unfold supD at h ⊢
  split at h
  ·simp at h
  ·split at h
   ·simp at h
   ·split at h
    ·rename_i c1 c2 c3
     rw [if_neg c1, if_neg c2, if_pos c3]
     exact c3.1
    ·simp at h
theorem supR_err (S : Dev) : (supR S).2.2 = 0 ∨ supR S = (0, 0, 20) := by
 unfold supR
 by_cases c : (supD (dwordsAt S 0 8)).2.2 ≠ 0 ∨ 512 * (supD (dwordsAt S 0 8)).1 ≠ S.cache.length
 ·rw [if_pos c]; exact .inr rfl
 ·rw [if_neg c]
  refine .inl ?_
  by_cases d : (supD (dwordsAt S 0 8)).2.2 = 0
  ·exact d
  ·exact absurd (.inl d) c
theorem slotD_right {ws : List Nat} (h : (slotD ws).2.2 = 0) : slotR (slotD ws).1 (slotD ws).2.1 = true := by
 unfold slotD at h ⊢
 split at h
 ·simp at h
 ·split at h
  ·simp at h
  ·split at h
   ·rename_i c1 c2 c3
    rw [if_neg c1, if_neg c2, if_pos c3]
    exact c3.1
   ·simp at h
theorem rootsN_right {S : Dev} (h : (rootsN S).2.2.2 = true) : slotR (rootsN S).1 (rootsN S).2.1 = true := by
 unfold rootsN at h ⊢
 unfold slotC at h ⊢
 split at h
 ·rename_i c
  rw [if_pos c]
  exact slotD_right c.1
 ·rename_i c1
  split at h
  ·rename_i c2
   rw [if_neg c1, if_pos c2]
   exact slotD_right c2
  ·simp at h
def rootL (S : Dev) : List Nat := (rootsN S).2.1.map Int.toNat
theorem rootL_cast {S : Dev} (h : (rootsN S).2.2.2 = true) : (rootsN S).2.1 = (rootL S).map (fun n : Nat => (n : Int)) := by
 unfold rootL
 rw [List.map_map]
 refine (List.map_id _).symm.trans (List.map_congr_left (fun r hr => ?_))
 obtain ⟨n, rfl, _⟩ := slotR_nat (rootsN_right h) r hr
 rfl
theorem rootL_lt {S : Dev} (h : (rootsN S).2.2.2 = true) : ∀ x ∈ rootL S, x < 131072 := fun x hx => by
 obtain ⟨r, hr, rfl⟩ := List.mem_map.1 hx
 obtain ⟨n, rfl, hn⟩ := slotR_nat (rootsN_right h) r hr
 exact hn
def lookL (S : Dev) : List Hd := hds (devWord S) (supR S).1
open Classical in
noncomputable def lookE (S : Dev) : Int :=
 if (supR S).2.2 ≠ 0 then 20 else if ¬ AllOk (devWord S) (supR S).1 then 21 else if (rootsN S).2.2.2 = false then 23 else if ¬ CloOk (okN S (lookL S)) (ptrN S) (rootL S) then 22 else 0
def stV (n id : Nat) (al rt lv : Value) : Value := .agg #[.int .i64 (n : Int), vu64 id, .int .i64 (n : Int), al, rt, lv]
def stZ : Array Value := #[.int .i64 0, .int .u64 0, .int .i64 0, .pointer none, .pointer none, .slice none 0 0]
theorem aggSt : Agg Tryz.prog 49 #[.int .i64 0, .int .u64 0, .int .i64 0, .pointer none, .pointer none, .slice none 0 0] := ⟨⟨_, Tryz.underlying49, rfl⟩, by kernel_rfl⟩
def LookPost (S : Dev) (F : Foot) (w : World) : Ending → World → Prop := fun e w' => Below w.heap.size w w' ∧
  ((lookE S = 0 ∧ ∃ g lg lc lv ys, e = .returned (.tuple #[stV (supR S).1 (supR S).2.1 (.pointer none) (.pointer (some ⟨g, 0, none⟩)) lv, .slice (some ⟨lg, 0, none⟩) (supR S).1 lc, .int .i64 0]) ∧
      RootsAt w' g F (rootsN S).1 (rootsN S).2.1 (rootsN S).2.2.1 ∧ w.heap.size ≤ g ∧ RowAt w' lg 107 (hdCs (lookL S)) ∧ w.heap.size ≤ lg ∧ (supR S).1 ≤ lc ∧
      OwnI w' lv ys ∧ ys.Pairwise (· < ·) ∧ (∀ x, x ∈ ys ↔ Rch (okN S (lookL S)) (ptrN S) (rootL S) x) ∧ (∀ b, rowOf lv = some b → w.heap.size ≤ b)) ∨
   (lookE S ≠ 0 ∧ e = .returned (.tuple #[.agg stZ, .slice none 0 0, .int .i64 (lookE S)])))
theorem look_any {w : World} {F : Foot} {S : Dev} (h : DevAt w F S) :
  Calls Tryz.prog 12 #[vdev F] w (LookPost S F w) := by
 have HF : Hid (∀ (c : Int) w', lookE S = c → c ≠ 0 → Below w.heap.size w w' → LookPost S F w (.returned (.tuple #[.agg stZ, .slice none 0 0, .int .i64 c])) w') := LH (fun c w' h1 h2 h3 => ⟨h3, .inr ⟨by rw [h1]; exact h2, by rw [h1]⟩⟩)
 obtain ⟨⟨n, id, e0⟩, hX⟩ : ∃ X, X = supR S := ⟨_, rfl⟩
 have HY : Hid (∀ g lg lc lv ys w', lookE S = 0 → Below w.heap.size w w' → RootsAt w' g F (rootsN S).1 (rootsN S).2.1 (rootsN S).2.2.1 → w.heap.size ≤ g → RowAt w' lg 107 (hdCs (lookL S)) → w.heap.size ≤ lg → n ≤ lc →
   OwnI w' lv ys → ys.Pairwise (· < ·) → (∀ x, x ∈ ys ↔ Rch (okN S (lookL S)) (ptrN S) (rootL S) x) → (∀ b, rowOf lv = some b → w.heap.size ≤ b) →
   LookPost S F w (.returned (.tuple #[stV n id (.pointer none) (.pointer (some ⟨g, 0, none⟩)) lv, .slice (some ⟨lg, 0, none⟩) n lc, .int .i64 0])) w') := LH (fun g lg lc lv ys w' h1 h2 h3 h4 h5 h6 h7 h8 h9 h10 h11 =>
  ⟨h2, .inl ⟨h1, g, lg, lc, lv, ys, by rw [← hX], h3, h4, h5, h6, by rw [← hX]; exact h7, h8, h9, h10, h11⟩⟩)
 generalize LookPost S F w = Post at *
 have HX := LH hX
 have HSu := LH (fun w' (hb : Below w.heap.size w w') => sread_any (h.below hb))
 rw [← hX] at HSu
 have HD := LH h
 have HEr := LH (supR_err S)
 unfold SdPost at HSu
 dsimp only at HSu
 have hid : id < 18446744073709551616 := by
  rcases supR_err S with c | c
  ·have : (supR S).2.1 < 18446744073709551616 := by
    unfold supR
    split
    ·decide
    ·unfold supD
     split
     ·decide
     ·split
      ·decide
      ·split
       ·show (dwordsAt S 0 8).getD 3 0 < _
        rw [List.getD_eq_getElem?_getD]
        cases hq : (dwordsAt S 0 8)[3]? with
        | none => simp
        | some x => exact dwordsAt_lt h.u64C 0 8 x (List.mem_of_getElem? hq)
       ·decide
   rw [← hX] at this; exact this
  ·rw [← hX] at c; injection c with c1 c2; injection c2 with c2 c3; omega
 clear h hX
 have HM := LH (Mem.one w #[.int .i64 0, .int .u64 0, .int .i64 0, .pointer none, .pointer none, .slice none 0 0] 49)
 go_enter Tryz.func12, Tryz.ntmps12
 go_upto_region 1 with fail
 obtain ⟨q1, hq1⟩ : ∃ q, q = w.heap.size := ⟨_, rfl⟩
 rw [← hq1] at HM ⊢
 generalize w.alloc _ = w1 at *
 clear hq1
 have HM1 : Hid (Mem w w1 [⟨q1, 49, [.int .i64 0, .int .u64 0, .int .i64 0, .pointer none, .pointer none, .slice none 0 0], true⟩]) := LH (by simpa using HM.out)
 clear HM
 go_wp2_with fail
 refine (HSu.out w1 HM1.out.below).mono ?_
 rintro e w2 ⟨rfl, hb2⟩
 have HM2 := LH ((HM1.out.later hb2).alloc #[.int .i64 (n : Int), vu64 id] 42)
 clear hb2 HM1 HSu
 go_upto_region 2 with fail
 obtain ⟨q2, hq2⟩ : ∃ q, q = w2.heap.size := ⟨_, rfl⟩
 rw [← hq2] at HM2 ⊢
 generalize w2.alloc _ = w3 at *
 clear hq2
 have HM3 : Hid (Mem w w3 [⟨q1, 49, [.int .i64 0, .int .u64 0, .int .i64 0, .pointer none, .pointer none, .slice none 0 0], true⟩, ⟨q2, 42, [.int .i64 (n : Int), vu64 id], true⟩]) := LH (by simpa using HM2.out)
 clear HM2
 by_cases he : e0 = 0
 case neg =>
  have he20 : e0 = 20 := by
   rcases HEr.out with c | c
   ·rw [← HX.out] at c; exact absurd c he
   ·rw [← HX.out] at c; injection c with _ c; injection c
  subst he20
  have HE : Hid (lookE S = 20) := LH (by unfold lookE; rw [← HX.out, if_pos he])
  have HG := LH (fun w' h => HF.out 20 w' HE.out (by decide) h)
  clear he
  go_wp2_with (refine wpList_store_mem aggSt HM3.out 0 rfl rfl rfl rfl rfl rfl rfl rfl ?_; intro w6 h6 ht6; have H6 := LH h6; clear h6 ht6)
  refine bodyPost_ret (results_sl3 (p := 2) (s := 3) (u := 4) rfl _ _ _ _ _ _ _ rfl (H6.out.exact 0 rfl) Tryz.underlying49 rfl (by kernel_rfl)) rfl ?_
  exact HG.out _ H6.out.below
 subst he
 have hno := supR_ok (S := S) (by rw [← HX.out])
 rw [← HX.out] at hno
 obtain ⟨hn2, hn256, hnl⟩ := hno
 have HNl := LH hnl
 dsimp only at hn2 hn256
 have c0 := HM3.out.cell 1 0 rfl rfl
 have HM4 := LH (HM3.out.alloc #[.int .i64 (n : Int)] 44)
 clear hnl
 go_upto_region 5 with fail
 obtain ⟨q3, hq3⟩ : ∃ q, q = w3.heap.size := ⟨_, rfl⟩
 rw [← hq3] at HM4 ⊢
 generalize w3.alloc _ = w4 at *
 clear hq3 c0
 have HM5 : Hid (Mem w w4 [⟨q1, 49, [.int .i64 0, .int .u64 0, .int .i64 0, .pointer none, .pointer none, .slice none 0 0], true⟩, ⟨q2, 42, [.int .i64 (n : Int), vu64 id], true⟩, ⟨q3, 44, [.int .i64 (n : Int)], true⟩]) := LH (by simpa using HM4.out)
 clear HM4 HM3
 have c0 := HM5.out.cell 2 0 rfl rfl
 go_wp2_with fail
 refine (read_any (HD.out.below HM5.out.below) n (by omega) (by omega)).mono ?_
 rintro e w5 ⟨hb5, ⟨hall, lg, lc, rfl, hlg, hlc, hrow⟩ | ⟨b, hb1, hb2, _, hbad, rfl⟩⟩
 case inr =>
  have HM6 := LH (HM5.out.later hb5)
  have HE : Hid (lookE S = 21) := LH (by
   have : ¬ AllOk (devWord S) n := fun hh => hbad (hh b hb1 hb2)
   unfold lookE
   rw [← HX.out, if_neg (by simp), if_pos this])
  have HG := LH (fun w' h => HF.out 21 w' HE.out (by decide) h)
  clear hb5 hbad hb1 hb2 c0
  go_wp2_with (refine wpList_store_mem aggSt HM6.out 0 rfl rfl rfl rfl rfl rfl rfl rfl ?_; intro w6 h6 ht6; have H6 := LH h6; clear h6 ht6)
  refine bodyPost_ret (results_sl3 (p := 2) (s := 3) (u := 4) rfl _ _ _ _ _ _ _ rfl (H6.out.exact 0 rfl) Tryz.underlying49 rfl (by kernel_rfl)) rfl ?_
  exact HG.out _ H6.out.below
 have HM6 := LH (HM5.out.later hb5)
 have HRow := LH hrow
 have HLg : Hid (w.heap.size ≤ lg) := LH (Nat.le_trans HM5.out.below.size hlg)
 have HLq : Hid (q1 < lg) := LH (Nat.lt_of_lt_of_le (HM5.out.glt 0 rfl) hlg)
 have HAll := LH hall
 have HLe : Hid (lookL S = hds (devWord S) n) := LH (by unfold lookL; rw [← HX.out])
 clear hb5 hall hlg hrow c0 HM5
 go_wp2_with fail
 refine (rtopen_any (HD.out.below HM6.out.below)).mono ?_
 rintro e w6 ⟨hb6, ⟨hbt, g, rfl, hg, hrt⟩ | ⟨hbf, rfl⟩⟩
 case inr =>
  have HM7 := LH (HM6.out.later hb6)
  have HE : Hid (lookE S = 23) := LH (by
   unfold lookE
   rw [← HX.out, if_neg (by simp), if_neg (fun hh => hh HAll.out), if_pos hbf])
  have HG := LH (fun w' h => HF.out 23 w' HE.out (by decide) h)
  clear hb6 hbf
  go_wp2_with (refine wpList_store_mem aggSt HM7.out 0 rfl rfl rfl rfl rfl rfl rfl rfl ?_; intro w6 h6 ht6; have H6 := LH h6; clear h6 ht6)
  refine bodyPost_ret (results_sl3 (p := 2) (s := 3) (u := 4) rfl _ _ _ _ _ _ _ rfl (H6.out.exact 0 rfl) Tryz.underlying49 rfl (by kernel_rfl)) rfl ?_
  exact HG.out _ H6.out.below
 have HM7 := LH (HM6.out.later hb6)
 have HRow7 := LH (RowAt.below HRow.out hb6)
 have HRt := LH hrt
 have HGg : Hid (w.heap.size ≤ g) := LH (Nat.le_trans HM6.out.below.size hg)
 have HGq : Hid (q1 < g) := LH (Nat.lt_of_lt_of_le (HM6.out.glt 0 rfl) hg)
 have HBt := LH hbt
 have hl8 : (rootL S).length = 8 := by unfold rootL; rw [List.length_map]; exact (rootsN_ok HD.out.u64C).2.1
 obtain ⟨n0, n1, n2, n3, n4, n5, n6, n7, hfr⟩ := eight_list hl8
 have hrs : (rootsN S).2.1 = [(n0 : Int), (n1 : Int), (n2 : Int), (n3 : Int), (n4 : Int), (n5 : Int), (n6 : Int), (n7 : Int)] := by rw [rootL_cast hbt, hfr]; rfl
 have HLs := LH (rtlasting_any hrt (rootsN_ok HD.out.u64C).2.1)
 rw [hrs, show arrI [(n0 : Int), (n1 : Int), (n2 : Int), (n3 : Int), (n4 : Int), (n5 : Int), (n6 : Int), (n7 : Int)] = .agg #[.int .i64 (n0 : Int), .int .i64 (n1 : Int), .int .i64 (n2 : Int), .int .i64 (n3 : Int), .int .i64 (n4 : Int), .int .i64 (n5 : Int), .int .i64 (n6 : Int), .int .i64 (n7 : Int)] from rfl] at HLs
 have HFr := LH hfr
 clear hb6 hrt hg hbt hl8 hfr hrs HM6 HRow
 go_wp2_with fail
 refine HLs.out.mono ?_
 rintro e w7 ⟨rfl, hb7⟩
 have HM8 := LH ((HM7.out.later hb7).alloc #[.int .i64 (n0 : Int), .int .i64 (n1 : Int), .int .i64 (n2 : Int), .int .i64 (n3 : Int), .int .i64 (n4 : Int), .int .i64 (n5 : Int), .int .i64 (n6 : Int), .int .i64 (n7 : Int)] 24)
 have HB78 : Hid (Below w6.heap.size w6 (w7.alloc (.cells #[.int .i64 (n0 : Int), .int .i64 (n1 : Int), .int .i64 (n2 : Int), .int .i64 (n3 : Int), .int .i64 (n4 : Int), .int .i64 (n5 : Int), .int .i64 (n6 : Int), .int .i64 (n7 : Int)] 24))) := LH (hb7.trans ((below_alloc _ _).mono hb7.size))
 clear hb7 HLs
 go_upto_region 12 with fail
 obtain ⟨q4, hq4⟩ : ∃ q, q = w7.heap.size := ⟨_, rfl⟩
 rw [← hq4] at HM8 ⊢
 generalize w7.alloc _ = w8 at *
 clear hq4
 have HM9 : Hid (Mem w w8 [⟨q1, 49, [.int .i64 0, .int .u64 0, .int .i64 0, .pointer none, .pointer none, .slice none 0 0], true⟩, ⟨q2, 42, [.int .i64 (n : Int), vu64 id], true⟩, ⟨q3, 44, [.int .i64 (n : Int)], true⟩, ⟨q4, 24, [.int .i64 (n0 : Int), .int .i64 (n1 : Int), .int .i64 (n2 : Int), .int .i64 (n3 : Int), .int .i64 (n4 : Int), .int .i64 (n5 : Int), .int .i64 (n6 : Int), .int .i64 (n7 : Int)], true⟩]) := LH (by simpa using HM8.out)
 clear HM8 HM7
 have c0 := HM9.out.cell 2 0 rfl rfl
 have r0 := fun x => later_cell c0 x
 clear c0
 refine wp_region_seg (C := fun w' => ∃ x : Later (w8), w' = x.val) [.fl [0, 1, 2, 3], .sq [4, 5] false, .fl [6, 7, 8], .sq [9] false] (by kernel_rfl) (by kernel_rfl) (by intro c a d v w h; cases d <;> exact h) ?_
 simp only [segs, picks, List.getElem?_cons_succ, List.getElem?_cons_zero]
 have hC1 := later_drew (w8)
 refine wpSeg_fl hC1 ?_
 repeat (first | go_big_quiet_step (fail) | quiet_step (fail))
 refine wpQuiet_nil ?_
 have hbd := later_below hC1
 have HM10 := LH (HM9.out.later hbd)
 have HRow10 := LH (RowAt.below (RowAt.below HRow7.out HB78.out) hbd)
 have HRt10 := LH ((HRt.out.below HB78.out (Nat.le_refl _)).below hbd (Nat.le_refl _))
 have HD10 := LH (HD.out.below HM10.out.below)
 have HCf : Hid (Cells w8.drew (some ⟨q4, 0, none⟩) ([n0, n1, n2, n3, n4, n5, n6, n7].map vi)) := LH ((HM10.out.at 3 rfl).cells)
 have HFb : Hid (∀ x ∈ [n0, n1, n2, n3, n4, n5, n6, n7], x ≤ 4611686018427387904) := LH (fun x hx => by rw [← HFr.out] at hx; have := rootL_lt HBt.out x hx; omega)
 generalize w8.drew = wd at *
 clear r0 hbd
 refine wpSeg_sq (fun K hK => ?_)
 go_wp2_with fail
 refine (tclosure_any HD10.out (L := hds (devWord S) n) (hds_length _ _) HRow10.out.cells (by omega) (some ⟨q4, 0, none⟩) 8 8 [n0, n1, n2, n3, n4, n5, n6, n7] rfl HCf.out (by omega) HFb.out).mono ?_
 rintro e w9 ⟨hb9, ⟨hclo, lv, ys, rfl, hlv, hso, hys, hrw⟩ | ⟨hclo, rfl⟩⟩
 case inr =>
  have HM11 := LH (HM10.out.later hb9)
  have hC2 := later_step hC1 hb9
  have HE : Hid (lookE S = 22) := LH (by
   unfold lookE
   rw [← HX.out, if_neg (by simp), if_neg (fun hh => hh HAll.out), if_neg (by rw [HBt.out]; simp), if_pos (by rw [HLe.out, HFr.out]; exact hclo)])
  have HG := LH (fun w' h => HF.out 22 w' HE.out (by decide) h)
  clear hb9 hclo
  go_wp2_with fail
  refine hK _ _ (fun h => nomatch h) ?_
  clear hK K
  refine wpSeg_fl hC2 ?_
  repeat (first | go_big_quiet_step (fail) | quiet_step (fail))
  refine wpQuiet_nil ?_
  clear hC1 hC2
  refine wpSeg_last ?_
  go_wp2_with (refine wpList_store_mem aggSt HM11.out 0 rfl rfl rfl rfl rfl rfl rfl rfl ?_; intro w6 h6 ht6; have H6 := LH h6; clear h6 ht6)
  refine bodyPost_ret (results_sl3 (p := 2) (s := 3) (u := 4) rfl _ _ _ _ _ _ _ rfl (H6.out.exact 0 rfl) Tryz.underlying49 rfl (by kernel_rfl)) rfl ?_
  exact HG.out _ H6.out.below
 have HM11 := LH (HM10.out.later hb9)
 have hC2 := later_step hC1 hb9
 have HE : Hid (lookE S = 0) := LH (by
  unfold lookE
  rw [← HX.out, if_neg (by simp), if_neg (fun hh => hh HAll.out), if_neg (by rw [HBt.out]; simp), if_neg (by rw [HLe.out, HFr.out]; exact fun hh => hh hclo)])
 have HRow11 := LH (RowAt.below HRow10.out hb9)
 have HRt11 := LH (HRt10.out.below hb9 (Nat.le_refl _))
 obtain ⟨va, vc, hv, _⟩ := hlv.cells
 obtain ⟨vl, hvl⟩ : ∃ l, l = ys.length := ⟨_, rfl⟩
 rw [← hvl] at hv
 subst hv
 have HLv := LH hlv
 have HSo := LH hso
 have HYs : Hid (∀ x, x ∈ ys ↔ Rch (okN S (lookL S)) (ptrN S) (rootL S) x) := LH (fun x => by rw [HLe.out, HFr.out]; exact hys x)
 have HRw : Hid (∀ b, rowOf (.slice va vl vc) = some b → w.heap.size ≤ b) := LH (fun b hb => Nat.le_trans HM10.out.below.size (hrw b hb))
 have HLc := LH hlc
 have HRq : Hid (∀ b, rowOf (.slice va vl vc) = some b → q1 < b) := LH (fun b hb => Nat.lt_of_lt_of_le (HM10.out.glt 0 rfl) (hrw b hb))
 clear hb9 hclo hlv hso hys hrw hvl hlc
 go_wp2_with fail
 refine hK _ _ (fun h => nomatch h) ?_
 clear hK K
 refine wpSeg_fl hC2 ?_
 repeat (first | go_big_quiet_step (fail) | quiet_step (fail))
 refine wpQuiet_nil ?_
 clear hC1 hC2
 have c0 := HM11.out.cell 2 0 rfl rfl
 have c1 := HM11.out.cell 1 0 rfl rfl
 have c2 := HM11.out.cell 1 1 rfl rfl
 refine wpSeg_last ?_
 go_wp2_with (first | (refine wpList_load_mem aggSu HM11.out 1 rfl rfl rfl rfl rfl ?_) | (refine wpList_store_mem aggSt HM11.out 0 rfl rfl rfl rfl rfl rfl rfl rfl ?_; intro w6 h6 ht6; have H6 := LH h6; have HT6 := LH ht6; clear h6 ht6))
 refine bodyPost_ret (results_sl3 (p := 2) (s := 3) (u := 4) rfl _ _ _ _ _ _ _ rfl (H6.out.exact 0 rfl) Tryz.underlying49 rfl (by kernel_rfl)) rfl ?_
 refine HY.out g lg lc _ ys _ HE.out H6.out.below ?_ HGg.out ?_ HLg.out HLc.out ?_ HSo.out HYs.out HRw.out
 ·have h1 := HRt11.out
  exact (HT6.out.block g (lt_of_head h1) (by simp; have := HGq.out; omega)).trans h1
 ·rw [HLe.out]
  exact HRow11.out.keep (HT6.out.block lg HRow11.out.lt (by simp; have := HLq.out; omega))
 ·exact HLv.out.keep (fun b hb => HT6.out.block b (HLv.out.lt b hb) (by simp; have := HRq.out b hb; omega))
end
section
section
variable {U : List Bool} {P : Nat → List Nat} {M : Mk}
end
section
variable {w : World} {A : AF} {n B : Nat} {m : Al} {K : MkF} {M : Mk}
end
section
variable {w : World} {A : AF} {n B : Nat} {m : Al} {K : MkF} {M : Mk}
end
section
variable {w wr w' : World} {Q Q' : List Nat} {A : AF} {n N N' : Nat} {m m' : Al} {v : Value} {xs : List Nat} {K : MkF} {M M' : Mk}
end
end
section
open Go.Maps
theorem rints_same {w : World} (a b : Option Addr) (n ca cb : Nat) (xs : List Nat) (hn : xs.length = n) (ha : Cells w a (xs.map vi)) (hb : Cells w b (xs.map vi)) (hl : n ≤ 1000000000) :
  Calls Tryz.prog 25 #[.slice a n ca, .slice b n cb] w (Gives (.bool true) w) := by
 have HP : Hid (∀ w', Below w.heap.size w w' → Gives (.bool true) w (.returned (.bool true)) w') := LH (fun w' h => ⟨rfl, h⟩)
 generalize Gives (.bool true) w = Post at *
 have HA := LH ha
 have HB := LH hb
 have HN := LH hn
 clear ha hb hn
 go_enter Tryz.func25, Tryz.ntmps25
 go_wp2_with fail
 go_loopw [4, 5] (fun f i wr => ∃ k : Nat, k ≤ n ∧ f = .bool false ∧ i = .int .i64 (k : Int) ∧ Hid (Below w.heap.size w wr)) (fun _ i _ => n - (intOf i).toNat)
 case atStart => exact ⟨0, Nat.zero_le _, rfl, rfl, LH (Below.refl _ _)⟩
 case round =>
  obtain ⟨k, hk, rfl, rfl, HBl⟩ := hrel
  by_cases hlt : k < n
  ·have hlt' : (k : Int) < (n : Int) := by omega
   obtain ⟨b1, o1, rfl, _, hc1⟩ := (HA.out.below HBl.out (Nat.le_refl _)).at (i := k) (by rw [List.length_map, HN.out]; exact hlt)
   obtain ⟨b2, o2, rfl, _, hc2⟩ := (HB.out.below HBl.out (Nat.le_refl _)).at (i := k) (by rw [List.length_map, HN.out]; exact hlt)
   obtain ⟨x, hx⟩ : ∃ x, xs[k]? = some x := ⟨_, List.getElem?_eq_getElem (by rw [HN.out]; exact hlt)⟩
   have c1 := hc1 k (vi x) (by rw [List.getElem?_map, hx]; rfl)
   have c2 := hc2 k (vi x) (by rw [List.getElem?_map, hx]; rfl)
   have r1 := fun x => later_cell c1 x
   have r2 := fun x => later_cell c2 x
   clear hc1 hc2 hx c1 c2
   go_upto_region 6 with fail
   refine wp_region_later (by kernel_rfl) (by kernel_rfl) ?_
   repeat (quiet_step (fail))
   refine wpQuiet_nil ?_
   rintro w1 ⟨x1, hx1⟩
   have HB1 := LH (HBl.out.trans ((show Below wr.heap.size wr w1 by rw [hx1]; exact x1.below).mono HBl.out.size))
   clear hx1 r1 r2
   go_wp2_with fail
   exact ⟨⟨k + 1, by omega, rfl, vint (by omega), HB1⟩, by simp [intOf]; omega⟩
  ·obtain rfl : k = n := by omega
   have hf : decide ((k : Int) < (k : Int)) = false := by simp
   go_wp2_with fail
   exact HP.out _ HBl.out
theorem contains_take_succ (xs : List Nat) (y k x : Nat) (hx : xs[k]? = some x) : (xs.take (k + 1)).contains y = ((xs.take k).contains y || (x == y)) := by
 have h1 := (List.getElem?_eq_some_iff.1 hx).1
 rw [List.take_succ_eq_append_getElem h1]
 have h2 : xs[k] = x := (List.getElem?_eq_some_iff.1 hx).2
 rw [h2]
 rw [Bool.eq_iff_iff]
 simp
 constructor
 ·rintro (h | h)
  ·exact .inl h
  ·exact .inr h.symm
 ·rintro (h | h)
  ·exact .inl h
  ·exact .inr h.symm
end
section
end
section
open Go.Maps Go.Shelf Go.Sort Go.Lib
end
section
open Go.Maps
end
section
variable {B : Nat} {m : Al}
def Snd (L : List Hd) : Prop := ∀ q, 1 ≤ q → (L.getD q default).k = 3 → ∃ a, 1 ≤ a ∧ a < q ∧ (L.getD a default).k = 2 ∧ (q : Int) < (a : Int) + (L.getD a default).l
end
section
open Go.Maps
end
section
theorem cells_step (x n : Nat) (hx : 2 ≤ x) : (n + 1) * x ≤ 512 ↔ n < 512 / x := by
 rw [← Nat.succ_le_iff, Nat.le_div_iff_mul_le (by omega)]
theorem rccells_any (k : Int) (w : World) : Calls Tryz.prog 80 #[.int .i64 k] w fun e w' => e = .returned (.int .i64 (clsCells k : Nat)) ∧ Below w.heap.size w w' := by
 have hle := clsWords_le k
 have HC : Hid (clsCells k = 512 / clsWords k) := LH rfl
 have HP : Hid (clsWords k = 0 ∨ 2 ≤ clsWords k) := by
  apply LH
  by_cases h : 0 ≤ k ∧ k < 32
  ·exact .inr (clsWords_pos k h)
  ·left; unfold clsWords; rw [if_neg h]
 have CW := LH (rcwords_any k)
 generalize clsWords k = x at *
 by_cases h0 : x = 0
 ·subst h0
  go_enter Tryz.func80, Tryz.ntmps80
  go_wp2_with fail
  refine wp_loop_rounds 1 ?_
  rw [rounds_succ]
  go_wp2_with fail
  refine (CW.out _).mono ?_
  rintro e w1 ⟨rfl, hb⟩
  go_wp2_with fail
  go_ret
  exact ⟨ret_int (by rw [HC.out]; rfl), hb⟩
 ·have hx2 : 2 ≤ x := by rcases HP.out with h | h <;> omega
  clear h0
  go_enter Tryz.func80, Tryz.ntmps80
  go_wp2_with fail
  go_loopw [3] (fun i wr => ∃ n : Nat, n ≤ 512 ∧ i = .int .i64 n ∧ Hid (n ≤ 512 / x) ∧ Below w.heap.size w wr) (fun i _ => 512 - (intOf i).toNat)
  case atStart => exact ⟨0, by omega, rfl, LH (Nat.zero_le _), Below.refl _ _⟩
  case round =>
   obtain ⟨n, hn, rfl, hd, hb⟩ := hrel
   have HS := LH (cells_step x n hx2)
   have HD : Hid (512 / x ≤ 256) := LH (by exact Nat.div_le_div_left (a := 512) hx2 (by omega))
   have hm0 : 0 ≤ ((n : Int) + 1) * (x : Int) := Int.mul_nonneg (by omega) (by omega)
   have hm1 : ((n : Int) + 1) * (x : Int) ≤ 513 * 256 := Int.mul_le_mul (by omega) (by omega) (by omega) (by omega)
   have he : ((n : Int) + 1) * (x : Int) = (((n + 1) * x : Nat) : Int) := by simp
   have HE := LH he
   clear he
   go_wp2_with fail
   refine (CW.out _).mono ?_
   rintro e w1 ⟨rfl, hb1⟩
   have hb1' := hb.trans (hb1.mono hb.size)
   go_wp2_with fail
   refine (CW.out _).mono ?_
   rintro e w2 ⟨rfl, hb2⟩
   have hb2' := hb1'.trans (hb2.mono hb1'.size)
   clear hb1 hb2
   by_cases hc : ((n : Int) + 1) * (x : Int) ≤ 512
   ·have hd' : decide (((n : Int) + 1) * (x : Int) ≤ 512) = true := by simp [hc]
    have hlt : n < 512 / x := HS.out.1 (by have := HE.out; omega)
    have hn2 : n + 1 ≤ 512 := by have := HD.out; omega
    have HL := LH hlt
    clear hlt
    go_wp2_with fail
    exact ⟨⟨n + 1, hn2, vint (by omega), LH HL.out, hb2'⟩, by simp [intOf]; omega⟩
   ·have hd' : decide (((n : Int) + 1) * (x : Int) ≤ 512) = false := by simp [hc]
    have HL : Hid (n = 512 / x) := LH (by have h1 := hd.out; have h2 := HS.out; have h3 := HE.out; omega)
    go_wp2_with fail
    go_ret
    exact ⟨ret_int (by rw [HC.out, ← HL.out]), hb2'⟩
theorem rosize_any (p d : Int) (w : World) : Calls Tryz.prog 38 #[.agg #[.int .i64 p, .int .i64 d]] w fun e w' => e = .returned (.int .i64 (objSize p d : Nat)) ∧ Below w.heap.size w w' := by
 have HB := LH (below_alloc w)
 by_cases h1 : p < 0
 ·have HS : Hid (objSize p d = 0) := LH (by unfold objSize; rw [if_pos (by omega)])
  go_enter Tryz.func38, Tryz.ntmps38
  go_wp2_with fail
  go_ret
  exact ⟨ret_int (by rw [HS.out]; rfl), HB.out _⟩
 by_cases h2 : 63 < p
 ·have HS : Hid (objSize p d = 0) := LH (by unfold objSize; rw [if_pos (by omega)])
  go_enter Tryz.func38, Tryz.ntmps38
  go_wp2_with fail
  go_ret
  exact ⟨ret_int (by rw [HS.out]; rfl), HB.out _⟩
 by_cases h3 : d < 0
 ·have HS : Hid (objSize p d = 0) := LH (by unfold objSize; rw [if_pos (by omega)])
  go_enter Tryz.func38, Tryz.ntmps38
  go_wp2_with fail
  go_ret
  exact ⟨ret_int (by rw [HS.out]; rfl), HB.out _⟩
 by_cases h4 : 16384 < d
 ·have HS : Hid (objSize p d = 0) := LH (by unfold objSize; rw [if_pos (by omega)])
  go_enter Tryz.func38, Tryz.ntmps38
  go_wp2_with fail
  go_ret
  exact ⟨ret_int (by rw [HS.out]; rfl), HB.out _⟩
 have HS : Hid (((objSize p d : Nat) : Int) = 1 + p + d) := LH (by unfold objSize; rw [if_neg (by omega)]; omega)
 go_enter Tryz.func38, Tryz.ntmps38
 go_wp2_with fail
 go_ret
 exact ⟨ret_int HS.out.symm, HB.out _⟩
theorem rclass_any (p d : Int) (w : World) : Calls Tryz.prog 146 #[.agg #[.int .i64 p, .int .i64 d]] w fun e w' => e = .returned (.int .i64 (rofN (objSize p d : Nat))) ∧ Below w.heap.size w w' := by
 have HB := LH (below_alloc w)
 go_enter Tryz.func146, Tryz.ntmps146
 go_wp2_with fail
 refine (rosize_any _ _ _).mono ?_
 rintro e w1 ⟨rfl, hb1⟩
 have hb1' := (HB.out _).trans (hb1.mono (HB.out _).size)
 go_wp2_with fail
 refine (rof_any _ _).mono ?_
 rintro e w2 ⟨rfl, hb2⟩
 have hb2' := hb1'.trans (hb2.mono hb1'.size)
 go_wp2_with fail
 go_ret
 exact ⟨rfl, hb2'⟩
theorem need_any (n : Int) (w : World) (hn : n ≤ 1000000000) : Calls Tryz.prog 175 #[.int .i64 n] w fun e w' => e = .returned (.int .i64 (upN n 512)) ∧ w = w' := by
 by_cases h : n < 1
 ·have HU : Hid (upN n 512 = 0) := LH (by unfold upN; rw [if_pos (by omega)])
  go_enter Tryz.func175, Tryz.ntmps175
  go_wp2_with fail
  go_ret
  exact ⟨ret_int HU.out.symm, rfl⟩
 ·have HU := LH (up_ref n 512 (by omega) (by omega))
  by_cases c : n % 512 = 0
  ·have c1 : (n % 512 != 0) = false := by simp [c]
   have C := LH c
   clear c
   go_enter Tryz.func175, Tryz.ntmps175
   go_wp2_with fail
   go_ret
   exact ⟨ret_int (by rw [HU.out, if_pos C.out]), rfl⟩
  ·have c1 : (n % 512 != 0) = true := by simp [c]
   have C := LH c
   clear c
   go_enter Tryz.func175, Tryz.ntmps175
   go_wp2_with fail
   go_ret
   exact ⟨ret_int (by rw [HU.out, if_neg C.out]), rfl⟩
theorem rofN_small (n : Nat) (h : small n) : rofN (n : Int) = (ofN (n : Int) : Nat) := by unfold rofN; rw [if_pos (by unfold small at h; omega)]
theorem rofN_large (n : Nat) (h : ¬ small n) : rofN (n : Int) = -1 := by unfold rofN; rw [if_neg (by unfold small at h; omega)]
theorem roblocks_any (p d : Int) (w : World) : Calls Tryz.prog 147 #[.agg #[.int .i64 p, .int .i64 d]] w fun e w' => e = .returned (.int .i64 (objBlocks (objSize p d) : Nat)) ∧ Below w.heap.size w w' := by
 have HB := LH (below_alloc w)
 have hle := objSize_le p d
 go_enter Tryz.func147, Tryz.ntmps147
 go_wp2_with fail
 refine (rclass_any _ _ _).mono ?_
 rintro e w1 ⟨rfl, hb1⟩
 have hb1' := (HB.out _).trans (hb1.mono (HB.out _).size)
 have hc0 : w1.cell? ⟨w.heap.size, 0, none⟩ = some (.int .i64 p) := by rw [hb1.cell (p := ⟨w.heap.size, 0, none⟩) (by simp)]; exact cell_alloc_new _ _ _ _ _ rfl
 have hc1 : w1.cell? ⟨w.heap.size, 1, none⟩ = some (.int .i64 d) := by rw [hb1.cell (p := ⟨w.heap.size, 1, none⟩) (by simp)]; exact cell_alloc_new _ _ _ _ _ rfl
 by_cases h : small (objSize p d)
 ·rw [rofN_small _ h]
  have HO : Hid (objBlocks (objSize p d) = 0) := LH (by unfold objBlocks; rw [if_pos h])
  clear h hb1
  go_wp2_with fail
  go_ret
  exact ⟨ret_int (by rw [HO.out]; rfl), hb1'⟩
 ·rw [rofN_large _ h]
  have HO : Hid (((objBlocks (objSize p d) : Nat) : Int) = upN (objSize p d : Nat) 512) := LH (by unfold objBlocks upN; rw [if_neg h]; split <;> omega)
  clear h hb1
  go_wp2_with fail
  refine (rosize_any _ _ _).mono ?_
  rintro e w2 ⟨rfl, hb2⟩
  have hb2' := hb1'.trans (hb2.mono hb1'.size)
  go_wp2_with fail
  refine (need_any _ _ (by omega)).mono ?_
  rintro e w3 ⟨rfl, rfl⟩
  rw [← HO.out]
  go_wp2_with fail
  go_ret
  exact ⟨rfl, hb2'⟩
end
section
open Go.Maps
section
variable {P : Program} {C : World → Prop} {ops : Array Oper} {rest : List Oper} {o : Oper} {a : Act} {Q : Act → Prop}
theorem wpQuiet_slice_clip {x hi mx : Operand} {t e : TypeId} {z : Value} {size bytes : Nat} (E : Elem P t e z size bytes) {ad : Option Addr} {n cap : Nat} {k k2 : IntKind} {H H2 : Int} (h : Nat)
  (hH : H = (h : Int)) (hH2 : H2 = (h : Int)) (hh : h ≤ n) (hn : n ≤ cap)
  (hgd : o.guard = none) (ho : o.op = .slice t x none (some hi) (some mx)) (hx : a.eval x = .slice ad n cap) (hhi : a.eval hi = .int k H) (hmx : a.eval mx = .int k2 H2)
  (hK : wpQuiet P ops C Q rest (a.put o.dst (.slice ad h h))) :
  wpQuiet P ops C Q (o :: rest) a := by
 subst hH
 subst hH2
 have hw : Region.wanted o (yielded ops a.tmps) = true := by simp [Region.wanted, hgd]
 unfold wpQuiet
 rw [if_pos hw]
 refine ⟨_, fun w hC => ?_, hK⟩
 obtain ⟨i, i1, i2, i3, i4⟩ := E.info
 have hb : (Instr.sliceBounds true n cap none (some (.int k (h : Int))) (some (.int k2 (h : Int)))).run P w = .ok (0, h, h) w := by
  have h1 : (0 : Int) ≤ (h : Int) ∧ (h : Int) ≤ (cap : Int) := by omega
  have h2 : (0 : Int) ≤ (h : Int) ∧ (h : Int) ≤ (h : Int) := by omega
  simp [Instr.sliceBounds, Instr.sliceBound, asIntOf, Nat.le_trans hh hn]
 have hr : (Instr.sliceAt t (.slice ad n cap) none (some (.int k (h : Int))) (some (.int k2 (h : Int)))).run P w = .ok (.slice (if h = 0 then ad else ad.map (·.add (0 * size))) (h - 0) (h - 0)) w := by
  simp [Instr.sliceAt, Instr.slice, run_underlying E.under, hb, sizeOf, typeInfo, i1, i3]
 have e : (if h = 0 then ad else ad.map (·.add (0 * size))) = ad := by
  split
  ·rfl
  ·cases ad <;> simp [Addr.add]
 rw [e, Nat.sub_zero] at hr
 unfold Oper.quietAt
 simp only [execOp, ho, hx, hhi, hmx, Option.map_some, Option.map_none]
 simp [hr, Result.andThen, Oper.quietUpon]
end
theorem run_append_full {P : Program} {w : World} {t ty e : TypeId} {z : Value} {size bytes i : Nat} (E : Elem P t e z size bytes) {ad : Option Addr} {xs ys : List Value} (hc : Cells w ad xs) (hl : xs.length = i * size) {a : Addr} {m c : Nat} (hm : 0 < m) (hys : ys.length = m * size)
  (hyc : ∀ j v, ys[j]? = some v → w.cell? (a.add j) = some v) (hn : i + m < 1000000000000) (hby : bytes ≤ 64) :
  ∃ v' w', (Builtin.append_ #[t, t] ty #[.slice ad i i, .slice (some a) m c]).run P w = .ok v' w' ∧ w'.ownsRow w.heap.size e size v' (i + m) (xs ++ ys) ∧ w.grownBy w' none := by
 obtain ⟨inf, i1, i2, i3, i4⟩ := E.info
 have hbb : (i + m) * inf.bytes ≤ 140737488355328 := by
  rw [i4]
  have : (i + m) * bytes ≤ (i + m) * 64 := Nat.mul_le_mul_left _ hby
  omega
 have h63 : i + m ≤ maxLen := by unfold maxLen; omega
 have key : ∀ (olds : List Value) (k : Nat), olds.length = k * size → k = i → olds = xs → ∀ old : Nat, (w.drew.alloc (.cells (olds.toArray ++ ys.toArray ++ Builtin.zeroCells z.cells (grownCap w (i + m) old e - (i + m))) e)).ownsRow w.heap.size e size (.slice (some ⟨w.heap.size, 0, none⟩) (i + m) (grownCap w (i + m) old e)) (i + m) (xs ++ ys) := by
  rintro olds k ho rfl rfl old
  have hge := grownCap_ge w (k + m) old e
  have hcm := grownCap_le_maxLen w (k + m) old e h63
  have hlen : (olds ++ ys).length = (k + m) * size := by rw [List.length_append, ho, hys, Nat.add_mul]
  refine ⟨hlen, .inr ⟨w.heap.size, _, _, rfl, Nat.le_refl _, heap_alloc_new w.drew _, hge, hcm, ?_, ?_⟩⟩
  ·simp only [Array.size_append, List.size_toArray, size_zeroCells, E.cells, ho, hys, ← Nat.add_mul]
   congr 1
   omega
  ·simp only [Array.toList_append, List.append_assoc]
   rw [← List.append_assoc, ← hlen]
   exact List.take_left
 have hgr : ∀ o : Obj, w.grownBy (w.drew.alloc o) none := fun o => ⟨rfl, rfl, rfl, by simp, fun k hk _ => (below_alloc w.drew o).block k hk⟩
 cases ad with
 | none =>
  have hx : xs = [] := by
   rcases hc with h | ⟨_, _, h, _⟩
   ·exact h
   ·cases h
  subst hx
  have hi0 : i = 0 := by
   have hp := E.pos
   rcases Nat.eq_zero_or_pos i with h | h
   ·exact h
   ·have : 0 < i * size := Nat.mul_pos h hp
    simp at hl; omega
  subst hi0
  have hr := run_append_nil (P := P) w t ty e inf z E.under i1 i2 a m c ys (by rw [i3]; exact hys) hyc (by omega) (by omega) (by rw [Nat.zero_add] at hbb; omega)
  refine ⟨_, _, hr, ?_, hgr _⟩
  have := key [] 0 (by simp) rfl rfl 0
  rw [Nat.zero_add, List.nil_append] at this ⊢
  simpa using this
 | some b =>
  have hcb : ∀ j v, xs[j]? = some v → w.cell? (b.add j) = some v := by
   rcases hc with h | ⟨bk, off, h, h2⟩
   ·intro j v hj; rw [h] at hj; simp at hj
   ·intro j v hj
    cases h
    rw [add_none]; exact h2 j v hj
  have hr := run_append_grow (P := P) w t ty e inf z E.under i1 i2 b i i xs (by rw [i3]; exact hl) hcb a m c ys (by rw [i3]; exact hys) hyc (by omega) (by omega) (growslice_fits (by omega) hbb)
  exact ⟨_, _, hr, key xs i hl rfl rfl i, hgr _⟩
section
variable {w : World} {P : Program} {ops : Array Oper} {rest : List Oper} {o : Oper} {act : Act} {Q : Exit → Act → World → Prop}
theorem wpList_append_full {s x : Operand} {t e : TypeId} {z : Value} {size bytes i : Nat} (E : Elem P t e z size bytes) {ad : Option Addr} {xs ys : List Value} (hc : Cells w ad xs) (hl : xs.length = i * size) {a : Addr} {m c : Nat} (hm : 0 < m) (hys : ys.length = m * size)
  (hyc : ∀ j v, ys[j]? = some v → w.cell? (a.add j) = some v) (hn : i + m < 1000000000000) (hby : bytes ≤ 64)
  (hgd : o.guard = none) (ho : o.op = .call { callee := .builtin .append, args := #[s, x], argTypes := #[t, t] })
  (hs : act.eval s = .slice ad i i) (hx : act.eval x = .slice (some a) m c)
  (hK : ∀ v' w', w'.ownsRow w.heap.size e size v' (i + m) (xs ++ ys) → w.grownBy w' none → wpList P ops Q rest (act.put o.dst v') w') :
  wpList P ops Q (o :: rest) act w := by
 obtain ⟨v', w', hr, h1, h2⟩ := run_append_full (c := c) (ty := o.type) E hc hl hm hys hyc hn hby
 refine wpList_plain hgd fun K hK' => ?_
 unfold Oper.wp
 simp [execOp, ho, resolve, invoke, builtin, hs, hx, hr, Result.andThen]
 exact hK' _ _ (hK v' w' h1 h2)
end
theorem Cells.ownedN {w : World} {base e size n cap : Nat} {a : Option Addr} {xs : List Value} (h : w.ownsRow base e size (.slice a n cap) n xs) : Cells w a xs := by
 rcases h.2 with ⟨_, h0⟩ | ⟨g, cap', cur, hv, hb, hg, h1, h2, h3, h4⟩
 ·exact .inl (List.eq_nil_of_length_eq_zero (by rw [h.1, h0, Nat.zero_mul]))
 ·injection hv with e1 _ _
  rw [e1]
  exact RowAt.cells ⟨cur, hg, cur.toList.drop (n * size), by rw [← h4, List.take_append_drop]⟩
theorem elInts : Elem Tryz.prog 47 3 (.int .i64 0) 1 8 := Elem.mk' Tryz.underlying47 (by kernel_rfl) rfl (by decide)
theorem rhas_any {w : World} (a : Option Addr) (n ca : Nat) (xs : List Nat) (hn : xs.length = n) (ha : Cells w a (xs.map vi)) (hl : n ≤ 1000000000) (y : Nat) :
  Calls Tryz.prog 100 #[.slice a n ca, .int .i64 (y : Int)] w (Same1 (.bool (xs.contains y)) w) := by
 have HP : Hid (∀ f w', f = xs.contains y → w = w' → Same1 (.bool (xs.contains y)) w (.returned (.bool f)) w') := LH (fun f w' h1 h2 => by subst h1; exact ⟨rfl, h2⟩)
 generalize Same1 (.bool (xs.contains y)) w = Post at *
 have HA := LH ha
 have HN := LH hn
 clear ha hn
 go_enter Tryz.func100, Tryz.ntmps100
 go_wp2_with fail
 go_loopw [4, 5] (fun f i wr => ∃ k : Nat, k ≤ n ∧ f = .bool false ∧ i = .int .i64 (k : Int) ∧ Hid ((xs.take k).contains y = false) ∧ w = wr) (fun _ i _ => n - (intOf i).toNat)
 case atStart => exact ⟨0, Nat.zero_le _, rfl, rfl, LH (by simp), rfl⟩
 case round =>
  obtain ⟨k, hk, rfl, rfl, HNo, rfl⟩ := hrel
  by_cases hlt : k < n
  ·have hlt' : (k : Int) < (n : Int) := by omega
   obtain ⟨b1, o1, rfl, _, hc1⟩ := HA.out.at (i := k) (by rw [List.length_map, HN.out]; exact hlt)
   obtain ⟨x, hx⟩ : ∃ x, xs[k]? = some x := ⟨_, List.getElem?_eq_getElem (by rw [HN.out]; exact hlt)⟩
   have c1 := hc1 k (vi x) (by rw [List.getElem?_map, hx]; rfl)
   have HT := LH (contains_take_succ xs y k x hx)
   have HMm := LH (List.mem_of_getElem? hx)
   clear hc1 hx
   by_cases e : x = y
   ·subst e
    have HE : Hid (true = xs.contains x) := LH (List.contains_iff_mem.2 HMm.out).symm
    go_wp2_with fail
    exact HP.out _ _ HE.out rfl
   ·have he : (((x : Nat) : Int) == ((y : Nat) : Int)) = false := by simp; omega
    have HT2 : Hid ((xs.take (k + 1)).contains y = false) := LH (by rw [HT.out, HNo.out]; simp [e])
    go_wp2_with fail
    exact ⟨⟨k + 1, by omega, rfl, vint (by omega), HT2, trivial⟩, by simp [intOf]; omega⟩
  ·obtain rfl : k = n := by omega
   have hf : decide ((k : Int) < (k : Int)) = false := by simp
   have HE : Hid (false = xs.contains y) := LH (by have := HNo.out; rw [← HN.out, List.take_length] at this; exact this.symm)
   go_wp2_with fail
   exact HP.out _ _ HE.out rfl
theorem ins_sorted {zs : List Nat} (h : zs.Pairwise (· ≤ ·)) {i x : Nat} (hi : i ≤ zs.length) (h1 : ∀ y ∈ zs.take i, y < x) (h2 : ∀ y, zs[i]? = some y → x ≤ y) : (zs.take i ++ [x] ++ zs.drop i).Pairwise (· ≤ ·) := by
 have hd : ∀ y ∈ zs.drop i, x ≤ y := fun y hy => by
  obtain ⟨j, hj⟩ := List.getElem?_of_mem hy
  rw [List.getElem?_drop] at hj
  have hij : i < zs.length := by have := (List.getElem?_eq_some_iff.1 hj).1; omega
  have h3 := h2 _ (List.getElem?_eq_getElem hij)
  rcases Nat.eq_zero_or_pos j with c | c
  ·subst c
   rw [Nat.add_zero, List.getElem?_eq_getElem hij] at hj
   injection hj with hj
   omega
  ·obtain ⟨hj1, hj2⟩ := List.getElem?_eq_some_iff.1 hj
   have := List.pairwise_iff_getElem.1 h i (i + j) hij hj1 (by omega)
   omega
 rw [List.append_assoc, List.pairwise_append]
 have hsplit := List.pairwise_append.1 (by rw [List.take_append_drop i zs]; exact h : (zs.take i ++ zs.drop i).Pairwise (· ≤ ·))
 refine ⟨hsplit.1, ?_, fun y hy z hz => ?_⟩
 ·rw [List.singleton_append, List.pairwise_cons]
  exact ⟨hd, hsplit.2.1⟩
 ·rcases List.mem_append.1 hz with hz | hz
  ·simp at hz; subst hz; exact Nat.le_of_lt (h1 y hy)
  ·exact Nat.le_trans (Nat.le_of_lt (h1 y hy)) (hd z hz)
theorem ins_perm (zs : List Nat) (i x : Nat) : (zs.take i ++ [x] ++ zs.drop i).Perm (zs ++ [x]) := by
 have h1 : (zs.take i ++ ([x] ++ zs.drop i)).Perm (zs.take i ++ (zs.drop i ++ [x])) := List.Perm.append_left _ List.perm_append_comm
 rw [List.append_assoc]
 refine h1.trans ?_
 rw [← List.append_assoc, List.take_append_drop]
def SrtPost (w : World) (xs : List Nat) : Ending → World → Prop := fun e w' => ∃ v ys, e = .returned v ∧ OwnI w' v ys ∧ ys.Pairwise (· ≤ ·) ∧ ys.Perm xs ∧ Below w.heap.size w w' ∧ (∀ b, rowOf v = some b → w.heap.size ≤ b)
theorem rsorted_any {w : World} (a : Option Addr) (n ca : Nat) (xs : List Nat) (hn : xs.length = n) (ha : Cells w a (xs.map vi)) (hl : n ≤ 1000000) :
  Calls Tryz.prog 103 #[.slice a n ca] w (SrtPost w xs) := by
 have HP : Hid (∀ v ys w', OwnI w' v ys → ys.Pairwise (· ≤ ·) → ys.Perm xs → Below w.heap.size w w' → (∀ b, rowOf v = some b → w.heap.size ≤ b) → SrtPost w xs (.returned v) w') := LH (fun v ys w' h1 h2 h3 h4 h5 => ⟨v, ys, rfl, h1, h2, h3, h4, h5⟩)
 generalize SrtPost w xs = Post at *
 have HA := LH ha
 have HN := LH hn
 clear ha hn
 go_enter Tryz.func103, Tryz.ntmps103
 go_wp2_with fail
 go_loopw [3, 4] (fun ov iv wr => ∃ (k : Nat) (zs : List Nat), k ≤ n ∧ iv = .int .i64 (k : Int) ∧ Hid (OwnI wr ov zs) ∧ Hid (∀ b, rowOf ov = some b → w.heap.size ≤ b) ∧ Hid (zs.Pairwise (· ≤ ·)) ∧ Hid (zs.Perm (xs.take k)) ∧ Hid (Below w.heap.size w wr)) (fun _ iv _ => n - (intOf iv).toNat)
 case atStart => exact ⟨0, [], by omega, rfl, LH (OwnI.nil _), LH (fun b hb => by cases hb), LH List.Pairwise.nil, LH (by simp), LH (Below.refl _ _)⟩
 case round =>
  obtain ⟨k, zs, hk, rfl, HO, HRow, HSo, HPm, HB⟩ := hrel
  obtain ⟨av, cv, hov, hcv, hnc, hmx⟩ := HO.out.cells
  obtain ⟨l, hll⟩ : ∃ l, l = zs.length := ⟨_, rfl⟩
  rw [← hll] at hov hnc
  have HLl := LH hll
  have HCz := LH hcv
  subst hov
  clear hll hcv
  by_cases hlt : k < n
  case neg =>
   have hltd : decide ((k : Int) < (n : Int)) = false := by simp; omega
   have hke : k = n := by omega
   have HPe : Hid (zs.Perm xs) := LH (by have := HPm.out; rw [hke, ← HN.out, List.take_length] at this; exact this)
   clear hke
   go_wp2_with fail
   exact HP.out _ _ _ HO.out HSo.out HPe.out HB.out HRow.out
  have hlt' : (k : Int) < (n : Int) := by omega
  obtain ⟨x, hx⟩ : ∃ x, xs[k]? = some x := ⟨_, List.getElem?_eq_getElem (by rw [HN.out]; exact hlt)⟩
  obtain ⟨b1, o1, q1, _, hc1⟩ := (HA.out.below HB.out (Nat.le_refl _)).at (i := k) (by rw [List.length_map, HN.out]; exact hlt)
  have cx : wr.cell? ⟨b1, o1 + k, none⟩ = some (.int .i64 (x : Int)) := hc1 k (vi x) (by rw [List.getElem?_map, hx]; rfl)
  have HTk : Hid (xs.take (k + 1) = xs.take k ++ [x]) := LH (by
   obtain ⟨h1, h2⟩ := List.getElem?_eq_some_iff.1 hx
   rw [List.take_succ_eq_append_getElem h1, h2])
  have HLn : Hid (l ≤ 1000000) := LH (by
   have := HPm.out.length_eq
   rw [List.length_take] at this
   have h2 := HLl.out
   omega)
  subst q1
  clear hc1 hx
  go_upto_region 5 with fail
  go_wp2_with fail
  have HWo := LH HB.out
  obtain ⟨wo, hwo⟩ : ∃ wo, wo = wr := ⟨_, rfl⟩
  rw [← hwo] at HO HCz HB HWo cx ⊢
  clear hwo
  go_loopw [5] (fun iv wr => ∃ i : Nat, i ≤ l ∧ iv = .int .i64 (i : Int) ∧ Hid (Below wo.heap.size wo wr) ∧ Hid (∀ y ∈ zs.take i, y < x)) (fun iv _ => l - (intOf iv).toNat)
  case atStart => exact ⟨0, by omega, rfl, LH (Below.refl _ _), LH (by simp)⟩
  case round =>
   obtain ⟨i, hi, rfl, HB2, HLt⟩ := hrel
   have cx2 := below_cells HB2.out cx (Nat.le_refl _)
   have rx := fun x => later_cell cx2 x
   have HCr := LH (HCz.out.below HB2.out (Nat.le_refl _))
   have HBw2 : Hid (Below w.heap.size w wr) := LH (HB.out.trans (HB2.out.mono HB.out.size))
   by_cases hgo : ∃ y, zs[i]? = some y ∧ y < x
   ·obtain ⟨y, hy, hyx⟩ := hgo
    have hin : i < l := by rw [HLl.out]; exact (List.getElem?_eq_some_iff.1 hy).1
    have hinI : (i : Int) < (l : Int) := by omega
    have hlb := HLn.out
    obtain ⟨b, off, q2, _, hc2⟩ := HCr.out.at (i := i) (by rw [List.length_map, ← HLl.out]; exact hin)
    have cy : wr.cell? ⟨b, off + i, none⟩ = some (.int .i64 (y : Int)) := hc2 i (vi y) (by rw [List.getElem?_map, hy]; rfl)
    have ry := fun x => later_cell cy x
    have hltI : (y : Int) < (x : Int) := by omega
    have HNx : Hid (∀ z ∈ zs.take (i + 1), z < x) := LH (fun z h => by
     have h1 := (List.getElem?_eq_some_iff.1 hy).1
     rw [List.take_succ_eq_append_getElem h1, List.mem_append, (List.getElem?_eq_some_iff.1 hy).2] at h
     rcases h with h | h
     ·exact HLt.out z h
     ·simp at h; subst h; exact hyx)
    subst q2
    clear hy cy hyx hc2
    go_upto_region 6 with fail
    refine wp_region_later (by kernel_rfl) (by kernel_rfl) ?_
    repeat (first | go_big_quiet_step (fail) | quiet_step (fail))
    refine wpQuiet_nil ?_
    rintro w1 ⟨x1, hx1⟩
    have HB3 := LH (HB2.out.trans ((show Below wr.heap.size wr w1 by rw [hx1]; exact x1.below).mono HB2.out.size))
    clear hx1 rx ry cx2
    go_wp2_with fail
    go_roundw
    case rel => exact ⟨i + 1, by omega, vint (by omega), HB3, HNx⟩
    case measure => simp [intOf]; omega
   ·have HStop : Hid (∀ y, zs[i]? = some y → x ≤ y) := LH (fun y hy => by
     have : ¬ y < x := fun h => hgo ⟨y, hy, h⟩
     omega)
    clear hgo
    by_cases hin : i < l
    ·have hinI : (i : Int) < (l : Int) := by omega
     obtain ⟨y, hy⟩ : ∃ y, zs[i]? = some y := ⟨_, List.getElem?_eq_getElem (by rw [← HLl.out]; exact hin)⟩
     obtain ⟨b, off, q2, _, hc2⟩ := HCr.out.at (i := i) (by rw [List.length_map, ← HLl.out]; exact hin)
     have cy : wr.cell? ⟨b, off + i, none⟩ = some (.int .i64 (y : Int)) := hc2 i (vi y) (by rw [List.getElem?_map, hy]; rfl)
     have ry := fun x => later_cell cy x
     have hge : ¬ (y : Int) < (x : Int) := by have := HStop.out y hy; omega
     subst q2
     clear hy cy hc2
     go_upto_region 6 with fail
     refine wp_region_later (by kernel_rfl) (by kernel_rfl) ?_
     repeat (first | go_big_quiet_step (fail) | quiet_step (fail))
     refine wpQuiet_nil ?_
     rintro w1 ⟨x1, hx1⟩
     have HB3 := LH (HB2.out.trans ((show Below wr.heap.size wr w1 by rw [hx1]; exact x1.below).mono HB2.out.size))
     clear hx1 rx ry cx2 hinI hin hge
     go_upto_region 8 with fail
     have hba := below_alloc w1 (.cells #[] 3)
     have HB4 := LH (HB3.out.trans (hba.mono HB3.out.size))
     have HCe := LH (HCz.out.below HB4.out (Nat.le_refl _))
     have HOw : Hid ((w1.alloc (.cells #[] 3)).ownsRow wo.heap.size 3 1 (.slice (some ⟨w1.heap.size, 0, none⟩) 0 0) 0 []) := LH ⟨rfl, .inr ⟨w1.heap.size, 0, #[], rfl, HB3.out.size, heap_alloc_new w1 _, Nat.le_refl _, Nat.zero_le _, rfl, rfl⟩⟩
     have HXl : Hid ((zs.map vi).length = l * 1) := LH (by rw [List.length_map, HLl.out, Nat.mul_one])
     have HDl : Hid (((zs.map vi).drop (i * 1)).length = (l - i) * 1) := LH (by rw [List.length_drop, HXl.out]; omega)
     have HDo : Hid (∀ u ∈ (zs.map vi).drop (i * 1), u.oneCell' = true) := LH (fun u hu => by
      obtain ⟨z, _, rfl⟩ := List.mem_map.1 (List.mem_of_mem_drop hu)
      rfl)
     have HNn : Hid (0 + (l - i) < 1000000000000) := LH (by have := HLn.out; omega)
     have HBs2 : Hid (wo.heap.size ≤ (w1.alloc (.cells #[] 3)).heap.size) := LH (Nat.le_trans HB3.out.size hba.size)
     clear hba
     go_upto_region 9 with (first
      | (refine wpList_slice_from elInts i HCe.out HXl.out rfl hi hnc rfl rfl rfl rfl ?_; intro ad' hc'; have HCd := LH hc'; clear hc')
      | (at_builtin; refine wpList_append_cells elInts HOw.out HCd.out HDl.out HDo.out HNn.out (by decide) HBs2.out rfl rfl rfl rfl ?_; intro v3 w3 h1 h2 h3; have HO3 := LH h1; have HG3 := LH h2; clear h1 h2 h3))
     obtain ⟨a3, c3, rfl, _, _⟩ := owned_form HO3.out
     have HB5 : Hid (Below wo.heap.size wo w3) := LH (below_grownBy (base := w1.heap.size) (e := 3) (size := 1) (n := 0) (xs := []) HB4.out ⟨rfl, .inr ⟨w1.heap.size, 0, #[], rfl, Nat.le_refl _, heap_alloc_new w1 _, Nat.le_refl _, Nat.zero_le _, rfl, rfl⟩⟩ HG3.out (Nat.le_refl _) HB3.out.size)
     have cx3 := below_cells HB5.out cx (Nat.le_refl _)
     have rx := fun x => later_cell cx3 x
     obtain ⟨ln, hln⟩ : ∃ ln, ln = 0 + (l - i) := ⟨_, rfl⟩
     rw [← hln] at HO3 ⊢
     have HLn2 := LH hln
     clear hln cx3
     refine wp_region_seg (C := fun w' => ∃ x : Later (w3), w' = x.val) [.fl [0, 1, 2, 3, 4, 5, 6, 7, 10], .sq [8] true, .sq [9] true, .sq [11, 12] false] (by kernel_rfl) (by kernel_rfl) (by intro c a d v w h; cases d <;> exact h) ?_
     simp only [segs, picks, List.getElem?_cons_succ, List.getElem?_cons_zero]
     have hC1 := later_drew (w3)
     refine wpSeg_fl hC1 ?_
     repeat (first | (refine wpQuiet_slice_clip elInts i rfl rfl hi hnc rfl rfl rfl rfl rfl ?_) | go_big_quiet_step (fail) | quiet_step (fail))
     refine wpQuiet_nil ?_
     have HD4 := LH (later_below hC1)
     clear rx
     generalize w3.drew = w4 at *
     refine wpSeg_sq (fun K hK => ?_)
     go_wp2_with fail
     have hba := below_alloc w4 (.cells #[.int .i64 (x : Int)] 3)
     have hC2 := later_step hC1 hba
     obtain ⟨q4, hq4⟩ : ∃ q4, q4 = w4.heap.size := ⟨_, rfl⟩
     have HB6 := LH (HB5.out.trans ((HD4.out.trans (hba.mono HD4.out.size)).mono HB5.out.size))
     have HX5 : Hid (∀ j v, ([.int .i64 (x : Int)] : List Value)[j]? = some v → (w4.alloc (.cells #[.int .i64 (x : Int)] 3)).cell? ((⟨w4.heap.size, 0, none⟩ : Addr).add j) = some v) := LH (fun j v hj => by rw [add_none, Nat.zero_add]; exact cell_alloc_new _ _ _ j _ (by simpa using hj))
     have HC5 := LH ((Cells.ownedN HO3.out).below (HD4.out.trans (hba.mono HD4.out.size)) (Nat.le_refl _))
     rw [List.nil_append] at HC5
     clear hba
     go_wp2_with fail
     refine hK _ _ (fun _ => hC2) ?_
     clear hK K
     rw [← hq4] at HX5 ⊢
     clear hq4
     generalize w4.alloc _ = w5 at *
     have HCt : Hid (Cells w5 _ ((zs.take i).map vi)) := LH (by rw [List.map_take]; exact (HCz.out.below HB6.out (Nat.le_refl _)).take _)
     have HTl : Hid (((zs.take i).map vi).length = i * 1) := LH (by rw [List.length_map, List.length_take]; have := HLl.out; omega)
     have HN6 : Hid (i + 1 < 1000000000000) := LH (by have := HLn.out; omega)
     refine wpSeg_sq (fun K hK => ?_)
     go_wp2_with (refine wpList_append_full elInts HCt.out HTl.out (by decide : 0 < 1) (rfl : ([.int .i64 (x : Int)] : List Value).length = 1 * 1) HX5.out HN6.out (by decide) rfl rfl rfl rfl ?_; intro v6 w6 h1 h2; have HO6 := LH h1; have HG6 := LH h2; clear h1 h2)
     have hb6 := below_grown HG6.out (Nat.le_refl _)
     have hC3 := later_step hC2 hb6
     have HB7 := LH (HB6.out.trans (hb6.mono HB6.out.size))
     have HC6 := LH (HC5.out.below hb6 (Nat.le_refl _))
     have HBw : Hid (w5.heap.size ≤ w6.heap.size) := LH hb6.size
     clear hb6
     go_wp2_with fail
     refine hK _ _ (fun _ => hC3) ?_
     clear hK K
     have HLd : Hid (((zs.map vi).drop (i * 1)).length = ln * 1) := LH (by rw [HDl.out, HLn2.out]; omega)
     have HN7 : Hid (i + 1 + ln < 1000000000000) := LH (by have := HLn2.out; have := HLn.out; omega)
     refine wpSeg_last ?_
     go_wp2_with (refine wpList_append_cells elInts HO6.out HC6.out HLd.out HDo.out HN7.out (by decide) HBw.out rfl rfl rfl rfl ?_; intro v7 w7 h1 h2 h3; have HO7 := LH h1; have HG7 := LH h2; clear h1 h2 h3)
     go_roundw
     case rel =>
      have h7 := HO7.out
      have e1 : (zs.take i ++ [x] ++ zs.drop i).map vi = (zs.take i).map vi ++ [.int .i64 (x : Int)] ++ (zs.map vi).drop (i * 1) := by
       rw [List.map_append, List.map_append, List.map_drop, Nat.mul_one]; rfl
      have e2 : (zs.take i ++ [x] ++ zs.drop i).length = i + 1 + ln := by
       rw [List.length_append, List.length_append, List.length_take, List.length_drop]
       have h1 := HLl.out
       have h2 := HLn2.out
       simp
       omega
      have hw5 : w.heap.size ≤ w5.heap.size := Nat.le_trans HWo.out.size HB6.out.size
      refine ⟨k + 1, zs.take i ++ [x] ++ zs.drop i, by omega, vint (by omega), LH (.inl ?_), LH (fun b hb => ?_), LH (ins_sorted HSo.out (by have := HLl.out; omega) HLt.out HStop.out), LH ?_, LH ?_⟩
      ·rw [e1, e2]
       exact ⟨h7.1, h7.2.imp id (fun ⟨g, cp, cu, k1, k2, k3⟩ => ⟨g, cp, cu, k1, Nat.zero_le _, k3⟩)⟩
      ·rcases h7.2 with ⟨q, _⟩ | ⟨g, cp, cu, k1, k2, k3⟩
       ·rw [q] at hb; cases hb
       ·rw [k1] at hb
        unfold rowOf at hb
        dsimp only at hb
        split at hb
        ·cases hb
        ·injection hb with hb; rw [← hb]; exact Nat.le_trans hw5 k2
      ·rw [HTk.out]
       exact (ins_perm zs i x).trans (List.Perm.append_right _ HPm.out)
      ·have hb7 : Below wo.heap.size wo w7 := below_grownBy (base := w5.heap.size) HB7.out HO6.out HG7.out (Nat.le_refl _) HB6.out.size
       exact HWo.out.trans (hb7.mono HWo.out.size)
     case measure => simp [intOf]; omega
    ·have hnl : decide ((i : Int) < (l : Int)) = false := by simp; omega
     go_upto_region 6 with fail
     refine wp_region_later (by kernel_rfl) (by kernel_rfl) ?_
     repeat (first | go_big_quiet_step (fail) | quiet_step (fail))
     refine wpQuiet_nil ?_
     rintro w1 ⟨x1, hx1⟩
     have HB3 := LH (HB2.out.trans ((show Below wr.heap.size wr w1 by rw [hx1]; exact x1.below).mono HB2.out.size))
     clear hx1 rx cx2 hnl hin
     go_upto_region 8 with fail
     have hba := below_alloc w1 (.cells #[] 3)
     have HB4 := LH (HB3.out.trans (hba.mono HB3.out.size))
     have HCe := LH (HCz.out.below HB4.out (Nat.le_refl _))
     have HOw : Hid ((w1.alloc (.cells #[] 3)).ownsRow wo.heap.size 3 1 (.slice (some ⟨w1.heap.size, 0, none⟩) 0 0) 0 []) := LH ⟨rfl, .inr ⟨w1.heap.size, 0, #[], rfl, HB3.out.size, heap_alloc_new w1 _, Nat.le_refl _, Nat.zero_le _, rfl, rfl⟩⟩
     have HXl : Hid ((zs.map vi).length = l * 1) := LH (by rw [List.length_map, HLl.out, Nat.mul_one])
     have HDl : Hid (((zs.map vi).drop (i * 1)).length = (l - i) * 1) := LH (by rw [List.length_drop, HXl.out]; omega)
     have HDo : Hid (∀ u ∈ (zs.map vi).drop (i * 1), u.oneCell' = true) := LH (fun u hu => by
      obtain ⟨z, _, rfl⟩ := List.mem_map.1 (List.mem_of_mem_drop hu)
      rfl)
     have HNn : Hid (0 + (l - i) < 1000000000000) := LH (by have := HLn.out; omega)
     have HBs2 : Hid (wo.heap.size ≤ (w1.alloc (.cells #[] 3)).heap.size) := LH (Nat.le_trans HB3.out.size hba.size)
     clear hba
     go_upto_region 9 with (first
      | (refine wpList_slice_from elInts i HCe.out HXl.out rfl hi hnc rfl rfl rfl rfl ?_; intro ad' hc'; have HCd := LH hc'; clear hc')
      | (at_builtin; refine wpList_append_cells elInts HOw.out HCd.out HDl.out HDo.out HNn.out (by decide) HBs2.out rfl rfl rfl rfl ?_; intro v3 w3 h1 h2 h3; have HO3 := LH h1; have HG3 := LH h2; clear h1 h2 h3))
     obtain ⟨a3, c3, rfl, _, _⟩ := owned_form HO3.out
     have HB5 : Hid (Below wo.heap.size wo w3) := LH (below_grownBy (base := w1.heap.size) (e := 3) (size := 1) (n := 0) (xs := []) HB4.out ⟨rfl, .inr ⟨w1.heap.size, 0, #[], rfl, Nat.le_refl _, heap_alloc_new w1 _, Nat.le_refl _, Nat.zero_le _, rfl, rfl⟩⟩ HG3.out (Nat.le_refl _) HB3.out.size)
     have cx3 := below_cells HB5.out cx (Nat.le_refl _)
     have rx := fun x => later_cell cx3 x
     obtain ⟨ln, hln⟩ : ∃ ln, ln = 0 + (l - i) := ⟨_, rfl⟩
     rw [← hln] at HO3 ⊢
     have HLn2 := LH hln
     clear hln cx3
     refine wp_region_seg (C := fun w' => ∃ x : Later (w3), w' = x.val) [.fl [0, 1, 2, 3, 4, 5, 6, 7, 10], .sq [8] true, .sq [9] true, .sq [11, 12] false] (by kernel_rfl) (by kernel_rfl) (by intro c a d v w h; cases d <;> exact h) ?_
     simp only [segs, picks, List.getElem?_cons_succ, List.getElem?_cons_zero]
     have hC1 := later_drew (w3)
     refine wpSeg_fl hC1 ?_
     repeat (first | (refine wpQuiet_slice_clip elInts i rfl rfl hi hnc rfl rfl rfl rfl rfl ?_) | go_big_quiet_step (fail) | quiet_step (fail))
     refine wpQuiet_nil ?_
     have HD4 := LH (later_below hC1)
     clear rx
     generalize w3.drew = w4 at *
     refine wpSeg_sq (fun K hK => ?_)
     go_wp2_with fail
     have hba := below_alloc w4 (.cells #[.int .i64 (x : Int)] 3)
     have hC2 := later_step hC1 hba
     obtain ⟨q4, hq4⟩ : ∃ q4, q4 = w4.heap.size := ⟨_, rfl⟩
     have HB6 := LH (HB5.out.trans ((HD4.out.trans (hba.mono HD4.out.size)).mono HB5.out.size))
     have HX5 : Hid (∀ j v, ([.int .i64 (x : Int)] : List Value)[j]? = some v → (w4.alloc (.cells #[.int .i64 (x : Int)] 3)).cell? ((⟨w4.heap.size, 0, none⟩ : Addr).add j) = some v) := LH (fun j v hj => by rw [add_none, Nat.zero_add]; exact cell_alloc_new _ _ _ j _ (by simpa using hj))
     have HC5 := LH ((Cells.ownedN HO3.out).below (HD4.out.trans (hba.mono HD4.out.size)) (Nat.le_refl _))
     rw [List.nil_append] at HC5
     clear hba
     go_wp2_with fail
     refine hK _ _ (fun _ => hC2) ?_
     clear hK K
     rw [← hq4] at HX5 ⊢
     clear hq4
     generalize w4.alloc _ = w5 at *
     have HCt : Hid (Cells w5 _ ((zs.take i).map vi)) := LH (by rw [List.map_take]; exact (HCz.out.below HB6.out (Nat.le_refl _)).take _)
     have HTl : Hid (((zs.take i).map vi).length = i * 1) := LH (by rw [List.length_map, List.length_take]; have := HLl.out; omega)
     have HN6 : Hid (i + 1 < 1000000000000) := LH (by have := HLn.out; omega)
     refine wpSeg_sq (fun K hK => ?_)
     go_wp2_with (refine wpList_append_full elInts HCt.out HTl.out (by decide : 0 < 1) (rfl : ([.int .i64 (x : Int)] : List Value).length = 1 * 1) HX5.out HN6.out (by decide) rfl rfl rfl rfl ?_; intro v6 w6 h1 h2; have HO6 := LH h1; have HG6 := LH h2; clear h1 h2)
     have hb6 := below_grown HG6.out (Nat.le_refl _)
     have hC3 := later_step hC2 hb6
     have HB7 := LH (HB6.out.trans (hb6.mono HB6.out.size))
     have HC6 := LH (HC5.out.below hb6 (Nat.le_refl _))
     have HBw : Hid (w5.heap.size ≤ w6.heap.size) := LH hb6.size
     clear hb6
     go_wp2_with fail
     refine hK _ _ (fun _ => hC3) ?_
     clear hK K
     have HLd : Hid (((zs.map vi).drop (i * 1)).length = ln * 1) := LH (by rw [HDl.out, HLn2.out]; omega)
     have HN7 : Hid (i + 1 + ln < 1000000000000) := LH (by have := HLn2.out; have := HLn.out; omega)
     refine wpSeg_last ?_
     go_wp2_with (refine wpList_append_cells elInts HO6.out HC6.out HLd.out HDo.out HN7.out (by decide) HBw.out rfl rfl rfl rfl ?_; intro v7 w7 h1 h2 h3; have HO7 := LH h1; have HG7 := LH h2; clear h1 h2 h3)
     go_roundw
     case rel =>
      have h7 := HO7.out
      have e1 : (zs.take i ++ [x] ++ zs.drop i).map vi = (zs.take i).map vi ++ [.int .i64 (x : Int)] ++ (zs.map vi).drop (i * 1) := by
       rw [List.map_append, List.map_append, List.map_drop, Nat.mul_one]; rfl
      have e2 : (zs.take i ++ [x] ++ zs.drop i).length = i + 1 + ln := by
       rw [List.length_append, List.length_append, List.length_take, List.length_drop]
       have h1 := HLl.out
       have h2 := HLn2.out
       simp
       omega
      have hw5 : w.heap.size ≤ w5.heap.size := Nat.le_trans HWo.out.size HB6.out.size
      refine ⟨k + 1, zs.take i ++ [x] ++ zs.drop i, by omega, vint (by omega), LH (.inl ?_), LH (fun b hb => ?_), LH (ins_sorted HSo.out (by have := HLl.out; omega) HLt.out HStop.out), LH ?_, LH ?_⟩
      ·rw [e1, e2]
       exact ⟨h7.1, h7.2.imp id (fun ⟨g, cp, cu, k1, k2, k3⟩ => ⟨g, cp, cu, k1, Nat.zero_le _, k3⟩)⟩
      ·rcases h7.2 with ⟨q, _⟩ | ⟨g, cp, cu, k1, k2, k3⟩
       ·rw [q] at hb; cases hb
       ·rw [k1] at hb
        unfold rowOf at hb
        dsimp only at hb
        split at hb
        ·cases hb
        ·injection hb with hb; rw [← hb]; exact Nat.le_trans hw5 k2
      ·rw [HTk.out]
       exact (ins_perm zs i x).trans (List.Perm.append_right _ HPm.out)
      ·have hb7 : Below wo.heap.size wo w7 := below_grownBy (base := w5.heap.size) HB7.out HO6.out HG7.out (Nat.le_refl _) HB6.out.size
       exact HWo.out.trans (hb7.mono HWo.out.size)
     case measure => simp [intOf]; omega
end
section
open Go.Lib (decDigits itoa nDigits)
end
section
open Go.Lib (decDigits itoa nDigits)
open Go.Lib (decDigits itoa nDigits)
open Go.Lib (decDigits itoa nDigits)
section
variable {P : Program} {w : World} {ops : Array Oper} {rest : List Oper} {o : Oper} {a : Act} {Q : Exit → Act → World → Prop}
end
end
end Go.Proofs.YtpohaahihdhleaaGreat
namespace Go.Proofs
open Go.Shelf
end Go.Proofs
namespace Go.Proofs.YtpohaahihdhleaaGreat
section
open Go.Shelf
end
section
def nlB (wd : Int) (b B : Nat) : Prop := 0 < wd ∧ (b : Int) % wd = 0 ∧ (b : Int) < (B : Int) - 1
instance (wd : Int) (b B : Nat) : Decidable (nlB wd b B) := by unfold nlB; infer_instance
open Go.Lib (decDigits itoa nDigits)
open Go.Lib (decDigits itoa nDigits)
end
end Go.Proofs.YtpohaahihdhleaaGreat
