/- Parts of the proof, one behind the other: Ga, Gb, M, Gc, Gd, Zo, Wc, Wd. -/
import Derived.Test.YtfedgcdkagngnaaGreatDO10

/- dump: Object. -/
namespace Go.Proofs.YtfedgcdkagngnaaGreat
open Go.RowKit
set_option linter.unusedVariables false
open Go.Lib (decDigits itoa nDigits)

theorem str2 (a b : List UInt8) : Value.string (bstr a ++ bstr b) = strV (a ++ b) := by rw [bstr_append]
theorem str3 (a b c : List UInt8) : Value.string (bstr a ++ (bstr b ++ bstr c)) = strV (a ++ (b ++ c)) := by rw [bstr_append, bstr_append]
/-- Texts, one behind the other. -/
def sumB (f : Nat → List UInt8) (n : Nat) : List UInt8 := (List.range n).flatMap f
theorem sumB_succ (f : Nat → List UInt8) (n : Nat) : sumB f (n + 1) = sumB f n ++ f n := by simp [sumB, List.range_succ]
theorem sumB_zero (f : Nat → List UInt8) : sumB f 0 = [] := rfl
theorem sumB_len {f : Nat → List UInt8} {k : Nat} (h : ∀ i, (f i).length ≤ k) : ∀ n, (sumB f n).length ≤ k * n
  | 0 => by simp [sumB]
  | n + 1 => by rw [sumB_succ, List.length_append]; have := sumB_len h n; have := h n; rw [Nat.mul_succ]; omega
theorem itoa_len {n : Nat} (h : n < 18446744073709551616) : (itoa (n : Int)).length ≤ 20 := by rw [itoa_pos]; exact dec_len20 h

def ptrT (S : Dev) (a : Int) (i : Nat) : List UInt8 := [32, 64] ++ itoa ((capP (peek S.cache (a + 1 + (i : Int))) : Nat) : Int)
def datT (S : Dev) (a p : Int) (i : Nat) : List UInt8 := [32] ++ digW 16 (peek S.cache (a + 1 + p + (i : Int))) 16
/-- The line of an object. -/
def objT (S : Dev) (a p d : Int) : List UInt8 := itoa a ++ [58] ++ sumB (ptrT S a) p.toNat ++ sumB (datT S a p) d.toNat
theorem ptrT_len (S : Dev) (a : Int) (i : Nat) : (ptrT S a i).length ≤ 22 := by
  unfold ptrT
  have := itoa_len (n := capP (peek S.cache (a + 1 + (i : Int)))) (by have := capP_le (peek S.cache (a + 1 + (i : Int))); omega)
  rw [List.length_append]; simp; omega
theorem datT_len (S : Dev) (a p : Int) (i : Nat) : (datT S a p i).length = 17 := by unfold datT; simp [digW_len]
/-- What dump.Object gives. -/
def objV (S : Dev) (L : List Hd) (x : Int) : Value := match placedN S L x with
  | some o => .tuple #[strV (objT S x o.p o.d), .int .i64 0]
  | none => .tuple #[strV [], .int .i64 22]

set_option maxHeartbeats 4000000 in
set_option maxRecDepth 20000 in
theorem dobject_any {w : World} {A : AF} {n B : Nat} {m : Al} (h : AlAt w A n B m) (hB : B ≤ 1000) (x : Int) (hx : In64 x) :
    Calls Tryz.prog 19 #[valloc A, .int .i64 x] w (Gives (objV m.bm.dev m.bm.list x) w) := by
  have HA := Lib.hid h
  have HIn := Lib.hid hx
  have HPl := Lib.hid (aplace_any h hB x)
  have HU := Lib.hid h.man.dev.u64C
  have HPo0 : Hid (placedN m.bm.dev m.bm.list x = none → ∀ w', Below w.heap.size w w' → Gives (objV m.bm.dev m.bm.list x) w (.returned (.tuple #[strV [], .int .i64 22])) w') := Lib.hid (fun e w' hb => by unfold objV; rw [e]; exact ⟨rfl, hb⟩)
  have HPo1 : Hid (∀ o, placedN m.bm.dev m.bm.list x = some o → ∀ w', Below w.heap.size w w' → Gives (objV m.bm.dev m.bm.list x) w (.returned (.tuple #[strV (objT m.bm.dev x o.p o.d), .int .i64 0])) w') := Lib.hid (fun o e w' hb => by unfold objV; rw [e]; exact ⟨rfl, hb⟩)
  generalize Gives (objV m.bm.dev m.bm.list x) w = Post at *
  clear h hx
  go_enter Tryz.func19, Tryz.ntmps19
  go_wp2_with fail
  refine HPl.out.mono ?_
  rintro e w1 ⟨⟨p, d, rfl, ho⟩, hb1⟩
  have HO := Lib.hid ho
  have HM := Lib.hid (((Mem.start w).later hb1).alloc #[.int .i64 p, .int .i64 d] 142)
  have HA1 := Lib.hid ((HA.out.below hb1).below (below_alloc w1 (.cells #[.int .i64 p, .int .i64 d] 142)))
  clear ho hb1 HPl
  go_upto_region 2 with fail
  generalize w1.alloc _ = w2 at *
  generalize w1.heap.size = g at *
  have c0 := HM.out.cell 0 0 rfl rfl
  have c1 := HM.out.cell 0 1 rfl rfl
  cases hp : placedN m.bm.dev m.bm.list x with
  | none =>
    have HE := Lib.hid (HPo0.out hp)
    clear hp
    go_wp2_with fail
    exact HE.out _ HM.out.below
  | some o =>
    have hoo := HO.out o hp
    subst hoo
    obtain ⟨hh, _, hx1, hx2⟩ := placed_head hp
    obtain ⟨_, s2, s3, s4, s5⟩ := placed_size hp
    have HE := Lib.hid (HPo1.out _ hp)
    dsimp only at s2 s3 s4 s5 HE
    obtain ⟨pn, rfl⟩ := Int.eq_ofNat_of_zero_le s2
    obtain ⟨dn, rfl⟩ := Int.eq_ofNat_of_zero_le s4
    have HPp : Hid (∀ k : Nat, k < pn → placeN m.bm.dev x (k : Int) false = ⟨x + (1 + (k : Int)), 0⟩) := Lib.hid (fun k hk => by
      unfold placeN
      rw [hh]
      dsimp only
      rw [if_neg (by simp), if_neg (by simp), if_pos (by omega)])
    have HPd : Hid (∀ k : Nat, k < dn → placeN m.bm.dev x (k : Int) true = ⟨x + (1 + (pn : Int) + (k : Int)), 0⟩) := Lib.hid (fun k hk => by
      unfold placeN
      rw [hh]
      dsimp only
      rw [if_neg (by simp), if_pos rfl, if_pos (by omega)])
    have HT : Hid (objT m.bm.dev x (pn : Int) (dn : Int) = itoa x ++ [58] ++ sumB (ptrT m.bm.dev x) pn ++ sumB (datT m.bm.dev x (pn : Int)) dn) := Lib.hid rfl
    rw [HT.out] at HE
    have HLx : Hid ((itoa x).length ≤ 20) := Lib.hid (by
      obtain ⟨y, rfl⟩ := Int.eq_ofNat_of_zero_le (show 0 ≤ x by omega)
      have := HIn.out.2
      exact itoa_len (by omega))
    clear hp hh HO HPo0 HPo1 HT
    have HNx := Lib.hid (fun w => dnumber_any x HIn.out w)
    generalize itoa x = T at *
    have hl : (bstr T).size ≤ 20 := by rw [bstr_size]; exact HLx.out
    go_wp2_with fail
    refine (HNx.out _).mono ?_
    rintro e w3 ⟨rfl, hb3⟩
    have HM3 := Lib.hid (HM.out.later hb3)
    have HA3 := Lib.hid (HA1.out.below hb3)
    have c0' := HM3.out.cell 0 0 rfl rfl
    clear hb3
    go_wp2_with fail
    have HPost : Hid (∀ w', Below w.heap.size w w' → Post (.returned (.tuple #[strV (T ++ [58] ++ sumB (ptrT m.bm.dev x) pn ++ sumB (datT m.bm.dev x (pn : Int)) dn), .int .i64 0])) w') := HE
    obtain ⟨E, hE⟩ : ∃ E : Ent, E = ⟨g, 142, [.int .i64 (pn : Int), .int .i64 (dn : Int)], true⟩ := ⟨_, rfl⟩
    have HE1 : Hid (Mem w w3 [E]) := Lib.hid (by rw [hE]; exact HM3.out)
    have HEE := Lib.hid hE
    clear hE HE HNx HA1 HM HM3 c0 c1 c0'
    go_loopw [8, 28] (fun sv iv wr => ∃ k : Nat, k ≤ pn ∧ sv = strV (T ++ [58] ++ sumB (ptrT m.bm.dev x) k) ∧ iv = .int .i64 (k : Int) ∧ Hid (Mem w wr [E]) ∧ Hid (AlAt wr A n B m)) (fun _ iv _ => pn - (intOf iv).toNat)
    case atStart => exact ⟨0, Nat.zero_le _, (by rw [sumB_zero, List.append_nil]; exact str2 T [58]), rfl, HE1, HA3⟩
    case round =>
      clear HE1 HA3
      obtain ⟨k, hk, rfl, rfl, HM4, HA4⟩ := hrel
      have HS4 : Hid ((T ++ [58] ++ sumB (ptrT m.bm.dev x) k).length ≤ 2000) := Lib.hid (by
        have h1 := sumB_len (ptrT_len m.bm.dev x) k
        have h2 := HLx.out
        rw [List.length_append, List.length_append, List.length_singleton]; omega)
      by_cases hlt : k < pn
      · have hlt' : (k : Int) < (pn : Int) := by omega
        have HPtr := Lib.hid (optrG_any HA4.out.man.dev x (k : Int))
        rw [HPp.out k hlt, if_pos rfl] at HPtr
        dsimp only at HPtr
        rw [show x + (1 + (k : Int)) = x + 1 + (k : Int) by omega] at HPtr
        have HSt : Hid (T ++ [58] ++ sumB (ptrT m.bm.dev x) (k + 1) = (T ++ [58] ++ sumB (ptrT m.bm.dev x) k) ++ ([32, 64] ++ itoa ((capP (peek m.bm.dev.cache (x + 1 + (k : Int))) : Nat) : Int))) := Lib.hid (by rw [sumB_succ]; simp [ptrT])
        have hcap := capP_le (peek m.bm.dev.cache (x + 1 + (k : Int)))
        generalize T ++ [58] ++ sumB (ptrT m.bm.dev x) k = T1 at *
        generalize capP (peek m.bm.dev.cache (x + 1 + (k : Int))) = y at *
        have HNy := Lib.hid (fun w => dnumber_any (y : Int) (by constructor <;> omega) w)
        have HLy : Hid ((itoa (y : Int)).length ≤ 20) := Lib.hid (itoa_len (by omega))
        generalize itoa (y : Int) = Ty at *
        have hl1 : (bstr T1).size ≤ 2000 := by rw [bstr_size]; exact HS4.out
        have hl2 : (bstr Ty).size ≤ 20 := by rw [bstr_size]; exact HLy.out
        go_wp2_with fail
        refine (adev_any HA4.out).mono ?_
        rintro e w5 ⟨rfl, rfl⟩
        go_wp2_with fail
        refine HPtr.out.mono ?_
        rintro e w5 ⟨rfl, hb5⟩
        have HM5 := Lib.hid (HM4.out.later hb5)
        have HA5 := Lib.hid (HA4.out.below hb5)
        clear hb5
        go_wp2_with fail
        refine (HNy.out _).mono ?_
        rintro e w6 ⟨rfl, hb6⟩
        have HM6 := Lib.hid (HM5.out.later hb6)
        have HA6 := Lib.hid (HA5.out.below hb6)
        clear hb6
        go_wp2_with fail
        refine ⟨⟨k + 1, by omega, ?_, vint (by omega), HM6, HA6⟩, by simp [intOf]; omega⟩
        rw [HSt.out]; exact str3 T1 [32, 64] Ty
      · obtain rfl : k = pn := by omega
        have hlt' : decide ((k : Int) < (k : Int)) = false := by simp
        have hE := HEE.out
        subst hE
        have d1 := HM4.out.cell 0 1 rfl rfl
        generalize T ++ [58] ++ sumB (ptrT m.bm.dev x) k = T1 at *
        go_wp2_with fail
        clear d1
        go_loopw [8, 47] (fun sv iv wr => ∃ j : Nat, j ≤ dn ∧ sv = strV (T1 ++ sumB (datT m.bm.dev x (k : Int)) j) ∧ iv = .int .i64 (j : Int) ∧ Hid (Below w.heap.size w wr) ∧ Hid (AlAt wr A n B m)) (fun _ iv _ => dn - (intOf iv).toNat)
        case atStart => exact ⟨0, Nat.zero_le _, (by rw [sumB_zero, List.append_nil]), rfl, Lib.hid HM4.out.below, HA4⟩
        case round =>
          clear HA4 HM4
          obtain ⟨j, hj, rfl, rfl, HB4, HA4⟩ := hrel
          have HS5 : Hid ((T1 ++ sumB (datT m.bm.dev x (k : Int)) j).length ≤ 300000) := Lib.hid (by
            have h1 := sumB_len (fun i => Nat.le_of_eq (datT_len m.bm.dev x (k : Int) i)) j
            have h2 := HS4.out
            rw [List.length_append]; omega)
          by_cases hlt : j < dn
          · have hlt' : (j : Int) < (dn : Int) := by omega
            have HDat := Lib.hid (odataG_any HA4.out.man.dev x (j : Int))
            rw [HPd.out j hlt, if_pos rfl] at HDat
            dsimp only at HDat
            rw [show x + (1 + (k : Int) + (j : Int)) = x + 1 + (k : Int) + (j : Int) by omega] at HDat
            have HSt : Hid (T1 ++ sumB (datT m.bm.dev x (k : Int)) (j + 1) = (T1 ++ sumB (datT m.bm.dev x (k : Int)) j) ++ ([32] ++ digW 16 (peek m.bm.dev.cache (x + 1 + (k : Int) + (j : Int))) 16)) := Lib.hid (by rw [sumB_succ]; simp [datT])
            have hy := peek_lt HU.out (x + 1 + (k : Int) + (j : Int))
            generalize T1 ++ sumB (datT m.bm.dev x (k : Int)) j = T2 at *
            generalize peek m.bm.dev.cache (x + 1 + (k : Int) + (j : Int)) = y at *
            have HNy := Lib.hid (fun w => dhex_any y hy w)
            have HLy : Hid ((digW 16 y 16).length = 16) := Lib.hid (digW_len 16 y 16)
            generalize digW 16 y 16 = Ty at *
            have hl1 : (bstr T2).size ≤ 300000 := by rw [bstr_size]; exact HS5.out
            have hl2 : (bstr Ty).size ≤ 16 := by rw [bstr_size, HLy.out]; exact Nat.le_refl _
            go_wp2_with fail
            refine (adev_any HA4.out).mono ?_
            rintro e w5 ⟨rfl, rfl⟩
            go_wp2_with fail
            refine HDat.out.mono ?_
            rintro e w5 ⟨rfl, hb5⟩
            have HB5 := Lib.hid (HB4.out.trans (hb5.mono HB4.out.size))
            have HA5 := Lib.hid (HA4.out.below hb5)
            clear hb5
            go_wp2_with fail
            refine (HNy.out _).mono ?_
            rintro e w6 ⟨rfl, hb6⟩
            have HB6 := Lib.hid (HB5.out.trans (hb6.mono HB5.out.size))
            have HA6 := Lib.hid (HA5.out.below hb6)
            clear hb6
            go_wp2_with fail
            refine ⟨⟨j + 1, by omega, ?_, vint (by omega), HB6, HA6⟩, by simp [intOf]; omega⟩
            rw [HSt.out]; exact str3 T2 [32] Ty
          · obtain rfl : j = dn := by omega
            have hlt' : decide ((j : Int) < (j : Int)) = false := by simp
            go_wp2_with fail
            exact HPost.out _ HB4.out

end Go.Proofs.YtfedgcdkagngnaaGreat

/- ref33: datas, Object. -/
namespace Go.Proofs.YtfedgcdkagngnaaGreat
open Go.RowKit
set_option linter.unusedVariables false
open Go.Lib (decDigits itoa nDigits)

theorem str3l (a b c : List UInt8) : Value.string (bstr a ++ bstr b ++ bstr c) = strV (a ++ b ++ c) := by rw [bstr_append, bstr_append]
theorem words_datT {S : Dev} {a : Int} {p d n : Nat} (hn : n = 1 + p + d) {i : Nat} (hi : i < d) : (wordsAt S.cache a n)[1 + p + i]? = some (peek S.cache (a + 1 + (p : Int) + (i : Int))) := by
  unfold wordsAt
  rw [List.getElem?_map, List.getElem?_range (by omega)]
  show some (peek S.cache (a + ((1 + p + i : Nat) : Int))) = _
  rw [show a + ((1 + p + i : Nat) : Int) = a + 1 + (p : Int) + (i : Int) by push_cast; omega]

set_option maxHeartbeats 4000000 in
set_option maxRecDepth 20000 in
theorem rdatas_any {w : World} {v : Value} {S : Dev} {m : Nat} (hm : S.dirty.length = m) (h : RAt w v m S.ref) {N : Nat} (hf : S.fit N) (a : Int) (p d : Nat) (hh : headN S a = ⟨p, d, 0⟩) :
    Calls Tryz.prog 92 #[v, .int .i64 a] w (Gives (strV (sumB (datT S a p) d)) w) := by
  have hco := headN_code S a
  rw [hh] at hco
  have hs0 : objSize (p : Int) (d : Int) ≠ 0 := by
    rcases hco with hco | hco
    · exact hco.2.2.2.1
    · injection hco with _ _ h3; cases h3
  have hsz := objSize_is hs0
  obtain ⟨n, hn⟩ : ∃ n, n = objSize (p : Int) (d : Int) := ⟨_, rfl⟩
  rw [← hn] at hsz
  have hnn : n = 1 + p + d := by omega
  have hbnd := obj_small hs0
  have HHead := Lib.hid (fun w' (h : RAt w' v m S.ref) => rhead15_any hm h hf a)
  have HWords := Lib.hid (fun w' (h : RAt w' v m S.ref) => rwords15_any hm h hf a)
  rw [hh] at HHead HWords
  rw [show headV (⟨(p : Int), (d : Int), 0⟩ : Odec) = .tuple #[vob p d, .bool true] from rfl] at HHead
  dsimp only at HWords
  rw [if_pos rfl, ← hn] at HWords
  have HWd : Hid (∀ i, i < d → (wordsAt S.cache a n)[1 + p + i]? = some (peek S.cache (a + 1 + (p : Int) + (i : Int)))) := Lib.hid (fun i hi => words_datT hnn hi)
  have HU := Lib.hid hf.wf.u64C
  have HPo : Hid (∀ w', Below w.heap.size w w' → Gives (strV (sumB (datT S a p) d)) w (.returned (strV (sumB (datT S a p) d))) w') := Lib.hid (fun w' h => ⟨rfl, h⟩)
  generalize Gives (strV (sumB (datT S a p) d)) w = Post at *
  obtain ⟨D, rfl⟩ := h.agg
  obtain ⟨hD8, hD1⟩ := h.arr
  have HM := Lib.hid (Mem.one w D 34)
  have HR0 := Lib.hid (h.below HM.out.below (Nat.le_refl _))
  have HNn := Lib.hid hnn
  clear h hf hm hh hco hs0 hn hnn hsz
  go_enter Tryz.func92, Tryz.ntmps92
  go_upto_region 1 with fail
  generalize w.alloc _ = w0 at *
  obtain ⟨q, hq⟩ : ∃ q, q = w.heap.size := ⟨_, rfl⟩
  rw [← hq] at HM ⊢
  clear hq
  go_wp2_with (refine wpList_load_box aggRd HM.out 0 rfl hD8 rfl rfl rfl ?_)
  refine (HHead.out _ HR0.out).mono ?_
  rintro e w1 ⟨rfl, hb1⟩
  have HM1 := Lib.hid ((HM.out.later hb1).alloc #[.int .i64 (p : Int), .int .i64 (d : Int)] 55)
  have HR1 := Lib.hid ((HR0.out.below hb1 (Nat.le_refl _)).below (below_alloc w1 (.cells #[.int .i64 (p : Int), .int .i64 (d : Int)] 55)) (Nat.le_refl _))
  clear hb1
  go_upto_region 2 with fail
  generalize w1.alloc _ = w2 at *
  generalize w1.heap.size = g at *
  have c0 := HM1.out.cell 1 0 rfl rfl
  go_wp2_with (refine wpList_load_box aggRd HM1.out 0 rfl hD8 rfl rfl rfl ?_)
  refine (HWords.out _ HR1.out).mono ?_
  rintro e w3 ⟨v3, rfl, ho3, hb3⟩
  obtain ⟨a3, c3, rfl, _, _⟩ := owned_form ho3
  have HC3 := Lib.hid (Cells.owned ho3)
  have HM3 := Lib.hid (HM1.out.later hb3)
  have d0 := HM3.out.cell 1 0 rfl rfl
  clear hb3 ho3 c0
  go_wp2_with fail
  clear d0
  go_loopw [8, 9] (fun sv iv wr => ∃ i : Nat, i ≤ d ∧ sv = strV (sumB (datT S a p) i) ∧ iv = .int .i64 ((1 + p + i : Nat) : Int) ∧ Hid (Below w3.heap.size w3 wr)) (fun _ iv _ => n - (intOf iv).toNat)
  case atStart => exact ⟨0, Nat.zero_le _, rfl, vint (by push_cast; omega), Lib.hid (Below.refl _ _)⟩
  case round =>
    obtain ⟨i, hi, rfl, rfl, HB⟩ := hrel
    have hnn := HNn.out
    have HS5 : Hid ((sumB (datT S a (p : Int)) i).length ≤ 300000) := Lib.hid (by
      have h1 := sumB_len (fun i => Nat.le_of_eq (datT_len S a (p : Int) i)) i
      omega)
    by_cases hlt : i < d
    · have hlt' : ((1 + p + i : Nat) : Int) < (n : Int) := by omega
      have hx := HWd.out i hlt
      obtain ⟨b3, o3, rfl, hbx, hcx⟩ := HC3.out.at (i := 1 + p + i) (by rw [List.length_map]; exact (List.getElem?_eq_some_iff.1 hx).1)
      have hc := hcx (1 + p + i) (vu64 (peek S.cache (a + 1 + (p : Int) + (i : Int)))) (by rw [List.getElem?_map, hx]; rfl)
      have hcw := HB.out.cell (p := ⟨b3, o3 + (1 + p + i), none⟩) hbx
      rw [hc] at hcw
      have HSt : Hid (sumB (datT S a (p : Int)) (i + 1) = sumB (datT S a (p : Int)) i ++ [32] ++ digW 16 (peek S.cache (a + 1 + (p : Int) + (i : Int))) 16) := Lib.hid (by rw [sumB_succ]; simp [datT])
      have hy := peek_lt HU.out (a + 1 + (p : Int) + (i : Int))
      generalize sumB (datT S a (p : Int)) i = T2 at *
      generalize peek S.cache (a + 1 + (p : Int) + (i : Int)) = y at *
      have HNy := Lib.hid (fun w => rhex_any y hy w)
      have HLy : Hid ((digW 16 y 16).length = 16) := Lib.hid (digW_len 16 y 16)
      generalize digW 16 y 16 = Ty at *
      have hl1 : (bstr T2).size ≤ 300000 := by rw [bstr_size]; exact HS5.out
      have hl2 : (bstr Ty).size ≤ 16 := by rw [bstr_size, HLy.out]; exact Nat.le_refl _
      clear hx hc hcx hbx hnn
      generalize hj : 1 + p + i = j at *
      have HJ := Lib.hid hj
      clear hj
      go_wp2_with fail
      refine (HNy.out _).mono ?_
      rintro e w6 ⟨rfl, hb6⟩
      have HB6 := Lib.hid (HB.out.trans (hb6.mono HB.out.size))
      clear hb6
      have hjj := HJ.out
      go_wp2_with fail
      refine ⟨⟨i + 1, by omega, ?_, vint (by omega), HB6⟩, by simp [intOf]; omega⟩
      rw [HSt.out]; exact str3l T2 [32] Ty
    · obtain rfl : i = d := by omega
      generalize hj : 1 + p + i = j at *
      have hlt' : decide (j < n) = false := by simp; omega
      clear hj hnn
      go_wp2_with fail
      exact HPo.out _ (HM3.out.later HB.out).below

set_option maxHeartbeats 4000000 in
set_option maxRecDepth 20000 in
theorem robject_any {w : World} {v : Value} {S : Dev} {m : Nat} (hm : S.dirty.length = m) (h : RAt w v m S.ref) {N : Nat} (hf : S.fit N) (a : Int) (ha : In64 a) (p d : Nat) (hh : headN S a = ⟨p, d, 0⟩) :
    Calls Tryz.prog 21 #[v, .int .i64 a] w (Gives (strV (objT S a p d)) w) := by
  have hco := headN_code S a
  rw [hh] at hco
  have hs0 : objSize (p : Int) (d : Int) ≠ 0 ∧ 0 ≤ a := by
    rcases hco with hco | hco
    · exact ⟨hco.2.2.2.1, hco.2.1⟩
    · injection hco with _ _ h3; cases h3
  have hbnd := obj_small hs0.1
  have HPtrs := Lib.hid (fun w' (h : RAt w' v m S.ref) => rptrs15_any hm h hf a)
  have HDatas := Lib.hid (fun w' (h : RAt w' v m S.ref) => rdatas_any hm h hf a p d hh)
  have HNx := Lib.hid (fun w => rnumber_any a ha w)
  have HLx : Hid ((itoa a).length ≤ 20) := Lib.hid (by
    obtain ⟨y, rfl⟩ := Int.eq_ofNat_of_zero_le hs0.2
    have := ha.2
    exact itoa_len (by omega))
  rw [hh] at HPtrs
  dsimp only at HPtrs
  rw [if_pos rfl, Int.toNat_natCast] at HPtrs
  have HT : Hid (objT S a (p : Int) (d : Int) = itoa a ++ [58] ++ sumB (ptrT S a) p ++ sumB (datT S a (p : Int)) d) := Lib.hid rfl
  have HPo : Hid (∀ w', Below w.heap.size w w' → Gives (strV (objT S a p d)) w (.returned (strV (objT S a p d))) w') := Lib.hid (fun w' h => ⟨rfl, h⟩)
  generalize Gives (strV (objT S a p d)) w = Post at *
  rw [HT.out] at HPo
  obtain ⟨D, rfl⟩ := h.agg
  obtain ⟨hD8, hD1⟩ := h.arr
  have HM := Lib.hid (Mem.one w D 34)
  have HR0 := Lib.hid (h.below HM.out.below (Nat.le_refl _))
  clear h hf hm hh hco hs0 HT
  generalize itoa a = T at *
  have hl : (bstr T).size ≤ 20 := by rw [bstr_size]; exact HLx.out
  go_enter Tryz.func21, Tryz.ntmps21
  go_upto_region 1 with fail
  generalize w.alloc _ = w0 at *
  obtain ⟨q, hq⟩ : ∃ q, q = w.heap.size := ⟨_, rfl⟩
  rw [← hq] at HM ⊢
  clear hq
  go_wp2_with fail
  refine (HNx.out _).mono ?_
  rintro e w1 ⟨rfl, hb1⟩
  have HM1 := Lib.hid (HM.out.later hb1)
  have HR1 := Lib.hid (HR0.out.below hb1 (Nat.le_refl _))
  clear hb1
  go_wp2_with (refine wpList_load_box aggRd HM1.out 0 rfl hD8 rfl rfl rfl ?_)
  refine (HPtrs.out _ HR1.out).mono ?_
  rintro e w3 ⟨v3, rfl, ho3, hb3⟩
  obtain ⟨a3, c3, rfl, _, _⟩ := owned_form ho3
  have HC3 := Lib.hid (Cells.owned ho3)
  have HM3 := Lib.hid (HM1.out.later hb3)
  have HR3 := Lib.hid (HR1.out.below hb3 (Nat.le_refl _))
  clear hb3 ho3
  go_wp2_with fail
  go_loopw [5, 7] (fun sv iv wr => ∃ i : Nat, i ≤ p ∧ sv = strV (T ++ [58] ++ sumB (ptrT S a) i) ∧ iv = .int .i64 (i : Int) ∧ Hid (Below w3.heap.size w3 wr)) (fun _ iv _ => p - (intOf iv).toNat)
  case atStart => exact ⟨0, Nat.zero_le _, (by rw [sumB_zero, List.append_nil]; exact str2 T [58]), rfl, Lib.hid (Below.refl _ _)⟩
  case round =>
    obtain ⟨i, hi, rfl, rfl, HB⟩ := hrel
    have HS5 : Hid ((T ++ [58] ++ sumB (ptrT S a) i).length ≤ 2000) := Lib.hid (by
      have h1 := sumB_len (ptrT_len S a) i
      have h2 := HLx.out
      rw [List.length_append, List.length_append, List.length_singleton]; omega)
    by_cases hlt : i < p
    · have hlt' : (i : Int) < (p : Int) := by omega
      have hx : (ptrL S a p)[i]? = some (capP (peek S.cache (a + 1 + (i : Int)))) := by unfold ptrL; rw [List.getElem?_map, List.getElem?_range hlt]; rfl
      obtain ⟨b3, o3, rfl, hbx, hcx⟩ := HC3.out.at (i := i) (by rw [List.length_map]; exact (List.getElem?_eq_some_iff.1 hx).1)
      have hc := hcx i (vi (capP (peek S.cache (a + 1 + (i : Int))))) (by rw [List.getElem?_map, hx]; rfl)
      have hcw := HB.out.cell (p := ⟨b3, o3 + i, none⟩) hbx
      rw [hc] at hcw
      have HSt : Hid (T ++ [58] ++ sumB (ptrT S a) (i + 1) = T ++ [58] ++ sumB (ptrT S a) i ++ [32, 64] ++ itoa ((capP (peek S.cache (a + 1 + (i : Int))) : Nat) : Int)) := Lib.hid (by rw [sumB_succ]; simp [ptrT])
      have hcap := capP_le (peek S.cache (a + 1 + (i : Int)))
      generalize T ++ [58] ++ sumB (ptrT S a) i = T2 at *
      generalize capP (peek S.cache (a + 1 + (i : Int))) = y at *
      have HNy := Lib.hid (fun w => rnumber_any (y : Int) (by constructor <;> omega) w)
      have HLy : Hid ((itoa (y : Int)).length ≤ 20) := Lib.hid (itoa_len (by omega))
      generalize itoa (y : Int) = Ty at *
      have hl1 : (bstr T2).size ≤ 2000 := by rw [bstr_size]; exact HS5.out
      have hl2 : (bstr Ty).size ≤ 20 := by rw [bstr_size]; exact HLy.out
      clear hx hc hcx hbx
      go_wp2_with fail
      refine (HNy.out _).mono ?_
      rintro e w6 ⟨rfl, hb6⟩
      have HB6 := Lib.hid (HB.out.trans (hb6.mono HB.out.size))
      clear hb6
      go_wp2_with fail
      refine ⟨⟨i + 1, by omega, ?_, vint (by omega), HB6⟩, by simp [intOf]; omega⟩
      rw [HSt.out]; exact str3l T2 [32, 64] Ty
    · obtain rfl : i = p := by omega
      have hlt' : decide ((i : Int) < (i : Int)) = false := by simp
      generalize T ++ [58] ++ sumB (ptrT S a) i = T2 at *
      have HM4 := Lib.hid (HM3.out.later HB.out)
      have HR4 := Lib.hid (HR3.out.below HB.out (Nat.le_refl _))
      have HLd : Hid ((sumB (datT S a (i : Int)) d).length ≤ 300000) := Lib.hid (by
        have h1 := sumB_len (fun j => Nat.le_of_eq (datT_len S a (i : Int) j)) d
        omega)
      generalize sumB (datT S a (i : Int)) d = Td at *
      have hl1 : (bstr T2).size ≤ 2000 := by rw [bstr_size]; exact HS5.out
      have hl2 : (bstr Td).size ≤ 300000 := by rw [bstr_size]; exact HLd.out
      go_wp2_with (refine wpList_load_box aggRd HM4.out 0 rfl hD8 rfl rfl rfl ?_)
      refine (HDatas.out _ HR4.out).mono ?_
      rintro e w6 ⟨rfl, hb6⟩
      have HM6 := Lib.hid (HM4.out.later hb6)
      clear hb6
      go_wp2_with fail
      have := HPo.out _ HM6.out.below
      rw [← str2] at this
      exact this
end Go.Proofs.YtfedgcdkagngnaaGreat

/- The references of layers 4, 6, 8: Need, Cells, Size, Class, Blocks. -/
namespace Go.Proofs.YtfedgcdkagngnaaGreat
open Go.RowKit
set_option linter.unusedVariables false

theorem cells_step (x n : Nat) (hx : 2 ≤ x) : (n + 1) * x ≤ 512 ↔ n < 512 / x := by
  rw [← Nat.succ_le_iff, Nat.le_div_iff_mul_le (by omega)]

set_option maxHeartbeats 400000 in
theorem rccells_any (k : Int) (w : World) : Calls Tryz.prog 88 #[.int .i64 k] w fun e w' => e = .returned (.int .i64 (clsCells k : Nat)) ∧ Below w.heap.size w w' := by
  have hle := clsWords_le k
  have HC : Hid (clsCells k = 512 / clsWords k) := Lib.hid rfl
  have HP : Hid (clsWords k = 0 ∨ 2 ≤ clsWords k) := by
    apply Lib.hid
    by_cases h : 0 ≤ k ∧ k < 32
    · exact .inr (clsWords_pos k h)
    · left; unfold clsWords; rw [if_neg h]
  have CW := Lib.hid (rcwords_any k)
  generalize clsWords k = x at *
  by_cases h0 : x = 0
  · subst h0
    go_enter Tryz.func88, Tryz.ntmps88
    go_wp2_with fail
    refine wp_loop_rounds 1 ?_
    rw [rounds_succ]
    go_wp2_with fail
    refine (CW.out _).mono ?_
    rintro e w1 ⟨rfl, hb⟩
    go_wp2_with fail
    go_ret
    exact ⟨ret_int (by rw [HC.out]; rfl), hb⟩
  · have hx2 : 2 ≤ x := by rcases HP.out with h | h <;> omega
    clear h0
    go_enter Tryz.func88, Tryz.ntmps88
    go_wp2_with fail
    go_loopw [3] (fun i wr => ∃ n : Nat, n ≤ 512 ∧ i = .int .i64 n ∧ Hid (n ≤ 512 / x) ∧ Below w.heap.size w wr) (fun i _ => 512 - (intOf i).toNat)
    case atStart => exact ⟨0, by omega, rfl, Lib.hid (Nat.zero_le _), Below.refl _ _⟩
    case round =>
      obtain ⟨n, hn, rfl, hd, hb⟩ := hrel
      have HS := Lib.hid (cells_step x n hx2)
      have HD : Hid (512 / x ≤ 256) := Lib.hid (by exact Nat.div_le_div_left (a := 512) hx2 (by omega))
      have hm0 : 0 ≤ ((n : Int) + 1) * (x : Int) := Int.mul_nonneg (by omega) (by omega)
      have hm1 : ((n : Int) + 1) * (x : Int) ≤ 513 * 256 := Int.mul_le_mul (by omega) (by omega) (by omega) (by omega)
      have he : ((n : Int) + 1) * (x : Int) = (((n + 1) * x : Nat) : Int) := by simp
      have HE := Lib.hid he
      clear he
      go_wp2_with fail
      refine (CW.out _).mono ?_
      rintro e w1 ⟨rfl, hb1⟩
      have hb1' := hb.trans (hb1.mono hb.size)
      go_wp2_with fail
      refine (CW.out _).mono ?_
      rintro e w2 ⟨rfl, hb2⟩
      have hb2' := hb1'.trans (hb2.mono hb1'.size)
      clear hb1 hb2
      by_cases hc : ((n : Int) + 1) * (x : Int) ≤ 512
      · have hd' : decide (((n : Int) + 1) * (x : Int) ≤ 512) = true := by simp [hc]
        have hlt : n < 512 / x := HS.out.1 (by have := HE.out; omega)
        have hn2 : n + 1 ≤ 512 := by have := HD.out; omega
        have HL := Lib.hid hlt
        clear hlt
        go_wp2_with fail
        exact ⟨⟨n + 1, hn2, vint (by omega), Lib.hid HL.out, hb2'⟩, by simp [intOf]; omega⟩
      · have hd' : decide (((n : Int) + 1) * (x : Int) ≤ 512) = false := by simp [hc]
        have HL : Hid (n = 512 / x) := Lib.hid (by have h1 := hd.out; have h2 := HS.out; have h3 := HE.out; omega)
        go_wp2_with fail
        go_ret
        exact ⟨ret_int (by rw [HC.out, ← HL.out]), hb2'⟩

set_option maxHeartbeats 400000 in
theorem rosize_any (p d : Int) (w : World) : Calls Tryz.prog 141 #[.agg #[.int .i64 p, .int .i64 d]] w fun e w' => e = .returned (.int .i64 (objSize p d : Nat)) ∧ Below w.heap.size w w' := by
  have HB := Lib.hid (below_alloc w)
  by_cases h1 : p < 0
  · have HS : Hid (objSize p d = 0) := Lib.hid (by unfold objSize; rw [if_pos (by omega)])
    go_enter Tryz.func141, Tryz.ntmps141
    go_wp2_with fail
    go_ret
    exact ⟨ret_int (by rw [HS.out]; rfl), HB.out _⟩
  by_cases h2 : 63 < p
  · have HS : Hid (objSize p d = 0) := Lib.hid (by unfold objSize; rw [if_pos (by omega)])
    go_enter Tryz.func141, Tryz.ntmps141
    go_wp2_with fail
    go_ret
    exact ⟨ret_int (by rw [HS.out]; rfl), HB.out _⟩
  by_cases h3 : d < 0
  · have HS : Hid (objSize p d = 0) := Lib.hid (by unfold objSize; rw [if_pos (by omega)])
    go_enter Tryz.func141, Tryz.ntmps141
    go_wp2_with fail
    go_ret
    exact ⟨ret_int (by rw [HS.out]; rfl), HB.out _⟩
  by_cases h4 : 16384 < d
  · have HS : Hid (objSize p d = 0) := Lib.hid (by unfold objSize; rw [if_pos (by omega)])
    go_enter Tryz.func141, Tryz.ntmps141
    go_wp2_with fail
    go_ret
    exact ⟨ret_int (by rw [HS.out]; rfl), HB.out _⟩
  have HS : Hid (((objSize p d : Nat) : Int) = 1 + p + d) := Lib.hid (by unfold objSize; rw [if_neg (by omega)]; omega)
  go_enter Tryz.func141, Tryz.ntmps141
  go_wp2_with fail
  go_ret
  exact ⟨ret_int HS.out.symm, HB.out _⟩

set_option maxHeartbeats 400000 in
theorem rclass_any (p d : Int) (w : World) : Calls Tryz.prog 70 #[.agg #[.int .i64 p, .int .i64 d]] w fun e w' => e = .returned (.int .i64 (rofN (objSize p d : Nat))) ∧ Below w.heap.size w w' := by
  have HB := Lib.hid (below_alloc w)
  go_enter Tryz.func70, Tryz.ntmps70
  go_wp2_with fail
  refine (rosize_any _ _ _).mono ?_
  rintro e w1 ⟨rfl, hb1⟩
  have hb1' := (HB.out _).trans (hb1.mono (HB.out _).size)
  go_wp2_with fail
  refine (rof_any _ _).mono ?_
  rintro e w2 ⟨rfl, hb2⟩
  have hb2' := hb1'.trans (hb2.mono hb1'.size)
  go_wp2_with fail
  go_ret
  exact ⟨rfl, hb2'⟩

set_option maxHeartbeats 400000 in
theorem need_any (n : Int) (w : World) (hn : n ≤ 1000000000) : Calls Tryz.prog 156 #[.int .i64 n] w fun e w' => e = .returned (.int .i64 (upN n 512)) ∧ w = w' := by
  by_cases h : n < 1
  · have HU : Hid (upN n 512 = 0) := Lib.hid (by unfold upN; rw [if_pos (by omega)])
    go_enter Tryz.func156, Tryz.ntmps156
    go_wp2_with fail
    go_ret
    exact ⟨ret_int HU.out.symm, rfl⟩
  · have HU := Lib.hid (up_ref n 512 (by omega) (by omega))
    by_cases c : n % 512 = 0
    · have c1 : (n % 512 != 0) = false := by simp [c]
      have C := Lib.hid c
      clear c
      go_enter Tryz.func156, Tryz.ntmps156
      go_wp2_with fail
      go_ret
      exact ⟨ret_int (by rw [HU.out, if_pos C.out]), rfl⟩
    · have c1 : (n % 512 != 0) = true := by simp [c]
      have C := Lib.hid c
      clear c
      go_enter Tryz.func156, Tryz.ntmps156
      go_wp2_with fail
      go_ret
      exact ⟨ret_int (by rw [HU.out, if_neg C.out]), rfl⟩

theorem rofN_small (n : Nat) (h : small n) : rofN (n : Int) = (ofN (n : Int) : Nat) := by unfold rofN; rw [if_pos (by unfold small at h; omega)]
theorem rofN_large (n : Nat) (h : ¬ small n) : rofN (n : Int) = -1 := by unfold rofN; rw [if_neg (by unfold small at h; omega)]

set_option maxHeartbeats 400000 in
theorem roblocks_any (p d : Int) (w : World) : Calls Tryz.prog 90 #[.agg #[.int .i64 p, .int .i64 d]] w fun e w' => e = .returned (.int .i64 (objBlocks (objSize p d) : Nat)) ∧ Below w.heap.size w w' := by
  have HB := Lib.hid (below_alloc w)
  have hle := objSize_le p d
  go_enter Tryz.func90, Tryz.ntmps90
  go_wp2_with fail
  refine (rclass_any _ _ _).mono ?_
  rintro e w1 ⟨rfl, hb1⟩
  have hb1' := (HB.out _).trans (hb1.mono (HB.out _).size)
  have hc0 : w1.cell? ⟨w.heap.size, 0, none⟩ = some (.int .i64 p) := by rw [hb1.cell (p := ⟨w.heap.size, 0, none⟩) (by simp)]; exact cell_alloc_new _ _ _ _ _ rfl
  have hc1 : w1.cell? ⟨w.heap.size, 1, none⟩ = some (.int .i64 d) := by rw [hb1.cell (p := ⟨w.heap.size, 1, none⟩) (by simp)]; exact cell_alloc_new _ _ _ _ _ rfl
  by_cases h : small (objSize p d)
  · rw [rofN_small _ h]
    have HO : Hid (objBlocks (objSize p d) = 0) := Lib.hid (by unfold objBlocks; rw [if_pos h])
    clear h hb1
    go_wp2_with fail
    go_ret
    exact ⟨ret_int (by rw [HO.out]; rfl), hb1'⟩
  · rw [rofN_large _ h]
    have HO : Hid (((objBlocks (objSize p d) : Nat) : Int) = upN (objSize p d : Nat) 512) := Lib.hid (by unfold objBlocks upN; rw [if_neg h]; split <;> omega)
    clear h hb1
    go_wp2_with fail
    refine (rosize_any _ _ _).mono ?_
    rintro e w2 ⟨rfl, hb2⟩
    have hb2' := hb1'.trans (hb2.mono hb1'.size)
    go_wp2_with fail
    refine (need_any _ _ (by omega)).mono ?_
    rintro e w3 ⟨rfl, rfl⟩
    rw [← HO.out]
    go_wp2_with fail
    go_ret
    exact ⟨rfl, hb2'⟩

end Go.Proofs.YtfedgcdkagngnaaGreat

/- ref07.Whole; ref16.Placed. -/
namespace Go.Proofs.YtfedgcdkagngnaaGreat
open Go.RowKit
set_option linter.unusedVariables false

set_option maxHeartbeats 2000000 in
theorem rwhole_any (a : Option Addr) (n cap : Nat) (l : List Hd) (hn : l.length = n) (w : World) (hc : Cells w a (hdCs l)) (hl : n ≤ 1000) (b : Nat) (hb : b < n) :
    Calls Tryz.prog 89 #[.slice a n cap, .int .i64 (b : Int)] w (Gives (.int .i64 (wholeN l b : Nat)) w) := by
  have hbl : b < l.length := by rw [hn]; exact hb
  obtain ⟨k, c, z, he⟩ := hdGetD l b
  have HW : Hid (wholeN l b = if k ≠ 2 ∨ z < 1 ∨ (n : Int) - b < z then 0 else if contTo l b z.toNat then z.toNat else 0) := Lib.hid (by
    unfold wholeN
    rw [he, hn]
    dsimp only
    by_cases h1 : k ≠ 2 ∨ z < 1 ∨ (n : Int) - b < z
    · rw [if_pos (.inr h1), if_pos h1]
    · rw [if_neg h1, if_neg (by rintro (h | h); omega; exact h1 h)])
  obtain ⟨b1, o1, rfl, d0, d1, d2⟩ := hd_cells hc hbl he
  have HC := Lib.hid hc
  have HN := Lib.hid hn
  have HP : Hid (∀ (x : Int) w', x = (wholeN l b : Int) → Below w.heap.size w w' → Gives (.int .i64 (wholeN l b : Nat)) w (.returned (.int .i64 x)) w') := Lib.hid (fun x w' h1 h2 => by subst h1; exact ⟨rfl, h2⟩)
  generalize Gives (.int .i64 (wholeN l b : Nat)) w = Post at *
  have HB1 : Hid (b1 < w.heap.size) := Lib.hid (by
    have : (w.cell? ⟨b1, o1 + b * 3, none⟩).isSome = true := by rw [d0]; rfl
    apply Classical.byContradiction
    intro hc
    have hnone : w.heap[b1]? = none := Array.getElem?_eq_none (by omega)
    simp [World.cell?, hnone] at this)
  have HD2 := Lib.hid d2
  clear hc hn he d1
  have hbn : (b : Int) < (n : Int) := by omega
  by_cases hk : k = 2
  case neg =>
    have HE : Hid (wholeN l b = 0) := Lib.hid (by rw [HW.out, if_pos (.inl hk)])
    have hk' : (k != 2) = true := by simpa using hk
    clear hk
    go_enter Tryz.func89, Tryz.ntmps89
    go_wp2_with fail
    exact HP.out _ _ (by rw [HE.out]; rfl) (Below.refl _ _)
  subst hk
  by_cases hz : z < 1
  · have HE : Hid (wholeN l b = 0) := Lib.hid (by rw [HW.out, if_pos (.inr (.inl hz))])
    go_enter Tryz.func89, Tryz.ntmps89
    go_wp2_with fail
    exact HP.out _ _ (by rw [HE.out]; rfl) (Below.refl _ _)
  by_cases hz2 : (n : Int) - b < z
  · have HE : Hid (wholeN l b = 0) := Lib.hid (by rw [HW.out, if_pos (.inr (.inr hz2))])
    have hw1 : IntKind.i64.wrap ((n : Int) - (b : Int)) = (n : Int) - (b : Int) := IntWalk.i64_in _ (by omega)
    go_enter Tryz.func89, Tryz.ntmps89
    go_wp2_with fail
    exact HP.out _ _ (by rw [HE.out]; rfl) (Below.refl _ _)
  obtain ⟨m, rfl⟩ := Int.eq_ofNat_of_zero_le (show 0 ≤ z by omega)
  have hm1 : 1 ≤ m := by omega
  have hmn : b + m ≤ n := by omega
  have HW2 : Hid (wholeN l b = if contTo l b m then m else 0) := Lib.hid (by rw [HW.out, if_neg (by rintro (h | h | h); exact h rfl; omega; omega)]; rfl)
  have hw1 : IntKind.i64.wrap ((n : Int) - (b : Int)) = (n : Int) - (b : Int) := IntWalk.i64_in _ (by omega)
  clear HW hz hz2
  go_enter Tryz.func89, Tryz.ntmps89
  go_wp2_with fail
  go_loopw [5] (fun i wr => ∃ j : Nat, 1 ≤ j ∧ j ≤ m ∧ i = .int .i64 (j : Int) ∧ contTo l b j = true ∧ Below w.heap.size w wr) (fun i _ => m - (intOf i).toNat)
  case atStart => exact ⟨1, Nat.le_refl _, hm1, rfl, by simp [contTo], Below.refl _ _⟩
  case round =>
    obtain ⟨j, hj1, hjm, rfl, hco, hbe⟩ := hrel
    have HCo := Lib.hid hco
    have HB := Lib.hid hbe
    have e9 := (HB.out.cell (p := ⟨b1, o1 + b * 3 + 2, none⟩) HB1.out).trans HD2.out
    clear hco hbe d0 d2
    by_cases hlt : j < m
    · have hlt' : (j : Int) < (m : Int) := by omega
      have hin : b + j < n := by omega
      have hin' : (b : Int) + (j : Int) < (n : Int) := by omega
      obtain ⟨k2, c2, z2, he2⟩ := hdGetD l (b + j)
      obtain ⟨b2, o2, hee, e0, e1, e2⟩ := hd_cells (HC.out.below HB.out (Nat.le_refl _)) (by rw [HN.out]; exact hin) he2
      cases hee
      have hto : ((b : Int) + (j : Int)).toNat = b + j := by omega
      have HE2 := Lib.hid he2
      have HNo : Hid ((⟨k2, c2, z2⟩ : Hd) ≠ ⟨3, 0, (j : Int)⟩ → wholeN l b = 0) := Lib.hid (fun hq => by rw [HW2.out, contTo_no hj1 hlt (by rw [he2]; exact hq)]; rfl)
      clear he2
      go_upto_region 7 with fail
      have HMa := Lib.hid (Mem.one wr #[.int .i64 k2, .int .i64 c2, .int .i64 z2] 109)
      have HBa := Lib.hid (HB.out.trans (HMa.out.below.mono HB.out.size))
      generalize wr.alloc _ = wa at *
      have f0 := HMa.out.cell 0 0 rfl rfl
      have f1 := HMa.out.cell 0 1 rfl rfl
      have f2 := HMa.out.cell 0 2 rfl rfl
      by_cases h1 : k2 = 3
      · subst h1
        by_cases h2 : c2 = 0
        · subst h2
          by_cases h3 : z2 = (j : Int)
          · subst h3
            have HCo2 : Hid (contTo l b (j + 1) = true) := Lib.hid (by rw [contTo, HCo.out, HE2.out]; simp)
            have hne : ((j : Int) != (j : Int)) = false := by simp
            go_wp2_with fail
            exact ⟨⟨j + 1, by omega, by omega, vint (by omega), HCo2.out, HBa.out⟩, by simp [intOf]; omega⟩
          · have HE : Hid (wholeN l b = 0) := Lib.hid (HNo.out (by intro e; injection e with _ _ e3; exact h3 e3))
            have hne : (z2 != (j : Int)) = true := by simpa using h3
            clear h3
            go_wp2_with fail
            exact HP.out _ _ (by rw [HE.out]; rfl) HBa.out
        · have HE : Hid (wholeN l b = 0) := Lib.hid (HNo.out (by intro e; injection e with _ e3 _; exact h2 e3))
          have hne : (c2 != 0) = true := by simpa using h2
          clear h2
          go_wp2_with fail
          exact HP.out _ _ (by rw [HE.out]; rfl) HBa.out
      · have HE : Hid (wholeN l b = 0) := Lib.hid (HNo.out (by intro e; injection e with e3 _ _; exact h1 e3))
        have hne : (k2 != 3) = true := by simpa using h1
        clear h1
        go_wp2_with fail
        exact HP.out _ _ (by rw [HE.out]; rfl) HBa.out
    · obtain rfl : j = m := by omega
      have hlt' : decide ((j : Int) < (j : Int)) = false := by simp
      have HE : Hid (wholeN l b = j) := Lib.hid (by rw [HW2.out, HCo.out]; rfl)
      go_wp2_with fail
      exact HP.out _ _ (by rw [HE.out]) HB.out
/-- What the reference tells of an object's place. -/
def RPlPost (S : Dev) (L : List Hd) (a : Int) (w : World) : Ending → World → Prop := fun e w' => (∃ p d : Int, e = .returned (.tuple #[vob p d, .bool (placedN S L a).isSome]) ∧ ∀ o, placedN S L a = some o → o = ⟨p, d, 0⟩) ∧ Below w.heap.size w w'

set_option maxHeartbeats 8000000 in
set_option maxRecDepth 20000 in
theorem rplaced_any {w : World} {v : Value} {S : Dev} {m : Nat} (hm : S.dirty.length = m) (h : RAt w v m S.ref) {N : Nat} (hf : S.fit N) (a : Option Addr) (n cap : Nat) (L : List Hd) (hn : L.length = n) (hc : Cells w a (hdCs L)) (hl : n ≤ 1000) (x : Int) (hx : In64 x) :
    Calls Tryz.prog 20 #[v, .slice a n cap, .int .i64 x] w (RPlPost S L x w) := by
  have hIn := hx
  unfold In64 at hIn
  have HHead := Lib.hid (fun w' (h : RAt w' v m S.ref) => rhead15_any hm h hf x)
  have HP : Hid (∀ (p d : Int) b w', b = (placedN S L x).isSome → (∀ o, placedN S L x = some o → o = ⟨p, d, 0⟩) → Below w.heap.size w w' → RPlPost S L x w (.returned (.tuple #[vob p d, .bool b])) w') := Lib.hid (fun p d b w' h1 h2 h3 => by subst h1; exact ⟨⟨p, d, rfl, h2⟩, h3⟩)
  generalize RPlPost S L x w = Post at *
  obtain ⟨D, rfl⟩ := h.agg
  obtain ⟨hD8, hD1⟩ := h.arr
  have HM := Lib.hid (Mem.two w D 34 #[.int .i64 0, .int .i64 0] 55)
  have HR0 := Lib.hid (h.below HM.out.below (Nat.le_refl _))
  have HCw := Lib.hid hc
  have HN := Lib.hid hn
  clear h hf hm hc hn hx
  go_enter Tryz.func20, Tryz.ntmps20
  go_upto_region 1 with fail
  generalize (w.alloc _).alloc _ = w0 at *
  obtain ⟨q, hq⟩ : ∃ q, q = w.heap.size := ⟨_, rfl⟩
  rw [← hq] at HM ⊢
  clear hq
  go_wp2_with (refine wpList_load_box aggRd HM.out 0 rfl hD8 rfl rfl rfl ?_)
  refine (HHead.out _ HR0.out).mono ?_
  rintro e w1 ⟨rfl, hb1⟩
  have HM1 := Lib.hid (HM.out.later hb1)
  clear hb1 HHead HR0 HM
  rcases headN_cases S x with hh | ⟨p, d, hh⟩
  · have HE : Hid (placedN S L x = none) := Lib.hid (by unfold placedN; rw [hh, if_pos (.inr (.inr (by simp)))])
    rw [hh, show headV (⟨0, 0, 22⟩ : Odec) = .tuple #[vob 0 0, .bool false] from rfl]
    clear hh
    go_upto_region 2 with fail
    have HM2 := Lib.hid (HM1.out.alloc #[.int .i64 0, .int .i64 0] 55)
    generalize w1.alloc _ = w2 at *
    go_wp2_with (refine wpList_store_mem aggRo HM2.out 1 rfl rfl rfl rfl rfl rfl rfl rfl ?_; intro w6 h6 ht6; have H6 := Lib.hid h6; have HT6 := Lib.hid ht6; clear h6 ht6)
    refine bodyPost_ret (results_cell_row2 (p := 6) (u := 7) rfl _ _ _ _ _ _ _ rfl (H6.out.exact 1 rfl) Tryz.underlying55 rfl (by kernel_rfl)) rfl ?_
    exact HP.out _ _ _ _ (by rw [HE.out]; rfl) (fun o ho => by rw [HE.out] at ho; cases ho) H6.out.below
  rw [hh, show headV (⟨p, d, 0⟩ : Odec) = .tuple #[vob p d, .bool true] from rfl]
  have HH := Lib.hid hh
  clear hh
  go_upto_region 2 with fail
  have HM2 := Lib.hid (HM1.out.alloc #[.int .i64 p, .int .i64 d] 55)
  generalize w1.alloc _ = w2 at *
  obtain ⟨g, hg⟩ : ∃ g, g = w1.heap.size := ⟨_, rfl⟩
  rw [← hg] at HM2 ⊢
  clear hg HM1
  by_cases h5 : x < 512
  · have HE : Hid (placedN S L x = none) := Lib.hid (by unfold placedN; rw [if_pos (.inl h5)])
    go_wp2_with (refine wpList_store_mem aggRo HM2.out 1 rfl rfl rfl rfl rfl rfl rfl rfl ?_; intro w6 h6 ht6; have H6 := Lib.hid h6; have HT6 := Lib.hid ht6; clear h6 ht6)
    refine bodyPost_ret (results_cell_row2 (p := 6) (u := 7) rfl _ _ _ _ _ _ _ rfl (H6.out.exact 1 rfl) Tryz.underlying55 rfl (by kernel_rfl)) rfl ?_
    exact HP.out _ _ _ _ (by rw [HE.out]; rfl) (fun o ho => by rw [HE.out] at ho; cases ho) H6.out.below
  obtain ⟨y, rfl⟩ := Int.eq_ofNat_of_zero_le (show 0 ≤ x by omega)
  have hyd : ((y : Nat) : Int) / 512 = ((y / 512 : Nat) : Int) := by omega
  have hym : ((y : Nat) : Int) % 512 = ((y % 512 : Nat) : Int) := by omega
  obtain ⟨b, hb⟩ : ∃ b, b = y / 512 := ⟨_, rfl⟩
  obtain ⟨o, ho⟩ : ∃ o, o = y % 512 := ⟨_, rfl⟩
  rw [← hb] at hyd
  rw [← ho] at hym
  have HBO : Hid (b = y / 512 ∧ o = y % 512) := Lib.hid ⟨hb, ho⟩
  have hol : o < 512 := by omega
  clear hb ho
  by_cases hbn : n ≤ b
  · have HE : Hid (placedN S L (y : Int) = none) := Lib.hid (by unfold placedN; rw [if_pos (.inr (.inl (by rw [HN.out]; have := HBO.out.1; omega)))])
    have hbn' : (n : Int) ≤ (b : Int) := by omega
    go_wp2_with (refine wpList_store_mem aggRo HM2.out 1 rfl rfl rfl rfl rfl rfl rfl rfl ?_; intro w6 h6 ht6; have H6 := Lib.hid h6; have HT6 := Lib.hid ht6; clear h6 ht6)
    refine bodyPost_ret (results_cell_row2 (p := 6) (u := 7) rfl _ _ _ _ _ _ _ rfl (H6.out.exact 1 rfl) Tryz.underlying55 rfl (by kernel_rfl)) rfl ?_
    exact HP.out _ _ _ _ (by rw [HE.out]; rfl) (fun o ho => by rw [HE.out] at ho; cases ho) H6.out.below
  have hbn' : b < n := by omega
  have HPl : Hid (placedN S L (y : Int) = if small (objSize p d) then (if isCell L (ofN (objSize p d : Nat)) y then some ⟨p, d, 0⟩ else none)
    else if o = 0 ∧ wholeN L b = objBlocks (objSize p d) then some ⟨p, d, 0⟩ else none) := Lib.hid (by
      unfold placedN
      rw [HH.out, HN.out, Int.toNat_natCast, ← HBO.out.1, ← HBO.out.2, if_neg (by have := HBO.out.1; dsimp only; omega)])
  go_upto_region 4 with fail
  obtain ⟨k, c, z, he⟩ := hdGetD L b
  obtain ⟨b1, o1, rfl, e0, e1, e2⟩ := hd_cells (HCw.out.below HM2.out.below (Nat.le_refl _)) (by rw [HN.out]; exact hbn') he
  have HEb := Lib.hid he
  clear he
  have hbn2 : (b : Int) < (n : Int) := by omega
  go_cut [10, 11] from 33 (fun hv kv wc => ∃ g2 : Nat, hv = .pointer (some ⟨g2, 0, none⟩) ∧ kv = .int .i64 (rofN (objSize p d : Nat)) ∧ Hid (Mem w wc [⟨q, 34, D.toList, true⟩, ⟨q + 1, 55, [.int .i64 0, .int .i64 0], true⟩, ⟨g, 55, [.int .i64 p, .int .i64 d], true⟩, ⟨g2, 109, [.int .i64 k, .int .i64 c, .int .i64 z], true⟩]))
  case first =>
    have d0 := HM2.out.cell 2 0 rfl rfl
    have d1 := HM2.out.cell 2 1 rfl rfl
    have r0 := fun x => later_cell d0 x
    have r1 := fun x => later_cell d1 x
    have r2 := fun x => later_cell e0 x
    have r3 := fun x => later_cell e1 x
    have r4 := fun x => later_cell e2 x
    clear d0 d1 e0 e1 e2
    refine wp_region_tr (C := fun w' => ∃ x : Later (w2), w' = x.val) (.fl [0, 1, 2, 3, 4, 5] (.br 6 true (.sq [7] true (.sq [8, 9] false (.nil))) 7 true (.sq [6] true (.sq [8, 9] false (.nil))))) (by kernel_rfl) (by kernel_rfl) (by intro c a d v w h; cases d <;> exact h) ?_
    simp only [trO, picks, List.getElem?_cons_succ, List.getElem?_cons_zero]
    have hC1 := later_drew (w2)
    refine wpTr_fl hC1 ?_
    repeat (first | go_big_quiet_step (fail) | quiet_step (fail))
    refine wpQuiet_nil ?_
    clear r0 r1 r2 r3 r4
    have HM3 := Lib.hid (HM2.out.later (later_below hC1))
    have HRef : Hid (∀ w', Calls Tryz.prog 70 #[.agg #[.int .i64 p, .int .i64 d]] w' fun e w'' => e = .returned (.int .i64 (rofN (objSize p d : Nat))) ∧ Below w'.heap.size w' w'') := Lib.hid (rclass_any p d)
    generalize rofN (objSize p d : Nat) = cls at *
    generalize w2.drew = w3 at *
    refine wpTr_br ?_ ?_
    · refine wpTr_sq (fun K hK => ?_)
      go_wp2_with fail
      refine (HRef.out _).mono ?_
      rintro e w4 ⟨rfl, hb4⟩
      have hC2 := later_step hC1 hb4
      have HM4 := Lib.hid ((HM3.out.later hb4).alloc #[.int .i64 0, .int .i64 0, .int .i64 0] 109)
      clear hb4
      go_wp2_with fail
      refine hK _ _ (fun _ => hC2) ?_
      clear hK K
      refine wpTr_sq (fun K hK => ?_)
      go_wp2_with fail
      have hC3 := later_step hC2 (below_alloc w4 (.cells #[.int .i64 0, .int .i64 0, .int .i64 0] 109))
      go_wp2_with fail
      refine hK _ _ (fun _ => hC3) ?_
      clear hK K
      generalize w4.alloc _ = w5 at *
      obtain ⟨g2, hg2⟩ : ∃ g2, g2 = w4.heap.size := ⟨_, rfl⟩
      rw [← hg2] at HM4 ⊢
      have HG2 : Hid (g2 < w5.heap.size) := Lib.hid (HM4.out.glt 3 rfl)
      clear hC1 hC2 hC3 hg2
      refine wpTr_last ?_
      go_wp2_with (refine wpList_store_mem aggRh HM4.out 3 rfl rfl rfl rfl rfl rfl rfl rfl ?_; intro w6 h6 ht6; have H6 := Lib.hid h6; have HT6 := Lib.hid ht6; clear h6 ht6)
      go_meet
      exact ⟨g2, rfl, rfl, H6⟩
    · refine wpTr_sq (fun K hK => ?_)
      go_wp2_with fail
      have HM4 := Lib.hid (HM3.out.alloc #[.int .i64 0, .int .i64 0, .int .i64 0] 109)
      have hC2 := later_step hC1 (below_alloc w3 (.cells #[.int .i64 0, .int .i64 0, .int .i64 0] 109))
      go_wp2_with fail
      refine hK _ _ (fun _ => hC2) ?_
      clear hK K
      generalize w3.alloc _ = w4 at *
      obtain ⟨g2, hg2⟩ : ∃ g2, g2 = w3.heap.size := ⟨_, rfl⟩
      rw [← hg2] at HM4 ⊢
      clear hg2
      refine wpTr_sq (fun K hK => ?_)
      go_wp2_with fail
      refine (HRef.out _).mono ?_
      rintro e w5 ⟨rfl, hb5⟩
      have hC3 := later_step hC2 hb5
      have HM5 := Lib.hid (HM4.out.later hb5)
      clear hb5
      go_wp2_with fail
      refine hK _ _ (fun _ => hC3) ?_
      clear hK K
      clear hC1 hC2 hC3
      refine wpTr_last ?_
      go_wp2_with (refine wpList_store_mem aggRh HM5.out 3 rfl rfl rfl rfl rfl rfl rfl rfl ?_; intro w6 h6 ht6; have H6 := Lib.hid h6; have HT6 := Lib.hid ht6; clear h6 ht6)
      go_meet
      exact ⟨g2, rfl, rfl, H6⟩
  case rest =>
    obtain ⟨g2, rfl, rfl, HM4⟩ := hcut
    clear HM2 e0 e1 e2
    by_cases hsm : small (objSize p d)
    · have hk := ofN_lt hsm
      rw [rofN_small _ hsm]
      have HPl2 : Hid (placedN S L (y : Int) = if isCell L (ofN (objSize p d : Nat)) y then some ⟨p, d, 0⟩ else none) := Lib.hid (by rw [HPl.out, if_pos hsm])
      generalize ofN (objSize p d : Nat) = kk at *
      have HWd := Lib.hid (fun w => rcwords_any (kk : Int) w)
      have HCl := Lib.hid (fun w => rccells_any (kk : Int) w)
      have hp := clsWords_pos (kk : Int) (by omega)
      have HIs : Hid (isCell L kk y ↔ (⟨k, c, z⟩ : Hd) = ⟨1, kk, 0⟩ ∧ o % clsWords kk = 0 ∧ o / clsWords kk < clsCells kk) := Lib.hid (by
        unfold isCell
        rw [← HBO.out.1, ← HBO.out.2, HEb.out, HN.out]
        have := HBO.out.1
        constructor
        · rintro ⟨_, _, h⟩; exact h
        · intro h; exact ⟨by omega, by omega, h⟩)
      generalize clsWords (kk : Int) = W at *
      generalize clsCells (kk : Int) = Cn at *
      clear hsm HPl HBO HEb
      by_cases h1 : k = 1
      case neg =>
        have HE : Hid (placedN S L (y : Int) = none) := Lib.hid (by rw [HPl2.out, if_neg (fun h => h1 (by have := (HIs.out.1 h).1; injection this))])
        have h1' : (k == 1) = false := by simpa using h1
        clear h1
        go_upto_region 7 with fail
        have d0 := HM4.out.cell 2 0 rfl rfl
        have d1 := HM4.out.cell 2 1 rfl rfl
        have f0 := HM4.out.cell 3 0 rfl rfl
        have f1 := HM4.out.cell 3 1 rfl rfl
        have f2 := HM4.out.cell 3 2 rfl rfl
        have hnd := HM4.out.nd
        simp only [List.map_cons, List.map_nil, List.nodup_cons, List.mem_cons, List.not_mem_nil, or_false, not_or] at hnd
        have hg1 : g ∉ [q + 1] := by simp; exact fun e => hnd.2.1.1 e.symm
        have hg2 : g2 ∉ [q + 1] := by simp; exact fun e => hnd.2.1.2 e.symm
        have r0 := fun x => near_cell (L := [q + 1]) d0 hg1 x
        have r1 := fun x => near_cell (L := [q + 1]) d1 hg1 x
        have r2 := fun x => near_cell (L := [q + 1]) f0 hg2 x
        have r3 := fun x => near_cell (L := [q + 1]) f1 hg2 x
        have r4 := fun x => near_cell (L := [q + 1]) f2 hg2 x
        have HT0 : Hid (Touch [q + 1] wc wc.drew) := Lib.hid (Touch.ofBelow (later_below (later_drew wc)))
        have HD0 : Hid (Below wc.heap.size wc wc.drew) := Lib.hid (later_below (later_drew wc))
        have hC1 := near_of HT0.out
        clear d0 d1 f0 f1 f2 hnd hg1 hg2
        refine wp_region_seg (C := fun w' => ∃ x : Near [q + 1] wc, w' = x.val) [.fl [0, 1, 2, 3, 4, 5, 6, 7, 8, 9, 10, 11, 12, 13, 14, 15, 16, 17], .sq [18] true, .fl [19, 20, 21, 22, 23, 24, 27], .sq [25] true, .fl [26], .sq [28] true, .fl [29, 30], .sq [31] true, .sq [32] false] (by kernel_rfl) (by kernel_rfl) (by intro c a d v w h; cases d <;> exact h) ?_
        simp only [segs, picks, List.getElem?_cons_succ, List.getElem?_cons_zero]
        refine wpSeg_fl hC1 ?_
        repeat (first | go_big_quiet_step (fail) | quiet_step (fail))
        refine wpQuiet_nil ?_
        refine wpSeg_sq (fun K hK => ?_)
        go_wp2_with fail
        go_wp2_with fail
        refine hK _ _ (fun _ => hC1) ?_
        clear hK K
        refine wpSeg_fl hC1 ?_
        repeat (first | go_big_quiet_step (fail) | quiet_step (fail))
        refine wpQuiet_nil ?_
        refine wpSeg_sq (fun K hK => ?_)
        go_wp2_with fail
        go_wp2_with fail
        refine hK _ _ (fun _ => hC1) ?_
        clear hK K
        refine wpSeg_fl hC1 ?_
        repeat (first | go_big_quiet_step (fail) | quiet_step (fail))
        refine wpQuiet_nil ?_
        refine wpSeg_sq (fun K hK => ?_)
        go_wp2_with fail
        go_wp2_with fail
        refine hK _ _ (fun _ => hC1) ?_
        clear hK K
        refine wpSeg_fl hC1 ?_
        repeat (first | go_big_quiet_step (fail) | quiet_step (fail))
        refine wpQuiet_nil ?_
        refine wpSeg_sq (fun K hK => ?_)
        go_wp2_with (refine wpList_store_mem aggRo (HM4.out.later HD0.out) 1 rfl rfl rfl rfl rfl rfl rfl rfl ?_; intro w8 h8 ht8; have H8 := Lib.hid h8; have HT8 := Lib.hid (HT0.out.trans ht8); clear h8 ht8)
        have hC9 := near_of HT8.out
        go_wp2_with fail
        refine hK _ _ (fun _ => hC9) ?_
        clear hK K
        refine wpSeg_last ?_
        go_wp2_with fail
        refine bodyPost_ret (results_cell_row2 (p := 6) (u := 7) rfl _ _ _ _ _ _ _ rfl (H8.out.exact 1 rfl) Tryz.underlying55 rfl (by kernel_rfl)) rfl ?_
        exact HP.out _ _ _ _ (by rw [HE.out]; rfl) (fun o ho => by rw [HE.out] at ho; cases ho) H8.out.below
      subst h1
      by_cases h2 : c = (kk : Int)
      case neg =>
        have HE : Hid (placedN S L (y : Int) = none) := Lib.hid (by rw [HPl2.out, if_neg (fun h => h2 (by have := (HIs.out.1 h).1; injection this))])
        have h2' : (c == (kk : Int)) = false := by simpa using h2
        clear h2
        go_upto_region 7 with fail
        have d0 := HM4.out.cell 2 0 rfl rfl
        have d1 := HM4.out.cell 2 1 rfl rfl
        have f0 := HM4.out.cell 3 0 rfl rfl
        have f1 := HM4.out.cell 3 1 rfl rfl
        have f2 := HM4.out.cell 3 2 rfl rfl
        have hnd := HM4.out.nd
        simp only [List.map_cons, List.map_nil, List.nodup_cons, List.mem_cons, List.not_mem_nil, or_false, not_or] at hnd
        have hg1 : g ∉ [q + 1] := by simp; exact fun e => hnd.2.1.1 e.symm
        have hg2 : g2 ∉ [q + 1] := by simp; exact fun e => hnd.2.1.2 e.symm
        have r0 := fun x => near_cell (L := [q + 1]) d0 hg1 x
        have r1 := fun x => near_cell (L := [q + 1]) d1 hg1 x
        have r2 := fun x => near_cell (L := [q + 1]) f0 hg2 x
        have r3 := fun x => near_cell (L := [q + 1]) f1 hg2 x
        have r4 := fun x => near_cell (L := [q + 1]) f2 hg2 x
        have HT0 : Hid (Touch [q + 1] wc wc.drew) := Lib.hid (Touch.ofBelow (later_below (later_drew wc)))
        have HD0 : Hid (Below wc.heap.size wc wc.drew) := Lib.hid (later_below (later_drew wc))
        have hC1 := near_of HT0.out
        clear d0 d1 f0 f1 f2 hnd hg1 hg2
        refine wp_region_seg (C := fun w' => ∃ x : Near [q + 1] wc, w' = x.val) [.fl [0, 1, 2, 3, 4, 5, 6, 7, 8, 9, 10, 11, 12, 13, 14, 15, 16, 17], .sq [18] true, .fl [19, 20, 21, 22, 23, 24, 27], .sq [25] true, .fl [26], .sq [28] true, .fl [29, 30], .sq [31] true, .sq [32] false] (by kernel_rfl) (by kernel_rfl) (by intro c a d v w h; cases d <;> exact h) ?_
        simp only [segs, picks, List.getElem?_cons_succ, List.getElem?_cons_zero]
        refine wpSeg_fl hC1 ?_
        repeat (first | go_big_quiet_step (fail) | quiet_step (fail))
        refine wpQuiet_nil ?_
        refine wpSeg_sq (fun K hK => ?_)
        go_wp2_with fail
        go_wp2_with fail
        refine hK _ _ (fun _ => hC1) ?_
        clear hK K
        refine wpSeg_fl hC1 ?_
        repeat (first | go_big_quiet_step (fail) | quiet_step (fail))
        refine wpQuiet_nil ?_
        refine wpSeg_sq (fun K hK => ?_)
        go_wp2_with fail
        go_wp2_with fail
        refine hK _ _ (fun _ => hC1) ?_
        clear hK K
        refine wpSeg_fl hC1 ?_
        repeat (first | go_big_quiet_step (fail) | quiet_step (fail))
        refine wpQuiet_nil ?_
        refine wpSeg_sq (fun K hK => ?_)
        go_wp2_with fail
        go_wp2_with fail
        refine hK _ _ (fun _ => hC1) ?_
        clear hK K
        refine wpSeg_fl hC1 ?_
        repeat (first | go_big_quiet_step (fail) | quiet_step (fail))
        refine wpQuiet_nil ?_
        refine wpSeg_sq (fun K hK => ?_)
        go_wp2_with (refine wpList_store_mem aggRo (HM4.out.later HD0.out) 1 rfl rfl rfl rfl rfl rfl rfl rfl ?_; intro w8 h8 ht8; have H8 := Lib.hid h8; have HT8 := Lib.hid (HT0.out.trans ht8); clear h8 ht8)
        have hC9 := near_of HT8.out
        go_wp2_with fail
        refine hK _ _ (fun _ => hC9) ?_
        clear hK K
        refine wpSeg_last ?_
        go_wp2_with fail
        refine bodyPost_ret (results_cell_row2 (p := 6) (u := 7) rfl _ _ _ _ _ _ _ rfl (H8.out.exact 1 rfl) Tryz.underlying55 rfl (by kernel_rfl)) rfl ?_
        exact HP.out _ _ _ _ (by rw [HE.out]; rfl) (fun o ho => by rw [HE.out] at ho; cases ho) H8.out.below
      subst h2
      by_cases h3 : z = 0
      case neg =>
        have HE : Hid (placedN S L (y : Int) = none) := Lib.hid (by rw [HPl2.out, if_neg (fun h => h3 (by have := (HIs.out.1 h).1; injection this))])
        have h3' : (z == 0) = false := by simpa using h3
        have heq : ((kk : Int) == (kk : Int)) = true := by simp
        clear h3
        go_upto_region 7 with fail
        have d0 := HM4.out.cell 2 0 rfl rfl
        have d1 := HM4.out.cell 2 1 rfl rfl
        have f0 := HM4.out.cell 3 0 rfl rfl
        have f1 := HM4.out.cell 3 1 rfl rfl
        have f2 := HM4.out.cell 3 2 rfl rfl
        have hnd := HM4.out.nd
        simp only [List.map_cons, List.map_nil, List.nodup_cons, List.mem_cons, List.not_mem_nil, or_false, not_or] at hnd
        have hg1 : g ∉ [q + 1] := by simp; exact fun e => hnd.2.1.1 e.symm
        have hg2 : g2 ∉ [q + 1] := by simp; exact fun e => hnd.2.1.2 e.symm
        have r0 := fun x => near_cell (L := [q + 1]) d0 hg1 x
        have r1 := fun x => near_cell (L := [q + 1]) d1 hg1 x
        have r2 := fun x => near_cell (L := [q + 1]) f0 hg2 x
        have r3 := fun x => near_cell (L := [q + 1]) f1 hg2 x
        have r4 := fun x => near_cell (L := [q + 1]) f2 hg2 x
        have HT0 : Hid (Touch [q + 1] wc wc.drew) := Lib.hid (Touch.ofBelow (later_below (later_drew wc)))
        have HD0 : Hid (Below wc.heap.size wc wc.drew) := Lib.hid (later_below (later_drew wc))
        have hC1 := near_of HT0.out
        clear d0 d1 f0 f1 f2 hnd hg1 hg2
        refine wp_region_seg (C := fun w' => ∃ x : Near [q + 1] wc, w' = x.val) [.fl [0, 1, 2, 3, 4, 5, 6, 7, 8, 9, 10, 11, 12, 13, 14, 15, 16, 17], .sq [18] true, .fl [19, 20, 21, 22, 23, 24, 27], .sq [25] true, .fl [26], .sq [28] true, .fl [29, 30], .sq [31] true, .sq [32] false] (by kernel_rfl) (by kernel_rfl) (by intro c a d v w h; cases d <;> exact h) ?_
        simp only [segs, picks, List.getElem?_cons_succ, List.getElem?_cons_zero]
        refine wpSeg_fl hC1 ?_
        repeat (first | go_big_quiet_step (fail) | quiet_step (fail))
        refine wpQuiet_nil ?_
        refine wpSeg_sq (fun K hK => ?_)
        go_wp2_with fail
        go_wp2_with fail
        refine hK _ _ (fun _ => hC1) ?_
        clear hK K
        refine wpSeg_fl hC1 ?_
        repeat (first | go_big_quiet_step (fail) | quiet_step (fail))
        refine wpQuiet_nil ?_
        refine wpSeg_sq (fun K hK => ?_)
        go_wp2_with fail
        go_wp2_with fail
        refine hK _ _ (fun _ => hC1) ?_
        clear hK K
        refine wpSeg_fl hC1 ?_
        repeat (first | go_big_quiet_step (fail) | quiet_step (fail))
        refine wpQuiet_nil ?_
        refine wpSeg_sq (fun K hK => ?_)
        go_wp2_with fail
        go_wp2_with fail
        refine hK _ _ (fun _ => hC1) ?_
        clear hK K
        refine wpSeg_fl hC1 ?_
        repeat (first | go_big_quiet_step (fail) | quiet_step (fail))
        refine wpQuiet_nil ?_
        refine wpSeg_sq (fun K hK => ?_)
        go_wp2_with (refine wpList_store_mem aggRo (HM4.out.later HD0.out) 1 rfl rfl rfl rfl rfl rfl rfl rfl ?_; intro w8 h8 ht8; have H8 := Lib.hid h8; have HT8 := Lib.hid (HT0.out.trans ht8); clear h8 ht8)
        have hC9 := near_of HT8.out
        go_wp2_with fail
        refine hK _ _ (fun _ => hC9) ?_
        clear hK K
        refine wpSeg_last ?_
        go_wp2_with fail
        refine bodyPost_ret (results_cell_row2 (p := 6) (u := 7) rfl _ _ _ _ _ _ _ rfl (H8.out.exact 1 rfl) Tryz.underlying55 rfl (by kernel_rfl)) rfl ?_
        exact HP.out _ _ _ _ (by rw [HE.out]; rfl) (fun o ho => by rw [HE.out] at ho; cases ho) H8.out.below
      subst h3
      have heq : ((kk : Int) == (kk : Int)) = true := by simp
      by_cases h4 : o % W = 0
      case neg =>
        have HE : Hid (placedN S L (y : Int) = none) := Lib.hid (by rw [HPl2.out, if_neg (fun h => h4 (HIs.out.1 h).2.1)])
        obtain ⟨om, hom⟩ : ∃ om, om = o % W := ⟨_, rfl⟩
        rw [← hom] at h4 HIs
        have h4' : (o : Int) % (W : Int) = (om : Int) := by rw [hom]; rfl
        have h4'' : ((om : Int) == 0) = false := by simpa using h4
        clear h4 hom
        go_upto_region 7 with fail
        have d0 := HM4.out.cell 2 0 rfl rfl
        have d1 := HM4.out.cell 2 1 rfl rfl
        have f0 := HM4.out.cell 3 0 rfl rfl
        have f1 := HM4.out.cell 3 1 rfl rfl
        have f2 := HM4.out.cell 3 2 rfl rfl
        have hnd := HM4.out.nd
        simp only [List.map_cons, List.map_nil, List.nodup_cons, List.mem_cons, List.not_mem_nil, or_false, not_or] at hnd
        have hg1 : g ∉ [q + 1] := by simp; exact fun e => hnd.2.1.1 e.symm
        have hg2 : g2 ∉ [q + 1] := by simp; exact fun e => hnd.2.1.2 e.symm
        have r0 := fun x => near_cell (L := [q + 1]) d0 hg1 x
        have r1 := fun x => near_cell (L := [q + 1]) d1 hg1 x
        have r2 := fun x => near_cell (L := [q + 1]) f0 hg2 x
        have r3 := fun x => near_cell (L := [q + 1]) f1 hg2 x
        have r4 := fun x => near_cell (L := [q + 1]) f2 hg2 x
        have HT0 : Hid (Touch [q + 1] wc wc.drew) := Lib.hid (Touch.ofBelow (later_below (later_drew wc)))
        have HD0 : Hid (Below wc.heap.size wc wc.drew) := Lib.hid (later_below (later_drew wc))
        have hC1 := near_of HT0.out
        clear d0 d1 f0 f1 f2 hnd hg1 hg2
        refine wp_region_seg (C := fun w' => ∃ x : Near [q + 1] wc, w' = x.val) [.fl [0, 1, 2, 3, 4, 5, 6, 7, 8, 9, 10, 11, 12, 13, 14, 15, 16, 17], .sq [18] true, .fl [19, 20, 21, 22, 23, 24, 27], .sq [25] true, .fl [26], .sq [28] true, .fl [29, 30], .sq [31] true, .sq [32] false] (by kernel_rfl) (by kernel_rfl) (by intro c a d v w h; cases d <;> exact h) ?_
        simp only [segs, picks, List.getElem?_cons_succ, List.getElem?_cons_zero]
        refine wpSeg_fl hC1 ?_
        repeat (first | go_big_quiet_step (fail) | quiet_step (fail))
        refine wpQuiet_nil ?_
        refine wpSeg_sq (fun K hK => ?_)
        go_wp2_with fail
        refine (HWd.out _).mono ?_
        rintro e w11 ⟨rfl, hb11⟩
        have HD11 := Lib.hid (HD0.out.trans (hb11.mono HD0.out.size))
        have HT11 : Hid (Touch [q + 1] wc w11) := Lib.hid (HT0.out.later hb11)
        have hC11 := near_of HT11.out
        clear hb11
        go_wp2_with fail
        refine hK _ _ (fun _ => hC11) ?_
        clear hK K
        refine wpSeg_fl hC11 ?_
        repeat (first | go_big_quiet_step (fail) | quiet_step (fail))
        refine wpQuiet_nil ?_
        refine wpSeg_sq (fun K hK => ?_)
        go_wp2_with fail
        go_wp2_with fail
        refine hK _ _ (fun _ => hC11) ?_
        clear hK K
        refine wpSeg_fl hC11 ?_
        repeat (first | go_big_quiet_step (fail) | quiet_step (fail))
        refine wpQuiet_nil ?_
        refine wpSeg_sq (fun K hK => ?_)
        go_wp2_with fail
        go_wp2_with fail
        refine hK _ _ (fun _ => hC11) ?_
        clear hK K
        refine wpSeg_fl hC11 ?_
        repeat (first | go_big_quiet_step (fail) | quiet_step (fail))
        refine wpQuiet_nil ?_
        refine wpSeg_sq (fun K hK => ?_)
        go_wp2_with (refine wpList_store_mem aggRo (HM4.out.later HD11.out) 1 rfl rfl rfl rfl rfl rfl rfl rfl ?_; intro w8 h8 ht8; have H8 := Lib.hid h8; have HT8 := Lib.hid (HT11.out.trans ht8); clear h8 ht8)
        have hC9 := near_of HT8.out
        go_wp2_with fail
        refine hK _ _ (fun _ => hC9) ?_
        clear hK K
        refine wpSeg_last ?_
        go_wp2_with fail
        refine bodyPost_ret (results_cell_row2 (p := 6) (u := 7) rfl _ _ _ _ _ _ _ rfl (H8.out.exact 1 rfl) Tryz.underlying55 rfl (by kernel_rfl)) rfl ?_
        exact HP.out _ _ _ _ (by rw [HE.out]; rfl) (fun o ho => by rw [HE.out] at ho; cases ho) H8.out.below
      have h4' : (o : Int) % (W : Int) = 0 := by omega
      have h5' : (o : Int) / (W : Int) = ((o / W : Nat) : Int) := by omega
      have h5l : o / W ≤ 512 := Nat.le_trans (Nat.div_le_self _ _) (by omega)
      by_cases h5 : o / W < Cn
      case neg =>
        have HE : Hid (placedN S L (y : Int) = none) := Lib.hid (by rw [HPl2.out, if_neg (fun h => h5 (HIs.out.1 h).2.2)])
        have h5'' : Cn ≤ o / W := by omega
        clear h5
        generalize o / W = ow at *
        go_upto_region 7 with fail
        have d0 := HM4.out.cell 2 0 rfl rfl
        have d1 := HM4.out.cell 2 1 rfl rfl
        have f0 := HM4.out.cell 3 0 rfl rfl
        have f1 := HM4.out.cell 3 1 rfl rfl
        have f2 := HM4.out.cell 3 2 rfl rfl
        have hnd := HM4.out.nd
        simp only [List.map_cons, List.map_nil, List.nodup_cons, List.mem_cons, List.not_mem_nil, or_false, not_or] at hnd
        have hg1 : g ∉ [q + 1] := by simp; exact fun e => hnd.2.1.1 e.symm
        have hg2 : g2 ∉ [q + 1] := by simp; exact fun e => hnd.2.1.2 e.symm
        have r0 := fun x => near_cell (L := [q + 1]) d0 hg1 x
        have r1 := fun x => near_cell (L := [q + 1]) d1 hg1 x
        have r2 := fun x => near_cell (L := [q + 1]) f0 hg2 x
        have r3 := fun x => near_cell (L := [q + 1]) f1 hg2 x
        have r4 := fun x => near_cell (L := [q + 1]) f2 hg2 x
        have HT0 : Hid (Touch [q + 1] wc wc.drew) := Lib.hid (Touch.ofBelow (later_below (later_drew wc)))
        have HD0 : Hid (Below wc.heap.size wc wc.drew) := Lib.hid (later_below (later_drew wc))
        have hC1 := near_of HT0.out
        clear d0 d1 f0 f1 f2 hnd hg1 hg2
        refine wp_region_seg (C := fun w' => ∃ x : Near [q + 1] wc, w' = x.val) [.fl [0, 1, 2, 3, 4, 5, 6, 7, 8, 9, 10, 11, 12, 13, 14, 15, 16, 17], .sq [18] true, .fl [19, 20, 21, 22, 23, 24, 27], .sq [25] true, .fl [26], .sq [28] true, .fl [29, 30], .sq [31] true, .sq [32] false] (by kernel_rfl) (by kernel_rfl) (by intro c a d v w h; cases d <;> exact h) ?_
        simp only [segs, picks, List.getElem?_cons_succ, List.getElem?_cons_zero]
        refine wpSeg_fl hC1 ?_
        repeat (first | go_big_quiet_step (fail) | quiet_step (fail))
        refine wpQuiet_nil ?_
        refine wpSeg_sq (fun K hK => ?_)
        go_wp2_with fail
        refine (HWd.out _).mono ?_
        rintro e w11 ⟨rfl, hb11⟩
        have HD11 := Lib.hid (HD0.out.trans (hb11.mono HD0.out.size))
        have HT11 : Hid (Touch [q + 1] wc w11) := Lib.hid (HT0.out.later hb11)
        have hC11 := near_of HT11.out
        clear hb11
        go_wp2_with fail
        refine hK _ _ (fun _ => hC11) ?_
        clear hK K
        refine wpSeg_fl hC11 ?_
        repeat (first | go_big_quiet_step (fail) | quiet_step (fail))
        refine wpQuiet_nil ?_
        refine wpSeg_sq (fun K hK => ?_)
        go_wp2_with fail
        refine (HWd.out _).mono ?_
        rintro e w12 ⟨rfl, hb12⟩
        have HD12 := Lib.hid (HD11.out.trans (hb12.mono HD11.out.size))
        have HT12 : Hid (Touch [q + 1] wc w12) := Lib.hid (HT11.out.later hb12)
        have hC12 := near_of HT12.out
        clear hb12
        go_wp2_with fail
        refine hK _ _ (fun _ => hC12) ?_
        clear hK K
        refine wpSeg_fl hC12 ?_
        repeat (first | go_big_quiet_step (fail) | quiet_step (fail))
        refine wpQuiet_nil ?_
        refine wpSeg_sq (fun K hK => ?_)
        go_wp2_with fail
        refine (HCl.out _).mono ?_
        rintro e w13 ⟨rfl, hb13⟩
        have HD13 := Lib.hid (HD12.out.trans (hb13.mono HD12.out.size))
        have HT13 : Hid (Touch [q + 1] wc w13) := Lib.hid (HT12.out.later hb13)
        have hC13 := near_of HT13.out
        clear hb13
        go_wp2_with fail
        refine hK _ _ (fun _ => hC13) ?_
        clear hK K
        refine wpSeg_fl hC13 ?_
        repeat (first | go_big_quiet_step (fail) | quiet_step (fail))
        refine wpQuiet_nil ?_
        refine wpSeg_sq (fun K hK => ?_)
        go_wp2_with (refine wpList_store_mem aggRo (HM4.out.later HD13.out) 1 rfl rfl rfl rfl rfl rfl rfl rfl ?_; intro w8 h8 ht8; have H8 := Lib.hid h8; have HT8 := Lib.hid (HT13.out.trans ht8); clear h8 ht8)
        have hC9 := near_of HT8.out
        go_wp2_with fail
        refine hK _ _ (fun _ => hC9) ?_
        clear hK K
        refine wpSeg_last ?_
        go_wp2_with fail
        refine bodyPost_ret (results_cell_row2 (p := 6) (u := 7) rfl _ _ _ _ _ _ _ rfl (H8.out.exact 1 rfl) Tryz.underlying55 rfl (by kernel_rfl)) rfl ?_
        exact HP.out _ _ _ _ (by rw [HE.out, decide_eq_false (by omega)]; rfl) (fun o ho => by rw [HE.out] at ho; cases ho) H8.out.below
      have HE : Hid (placedN S L (y : Int) = some ⟨p, d, 0⟩) := Lib.hid (by rw [HPl2.out, if_pos (HIs.out.2 ⟨rfl, h4, h5⟩)])
      generalize o / W = ow at *
      go_upto_region 7 with fail
      have d0 := HM4.out.cell 2 0 rfl rfl
      have d1 := HM4.out.cell 2 1 rfl rfl
      have f0 := HM4.out.cell 3 0 rfl rfl
      have f1 := HM4.out.cell 3 1 rfl rfl
      have f2 := HM4.out.cell 3 2 rfl rfl
      have hnd := HM4.out.nd
      simp only [List.map_cons, List.map_nil, List.nodup_cons, List.mem_cons, List.not_mem_nil, or_false, not_or] at hnd
      have hg1 : g ∉ [q + 1] := by simp; exact fun e => hnd.2.1.1 e.symm
      have hg2 : g2 ∉ [q + 1] := by simp; exact fun e => hnd.2.1.2 e.symm
      have r0 := fun x => near_cell (L := [q + 1]) d0 hg1 x
      have r1 := fun x => near_cell (L := [q + 1]) d1 hg1 x
      have r2 := fun x => near_cell (L := [q + 1]) f0 hg2 x
      have r3 := fun x => near_cell (L := [q + 1]) f1 hg2 x
      have r4 := fun x => near_cell (L := [q + 1]) f2 hg2 x
      have HT0 : Hid (Touch [q + 1] wc wc.drew) := Lib.hid (Touch.ofBelow (later_below (later_drew wc)))
      have HD0 : Hid (Below wc.heap.size wc wc.drew) := Lib.hid (later_below (later_drew wc))
      have hC1 := near_of HT0.out
      clear d0 d1 f0 f1 f2 hnd hg1 hg2
      refine wp_region_seg (C := fun w' => ∃ x : Near [q + 1] wc, w' = x.val) [.fl [0, 1, 2, 3, 4, 5, 6, 7, 8, 9, 10, 11, 12, 13, 14, 15, 16, 17], .sq [18] true, .fl [19, 20, 21, 22, 23, 24, 27], .sq [25] true, .fl [26], .sq [28] true, .fl [29, 30], .sq [31] true, .sq [32] false] (by kernel_rfl) (by kernel_rfl) (by intro c a d v w h; cases d <;> exact h) ?_
      simp only [segs, picks, List.getElem?_cons_succ, List.getElem?_cons_zero]
      refine wpSeg_fl hC1 ?_
      repeat (first | go_big_quiet_step (fail) | quiet_step (fail))
      refine wpQuiet_nil ?_
      refine wpSeg_sq (fun K hK => ?_)
      go_wp2_with fail
      refine (HWd.out _).mono ?_
      rintro e w11 ⟨rfl, hb11⟩
      have HD11 := Lib.hid (HD0.out.trans (hb11.mono HD0.out.size))
      have HT11 : Hid (Touch [q + 1] wc w11) := Lib.hid (HT0.out.later hb11)
      have hC11 := near_of HT11.out
      clear hb11
      go_wp2_with fail
      refine hK _ _ (fun _ => hC11) ?_
      clear hK K
      refine wpSeg_fl hC11 ?_
      repeat (first | go_big_quiet_step (fail) | quiet_step (fail))
      refine wpQuiet_nil ?_
      refine wpSeg_sq (fun K hK => ?_)
      go_wp2_with fail
      refine (HWd.out _).mono ?_
      rintro e w12 ⟨rfl, hb12⟩
      have HD12 := Lib.hid (HD11.out.trans (hb12.mono HD11.out.size))
      have HT12 : Hid (Touch [q + 1] wc w12) := Lib.hid (HT11.out.later hb12)
      have hC12 := near_of HT12.out
      clear hb12
      go_wp2_with fail
      refine hK _ _ (fun _ => hC12) ?_
      clear hK K
      refine wpSeg_fl hC12 ?_
      repeat (first | go_big_quiet_step (fail) | quiet_step (fail))
      refine wpQuiet_nil ?_
      refine wpSeg_sq (fun K hK => ?_)
      go_wp2_with fail
      refine (HCl.out _).mono ?_
      rintro e w13 ⟨rfl, hb13⟩
      have HD13 := Lib.hid (HD12.out.trans (hb13.mono HD12.out.size))
      have HT13 : Hid (Touch [q + 1] wc w13) := Lib.hid (HT12.out.later hb13)
      have hC13 := near_of HT13.out
      clear hb13
      go_wp2_with fail
      refine hK _ _ (fun _ => hC13) ?_
      clear hK K
      refine wpSeg_fl hC13 ?_
      repeat (first | go_big_quiet_step (fail) | quiet_step (fail))
      refine wpQuiet_nil ?_
      refine wpSeg_sq (fun K hK => ?_)
      go_wp2_with (refine wpList_store_mem aggRo (HM4.out.later HD13.out) 1 rfl rfl rfl rfl rfl rfl rfl rfl ?_; intro w8 h8 ht8; have H8 := Lib.hid h8; have HT8 := Lib.hid (HT13.out.trans ht8); clear h8 ht8)
      have hC9 := near_of HT8.out
      go_wp2_with fail
      refine hK _ _ (fun _ => hC9) ?_
      clear hK K
      refine wpSeg_last ?_
      go_wp2_with fail
      refine bodyPost_ret (results_cell_row2 (p := 6) (u := 7) rfl _ _ _ _ _ _ _ rfl (H8.out.exact 1 rfl) Tryz.underlying55 rfl (by kernel_rfl)) rfl ?_
      exact HP.out _ _ _ _ (by rw [HE.out]; rfl) (fun o ho => by rw [HE.out] at ho; cases ho; rfl) H8.out.below
    · rw [rofN_large _ hsm]
      have HPl2 : Hid (placedN S L (y : Int) = if o = 0 ∧ wholeN L b = objBlocks (objSize p d) then some ⟨p, d, 0⟩ else none) := Lib.hid (by rw [HPl.out, if_neg hsm])
      have HBk := Lib.hid (fun w => roblocks_any p d w)
      generalize objBlocks (objSize p d) = nb at *
      clear hsm HPl HBO HEb
      by_cases h1 : o = 0
      case neg =>
        have HE : Hid (placedN S L (y : Int) = none) := Lib.hid (by rw [HPl2.out, if_neg (fun h => h1 h.1)])
        have h1' : ((o : Int) == 0) = false := by simpa using h1
        clear h1
        go_upto_region 8 with fail
        have d0 := HM4.out.cell 2 0 rfl rfl
        have d1 := HM4.out.cell 2 1 rfl rfl
        have f0 := HM4.out.cell 3 0 rfl rfl
        have f1 := HM4.out.cell 3 1 rfl rfl
        have f2 := HM4.out.cell 3 2 rfl rfl
        have hnd := HM4.out.nd
        simp only [List.map_cons, List.map_nil, List.nodup_cons, List.mem_cons, List.not_mem_nil, or_false, not_or] at hnd
        have hg1 : g ∉ [q + 1] := by simp; exact fun e => hnd.2.1.1 e.symm
        have hg2 : g2 ∉ [q + 1] := by simp; exact fun e => hnd.2.1.2 e.symm
        have r0 := fun x => near_cell (L := [q + 1]) d0 hg1 x
        have r1 := fun x => near_cell (L := [q + 1]) d1 hg1 x
        have r2 := fun x => near_cell (L := [q + 1]) f0 hg2 x
        have r3 := fun x => near_cell (L := [q + 1]) f1 hg2 x
        have r4 := fun x => near_cell (L := [q + 1]) f2 hg2 x
        have HT0 : Hid (Touch [q + 1] wc wc.drew) := Lib.hid (Touch.ofBelow (later_below (later_drew wc)))
        have HD0 : Hid (Below wc.heap.size wc wc.drew) := Lib.hid (later_below (later_drew wc))
        have hC1 := near_of HT0.out
        clear d0 d1 f0 f1 f2 hnd hg1 hg2
        refine wp_region_seg (C := fun w' => ∃ x : Near [q + 1] wc, w' = x.val) [.fl [0, 1, 2, 3, 4, 5, 6, 7, 9], .sq [8] true, .sq [10] true, .fl [11, 12], .sq [13] true, .sq [14] false] (by kernel_rfl) (by kernel_rfl) (by intro c a d v w h; cases d <;> exact h) ?_
        simp only [segs, picks, List.getElem?_cons_succ, List.getElem?_cons_zero]
        refine wpSeg_fl hC1 ?_
        repeat (first | go_big_quiet_step (fail) | quiet_step (fail))
        refine wpQuiet_nil ?_
        refine wpSeg_sq (fun K hK => ?_)
        go_wp2_with fail
        go_wp2_with fail
        refine hK _ _ (fun _ => hC1) ?_
        clear hK K
        refine wpSeg_sq (fun K hK => ?_)
        go_wp2_with fail
        go_wp2_with fail
        refine hK _ _ (fun _ => hC1) ?_
        clear hK K
        refine wpSeg_fl hC1 ?_
        repeat (first | go_big_quiet_step (fail) | quiet_step (fail))
        refine wpQuiet_nil ?_
        refine wpSeg_sq (fun K hK => ?_)
        go_wp2_with (refine wpList_store_mem aggRo (HM4.out.later HD0.out) 1 rfl rfl rfl rfl rfl rfl rfl rfl ?_; intro w8 h8 ht8; have H8 := Lib.hid h8; have HT8 := Lib.hid (HT0.out.trans ht8); clear h8 ht8)
        have hC9 := near_of HT8.out
        go_wp2_with fail
        refine hK _ _ (fun _ => hC9) ?_
        clear hK K
        refine wpSeg_last ?_
        go_wp2_with fail
        refine bodyPost_ret (results_cell_row2 (p := 6) (u := 7) rfl _ _ _ _ _ _ _ rfl (H8.out.exact 1 rfl) Tryz.underlying55 rfl (by kernel_rfl)) rfl ?_
        exact HP.out _ _ _ _ (by rw [HE.out]; rfl) (fun o ho => by rw [HE.out] at ho; cases ho) H8.out.below
      subst h1
      have HE0 := Lib.hid HPl2.out
      by_cases h2 : wholeN L b = nb
      · have HE : Hid (placedN S L (y : Int) = some ⟨p, d, 0⟩) := Lib.hid (by rw [HPl2.out, if_pos ⟨rfl, h2⟩])
        have HW2 := Lib.hid h2
        go_upto_region 8 with fail
        have d0 := HM4.out.cell 2 0 rfl rfl
        have d1 := HM4.out.cell 2 1 rfl rfl
        have f0 := HM4.out.cell 3 0 rfl rfl
        have f1 := HM4.out.cell 3 1 rfl rfl
        have f2 := HM4.out.cell 3 2 rfl rfl
        have hnd := HM4.out.nd
        simp only [List.map_cons, List.map_nil, List.nodup_cons, List.mem_cons, List.not_mem_nil, or_false, not_or] at hnd
        have hg1 : g ∉ [q + 1] := by simp; exact fun e => hnd.2.1.1 e.symm
        have hg2 : g2 ∉ [q + 1] := by simp; exact fun e => hnd.2.1.2 e.symm
        have r0 := fun x => near_cell (L := [q + 1]) d0 hg1 x
        have r1 := fun x => near_cell (L := [q + 1]) d1 hg1 x
        have r2 := fun x => near_cell (L := [q + 1]) f0 hg2 x
        have r3 := fun x => near_cell (L := [q + 1]) f1 hg2 x
        have r4 := fun x => near_cell (L := [q + 1]) f2 hg2 x
        have HT0 : Hid (Touch [q + 1] wc wc.drew) := Lib.hid (Touch.ofBelow (later_below (later_drew wc)))
        have HD0 : Hid (Below wc.heap.size wc wc.drew) := Lib.hid (later_below (later_drew wc))
        have hC1 := near_of HT0.out
        clear d0 d1 f0 f1 f2 hnd hg1 hg2
        refine wp_region_seg (C := fun w' => ∃ x : Near [q + 1] wc, w' = x.val) [.fl [0, 1, 2, 3, 4, 5, 6, 7, 9], .sq [8] true, .sq [10] true, .fl [11, 12], .sq [13] true, .sq [14] false] (by kernel_rfl) (by kernel_rfl) (by intro c a d v w h; cases d <;> exact h) ?_
        simp only [segs, picks, List.getElem?_cons_succ, List.getElem?_cons_zero]
        refine wpSeg_fl hC1 ?_
        repeat (first | go_big_quiet_step (fail) | quiet_step (fail))
        refine wpQuiet_nil ?_
        refine wpSeg_sq (fun K hK => ?_)
        go_wp2_with fail
        refine (rwhole_any (some ⟨b1, o1, none⟩) n cap L HN.out _ (HCw.out.below (HM4.out.later HD0.out).below (Nat.le_refl _)) hl b hbn').mono ?_
        rintro e w11 ⟨rfl, hb11⟩
        have HD11 := Lib.hid (HD0.out.trans (hb11.mono HD0.out.size))
        have HT11 : Hid (Touch [q + 1] wc w11) := Lib.hid (HT0.out.later hb11)
        have hC11 := near_of HT11.out
        clear hb11
        go_wp2_with fail
        refine hK _ _ (fun _ => hC11) ?_
        clear hK K
        refine wpSeg_sq (fun K hK => ?_)
        go_wp2_with fail
        refine (HBk.out _).mono ?_
        rintro e w12 ⟨rfl, hb12⟩
        have HD12 := Lib.hid (HD11.out.trans (hb12.mono HD11.out.size))
        have HT12 : Hid (Touch [q + 1] wc w12) := Lib.hid (HT11.out.later hb12)
        have hC12 := near_of HT12.out
        clear hb12
        go_wp2_with fail
        refine hK _ _ (fun _ => hC12) ?_
        clear hK K
        refine wpSeg_fl hC12 ?_
        repeat (first | go_big_quiet_step (fail) | quiet_step (fail))
        refine wpQuiet_nil ?_
        refine wpSeg_sq (fun K hK => ?_)
        go_wp2_with (refine wpList_store_mem aggRo (HM4.out.later HD12.out) 1 rfl rfl rfl rfl rfl rfl rfl rfl ?_; intro w8 h8 ht8; have H8 := Lib.hid h8; have HT8 := Lib.hid (HT12.out.trans ht8); clear h8 ht8)
        have hC9 := near_of HT8.out
        go_wp2_with fail
        refine hK _ _ (fun _ => hC9) ?_
        clear hK K
        refine wpSeg_last ?_
        go_wp2_with fail
        refine bodyPost_ret (results_cell_row2 (p := 6) (u := 7) rfl _ _ _ _ _ _ _ rfl (H8.out.exact 1 rfl) Tryz.underlying55 rfl (by kernel_rfl)) rfl ?_
        exact HP.out _ _ _ _ (by rw [HE.out]; rfl) (fun o ho => by rw [HE.out] at ho; cases ho; rfl) H8.out.below
      · have HE : Hid (placedN S L (y : Int) = none) := Lib.hid (by rw [HPl2.out, if_neg (fun h => h2 h.2)])
        have HW2 := Lib.hid h2
        clear h2
        go_upto_region 8 with fail
        have d0 := HM4.out.cell 2 0 rfl rfl
        have d1 := HM4.out.cell 2 1 rfl rfl
        have f0 := HM4.out.cell 3 0 rfl rfl
        have f1 := HM4.out.cell 3 1 rfl rfl
        have f2 := HM4.out.cell 3 2 rfl rfl
        have hnd := HM4.out.nd
        simp only [List.map_cons, List.map_nil, List.nodup_cons, List.mem_cons, List.not_mem_nil, or_false, not_or] at hnd
        have hg1 : g ∉ [q + 1] := by simp; exact fun e => hnd.2.1.1 e.symm
        have hg2 : g2 ∉ [q + 1] := by simp; exact fun e => hnd.2.1.2 e.symm
        have r0 := fun x => near_cell (L := [q + 1]) d0 hg1 x
        have r1 := fun x => near_cell (L := [q + 1]) d1 hg1 x
        have r2 := fun x => near_cell (L := [q + 1]) f0 hg2 x
        have r3 := fun x => near_cell (L := [q + 1]) f1 hg2 x
        have r4 := fun x => near_cell (L := [q + 1]) f2 hg2 x
        have HT0 : Hid (Touch [q + 1] wc wc.drew) := Lib.hid (Touch.ofBelow (later_below (later_drew wc)))
        have HD0 : Hid (Below wc.heap.size wc wc.drew) := Lib.hid (later_below (later_drew wc))
        have hC1 := near_of HT0.out
        clear d0 d1 f0 f1 f2 hnd hg1 hg2
        refine wp_region_seg (C := fun w' => ∃ x : Near [q + 1] wc, w' = x.val) [.fl [0, 1, 2, 3, 4, 5, 6, 7, 9], .sq [8] true, .sq [10] true, .fl [11, 12], .sq [13] true, .sq [14] false] (by kernel_rfl) (by kernel_rfl) (by intro c a d v w h; cases d <;> exact h) ?_
        simp only [segs, picks, List.getElem?_cons_succ, List.getElem?_cons_zero]
        refine wpSeg_fl hC1 ?_
        repeat (first | go_big_quiet_step (fail) | quiet_step (fail))
        refine wpQuiet_nil ?_
        refine wpSeg_sq (fun K hK => ?_)
        go_wp2_with fail
        refine (rwhole_any (some ⟨b1, o1, none⟩) n cap L HN.out _ (HCw.out.below (HM4.out.later HD0.out).below (Nat.le_refl _)) hl b hbn').mono ?_
        rintro e w11 ⟨rfl, hb11⟩
        have HD11 := Lib.hid (HD0.out.trans (hb11.mono HD0.out.size))
        have HT11 : Hid (Touch [q + 1] wc w11) := Lib.hid (HT0.out.later hb11)
        have hC11 := near_of HT11.out
        clear hb11
        go_wp2_with fail
        refine hK _ _ (fun _ => hC11) ?_
        clear hK K
        refine wpSeg_sq (fun K hK => ?_)
        go_wp2_with fail
        refine (HBk.out _).mono ?_
        rintro e w12 ⟨rfl, hb12⟩
        have HD12 := Lib.hid (HD11.out.trans (hb12.mono HD11.out.size))
        have HT12 : Hid (Touch [q + 1] wc w12) := Lib.hid (HT11.out.later hb12)
        have hC12 := near_of HT12.out
        clear hb12
        go_wp2_with fail
        refine hK _ _ (fun _ => hC12) ?_
        clear hK K
        refine wpSeg_fl hC12 ?_
        repeat (first | go_big_quiet_step (fail) | quiet_step (fail))
        refine wpQuiet_nil ?_
        refine wpSeg_sq (fun K hK => ?_)
        go_wp2_with (refine wpList_store_mem aggRo (HM4.out.later HD12.out) 1 rfl rfl rfl rfl rfl rfl rfl rfl ?_; intro w8 h8 ht8; have H8 := Lib.hid h8; have HT8 := Lib.hid (HT12.out.trans ht8); clear h8 ht8)
        have hC9 := near_of HT8.out
        go_wp2_with fail
        refine hK _ _ (fun _ => hC9) ?_
        clear hK K
        refine wpSeg_last ?_
        go_wp2_with fail
        refine bodyPost_ret (results_cell_row2 (p := 6) (u := 7) rfl _ _ _ _ _ _ _ rfl (H8.out.exact 1 rfl) Tryz.underlying55 rfl (by kernel_rfl)) rfl ?_
        exact HP.out _ _ _ _ (by have := HW2.out; rw [HE.out, beq_eq_false_iff_ne.2 (show ((wholeN L b : Nat) : Int) ≠ (nb : Int) by omega)]; rfl) (fun o ho => by rw [HE.out] at ho; cases ho) H8.out.below
end Go.Proofs.YtfedgcdkagngnaaGreat

/- ref33: Sign, Map. -/
namespace Go.Proofs.YtfedgcdkagngnaaGreat
open Go.RowKit
set_option linter.unusedVariables false

def signS : ByteArray := ⟨#[97, 98, 99, 100, 101, 102, 103, 104, 105, 106, 107, 108, 109, 110, 111, 112, 113, 114, 115, 116, 117, 118, 119, 120, 121, 122, 65, 66, 67, 68, 69, 70]⟩
theorem signS_at : ∀ d : Fin 32, signS[d.val]? = some (if d.val < 26 then UInt8.ofNat (97 + d.val) else UInt8.ofNat (65 + (d.val - 26))) := by decide +kernel

set_option maxHeartbeats 2000000 in
theorem rsign_any (h : Hd) (hf : h.fine) (w : World) : Calls Tryz.prog 97 #[.agg #[.int .i64 h.k, .int .i64 h.c, .int .i64 h.l]] w (Gives (strV [signB h]) w) := by
  obtain ⟨k, c, l⟩ := h
  have HP : Hid (∀ w', Below w.heap.size w w' → Gives (strV [signB ⟨k, c, l⟩]) w (.returned (.string (bstr [signB ⟨k, c, l⟩]))) w') := Lib.hid (fun w' h => ⟨rfl, h⟩)
  generalize Gives (strV [signB ⟨k, c, l⟩]) w = Post at *
  have HS : Hid (signB ⟨k, c, l⟩ = if k = 2 then 35 else if k = 3 then 43 else if k = 1 then (if c < 26 then UInt8.ofNat (97 + c.toNat) else UInt8.ofNat (65 + (c.toNat - 26))) else 46) := Lib.hid rfl
  unfold Hd.fine at hf
  dsimp only at hf ⊢
  generalize signB ⟨k, c, l⟩ = s at *
  have HM := Lib.hid (Mem.one w #[.int .i64 k, .int .i64 c, .int .i64 l] 109)
  go_enter Tryz.func97, Tryz.ntmps97
  go_upto_region 1 with fail
  generalize w.alloc _ = w0 at *
  have c0 := HM.out.cell 0 0 rfl rfl
  have c1 := HM.out.cell 0 1 rfl rfl
  by_cases k1 : k = 1
  · obtain ⟨hc0, hc1⟩ := hf k1
    have HV : Hid (s = if c < 26 then UInt8.ofNat (97 + c.toNat) else UInt8.ofNat (65 + (c.toNat - 26))) := Lib.hid (by rw [HS.out, if_neg (by omega), if_neg (by omega), if_pos k1])
    clear hf HS
    subst k1
    obtain ⟨cn, rfl⟩ := Int.eq_ofNat_of_zero_le hc0
    have hcn : cn < 32 := by omega
    have HX := Lib.hid (signS_at ⟨cn, hcn⟩)
    dsimp only at HX
    have HV2 : Hid (s = if cn < 26 then UInt8.ofNat (97 + cn) else UInt8.ofNat (65 + (cn - 26))) := Lib.hid (by
      rw [HV.out, Int.toNat_natCast]
      by_cases h : cn < 26
      · rw [if_pos h, if_pos (by omega)]
      · rw [if_neg h, if_neg (by omega)])
    rw [← HV2.out] at HX
    clear HV HV2 hcn hc1 hc0
    have HCb : Hid (Cells (w0.alloc (.cells #[.int .u8 (s.toNat : Int)] 5)) (some ⟨w0.heap.size, 0, none⟩) ([s.toNat].map vu8)) := Lib.hid (((Mem.one w0 #[.int .u8 (s.toNat : Int)] 5).at 0 rfl).cells)
    have HB1 := Lib.hid (HM.out.below.trans ((below_alloc w0 (.cells #[.int .u8 (s.toNat : Int)] 5)).mono HM.out.below.size))
    go_wp2_with (first
      | (refine wpList_index_str cn Tryz.underlying9 rfl HX.out rfl rfl rfl rfl ?_)
      | (refine wpList_string_of (ns := [s.toNat]) Tryz.underlying153 Tryz.underlying5 Tryz.underlying9 HCb.out rfl rfl rfl ?_))
    have := HP.out _ HB1.out
    rw [← one_byte] at this
    exact this
  have k1' : ((k : Int) == 1) = false := by simpa using k1
  by_cases k2 : k = 2
  · have HV : Hid (s = 35) := Lib.hid (by rw [HS.out, if_pos k2])
    clear hf HS
    subst k2
    go_wp2_with fail
    have := HP.out _ HM.out.below
    rw [HV.out] at this
    exact this
  have k2' : ((k : Int) == 2) = false := by simpa using k2
  by_cases k3 : k = 3
  · have HV : Hid (s = 43) := Lib.hid (by rw [HS.out, if_neg k2, if_pos k3])
    clear hf HS k2
    subst k3
    go_wp2_with fail
    have := HP.out _ HM.out.below
    rw [HV.out] at this
    exact this
  have k3' : ((k : Int) == 3) = false := by simpa using k3
  have HV : Hid (s = 46) := Lib.hid (by rw [HS.out, if_neg k2, if_neg k3, if_neg k1])
  clear hf HS
  go_wp2_with fail
  have := HP.out _ HM.out.below
  rw [HV.out] at this
  exact this
set_option maxHeartbeats 4000000 in
set_option maxRecDepth 20000 in
theorem rmap_any (a : Option Addr) (B cap : Nat) (L : List Hd) (hn : L.length = B) (w : World) (hc : Cells w a (hdCs L)) (hB1 : 1 ≤ B) (hB : B ≤ 1000) (wd : Int) (hf : ∀ b : Nat, (hdGet L (b : Int)).fine) :
    Calls Tryz.prog 23 #[.slice a B cap, .int .i64 wd] w (Gives (strV (mapTo L B wd (B - 1))) w) := by
  have HP : Hid (∀ w', Below w.heap.size w w' → Gives (strV (mapTo L B wd (B - 1))) w (.returned (strV (mapTo L B wd (B - 1)))) w') := Lib.hid (fun w' h => ⟨rfl, h⟩)
  generalize Gives (strV (mapTo L B wd (B - 1))) w = Post at *
  have HF := Lib.hid hf
  have HC := Lib.hid hc
  have HN := Lib.hid hn
  clear hf hc hn
  go_enter Tryz.func23, Tryz.ntmps23
  go_wp2_with fail
  go_loopw [5, 6] (fun sv iv wr => ∃ b : Nat, 1 ≤ b ∧ b ≤ B ∧ sv = strV (mapTo L B wd (b - 1)) ∧ iv = .int .i64 (b : Int) ∧ Hid (Below w.heap.size w wr)) (fun _ iv _ => B - (intOf iv).toNat)
  case atStart => exact ⟨1, Nat.le_refl _, hB1, rfl, rfl, Lib.hid (Below.refl _ _)⟩
  case round =>
    obtain ⟨b, hb1, hbB, rfl, rfl, HBw⟩ := hrel
    have HLen : Hid ((mapTo L B wd (b - 1)).length ≤ 2000) := Lib.hid (by have := mapTo_len L B wd (b - 1); omega)
    have HStep : Hid (mapTo L B wd b = mapTo L B wd (b - 1) ++ (signB (hdGet L (b : Int)) :: (if nlB wd b B then [10] else []))) := Lib.hid (by obtain ⟨c, rfl⟩ : ∃ c, b = c + 1 := ⟨b - 1, by omega⟩; rfl)
    by_cases hlt : b < B
    · have hlt' : (b : Int) < (B : Int) := by omega
      obtain ⟨k, c, z, he⟩ := hdGetD L b
      obtain ⟨b1, o1, rfl, e0, e1, e2⟩ := hd_cells (HC.out.below HBw.out (Nat.le_refl _)) (by rw [HN.out]; exact hlt) he
      have HG : Hid (hdGet L (b : Int) = ⟨k, c, z⟩) := Lib.hid (by
        unfold hdGet
        rw [if_neg (by rw [HN.out]; omega), Int.toNat_natCast, he])
      have hff := HF.out b
      rw [HG.out] at hff
      have HSg := Lib.hid (fun w => rsign_any ⟨k, c, z⟩ hff w)
      dsimp only at HSg
      rw [HG.out] at HStep
      have HT : Hid (mapTo L B wd (b + 1 - 1) = mapTo L B wd b) := Lib.hid rfl
      generalize mapTo L B wd (b - 1) = T at *
      generalize mapTo L B wd b = T2 at *
      generalize signB ⟨k, c, z⟩ = s at *
      have hl1 : (bstr T).size ≤ 2000 := by rw [bstr_size]; exact HLen.out
      have hl2 : (bstr [s]).size = 1 := rfl
      clear he hff HG
      go_wp2_with fail
      refine (HSg.out _).mono ?_
      rintro e w1 ⟨rfl, hb1⟩
      have HB1 := Lib.hid (HBw.out.trans (hb1.mono HBw.out.size))
      clear hb1 e0 e1 e2
      by_cases hw : 0 < wd
      · cases hm : ((b : Int) % wd == 0) with
        | true =>
          by_cases hl : (b : Int) < (B : Int) - 1
          · have HT2 : Hid (T2 = T ++ [s] ++ [10]) := Lib.hid (by rw [HStep.out, if_pos ⟨hw, by simpa using hm, hl⟩]; simp)
            clear HStep
            go_wp2_with fail
            go_roundw
            case rel => exact ⟨b + 1, by omega, by omega, by rw [HT.out, HT2.out]; exact str3l T [s] [10], vint (by omega), HB1⟩
            case measure => simp [intOf]; omega
          · have HT2 : Hid (T2 = T ++ [s]) := Lib.hid (by rw [HStep.out, if_neg (fun h => hl h.2.2)])
            clear HStep
            have hl' : (B : Int) - 1 ≤ (b : Int) := by omega
            go_wp2_with fail
            go_roundw
            case rel => exact ⟨b + 1, by omega, by omega, by rw [HT.out, HT2.out]; exact str2 T [s], vint (by omega), HB1⟩
            case measure => simp [intOf]; omega
        | false =>
          have HT2 : Hid (T2 = T ++ [s]) := Lib.hid (by rw [HStep.out, if_neg (fun h => by have := h.2.1; rw [this] at hm; cases hm)])
          clear HStep
          go_wp2_with fail
          go_roundw
          case rel => exact ⟨b + 1, by omega, by omega, by rw [HT.out, HT2.out]; exact str2 T [s], vint (by omega), HB1⟩
          case measure => simp [intOf]; omega
      · have HT2 : Hid (T2 = T ++ [s]) := Lib.hid (by rw [HStep.out, if_neg (fun h => hw h.1)])
        clear HStep
        have hw' : wd ≤ 0 := by omega
        go_wp2_with fail
        go_roundw
        case rel => exact ⟨b + 1, by omega, by omega, by rw [HT.out, HT2.out]; exact str2 T [s], vint (by omega), HB1⟩
        case measure => simp [intOf]; omega
    · obtain rfl : b = B := by omega
      have hlt' : decide (b < b) = false := by simp
      clear HStep HLen
      generalize mapTo L b wd (b - 1) = T at *
      go_wp2_with fail
      exact HP.out _ HBw.out
end Go.Proofs.YtfedgcdkagngnaaGreat

/- law33: awake. -/
namespace Go.Proofs.YtfedgcdkagngnaaGreat
open Go.RowKit
set_option linter.unusedVariables false

theorem map_free (B : Nat) : ∀ i, mapTo (List.replicate B (⟨0, 0, 0⟩ : Hd)) B 0 i = List.replicate i 46
  | 0 => rfl
  | i + 1 => by
    unfold mapTo
    rw [map_free B i, free_small, if_neg (by unfold nlB; omega)]
    show _ ++ [(46 : UInt8)] = _
    rw [List.replicate_succ']
theorem map_three : mapTo (al0 3).bm.list 3 0 (3 - 1) = [46, 46] := by rw [al0_list (by omega) (by omega), map_free]; rfl

set_option maxHeartbeats 2000000 in
theorem awake33_any (w : World) : Calls Tryz.prog 14 #[] w (Gives (.bool true) w) := by
  have HP : Hid (∀ w', Below w.heap.size w w' → Gives (.bool true) w (.returned (.bool true)) w') := Lib.hid (fun w' h => ⟨rfl, h⟩)
  generalize Gives (.bool true) w = Post at *
  go_enter Tryz.func14, Tryz.ntmps14
  go_wp2_with fail
  refine (begun20_any 3 (by omega) (by omega) _).mono ?_
  rintro e w1 ⟨A, n, rfl, ha, hn, hA, hb⟩
  have hbx := below_alloc w1 (Obj.cells #[valloc A, vdev A.X.F, .slice none 0 0] 28)
  have HA := Lib.hid (ha.below hbx)
  have HB := Lib.hid (hb.trans (hbx.mono hb.size))
  have HF : Hid (∀ b : Nat, (hdGet (al0 3).bm.list (b : Int)).fine) := Lib.hid (fun b => by rw [al0_list (by omega) (by omega), free_small]; intro h; cases h)
  have c0 : (w1.alloc (Obj.cells #[valloc A, vdev A.X.F, .slice none 0 0] 28)).cell? ⟨w1.heap.size, 0, none⟩ = some (valloc A) := cell_alloc_new _ _ _ 0 _ rfl
  clear ha hA hb hbx
  go_upto_region 2 with fail
  generalize w1.alloc _ = w2 at *
  have HMp := Lib.hid (dmap_any HA.out (by omega) (by omega) 0 HF.out)
  rw [map_three] at HMp
  go_wp2_with fail
  refine HMp.out.mono ?_
  rintro e w3 ⟨rfl, hb3⟩
  have HB3 := Lib.hid (HB.out.trans (hb3.mono HB.out.size))
  have hcmp : ((bstr [46, 46]).toList == [46, 46]) = true := by rw [bstr_toList]; rfl
  clear hb3 c0
  go_wp2_with fail
  exact HP.out _ HB3.out

end Go.Proofs.YtfedgcdkagngnaaGreat

/- law22: made. -/
namespace Go.Proofs.YtfedgcdkagngnaaGreat
open Go.RowKit
set_option linter.unusedVariables false

/-- What is done: law20's Op. -/
structure Op20 where
  k : Int
  i : Int
  p : Int
  t : Int
def Op20.cs (o : Op20) : List Value := [.int .i64 o.k, .int .i64 o.i, .int .i64 o.p, .int .i64 o.t]
theorem Op20.len (o : Op20) : o.cs.length = 4 := rfl

theorem four20 (zs : List Int) (h : zs.length = 4) : (Op20.cs ⟨zs.getD 0 0, zs.getD 1 0, zs.getD 2 0, zs.getD 3 0⟩) = zs.map (Value.int .i64) := by
  match zs, h with
  | [a, b, c, d], _ => rfl

/-- A heap that a call has made. -/
def Made20 (w : World) (B : Nat) (full : Bool) : Ending → World → Prop := fun e w' => ∃ (A : AF) (n : Nat) (m : Al) (v : Value) (xs : List Nat),
  e = .returned (.tuple #[vworld A v, .bool true]) ∧ Hp w w' [] A n B 25000000 m v xs ∧ n ≤ 2000000 ∧ (full = true → ∀ a, m.used.getD a false = true → a ∈ xs)

theorem dev0_ok {B : Nat} (hB2 : 2 ≤ B) (hB : B ≤ 100) : (dev0 B).ok 201000 := (fmt_formed hB2 hB).ok

theorem Hp.begun {w0 w w1 : World} {A : AF} {n B : Nat} (hB2 : 2 ≤ B) (hB : B ≤ 100) (h : AlAt w1 A n B (al0 B)) (hA : ∀ k ∈ A.list, w0.heap.size ≤ k) (hb0 : Below w.heap.size w w0) (hb : Below w0.heap.size w0 w1) {Q : List Nat} (hQ : ∀ k ∈ Q, k < w0.heap.size) :
    Hp w w1 Q A n B 201000 (al0 B) (.slice none 0 0) [] :=
  ⟨⟨h, OwnI.nil _, fun b hb => (by cases hb)⟩, WOk.begun hB2 hB, dev0_ok hB2 hB, fun k hk => ⟨Nat.le_trans hb0.size (hA k hk), fun hq => (by have := hQ k hq; have := hA k hk; omega)⟩, fun b hb => (by cases hb), fun k hk => Nat.lt_of_lt_of_le (hQ k hk) hb.size, hb0.trans (hb.mono hb0.size)⟩
end Go.Proofs.YtfedgcdkagngnaaGreat

/- law32: Made. -/
namespace Go.Proofs.YtfedgcdkagngnaaGreat
open Go.RowKit
set_option linter.unusedVariables false

set_option maxHeartbeats 8000000 in
set_option maxRecDepth 100000 in
theorem made32_any (a : Option Addr) (mm cap : Nat) (s : List Op20) (hm : s.length = mm) (w : World) (hcs : Cells w a (recs Op20.cs s)) (hmm : mm ≤ maxLen) :
    Calls Tryz.prog 15 #[.slice a mm cap] w (Made20 w 6 false) := by
  unfold maxLen at hmm
  have HM := Lib.hid hm
  have HCS := Lib.hid hcs
  clear hm hcs
  have HP : Hid (∀ (A : AF) (n : Nat) (m : Al) (v : Value) (xs : List Nat) w', Hp w w' [] A n 6 25000000 m v xs → n ≤ 2000000 → Made20 w 6 false (.returned (.tuple #[vworld A v, .bool true])) w') := Lib.hid (fun A n m v xs w' h1 h2 => ⟨A, n, m, v, xs, rfl, h1, h2, fun h => by cases h⟩)
  generalize Made20 w 6 false = Post at *
  have HB0 := Lib.hid (below_alloc w (.cells zeroW 28))
  have HR0 : Hid (RowX (w.alloc (.cells zeroW 28)) ⟨w.heap.size, 28, zeroW.toList, true⟩) := Lib.hid ⟨_, heap_alloc_new _ _, [], by simp, by simp⟩
  obtain ⟨q, hq⟩ : ∃ q, q = w.heap.size := ⟨_, rfl⟩
  go_enter Tryz.func15, Tryz.ntmps15
  go_upto_region 1 with fail
  rw [show (#[.pointer none, .pointer none, .slice none 0 0] : Array Value) = zeroW from rfl]
  have HQ0 : Hid ((w.alloc (.cells zeroW 28)).heap.size = q + 1) := Lib.hid (by simp [hq])
  rw [← hq] at HR0 ⊢
  have HQ := Lib.hid hq
  generalize w.alloc _ = w0 at *
  clear hq
  go_wp2_with fail
  refine (begun20_any 6 (by omega) (by omega) _).mono ?_
  rintro e w1 ⟨A, n, rfl, ha, hn, hA, hb⟩
  have hh := Hp.begun (by omega) (by omega) ha hA HB0.out hb (Q := [q]) (by intro k hk; simp at hk; have := HQ0.out; omega)
  obtain ⟨p, hp⟩ : ∃ p, p = w1.heap.size := ⟨_, rfl⟩
  have HH : Hid (Hp w (w1.alloc (.cells #[valloc A, vdev A.X.F, .slice none 0 0] 28)) [q, p] A n 6 201000 (al0 6) (.slice none 0 0) []) := Lib.hid (hh.more (fun k hk => by
    simp only [List.mem_cons, List.not_mem_nil, or_false] at hk
    rcases hk with rfl | rfl
    · exact .inl (by simp)
    · exact .inr (by simp [hp])) (below_alloc _ _))
  have HR1 : Hid (MemR w.heap.size (w1.alloc (.cells #[valloc A, vdev A.X.F, .slice none 0 0] 28)) [⟨q, 28, zeroW.toList, true⟩, ⟨p, 28, [valloc A, vdev A.X.F, .slice none 0 0], true⟩]) := Lib.hid (by
    have h0 : MemR w.heap.size w1 [⟨q, 28, zeroW.toList, true⟩] := ⟨by
      intro x hx
      simp at hx; subst hx
      exact HR0.out.keep (hb.block q (by have := HQ0.out; omega)), by intro x hx; simp at hx; subst hx; have := HQ.out; exact Nat.le_of_eq this.symm, by simp, hh.below.size⟩
    have := h0.alloc #[valloc A, vdev A.X.F, .slice none 0 0] 28
    rw [← hp] at this
    exact this)
  have HN := Lib.hid hn
  clear ha hA hb hh hn HR0 HB0
  go_upto_region 2 with fail
  rw [← hp]
  generalize w1.alloc _ = w2 at *
  clear hp HQ0
  go_wp2_with fail
  go_loopw [5, 6] (fun f i wr => ∃ (k : Nat) (R : List Nat) (m : Al) (v : Value) (xs : List Nat), k ≤ mm ∧ k ≤ 40 ∧ f = .bool true ∧ i = .int .i64 (k : Int) ∧ Hid (Hp w wr [q, p] (A.re R) (n + 6 * k) 6 (201000 + 600000 * k) m v xs) ∧ Hid (MemR w.heap.size wr [⟨q, 28, zeroW.toList, true⟩, ⟨p, 28, [valloc A, vdev A.X.F, v], true⟩])) (fun _ i _ => 40 - (intOf i).toNat)
  case atStart => exact ⟨0, A.R, _, _, _, Nat.zero_le _, Nat.zero_le _, rfl, rfl, HH, HR1⟩
  case round =>
    clear HH HR1
    obtain ⟨k, R, m, v, xs, hkm, hk40, rfl, rfl, HH, HMr⟩ := hrel
    have HQb : Hid (∀ k ∈ [q, p], w.heap.size ≤ k) := Lib.hid (by
      intro k hk
      simp only [List.mem_cons, List.not_mem_nil, or_false] at hk
      rcases hk with rfl | rfl
      · exact HMr.out.gbase 0 rfl
      · exact HMr.out.gbase 1 rfl)
    by_cases hlt : k < mm ∧ k < 40
    · obtain ⟨h1, h2⟩ := hlt
      have h1' : (k : Int) < (mm : Int) := by omega
      have h2' : (k : Int) < 40 := by omega
      have hkl : k < s.length := by rw [HM.out]; exact h1
      obtain ⟨b1, o1, rfl, hbl, hcell⟩ := recs_cells Op20.len (by decide) (⟨0, 0, 0, 0⟩ : Op20) (HCS.out.below HH.out.below (Nat.le_refl _)) hkl
      generalize s.getD k ⟨0, 0, 0, 0⟩ = o at *
      obtain ⟨ok, oi, op, ot⟩ := o
      have e0 : wr.cell? ⟨b1, o1 + k * 4, none⟩ = some (.int .i64 ok) := hcell 0 _ rfl
      have e1 : wr.cell? ⟨b1, o1 + k * 4 + 1, none⟩ = some (.int .i64 oi) := hcell 1 _ rfl
      have e2 : wr.cell? ⟨b1, o1 + k * 4 + 2, none⟩ = some (.int .i64 op) := hcell 2 _ rfl
      have e3 : wr.cell? ⟨b1, o1 + k * 4 + 3, none⟩ = some (.int .i64 ot) := hcell 3 _ rfl
      have HHa := Lib.hid (HH.out.later (below_alloc wr (.cells #[.int .i64 ok, .int .i64 oi, .int .i64 op, .int .i64 ot] 75)))
      have HMra := Lib.hid (HMr.out.later (below_alloc wr (.cells #[.int .i64 ok, .int .i64 oi, .int .i64 op, .int .i64 ot] 75)))
      have HMa := Lib.hid (Mem.one wr #[.int .i64 ok, .int .i64 oi, .int .i64 op, .int .i64 ot] 75)
      clear hcell hkl
      go_upto_region 6 with fail
      generalize wr.alloc _ = wa at *
      have d0 := HMa.out.cell 0 0 rfl rfl
      have d1 := HMa.out.cell 0 1 rfl rfl
      have d2 := HMa.out.cell 0 2 rfl rfl
      have d3 := HMa.out.cell 0 3 rfl rfl
      have hN := HN.out
      by_cases h0 : ok = 0
      · subst h0
        go_wp2_with (refine wpList_load_r aggW HMra.out 1 rfl rfl rfl rfl rfl ?_)
        refine (HHa.out.make (by omega) (by omega) (by omega) (by omega) op ot).mono ?_
        rintro e w2' ⟨m', v', xs', R', rfl, hh, hk, hmd⟩
        have HH2 : Hid (Hp w w2' [q, p] (A.re R') (n + 6 * (k + 1)) 6 (201000 + 600000 * (k + 1)) m' v' xs') := Lib.hid (hh.mono (by omega) (by omega))
        have HMr2 := Lib.hid (HMra.out.off hk (by simp))
        obtain ⟨sa', sc', rfl, _⟩ := hh.at_.own.cells
        obtain ⟨l', hl'⟩ : ∃ l', l' = xs'.length := ⟨_, rfl⟩
        rw [← hl'] at HH2 ⊢
        clear hh hk hmd d0 d1 d2 d3 hl'
        go_wp2_with (refine wpList_store_r aggW HMr2.out 1 rfl rfl rfl rfl rfl rfl rfl rfl ?_; intro w6 h6 ht6; have H6 := Lib.hid h6; have HT6 := Lib.hid ht6; clear h6 ht6)
        have HH6 := Lib.hid (HH2.out.own (HT6.out.wide (by simp)) HQb.out)
        refine ⟨⟨k + 1, R', m', _, xs', by omega, by omega, rfl, vint (by omega), HH6, H6⟩, ?_⟩
        simp [intOf]; omega
      · have h0' : (ok == 0) = false := by simpa using h0
        by_cases h1k : ok = 1
        · subst h1k
          go_wp2_with (refine wpList_load_r aggW HMra.out 1 rfl rfl rfl rfl rfl ?_)
          refine (HHa.out.lead (by omega) (by omega) oi op ot).mono ?_
          rintro e w2' ⟨R', rfl, hh, hk⟩
          have HH2 : Hid (Hp w w2' [q, p] (A.re R') (n + 6 * (k + 1)) 6 (201000 + 600000 * (k + 1)) (m.lead xs oi op ot) v xs) := Lib.hid (hh.mono (by omega) (by omega))
          have HMr2 := Lib.hid (HMra.out.off hk (by simp))
          clear hh hk d0 d1 d2 d3
          go_wp2_with fail
          refine ⟨⟨k + 1, R', _, _, xs, by omega, by omega, rfl, vint (by omega), HH2, HMr2⟩, ?_⟩
          simp [intOf]; omega
        · have h1' : (ok == 1) = false := by simpa using h1k
          by_cases h2k : ok = 2
          · subst h2k
            obtain ⟨t1, ht1⟩ : ∃ t1, t1 = max ot 0 := ⟨_, rfl⟩
            obtain ⟨t2, ht2⟩ : ∃ t2, t2 = min t1 12 := ⟨_, rfl⟩
            have hsz : objSize 0 (t2 * 100) ≠ 0 ∧ objSize 0 (t2 * 100) ≤ 1201 := by unfold objSize; split <;> omega
            have ht3 : 0 ≤ t2 ∧ t2 ≤ 12 := by omega
            have HAl := Lib.hid (HHa.out.alloc (by omega) (by omega) (by omega) (by omega) 0 (t2 * 100) hsz.1 (by omega))
            have HT1 := Lib.hid ht1.symm
            have HT2 := Lib.hid ht2.symm
            have c0 := HMra.out.cell 1 0 rfl rfl
            clear hsz ht1 ht2
            go_wp2_with fail
            rw [HT1.out, HT2.out, Int.mul_comm]
            refine HAl.out.mono ?_
            rintro e w2' ⟨m', R', ra, re, rfl, hh, hk, _⟩
            have HH2 : Hid (Hp w w2' [q, p] (A.re R') (n + 6 * (k + 1)) 6 (201000 + 600000 * (k + 1)) m' v xs) := Lib.hid (hh.mono (by omega) (by omega))
            have HMr2 := Lib.hid (HMra.out.off hk (by simp))
            clear hh hk d0 d1 d2 d3 c0
            go_wp2_with fail
            refine ⟨⟨k + 1, R', _, _, xs, by omega, by omega, rfl, vint (by omega), HH2, HMr2⟩, ?_⟩
            simp [intOf]; omega
          · have h2' : (ok == 2) = false := by simpa using h2k
            go_wp2_with fail
            refine ⟨⟨k + 1, R, _, _, xs, by omega, by omega, rfl, vint (by omega), Lib.hid (HHa.out.mono (by omega) (by omega)), HMra⟩, ?_⟩
            simp [intOf]; omega
    · have hor : (k : Int) = (mm : Int) ∨ ((k : Int) < (mm : Int) ∧ (k : Int) = 40) := by omega
      obtain ⟨sa, sc, rfl, _⟩ := HH.out.at_.own.cells
      have hN := HN.out
      have HEnd : Hid (∀ w6, Touch [q] wr w6 → Post (.returned (.tuple #[vworld A (.slice sa xs.length sc), .bool true])) w6) := Lib.hid (fun w6 ht => HP.out (A.re R) _ m _ xs w6 (((HH.out.own (ht.wide (by simp)) HQb.out).less (by simp)).mono (Nat.le_refl (n + 6 * k)) (by omega)) (by omega))
      obtain ⟨l, hl⟩ : ∃ l, l = xs.length := ⟨_, rfl⟩
      rw [← hl] at HMr HEnd
      clear hlt hl
      rcases hor with h1 | ⟨h1, h2⟩
      · obtain rfl : k = mm := by omega
        have hlt' : decide ((k : Int) < (k : Int)) = false := by simp
        clear h1
        go_wp2_with (first
          | (refine wpList_load_r aggW HMr.out 1 rfl rfl rfl rfl rfl ?_)
          | (refine wpList_store_r aggW HMr.out 0 rfl rfl rfl rfl rfl rfl rfl rfl ?_; intro w6 h6 ht6; have H6 := Lib.hid h6; have HT6 := Lib.hid ht6; clear h6 ht6))
        refine bodyPost_ret (results_cell_row2 (p := 2) (u := 3) rfl _ _ _ _ _ _ _ rfl (H6.out.exact 0 rfl) Tryz.underlying28 rfl (by kernel_rfl)) rfl ?_
        exact HEnd.out _ HT6.out
      · obtain rfl : k = 40 := by omega
        clear h2
        go_wp2_with (first
          | (refine wpList_load_r aggW HMr.out 1 rfl rfl rfl rfl rfl ?_)
          | (refine wpList_store_r aggW HMr.out 0 rfl rfl rfl rfl rfl rfl rfl rfl ?_; intro w6 h6 ht6; have H6 := Lib.hid h6; have HT6 := Lib.hid ht6; clear h6 ht6))
        refine bodyPost_ret (results_cell_row2 (p := 2) (u := 3) rfl _ _ _ _ _ _ _ rfl (H6.out.exact 0 rfl) Tryz.underlying28 rfl (by kernel_rfl)) rfl ?_
        exact HEnd.out _ HT6.out

end Go.Proofs.YtfedgcdkagngnaaGreat
