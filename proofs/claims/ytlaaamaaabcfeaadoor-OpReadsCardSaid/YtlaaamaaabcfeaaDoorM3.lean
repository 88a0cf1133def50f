/- Parts of the proof, one behind the other: Jj, Jk, Jl, Jm, Ld. -/
import Derived.Test.YtlaaamaaabcfeaaDoorM2
import Derived.Handed
import Derived.HandedShaped

/- op: lines of ops. -/
namespace Go.Proofs.YtlaaamaaabcfeaaDoor
open Go.RowKit
set_option linter.unusedVariables false
open Go.Lib (decDigits itoa nDigits)

/-- An op's line, if it may be. -/
def lineOf (k : Int) (ns : List Int) : List UInt8 := if rightOp k ns.length then lineL (wordOf k) ns else []

theorem itoa_len {n : Int} (h : In64 n) : (itoa n).length ≤ 21 := by
  unfold itoa
  obtain ⟨h1, h2⟩ := h
  split
  · rw [List.length_cons]
    have := dec_len20 (u := n.natAbs) (by omega); omega
  · have := dec_len20 (u := n.toNat) (by omega); omega
theorem word_len : ∀ k : Int, (wordOf k).length ≤ 10 := by
  intro k
  by_cases h : k < 1 ∨ 22 ≤ k
  · rw [word_no h]; simp
  · have hf : ∀ j : Fin 22, (wordOf (j.val : Nat)).length ≤ 10 := by decide +kernel
    have := hf ⟨k.toNat, by omega⟩
    rwa [show ((k.toNat : Nat) : Int) = k by omega] at this
theorem lineL_snoc (w : List UInt8) (ns : List Int) (n : Int) : lineL w (ns ++ [n]) = lineL w ns ++ (32 :: itoa n) := by simp [lineL]
theorem lineL_len (w : List UInt8) : ∀ (ns : List Int), (∀ n ∈ ns, In64 n) → (lineL w ns).length ≤ w.length + 22 * ns.length := by
  intro ns
  induction ns with
  | nil => intro _; simp [lineL]
  | cons n ns ih =>
    intro h
    have h1 := ih (fun m hm => h m (by simp [hm]))
    have h2 := itoa_len (h n (by simp))
    have e : (lineL w (n :: ns)).length = (lineL w ns).length + ((itoa n).length + 1) := by simp [lineL]; omega
    rw [e, List.length_cons]; omega

theorem take_next {ns : List Int} {j : Nat} (h : j < ns.length) : ns.take (j + 1) = ns.take j ++ [ns.getD j 0] := by
  rw [List.take_succ_eq_append_getElem h, List.getD_eq_getElem?_getD, List.getElem?_eq_getElem h]; rfl

set_option maxHeartbeats 4000000 in
set_option maxRecDepth 100000 in
theorem line_any (k : Int) (a : Option Addr) (n c : Nat) (ns : List Int) (hn : ns.length = n) (hin : ∀ x ∈ ns, In64 x) (w : World) (hc : Cells w a (ns.map (Value.int .i64))) (hnm : n ≤ maxLen) :
    Calls Tryd.prog 13 #[opV k a n c] w (Gives (strV (lineOf k ns)) w) := by
  have HM := Lib.hid (Mem.one w #[.int .i64 k, .slice a n c] 25)
  have HP : Hid (∀ (l : List UInt8) (w' : World), lineOf k ns = l → Below w.heap.size w w' → Gives (strV (lineOf k ns)) w (.returned (strV l)) w') := Lib.hid (fun s w' h hb => by subst h; exact ⟨rfl, hb⟩)
  generalize Gives (strV (lineOf k ns)) w = Post at *
  have HC := Lib.hid hc
  have HN := Lib.hid hn
  have HIn := Lib.hid hin
  have HNm := Lib.hid hnm
  unfold maxLen at hnm
  clear hc hn hin
  go_enter Tryd.func13, Tryd.ntmps13
  go_upto_region 1 with fail
  generalize w.alloc _ = w0 at *
  obtain ⟨g, hg⟩ : ∃ g, g = w.heap.size := ⟨_, rfl⟩
  rw [← hg] at HM ⊢
  clear hg
  have d0 := HM.out.cell 0 0 rfl rfl
  have d1 := HM.out.cell 0 1 rfl rfl
  go_wp2_with fail
  refine (right_any k a n c _ HNm.out).mono ?_
  rintro e w1 ⟨rfl, hb1⟩
  have HM1 := Lib.hid (HM.out.later hb1)
  have d0 := HM1.out.cell 0 0 rfl rfl
  have d1 := HM1.out.cell 0 1 rfl rfl
  clear hb1
  cases hr : rightOp k n with
  | false =>
    have HL : Hid (lineOf k ns = []) := Lib.hid (by unfold lineOf; rw [HN.out, hr]; rfl)
    clear hr
    go_wp2_with fail
    exact HP.out [] _ HL.out HM1.out.below
  | true =>
    have HL : Hid (lineOf k ns = lineL (wordOf k) ns) := Lib.hid (by unfold lineOf; rw [HN.out, hr]; rfl)
    have h600 : n ≤ 600 := (right_range hr).2.2
    clear hr
    go_wp2_with fail
    refine (word_any k _).mono ?_
    rintro e w2 ⟨rfl, hb2⟩
    have HM2 := Lib.hid (HM1.out.later hb2)
    have d1 := HM2.out.cell 0 1 rfl rfl
    have HWl := Lib.hid (word_len k)
    generalize wordOf k = wd at *
    clear hb2
    go_wp2_with fail
    go_loopw [3, 15] (fun sv iv wr => ∃ (j : Nat) (t : List UInt8), j ≤ n ∧ iv = .int .i64 (j : Int) ∧ sv = .string (bstr t) ∧ Hid (t = lineL wd (ns.take j)) ∧ Below w.heap.size w wr) (fun _ iv _ => n - (RowKit.intOf iv).toNat)
    case atStart => exact ⟨0, wd, Nat.zero_le _, rfl, rfl, Lib.hid (by simp [lineL]), HM2.out.below⟩
    case round =>
      obtain ⟨j, t, hj, rfl, rfl, HT, hb⟩ := hrel
      have HB := Lib.hid hb
      clear hb
      by_cases hlt : j < n
      · have hlt' : (j : Int) < (n : Int) := by omega
        obtain ⟨b, off, rfl, e0⟩ := i64_at (HC.out.below HB.out (Nat.le_refl _)) (i := j) (by rw [HN.out]; exact hlt)
        have hx64 : In64 (ns.getD j 0) := HIn.out _ (by rw [List.getD_eq_getElem?_getD, List.getElem?_eq_getElem (by rw [HN.out]; exact hlt)]; exact List.getElem_mem _)
        have HX := Lib.hid hx64
        have HT1 : Hid (t ++ (32 :: itoa (ns.getD j 0)) = lineL wd (ns.take (j + 1))) := Lib.hid (by rw [take_next (by rw [HN.out]; exact hlt), lineL_snoc, HT.out])
        have htl : (bstr t).size ≤ 20000 := by
          rw [bstr_size, HT.out]
          have := lineL_len wd (ns.take j) (fun x hx => HIn.out x (List.mem_of_mem_take hx))
          have := HWl.out
          have := List.length_take_le j ns
          omega
        have HIl := Lib.hid (itoa_len hx64)
        generalize ns.getD j 0 = x at *
        clear hx64
        go_wp2_with fail
        refine (number_any x HX.out _).mono ?_
        rintro e w3 ⟨rfl, hb3⟩
        have HB3 : Hid (Below w.heap.size w w3) := Lib.hid (HB.out.trans (hb3.mono HB.out.size))
        generalize itoa x = q at *
        have hql : (bstr q).size ≤ 21 := by rw [bstr_size]; exact HIl.out
        have hs1 : (bstr (32 :: q)).size ≤ 22 := by rw [bstr_size, List.length_cons]; have := HIl.out; omega
        have ha1 : ({ data := #[32] } : ByteArray) ++ bstr q = bstr (32 :: q) := bstr_append [32] q
        have ha2 : bstr t ++ bstr (32 :: q) = bstr (t ++ (32 :: q)) := bstr_append t (32 :: q)
        clear hb3
        go_wp2_with fail
        go_roundw
        case rel => exact ⟨j + 1, t ++ (32 :: q), by omega, vint (by omega), rfl, HT1, HB3.out⟩
        case measure => simp [RowKit.intOf]; omega
      · obtain rfl : j = n := by omega
        have hlt' : decide ((j : Int) < (j : Int)) = false := by simp
        have HE : Hid (lineL wd ns = t) := Lib.hid (by rw [HT.out, List.take_of_length_le (by rw [HN.out]; exact Nat.le_refl _)])
        clear hlt
        go_wp2_with fail
        exact HP.out t _ (by rw [HL.out, HE.out]) HB.out

end Go.Proofs.YtlaaamaaabcfeaaDoor

/- op: Parse. -/
namespace Go.Proofs.YtlaaamaaabcfeaaDoor
open Go.RowKit
set_option linter.unusedVariables false
open Go.Lib (decDigits itoa nDigits)

theorem Mem.grown {w W W' : World} {L : List Ent} (h : Mem w W L) {base e size n : Nat} {v : Value} {xs : List Value} (ho : W.ownsRow base e size v n xs) (hg : W.grownBy W' v.ownBlock) (hb : ∀ x ∈ L, x.g < base) (hB : w.heap.size ≤ base) : Mem w W' L := by
  refine ⟨below_grownBy h.below ho hg (Nat.le_refl _) hB, fun x hx => (h.rows x hx).keep (hg.block _ (h.lt x hx) ?_), h.base, h.nd⟩
  intro e'
  have h1 := (ho.lt _ e'.symm).1
  have h2 := hb x hx
  omega

theorem owned_touch {w w' : World} {base e size n d : Nat} {v : Value} {xs : List Value} (h : w.ownsRow base e size v n xs) (ht : Touch [d] w w') (hd : d < base) : w'.ownsRow base e size v n xs := by
  refine ⟨h.1, ?_⟩
  rcases h.2 with hn | ⟨g, cap, cur, rfl, h1, hg, r⟩
  · exact .inl hn
  · exact .inr ⟨g, cap, cur, rfl, h1, by rw [ht.block g (Array.getElem?_eq_some_iff.1 hg).1 (by simp; omega)]; exact hg, r⟩

section
variable {P : Program} {w : World} {ops : Array Oper} {rest : List Oper} {o : Oper} {a : Act} {Q : Exit → Act → World → Prop}
/-- 'xs[lo:]', for all worlds with these cells. -/
theorem wpList_slice_all {x lo : Operand} {t e : TypeId} {z : Value} {size bytes : Nat} (E : Elem P t e z size bytes) {ad : Option Addr} {n cap : Nat} {k : IntKind} {L : Int} (l : Nat) {vs : List Value}
    (hlen : vs.length = n * size) (hL : L = (l : Int)) (hl : l ≤ n) (hn : n ≤ cap)
    (hgd : o.guard = none) (ho : o.op = .slice t x (some lo) none none) (hx : a.eval x = .slice ad n cap) (hlo : a.eval lo = .int k L)
    (hK : ∀ ad', (∀ W, Cells W ad vs → Cells W ad' (vs.drop (l * size))) → wpList P ops Q rest (a.put o.dst (.slice ad' (n - l) (cap - l))) w) :
    wpList P ops Q (o :: rest) a w := by
  refine wpList_plain hgd fun K hK' => ?_
  subst hL
  have hr := run_slice_any (w := w) E ad n cap l n (some (.int k l)) none (by
    have : (0 : Int) ≤ (l : Int) ∧ (l : Int) ≤ (n : Int) := by omega
    simp [Instr.sliceBounds, Instr.sliceBound, asIntOf, hl, hn, Nat.le_trans hl hn])
  unfold Oper.wp
  simp only [execOp, ho, hx, hlo, Option.map_some, Option.map_none]
  simp [hr, Result.andThen]
  exact hK' _ _ (hK _ (fun W hc => hc.shift (l * size) (cap = l) (fun h => by rw [hlen]; exact Nat.mul_le_mul_right _ (by omega))))
end

/-- What a parse leaves. -/
def ParsePost (cd : Bool → Value) (l : List UInt8) (w : World) : Ending → World → Prop := fun e w' => ∃ (o : Option (Int × List Int)) (a : Option Addr) (c : Nat), parseL l = o ∧ e = .returned (.tuple #[opV (o.getD (0, [])).1 a (o.getD (0, [])).2.length c, cd o.isSome]) ∧ Cells w' a ((o.getD (0, [])).2.map (Value.int .i64)) ∧ Below w.heap.size w w'

theorem cut_ne (c : UInt8) : ∀ (l p : List UInt8), cutGo c p l ≠ [] := by
  intro l
  induction l with
  | nil => intro p; simp [cutGo]
  | cons b l ih => intro p; rw [cutGo]; split
                   · simp
                   · exact ih _
theorem cut_len (c : UInt8) : ∀ (l p : List UInt8), ∀ s ∈ cutGo c p l, s.length ≤ p.length + l.length := by
  intro l
  induction l with
  | nil => intro p s hs; simp [cutGo] at hs; subst hs; simp
  | cons b l ih =>
    intro p s hs
    rw [cutGo] at hs
    split at hs
    · rcases List.mem_cons.1 hs with rfl | hs
      · simp
      · have := ih _ s hs; simp at this ⊢; omega
    · have := ih _ s hs; simp at this ⊢; omega
theorem cut_count (c : UInt8) : ∀ (l p : List UInt8), (cutGo c p l).length ≤ l.length + 1 := by
  intro l
  induction l with
  | nil => intro p; simp [cutGo]
  | cons b l ih => intro p; rw [cutGo]; split
                   · have := ih []; simp; omega
                   · have := ih (p ++ [b]); simp; omega

theorem eli64 : Elem Tryd.prog 23 2 (.int .i64 0) 1 8 := Elem.mk' Tryd.underlying23 (by kernel_rfl) rfl (by decide)
theorem aggOp : Agg Tryd.prog 25 #[.int .i64 0, .slice none 0 0] := ⟨⟨_, Tryd.underlying25, rfl⟩, by kernel_rfl⟩

/-- The numbers so far. -/
def NumsTo (rest : List (List UInt8)) (j : Nat) (ns : List Int) : Prop := ns.length = j ∧ numsGo rest = (numsGo (rest.drop j)).map (ns ++ ·)
theorem NumsTo.start (rest : List (List UInt8)) : NumsTo rest 0 [] := ⟨rfl, by simp⟩
theorem NumsTo.step {rest : List (List UInt8)} {j : Nat} {ns : List Int} (h : NumsTo rest j ns) (hj : j < rest.length) {x : Int} (hx : numP rest[j] = some x) : NumsTo rest (j + 1) (ns ++ [x]) := by
  refine ⟨by rw [List.length_append, h.1]; rfl, ?_⟩
  rw [h.2, List.drop_eq_getElem_cons hj, numsGo, hx]
  cases numsGo (rest.drop (j + 1)) with
  | none => rfl
  | some r => simp
theorem NumsTo.bad {rest : List (List UInt8)} {j : Nat} {ns : List Int} (h : NumsTo rest j ns) (hj : j < rest.length) (hx : numP rest[j] = none) : numsGo rest = none := by
  rw [h.2, List.drop_eq_getElem_cons hj, numsGo, hx]; rfl
theorem NumsTo.all {rest : List (List UInt8)} {j : Nat} {ns : List Int} (h : NumsTo rest j ns) (hj : rest.length ≤ j) : numsGo rest = some ns := by
  rw [h.2, List.drop_of_length_le hj]; simp [numsGo]

set_option maxHeartbeats 4000000 in
set_option maxRecDepth 100000 in
theorem parse_any (l : List UInt8) (m : Int) (w : World) (hm : w.cell? ⟨0, 0, none⟩ = some (.int .i64 m)) (hs : l.length ≤ 1000000) :
    Calls Tryd.prog 7 #[strV l] w (ParsePost (fun b => .int .i64 (if b then 0 else 30)) l w) := by
  obtain ⟨wd, rest, hl⟩ : ∃ wd rest, cutGo 32 [] l = wd :: rest := by
    cases h : cutGo 32 [] l with
    | nil => exact absurd h (cut_ne _ _ _)
    | cons a b => exact ⟨a, b, rfl⟩
  have HLen : Hid (∀ s ∈ rest, s.length ≤ 1000000000) := Lib.hid (fun s hs' => by
    have := cut_len 32 l [] s (by rw [hl]; simp [hs'])
    simp at this; omega)
  obtain ⟨n, hn⟩ : ∃ n, n = rest.length := ⟨_, rfl⟩
  have hn9 : n ≤ 1000000 := by
    have := cut_count 32 l []
    rw [hl] at this
    simp at this; omega
  have HNl := Lib.hid hn
  have HPl : Hid (parseL l = parseW (wd :: rest)) := Lib.hid (by unfold parseL; rw [hl])
  have HSplit := Lib.hid (fun w0 hm0 => split_any l 32 m w0 hm0 (by omega))
  rw [hl] at HSplit
  have HM0 := Lib.hid (Mem.one w #[.int .i64 0, .slice none 0 0] 25)
  have HP : Hid (∀ (o : Option (Int × List Int)) (a : Option Addr) (c : Nat) (w' : World), parseL l = o → Cells w' a ((o.getD (0, [])).2.map (Value.int .i64)) → Below w.heap.size w w' → ParsePost (fun b => .int .i64 (if b then 0 else 30)) l w (.returned (.tuple #[opV (o.getD (0, [])).1 a (o.getD (0, [])).2.length c, .int .i64 (if o.isSome then 0 else 30)])) w') := Lib.hid (fun o a c w' h1 h2 h3 => ⟨o, a, c, h1, rfl, h2, h3⟩)
  generalize ParsePost (fun b => .int .i64 (if b then 0 else 30)) l w = Post at *
  clear hl hn
  have hw0 : 0 < w.heap.size := Nat.lt_of_le_of_lt (Nat.zero_le _) (World.block_lt_of_cell? _ _ hm)
  have HMx : Hid ((w.alloc (.cells #[.int .i64 0, .slice none 0 0] 25)).cell? ⟨0, 0, none⟩ = some (.int .i64 m)) := Lib.hid (by rw [HM0.out.below.cell (p := ⟨0, 0, none⟩) hw0]; exact hm)
  clear hm
  go_enter Tryd.func7, Tryd.ntmps7
  go_upto_region 1 with fail
  generalize w.alloc _ = w0 at *
  obtain ⟨g, hg⟩ : ∃ g, g = w.heap.size := ⟨_, rfl⟩
  rw [← hg] at HM0 ⊢
  have HG := Lib.hid hg
  clear hg
  go_wp2_with fail
  refine (HSplit.out _ HMx.out).mono ?_
  rintro e w1 ⟨ad, cp, rfl, hc, hb1, hcp⟩
  have HM1 := Lib.hid (HM0.out.later hb1)
  have HC1 := Lib.hid hc
  obtain ⟨b, off, rfl, _, hcell⟩ := hc.atMap [] (i := 0) (by simp)
  have e0 := hcell 0 (by simp)
  have HCp : Hid (n + 1 ≤ cp) := Lib.hid (by rw [HNl.out]; simpa using hcp)
  have hlen : (wd :: rest).length = n + 1 := by rw [HNl.out]; rfl
  rw [hlen]
  simp only [List.getD_cons_zero, Nat.add_zero] at e0
  clear hc hb1 hcp hlen hcell
  go_wp2_with fail
  refine (kind_any wd _).mono ?_
  rintro e w2 ⟨rfl, hb2⟩
  have HM2 := Lib.hid (HM1.out.later hb2)
  have HC2 := Lib.hid (HC1.out.below hb2 (Nat.le_refl _))
  clear hb2
  obtain ⟨k, hk⟩ : ∃ k : Int, k = ((kindOf wd : Nat) : Int) := ⟨_, rfl⟩
  rw [← hk]
  have HNo : Hid (numsGo rest = none → parseL l = none) := Lib.hid (fun h => by rw [HPl.out, parseW, h])
  have HYes : Hid (∀ ns, numsGo rest = some ns → parseL l = if rightOp k ns.length then some (k, ns) else none) := Lib.hid (fun ns h => by rw [HPl.out, parseW, h, hk])
  have HLong : Hid (600 < n → parseL l = none) := Lib.hid (fun h => by rw [HPl.out]; exact parseW_long (by rw [List.length_cons, ← HNl.out]; omega))
  have HSz := Lib.hid HM2.out.below.size
  clear hk
  go_upto_region 3 with (first
    | (refine wpList_store_mem aggOp ((HM2.out.alloc #[.int .i64 0, .slice none 0 0] 25)) 1 rfl rfl rfl rfl rfl rfl rfl rfl ?_; intro w3 h3 ht3; have HM3 := Lib.hid h3; have HB3 : Hid (Below w2.heap.size w2 w3) := Lib.hid (below_touched (below_alloc w2 _) ht3 (by simp) (Nat.le_refl _)); clear h3 ht3))
  have HC3 := Lib.hid (HC2.out.below HB3.out (Nat.le_refl _))
  obtain ⟨B, hB⟩ : ∃ B, B = w2.heap.size := ⟨_, rfl⟩
  rw [← hB] at HM3 HB3 ⊢
  have HBs := Lib.hid hB
  have HgB : Hid (g < B) := Lib.hid (by rw [hB]; exact HM2.out.glt 0 rfl)
  have HwB : Hid (w.heap.size ≤ B) := Lib.hid (by rw [hB]; exact HSz.out)
  clear hB
  by_cases hlong : 600 < n
  · have HN := Lib.hid (HLong.out hlong)
    have hl1 : 601 < n + 1 := by omega
    have hl2 : (601 : Int) < ((n + 1 : Nat) : Int) := by omega
    go_wp2_with (first
      | (refine wpList_store_mem aggOp HM3.out 0 rfl rfl rfl rfl rfl rfl rfl rfl ?_; intro w4 h4 ht4; have HM4 := Lib.hid h4; clear h4 ht4))
    refine bodyPost_ret (results_row2 (p := 2) (u := 3) rfl _ _ _ _ _ _ _ rfl (HM4.out.exact 0 rfl) Tryd.underlying25 rfl (by kernel_rfl)) rfl ?_
    exact HP.out none none 0 _ HN.out (.inl rfl) HM4.out.below
  · have hl1 : decide (601 < n + 1) = false := by simp; omega
    have hl2 : decide ((601 : Int) < ((n + 1 : Nat) : Int)) = false := by simp; omega
    have hn6 : n ≤ 600 := by omega
    clear hlong
    go_wp2_with (refine wpList_slice_all elStr 1 (vs := (wd :: rest).map strV) (by rw [List.length_map, List.length_cons, ← HNl.out]; omega) rfl (by omega) HCp.out rfl rfl rfl rfl ?_; intro ad' hcr; have HCr := Lib.hid hcr; clear hcr; rw [Nat.add_sub_cancel])
    go_loopw [3, 7, 8, 9, 24] (fun cv _ _ _ iv wr => ∃ (j : Nat) (ns : List Int) (v : Value), j ≤ n ∧ iv = .int .i64 (j : Int) ∧ cv = .int .i64 0 ∧ Hid (NumsTo rest j ns) ∧ Hid (Mem w wr [⟨g, 25, [.int .i64 0, .slice none 0 0], true⟩, ⟨B, 25, [.int .i64 k, v], true⟩]) ∧ Hid (wr.ownsRow (B + 1) 2 1 v j (ns.map (Value.int .i64))) ∧ Hid (Below B w2 wr)) (fun _ _ _ _ i _ => n - (RowKit.intOf i).toNat)
    case atStart => exact ⟨0, [], .slice none 0 0, Nat.zero_le _, rfl, rfl, Lib.hid (NumsTo.start _), HM3, Lib.hid ⟨rfl, .inl ⟨rfl, rfl⟩⟩, HB3⟩
    case round =>
      obtain ⟨j, ns, v, hj, rfl, rfl, HNs, HMr, HO, HBr⟩ := hrel
      obtain ⟨a1, c1, rfl, hcl, hcm⟩ := owned_form HO.out
      have d1 := HMr.out.cell 1 1 rfl rfl
      by_cases hlt : j < n
      · have hlt' : (j : Int) < (n : Int) := by omega
        have hjr : j < rest.length := by rw [← HNl.out]; exact hlt
        have hcw : Cells wr ad' (rest.map strV) := by
          have h1 := HCr.out wr (HC2.out.below HBr.out (by rw [HBs.out]; exact Nat.le_refl _))
          simpa using h1
        obtain ⟨b', off', rfl, _, hcell⟩ := hcw.atMap [] (i := j) hjr
        have e1 := hcell j hjr
        have HSt : Hid (∀ x, numP (rest.getD j []) = some x → NumsTo rest (j + 1) (ns ++ [x])) := Lib.hid (fun x hx => HNs.out.step hjr (by rw [← hx, List.getD_eq_getElem?_getD, List.getElem?_eq_getElem hjr]; rfl))
        have HBd : Hid (numP (rest.getD j []) = none → parseL l = none) := Lib.hid (fun hx => HNo.out (HNs.out.bad hjr (by rw [← hx, List.getD_eq_getElem?_getD, List.getElem?_eq_getElem hjr]; rfl)))
        have HWl : Hid ((rest.getD j []).length ≤ 1000000000) := Lib.hid (HLen.out _ (by rw [List.getD_eq_getElem?_getD, List.getElem?_eq_getElem hjr]; exact List.getElem_mem _))
        generalize rest.getD j [] = wj at *
        clear hcell hcw hjr
        go_wp2_with fail
        refine (pnum_any wj _ HWl.out).mono ?_
        rintro e w4 ⟨rfl, rfl⟩
        cases hnp : numP wj with
        | none =>
          have HN := Lib.hid (HBd.out hnp)
          rw [Option.getD_none, Option.isSome_none]
          clear hnp
          go_wp2_with (first
            | (refine wpList_store_mem aggOp HMr.out 0 rfl rfl rfl rfl rfl rfl rfl rfl ?_; intro w4 h4 ht4; have HM4 := Lib.hid h4; clear h4 ht4))
          refine bodyPost_ret (results_row2 (p := 2) (u := 3) rfl _ _ _ _ _ _ _ rfl (HM4.out.exact 0 rfl) Tryd.underlying25 rfl (by kernel_rfl)) rfl ?_
          exact HP.out none none 0 _ HN.out (.inl rfl) HM4.out.below
        | some x =>
          have HNs1 := Lib.hid (HSt.out x hnp)
          rw [Option.getD_some, Option.isSome_some]
          have hone : Hid (∀ u ∈ (#[Value.int .i64 x] : Array Value).toList, u.oneCell' = true) := Lib.hid (by intro u hu; simp at hu; subst hu; rfl)
          have hbase : Hid (B + 1 ≤ w4.heap.size) := Lib.hid (HMr.out.glt 1 rfl)
          have hj9 : j < 1000000000000 := by omega
          clear hnp
          go_wp2_with (at_builtin; refine wpList_append_new (us := #[.int .i64 x]) eli64 HO.out rfl hone.out hj9 (by decide) hbase.out rfl rfl rfl (by simp [Act.eval]) ?_; intro g6 c6 w6 ho6 hg6 hc6 hm6 hb6 hl6; have HO6 := Lib.hid ho6; have HG6 := Lib.hid hg6; have HM6 := Lib.hid (HMr.out.grown HO.out hg6 (by simp; have := HgB.out; omega) (by have := HwB.out; omega)); have HB6 : Hid (Below B w2 w6) := Lib.hid (below_grownBy HBr.out HO.out hg6 (by rw [HBs.out]; exact Nat.le_refl _) (by omega)); have d6 := HM6.out.cell 1 1 rfl rfl; have f6 := HM6.out.frozen 1 1 rfl; clear ho6 hg6 hb6 hl6)
          go_roundw
          case rel => exact ⟨j + 1, ns ++ [x], _, by omega, vint (by omega), rfl, HNs1, Lib.hid (HM6.out.set 1 1 _ rfl (by simp)), Lib.hid (by rw [List.map_append]; exact ownsRow_setCell_below HO6.out (by simp) _), Lib.hid (HB6.out.setCell (Nat.le_refl _) _)⟩
          case measure => simp [RowKit.intOf]; omega
      · obtain rfl : j = n := by omega
        have hlt' : decide ((j : Int) < (j : Int)) = false := by simp
        have HY := Lib.hid (HYes.out ns (HNs.out.all (by rw [← HNl.out]; exact Nat.le_refl _)))
        have HLn : Hid (ns.length = j) := Lib.hid HNs.out.1
        rw [HLn.out] at HY
        have d0 := HMr.out.cell 1 0 rfl rfl
        clear hlt
        go_wp2_with fail
        refine (right_any k a1 j c1 _ (by unfold maxLen; omega)).mono ?_
        rintro e w4 ⟨rfl, hb4⟩
        have HM4 := Lib.hid (HMr.out.later hb4)
        have HO4 := Lib.hid (owned_below HO.out hb4 (Nat.le_refl _))
        have d0 := HM4.out.cell 1 0 rfl rfl
        have d1 := HM4.out.cell 1 1 rfl rfl
        clear hb4
        cases hr : rightOp k j with
        | false =>
          have HN : Hid (parseL l = none) := Lib.hid (by rw [HY.out, hr]; rfl)
          clear hr
          go_wp2_with (first
            | (refine wpList_store_mem aggOp HM4.out 0 rfl rfl rfl rfl rfl rfl rfl rfl ?_; intro w5 h5 ht5; have HM5 := Lib.hid h5; clear h5 ht5))
          refine bodyPost_ret (results_row2 (p := 2) (u := 3) rfl _ _ _ _ _ _ _ rfl (HM5.out.exact 0 rfl) Tryd.underlying25 rfl (by kernel_rfl)) rfl ?_
          exact HP.out none none 0 _ HN.out (.inl rfl) HM5.out.below
        | true =>
          have HN : Hid (parseL l = some (k, ns)) := Lib.hid (by rw [HY.out, hr]; rfl)
          clear hr
          go_wp2_with (first
            | (refine wpList_store_mem (cs := #[.int .i64 k, .slice a1 j c1]) aggOp HM4.out 0 rfl rfl rfl rfl rfl rfl rfl rfl ?_; intro w5 h5 ht5; have HM5 := Lib.hid h5; have HC5 := Lib.hid (Cells.owned (owned_touch HO4.out ht5 (by have := HgB.out; omega))); clear h5 ht5))
          refine bodyPost_ret (results_row2 (p := 2) (u := 3) rfl _ _ _ _ _ _ _ rfl (HM5.out.exact 0 rfl) Tryd.underlying25 rfl (by kernel_rfl)) rfl ?_
          have h9 := HP.out (some (k, ns)) a1 c1 _ HN.out HC5.out HM5.out.below
          rw [← HLn.out]
          exact h9

end Go.Proofs.YtlaaamaaabcfeaaDoor

/- op: the document's Parse. -/
namespace Go.Proofs.YtlaaamaaabcfeaaDoor
open Go.RowKit
set_option linter.unusedVariables false
open Go.Lib (decDigits itoa nDigits)

theorem aggROp : Agg Tryd.prog 29 #[.int .i64 0, .slice none 0 0] := ⟨⟨_, Tryd.underlying29, rfl⟩, by kernel_rfl⟩

set_option maxHeartbeats 4000000 in
set_option maxRecDepth 100000 in
theorem rparse_any (l : List UInt8) (w : World) (hs : l.length ≤ 1000000) :
    Calls Tryd.prog 8 #[strV l] w (ParsePost (fun b => .bool b) l w) := by
  obtain ⟨wd, rest, hl⟩ : ∃ wd rest, cutGo 32 [] l = wd :: rest := by
    cases h : cutGo 32 [] l with
    | nil => exact absurd h (cut_ne _ _ _)
    | cons a b => exact ⟨a, b, rfl⟩
  have HLen : Hid (∀ s ∈ rest, s.length ≤ 1000000000) := Lib.hid (fun s hs' => by
    have := cut_len 32 l [] s (by rw [hl]; simp [hs'])
    simp at this; omega)
  obtain ⟨n, hn⟩ : ∃ n, n = rest.length := ⟨_, rfl⟩
  have hn9 : n ≤ 1000000 := by
    have := cut_count 32 l []
    rw [hl] at this
    simp at this; omega
  have HNl := Lib.hid hn
  have HPl : Hid (parseL l = parseW (wd :: rest)) := Lib.hid (by unfold parseL; rw [hl])
  have HSplit := Lib.hid (fun w0 => rcut_any l 32 w0 (by omega))
  rw [hl] at HSplit
  have HM0 := Lib.hid (Mem.one w #[.int .i64 0, .slice none 0 0] 29)
  have HP : Hid (∀ (o : Option (Int × List Int)) (a : Option Addr) (c : Nat) (w' : World), parseL l = o → Cells w' a ((o.getD (0, [])).2.map (Value.int .i64)) → Below w.heap.size w w' → ParsePost (fun b => .bool b) l w (.returned (.tuple #[opV (o.getD (0, [])).1 a (o.getD (0, [])).2.length c, .bool o.isSome])) w') := Lib.hid (fun o a c w' h1 h2 h3 => ⟨o, a, c, h1, rfl, h2, h3⟩)
  generalize ParsePost (fun b => .bool b) l w = Post at *
  clear hl hn
  go_enter Tryd.func8, Tryd.ntmps8
  go_upto_region 1 with fail
  generalize w.alloc _ = w0 at *
  obtain ⟨g, hg⟩ : ∃ g, g = w.heap.size := ⟨_, rfl⟩
  rw [← hg] at HM0 ⊢
  have HG := Lib.hid hg
  clear hg
  go_wp2_with fail
  refine (HSplit.out _).mono ?_
  rintro e w1 ⟨ad, cp, rfl, hc, hb1, hcp⟩
  have HM1 := Lib.hid (HM0.out.later hb1)
  have HC1 := Lib.hid hc
  obtain ⟨b, off, rfl, _, hcell⟩ := hc.atMap [] (i := 0) (by simp)
  have e0 := hcell 0 (by simp)
  have hlen : (wd :: rest).length = n + 1 := by rw [HNl.out]; rfl
  rw [hlen]
  simp only [List.getD_cons_zero, Nat.add_zero] at e0
  clear hc hb1 hcp hlen hcell
  go_wp2_with fail
  refine (rkind_any wd _).mono ?_
  rintro e w2 ⟨rfl, hb2⟩
  have HM2 := Lib.hid (HM1.out.later hb2)
  have HC2 := Lib.hid (HC1.out.below hb2 (Nat.le_refl _))
  clear hb2
  obtain ⟨k, hk⟩ : ∃ k : Int, k = ((kindOf wd : Nat) : Int) := ⟨_, rfl⟩
  rw [← hk]
  have HNo : Hid (numsGo rest = none → parseL l = none) := Lib.hid (fun h => by rw [HPl.out, parseW, h])
  have HYes : Hid (∀ ns, numsGo rest = some ns → parseL l = if rightOp k ns.length then some (k, ns) else none) := Lib.hid (fun ns h => by rw [HPl.out, parseW, h, hk])
  have HSz := Lib.hid HM2.out.below.size
  clear hk
  go_upto_region 3 with (first
    | (refine wpList_store_mem aggROp ((HM2.out.alloc #[.int .i64 0, .slice none 0 0] 29)) 1 rfl rfl rfl rfl rfl rfl rfl rfl ?_; intro w3 h3 ht3; have HM3 := Lib.hid h3; have HB3 : Hid (Below w2.heap.size w2 w3) := Lib.hid (below_touched (below_alloc w2 _) ht3 (by simp) (Nat.le_refl _)); clear h3 ht3))
  obtain ⟨B, hB⟩ : ∃ B, B = w2.heap.size := ⟨_, rfl⟩
  rw [← hB] at HM3 HB3 ⊢
  have HBs := Lib.hid hB
  have HgB : Hid (g < B) := Lib.hid (by rw [hB]; exact HM2.out.glt 0 rfl)
  have HwB : Hid (w.heap.size ≤ B) := Lib.hid (by rw [hB]; exact HSz.out)
  clear hB
  go_wp2_with fail
  go_loopw [3, 6, 7, 8] (fun cv iv _ _ wr => ∃ (j : Nat) (ns : List Int) (v : Value), j ≤ n ∧ iv = .int .i64 ((j + 1 : Nat) : Int) ∧ cv = .bool false ∧ Hid (NumsTo rest j ns) ∧ Hid (Mem w wr [⟨g, 29, [.int .i64 0, .slice none 0 0], true⟩, ⟨B, 29, [.int .i64 k, v], true⟩]) ∧ Hid (wr.ownsRow (B + 1) 2 1 v j (ns.map (Value.int .i64))) ∧ Hid (Below B w2 wr)) (fun _ i _ _ _ => n + 1 - (RowKit.intOf i).toNat)
  case atStart => exact ⟨0, [], .slice none 0 0, Nat.zero_le _, rfl, rfl, Lib.hid (NumsTo.start _), HM3, Lib.hid ⟨rfl, .inl ⟨rfl, rfl⟩⟩, HB3⟩
  case round =>
    obtain ⟨j, ns, v, hj, rfl, rfl, HNs, HMr, HO, HBr⟩ := hrel
    obtain ⟨a1, c1, rfl, hcl, hcm⟩ := owned_form HO.out
    have d1 := HMr.out.cell 1 1 rfl rfl
    by_cases hlt : j < n
    · have hlt' : ((j + 1 : Nat) : Int) < ((n + 1 : Nat) : Int) := by omega
      have hlt2 : j + 1 < n + 1 := by omega
      have hjr : j < rest.length := by rw [← HNl.out]; exact hlt
      have hcell := ((HC2.out.below HBr.out (by rw [HBs.out]; exact Nat.le_refl _)).atMap [] (i := 0) (by simp))
      obtain ⟨b', off', hbo, _, hcell⟩ := hcell
      obtain ⟨rfl, rfl⟩ : b = b' ∧ off = off' := by simpa using hbo
      have e1 := hcell (j + 1) (by simpa using hjr)
      rw [List.getD_cons_succ] at e1
      have HSt : Hid (∀ x, numP (rest.getD j []) = some x → NumsTo rest (j + 1) (ns ++ [x])) := Lib.hid (fun x hx => HNs.out.step hjr (by rw [← hx, List.getD_eq_getElem?_getD, List.getElem?_eq_getElem hjr]; rfl))
      have HBd : Hid (numP (rest.getD j []) = none → parseL l = none) := Lib.hid (fun hx => HNo.out (HNs.out.bad hjr (by rw [← hx, List.getD_eq_getElem?_getD, List.getElem?_eq_getElem hjr]; rfl)))
      have HWl : Hid ((rest.getD j []).length ≤ 1000000000) := Lib.hid (HLen.out _ (by rw [List.getD_eq_getElem?_getD, List.getElem?_eq_getElem hjr]; exact List.getElem_mem _))
      generalize rest.getD j [] = wj at *
      clear hcell hbo hjr
      go_wp2_with fail
      refine (rnum_any wj _ HWl.out).mono ?_
      rintro e w4 ⟨rfl, hb4⟩
      have HM4 := Lib.hid (HMr.out.later hb4)
      have HO4 := Lib.hid (owned_below HO.out hb4 (Nat.le_refl _))
      have HB4 : Hid (Below B w2 w4) := Lib.hid (HBr.out.trans (hb4.mono (by have := HMr.out.glt 1 rfl; omega)))
      have d1 := HM4.out.cell 1 1 rfl rfl
      rw [← num_same]
      clear hb4
      cases hnp : numP wj with
      | none =>
        have HN := Lib.hid (HBd.out hnp)
        rw [Option.getD_none, Option.isSome_none]
        clear hnp
        go_wp2_with (first
          | (refine wpList_store_mem aggROp HM4.out 0 rfl rfl rfl rfl rfl rfl rfl rfl ?_; intro w5 h5 ht5; have HM5 := Lib.hid h5; clear h5 ht5))
        refine bodyPost_ret (results_row2 (p := 2) (u := 3) rfl _ _ _ _ _ _ _ rfl (HM5.out.exact 0 rfl) Tryd.underlying29 rfl (by kernel_rfl)) rfl ?_
        exact HP.out none none 0 _ HN.out (.inl rfl) HM5.out.below
      | some x =>
        have HNs1 := Lib.hid (HSt.out x hnp)
        rw [Option.getD_some, Option.isSome_some]
        have hone : Hid (∀ u ∈ (#[Value.int .i64 x] : Array Value).toList, u.oneCell' = true) := Lib.hid (by intro u hu; simp at hu; subst hu; rfl)
        have hbase : Hid (B + 1 ≤ w4.heap.size) := Lib.hid (HM4.out.glt 1 rfl)
        have hj9 : j < 1000000000000 := by omega
        clear hnp
        go_wp2_with (at_builtin; refine wpList_append_new (us := #[.int .i64 x]) eli64 HO4.out rfl hone.out hj9 (by decide) hbase.out rfl rfl rfl (by simp [Act.eval]) ?_; intro g6 c6 w6 ho6 hg6 hc6 hm6 hb6 hl6; have HO6 := Lib.hid ho6; have HG6 := Lib.hid hg6; have HM6 := Lib.hid (HM4.out.grown HO4.out hg6 (by simp; have := HgB.out; omega) (by have := HwB.out; omega)); have HB6 : Hid (Below B w2 w6) := Lib.hid (below_grownBy HB4.out HO4.out hg6 (by rw [HBs.out]; exact Nat.le_refl _) (by omega)); have d6 := HM6.out.cell 1 1 rfl rfl; have f6 := HM6.out.frozen 1 1 rfl; clear ho6 hg6 hb6 hl6)
        go_roundw
        case rel => exact ⟨j + 1, ns ++ [x], _, by omega, vint (by omega), rfl, HNs1, Lib.hid (HM6.out.set 1 1 _ rfl (by simp)), Lib.hid (by rw [List.map_append]; exact ownsRow_setCell_below HO6.out (by simp) _), Lib.hid (HB6.out.setCell (Nat.le_refl _) _)⟩
        case measure => simp [RowKit.intOf]; omega
    · obtain rfl : j = n := by omega
      have hlt' : decide (((j + 1 : Nat) : Int) < ((j + 1 : Nat) : Int)) = false := by simp
      have hlt2 : decide ((j : Int) + 1 < (j : Int) + 1) = false := by simp
      have HY := Lib.hid (HYes.out ns (HNs.out.all (by rw [← HNl.out]; exact Nat.le_refl _)))
      have HLn : Hid (ns.length = j) := Lib.hid HNs.out.1
      rw [HLn.out] at HY
      have d0 := HMr.out.cell 1 0 rfl rfl
      clear hlt
      go_wp2_with fail
      refine (rright_any k a1 j c1 _ (by unfold maxLen; omega)).mono ?_
      rintro e w4 ⟨rfl, hb4⟩
      have HM4 := Lib.hid (HMr.out.later hb4)
      have HO4 := Lib.hid (owned_below HO.out hb4 (Nat.le_refl _))
      have d0 := HM4.out.cell 1 0 rfl rfl
      have d1 := HM4.out.cell 1 1 rfl rfl
      clear hb4
      cases hr : rightOp k j with
      | false =>
        have HN : Hid (parseL l = none) := Lib.hid (by rw [HY.out, hr]; rfl)
        clear hr
        go_wp2_with (first
          | (refine wpList_store_mem aggROp HM4.out 0 rfl rfl rfl rfl rfl rfl rfl rfl ?_; intro w5 h5 ht5; have HM5 := Lib.hid h5; clear h5 ht5))
        refine bodyPost_ret (results_row2 (p := 2) (u := 3) rfl _ _ _ _ _ _ _ rfl (HM5.out.exact 0 rfl) Tryd.underlying29 rfl (by kernel_rfl)) rfl ?_
        exact HP.out none none 0 _ HN.out (.inl rfl) HM5.out.below
      | true =>
        have HN : Hid (parseL l = some (k, ns)) := Lib.hid (by rw [HY.out, hr]; rfl)
        clear hr
        go_wp2_with (first
          | (refine wpList_store_mem (cs := #[.int .i64 k, .slice a1 j c1]) aggROp HM4.out 0 rfl rfl rfl rfl rfl rfl rfl rfl ?_; intro w5 h5 ht5; have HM5 := Lib.hid h5; have HC5 := Lib.hid (Cells.owned (owned_touch HO4.out ht5 (by have := HgB.out; omega))); clear h5 ht5))
        refine bodyPost_ret (results_row2 (p := 2) (u := 3) rfl _ _ _ _ _ _ _ rfl (HM5.out.exact 0 rfl) Tryd.underlying29 rfl (by kernel_rfl)) rfl ?_
        have h9 := HP.out (some (k, ns)) a1 c1 _ HN.out HC5.out HM5.out.below
        rw [← HLn.out]
        exact h9

end Go.Proofs.YtlaaamaaabcfeaaDoor

/- op: awake, OpReads. -/
namespace Go.Proofs.YtlaaamaaabcfeaaDoor
open Go.RowKit
set_option linter.unusedVariables false
open Go.Lib (decDigits itoa nDigits)

theorem parse_drop : parseL [100, 114, 111, 112, 32, 49, 32, 50] = some (2, [1, 2]) := by decide +kernel

set_option maxHeartbeats 1000000 in
set_option maxRecDepth 100000 in
theorem awake_any (m : Int) (w : World) (hm : w.cell? ⟨0, 0, none⟩ = some (.int .i64 m)) : Calls Tryd.prog 6 #[] w (Gives (.bool true) w) := by
  have HP : Hid (∀ (w' : World), Below w.heap.size w w' → Gives (.bool true) w (.returned (.bool true)) w') := Lib.hid (fun w' hb => ⟨rfl, hb⟩)
  generalize Gives (.bool true) w = Post at *
  have HPa := Lib.hid (parse_any [100, 114, 111, 112, 32, 49, 32, 50] m w hm (by decide))
  clear hm
  go_enter Tryd.func6, Tryd.ntmps6
  go_wp2_with fail
  refine HPa.out.mono ?_
  rintro e w1 ⟨o, a, c, ho, rfl, hc, hb1⟩
  rw [parse_drop] at ho
  subst ho
  dsimp only [Option.getD_some, Option.isSome_some] at hc ⊢
  have HB1 := Lib.hid hb1
  have HC := Lib.hid hc
  have HM1 := Lib.hid (Mem.one w1 #[.int .i64 0, .slice none 0 0] 25)
  clear hc hb1
  obtain ⟨b, off, rfl, e0⟩ := i64_at HC.out (i := 1) (by simp)
  go_wp2_with (refine wpList_store_mem aggOp HM1.out 0 rfl rfl rfl rfl rfl rfl rfl rfl ?_; intro w3 h3 ht3; have HM3 := Lib.hid h3; have d0 := h3.cell 0 0 rfl rfl; have d1 := h3.cell 0 1 rfl rfl; have e1 : w3.cell? ⟨b, off + 1, none⟩ = some (.int .i64 2) := (h3.below.cell (p := ⟨b, off + 1, none⟩) (World.block_lt_of_cell? _ _ e0)).trans e0; clear h3 ht3 e0)
  exact HP.out _ (HB1.out.trans (HM3.out.below.mono HB1.out.size))

set_option maxHeartbeats 4000000 in
set_option maxRecDepth 100000 in
theorem opReads_any (l : List UInt8) (m : Int) (w : World) (hm : w.cell? ⟨0, 0, none⟩ = some (.int .i64 m)) : Calls Tryd.prog 3 #[strV l] w (Gives (.bool true) w) := by
  have HP : Hid (∀ (w' : World), Below w.heap.size w w' → Gives (.bool true) w (.returned (.bool true)) w') := Lib.hid (fun w' hb => ⟨rfl, hb⟩)
  generalize Gives (.bool true) w = Post at *
  have HAw := Lib.hid (awake_any m w hm)
  have hw0 : 0 < w.heap.size := Nat.lt_of_le_of_lt (Nat.zero_le _) (World.block_lt_of_cell? _ _ hm)
  have HX : Hid (∀ w', Below w.heap.size w w' → w'.cell? ⟨0, 0, none⟩ = some (.int .i64 m)) := Lib.hid (fun w' hb => by rw [hb.cell (p := ⟨0, 0, none⟩) hw0]; exact hm)
  obtain ⟨n, hn⟩ : ∃ n, n = l.length := ⟨_, rfl⟩
  have hsz : (bstr l).size = n := by rw [bstr_size, hn]
  have HN := Lib.hid hn
  clear hm hn hw0
  go_enter Tryd.func3, Tryd.ntmps3
  go_wp2_with fail
  refine HAw.out.mono ?_
  rintro e w1 ⟨rfl, hb1⟩
  have HB1 := Lib.hid hb1
  clear hb1
  by_cases hlong : 5000 < n
  · have hl1 : (5000 : Int) < (n : Int) := by omega
    go_wp2_with fail
    exact HP.out _ HB1.out
  · have hl1 : decide ((5000 : Int) < (n : Int)) = false := by simp; omega
    have hl2 : decide (5000 < n) = false := by simp; omega
    have hn5 : n ≤ 5000 := by omega
    clear hlong
    go_wp2_with fail
    refine (parse_any l m _ (HX.out _ HB1.out) (by rw [← HN.out]; omega)).mono ?_
    rintro e w2 ⟨o, a, c, ho, rfl, hc, hb2⟩
    have HPo := Lib.hid ho
    have HLe : Hid ((o.getD (0, [])).2.length ≤ 600) := Lib.hid (by
      cases o with
      | none => simp
      | some q => exact (right_range (parseW_some ho).1).2.2)
    have HB2 : Hid (Below w.heap.size w w2) := Lib.hid (HB1.out.trans (hb2.mono HB1.out.size))
    have HC2 := Lib.hid hc
    have HM2 := Lib.hid (Mem.one w2 #[.int .i64 0, .slice none 0 0] 25)
    clear hc hb2 ho
    obtain ⟨q, hq⟩ : ∃ q, o.getD (0, []) = q := ⟨_, rfl⟩
    have HQ := Lib.hid hq
    rw [hq] at HC2 HLe ⊢
    obtain ⟨k, ns⟩ := q
    dsimp only at HC2 HLe ⊢
    obtain ⟨j, hj⟩ : ∃ j, ns.length = j := ⟨_, rfl⟩
    have HJ := Lib.hid hj
    rw [hj] at HLe ⊢
    clear hj hq
    obtain ⟨ok, hok⟩ : ∃ ok, o.isSome = ok := ⟨_, rfl⟩
    have HOk := Lib.hid hok
    rw [hok]
    clear hok
    obtain ⟨ec, hec⟩ : ∃ ec : Int, (if ok = true then (0 : Int) else 30) = ec := ⟨_, rfl⟩
    have HEc := Lib.hid hec
    rw [hec]
    clear hec
    go_wp2_with (refine wpList_store_mem aggOp HM2.out 0 rfl rfl rfl rfl rfl rfl rfl rfl ?_; intro w3 h3 ht3; have HM3 := Lib.hid h3; clear h3 ht3)
    have HB3 : Hid (Below w.heap.size w w3) := Lib.hid (HB2.out.trans (HM3.out.below.mono HB2.out.size))
    refine (rparse_any l _ (by rw [← HN.out]; omega)).mono ?_
    rintro e w4 ⟨o', a', c', ho, rfl, hc, hb4⟩
    obtain rfl : o = o' := HPo.out.symm.trans ho
    rw [HQ.out] at hc ⊢
    rw [HOk.out]
    dsimp only at hc ⊢
    rw [HJ.out]
    have HC4 := Lib.hid hc
    have HM4 := Lib.hid ((HM3.out.later hb4).alloc #[.int .i64 0, .slice none 0 0] 29)
    clear hc hb4 ho
    go_wp2_with (refine wpList_store_mem aggROp HM4.out 1 rfl rfl rfl rfl rfl rfl rfl rfl ?_; intro w5 h5 ht5; have HM5 := Lib.hid h5; have HB5 : Hid (Below w4.heap.size w4 w5) := Lib.hid (below_touched (below_alloc w4 _) ht5 (by simp) (Nat.le_refl _)); clear h5 ht5)
    refine (pnum_any l _ (by rw [← HN.out]; omega)).mono ?_
    rintro e w6 ⟨rfl, rfl⟩
    go_wp2_with fail
    refine (rnum_any l _ (by rw [← HN.out]; omega)).mono ?_
    rintro e w7 ⟨rfl, hb7⟩
    have HM7 := Lib.hid (HM5.out.later hb7)
    have HB7 : Hid (Below w.heap.size w w7) := Lib.hid (HB2.out.trans (HM7.out.below.mono HB2.out.size))
    have HCa : Hid (Cells w7 a (ns.map (Value.int .i64))) := Lib.hid (HC2.out.below HM7.out.below (Nat.le_refl _))
    have HCb : Hid (Cells w7 a' (ns.map (Value.int .i64))) := Lib.hid ((HC4.out.below HB5.out (Nat.le_refl _)).below hb7 (Nat.le_refl _))
    rw [← num_same]
    generalize (numP l).getD 0 = x at *
    generalize (numP l).isSome = y at *
    clear hb7
    go_upto_region 9 with fail
    have d0 := HM7.out.cell 0 0 rfl rfl
    have d1 := HM7.out.cell 0 1 rfl rfl
    have d2 := HM7.out.cell 1 0 rfl rfl
    have d3 := HM7.out.cell 1 1 rfl rfl
    have r0 := fun x => later_cell d0 x
    have r1 := fun x => later_cell d1 x
    have r2 := fun x => later_cell d2 x
    have r3 := fun x => later_cell d3 x
    have hec2 : (ok = true ∧ ec = 0) ∨ (ok = false ∧ ec = 30) := by have := HEc.out; cases ok <;> simp_all
    rcases hec2 with ⟨rfl, rfl⟩ | ⟨rfl, rfl⟩
    all_goals
      refine wp_region_seg (C := fun w' => ∃ x : Later (w7), w' = x.val) [.fl [0, 1, 2], .sq [3, 4, 5, 6, 7, 8, 9, 10, 11] false, .fl [12, 14], .sq [13] true, .sq [15, 16, 17] false, .fl [18, 19], .sq [20, 21, 22] false, .fl [23, 24], .sq [25, 26, 27] false] (by kernel_rfl) (by kernel_rfl) (by intro c a d v w h; cases d <;> exact h) ?_
      simp only [segs, picks, List.getElem?_cons_succ, List.getElem?_cons_zero]
      have hC1 := later_drew (w7)
      refine wpSeg_fl hC1 ?_
      repeat (first | go_big_quiet_step (fail) | quiet_step (fail))
      refine wpQuiet_nil ?_
      refine wpSeg_sq (fun K hK => ?_)
      go_wp2_with fail
      go_wp2_with fail
      refine hK _ _ (fun h => nomatch h) ?_
      clear hK K
      refine wpSeg_fl hC1 ?_
      repeat (first | go_big_quiet_step (fail) | quiet_step (fail))
      refine wpQuiet_nil ?_
      refine wpSeg_sq (fun K hK => ?_)
      go_wp2_with fail
      refine (ref_any k a j c _).mono ?_
      rintro e w8 ⟨rfl, hb8⟩
      have hC2 := later_step hC1 hb8
      go_wp2_with fail
      refine hK _ _ (fun _ => hC2) ?_
      clear hK K
      refine wpSeg_sq (fun K hK => ?_)
      go_wp2_with fail
      refine (same_any k a a' j c c' ns HJ.out _ (HCa.out.below (later_below hC2) (Nat.le_refl _)) (HCb.out.below (later_below hC2) (Nat.le_refl _)) (by have := HLe.out; unfold maxLen; omega)).mono ?_
      rintro e w9 ⟨rfl, hb9⟩
      have hC3 := later_step hC2 hb9
      go_wp2_with fail
      refine hK _ _ (fun h => nomatch h) ?_
      clear hK K
      refine wpSeg_fl hC3 ?_
      repeat (first | go_big_quiet_step (fail) | quiet_step (fail))
      refine wpQuiet_nil ?_
      refine wpSeg_sq (fun K hK => ?_)
      go_wp2_with fail
      go_wp2_with fail
      refine hK _ _ (fun h => nomatch h) ?_
      clear hK K
      refine wpSeg_fl hC3 ?_
      repeat (first | go_big_quiet_step (fail) | quiet_step (fail))
      refine wpQuiet_nil ?_
      refine wpSeg_last ?_
      go_wp2_with fail
      exact HP.out _ (HB7.out.trans ((later_below hC3).mono HB7.out.size))

end Go.Proofs.YtlaaamaaabcfeaaDoor

/- The frame of a row that lists laid variables, with the world's shape at hand. -/
namespace Go.Proofs.YtlaaamaaabcfeaaDoor
open Go.ChangeShapes Go.WideShapes
set_option linter.unusedVariables false

section
variable {H : Type} {enc : TypeId × Value → H}

theorem returns_laid {a : Assume} {C : Checked} {os : Os} {f : FuncId} {fn : Func} {s : ChangeSpec} {conds : List PathCond} {apart fresh handsOn again : Bool} {X : World → Array Value → Prop}
    (hX : ∀ (w w' : World) (args : Array Value), w.heap = w'.heap → X w args → X w' args)
    (own : ownKnob C.prog.godebug = none) (started : os.Started) (noInit : C.prog.inits.idxOf? f = none) (hfn : C.prog.funcs[f]? = some fn)
    (witness : ∃ (w : World) (tape : Tape) (i : Input), w.os = os ∧ (w.forCall tape i).Shaped C.prog ∧ i.vars = [] ∧ Input.okWide C.prog (w.forCall tape i) .any w.heap.size f i ∧
      ((s.pre enc C.prog fn conds apart (w.forCall tape i).memory i.args ∧ X (w.forCall tape i).memory i.args) ∧ sizedMet enc C.prog fn (OpenSpec.ofChange s) apart (w.forCall tape i).memory i.args) ∧ a.holds C.prog (lone (Frame.enter C.prog f i.args .normal) [] (w.forCall tape i)))
    (contract : ∀ (W : World) (base : Nat) (args : Array Value) (ds gs : List (DataW H)) (before : List MemPlace),
      (∀ (j : Nat) t v, fn.params[j]? = some t → args[j]? = some v → Value.okWide C.prog W .any base t v) →
      DataW.Whole enc C.prog fn.params.toList s.vars apart W args.toList ds gs before →
      conds.all (PathCond.test C.prog ⟨fn.params.toList, ds, s.plain.varTypes C.prog, gs⟩) = true →
      X W args → W.ShapedOpen C.prog →
      Calls C.prog f args W fun e W' => ∃ v, e = .returned v ∧ s.post enc C.prog fn apart fresh handsOn again W args v W') :
    ReturnsInHanded a C os f .any (fun w args => (s.pre enc C.prog fn conds apart w args ∧ X w args) ∧ sizedMet enc C.prog fn (OpenSpec.ofChange s) apart w args) (s.post enc C.prog fn apart fresh handsOn again) := by
  refine returnsInHanded_of_calls own started noInit witness ?_
  intro w tape i _ hsh _ hok hpre _
  obtain ⟨_, _, _, fn', hfn', _, _, _, _, hval⟩ := hok
  obtain rfl : fn' = fn := Option.some.inj (hfn'.symm.trans hfn)
  obtain ⟨⟨⟨ds, gs, before, hw, hc⟩, hx⟩, hz⟩ := hpre
  refine (contract (w.forCall tape i) w.heap.size i.args ds gs before hval (DataW.Whole.of_heap (w' := w.forCall tape i) (by rfl) hw) hc (hX _ _ _ (by rfl) hx) hsh).mono fun e W' ⟨v, he, hp⟩ => ?_
  subst he
  exact ChangeSpec.post_blind hp
end

end Go.Proofs.YtlaaamaaabcfeaaDoor
