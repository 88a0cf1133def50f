/- Parts of the proof, one behind the other: Jj, Jk, Jl, Jm, Jn, Jo, In, Deep, Rec, Jp, Jq, Sb, Js, Jt. -/
import Derived.Test.YtlaaamaaabcfeaaDoorM2
import Derived.Deep.Slices
import Derived.Deep.Fields
import Derived.ChangeSame
import Derived.OpenShut
import Derived.Shelf.Strings.Builder1
import Derived.Test.YtlaaamaaabcfeaaDoorProg

/- op: lines of ops. -/
namespace Go.Proofs.YtlaaamaaabcfeaaDoor
open Go.RowKit
set_option linter.unusedVariables false
open Go.Lib (decDigits itoa nDigits)

/-- An op's line, if it may be. -/
def lineOf (k : Int) (ns : List Int) : List UInt8 := if rightOp k ns.length then lineL (wordOf k) ns else []

theorem itoa_len {n : Int} (h : In64 n) : (itoa n).length ≤ 21 := by
  unfold itoa
  obtain ⟨h1, h2⟩ := h
  split
  · rw [List.length_cons]
    have := dec_len20 (u := n.natAbs) (by omega); omega
  · have := dec_len20 (u := n.toNat) (by omega); omega
theorem word_len : ∀ k : Int, (wordOf k).length ≤ 10 := by
  intro k
  by_cases h : k < 1 ∨ 22 ≤ k
  · rw [word_no h]; simp
  · have hf : ∀ j : Fin 22, (wordOf (j.val : Nat)).length ≤ 10 := by decide +kernel
    have := hf ⟨k.toNat, by omega⟩
    rwa [show ((k.toNat : Nat) : Int) = k by omega] at this
theorem lineL_snoc (w : List UInt8) (ns : List Int) (n : Int) : lineL w (ns ++ [n]) = lineL w ns ++ (32 :: itoa n) := by simp [lineL]
theorem lineL_len (w : List UInt8) : ∀ (ns : List Int), (∀ n ∈ ns, In64 n) → (lineL w ns).length ≤ w.length + 22 * ns.length := by
  intro ns
  induction ns with
  | nil => intro _; simp [lineL]
  | cons n ns ih =>
    intro h
    have h1 := ih (fun m hm => h m (by simp [hm]))
    have h2 := itoa_len (h n (by simp))
    have e : (lineL w (n :: ns)).length = (lineL w ns).length + ((itoa n).length + 1) := by simp [lineL]; omega
    rw [e, List.length_cons]; omega

theorem take_next {ns : List Int} {j : Nat} (h : j < ns.length) : ns.take (j + 1) = ns.take j ++ [ns.getD j 0] := by
  rw [List.take_succ_eq_append_getElem h, List.getD_eq_getElem?_getD, List.getElem?_eq_getElem h]; rfl

set_option maxHeartbeats 4000000 in
set_option maxRecDepth 100000 in
theorem line_any (k : Int) (a : Option Addr) (n c : Nat) (ns : List Int) (hn : ns.length = n) (hin : ∀ x ∈ ns, In64 x) (w : World) (hc : Cells w a (ns.map (Value.int .i64))) (hnm : n ≤ maxLen) :
    Calls Tryd.prog 13 #[opV k a n c] w (Gives (strV (lineOf k ns)) w) := by
  have HM := Lib.hid (Mem.one w #[.int .i64 k, .slice a n c] 25)
  have HP : Hid (∀ (l : List UInt8) (w' : World), lineOf k ns = l → Below w.heap.size w w' → Gives (strV (lineOf k ns)) w (.returned (strV l)) w') := Lib.hid (fun s w' h hb => by subst h; exact ⟨rfl, hb⟩)
  generalize Gives (strV (lineOf k ns)) w = Post at *
  have HC := Lib.hid hc
  have HN := Lib.hid hn
  have HIn := Lib.hid hin
  have HNm := Lib.hid hnm
  unfold maxLen at hnm
  clear hc hn hin
  go_enter Tryd.func13, Tryd.ntmps13
  go_upto_region 1 with fail
  generalize w.alloc _ = w0 at *
  obtain ⟨g, hg⟩ : ∃ g, g = w.heap.size := ⟨_, rfl⟩
  rw [← hg] at HM ⊢
  clear hg
  have d0 := HM.out.cell 0 0 rfl rfl
  have d1 := HM.out.cell 0 1 rfl rfl
  go_wp2_with fail
  refine (right_any k a n c _ HNm.out).mono ?_
  rintro e w1 ⟨rfl, hb1⟩
  have HM1 := Lib.hid (HM.out.later hb1)
  have d0 := HM1.out.cell 0 0 rfl rfl
  have d1 := HM1.out.cell 0 1 rfl rfl
  clear hb1
  cases hr : rightOp k n with
  | false =>
    have HL : Hid (lineOf k ns = []) := Lib.hid (by unfold lineOf; rw [HN.out, hr]; rfl)
    clear hr
    go_wp2_with fail
    exact HP.out [] _ HL.out HM1.out.below
  | true =>
    have HL : Hid (lineOf k ns = lineL (wordOf k) ns) := Lib.hid (by unfold lineOf; rw [HN.out, hr]; rfl)
    have h600 : n ≤ 600 := (right_range hr).2.2
    clear hr
    go_wp2_with fail
    refine (word_any k _).mono ?_
    rintro e w2 ⟨rfl, hb2⟩
    have HM2 := Lib.hid (HM1.out.later hb2)
    have d1 := HM2.out.cell 0 1 rfl rfl
    have HWl := Lib.hid (word_len k)
    generalize wordOf k = wd at *
    clear hb2
    go_wp2_with fail
    go_loopw [3, 15] (fun sv iv wr => ∃ (j : Nat) (t : List UInt8), j ≤ n ∧ iv = .int .i64 (j : Int) ∧ sv = .string (bstr t) ∧ Hid (t = lineL wd (ns.take j)) ∧ Below w.heap.size w wr) (fun _ iv _ => n - (RowKit.intOf iv).toNat)
    case atStart => exact ⟨0, wd, Nat.zero_le _, rfl, rfl, Lib.hid (by simp [lineL]), HM2.out.below⟩
    case round =>
      obtain ⟨j, t, hj, rfl, rfl, HT, hb⟩ := hrel
      have HB := Lib.hid hb
      clear hb
      by_cases hlt : j < n
      · have hlt' : (j : Int) < (n : Int) := by omega
        obtain ⟨b, off, rfl, e0⟩ := i64_at (HC.out.below HB.out (Nat.le_refl _)) (i := j) (by rw [HN.out]; exact hlt)
        have hx64 : In64 (ns.getD j 0) := HIn.out _ (by rw [List.getD_eq_getElem?_getD, List.getElem?_eq_getElem (by rw [HN.out]; exact hlt)]; exact List.getElem_mem _)
        have HX := Lib.hid hx64
        have HT1 : Hid (t ++ (32 :: itoa (ns.getD j 0)) = lineL wd (ns.take (j + 1))) := Lib.hid (by rw [take_next (by rw [HN.out]; exact hlt), lineL_snoc, HT.out])
        have htl : (bstr t).size ≤ 20000 := by
          rw [bstr_size, HT.out]
          have := lineL_len wd (ns.take j) (fun x hx => HIn.out x (List.mem_of_mem_take hx))
          have := HWl.out
          have := List.length_take_le j ns
          omega
        have HIl := Lib.hid (itoa_len hx64)
        generalize ns.getD j 0 = x at *
        clear hx64
        go_wp2_with fail
        refine (number_any x HX.out _).mono ?_
        rintro e w3 ⟨rfl, hb3⟩
        have HB3 : Hid (Below w.heap.size w w3) := Lib.hid (HB.out.trans (hb3.mono HB.out.size))
        generalize itoa x = q at *
        have hql : (bstr q).size ≤ 21 := by rw [bstr_size]; exact HIl.out
        have hs1 : (bstr (32 :: q)).size ≤ 22 := by rw [bstr_size, List.length_cons]; have := HIl.out; omega
        have ha1 : ({ data := #[32] } : ByteArray) ++ bstr q = bstr (32 :: q) := bstr_append [32] q
        have ha2 : bstr t ++ bstr (32 :: q) = bstr (t ++ (32 :: q)) := bstr_append t (32 :: q)
        clear hb3
        go_wp2_with fail
        go_roundw
        case rel => exact ⟨j + 1, t ++ (32 :: q), by omega, vint (by omega), rfl, HT1, HB3.out⟩
        case measure => simp [RowKit.intOf]; omega
      · obtain rfl : j = n := by omega
        have hlt' : decide ((j : Int) < (j : Int)) = false := by simp
        have HE : Hid (lineL wd ns = t) := Lib.hid (by rw [HT.out, List.take_of_length_le (by rw [HN.out]; exact Nat.le_refl _)])
        clear hlt
        go_wp2_with fail
        exact HP.out t _ (by rw [HL.out, HE.out]) HB.out

end Go.Proofs.YtlaaamaaabcfeaaDoor

/- op: Parse. -/
namespace Go.Proofs.YtlaaamaaabcfeaaDoor
open Go.RowKit
set_option linter.unusedVariables false
open Go.Lib (decDigits itoa nDigits)

theorem Mem.grown {w W W' : World} {L : List Ent} (h : Mem w W L) {base e size n : Nat} {v : Value} {xs : List Value} (ho : W.ownsRow base e size v n xs) (hg : W.grownBy W' v.ownBlock) (hb : ∀ x ∈ L, x.g < base) (hB : w.heap.size ≤ base) : Mem w W' L := by
  refine ⟨below_grownBy h.below ho hg (Nat.le_refl _) hB, fun x hx => (h.rows x hx).keep (hg.block _ (h.lt x hx) ?_), h.base, h.nd⟩
  intro e'
  have h1 := (ho.lt _ e'.symm).1
  have h2 := hb x hx
  omega

theorem owned_touch {w w' : World} {base e size n d : Nat} {v : Value} {xs : List Value} (h : w.ownsRow base e size v n xs) (ht : Touch [d] w w') (hd : d < base) : w'.ownsRow base e size v n xs := by
  refine ⟨h.1, ?_⟩
  rcases h.2 with hn | ⟨g, cap, cur, rfl, h1, hg, r⟩
  · exact .inl hn
  · exact .inr ⟨g, cap, cur, rfl, h1, by rw [ht.block g (Array.getElem?_eq_some_iff.1 hg).1 (by simp; omega)]; exact hg, r⟩

section
variable {P : Program} {w : World} {ops : Array Oper} {rest : List Oper} {o : Oper} {a : Act} {Q : Exit → Act → World → Prop}
/-- 'xs[lo:]', for all worlds with these cells. -/
theorem wpList_slice_all {x lo : Operand} {t e : TypeId} {z : Value} {size bytes : Nat} (E : Elem P t e z size bytes) {ad : Option Addr} {n cap : Nat} {k : IntKind} {L : Int} (l : Nat) {vs : List Value}
    (hlen : vs.length = n * size) (hL : L = (l : Int)) (hl : l ≤ n) (hn : n ≤ cap)
    (hgd : o.guard = none) (ho : o.op = .slice t x (some lo) none none) (hx : a.eval x = .slice ad n cap) (hlo : a.eval lo = .int k L)
    (hK : ∀ ad', (∀ W, Cells W ad vs → Cells W ad' (vs.drop (l * size))) → wpList P ops Q rest (a.put o.dst (.slice ad' (n - l) (cap - l))) w) :
    wpList P ops Q (o :: rest) a w := by
  refine wpList_plain hgd fun K hK' => ?_
  subst hL
  have hr := run_slice_any (w := w) E ad n cap l n (some (.int k l)) none (by
    have : (0 : Int) ≤ (l : Int) ∧ (l : Int) ≤ (n : Int) := by omega
    simp [Instr.sliceBounds, Instr.sliceBound, asIntOf, hl, hn, Nat.le_trans hl hn])
  unfold Oper.wp
  simp only [execOp, ho, hx, hlo, Option.map_some, Option.map_none]
  simp [hr, Result.andThen]
  exact hK' _ _ (hK _ (fun W hc => hc.shift (l * size) (cap = l) (fun h => by rw [hlen]; exact Nat.mul_le_mul_right _ (by omega))))
end

theorem owned_weak {w : World} {base e size n : Nat} {v : Value} {xs : List Value} (h : w.ownsRow base e size v n xs) : w.ownsRow 0 e size v n xs := by
  refine ⟨h.1, ?_⟩
  rcases h.2 with hn | ⟨g, cap, cur, rfl, h1, r⟩
  · exact .inl hn
  · exact .inr ⟨g, cap, cur, rfl, Nat.zero_le _, r⟩
theorem owned_nil {w : World} {e : Nat} : w.ownsRow 0 e 1 (.slice none 0 0) 0 [] := ⟨rfl, .inl ⟨rfl, rfl⟩⟩

/-- What a parse leaves. -/
def ParsePost (cd : Bool → Value) (l : List UInt8) (w : World) : Ending → World → Prop := fun e w' => ∃ (o : Option (Int × List Int)) (a : Option Addr) (c : Nat), parseL l = o ∧ e = .returned (.tuple #[opV (o.getD (0, [])).1 a (o.getD (0, [])).2.length c, cd o.isSome]) ∧ Cells w' a ((o.getD (0, [])).2.map (Value.int .i64)) ∧ Below w.heap.size w w' ∧ w'.ownsRow 0 2 1 (.slice a (o.getD (0, [])).2.length c) (o.getD (0, [])).2.length ((o.getD (0, [])).2.map (Value.int .i64))

theorem cut_ne (c : UInt8) : ∀ (l p : List UInt8), cutGo c p l ≠ [] := by
  intro l
  induction l with
  | nil => intro p; simp [cutGo]
  | cons b l ih => intro p; rw [cutGo]; split
                   · simp
                   · exact ih _
theorem cut_len (c : UInt8) : ∀ (l p : List UInt8), ∀ s ∈ cutGo c p l, s.length ≤ p.length + l.length := by
  intro l
  induction l with
  | nil => intro p s hs; simp [cutGo] at hs; subst hs; simp
  | cons b l ih =>
    intro p s hs
    rw [cutGo] at hs
    split at hs
    · rcases List.mem_cons.1 hs with rfl | hs
      · simp
      · have := ih _ s hs; simp at this ⊢; omega
    · have := ih _ s hs; simp at this ⊢; omega
theorem cut_count (c : UInt8) : ∀ (l p : List UInt8), (cutGo c p l).length ≤ l.length + 1 := by
  intro l
  induction l with
  | nil => intro p; simp [cutGo]
  | cons b l ih => intro p; rw [cutGo]; split
                   · have := ih []; simp; omega
                   · have := ih (p ++ [b]); simp; omega

theorem eli64 : Elem Tryd.prog 23 2 (.int .i64 0) 1 8 := Elem.mk' Tryd.underlying23 (by kernel_rfl) rfl (by decide)
theorem aggOp : Agg Tryd.prog 25 #[.int .i64 0, .slice none 0 0] := ⟨⟨_, Tryd.underlying25, rfl⟩, by kernel_rfl⟩

/-- The numbers so far. -/
def NumsTo (rest : List (List UInt8)) (j : Nat) (ns : List Int) : Prop := ns.length = j ∧ numsGo rest = (numsGo (rest.drop j)).map (ns ++ ·)
theorem NumsTo.start (rest : List (List UInt8)) : NumsTo rest 0 [] := ⟨rfl, by simp⟩
theorem NumsTo.step {rest : List (List UInt8)} {j : Nat} {ns : List Int} (h : NumsTo rest j ns) (hj : j < rest.length) {x : Int} (hx : numP rest[j] = some x) : NumsTo rest (j + 1) (ns ++ [x]) := by
  refine ⟨by rw [List.length_append, h.1]; rfl, ?_⟩
  rw [h.2, List.drop_eq_getElem_cons hj, numsGo, hx]
  cases numsGo (rest.drop (j + 1)) with
  | none => rfl
  | some r => simp
theorem NumsTo.bad {rest : List (List UInt8)} {j : Nat} {ns : List Int} (h : NumsTo rest j ns) (hj : j < rest.length) (hx : numP rest[j] = none) : numsGo rest = none := by
  rw [h.2, List.drop_eq_getElem_cons hj, numsGo, hx]; rfl
theorem NumsTo.all {rest : List (List UInt8)} {j : Nat} {ns : List Int} (h : NumsTo rest j ns) (hj : rest.length ≤ j) : numsGo rest = some ns := by
  rw [h.2, List.drop_of_length_le hj]; simp [numsGo]

set_option maxHeartbeats 4000000 in
set_option maxRecDepth 100000 in
theorem parse_any (l : List UInt8) (m : Int) (w : World) (hm : w.cell? ⟨0, 0, none⟩ = some (.int .i64 m)) (hs : l.length ≤ 1000000) :
    Calls Tryd.prog 7 #[strV l] w (ParsePost (fun b => .int .i64 (if b then 0 else 30)) l w) := by
  obtain ⟨wd, rest, hl⟩ : ∃ wd rest, cutGo 32 [] l = wd :: rest := by
    cases h : cutGo 32 [] l with
    | nil => exact absurd h (cut_ne _ _ _)
    | cons a b => exact ⟨a, b, rfl⟩
  have HLen : Hid (∀ s ∈ rest, s.length ≤ 1000000000) := Lib.hid (fun s hs' => by
    have := cut_len 32 l [] s (by rw [hl]; simp [hs'])
    simp at this; omega)
  obtain ⟨n, hn⟩ : ∃ n, n = rest.length := ⟨_, rfl⟩
  have hn9 : n ≤ 1000000 := by
    have := cut_count 32 l []
    rw [hl] at this
    simp at this; omega
  have HNl := Lib.hid hn
  have HPl : Hid (parseL l = parseW (wd :: rest)) := Lib.hid (by unfold parseL; rw [hl])
  have HSplit := Lib.hid (fun w0 hm0 => split_any l 32 m w0 hm0 (by omega))
  rw [hl] at HSplit
  have HM0 := Lib.hid (Mem.one w #[.int .i64 0, .slice none 0 0] 25)
  have HP : Hid (∀ (o : Option (Int × List Int)) (a : Option Addr) (c : Nat) (w' : World), parseL l = o → w'.ownsRow 0 2 1 (.slice a (o.getD (0, [])).2.length c) (o.getD (0, [])).2.length ((o.getD (0, [])).2.map (Value.int .i64)) → Below w.heap.size w w' → ParsePost (fun b => .int .i64 (if b then 0 else 30)) l w (.returned (.tuple #[opV (o.getD (0, [])).1 a (o.getD (0, [])).2.length c, .int .i64 (if o.isSome then 0 else 30)])) w') := Lib.hid (fun o a c w' h1 h2 h3 => ⟨o, a, c, h1, rfl, Cells.owned h2, h3, h2⟩)
  generalize ParsePost (fun b => .int .i64 (if b then 0 else 30)) l w = Post at *
  clear hl hn
  have hw0 : 0 < w.heap.size := Nat.lt_of_le_of_lt (Nat.zero_le _) (World.block_lt_of_cell? _ _ hm)
  have HMx : Hid ((w.alloc (.cells #[.int .i64 0, .slice none 0 0] 25)).cell? ⟨0, 0, none⟩ = some (.int .i64 m)) := Lib.hid (by rw [HM0.out.below.cell (p := ⟨0, 0, none⟩) hw0]; exact hm)
  clear hm
  go_enter Tryd.func7, Tryd.ntmps7
  go_upto_region 1 with fail
  generalize w.alloc _ = w0 at *
  obtain ⟨g, hg⟩ : ∃ g, g = w.heap.size := ⟨_, rfl⟩
  rw [← hg] at HM0 ⊢
  have HG := Lib.hid hg
  clear hg
  go_wp2_with fail
  refine (HSplit.out _ HMx.out).mono ?_
  rintro e w1 ⟨ad, cp, rfl, hc, hb1, hcp⟩
  have HM1 := Lib.hid (HM0.out.later hb1)
  have HC1 := Lib.hid hc
  obtain ⟨b, off, rfl, _, hcell⟩ := hc.atMap [] (i := 0) (by simp)
  have e0 := hcell 0 (by simp)
  have HCp : Hid (n + 1 ≤ cp) := Lib.hid (by rw [HNl.out]; simpa using hcp)
  have hlen : (wd :: rest).length = n + 1 := by rw [HNl.out]; rfl
  rw [hlen]
  simp only [List.getD_cons_zero, Nat.add_zero] at e0
  clear hc hb1 hcp hlen hcell
  go_wp2_with fail
  refine (kind_any wd _).mono ?_
  rintro e w2 ⟨rfl, hb2⟩
  have HM2 := Lib.hid (HM1.out.later hb2)
  have HC2 := Lib.hid (HC1.out.below hb2 (Nat.le_refl _))
  clear hb2
  obtain ⟨k, hk⟩ : ∃ k : Int, k = ((kindOf wd : Nat) : Int) := ⟨_, rfl⟩
  rw [← hk]
  have HNo : Hid (numsGo rest = none → parseL l = none) := Lib.hid (fun h => by rw [HPl.out, parseW, h])
  have HYes : Hid (∀ ns, numsGo rest = some ns → parseL l = if rightOp k ns.length then some (k, ns) else none) := Lib.hid (fun ns h => by rw [HPl.out, parseW, h, hk])
  have HLong : Hid (600 < n → parseL l = none) := Lib.hid (fun h => by rw [HPl.out]; exact parseW_long (by rw [List.length_cons, ← HNl.out]; omega))
  have HSz := Lib.hid HM2.out.below.size
  clear hk
  go_upto_region 3 with (first
    | (refine wpList_store_mem aggOp ((HM2.out.alloc #[.int .i64 0, .slice none 0 0] 25)) 1 rfl rfl rfl rfl rfl rfl rfl rfl ?_; intro w3 h3 ht3; have HM3 := Lib.hid h3; have HB3 : Hid (Below w2.heap.size w2 w3) := Lib.hid (below_touched (below_alloc w2 _) ht3 (by simp) (Nat.le_refl _)); clear h3 ht3))
  have HC3 := Lib.hid (HC2.out.below HB3.out (Nat.le_refl _))
  obtain ⟨B, hB⟩ : ∃ B, B = w2.heap.size := ⟨_, rfl⟩
  rw [← hB] at HM3 HB3 ⊢
  have HBs := Lib.hid hB
  have HgB : Hid (g < B) := Lib.hid (by rw [hB]; exact HM2.out.glt 0 rfl)
  have HwB : Hid (w.heap.size ≤ B) := Lib.hid (by rw [hB]; exact HSz.out)
  clear hB
  by_cases hlong : 600 < n
  · have HN := Lib.hid (HLong.out hlong)
    have hl1 : 601 < n + 1 := by omega
    have hl2 : (601 : Int) < ((n + 1 : Nat) : Int) := by omega
    go_wp2_with (first
      | (refine wpList_store_mem aggOp HM3.out 0 rfl rfl rfl rfl rfl rfl rfl rfl ?_; intro w4 h4 ht4; have HM4 := Lib.hid h4; clear h4 ht4))
    refine bodyPost_ret (results_row2 (p := 2) (u := 3) rfl _ _ _ _ _ _ _ rfl (HM4.out.exact 0 rfl) Tryd.underlying25 rfl (by kernel_rfl)) rfl ?_
    exact HP.out none none 0 _ HN.out owned_nil HM4.out.below
  · have hl1 : decide (601 < n + 1) = false := by simp; omega
    have hl2 : decide ((601 : Int) < ((n + 1 : Nat) : Int)) = false := by simp; omega
    have hn6 : n ≤ 600 := by omega
    clear hlong
    go_wp2_with (refine wpList_slice_all elStr 1 (vs := (wd :: rest).map strV) (by rw [List.length_map, List.length_cons, ← HNl.out]; omega) rfl (by omega) HCp.out rfl rfl rfl rfl ?_; intro ad' hcr; have HCr := Lib.hid hcr; clear hcr; rw [Nat.add_sub_cancel])
    go_loopw [3, 7, 8, 9, 24] (fun cv _ _ _ iv wr => ∃ (j : Nat) (ns : List Int) (v : Value), j ≤ n ∧ iv = .int .i64 (j : Int) ∧ cv = .int .i64 0 ∧ Hid (NumsTo rest j ns) ∧ Hid (Mem w wr [⟨g, 25, [.int .i64 0, .slice none 0 0], true⟩, ⟨B, 25, [.int .i64 k, v], true⟩]) ∧ Hid (wr.ownsRow (B + 1) 2 1 v j (ns.map (Value.int .i64))) ∧ Hid (Below B w2 wr)) (fun _ _ _ _ i _ => n - (RowKit.intOf i).toNat)
    case atStart => exact ⟨0, [], .slice none 0 0, Nat.zero_le _, rfl, rfl, Lib.hid (NumsTo.start _), HM3, Lib.hid ⟨rfl, .inl ⟨rfl, rfl⟩⟩, HB3⟩
    case round =>
      obtain ⟨j, ns, v, hj, rfl, rfl, HNs, HMr, HO, HBr⟩ := hrel
      obtain ⟨a1, c1, rfl, hcl, hcm⟩ := owned_form HO.out
      have d1 := HMr.out.cell 1 1 rfl rfl
      by_cases hlt : j < n
      · have hlt' : (j : Int) < (n : Int) := by omega
        have hjr : j < rest.length := by rw [← HNl.out]; exact hlt
        have hcw : Cells wr ad' (rest.map strV) := by
          have h1 := HCr.out wr (HC2.out.below HBr.out (by rw [HBs.out]; exact Nat.le_refl _))
          simpa using h1
        obtain ⟨b', off', rfl, _, hcell⟩ := hcw.atMap [] (i := j) hjr
        have e1 := hcell j hjr
        have HSt : Hid (∀ x, numP (rest.getD j []) = some x → NumsTo rest (j + 1) (ns ++ [x])) := Lib.hid (fun x hx => HNs.out.step hjr (by rw [← hx, List.getD_eq_getElem?_getD, List.getElem?_eq_getElem hjr]; rfl))
        have HBd : Hid (numP (rest.getD j []) = none → parseL l = none) := Lib.hid (fun hx => HNo.out (HNs.out.bad hjr (by rw [← hx, List.getD_eq_getElem?_getD, List.getElem?_eq_getElem hjr]; rfl)))
        have HWl : Hid ((rest.getD j []).length ≤ 1000000000) := Lib.hid (HLen.out _ (by rw [List.getD_eq_getElem?_getD, List.getElem?_eq_getElem hjr]; exact List.getElem_mem _))
        generalize rest.getD j [] = wj at *
        clear hcell hcw hjr
        go_wp2_with fail
        refine (pnum_any wj _ HWl.out).mono ?_
        rintro e w4 ⟨rfl, rfl⟩
        cases hnp : numP wj with
        | none =>
          have HN := Lib.hid (HBd.out hnp)
          rw [Option.getD_none, Option.isSome_none]
          clear hnp
          go_wp2_with (first
            | (refine wpList_store_mem aggOp HMr.out 0 rfl rfl rfl rfl rfl rfl rfl rfl ?_; intro w4 h4 ht4; have HM4 := Lib.hid h4; clear h4 ht4))
          refine bodyPost_ret (results_row2 (p := 2) (u := 3) rfl _ _ _ _ _ _ _ rfl (HM4.out.exact 0 rfl) Tryd.underlying25 rfl (by kernel_rfl)) rfl ?_
          exact HP.out none none 0 _ HN.out owned_nil HM4.out.below
        | some x =>
          have HNs1 := Lib.hid (HSt.out x hnp)
          rw [Option.getD_some, Option.isSome_some]
          have hone : Hid (∀ u ∈ (#[Value.int .i64 x] : Array Value).toList, u.oneCell' = true) := Lib.hid (by intro u hu; simp at hu; subst hu; rfl)
          have hbase : Hid (B + 1 ≤ w4.heap.size) := Lib.hid (HMr.out.glt 1 rfl)
          have hj9 : j < 1000000000000 := by omega
          clear hnp
          go_wp2_with (at_builtin; refine wpList_append_new (us := #[.int .i64 x]) eli64 HO.out rfl hone.out hj9 (by decide) hbase.out rfl rfl rfl (by simp [Act.eval]) ?_; intro g6 c6 w6 ho6 hg6 hc6 hm6 hb6 hl6; have HO6 := Lib.hid ho6; have HG6 := Lib.hid hg6; have HM6 := Lib.hid (HMr.out.grown HO.out hg6 (by simp; have := HgB.out; omega) (by have := HwB.out; omega)); have HB6 : Hid (Below B w2 w6) := Lib.hid (below_grownBy HBr.out HO.out hg6 (by rw [HBs.out]; exact Nat.le_refl _) (by omega)); have d6 := HM6.out.cell 1 1 rfl rfl; have f6 := HM6.out.frozen 1 1 rfl; clear ho6 hg6 hb6 hl6)
          go_roundw
          case rel => exact ⟨j + 1, ns ++ [x], _, by omega, vint (by omega), rfl, HNs1, Lib.hid (HM6.out.set 1 1 _ rfl (by simp)), Lib.hid (by rw [List.map_append]; exact ownsRow_setCell_below HO6.out (by simp) _), Lib.hid (HB6.out.setCell (Nat.le_refl _) _)⟩
          case measure => simp [RowKit.intOf]; omega
      · obtain rfl : j = n := by omega
        have hlt' : decide ((j : Int) < (j : Int)) = false := by simp
        have HY := Lib.hid (HYes.out ns (HNs.out.all (by rw [← HNl.out]; exact Nat.le_refl _)))
        have HLn : Hid (ns.length = j) := Lib.hid HNs.out.1
        rw [HLn.out] at HY
        have d0 := HMr.out.cell 1 0 rfl rfl
        clear hlt
        go_wp2_with fail
        refine (right_any k a1 j c1 _ (by unfold maxLen; omega)).mono ?_
        rintro e w4 ⟨rfl, hb4⟩
        have HM4 := Lib.hid (HMr.out.later hb4)
        have HO4 := Lib.hid (owned_below HO.out hb4 (Nat.le_refl _))
        have d0 := HM4.out.cell 1 0 rfl rfl
        have d1 := HM4.out.cell 1 1 rfl rfl
        clear hb4
        cases hr : rightOp k j with
        | false =>
          have HN : Hid (parseL l = none) := Lib.hid (by rw [HY.out, hr]; rfl)
          clear hr
          go_wp2_with (first
            | (refine wpList_store_mem aggOp HM4.out 0 rfl rfl rfl rfl rfl rfl rfl rfl ?_; intro w5 h5 ht5; have HM5 := Lib.hid h5; clear h5 ht5))
          refine bodyPost_ret (results_row2 (p := 2) (u := 3) rfl _ _ _ _ _ _ _ rfl (HM5.out.exact 0 rfl) Tryd.underlying25 rfl (by kernel_rfl)) rfl ?_
          exact HP.out none none 0 _ HN.out owned_nil HM5.out.below
        | true =>
          have HN : Hid (parseL l = some (k, ns)) := Lib.hid (by rw [HY.out, hr]; rfl)
          clear hr
          go_wp2_with (first
            | (refine wpList_store_mem (cs := #[.int .i64 k, .slice a1 j c1]) aggOp HM4.out 0 rfl rfl rfl rfl rfl rfl rfl rfl ?_; intro w5 h5 ht5; have HM5 := Lib.hid h5; have HC5 := Lib.hid (owned_weak (owned_touch HO4.out ht5 (by have := HgB.out; omega))); clear h5 ht5))
          refine bodyPost_ret (results_row2 (p := 2) (u := 3) rfl _ _ _ _ _ _ _ rfl (HM5.out.exact 0 rfl) Tryd.underlying25 rfl (by kernel_rfl)) rfl ?_
          have h9 := HP.out (some (k, ns)) a1 c1 _ HN.out (by dsimp only [Option.getD_some]; rw [HLn.out]; exact HC5.out) HM5.out.below
          rw [← HLn.out]
          exact h9

end Go.Proofs.YtlaaamaaabcfeaaDoor

/- op: the document's Parse. -/
namespace Go.Proofs.YtlaaamaaabcfeaaDoor
open Go.RowKit
set_option linter.unusedVariables false
open Go.Lib (decDigits itoa nDigits)

theorem aggROp : Agg Tryd.prog 29 #[.int .i64 0, .slice none 0 0] := ⟨⟨_, Tryd.underlying29, rfl⟩, by kernel_rfl⟩

set_option maxHeartbeats 4000000 in
set_option maxRecDepth 100000 in
theorem rparse_any (l : List UInt8) (w : World) (hs : l.length ≤ 1000000) :
    Calls Tryd.prog 8 #[strV l] w (ParsePost (fun b => .bool b) l w) := by
  obtain ⟨wd, rest, hl⟩ : ∃ wd rest, cutGo 32 [] l = wd :: rest := by
    cases h : cutGo 32 [] l with
    | nil => exact absurd h (cut_ne _ _ _)
    | cons a b => exact ⟨a, b, rfl⟩
  have HLen : Hid (∀ s ∈ rest, s.length ≤ 1000000000) := Lib.hid (fun s hs' => by
    have := cut_len 32 l [] s (by rw [hl]; simp [hs'])
    simp at this; omega)
  obtain ⟨n, hn⟩ : ∃ n, n = rest.length := ⟨_, rfl⟩
  have hn9 : n ≤ 1000000 := by
    have := cut_count 32 l []
    rw [hl] at this
    simp at this; omega
  have HNl := Lib.hid hn
  have HPl : Hid (parseL l = parseW (wd :: rest)) := Lib.hid (by unfold parseL; rw [hl])
  have HSplit := Lib.hid (fun w0 => rcut_any l 32 w0 (by omega))
  rw [hl] at HSplit
  have HM0 := Lib.hid (Mem.one w #[.int .i64 0, .slice none 0 0] 29)
  have HP : Hid (∀ (o : Option (Int × List Int)) (a : Option Addr) (c : Nat) (w' : World), parseL l = o → w'.ownsRow 0 2 1 (.slice a (o.getD (0, [])).2.length c) (o.getD (0, [])).2.length ((o.getD (0, [])).2.map (Value.int .i64)) → Below w.heap.size w w' → ParsePost (fun b => .bool b) l w (.returned (.tuple #[opV (o.getD (0, [])).1 a (o.getD (0, [])).2.length c, .bool o.isSome])) w') := Lib.hid (fun o a c w' h1 h2 h3 => ⟨o, a, c, h1, rfl, Cells.owned h2, h3, h2⟩)
  generalize ParsePost (fun b => .bool b) l w = Post at *
  clear hl hn
  go_enter Tryd.func8, Tryd.ntmps8
  go_upto_region 1 with fail
  generalize w.alloc _ = w0 at *
  obtain ⟨g, hg⟩ : ∃ g, g = w.heap.size := ⟨_, rfl⟩
  rw [← hg] at HM0 ⊢
  have HG := Lib.hid hg
  clear hg
  go_wp2_with fail
  refine (HSplit.out _).mono ?_
  rintro e w1 ⟨ad, cp, rfl, hc, hb1, hcp⟩
  have HM1 := Lib.hid (HM0.out.later hb1)
  have HC1 := Lib.hid hc
  obtain ⟨b, off, rfl, _, hcell⟩ := hc.atMap [] (i := 0) (by simp)
  have e0 := hcell 0 (by simp)
  have hlen : (wd :: rest).length = n + 1 := by rw [HNl.out]; rfl
  rw [hlen]
  simp only [List.getD_cons_zero, Nat.add_zero] at e0
  clear hc hb1 hcp hlen hcell
  go_wp2_with fail
  refine (rkind_any wd _).mono ?_
  rintro e w2 ⟨rfl, hb2⟩
  have HM2 := Lib.hid (HM1.out.later hb2)
  have HC2 := Lib.hid (HC1.out.below hb2 (Nat.le_refl _))
  clear hb2
  obtain ⟨k, hk⟩ : ∃ k : Int, k = ((kindOf wd : Nat) : Int) := ⟨_, rfl⟩
  rw [← hk]
  have HNo : Hid (numsGo rest = none → parseL l = none) := Lib.hid (fun h => by rw [HPl.out, parseW, h])
  have HYes : Hid (∀ ns, numsGo rest = some ns → parseL l = if rightOp k ns.length then some (k, ns) else none) := Lib.hid (fun ns h => by rw [HPl.out, parseW, h, hk])
  have HSz := Lib.hid HM2.out.below.size
  clear hk
  go_upto_region 3 with (first
    | (refine wpList_store_mem aggROp ((HM2.out.alloc #[.int .i64 0, .slice none 0 0] 29)) 1 rfl rfl rfl rfl rfl rfl rfl rfl ?_; intro w3 h3 ht3; have HM3 := Lib.hid h3; have HB3 : Hid (Below w2.heap.size w2 w3) := Lib.hid (below_touched (below_alloc w2 _) ht3 (by simp) (Nat.le_refl _)); clear h3 ht3))
  obtain ⟨B, hB⟩ : ∃ B, B = w2.heap.size := ⟨_, rfl⟩
  rw [← hB] at HM3 HB3 ⊢
  have HBs := Lib.hid hB
  have HgB : Hid (g < B) := Lib.hid (by rw [hB]; exact HM2.out.glt 0 rfl)
  have HwB : Hid (w.heap.size ≤ B) := Lib.hid (by rw [hB]; exact HSz.out)
  clear hB
  go_wp2_with fail
  go_loopw [3, 6, 7, 8] (fun cv iv _ _ wr => ∃ (j : Nat) (ns : List Int) (v : Value), j ≤ n ∧ iv = .int .i64 ((j + 1 : Nat) : Int) ∧ cv = .bool false ∧ Hid (NumsTo rest j ns) ∧ Hid (Mem w wr [⟨g, 29, [.int .i64 0, .slice none 0 0], true⟩, ⟨B, 29, [.int .i64 k, v], true⟩]) ∧ Hid (wr.ownsRow (B + 1) 2 1 v j (ns.map (Value.int .i64))) ∧ Hid (Below B w2 wr)) (fun _ i _ _ _ => n + 1 - (RowKit.intOf i).toNat)
  case atStart => exact ⟨0, [], .slice none 0 0, Nat.zero_le _, rfl, rfl, Lib.hid (NumsTo.start _), HM3, Lib.hid ⟨rfl, .inl ⟨rfl, rfl⟩⟩, HB3⟩
  case round =>
    obtain ⟨j, ns, v, hj, rfl, rfl, HNs, HMr, HO, HBr⟩ := hrel
    obtain ⟨a1, c1, rfl, hcl, hcm⟩ := owned_form HO.out
    have d1 := HMr.out.cell 1 1 rfl rfl
    by_cases hlt : j < n
    · have hlt' : ((j + 1 : Nat) : Int) < ((n + 1 : Nat) : Int) := by omega
      have hlt2 : j + 1 < n + 1 := by omega
      have hjr : j < rest.length := by rw [← HNl.out]; exact hlt
      have hcell := ((HC2.out.below HBr.out (by rw [HBs.out]; exact Nat.le_refl _)).atMap [] (i := 0) (by simp))
      obtain ⟨b', off', hbo, _, hcell⟩ := hcell
      obtain ⟨rfl, rfl⟩ : b = b' ∧ off = off' := by simpa using hbo
      have e1 := hcell (j + 1) (by simpa using hjr)
      rw [List.getD_cons_succ] at e1
      have HSt : Hid (∀ x, numP (rest.getD j []) = some x → NumsTo rest (j + 1) (ns ++ [x])) := Lib.hid (fun x hx => HNs.out.step hjr (by rw [← hx, List.getD_eq_getElem?_getD, List.getElem?_eq_getElem hjr]; rfl))
      have HBd : Hid (numP (rest.getD j []) = none → parseL l = none) := Lib.hid (fun hx => HNo.out (HNs.out.bad hjr (by rw [← hx, List.getD_eq_getElem?_getD, List.getElem?_eq_getElem hjr]; rfl)))
      have HWl : Hid ((rest.getD j []).length ≤ 1000000000) := Lib.hid (HLen.out _ (by rw [List.getD_eq_getElem?_getD, List.getElem?_eq_getElem hjr]; exact List.getElem_mem _))
      generalize rest.getD j [] = wj at *
      clear hcell hbo hjr
      go_wp2_with fail
      refine (rnum_any wj _ HWl.out).mono ?_
      rintro e w4 ⟨rfl, hb4⟩
      have HM4 := Lib.hid (HMr.out.later hb4)
      have HO4 := Lib.hid (owned_below HO.out hb4 (Nat.le_refl _))
      have HB4 : Hid (Below B w2 w4) := Lib.hid (HBr.out.trans (hb4.mono (by have := HMr.out.glt 1 rfl; omega)))
      have d1 := HM4.out.cell 1 1 rfl rfl
      rw [← num_same]
      clear hb4
      cases hnp : numP wj with
      | none =>
        have HN := Lib.hid (HBd.out hnp)
        rw [Option.getD_none, Option.isSome_none]
        clear hnp
        go_wp2_with (first
          | (refine wpList_store_mem aggROp HM4.out 0 rfl rfl rfl rfl rfl rfl rfl rfl ?_; intro w5 h5 ht5; have HM5 := Lib.hid h5; clear h5 ht5))
        refine bodyPost_ret (results_row2 (p := 2) (u := 3) rfl _ _ _ _ _ _ _ rfl (HM5.out.exact 0 rfl) Tryd.underlying29 rfl (by kernel_rfl)) rfl ?_
        exact HP.out none none 0 _ HN.out owned_nil HM5.out.below
      | some x =>
        have HNs1 := Lib.hid (HSt.out x hnp)
        rw [Option.getD_some, Option.isSome_some]
        have hone : Hid (∀ u ∈ (#[Value.int .i64 x] : Array Value).toList, u.oneCell' = true) := Lib.hid (by intro u hu; simp at hu; subst hu; rfl)
        have hbase : Hid (B + 1 ≤ w4.heap.size) := Lib.hid (HM4.out.glt 1 rfl)
        have hj9 : j < 1000000000000 := by omega
        clear hnp
        go_wp2_with (at_builtin; refine wpList_append_new (us := #[.int .i64 x]) eli64 HO4.out rfl hone.out hj9 (by decide) hbase.out rfl rfl rfl (by simp [Act.eval]) ?_; intro g6 c6 w6 ho6 hg6 hc6 hm6 hb6 hl6; have HO6 := Lib.hid ho6; have HG6 := Lib.hid hg6; have HM6 := Lib.hid (HM4.out.grown HO4.out hg6 (by simp; have := HgB.out; omega) (by have := HwB.out; omega)); have HB6 : Hid (Below B w2 w6) := Lib.hid (below_grownBy HB4.out HO4.out hg6 (by rw [HBs.out]; exact Nat.le_refl _) (by omega)); have d6 := HM6.out.cell 1 1 rfl rfl; have f6 := HM6.out.frozen 1 1 rfl; clear ho6 hg6 hb6 hl6)
        go_roundw
        case rel => exact ⟨j + 1, ns ++ [x], _, by omega, vint (by omega), rfl, HNs1, Lib.hid (HM6.out.set 1 1 _ rfl (by simp)), Lib.hid (by rw [List.map_append]; exact ownsRow_setCell_below HO6.out (by simp) _), Lib.hid (HB6.out.setCell (Nat.le_refl _) _)⟩
        case measure => simp [RowKit.intOf]; omega
    · obtain rfl : j = n := by omega
      have hlt' : decide (((j + 1 : Nat) : Int) < ((j + 1 : Nat) : Int)) = false := by simp
      have hlt2 : decide ((j : Int) + 1 < (j : Int) + 1) = false := by simp
      have HY := Lib.hid (HYes.out ns (HNs.out.all (by rw [← HNl.out]; exact Nat.le_refl _)))
      have HLn : Hid (ns.length = j) := Lib.hid HNs.out.1
      rw [HLn.out] at HY
      have d0 := HMr.out.cell 1 0 rfl rfl
      clear hlt
      go_wp2_with fail
      refine (rright_any k a1 j c1 _ (by unfold maxLen; omega)).mono ?_
      rintro e w4 ⟨rfl, hb4⟩
      have HM4 := Lib.hid (HMr.out.later hb4)
      have HO4 := Lib.hid (owned_below HO.out hb4 (Nat.le_refl _))
      have d0 := HM4.out.cell 1 0 rfl rfl
      have d1 := HM4.out.cell 1 1 rfl rfl
      clear hb4
      cases hr : rightOp k j with
      | false =>
        have HN : Hid (parseL l = none) := Lib.hid (by rw [HY.out, hr]; rfl)
        clear hr
        go_wp2_with (first
          | (refine wpList_store_mem aggROp HM4.out 0 rfl rfl rfl rfl rfl rfl rfl rfl ?_; intro w5 h5 ht5; have HM5 := Lib.hid h5; clear h5 ht5))
        refine bodyPost_ret (results_row2 (p := 2) (u := 3) rfl _ _ _ _ _ _ _ rfl (HM5.out.exact 0 rfl) Tryd.underlying29 rfl (by kernel_rfl)) rfl ?_
        exact HP.out none none 0 _ HN.out owned_nil HM5.out.below
      | true =>
        have HN : Hid (parseL l = some (k, ns)) := Lib.hid (by rw [HY.out, hr]; rfl)
        clear hr
        go_wp2_with (first
          | (refine wpList_store_mem (cs := #[.int .i64 k, .slice a1 j c1]) aggROp HM4.out 0 rfl rfl rfl rfl rfl rfl rfl rfl ?_; intro w5 h5 ht5; have HM5 := Lib.hid h5; have HC5 := Lib.hid (owned_weak (owned_touch HO4.out ht5 (by have := HgB.out; omega))); clear h5 ht5))
        refine bodyPost_ret (results_row2 (p := 2) (u := 3) rfl _ _ _ _ _ _ _ rfl (HM5.out.exact 0 rfl) Tryd.underlying29 rfl (by kernel_rfl)) rfl ?_
        have h9 := HP.out (some (k, ns)) a1 c1 _ HN.out (by dsimp only [Option.getD_some]; rw [HLn.out]; exact HC5.out) HM5.out.below
        rw [← HLn.out]
        exact h9

end Go.Proofs.YtlaaamaaabcfeaaDoor

/- op: awake, OpReads. -/
namespace Go.Proofs.YtlaaamaaabcfeaaDoor
open Go.RowKit
set_option linter.unusedVariables false
open Go.Lib (decDigits itoa nDigits)

theorem parse_drop : parseL [100, 114, 111, 112, 32, 49, 32, 50] = some (2, [1, 2]) := by decide +kernel

set_option maxHeartbeats 1000000 in
set_option maxRecDepth 100000 in
theorem awake_any (m : Int) (w : World) (hm : w.cell? ⟨0, 0, none⟩ = some (.int .i64 m)) : Calls Tryd.prog 6 #[] w (Gives (.bool true) w) := by
  have HP : Hid (∀ (w' : World), Below w.heap.size w w' → Gives (.bool true) w (.returned (.bool true)) w') := Lib.hid (fun w' hb => ⟨rfl, hb⟩)
  generalize Gives (.bool true) w = Post at *
  have HPa := Lib.hid (parse_any [100, 114, 111, 112, 32, 49, 32, 50] m w hm (by decide))
  clear hm
  go_enter Tryd.func6, Tryd.ntmps6
  go_wp2_with fail
  refine HPa.out.mono ?_
  rintro e w1 ⟨o, a, c, ho, rfl, hc, hb1, _⟩
  rw [parse_drop] at ho
  subst ho
  dsimp only [Option.getD_some, Option.isSome_some] at hc ⊢
  have HB1 := Lib.hid hb1
  have HC := Lib.hid hc
  have HM1 := Lib.hid (Mem.one w1 #[.int .i64 0, .slice none 0 0] 25)
  clear hc hb1
  obtain ⟨b, off, rfl, e0⟩ := i64_at HC.out (i := 1) (by simp)
  go_wp2_with (refine wpList_store_mem aggOp HM1.out 0 rfl rfl rfl rfl rfl rfl rfl rfl ?_; intro w3 h3 ht3; have HM3 := Lib.hid h3; have d0 := h3.cell 0 0 rfl rfl; have d1 := h3.cell 0 1 rfl rfl; have e1 : w3.cell? ⟨b, off + 1, none⟩ = some (.int .i64 2) := (h3.below.cell (p := ⟨b, off + 1, none⟩) (World.block_lt_of_cell? _ _ e0)).trans e0; clear h3 ht3 e0)
  exact HP.out _ (HB1.out.trans (HM3.out.below.mono HB1.out.size))

set_option maxHeartbeats 4000000 in
set_option maxRecDepth 100000 in
theorem opReads_any (l : List UInt8) (m : Int) (w : World) (hm : w.cell? ⟨0, 0, none⟩ = some (.int .i64 m)) : Calls Tryd.prog 3 #[strV l] w (Gives (.bool true) w) := by
  have HP : Hid (∀ (w' : World), Below w.heap.size w w' → Gives (.bool true) w (.returned (.bool true)) w') := Lib.hid (fun w' hb => ⟨rfl, hb⟩)
  generalize Gives (.bool true) w = Post at *
  have HAw := Lib.hid (awake_any m w hm)
  have hw0 : 0 < w.heap.size := Nat.lt_of_le_of_lt (Nat.zero_le _) (World.block_lt_of_cell? _ _ hm)
  have HX : Hid (∀ w', Below w.heap.size w w' → w'.cell? ⟨0, 0, none⟩ = some (.int .i64 m)) := Lib.hid (fun w' hb => by rw [hb.cell (p := ⟨0, 0, none⟩) hw0]; exact hm)
  obtain ⟨n, hn⟩ : ∃ n, n = l.length := ⟨_, rfl⟩
  have hsz : (bstr l).size = n := by rw [bstr_size, hn]
  have HN := Lib.hid hn
  clear hm hn hw0
  go_enter Tryd.func3, Tryd.ntmps3
  go_wp2_with fail
  refine HAw.out.mono ?_
  rintro e w1 ⟨rfl, hb1⟩
  have HB1 := Lib.hid hb1
  clear hb1
  by_cases hlong : 5000 < n
  · have hl1 : (5000 : Int) < (n : Int) := by omega
    go_wp2_with fail
    exact HP.out _ HB1.out
  · have hl1 : decide ((5000 : Int) < (n : Int)) = false := by simp; omega
    have hl2 : decide (5000 < n) = false := by simp; omega
    have hn5 : n ≤ 5000 := by omega
    clear hlong
    go_wp2_with fail
    refine (parse_any l m _ (HX.out _ HB1.out) (by rw [← HN.out]; omega)).mono ?_
    rintro e w2 ⟨o, a, c, ho, rfl, hc, hb2, _⟩
    have HPo := Lib.hid ho
    have HLe : Hid ((o.getD (0, [])).2.length ≤ 600) := Lib.hid (by
      cases o with
      | none => simp
      | some q => exact (right_range (parseW_some ho).1).2.2)
    have HB2 : Hid (Below w.heap.size w w2) := Lib.hid (HB1.out.trans (hb2.mono HB1.out.size))
    have HC2 := Lib.hid hc
    have HM2 := Lib.hid (Mem.one w2 #[.int .i64 0, .slice none 0 0] 25)
    clear hc hb2 ho
    obtain ⟨q, hq⟩ : ∃ q, o.getD (0, []) = q := ⟨_, rfl⟩
    have HQ := Lib.hid hq
    rw [hq] at HC2 HLe ⊢
    obtain ⟨k, ns⟩ := q
    dsimp only at HC2 HLe ⊢
    obtain ⟨j, hj⟩ : ∃ j, ns.length = j := ⟨_, rfl⟩
    have HJ := Lib.hid hj
    rw [hj] at HLe ⊢
    clear hj hq
    obtain ⟨ok, hok⟩ : ∃ ok, o.isSome = ok := ⟨_, rfl⟩
    have HOk := Lib.hid hok
    rw [hok]
    clear hok
    obtain ⟨ec, hec⟩ : ∃ ec : Int, (if ok = true then (0 : Int) else 30) = ec := ⟨_, rfl⟩
    have HEc := Lib.hid hec
    rw [hec]
    clear hec
    go_wp2_with (refine wpList_store_mem aggOp HM2.out 0 rfl rfl rfl rfl rfl rfl rfl rfl ?_; intro w3 h3 ht3; have HM3 := Lib.hid h3; clear h3 ht3)
    have HB3 : Hid (Below w.heap.size w w3) := Lib.hid (HB2.out.trans (HM3.out.below.mono HB2.out.size))
    refine (rparse_any l _ (by rw [← HN.out]; omega)).mono ?_
    rintro e w4 ⟨o', a', c', ho, rfl, hc, hb4, _⟩
    obtain rfl : o = o' := HPo.out.symm.trans ho
    rw [HQ.out] at hc ⊢
    rw [HOk.out]
    dsimp only at hc ⊢
    rw [HJ.out]
    have HC4 := Lib.hid hc
    have HM4 := Lib.hid ((HM3.out.later hb4).alloc #[.int .i64 0, .slice none 0 0] 29)
    clear hc hb4 ho
    go_wp2_with (refine wpList_store_mem aggROp HM4.out 1 rfl rfl rfl rfl rfl rfl rfl rfl ?_; intro w5 h5 ht5; have HM5 := Lib.hid h5; have HB5 : Hid (Below w4.heap.size w4 w5) := Lib.hid (below_touched (below_alloc w4 _) ht5 (by simp) (Nat.le_refl _)); clear h5 ht5)
    refine (pnum_any l _ (by rw [← HN.out]; omega)).mono ?_
    rintro e w6 ⟨rfl, rfl⟩
    go_wp2_with fail
    refine (rnum_any l _ (by rw [← HN.out]; omega)).mono ?_
    rintro e w7 ⟨rfl, hb7⟩
    have HM7 := Lib.hid (HM5.out.later hb7)
    have HB7 : Hid (Below w.heap.size w w7) := Lib.hid (HB2.out.trans (HM7.out.below.mono HB2.out.size))
    have HCa : Hid (Cells w7 a (ns.map (Value.int .i64))) := Lib.hid (HC2.out.below HM7.out.below (Nat.le_refl _))
    have HCb : Hid (Cells w7 a' (ns.map (Value.int .i64))) := Lib.hid ((HC4.out.below HB5.out (Nat.le_refl _)).below hb7 (Nat.le_refl _))
    rw [← num_same]
    generalize (numP l).getD 0 = x at *
    generalize (numP l).isSome = y at *
    clear hb7
    go_upto_region 9 with fail
    have d0 := HM7.out.cell 0 0 rfl rfl
    have d1 := HM7.out.cell 0 1 rfl rfl
    have d2 := HM7.out.cell 1 0 rfl rfl
    have d3 := HM7.out.cell 1 1 rfl rfl
    have r0 := fun x => later_cell d0 x
    have r1 := fun x => later_cell d1 x
    have r2 := fun x => later_cell d2 x
    have r3 := fun x => later_cell d3 x
    have hec2 : (ok = true ∧ ec = 0) ∨ (ok = false ∧ ec = 30) := by have := HEc.out; cases ok <;> simp_all
    rcases hec2 with ⟨rfl, rfl⟩ | ⟨rfl, rfl⟩
    all_goals
      refine wp_region_seg (C := fun w' => ∃ x : Later (w7), w' = x.val) [.fl [0, 1, 2], .sq [3, 4, 5, 6, 7, 8, 9, 10, 11] false, .fl [12, 14], .sq [13] true, .sq [15, 16, 17] false, .fl [18, 19], .sq [20, 21, 22] false, .fl [23, 24], .sq [25, 26, 27] false] (by kernel_rfl) (by kernel_rfl) (by intro c a d v w h; cases d <;> exact h) ?_
      simp only [segs, picks, List.getElem?_cons_succ, List.getElem?_cons_zero]
      have hC1 := later_drew (w7)
      refine wpSeg_fl hC1 ?_
      repeat (first | go_big_quiet_step (fail) | quiet_step (fail))
      refine wpQuiet_nil ?_
      refine wpSeg_sq (fun K hK => ?_)
      go_wp2_with fail
      go_wp2_with fail
      refine hK _ _ (fun h => nomatch h) ?_
      clear hK K
      refine wpSeg_fl hC1 ?_
      repeat (first | go_big_quiet_step (fail) | quiet_step (fail))
      refine wpQuiet_nil ?_
      refine wpSeg_sq (fun K hK => ?_)
      go_wp2_with fail
      refine (ref_any k a j c _).mono ?_
      rintro e w8 ⟨rfl, hb8⟩
      have hC2 := later_step hC1 hb8
      go_wp2_with fail
      refine hK _ _ (fun _ => hC2) ?_
      clear hK K
      refine wpSeg_sq (fun K hK => ?_)
      go_wp2_with fail
      refine (same_any k a a' j c c' ns HJ.out _ (HCa.out.below (later_below hC2) (Nat.le_refl _)) (HCb.out.below (later_below hC2) (Nat.le_refl _)) (by have := HLe.out; unfold maxLen; omega)).mono ?_
      rintro e w9 ⟨rfl, hb9⟩
      have hC3 := later_step hC2 hb9
      go_wp2_with fail
      refine hK _ _ (fun h => nomatch h) ?_
      clear hK K
      refine wpSeg_fl hC3 ?_
      repeat (first | go_big_quiet_step (fail) | quiet_step (fail))
      refine wpQuiet_nil ?_
      refine wpSeg_sq (fun K hK => ?_)
      go_wp2_with fail
      go_wp2_with fail
      refine hK _ _ (fun h => nomatch h) ?_
      clear hK K
      refine wpSeg_fl hC3 ?_
      repeat (first | go_big_quiet_step (fail) | quiet_step (fail))
      refine wpQuiet_nil ?_
      refine wpSeg_last ?_
      go_wp2_with fail
      exact HP.out _ (HB7.out.trans ((later_below hC3).mono HB7.out.size))

end Go.Proofs.YtlaaamaaabcfeaaDoor

/- op: the document's Line. -/
namespace Go.Proofs.YtlaaamaaabcfeaaDoor
open Go.RowKit
set_option linter.unusedVariables false
open Go.Lib (decDigits itoa nDigits)

set_option maxHeartbeats 4000000 in
set_option maxRecDepth 100000 in
theorem rline_any (k : Int) (a : Option Addr) (n c : Nat) (ns : List Int) (hn : ns.length = n) (hin : ∀ x ∈ ns, In64 x) (w : World) (hc : Cells w a (ns.map (Value.int .i64))) (hnm : n ≤ maxLen) :
    Calls Tryd.prog 16 #[opV k a n c] w (Gives (strV (lineOf k ns)) w) := by
  have HM := Lib.hid (Mem.one w #[.int .i64 k, .slice a n c] 29)
  have HP : Hid (∀ (l : List UInt8) (w' : World), lineOf k ns = l → Below w.heap.size w w' → Gives (strV (lineOf k ns)) w (.returned (strV l)) w') := Lib.hid (fun s w' h hb => by subst h; exact ⟨rfl, hb⟩)
  generalize Gives (strV (lineOf k ns)) w = Post at *
  have HC := Lib.hid hc
  have HN := Lib.hid hn
  have HIn := Lib.hid hin
  have HNm := Lib.hid hnm
  unfold maxLen at hnm
  clear hc hn hin
  go_enter Tryd.func16, Tryd.ntmps16
  go_upto_region 1 with fail
  generalize w.alloc _ = w0 at *
  obtain ⟨g, hg⟩ : ∃ g, g = w.heap.size := ⟨_, rfl⟩
  rw [← hg] at HM ⊢
  clear hg
  have d0 := HM.out.cell 0 0 rfl rfl
  have d1 := HM.out.cell 0 1 rfl rfl
  go_wp2_with fail
  refine (rright_any k a n c _ HNm.out).mono ?_
  rintro e w1 ⟨rfl, hb1⟩
  have HM1 := Lib.hid (HM.out.later hb1)
  have d0 := HM1.out.cell 0 0 rfl rfl
  have d1 := HM1.out.cell 0 1 rfl rfl
  clear hb1
  cases hr : rightOp k n with
  | false =>
    have HL : Hid (lineOf k ns = []) := Lib.hid (by unfold lineOf; rw [HN.out, hr]; rfl)
    clear hr
    go_wp2_with fail
    exact HP.out [] _ HL.out HM1.out.below
  | true =>
    have HL : Hid (lineOf k ns = lineL (wordOf k) ns) := Lib.hid (by unfold lineOf; rw [HN.out, hr]; rfl)
    obtain ⟨hk1, hk2, h600⟩ := right_range hr
    obtain ⟨m, rfl⟩ := Int.eq_ofNat_of_zero_le (show 0 ≤ k by omega)
    have hm2 : m < 22 := by omega
    clear hr
    go_wp2_with fail
    refine (rwords_any _).mono ?_
    rintro e w2 ⟨g1, g2, rfl, hr1, hr2, hb2⟩
    have HM2 := Lib.hid (HM1.out.later hb2)
    have d0 := HM2.out.cell 0 0 rfl rfl
    have d1 := HM2.out.cell 0 1 rfl rfl
    have d2 : w2.cell? ⟨g1, m, none⟩ = some (strV (wordOf (m : Int))) := hr1.cell (words_at m hm2).1
    have HWl := Lib.hid (word_len (m : Int))
    generalize wordOf (m : Int) = wd at *
    clear hb2 hr1 hr2
    go_wp2_with fail
    go_loopw [5, 6] (fun sv iv wr => ∃ (j : Nat) (t : List UInt8), j ≤ n ∧ iv = .int .i64 (j : Int) ∧ sv = .string (bstr t) ∧ Hid (t = lineL wd (ns.take j)) ∧ Below w2.heap.size w2 wr) (fun _ iv _ => n - (RowKit.intOf iv).toNat)
    case atStart => exact ⟨0, wd, Nat.zero_le _, rfl, rfl, Lib.hid (by simp [lineL]), Below.refl _ _⟩
    case round =>
      obtain ⟨j, t, hj, rfl, rfl, HT, hb⟩ := hrel
      have HMr := Lib.hid (HM2.out.later hb)
      have d1 := HMr.out.cell 0 1 rfl rfl
      have HB2 := Lib.hid hb
      have HB := Lib.hid HMr.out.below
      clear hb
      by_cases hlt : j < n
      · have hlt' : (j : Int) < (n : Int) := by omega
        obtain ⟨b, off, rfl, e0⟩ := i64_at (HC.out.below HB.out (Nat.le_refl _)) (i := j) (by rw [HN.out]; exact hlt)
        have hx64 : In64 (ns.getD j 0) := HIn.out _ (by rw [List.getD_eq_getElem?_getD, List.getElem?_eq_getElem (by rw [HN.out]; exact hlt)]; exact List.getElem_mem _)
        have HX := Lib.hid hx64
        have HT1 : Hid (t ++ (32 :: itoa (ns.getD j 0)) = lineL wd (ns.take (j + 1))) := Lib.hid (by rw [take_next (by rw [HN.out]; exact hlt), lineL_snoc, HT.out])
        have htl : (bstr t).size ≤ 20000 := by
          rw [bstr_size, HT.out]
          have := lineL_len wd (ns.take j) (fun x hx => HIn.out x (List.mem_of_mem_take hx))
          have := HWl.out
          have := List.length_take_le j ns
          omega
        have HIl := Lib.hid (itoa_len hx64)
        generalize ns.getD j 0 = x at *
        have hs1 : (bstr (t ++ [32])).size ≤ 20001 := by rw [bstr_size] at htl ⊢; rw [List.length_append]; simp; omega
        have ha1 : bstr t ++ ({ data := #[32] } : ByteArray) = bstr (t ++ [32]) := bstr_append t [32]
        clear hx64
        go_wp2_with fail
        refine (rtext_any x HX.out _).mono ?_
        rintro e w3 ⟨rfl, hb3⟩
        have HB3 : Hid (Below w2.heap.size w2 w3) := Lib.hid (HB2.out.trans (hb3.mono HB2.out.size))
        generalize itoa x = q at *
        have hql : (bstr q).size ≤ 21 := by rw [bstr_size]; exact HIl.out
        have ha2 : bstr (t ++ [32]) ++ bstr q = bstr (t ++ (32 :: q)) := by rw [bstr_append (t ++ [32]) q]; simp
        clear hb3
        go_wp2_with fail
        go_roundw
        case rel => exact ⟨j + 1, t ++ (32 :: q), by omega, vint (by omega), rfl, HT1, HB3.out⟩
        case measure => simp [RowKit.intOf]; omega
      · obtain rfl : j = n := by omega
        have hlt' : decide ((j : Int) < (j : Int)) = false := by simp
        have HE : Hid (lineL wd ns = t) := Lib.hid (by rw [HT.out, List.take_of_length_le (by rw [HN.out]; exact Nat.le_refl _)])
        clear hlt
        go_wp2_with fail
        exact HP.out t _ (by rw [HL.out, HE.out]) HB.out

end Go.Proofs.YtlaaamaaabcfeaaDoor

/- op: OpLines. -/
namespace Go.Proofs.YtlaaamaaabcfeaaDoor
open Go.RowKit
set_option linter.unusedVariables false
open Go.Lib (decDigits itoa nDigits)

theorem lineOf_len {k : Int} {ns : List Int} (hin : ∀ x ∈ ns, In64 x) (hn : ns.length ≤ 700) : (lineOf k ns).length ≤ 20000 := by
  unfold lineOf
  split
  · have := lineL_len (wordOf k) ns hin
    have := word_len k
    omega
  · simp
theorem lineOf_parse {k : Int} {ns : List Int} (hin : ∀ x ∈ ns, In64 x) : parseL (lineOf k ns) = if rightOp k ns.length then some (k, ns) else none := by
  unfold lineOf
  split
  · rename_i h; exact parse_line h hin
  · exact parse_nil
theorem clamp_eq (x : Int) : min (max x (-1099511627776)) 1099511627776 = clampI x := by unfold clampI; omega

set_option maxHeartbeats 8000000 in
set_option maxRecDepth 100000 in
theorem opLines_any (k : Int) (a : Option Addr) (n c : Nat) (ns : List Int) (hn : ns.length = n) (hin : ∀ x ∈ ns, In64 x) (i : Int) (s : List UInt8) (m : Int) (w : World) (hc : Cells w a (ns.map (Value.int .i64))) (hnm : n ≤ maxLen) (hm : w.cell? ⟨0, 0, none⟩ = some (.int .i64 m)) :
    Calls Tryd.prog 4 #[opV k a n c, .int .i64 i, strV s] w (Gives (.bool true) w) := by
  have HM := Lib.hid (Mem.one w #[.int .i64 k, .slice a n c] 25)
  have HP : Hid (∀ (w' : World), Below w.heap.size w w' → Gives (.bool true) w (.returned (.bool true)) w') := Lib.hid (fun w' hb => ⟨rfl, hb⟩)
  generalize Gives (.bool true) w = Post at *
  have hw0 : 0 < w.heap.size := Nat.lt_of_le_of_lt (Nat.zero_le _) (World.block_lt_of_cell? _ _ hm)
  have HX : Hid (∀ w', Below w.heap.size w w' → w'.cell? ⟨0, 0, none⟩ = some (.int .i64 m)) := Lib.hid (fun w' hb => by rw [hb.cell (p := ⟨0, 0, none⟩) hw0]; exact hm)
  have HC := Lib.hid hc
  have HN := Lib.hid hn
  have HIn := Lib.hid hin
  have HNm := Lib.hid hnm
  unfold maxLen at hnm
  clear hc hn hin hm hw0
  go_enter Tryd.func4, Tryd.ntmps4
  go_upto_region 1 with fail
  generalize w.alloc _ = w0 at *
  obtain ⟨g, hg⟩ : ∃ g, g = w.heap.size := ⟨_, rfl⟩
  rw [← hg] at HM ⊢
  clear hg
  go_wp2_with fail
  refine (awake_any m _ (HX.out _ HM.out.below)).mono ?_
  rintro e w1 ⟨rfl, hb1⟩
  have HM1 := Lib.hid (HM.out.later hb1)
  have d0 := HM1.out.cell 0 0 rfl rfl
  have d1 := HM1.out.cell 0 1 rfl rfl
  clear hb1
  by_cases hlong : 700 < n
  · have hl1 : (700 : Int) < (n : Int) := by omega
    go_wp2_with fail
    exact HP.out _ HM1.out.below
  · have hl1 : decide ((700 : Int) < (n : Int)) = false := by simp; omega
    have hl2 : decide (700 < n) = false := by simp; omega
    have hn7 : n ≤ 700 := by omega
    clear hlong
    go_wp2_with fail
    refine (line_any k a n c ns HN.out HIn.out _ (HC.out.below HM1.out.below (Nat.le_refl _)) HNm.out).mono ?_
    rintro e w2 ⟨rfl, hb2⟩
    have HM2 := Lib.hid (HM1.out.later hb2)
    clear hb2 d0 d1
    have HPa := Lib.hid (parse_any (lineOf k ns) m w2 (HX.out _ HM2.out.below) (by have := lineOf_len (k := k) HIn.out (by rw [HN.out]; exact hn7); omega))
    have HLP := Lib.hid (lineOf_parse (k := k) HIn.out)
    have HRl := Lib.hid (fun w' h1 => rline_any k a n c ns HN.out HIn.out w' h1 HNm.out)
    have HLi := Lib.hid (fun w' h1 => line_any k a n c ns HN.out HIn.out w' h1 HNm.out)
    rw [HN.out] at HLP
    generalize lineOf k ns = L at *
    go_wp2_with fail
    refine HPa.out.mono ?_
    rintro e w3 ⟨o, a2, c2, ho, rfl, hc2, hb3, _⟩
    have HM3 := Lib.hid (HM2.out.later hb3)
    have HC3 := Lib.hid hc2
    obtain ⟨r, hr⟩ : ∃ r, rightOp k n = r := ⟨_, rfl⟩
    have HR := Lib.hid hr
    have HO : Hid (o = if r = true then some (k, ns) else none) := Lib.hid (by rw [← ho, HLP.out, hr])
    clear hc2 hb3 ho hr HPa
    obtain ⟨oi, hoi⟩ : ∃ oi, o.isSome = oi := ⟨_, rfl⟩
    obtain ⟨ec, hec⟩ : ∃ ec : Int, (if oi = true then (0 : Int) else 30) = ec := ⟨_, rfl⟩
    have HEc : Hid ((r = true ∧ ec = 0) ∨ (r = false ∧ ec = 30)) := Lib.hid (by rw [← hec, ← hoi, HO.out]; cases r <;> simp)
    dsimp only
    rw [hoi, hec]
    clear hec hoi
    obtain ⟨q, hq⟩ : ∃ q, o.getD (0, []) = q := ⟨_, rfl⟩
    have HQ : Hid (r = true → q = (k, ns)) := Lib.hid (fun h => by rw [← hq, HO.out, if_pos h]; rfl)
    rw [hq] at HC3 ⊢
    clear hq
    obtain ⟨k2, ns2⟩ := q
    dsimp only at HC3 ⊢
    obtain ⟨n2, hn2⟩ : ∃ n2, ns2.length = n2 := ⟨_, rfl⟩
    have HN2 := Lib.hid hn2
    rw [hn2]
    clear hn2
    go_upto_region 6 with (refine wpList_store_mem aggOp (HM3.out.alloc #[.int .i64 0, .slice none 0 0] 25) 1 rfl rfl rfl rfl rfl rfl rfl rfl ?_; intro w4 h4 ht4; have HM4 := Lib.hid h4; have HB4 : Hid (Below w3.heap.size w3 w4) := Lib.hid (below_touched (below_alloc w3 _) ht4 (by simp) (Nat.le_refl _)); clear h4 ht4)
    have HC4 := Lib.hid (HC3.out.below HB4.out (Nat.le_refl _))
    obtain ⟨g3, hg3⟩ : ∃ g3, g3 = w3.heap.size := ⟨_, rfl⟩
    rw [← hg3] at HM4 ⊢
    clear hg3
    have d0 := HM4.out.cell 0 0 rfl rfl
    have d1 := HM4.out.cell 0 1 rfl rfl
    go_wp2_with fail
    refine (ref_any k a n c _).mono ?_
    rintro e w5 ⟨rfl, hb5⟩
    go_wp2_with fail
    refine (rright_any k a n c _ HNm.out).mono ?_
    rintro e w6 ⟨rfl, hb6⟩
    have HM6 := Lib.hid ((HM4.out.later hb5).later hb6)
    have HC6 := Lib.hid ((HC4.out.below hb5 (Nat.le_refl _)).below hb6 (Nat.le_refl _))
    have HCa : Hid (Cells w6 a (ns.map (Value.int .i64))) := Lib.hid (HC.out.below HM6.out.below (Nat.le_refl _))
    rw [HR.out]
    clear hb5 hb6 d0 d1
    have d0 := HM6.out.cell 0 0 rfl rfl
    have d1 := HM6.out.cell 0 1 rfl rfl
    have d2 := HM6.out.cell 1 0 rfl rfl
    have d3 := HM6.out.cell 1 1 rfl rfl
    go_upto_region 7 with fail
    go_cut [57] from 14 (fun v wc => v = .bool false ∧ Below w6.heap.size w6 wc)
    case first =>
      have r0 := fun x => later_cell d0 x
      have r1 := fun x => later_cell d1 x
      have r2 := fun x => later_cell d2 x
      have r3 := fun x => later_cell d3 x
      have heq := str_eq (rfl : L = L)
      have hne : ((bstr L).toList != (bstr L).toList) = false := by simp
      have hc2 := HEc.out
      rcases hc2 with ⟨rfl, rfl⟩ | ⟨rfl, rfl⟩
      · have hq := HQ.out rfl
        injection hq with hq1 hq2
        subst hq1
        subst hq2
        obtain rfl : n = n2 := HN.out.symm.trans HN2.out
        refine wp_region_seg (C := fun w' => ∃ x : Later (w6), w' = x.val) [.fl [0, 2], .sq [1] true, .sq [3, 4] false, .fl [5, 7], .sq [6] true, .sq [8, 9, 10, 11, 12] false, .fl [13, 14, 15], .sq [16, 17, 18, 19, 20] false, .fl [21, 23], .sq [22] true, .sq [24, 25, 26, 27, 28] false] (by kernel_rfl) (by kernel_rfl) (by intro c a d v w h; cases d <;> exact h) ?_
        simp only [segs, picks, List.getElem?_cons_succ, List.getElem?_cons_zero]
        have hC1 := later_drew (w6)
        refine wpSeg_fl hC1 ?_
        repeat (first | go_big_quiet_step (fail) | quiet_step (fail))
        refine wpQuiet_nil ?_
        refine wpSeg_sq (fun K hK => ?_)
        go_wp2_with fail
        refine (right_any k2 a n c _ HNm.out).mono ?_
        rintro e w7 ⟨rfl, hb7⟩
        rw [HR.out]
        have hC2 := later_step hC1 hb7
        go_wp2_with fail
        refine hK _ _ (fun _ => hC2) ?_
        clear hK K
        refine wpSeg_sq (fun K hK => ?_)
        go_wp2_with fail
        go_wp2_with fail
        refine hK _ _ (fun h => nomatch h) ?_
        clear hK K
        refine wpSeg_fl hC2 ?_
        repeat (first | go_big_quiet_step (fail) | quiet_step (fail))
        refine wpQuiet_nil ?_
        refine wpSeg_sq (fun K hK => ?_)
        go_wp2_with fail
        refine (HLi.out _ (HCa.out.below (later_below hC2) (Nat.le_refl _))).mono ?_
        rintro e w8 ⟨rfl, hb8⟩
        have hC3 := later_step hC2 hb8
        go_wp2_with fail
        refine hK _ _ (fun _ => hC3) ?_
        clear hK K
        refine wpSeg_sq (fun K hK => ?_)
        go_wp2_with fail
        refine (ref_any k2 a n c _).mono ?_
        rintro e w9 ⟨rfl, hb9⟩
        have hC4 := later_step hC3 hb9
        go_wp2_with fail
        refine (HRl.out _ (HCa.out.below (later_below hC4) (Nat.le_refl _))).mono ?_
        rintro e w10 ⟨rfl, hb10⟩
        have hC5 := later_step hC4 hb10
        go_wp2_with fail
        refine hK _ _ (fun h => nomatch h) ?_
        clear hK K
        refine wpSeg_fl hC5 ?_
        repeat (first | go_big_quiet_step (fail) | quiet_step (fail))
        refine wpQuiet_nil ?_
        refine wpSeg_sq (fun K hK => ?_)
        go_wp2_with fail
        go_wp2_with fail
        refine hK _ _ (fun h => nomatch h) ?_
        clear hK K
        refine wpSeg_fl hC5 ?_
        repeat (first | go_big_quiet_step (fail) | quiet_step (fail))
        refine wpQuiet_nil ?_
        refine wpSeg_sq (fun K hK => ?_)
        go_wp2_with fail
        refine (ref_any k2 a2 n c2 _).mono ?_
        rintro e w11 ⟨rfl, hb11⟩
        have hC6 := later_step hC5 hb11
        go_wp2_with fail
        refine hK _ _ (fun _ => hC6) ?_
        clear hK K
        refine wpSeg_last ?_
        go_wp2_with fail
        refine (ref_any k2 a n c _).mono ?_
        rintro e w12 ⟨rfl, hb12⟩
        have hC7 := later_step hC6 hb12
        go_wp2_with fail
        refine (same_any k2 a2 a n c2 c ns2 HN2.out _ (HC6.out.below (later_below hC7) (Nat.le_refl _)) (HCa.out.below (later_below hC7) (Nat.le_refl _)) HNm.out).mono ?_
        rintro e w13 ⟨rfl, hb13⟩
        have hC8 := later_step hC7 hb13
        go_wp2_with fail
        go_meet
        case rel => exact ⟨rfl, later_below hC8⟩
      · refine wp_region_seg (C := fun w' => ∃ x : Later (w6), w' = x.val) [.fl [0, 2], .sq [1] true, .sq [3, 4] false, .fl [5, 7], .sq [6] true, .sq [8, 9, 10, 11, 12] false, .fl [13, 14, 15], .sq [16, 17, 18, 19, 20] false, .fl [21, 23], .sq [22] true, .sq [24, 25, 26, 27, 28] false] (by kernel_rfl) (by kernel_rfl) (by intro c a d v w h; cases d <;> exact h) ?_
        simp only [segs, picks, List.getElem?_cons_succ, List.getElem?_cons_zero]
        have hC1 := later_drew (w6)
        refine wpSeg_fl hC1 ?_
        repeat (first | go_big_quiet_step (fail) | quiet_step (fail))
        refine wpQuiet_nil ?_
        refine wpSeg_sq (fun K hK => ?_)
        go_wp2_with fail
        refine (right_any k a n c _ HNm.out).mono ?_
        rintro e w7 ⟨rfl, hb7⟩
        rw [HR.out]
        have hC2 := later_step hC1 hb7
        go_wp2_with fail
        refine hK _ _ (fun _ => hC2) ?_
        clear hK K
        refine wpSeg_sq (fun K hK => ?_)
        go_wp2_with fail
        go_wp2_with fail
        refine hK _ _ (fun h => nomatch h) ?_
        clear hK K
        refine wpSeg_fl hC2 ?_
        repeat (first | go_big_quiet_step (fail) | quiet_step (fail))
        refine wpQuiet_nil ?_
        refine wpSeg_sq (fun K hK => ?_)
        go_wp2_with fail
        refine (HLi.out _ (HCa.out.below (later_below hC2) (Nat.le_refl _))).mono ?_
        rintro e w8 ⟨rfl, hb8⟩
        have hC3 := later_step hC2 hb8
        go_wp2_with fail
        refine hK _ _ (fun _ => hC3) ?_
        clear hK K
        refine wpSeg_sq (fun K hK => ?_)
        go_wp2_with fail
        refine (ref_any k a n c _).mono ?_
        rintro e w9 ⟨rfl, hb9⟩
        have hC4 := later_step hC3 hb9
        go_wp2_with fail
        refine (HRl.out _ (HCa.out.below (later_below hC4) (Nat.le_refl _))).mono ?_
        rintro e w10 ⟨rfl, hb10⟩
        have hC5 := later_step hC4 hb10
        go_wp2_with fail
        refine hK _ _ (fun h => nomatch h) ?_
        clear hK K
        refine wpSeg_fl hC5 ?_
        repeat (first | go_big_quiet_step (fail) | quiet_step (fail))
        refine wpQuiet_nil ?_
        refine wpSeg_sq (fun K hK => ?_)
        go_wp2_with fail
        go_wp2_with fail
        refine hK _ _ (fun h => nomatch h) ?_
        clear hK K
        refine wpSeg_fl hC5 ?_
        repeat (first | go_big_quiet_step (fail) | quiet_step (fail))
        refine wpQuiet_nil ?_
        refine wpSeg_sq (fun K hK => ?_)
        go_wp2_with fail
        go_wp2_with fail
        refine hK _ _ (fun _ => hC5) ?_
        clear hK K
        refine wpSeg_last ?_
        go_wp2_with fail
        go_meet
        case rel => exact ⟨rfl, later_below hC5⟩
    case rest =>
      obtain ⟨rfl, hb7⟩ := hcut
      have HM7 := Lib.hid (HM6.out.later hb7)
      clear hb7 d0 d1 d2 d3
      go_wp2_with fail
      refine (rwords_any _).mono ?_
      rintro e w8 ⟨g1, g2, rfl, hr1, hr2, hb8⟩
      have HM8 := Lib.hid (HM7.out.later hb8)
      have HR1 := Lib.hid hr1
      have HC8 : Hid (Cells w8 a (ns.map (Value.int .i64))) := Lib.hid (HC.out.below HM8.out.below (Nat.le_refl _))
      clear hr1 hr2 hb8
      go_upto_region 11 with fail
      go_cut [69] from 14 (fun v w9 => ∃ b, v = .bool b ∧ (b = true ↔ 0 ≤ i ∧ i < 22) ∧ w9 = w8)
      case first =>
        by_cases h1 : i < 0
        · go_wp2_with fail
          go_meet
          case rel => exact ⟨false, rfl, by simp; omega, rfl⟩
        · have h1' : 0 ≤ i := by omega
          by_cases h2 : i < 22
          · clear h1
            go_wp2_with fail
            go_meet
            case rel => exact ⟨true, rfl, by simp; omega, rfl⟩
          · have h2' : decide (i < 22) = false := by simp; omega
            clear h1
            go_wp2_with fail
            go_meet
            case rel => exact ⟨false, rfl, by simp; omega, rfl⟩
      case rest =>
       obtain ⟨b, rfl, hb, rfl⟩ := hcut
       have HBi := Lib.hid hb
       clear hb
       go_upto_if 69 with fail
       go_cut [10] from 14 (fun v w10 => v = strV (wordOf i) ∧ w10 = wc)
       case first =>
        cases b with
        | false =>
          have HWn : Hid (wordOf i = []) := Lib.hid (word_no (by have := HBi.out; simp at this; omega))
          go_wp2_with fail
          go_meet
          case rel => exact ⟨by rw [HWn.out]; rfl, rfl⟩
        | true =>
          have hi := HBi.out.1 rfl
          obtain ⟨j, rfl⟩ := Int.eq_ofNat_of_zero_le hi.1
          have hj2 : j < 22 := by omega
          have hj3 : (j : Int) < 22 := by omega
          have d2 : wc.cell? ⟨g1, j, none⟩ = some (strV (wordOf (j : Int))) := HR1.out.cell (words_at j hj2).1
          generalize wordOf (j : Int) = wd at *
          clear hi
          go_wp2_with fail
          go_meet
          case rel => exact ⟨rfl, rfl⟩
       case rest =>
        obtain ⟨rfl, rfl⟩ := hcut
        clear HBi b
        have d0 := HM8.out.cell 0 0 rfl rfl
        have d1 := HM8.out.cell 0 1 rfl rfl
        have HWd := Lib.hid (fun w' => word_any i w')
        generalize wordOf i = wd at *
        go_upto_region 14 with fail
        go_cut [82] from 14 (fun v w11 => ∃ b, v = .bool b ∧ (b = true ↔ 0 ≤ i ∧ i < n) ∧ w11 = wc)
        case first =>
          by_cases h1 : i < 0
          · go_wp2_with fail
            go_meet
            case rel => exact ⟨false, rfl, by simp; omega, rfl⟩
          · have h1' : 0 ≤ i := by omega
            by_cases h2 : i < (n : Int)
            · clear h1
              go_wp2_with fail
              go_meet
              case rel => exact ⟨true, rfl, by simp; omega, rfl⟩
            · have h2' : decide (i < (n : Int)) = false := by simp; omega
              clear h1
              go_wp2_with fail
              go_meet
              case rel => exact ⟨false, rfl, by simp; omega, rfl⟩
        case rest =>
         obtain ⟨b, rfl, hb, rfl⟩ := hcut
         have HBi := Lib.hid hb
         clear hb
         go_upto_if 82 with fail
         go_cut [13] from 14 (fun v w12 => v = .int .i64 (intAt ns i) ∧ w12 = wc)
         case first =>
          cases b with
          | false =>
            have HI : Hid (intAt ns i = 0) := Lib.hid (by unfold intAt; rw [HN.out, if_pos (by have := HBi.out; simp at this; omega)])
            go_wp2_with fail
            go_meet
            case rel => exact ⟨by rw [HI.out], rfl⟩
          | true =>
            have hi := HBi.out.1 rfl
            obtain ⟨j, rfl⟩ := Int.eq_ofNat_of_zero_le hi.1
            have hj2 : j < n := by omega
            have hj3 : (j : Int) < (n : Int) := by omega
            obtain ⟨b, off, rfl, e0⟩ := i64_at HC8.out (i := j) (by rw [HN.out]; exact hj2)
            have HI : Hid (intAt ns (j : Int) = clampI (ns.getD j 0)) := Lib.hid (by unfold intAt; rw [HN.out, if_neg (by omega)]; rfl)
            generalize ns.getD j 0 = x at *
            clear hi
            go_wp2_with fail
            go_meet
            case rel => exact ⟨by rw [HI.out, ← clamp_eq], rfl⟩
         case rest =>
          obtain ⟨rfl, rfl⟩ := hcut
          have HIa := Lib.hid (fun w' h => int_any k a n c ns HN.out i w' h HNm.out)
          generalize intAt ns i = y at *
          have heq := str_eq (rfl : wd = wd)
          have hyy : (y == y) = true := by simp
          go_wp2_with fail
          refine (HWd.out _).mono ?_
          rintro e w11 ⟨rfl, hb11⟩
          have HM11 := Lib.hid (HM8.out.later hb11)
          go_wp2_with fail
          refine (kind_any s _).mono ?_
          rintro e w12 ⟨rfl, hb12⟩
          have HM12 := Lib.hid (HM11.out.later hb12)
          go_wp2_with fail
          refine (rkind_any s _).mono ?_
          rintro e w13 ⟨rfl, hb13⟩
          have HM13 := Lib.hid (HM12.out.later hb13)
          have d0 := HM13.out.cell 0 0 rfl rfl
          have d1 := HM13.out.cell 0 1 rfl rfl
          have hkk : (((kindOf s : Nat) : Int) == ((kindOf s : Nat) : Int)) = true := by simp
          generalize ((kindOf s : Nat) : Int) = kk at *
          clear hb11 hb12 hb13
          go_wp2_with fail
          refine (HIa.out _ (HC.out.below HM13.out.below (Nat.le_refl _))).mono ?_
          rintro e w14 ⟨rfl, hb14⟩
          have HM14 := Lib.hid (HM13.out.later hb14)
          clear hb14
          go_wp2_with fail
          exact HP.out _ HM14.out.below

end Go.Proofs.YtlaaamaaabcfeaaDoor

/- What the walk is told of a slice of unsigned numbers that came in, as cells. -/
namespace Go.Proofs.YtlaaamaaabcfeaaDoor
open Go.RowKit
set_option linter.unusedVariables false

theorem wf_u64 {z : Int} (h : (Lit.int .u64 z).wf = true) : 0 ≤ z ∧ z < 18446744073709551616 := by
  simp [Lit.wf, IntKind.min, IntKind.max, IntKind.signed, IntKind.bits] at h; omega
theorem wf_u8 {z : Int} (h : (Lit.int .u8 z).wf = true) : 0 ≤ z ∧ z < 256 := by
  simp [Lit.wf, IntKind.min, IntKind.max, IntKind.signed, IntKind.bits] at h; omega
theorem wf_i64 {z : Int} (h : (Lit.int .i64 z).wf = true) : -9223372036854775808 ≤ z ∧ z ≤ 9223372036854775807 := by
  simp [Lit.wf, IntKind.min, IntKind.max, IntKind.signed, IntKind.bits] at h; omega

/-- A row of numbers that came in, its first len elements. -/
theorem row_ints {k : IntKind} {w : World} {a : Option Addr} {len cap : Nat} {zs : List Int}
    (h : (a = none ∧ len = 0 ∧ cap = 0 ∧ zs = []) ∨ ∃ x, a = some x ∧ len ≤ cap ∧ cap ≤ maxLen ∧ zs.length = cap ∧ (∀ i, i < zs.length → w.cell? (x.add i) = some (.int k (zs.getD i 0))) ∧ ∀ n ∈ zs, (Lit.int k n).wf = true) :
    (zs.take len).length = len ∧ Cells w a ((zs.take len).map (Value.int k)) ∧ (∀ z ∈ zs.take len, (Lit.int k z).wf = true) ∧ len ≤ cap ∧ cap ≤ maxLen := by
  rcases h with ⟨rfl, rfl, rfl, rfl⟩ | ⟨x, rfl, hl, hm, hz, hc, hw⟩
  · exact ⟨rfl, Cells.nil _ _, by simp, Nat.le_refl _, Nat.zero_le _⟩
  · refine ⟨by rw [List.length_take]; omega, ?_, fun z hz => hw z (List.mem_of_mem_take hz), hl, hm⟩
    by_cases h0 : len = 0
    · subst h0; simp; exact Cells.nil _ _
    · obtain ⟨b, off, spot⟩ := x
      have hs := hc 0 (by omega)
      have hspot : spot = none := by simpa [Addr.add] using World.cell?_spot hs
      subst hspot
      refine .inr ⟨b, off, rfl, fun i v hi => ?_⟩
      rw [List.getElem?_map] at hi
      obtain ⟨z, hz', rfl⟩ := Option.map_eq_some_iff.1 hi
      rw [List.getElem?_take] at hz'
      split at hz'
      · rename_i hlt
        have := hc i (by omega)
        have e : (⟨b, off, none⟩ : Addr).add i = ⟨b, off + i, none⟩ := by unfold Addr.add; split <;> simp_all
        rw [e, List.getD_eq_getElem?_getD, hz'] at this
        exact this
      · simp at hz'

theorem row_nats {k : IntKind} {B : Nat} (hB : ∀ z : Int, (Lit.int k z).wf = true → 0 ≤ z ∧ z < B) {w : World} {a : Option Addr} {len cap : Nat} {zs : List Int}
    (h : (a = none ∧ len = 0 ∧ cap = 0 ∧ zs = []) ∨ ∃ x, a = some x ∧ len ≤ cap ∧ cap ≤ maxLen ∧ zs.length = cap ∧ (∀ i, i < zs.length → w.cell? (x.add i) = some (.int k (zs.getD i 0))) ∧ ∀ n ∈ zs, (Lit.int k n).wf = true) :
    ∃ ws : List Nat, ws.length = len ∧ Cells w a (ws.map (fun n : Nat => Value.int k (n : Int))) ∧ (∀ z ∈ ws, z < B) ∧ len ≤ cap ∧ cap ≤ maxLen := by
  obtain ⟨h1, h2, h3, h4, h5⟩ := row_ints h
  refine ⟨(zs.take len).map Int.toNat, by rw [List.length_map]; exact h1, ?_, ?_, h4, h5⟩
  · have e : ((zs.take len).map Int.toNat).map (fun n : Nat => Value.int k (n : Int)) = (zs.take len).map (Value.int k) := by
      rw [List.map_map]
      apply List.map_congr_left
      intro z hz
      have := hB z (h3 z hz)
      simp only [Function.comp]
      rw [Int.toNat_of_nonneg this.1]
    rw [e]; exact h2
  · intro z hz
    rw [List.mem_map] at hz
    obtain ⟨y, hy, rfl⟩ := hz
    have := hB y (h3 y hy)
    omega

end Go.Proofs.YtlaaamaaabcfeaaDoor

/- What an argument's reading says of its cells: slices of numbers, slices of structs. -/
namespace Go.Proofs.YtlaaamaaabcfeaaDoor
open Go.RowKit Go.ChangeShapes Go.WideShapes Go.Deep
set_option linter.unusedVariables false

section
variable {H : Type} {enc : TypeId × Value → H} {P : Program} {w : World} {base : Nat} {spare : Nat → Bool} {held : Bool}

/-- A slice of numbers. -/
theorem ints_read {t e : TypeId} {k : IntKind} {fuel : Nat} {v : Value} {y : DataW H × List MemPlace} (ht : P.underlying t = some (.slice e)) (he : P.underlying e = some (.int k)) (hc : P.cellsOf e = 1)
    (h : DataW.trod enc P w base spare held fuel t [v] = some y) :
    ∃ (a : Option Addr) (len cap : Nat) (zs : List Int), v = .slice a len cap ∧ zs.length = len ∧ Cells w a (zs.map (Value.int k)) ∧ (∀ z ∈ zs, (Lit.int k z).wf = true) ∧ len ≤ cap ∧ cap ≤ maxLen := by
  rcases open_ints ht he hc h with ⟨hcs, _⟩ | ⟨x, l, c, zs, hcs, _, hl, hm, hz, _, hcell, hwz⟩
  · simp at hcs
    exact ⟨none, 0, 0, [], hcs, rfl, Cells.nil _ _, by simp, Nat.le_refl _, Nat.zero_le _⟩
  · simp at hcs
    have hzl : l ≤ zs.length := by rw [hz]; split <;> omega
    refine ⟨some x, l, c, zs.take l, hcs, by rw [List.length_take]; omega, ?_, fun z hz => hwz z (List.mem_of_mem_take hz), hl, hm⟩
    by_cases h0 : l = 0
    · subst h0; simp; exact Cells.nil _ _
    · obtain ⟨b, off, spot⟩ := x
      have hs := hcell 0 (by omega)
      have hspot : spot = none := by simpa [Addr.add] using World.cell?_spot hs
      subst hspot
      refine .inr ⟨b, off, rfl, fun i v hi => ?_⟩
      rw [List.getElem?_map] at hi
      obtain ⟨z, hz', rfl⟩ := Option.map_eq_some_iff.1 hi
      rw [List.getElem?_take] at hz'
      split at hz'
      · rename_i hlt
        have := hcell i (by omega)
        have e : (⟨b, off, none⟩ : Addr).add i = ⟨b, off + i, none⟩ := by unfold Addr.add; split <;> simp_all
        rw [e, List.getD_eq_getElem?_getD, hz'] at this
        exact this
      · simp at hz'

/-- .. of unsigned ones. -/
theorem nats_read {t e : TypeId} {k : IntKind} {B : Nat} (hB : ∀ z : Int, (Lit.int k z).wf = true → 0 ≤ z ∧ z < B) {fuel : Nat} {v : Value} {y : DataW H × List MemPlace} (ht : P.underlying t = some (.slice e)) (he : P.underlying e = some (.int k)) (hc : P.cellsOf e = 1)
    (h : DataW.trod enc P w base spare held fuel t [v] = some y) :
    ∃ (a : Option Addr) (len cap : Nat) (zs : List Nat), v = .slice a len cap ∧ zs.length = len ∧ Cells w a (zs.map (fun n : Nat => Value.int k (n : Int))) ∧ (∀ z ∈ zs, z < B) ∧ len ≤ cap ∧ cap ≤ maxLen := by
  obtain ⟨a, len, cap, zs, hv, hl, hcs, hw, h1, h2⟩ := ints_read ht he hc h
  refine ⟨a, len, cap, zs.map Int.toNat, hv, by rw [List.length_map]; exact hl, ?_, ?_, h1, h2⟩
  · have e : (zs.map Int.toNat).map (fun n : Nat => Value.int k (n : Int)) = zs.map (Value.int k) := by
      rw [List.map_map]
      apply List.map_congr_left
      intro z hz
      have := hB z (hw z hz)
      simp only [Function.comp]
      rw [Int.toNat_of_nonneg this.1]
    rw [e]; exact hcs
  · intro z hz
    rw [List.mem_map] at hz
    obtain ⟨y, hy, rfl⟩ := hz
    have := hB y (hw y hy)
    omega

/-- A slice of structs of one-cell fields: each field's cell, and its own reading. -/
theorem structs_read {t e : TypeId} {fs : Array Field} {fuel : Nat} {v : Value} {y : DataW H × List MemPlace} (ht : P.underlying t = some (.slice e)) (he : P.underlying e = some (.struct fs))
    (hone : oneCellFields P fs = true) (hC : P.cellsOf e = fs.size) (hpos : 0 < fs.size) (h : DataW.trod enc P w base spare held fuel t [v] = some y) :
    ∃ (a : Option Addr) (len cap : Nat) (n : Nat → Nat), v = .slice a len cap ∧ len ≤ cap ∧ cap ≤ maxLen ∧ (len = 0 ∨ ∃ b off, a = some ⟨b, off, none⟩ ∧ ∀ i, i < len → ∀ (j : Nat) (f : Field), fs[j]? = some f →
      ∃ (u : Value) (z : DataW H × List MemPlace), w.cell? ⟨b, off + (i * fs.size + j), none⟩ = some u ∧ DataW.trod enc P w base spare held (n i) f.type [u] = some z) := by
  rcases open_slice ht h with ⟨hcs, _⟩ | ⟨a, len, cap, m, n, D, Pl, hcs, _, hl, hm, hmm, _, hi⟩
  · simp at hcs
    exact ⟨none, 0, 0, fun _ => 0, hcs, Nat.le_refl _, Nat.zero_le _, .inl rfl⟩
  · simp at hcs
    have hlm : len ≤ m := by rw [hmm]; split <;> omega
    by_cases h0 : len = 0
    · exact ⟨some a, len, cap, fun _ => 0, hcs, hl, hm, .inl h0⟩
    have each : ∀ i, i < len → ∃ n', ∀ (j : Nat) (f : Field), fs[j]? = some f → ∃ (u : Value) (z : DataW H × List MemPlace), w.cell? (a.add (i * fs.size + j)) = some u ∧ DataW.trod enc P w base spare held n' f.type [u] = some z := by
      intro i hil
      obtain ⟨cs', hc, ht'⟩ := hi i (by omega)
      rw [hC] at hc
      obtain ⟨ys, n', _, _, _, hyl, hf⟩ := DataW.trod_struct he ht'
      obtain ⟨_, hcl, hat⟩ := World.cells?_some hc
      refine ⟨n', fun j f hj => ?_⟩
      obtain ⟨ho, hk⟩ := hone_of hone j f hj
      have hjl : j < fs.size := (Array.getElem?_eq_some_iff.1 hj).1
      have hcell := hat j hjl
      have hv : cs'[j]? = some (cs'[j]'(by omega)) := List.getElem?_eq_getElem (by omega)
      have h1 := hf j f hj
      rw [ho, hk] at h1
      have hone' : (cs'.drop j).take 1 = [cs'[j]'(by omega)] := by
        rw [List.drop_eq_getElem_cons (by omega)]
        rfl
      rw [hone'] at h1
      have hys : ys[j]? = some (ys[j]'(by omega)) := List.getElem?_eq_getElem (by omega)
      refine ⟨_, _, ?_, h1.trans hys⟩
      rw [← Go.Deep.add_add, hcell, hv]
    obtain ⟨nf, hnf⟩ := choose_lt each
    obtain ⟨f0, hf0⟩ : ∃ f0, fs[0]? = some f0 := ⟨fs[0], by simp [hpos]⟩
    obtain ⟨u, _, hu, _⟩ := hnf 0 (by omega) 0 f0 hf0
    obtain ⟨b, off, spot⟩ := a
    have hspot : spot = none := by simpa [Addr.add] using World.cell?_spot hu
    subst hspot
    refine ⟨_, len, cap, nf, hcs, hl, hm, .inr ⟨b, off, rfl, fun i hil j f hj => ?_⟩⟩
    obtain ⟨u, z, hu, hz⟩ := hnf i hil j f hj
    have e : (⟨b, off, none⟩ : Addr).add (i * fs.size + j) = ⟨b, off + (i * fs.size + j), none⟩ := by unfold Addr.add; split <;> simp_all
    rw [e] at hu
    exact ⟨u, z, hu, hz⟩
end

end Go.Proofs.YtlaaamaaabcfeaaDoor

/- Slices of records: their cells, one record behind the other; what the reading of such an argument says. -/
namespace Go.Proofs.YtlaaamaaabcfeaaDoor
open Go.RowKit Go.ChangeShapes Go.WideShapes Go.Deep
set_option linter.unusedVariables false

/-- The cells of records. -/
def recs {α : Type} (f : α → List Value) (l : List α) : List Value := l.flatMap f
theorem recs_length {α : Type} {f : α → List Value} {n : Nat} (hf : ∀ x, (f x).length = n) (l : List α) : (recs f l).length = l.length * n := by
  induction l with
  | nil => simp [recs]
  | cons x l ih => unfold recs at *; rw [List.flatMap_cons, List.length_append, ih, hf, List.length_cons, Nat.succ_mul, Nat.add_comm]
theorem recs_append {α : Type} (f : α → List Value) (l m : List α) : recs f (l ++ m) = recs f l ++ recs f m := by simp [recs]
theorem recs_at {α : Type} {f : α → List Value} {n : Nat} (hf : ∀ x, (f x).length = n) (d : α) (l : List α) (i : Nat) (hi : i < l.length) : ∀ j v, (f (l.getD i d))[j]? = some v → (recs f l)[i * n + j]? = some v := by
  intro j v hj
  have e : l = l.take i ++ (l[i] :: l.drop (i + 1)) := by simp
  have hl : (recs f (l.take i)).length = i * n := by rw [recs_length hf, List.length_take, Nat.min_eq_left (by omega)]
  have hg : l.getD i d = l[i] := by simp [hi]
  rw [hg] at hj
  have hj3 : j < (f l[i]).length := (List.getElem?_eq_some_iff.1 hj).1
  rw [e, recs_append, List.getElem?_append_right (by omega), hl, show i * n + j - i * n = j by omega]
  unfold recs
  rw [List.flatMap_cons, List.getElem?_append_left hj3]
  exact hj
/-- A record's cells in memory. -/
theorem recs_cells {α : Type} {f : α → List Value} {n : Nat} (hf : ∀ x, (f x).length = n) (hn : 0 < n) (d : α) {w : World} {a : Option Addr} {l : List α} (h : Cells w a (recs f l)) {j : Nat} (hj : j < l.length) :
    ∃ b off, a = some ⟨b, off, none⟩ ∧ b < w.heap.size ∧ ∀ i v, (f (l.getD j d))[i]? = some v → w.cell? ⟨b, off + j * n + i, none⟩ = some v := by
  have hl := recs_length hf l
  have hlt : 0 < (recs f l).length := by rw [hl]; exact Nat.mul_pos (by omega) hn
  obtain ⟨b, off, rfl, hb, hc⟩ := h.at hlt
  refine ⟨b, off, rfl, hb, fun i v hi => ?_⟩
  rw [Nat.add_assoc]
  exact hc _ _ (recs_at hf d l j hj i v hi)

section
variable {H : Type} {enc : TypeId × Value → H} {P : Program} {w : World} {base : Nat} {spare : Nat → Bool} {held : Bool}

/-- A slice that came in: each element's cells, and its own reading. -/
theorem elems_read {t e : TypeId} {size : Nat} {fuel : Nat} {v : Value} {y : DataW H × List MemPlace} (ht : P.underlying t = some (.slice e)) (hC : P.cellsOf e = size) (hpos : 0 < size) (h : DataW.trod enc P w base spare held fuel t [v] = some y) :
    ∃ (a : Option Addr) (len cap m : Nat), v = .slice a len cap ∧ len ≤ cap ∧ cap ≤ maxLen ∧ (len = 0 ∨ ∃ b off, a = some ⟨b, off, none⟩ ∧ ∀ i, i < len →
      ∃ (us : List Value) (z : DataW H × List MemPlace), us.length = size ∧ (∀ r u, us[r]? = some u → w.cell? ⟨b, off + i * size + r, none⟩ = some u) ∧ DataW.trod enc P w base spare held m e us = some z) := by
  rcases open_slice ht h with ⟨hcs, _⟩ | ⟨a, len, cap, m, n, D, Pl, hcs, _, hl, hm, hmm, _, hi⟩
  · simp at hcs
    exact ⟨none, 0, 0, 0, hcs, Nat.le_refl _, Nat.zero_le _, .inl rfl⟩
  · simp at hcs
    have hlm : len ≤ m := by rw [hmm]; split <;> omega
    by_cases h0 : len = 0
    · exact ⟨some a, len, cap, 0, hcs, hl, hm, .inl h0⟩
    have each : ∀ i, i < len → ∃ (us : List Value) (z : DataW H × List MemPlace), us.length = size ∧ (∀ r u, us[r]? = some u → w.cell? ((a.add (i * size)).add r) = some u) ∧ DataW.trod enc P w base spare held n e us = some z := by
      intro i hil
      obtain ⟨cs', hc, ht'⟩ := hi i (by omega)
      rw [hC] at hc
      obtain ⟨_, hcl, hat⟩ := World.cells?_some hc
      have hz : ∃ z, DataW.trod enc P w base spare held n e cs' = some z := ⟨_, ht'⟩
      obtain ⟨z, hz⟩ := hz
      refine ⟨cs', z, hcl, fun r u hr => ?_, hz⟩
      have hrl : r < size := by have := (List.getElem?_eq_some_iff.1 hr).1; omega
      rw [hat r hrl, hr]
    obtain ⟨us, z, h1, h2, _⟩ := each 0 (by omega)
    obtain ⟨b, off, spot⟩ := a
    have hus : us[0]? = some (us[0]'(by omega)) := List.getElem?_eq_getElem (by omega)
    have h20 := h2 0 _ hus
    have hspot : spot = none := by
      have := World.cell?_spot h20
      simpa [Addr.add] using this
    subst hspot
    refine ⟨_, len, cap, n, hcs, hl, hm, .inr ⟨b, off, rfl, fun i hil => ?_⟩⟩
    obtain ⟨us, z, h1, h2, h3⟩ := each i hil
    refine ⟨us, z, h1, fun r u hr => ?_, h3⟩
    have := h2 r u hr
    rwa [add_none', add_none'] at this
where
  add_none' (b off j : Nat) : (⟨b, off, none⟩ : Addr).add j = ⟨b, off + j, none⟩ := by unfold Addr.add; split <;> simp_all
end

/-- What each element is, if each one is something. -/
theorem recs_of {α : Type} {f : α → List Value} {n : Nat} (hf : ∀ x, (f x).length = n) (hn : 0 < n) (d : α) {w : World} {b off len : Nat} {ok : α → Prop}
    (each : ∀ i, i < len → ∃ x : α, (∀ r u, (f x)[r]? = some u → w.cell? ⟨b, off + i * n + r, none⟩ = some u) ∧ ok x) :
    ∃ l : List α, l.length = len ∧ Cells w (some ⟨b, off, none⟩) (recs f l) ∧ ∀ x ∈ l, ok x := by
  haveI : Inhabited α := ⟨d⟩
  obtain ⟨g, hg⟩ := choose_lt each
  refine ⟨(List.range len).map g, by simp, .inr ⟨b, off, rfl, fun i v hi => ?_⟩, fun x hx => ?_⟩
  · have hlen : i < len * n := by
      have := (List.getElem?_eq_some_iff.1 hi).1
      rw [recs_length hf] at this
      simpa using this
    obtain ⟨q, r, hr, rfl⟩ : ∃ q r, r < n ∧ i = q * n + r := ⟨i / n, i % n, Nat.mod_lt _ hn, by rw [Nat.mul_comm]; exact (Nat.div_add_mod i n).symm⟩
    have hq : q < len := Decidable.byContradiction fun h => by
      have h1 : len ≤ q := by omega
      have := Nat.mul_le_mul_right n h1
      omega
    have hfd : ((List.range len).map g).getD q d = g q := by simp [hq]
    have hx : (f (g q))[r]? = some ((f (g q))[r]'(by rw [hf]; exact hr)) := List.getElem?_eq_getElem (by rw [hf]; exact hr)
    have := recs_at hf d ((List.range len).map g) q (by simpa using hq) r _ (by rw [hfd]; exact hx)
    rw [this] at hi
    cases hi
    rw [← Nat.add_assoc]
    exact (hg q hq).1 r _ hx
  · rw [List.mem_map] at hx
    obtain ⟨i, hi, rfl⟩ := hx
    exact (hg i (by simpa using hi)).2

end Go.Proofs.YtlaaamaaabcfeaaDoor

/- op: Script. -/
namespace Go.Proofs.YtlaaamaaabcfeaaDoor
open Go.RowKit
set_option linter.unusedVariables false
open Go.Lib (decDigits itoa nDigits)

/-- An op in memory. -/
structure Op31 where
  k : Int
  a : Option Addr
  n : Nat
  c : Nat
  ns : List Int
def Op31.cs (o : Op31) : List Value := [.int .i64 o.k, .slice o.a o.n o.c]
def Op31.pl (o : Op31) : Int × List Int := (o.k, o.ns)
def Op31.ok (w : World) (o : Op31) : Prop := o.ns.length = o.n ∧ w.ownsRow 0 2 1 (.slice o.a o.n o.c) o.n (o.ns.map (Value.int .i64))
theorem Op31.len (o : Op31) : o.cs.length = 2 := rfl
theorem Op31.ok.below {w w' : World} {o : Op31} (h : o.ok w) (hb : Below w.heap.size w w') : o.ok w' := ⟨h.1, owned_below h.2 hb (Nat.le_refl _)⟩
theorem Cells.ownedN {w : World} {base e n size cap : Nat} {a : Option Addr} {xs : List Value} (h : w.ownsRow base e size (.slice a n cap) n xs) : Cells w a xs := by
  rcases h.2 with ⟨_, h0⟩ | ⟨g, cap', cur, hv, _⟩
  · exact .inl (List.eq_nil_of_length_eq_zero (by have := h.1; rw [h0] at this; simpa using this))
  · refine .inr ⟨g, 0, by simp at hv; exact hv.1, fun i v hi => ?_⟩
    simp at hv
    obtain ⟨rfl, _⟩ := hv
    have := h.cells (g := g) rfl i v hi
    have ha : (⟨g, 0, none⟩ : Addr).add i = ⟨g, 0 + i, none⟩ := by unfold Addr.add; split <;> simp_all
    rwa [ha] at this
theorem other_blk {w : World} {base e n size d t : Nat} {v : Value} {xs : List Value} {cs : Array Value} {fr : Nat × Nat} (ho : w.ownsRow base e size v n xs) (h : w.heap[d]? = some (.cells cs t fr)) (hne : t ≠ e) : some d ≠ v.ownBlock := by
  intro c
  rcases ho.2 with ⟨rfl, _⟩ | ⟨g, cap, cur, rfl, _, hg, _⟩
  · simp [Value.ownBlock] at c
  · simp [Value.ownBlock] at c
    subst c
    rw [hg] at h
    injection h with h
    injection h with h1 h2
    exact hne h2.symm
theorem owned_grown {w w' : World} {base e size n base2 e2 size2 n2 : Nat} {v v2 : Value} {xs xs2 : List Value} (h : w.ownsRow base e size v n xs) (ho : w.ownsRow base2 e2 size2 v2 n2 xs2) (hg : w.grownBy w' v2.ownBlock) (hne : e ≠ e2) : w'.ownsRow base e size v n xs := by
  refine ⟨h.1, ?_⟩
  rcases h.2 with hn | ⟨g, cap, cur, rfl, h1, hg0, r⟩
  · exact .inl hn
  · exact .inr ⟨g, cap, cur, rfl, h1, by rw [hg.block g (Array.getElem?_eq_some_iff.1 hg0).1 (other_blk ho hg0 hne)]; exact hg0, r⟩
theorem Op31.ok.grown {w w' : World} {o : Op31} {base e size n : Nat} {v : Value} {xs : List Value} (h : o.ok w) (ho : w.ownsRow base e size v n xs) (hg : w.grownBy w' v.ownBlock) (hne : 2 ≠ e) : o.ok w' := ⟨h.1, owned_grown h.2 ho hg hne⟩

/-- What a script leaves. -/
def ScriptPost (mk : Value → Int → Int → Value) (l : List UInt8) (w : World) : Ending → World → Prop := fun e w' => ∃ (L : List Op31) (a : Option Addr) (c : Nat) (ln cd : Int), e = .returned (mk (.slice a L.length c) ln cd) ∧ Cells w' a (recs Op31.cs L) ∧ (∀ o ∈ L, o.ok w') ∧ Below w.heap.size w w' ∧
  ((scriptL l = .inl (L.map Op31.pl) ∧ ln = 0 ∧ cd = 0) ∨ ∃ i : Nat, 0 < i ∧ scriptL l = .inr i ∧ L = [] ∧ ln = i ∧ cd = 30)

def ScrTo (ls : List (List UInt8)) (j : Nat) (ops : List (Int × List Int)) : Prop := scriptGo 0 ls = match scriptGo j (ls.drop j) with
  | .inl r => .inl (ops ++ r)
  | .inr k => .inr k
theorem ScrTo.start (ls : List (List UInt8)) : ScrTo ls 0 [] := by
  unfold ScrTo
  rw [List.drop_zero]
  cases scriptGo 0 ls <;> rfl
theorem ScrTo.skip {ls : List (List UInt8)} {j : Nat} {ops : List (Int × List Int)} (h : ScrTo ls j ops) (hj : j < ls.length) (hx : ls[j] = [] ∨ ls[j].head? = some 35) : ScrTo ls (j + 1) ops := by
  unfold ScrTo at *
  rw [h, List.drop_eq_getElem_cons hj, scriptGo, if_pos hx]
theorem ScrTo.step {ls : List (List UInt8)} {j : Nat} {ops : List (Int × List Int)} (h : ScrTo ls j ops) (hj : j < ls.length) (hx : ¬(ls[j] = [] ∨ ls[j].head? = some 35)) {o : Int × List Int} (ho : parseL ls[j] = some o) : ScrTo ls (j + 1) (ops ++ [o]) := by
  unfold ScrTo at *
  rw [h, List.drop_eq_getElem_cons hj, scriptGo, if_neg hx, ho]
  dsimp only
  cases scriptGo (j + 1) (ls.drop (j + 1)) with
  | inl r => simp
  | inr k => rfl
theorem ScrTo.bad {ls : List (List UInt8)} {j : Nat} {ops : List (Int × List Int)} (h : ScrTo ls j ops) (hj : j < ls.length) (hx : ¬(ls[j] = [] ∨ ls[j].head? = some 35)) (ho : parseL ls[j] = none) : scriptGo 0 ls = .inr (j + 1) := by
  unfold ScrTo at *
  rw [h, List.drop_eq_getElem_cons hj, scriptGo, if_neg hx, ho]
theorem ScrTo.all {ls : List (List UInt8)} {j : Nat} {ops : List (Int × List Int)} (h : ScrTo ls j ops) (hj : ls.length ≤ j) : scriptGo 0 ls = .inl ops := by
  unfold ScrTo at *
  rw [h, List.drop_of_length_le hj, scriptGo]; simp

theorem elOps : Elem Tryd.prog 48 25 (.agg #[.int .i64 0, .slice none 0 0]) 2 32 := Elem.mk' Tryd.underlying48 (by kernel_rfl) rfl (by decide)

set_option maxHeartbeats 8000000 in
set_option maxRecDepth 100000 in
theorem script_any (l : List UInt8) (m : Int) (w : World) (hm : w.cell? ⟨0, 0, none⟩ = some (.int .i64 m)) (hs : l.length ≤ 1000000) :
    Calls Tryd.prog 22 #[strV l] w (ScriptPost (fun v ln cd => .tuple #[v, .int .i64 ln, .int .i64 cd]) l w) := by
  obtain ⟨ls, hls⟩ : ∃ ls, cutGo 10 [] l = ls := ⟨_, rfl⟩
  have HLen : Hid (∀ s ∈ ls, s.length ≤ 1000000) := Lib.hid (fun s hs' => by
    have := cut_len 10 l [] s (by rw [hls]; exact hs')
    simp at this; omega)
  obtain ⟨n, hn⟩ : ∃ n, n = ls.length := ⟨_, rfl⟩
  have hn9 : n ≤ 1000001 := by
    have := cut_count 10 l []
    rw [hls] at this
    omega
  have HNl := Lib.hid hn
  have HSc : Hid (scriptL l = scriptGo 0 ls) := Lib.hid (by unfold scriptL; rw [hls])
  have HSplit := Lib.hid (split_any l 10 m w hm (by omega))
  rw [hls] at HSplit
  have HP : Hid (∀ (L : List Op31) (a : Option Addr) (c q : Nat) (w' : World), q = L.length → scriptL l = .inl (L.map Op31.pl) → Cells w' a (recs Op31.cs L) → (∀ o ∈ L, o.ok w') → Below w.heap.size w w' → ScriptPost (fun v ln cd => .tuple #[v, .int .i64 ln, .int .i64 cd]) l w (.returned (.tuple #[.slice a q c, .int .i64 0, .int .i64 0])) w') :=
    Lib.hid (fun L a c q w' h0 h1 h2 h3 h4 => ⟨L, a, c, 0, 0, by rw [h0], h2, h3, h4, .inl ⟨h1, rfl, rfl⟩⟩)
  have HQ : Hid (∀ (i : Nat) (w' : World), scriptL l = .inr (i + 1) → Below w.heap.size w w' → ScriptPost (fun v ln cd => .tuple #[v, .int .i64 ln, .int .i64 cd]) l w (.returned (.tuple #[.slice none 0 0, .int .i64 ((i : Int) + 1), .int .i64 30])) w') :=
    Lib.hid (fun i w' h1 h4 => ⟨[], none, 0, (i : Int) + 1, 30, rfl, .inl rfl, by simp, h4, .inr ⟨i + 1, by omega, h1, rfl, by simp, rfl⟩⟩)
  generalize ScriptPost (fun v ln cd => .tuple #[v, .int .i64 ln, .int .i64 cd]) l w = Post at *
  have hw0 : 0 < w.heap.size := Nat.lt_of_le_of_lt (Nat.zero_le _) (World.block_lt_of_cell? _ _ hm)
  have HX : Hid (∀ w', Below w.heap.size w w' → w'.cell? ⟨0, 0, none⟩ = some (.int .i64 m)) := Lib.hid (fun w' hb => by rw [hb.cell (p := ⟨0, 0, none⟩) hw0]; exact hm)
  clear hm hls hn hw0
  go_enter Tryd.func22, Tryd.ntmps22
  go_wp2_with fail
  refine HSplit.out.mono ?_
  rintro e w1 ⟨ad, cp, rfl, hc, hb1, hcp⟩
  have HC1 := Lib.hid hc
  have HB1 := Lib.hid hb1
  have hlen : ls.length = n := HNl.out.symm
  rw [hlen]
  clear hc hb1 hcp hlen
  go_wp2_with fail
  go_loopw [2, 3, 4, 5, 6, 7, 8, 9, 13] (fun r2 r3 r4 v _ _ _ _ iv wr => ∃ (j : Nat) (L : List Op31), j ≤ n ∧ L.length ≤ j ∧ iv = .int .i64 (j : Int) ∧ r2 = .slice none 0 0 ∧ r3 = .int .i64 0 ∧ r4 = .int .i64 0 ∧ Hid (ScrTo ls j (L.map Op31.pl)) ∧ Hid (wr.ownsRow w1.heap.size 25 2 v L.length (recs Op31.cs L)) ∧ Hid (∀ o ∈ L, o.ok wr) ∧ Hid (Below w1.heap.size w1 wr)) (fun _ _ _ _ _ _ _ _ i _ => n - (RowKit.intOf i).toNat)
  case atStart => exact ⟨0, [], Nat.zero_le _, Nat.le_refl _, rfl, rfl, rfl, rfl, Lib.hid (ScrTo.start _), Lib.hid ⟨rfl, .inl ⟨rfl, rfl⟩⟩, Lib.hid (by simp), Lib.hid (Below.refl _ _)⟩
  case round =>
    obtain ⟨j, L, hj, hLj, rfl, rfl, rfl, rfl, HSt, HO, HOk, HBr⟩ := hrel
    have HBw : Hid (Below w.heap.size w wr) := Lib.hid (HB1.out.trans (HBr.out.mono HB1.out.size))
    by_cases hlt : j < n
    · have hlt' : (j : Int) < (n : Int) := by omega
      have hjr : j < ls.length := by rw [← HNl.out]; exact hlt
      obtain ⟨b', off', rfl, _, hcell⟩ := (HC1.out.below HBr.out (Nat.le_refl _)).atMap [] (i := j) hjr
      have e1 := hcell j hjr
      have hgd : ls.getD j [] = ls[j] := by rw [List.getD_eq_getElem?_getD, List.getElem?_eq_getElem hjr]; rfl
      have HSkip : Hid (ls.getD j [] = [] ∨ (ls.getD j []).head? = some 35 → ScrTo ls (j + 1) (L.map Op31.pl)) := Lib.hid (fun hx => HSt.out.skip hjr (by rw [← hgd]; exact hx))
      have HStep : Hid (¬(ls.getD j [] = [] ∨ (ls.getD j []).head? = some 35) → ∀ o, parseL (ls.getD j []) = some o → ScrTo ls (j + 1) (L.map Op31.pl ++ [o])) := Lib.hid (fun hx o ho => HSt.out.step hjr (by rw [← hgd]; exact hx) (by rw [← hgd]; exact ho))
      have HBad : Hid (¬(ls.getD j [] = [] ∨ (ls.getD j []).head? = some 35) → parseL (ls.getD j []) = none → scriptL l = .inr (j + 1)) := Lib.hid (fun hx ho => by rw [HSc.out]; exact HSt.out.bad hjr (by rw [← hgd]; exact hx) (by rw [← hgd]; exact ho))
      have HWl : Hid ((ls.getD j []).length ≤ 1000000) := Lib.hid (HLen.out _ (by rw [hgd]; exact List.getElem_mem _))
      generalize ls.getD j [] = wj at *
      clear hcell hgd hjr
      cases wj with
      | nil =>
        have HN := Lib.hid (HSkip.out (.inl rfl))
        have heq : (bstr []).toList.isEmpty = true := by rw [bstr_toList]; rfl
        go_wp2_with fail
        go_roundw
        case rel => exact ⟨j + 1, L, by omega, by omega, vint (by omega), rfl, rfl, rfl, HN, HO, HOk, HBr⟩
        case measure => simp [RowKit.intOf]; omega
      | cons x r =>
        have heq : (bstr (x :: r)).toList.isEmpty = false := by rw [bstr_toList]; rfl
        have hi : ∀ h, (bstr (x :: r))[0]'h = x := fun _ => rfl
        have hz : (bstr (x :: r)).size = r.length + 1 := rfl
        by_cases h35 : x = 35
        · have HN := Lib.hid (HSkip.out (.inr (by rw [h35]; rfl)))
          have hb : (x.toNat == 35) = true := by rw [h35]; rfl
          have hb2 : ((x.toNat : Int) == 35) = true := by rw [h35]; rfl
          clear h35
          go_wp2_with fail
          go_roundw
          case rel => exact ⟨j + 1, L, by omega, by omega, vint (by omega), rfl, rfl, rfl, HN, HO, HOk, HBr⟩
          case measure => simp [RowKit.intOf]; omega
        · have hno : ¬(x :: r = [] ∨ (x :: r).head? = some 35) := by simp [h35]
          have hb0 : x.toNat ≠ 35 := fun e => h35 (UInt8.toNat_inj.1 e)
          have hb : (x.toNat == 35) = false := by simpa using hb0
          have hb2 : ((x.toNat : Int) == 35) = false := by simp; omega
          have HN1 := Lib.hid (HStep.out hno)
          have HN2 := Lib.hid (HBad.out hno)
          clear h35 hno hb0 HSkip HStep HBad
          go_upto_region 6 with fail
          clear heq hi hz hb hb2
          generalize x :: r = wj at *
          have HPa := Lib.hid (parse_any wj m wr (HX.out _ HBw.out) HWl.out)
          go_wp2_with fail
          refine HPa.out.mono ?_
          rintro e w4 ⟨o, a, c, ho, rfl, hc, hb4, how⟩
          have HB4 : Hid (Below w.heap.size w w4) := Lib.hid (HBw.out.trans (hb4.mono HBw.out.size))
          have HM4 := Lib.hid (Mem.one w4 #[.int .i64 0, .slice none 0 0] 25)
          cases o with
          | none =>
            have HN := Lib.hid (HN2.out ho)
            simp only [Option.getD_none, Option.isSome_none, Bool.false_eq_true, if_false]
            clear hc how ho hb4 HPa
            go_wp2_with (first
              | (refine wpList_store_mem aggOp HM4.out 0 rfl rfl rfl rfl rfl rfl rfl rfl ?_; intro w5 h5 ht5; have HM5 := Lib.hid h5; clear h5 ht5))
            go_ret3
            exact HQ.out j _ HN.out (HB4.out.trans (HM5.out.below.mono HB4.out.size))
          | some q =>
            obtain ⟨k, ns⟩ := q
            simp only [Option.getD_some, Option.isSome_some, if_true] at how ⊢
            have HSt1 := Lib.hid (HN1.out _ ho)
            obtain ⟨q, hq⟩ : ∃ q, ns.length = q := ⟨_, rfl⟩
            rw [hq] at how ⊢
            have HOp : Hid ((⟨k, a, q, c, ns⟩ : Op31).ok w4) := Lib.hid ⟨hq, how⟩
            have HO4 := Lib.hid (owned_below HO.out hb4 (Nat.le_refl _))
            have HOk4 : Hid (∀ o ∈ L ++ [⟨k, a, q, c, ns⟩], Op31.ok w4 o) := Lib.hid (fun o ho' => by
              rcases List.mem_append.1 ho' with h | h
              · exact (HOk.out o h).below hb4
              · rw [List.mem_singleton.1 h]; exact HOp.out)
            have HB14 : Hid (Below w1.heap.size w1 w4) := Lib.hid (HBr.out.trans (hb4.mono HBr.out.size))
            have hone : Hid (∀ u ∈ (#[Value.int .i64 k, Value.slice a q c] : Array Value).toList, u.oneCell' = true) := Lib.hid (by intro u hu; simp at hu; rcases hu with rfl | rfl <;> rfl)
            have hL9 : L.length < 1000000000000 := by omega
            clear hc how ho hb4 HPa hq
            go_wp2_with (first
              | (refine wpList_store_mem aggOp HM4.out 0 rfl rfl rfl rfl rfl rfl rfl rfl ?_; intro w5 h5 ht5; have HM5 := Lib.hid h5; have HB5 := Lib.hid h5.below; have HO5 := Lib.hid (owned_below HO4.out HB5.out (Nat.le_refl _)); have HB15 : Hid (Below w1.heap.size w1 w5) := Lib.hid (HB14.out.trans (HB5.out.mono HB14.out.size)); have hbase : Hid (w1.heap.size ≤ w5.heap.size) := Lib.hid HB15.out.size; have d0 := h5.cell 0 0 rfl rfl; have d1 := h5.cell 0 1 rfl rfl; clear h5 ht5)
              | (at_builtin; refine wpList_append_new (us := #[.int .i64 k, .slice a q c]) elOps HO5.out rfl hone.out hL9 (by decide) hbase.out rfl rfl rfl (by simp [Act.eval]) ?_; intro g6 c6 w6 ho6 hg6 hc6 hm6 hb6 hl6; have HO6 := Lib.hid ho6; have HB6 : Hid (Below w1.heap.size w1 w6) := Lib.hid (below_grownBy HB15.out HO5.out hg6 (Nat.le_refl _) (Nat.le_refl _)); have HOk6 : Hid (∀ o ∈ L ++ [⟨k, a, q, c, ns⟩], Op31.ok w6 o) := Lib.hid (fun o ho' => ((HOk4.out o ho').below HB5.out).grown HO5.out hg6 (by decide)); clear ho6 hg6 hb6 hl6))
            go_roundw
            case rel => exact ⟨j + 1, L ++ [⟨k, a, q, c, ns⟩], by omega, by simp; omega, vint (by omega), rfl, rfl, rfl, Lib.hid (by rw [List.map_append]; exact HSt1.out), Lib.hid (by rw [recs_append, List.length_append]; exact HO6.out), HOk6, HB6⟩
            case measure => simp [RowKit.intOf]; omega
    · obtain rfl : j = n := by omega
      have hlt' : decide ((j : Int) < (j : Int)) = false := by simp
      obtain ⟨a1, c1, rfl, hcl, hcm⟩ := owned_form HO.out
      have HE : Hid (scriptL l = .inl (L.map Op31.pl)) := Lib.hid (by rw [HSc.out]; exact HSt.out.all (by rw [← HNl.out]; exact Nat.le_refl _))
      have HCe := Lib.hid (Cells.ownedN HO.out)
      clear hlt
      go_wp2_with fail
      go_ret3
      exact HP.out L a1 c1 _ _ rfl HE.out HCe.out HOk.out HBw.out

end Go.Proofs.YtlaaamaaabcfeaaDoor

/- op: the document's Script. -/
namespace Go.Proofs.YtlaaamaaabcfeaaDoor
open Go.RowKit
set_option linter.unusedVariables false
open Go.Lib (decDigits itoa nDigits)

theorem elROps : Elem Tryd.prog 51 29 (.agg #[.int .i64 0, .slice none 0 0]) 2 32 := Elem.mk' Tryd.underlying51 (by kernel_rfl) rfl (by decide)

set_option maxHeartbeats 8000000 in
set_option maxRecDepth 100000 in
theorem rscript_any (l : List UInt8) (w : World) (hs : l.length ≤ 1000000) :
    Calls Tryd.prog 23 #[strV l] w (ScriptPost (fun v ln _ => .tuple #[v, .int .i64 ln]) l w) := by
  obtain ⟨ls, hls⟩ : ∃ ls, cutGo 10 [] l = ls := ⟨_, rfl⟩
  have HLen : Hid (∀ s ∈ ls, s.length ≤ 1000000) := Lib.hid (fun s hs' => by
    have := cut_len 10 l [] s (by rw [hls]; exact hs')
    simp at this; omega)
  obtain ⟨n, hn⟩ : ∃ n, n = ls.length := ⟨_, rfl⟩
  have hn9 : n ≤ 1000001 := by
    have := cut_count 10 l []
    rw [hls] at this
    omega
  have HNl := Lib.hid hn
  have HSc : Hid (scriptL l = scriptGo 0 ls) := Lib.hid (by unfold scriptL; rw [hls])
  have HSplit := Lib.hid (rcut_any l 10 w (by omega))
  rw [hls] at HSplit
  have HP : Hid (∀ (L : List Op31) (a : Option Addr) (c q : Nat) (w' : World), q = L.length → scriptL l = .inl (L.map Op31.pl) → Cells w' a (recs Op31.cs L) → (∀ o ∈ L, o.ok w') → Below w.heap.size w w' → ScriptPost (fun v ln _ => .tuple #[v, .int .i64 ln]) l w (.returned (.tuple #[.slice a q c, .int .i64 0])) w') :=
    Lib.hid (fun L a c q w' h0 h1 h2 h3 h4 => ⟨L, a, c, 0, 0, by rw [h0], h2, h3, h4, .inl ⟨h1, rfl, rfl⟩⟩)
  have HQ : Hid (∀ (i : Nat) (w' : World), scriptL l = .inr (i + 1) → Below w.heap.size w w' → ScriptPost (fun v ln _ => .tuple #[v, .int .i64 ln]) l w (.returned (.tuple #[.slice none 0 0, .int .i64 ((i : Int) + 1)])) w') :=
    Lib.hid (fun i w' h1 h4 => ⟨[], none, 0, (i : Int) + 1, 30, rfl, .inl rfl, by simp, h4, .inr ⟨i + 1, by omega, h1, rfl, by simp, rfl⟩⟩)
  generalize ScriptPost (fun v ln _ => .tuple #[v, .int .i64 ln]) l w = Post at *
  clear hls hn
  go_enter Tryd.func23, Tryd.ntmps23
  go_wp2_with fail
  refine HSplit.out.mono ?_
  rintro e w1 ⟨ad, cp, rfl, hc, hb1, hcp⟩
  have HC1 := Lib.hid hc
  have HB1 := Lib.hid hb1
  have hlen : ls.length = n := HNl.out.symm
  rw [hlen]
  clear hc hb1 hcp hlen
  go_wp2_with fail
  go_loopw [2, 3, 4, 6, 7, 8] (fun r2 r3 v iv _ _ wr => ∃ (j : Nat) (L : List Op31), j ≤ n ∧ L.length ≤ j ∧ iv = .int .i64 (j : Int) ∧ r2 = .slice none 0 0 ∧ r3 = .int .i64 0 ∧ Hid (ScrTo ls j (L.map Op31.pl)) ∧ Hid (wr.ownsRow w1.heap.size 29 2 v L.length (recs Op31.cs L)) ∧ Hid (∀ o ∈ L, o.ok wr) ∧ Hid (Below w1.heap.size w1 wr)) (fun _ _ _ i _ _ _ => n - (RowKit.intOf i).toNat)
  case atStart => exact ⟨0, [], Nat.zero_le _, Nat.le_refl _, rfl, rfl, rfl, Lib.hid (ScrTo.start _), Lib.hid ⟨rfl, .inl ⟨rfl, rfl⟩⟩, Lib.hid (by simp), Lib.hid (Below.refl _ _)⟩
  case round =>
    obtain ⟨j, L, hj, hLj, rfl, rfl, rfl, HSt, HO, HOk, HBr⟩ := hrel
    have HBw : Hid (Below w.heap.size w wr) := Lib.hid (HB1.out.trans (HBr.out.mono HB1.out.size))
    by_cases hlt : j < n
    · have hlt' : (j : Int) < (n : Int) := by omega
      have hjr : j < ls.length := by rw [← HNl.out]; exact hlt
      obtain ⟨b', off', rfl, _, hcell⟩ := (HC1.out.below HBr.out (Nat.le_refl _)).atMap [] (i := j) hjr
      have e1 := hcell j hjr
      have hgd : ls.getD j [] = ls[j] := by rw [List.getD_eq_getElem?_getD, List.getElem?_eq_getElem hjr]; rfl
      have HSkip : Hid (ls.getD j [] = [] ∨ (ls.getD j []).head? = some 35 → ScrTo ls (j + 1) (L.map Op31.pl)) := Lib.hid (fun hx => HSt.out.skip hjr (by rw [← hgd]; exact hx))
      have HStep : Hid (¬(ls.getD j [] = [] ∨ (ls.getD j []).head? = some 35) → ∀ o, parseL (ls.getD j []) = some o → ScrTo ls (j + 1) (L.map Op31.pl ++ [o])) := Lib.hid (fun hx o ho => HSt.out.step hjr (by rw [← hgd]; exact hx) (by rw [← hgd]; exact ho))
      have HBad : Hid (¬(ls.getD j [] = [] ∨ (ls.getD j []).head? = some 35) → parseL (ls.getD j []) = none → scriptL l = .inr (j + 1)) := Lib.hid (fun hx ho => by rw [HSc.out]; exact HSt.out.bad hjr (by rw [← hgd]; exact hx) (by rw [← hgd]; exact ho))
      have HWl : Hid ((ls.getD j []).length ≤ 1000000) := Lib.hid (HLen.out _ (by rw [hgd]; exact List.getElem_mem _))
      generalize ls.getD j [] = wj at *
      clear hcell hgd hjr
      cases wj with
      | nil =>
        have HN := Lib.hid (HSkip.out (.inl rfl))
        have hz : (bstr []).size = 0 := rfl
        go_wp2_with fail
        go_roundw
        case rel => exact ⟨j + 1, L, by omega, by omega, vint (by omega), rfl, rfl, HN, HO, HOk, HBr⟩
        case measure => simp [RowKit.intOf]; omega
      | cons x r =>
        have hne : (((r.length + 1 : Nat) : Int) == 0) = false := by simp; omega
        have hne2 : (((r.length : Nat) : Int) + 1 == 0) = false := by simp; omega
        have hne3 : (r.length + 1 == 0) = false := by simp
        have hi : ∀ h, (bstr (x :: r))[0]'h = x := fun _ => rfl
        have hz : (bstr (x :: r)).size = r.length + 1 := rfl
        by_cases h35 : x = 35
        · have HN := Lib.hid (HSkip.out (.inr (by rw [h35]; rfl)))
          have hb : (x.toNat == 35) = true := by rw [h35]; rfl
          have hb2 : ((x.toNat : Int) == 35) = true := by rw [h35]; rfl
          clear h35
          go_wp2_with fail
          go_roundw
          case rel => exact ⟨j + 1, L, by omega, by omega, vint (by omega), rfl, rfl, HN, HO, HOk, HBr⟩
          case measure => simp [RowKit.intOf]; omega
        · have hno : ¬(x :: r = [] ∨ (x :: r).head? = some 35) := by simp [h35]
          have hb0 : x.toNat ≠ 35 := fun e => h35 (UInt8.toNat_inj.1 e)
          have hb : (x.toNat == 35) = false := by simpa using hb0
          have hb2 : ((x.toNat : Int) == 35) = false := by simp; omega
          have HN1 := Lib.hid (HStep.out hno)
          have HN2 := Lib.hid (HBad.out hno)
          clear h35 hno hb0 HSkip HStep HBad
          go_upto_region 7 with fail
          clear hne hne2 hne3 hi hz hb hb2
          generalize x :: r = wj at *
          have HPa := Lib.hid (rparse_any wj wr HWl.out)
          go_wp2_with fail
          refine HPa.out.mono ?_
          rintro e w4 ⟨o, a, c, ho, rfl, hc, hb4, how⟩
          have HB4 : Hid (Below w.heap.size w w4) := Lib.hid (HBw.out.trans (hb4.mono HBw.out.size))
          have HM4 := Lib.hid (Mem.one w4 #[.int .i64 0, .slice none 0 0] 29)
          cases o with
          | none =>
            have HN := Lib.hid (HN2.out ho)
            simp only [Option.getD_none, Option.isSome_none]
            clear hc how ho hb4 HPa
            go_wp2_with (first
              | (refine wpList_store_mem aggROp HM4.out 0 rfl rfl rfl rfl rfl rfl rfl rfl ?_; intro w5 h5 ht5; have HM5 := Lib.hid h5; clear h5 ht5))
            exact HQ.out j _ HN.out (HB4.out.trans (HM5.out.below.mono HB4.out.size))
          | some q =>
            obtain ⟨k, ns⟩ := q
            simp only [Option.getD_some, Option.isSome_some] at how ⊢
            have HSt1 := Lib.hid (HN1.out _ ho)
            obtain ⟨q, hq⟩ : ∃ q, ns.length = q := ⟨_, rfl⟩
            rw [hq] at how ⊢
            have HOp : Hid ((⟨k, a, q, c, ns⟩ : Op31).ok w4) := Lib.hid ⟨hq, how⟩
            have HO4 := Lib.hid (owned_below HO.out hb4 (Nat.le_refl _))
            have HOk4 : Hid (∀ o ∈ L ++ [⟨k, a, q, c, ns⟩], Op31.ok w4 o) := Lib.hid (fun o ho' => by
              rcases List.mem_append.1 ho' with h | h
              · exact (HOk.out o h).below hb4
              · rw [List.mem_singleton.1 h]; exact HOp.out)
            have HB14 : Hid (Below w1.heap.size w1 w4) := Lib.hid (HBr.out.trans (hb4.mono HBr.out.size))
            have hone : Hid (∀ u ∈ (#[Value.int .i64 k, Value.slice a q c] : Array Value).toList, u.oneCell' = true) := Lib.hid (by intro u hu; simp at hu; rcases hu with rfl | rfl <;> rfl)
            have hL9 : L.length < 1000000000000 := by omega
            clear hc how ho hb4 HPa hq
            go_wp2_with (first
              | (refine wpList_store_mem aggROp HM4.out 0 rfl rfl rfl rfl rfl rfl rfl rfl ?_; intro w5 h5 ht5; have HM5 := Lib.hid h5; have HB5 := Lib.hid h5.below; have HO5 := Lib.hid (owned_below HO4.out HB5.out (Nat.le_refl _)); have HB15 : Hid (Below w1.heap.size w1 w5) := Lib.hid (HB14.out.trans (HB5.out.mono HB14.out.size)); have hbase : Hid (w1.heap.size ≤ w5.heap.size) := Lib.hid HB15.out.size; have d0 := h5.cell 0 0 rfl rfl; have d1 := h5.cell 0 1 rfl rfl; clear h5 ht5)
              | (at_builtin; refine wpList_append_new (us := #[.int .i64 k, .slice a q c]) elROps HO5.out rfl hone.out hL9 (by decide) hbase.out rfl rfl rfl (by simp [Act.eval]) ?_; intro g6 c6 w6 ho6 hg6 hc6 hm6 hb6 hl6; have HO6 := Lib.hid ho6; have HB6 : Hid (Below w1.heap.size w1 w6) := Lib.hid (below_grownBy HB15.out HO5.out hg6 (Nat.le_refl _) (Nat.le_refl _)); have HOk6 : Hid (∀ o ∈ L ++ [⟨k, a, q, c, ns⟩], Op31.ok w6 o) := Lib.hid (fun o ho' => ((HOk4.out o ho').below HB5.out).grown HO5.out hg6 (by decide)); clear ho6 hg6 hb6 hl6))
            go_roundw
            case rel => exact ⟨j + 1, L ++ [⟨k, a, q, c, ns⟩], by omega, by simp; omega, vint (by omega), rfl, rfl, Lib.hid (by rw [List.map_append]; exact HSt1.out), Lib.hid (by rw [recs_append, List.length_append]; exact HO6.out), HOk6, HB6⟩
            case measure => simp [RowKit.intOf]; omega
    · obtain rfl : j = n := by omega
      have hlt' : decide ((j : Int) < (j : Int)) = false := by simp
      obtain ⟨a1, c1, rfl, hcl, hcm⟩ := owned_form HO.out
      have HE : Hid (scriptL l = .inl (L.map Op31.pl)) := Lib.hid (by rw [HSc.out]; exact HSt.out.all (by rw [← HNl.out]; exact Nat.le_refl _))
      have HCe := Lib.hid (Cells.ownedN HO.out)
      clear hlt
      go_wp2_with fail
      exact HP.out L a1 c1 _ _ rfl HE.out HCe.out HOk.out HBw.out

end Go.Proofs.YtlaaamaaabcfeaaDoor

/-
  DERIVED: THE SHELF's CONTRACTS AT THIS DUMP, IN PLAIN WORDS (tools/lay-plain.mjs out of 'TmpShelf.lean', which tools/lay-shelf.mjs wrote): THE SAME DECLARATIONS UNDER THE SAME NAMES: 'import', 'namespace', 'open', 'def', 'theorem' AND NOTHING ELSE: no command of the shelf's: FOR A HAND-IN. Each laying: the table of numbers ('.._ren') and one theorem, a field a fact of the dump's own or the kernel's comparison; each contract: ONE APPLICATION.
-/
namespace Go.Proofs
open Go.Shelf
def Tryd.lays169_ren : Go.Shelf.Ren := ⟨fun | 169 => 32 | n => n, fun | 70 => 66 | 9 => 9 | 0 => 0 | 72 => 69 | 37 => 67 | 127 => 77 | 3 => 3 | 5 => 5 | n => n, fun | n => n⟩
theorem Tryd.lays169 : Go.Proofs.Lays.n169 Tryd.prog Tryd.lays169_ren := {
  mixed := by kernel_rfl
  f169 := Tryd.func32.trans (congrArg some (by kernel_rfl))
  t0 := Tryd.underlying0
  a0 := Tryd.isAgg0
  z0 := Tryd.sizeOf0
  v0 := Tryd.zeroValue0
  t3 := Tryd.underlying3
  a3 := Tryd.isAgg3
  z3 := Tryd.sizeOf3
  v3 := Tryd.zeroValue3
  t9 := Tryd.underlying9
  a9 := Tryd.isAgg9
  z9 := Tryd.sizeOf9
  v9 := Tryd.zeroValue9
  t37 := Tryd.underlying67
  a37 := Tryd.isAgg67
  z37 := Tryd.sizeOf67
  v37 := Tryd.zeroValue67
  t70 := Tryd.underlying66
  a70 := Tryd.isAgg66
  z70 := Tryd.sizeOf66
  v70 := Tryd.zeroValue66
  t72 := Tryd.underlying69
  a72 := Tryd.isAgg69
  z72 := Tryd.sizeOf69
  v72 := Tryd.zeroValue69
  t127 := Tryd.underlying77
  a127 := Tryd.isAgg77
  z127 := Tryd.sizeOf77
  v127 := Tryd.zeroValue77 }
end Go.Proofs

/- strings.Builder's contracts, laid at this program. -/
namespace Go.Proofs.YtlaaamaaabcfeaaDoor
open Go.RowKit Go.Shelf
set_option linter.unusedVariables false

def renW : Go.Shelf.Ren := ⟨fun | 166 => 31 | 240 => 36 | 276 => 41 | n => n, fun | 0 => 0 | 3 => 3 | 4 => 4 | 5 => 5 | 9 => 9 | 20 => 20 | 37 => 67 | 70 => 66 | 72 => 69 | 75 => 71 | 80 => 37 | 164 => 82 | n => n, fun | n => n⟩
theorem laysW : Go.Proofs.Lays.n166 Tryd.prog renW := {
  mixed := by kernel_rfl
  f166 := Tryd.func31.trans (congrArg some (by kernel_rfl))
  f240 := Tryd.func36.trans (congrArg some (by kernel_rfl))
  f276 := Tryd.func41.trans (congrArg some (by kernel_rfl))
  t0 := Tryd.underlying0
  a0 := Tryd.isAgg0
  z0 := Tryd.sizeOf0
  v0 := Tryd.zeroValue0
  t3 := Tryd.underlying3
  a3 := Tryd.isAgg3
  z3 := Tryd.sizeOf3
  v3 := Tryd.zeroValue3
  t4 := Tryd.underlying4
  a4 := Tryd.isAgg4
  z4 := Tryd.sizeOf4
  v4 := Tryd.zeroValue4
  t9 := Tryd.underlying9
  a9 := Tryd.isAgg9
  z9 := Tryd.sizeOf9
  v9 := Tryd.zeroValue9
  t20 := Tryd.underlying20
  a20 := Tryd.isAgg20
  z20 := Tryd.sizeOf20
  v20 := Tryd.zeroValue20
  t37 := Tryd.underlying67
  a37 := Tryd.isAgg67
  z37 := Tryd.sizeOf67
  v37 := Tryd.zeroValue67
  t70 := Tryd.underlying66
  a70 := Tryd.isAgg66
  z70 := Tryd.sizeOf66
  v70 := Tryd.zeroValue66
  t72 := Tryd.underlying69
  a72 := Tryd.isAgg69
  z72 := Tryd.sizeOf69
  v72 := Tryd.zeroValue69
  t75 := Tryd.underlying71
  a75 := Tryd.isAgg71
  z75 := Tryd.sizeOf71
  v75 := Tryd.zeroValue71
  t164 := Tryd.underlying82
  a164 := Tryd.isAgg82
  z164 := Tryd.sizeOf82
  v164 := Tryd.zeroValue82 }
theorem extraW : Go.Proofs.Builder.Extra Tryd.prog renW := {
  sizeBuilder := by kernel_rfl
  liesBuilder := by kernel_rfl
  t5 := Tryd.underlying5
  a5 := Tryd.isAgg5
  z5 := Tryd.sizeOf5
  v5 := Tryd.zeroValue5
  infoByte := by kernel_rfl
  cellsByte := by kernel_rfl
  sizeByte := by kernel_rfl
  neB5 := by decide }
theorem extraS : Go.Proofs.Builder.Extra Tryd.prog Tryd.lays169_ren := {
  sizeBuilder := by kernel_rfl
  liesBuilder := by kernel_rfl
  t5 := Tryd.underlying5
  a5 := Tryd.isAgg5
  z5 := Tryd.sizeOf5
  v5 := Tryd.zeroValue5
  infoByte := by kernel_rfl
  cellsByte := by kernel_rfl
  sizeByte := by kernel_rfl
  neB5 := by decide }

abbrev Bld (B b : Nat) (l : List UInt8) (w : World) : Prop := Lib.IsBuilder 69 5 B b (Lib.byteCells l) w

theorem bwrite_any (B b : Nat) (l s : List UInt8) (w : World) (h : Bld B b l w) (hlen : l.length + s.length ≤ 140737488355328) (hB : B ≤ w.heap.size) :
    Calls Tryd.prog 31 #[.pointer (some ⟨b, 0, none⟩), .string ⟨s.toArray⟩] w fun e w' => e = .returned (.tuple #[.int .i64 s.length, .nilIface]) ∧ Bld B b (l ++ s) w' ∧ Below B w w' := by
  have h1 := Any.Builder_WriteString laysW extraW B b (Lib.byteCells l) ⟨s.toArray⟩ w h (by rw [Lib.byteCells_length]; exact hlen) hB
  refine Calls.mono (f := 31) h1 ?_
  rintro e w' ⟨h2, h3, h4⟩
  refine ⟨h2, .inr ?_, h4⟩
  have e1 : Lib.byteCells (l ++ s) = Lib.byteCells l ++ Lib.strCells ⟨s.toArray⟩ := by simp [Lib.byteCells, Lib.strCells]
  rw [e1]; exact h3

theorem bstring_any (B b : Nat) (l : List UInt8) (w : World) (h : Bld B b l w) (hB : B ≤ w.heap.size) :
    Calls Tryd.prog 32 #[.pointer (some ⟨b, 0, none⟩)] w fun e w' => e = .returned (.string ⟨l.toArray⟩) ∧ Below B w w' :=
  Any.Builder_String_any Tryd.lays169 extraS B b l w h hB

end Go.Proofs.YtlaaamaaabcfeaaDoor

/- op: Text. -/
namespace Go.Proofs.YtlaaamaaabcfeaaDoor
open Go.RowKit
set_option linter.unusedVariables false
open Go.Lib (decDigits itoa nDigits)

/-- An op that came in. -/
def Op31.inn (w : World) (o : Op31) : Prop := o.ns.length = o.n ∧ Cells w o.a (o.ns.map (Value.int .i64)) ∧ (∀ x ∈ o.ns, In64 x) ∧ o.n ≤ maxLen
def Op31.right (o : Op31) : Bool := rightOp o.k o.ns.length
/-- The text of a list of ops. -/
def textIn (L : List Op31) : List UInt8 := textL ((L.filter Op31.right).map Op31.pl)

theorem textIn_snoc (L : List Op31) (o : Op31) : textIn (L ++ [o]) = if o.right then textIn L ++ (opLine o.pl ++ [10]) else textIn L := by
  unfold textIn textL
  rw [List.filter_append, List.map_append, List.flatMap_append]
  cases h : o.right <;> simp [List.filter_cons, h]
theorem line_right {o : Op31} (h : o.right = true) : lineOf o.k o.ns = opLine o.pl := by
  unfold lineOf; rw [if_pos (show rightOp o.k o.ns.length = true from h)]; rfl

theorem bld_below {B b : Nat} {l : List UInt8} {w w' : World} (h : Bld B b l w) (hb : Below w.heap.size w w') : Bld B b l w' := by
  rcases h with ⟨h1, v, h2, h3, h4⟩ | ⟨h1, v, h2, h3, h4⟩
  · exact .inl ⟨h1, v, by rw [hb.block b (Array.getElem?_eq_some_iff.1 h2).1]; exact h2, owned_below h3 hb (Nat.le_refl _), h4⟩
  · exact .inr ⟨h1, v, by rw [hb.block b (Array.getElem?_eq_some_iff.1 h2).1]; exact h2, owned_below h3 hb (Nat.le_refl _), h4⟩
theorem bld_new (w : World) : Bld w.heap.size w.heap.size [] (w.alloc (.cells #[.pointer none, .slice none 0 0] 69)) :=
  .inl ⟨Nat.le_refl _, .slice none 0 0, heap_alloc_new w _, ⟨rfl, .inl ⟨rfl, rfl⟩⟩, by simp [Value.ownBlock]⟩

def op0 : Op31 := ⟨0, none, 0, 0, []⟩

set_option maxHeartbeats 8000000 in
set_option maxRecDepth 100000 in
theorem text_any (al : Option Addr) (N cl : Nat) (L : List Op31) (hN : L.length = N) (w : World) (hc : Cells w al (recs Op31.cs L)) (hin : ∀ o ∈ L, o.inn w) (hN30 : N ≤ 30) :
    Calls Tryd.prog 24 #[.slice al N cl] w (Gives (strV (textIn L)) w) := by
  have HP : Hid (∀ (t : List UInt8) (w' : World), textIn L = t → Below w.heap.size w w' → Gives (strV (textIn L)) w (.returned (strV t)) w') := Lib.hid (fun s w' h hb => by subst h; exact ⟨rfl, hb⟩)
  generalize Gives (strV (textIn L)) w = Post at *
  have HC := Lib.hid hc
  have HN := Lib.hid hN
  have HIn := Lib.hid hin
  have HB0 := Lib.hid (below_alloc w (.cells #[.pointer none, .slice none 0 0] 69))
  have HD0 := Lib.hid (bld_new w)
  clear hc hN hin
  go_enter Tryd.func24, Tryd.ntmps24
  go_upto_region 2 with fail
  generalize w.alloc _ = w0 at *
  obtain ⟨B, hB⟩ : ∃ B, B = w.heap.size := ⟨_, rfl⟩
  rw [← hB] at HB0 HD0 HP ⊢
  have HBw := Lib.hid hB
  clear hB
  go_wp2_with fail
  go_loopw [5, 8] (fun _ iv wr => ∃ (j : Nat) (t : List UInt8), j ≤ N ∧ iv = .int .i64 (j : Int) ∧ Hid (t = textIn (L.take j)) ∧ Hid (t.length ≤ j * 20001) ∧ Hid (Bld B B t wr) ∧ Hid (Below B w wr)) (fun _ iv _ => N - (RowKit.intOf iv).toNat)
  case atStart => exact ⟨0, [], Nat.zero_le _, rfl, Lib.hid rfl, Lib.hid (Nat.zero_le _), HD0, HB0⟩
  case round =>
    obtain ⟨j, t, hj, rfl, HT, HTl, HD, HB⟩ := hrel
    by_cases hlt : j < N
    · have hlt' : (j : Int) < (N : Int) := by omega
      have hjl : j < L.length := by rw [HN.out]; exact hlt
      have hCw := HC.out.below HB.out (by rw [HBw.out]; exact Nat.le_refl _)
      obtain ⟨b, off, rfl, _, hcell⟩ := recs_cells Op31.len (by decide) op0 hCw hjl
      have hmem : L.getD j op0 ∈ L := by rw [List.getD_eq_getElem?_getD, List.getElem?_eq_getElem hjl]; exact List.getElem_mem _
      have HOi := Lib.hid (HIn.out _ hmem)
      have HTk : Hid (L.take (j + 1) = L.take j ++ [L.getD j op0]) := Lib.hid (by rw [List.take_succ_eq_append_getElem hjl, List.getD_eq_getElem?_getD, List.getElem?_eq_getElem hjl]; rfl)
      generalize L.getD j op0 = o at *
      obtain ⟨k, a, n, c, ns⟩ := o
      have HTn : Hid (textIn (L.take (j + 1)) = if rightOp k n then t ++ (lineOf k ns ++ [10]) else t) := Lib.hid (by
        rw [HTk.out, textIn_snoc, HT.out]
        have e : (⟨k, a, n, c, ns⟩ : Op31).right = rightOp k n := by unfold Op31.right; rw [HOi.out.1]
        rw [e]
        cases hr : rightOp k n with
        | false => rfl
        | true => rw [line_right (o := ⟨k, a, n, c, ns⟩) (by rw [e]; exact hr)])
      have HLl : Hid ((lineOf k ns).length ≤ 20000) := Lib.hid (by
        cases hr : rightOp k n with
        | false => unfold lineOf; rw [if_neg (by rw [show ns.length = n from HOi.out.1, hr]; simp)]; simp
        | true => exact lineOf_len HOi.out.2.2.1 (by have := (right_range hr).2.2; have : ns.length = n := HOi.out.1; omega))
      have HC2 : Hid (∀ i v, [Value.int .i64 k, Value.slice a n c][i]? = some v → wr.cell? ⟨b, off + j * 2 + i, none⟩ = some v) := Lib.hid hcell
      have HNm : Hid (n ≤ maxLen) := Lib.hid HOi.out.2.2.2
      have HCo : Hid (Cells wr a (ns.map (Value.int .i64))) := Lib.hid (Cells.below HOi.out.2.1 HB.out (by rw [HBw.out]; exact Nat.le_refl _))
      have HM := Lib.hid (Mem.one wr #[.int .i64 0, .slice none 0 0] 25)
      clear hCw hmem hcell hjl
      go_wp2_with (first
        | (refine wpList_load_part aggOp [.int .i64 k, .slice a n c] HC2.out rfl rfl rfl rfl ?_)
        | (refine wpList_store_mem aggOp HM.out 0 rfl rfl rfl rfl rfl rfl rfl rfl ?_; intro w3 h3 ht3; have HM3 := Lib.hid h3; have d0 := h3.cell 0 0 rfl rfl; have d1 := h3.cell 0 1 rfl rfl; clear h3 ht3))
      refine (right_any k a n c _ HNm.out).mono ?_
      rintro e w4 ⟨rfl, hb4⟩
      have HM4 := Lib.hid (HM3.out.later hb4)
      have d0 := HM4.out.cell 0 0 rfl rfl
      have d1 := HM4.out.cell 0 1 rfl rfl
      clear hb4
      have HB4 : Hid (Below B w w4) := Lib.hid (HB.out.trans (HM4.out.below.mono (by rw [HBw.out]; exact HB.out.size)))
      have HD4 := Lib.hid (bld_below HD.out HM4.out.below)
      cases hr : rightOp k n with
      | false =>
        have HTm : Hid (t = textIn (L.take (j + 1))) := Lib.hid (by rw [HTn.out, hr]; rfl)
        clear hr
        go_wp2_with fail
        go_roundw
        case rel => exact ⟨j + 1, t, by omega, vint (by omega), HTm, Lib.hid (by have := HTl.out; omega), HD4, HB4⟩
        case measure => simp [RowKit.intOf]; omega
      | true =>
        have HTm : Hid (t ++ (lineOf k ns ++ [10]) = textIn (L.take (j + 1))) := Lib.hid (by rw [HTn.out, hr]; rfl)
        clear hr
        go_wp2_with fail
        refine (line_any k a n c ns HOi.out.1 HOi.out.2.2.1 _ (HCo.out.below HM4.out.below (Nat.le_refl _)) HNm.out).mono ?_
        rintro e w5 ⟨rfl, hb5⟩
        have HB5 : Hid (Below B w w5) := Lib.hid (HB4.out.trans (hb5.mono (by rw [HBw.out]; exact HB4.out.size)))
        have HD5 := Lib.hid (bld_below HD4.out hb5)
        clear hb5
        generalize lineOf k ns = ln at *
        have hs1 : (bstr ln).size ≤ 20000 := by rw [bstr_size]; exact HLl.out
        have ha1 : bstr ln ++ ({ data := #[10] } : ByteArray) = bstr (ln ++ [10]) := bstr_append ln [10]
        go_wp2_with fail
        refine (bwrite_any B B t (ln ++ [10]) _ HD5.out (by have := HTl.out; have := HLl.out; simp; omega) (by rw [HBw.out]; exact HB5.out.size)).mono ?_
        rintro e w6 ⟨rfl, hd6, hb6⟩
        have HD6 := Lib.hid hd6
        have HB6 : Hid (Below B w w6) := Lib.hid (HB5.out.trans hb6)
        clear hd6 hb6
        go_wp2_with fail
        go_roundw
        case rel => exact ⟨j + 1, t ++ (ln ++ [10]), by omega, vint (by omega), HTm, Lib.hid (by have := HTl.out; have := HLl.out; simp; omega), HD6, HB6⟩
        case measure => simp [RowKit.intOf]; omega
    · obtain rfl : j = N := by omega
      have hlt' : decide ((j : Int) < (j : Int)) = false := by simp
      have HE : Hid (textIn L = t) := Lib.hid (by rw [HT.out, List.take_of_length_le (by rw [HN.out]; exact Nat.le_refl _)])
      clear hlt
      go_wp2_with fail
      refine (bstring_any B B t _ HD.out (by rw [HBw.out]; exact HB.out.size)).mono ?_
      rintro e w4 ⟨rfl, hb4⟩
      have HB4 : Hid (Below B w w4) := Lib.hid (HB.out.trans hb4)
      go_wp2_with fail
      exact HP.out t _ HE.out HB4.out

end Go.Proofs.YtlaaamaaabcfeaaDoor
