/- Parts of the proof, one behind the other: Ue, Uf, Ug, Arr. -/
import Derived.Test.YtjgdplengfnkaaaM7
import Derived.OpenShut
import Derived.Lib.SmallJoins

/- law15: ObjectPlays; a slice of calls that came in. -/
namespace Go.Proofs.Ytjgdplengfnkaaa
open Go.RowKit Go.ChangeShapes Go.WideShapes Go.Deep
set_option linter.unusedVariables false

set_option maxHeartbeats 2000000 in
set_option maxRecDepth 20000 in
theorem objectPlays_any (c : Nat) (hc : c < 256) (a : Option Addr) (n cap : Nat) (l : List Op15) (hn : l.length = n) (w : World) (hcs : Cells w a (recs Op15.cs l)) (hok : ∀ o ∈ l, o.ok) (hnm : n ≤ maxLen) :
    Calls Try.prog 4 #[.int .u8 (c : Int), .slice a n cap] w fun e w' => e = .returned (.bool true) ∧ Below w.heap.size w w' := by
  have HN := Lib.hid hn
  have HCS := Lib.hid hcs
  have HOK := Lib.hid hok
  have HNM := Lib.hid hnm
  clear hn hcs hok hnm
  go_enter Try.func4, Try.ntmps4
  go_wp2_with fail
  refine (awake15_any _).mono ?_
  rintro e w1 ⟨rfl, hb1⟩
  have HB1 := Lib.hid hb1
  clear hb1
  go_wp2_with fail
  refine (played15_any c hc a n cap l HN.out _ (HCS.out.below HB1.out (Nat.le_refl _)) HOK.out HNM.out).mono ?_
  rintro e w2 ⟨F, v, S, m, rfl, hdl, hfit, hra, hd, hb2⟩
  obtain ⟨an, cn, al, cl, aw, cw, ad, cd, ap, cp, rfl, y1, y2, y3, y4, y5⟩ := hra.ex
  clear y1 y2 y3 y4 y5 hdl hfit hra hd
  have HB2 := Lib.hid (HB1.out.trans (hb2.mono HB1.out.size))
  clear hb2
  unfold vdev
  go_wp2_with fail
  go_ret
  exact ⟨rfl, HB2.out.trans ((below_alloc w2 _).mono HB2.out.size)⟩

theorem seven {α : Type} {l : List α} (h : l.length = 7) : ∃ a0 a1 a2 a3 a4 a5 a6, l = [a0, a1, a2, a3, a4, a5, a6] := by
  match l, h with
  | [a0, a1, a2, a3, a4, a5, a6], _ => exact ⟨a0, a1, a2, a3, a4, a5, a6, rfl⟩

section
variable {H : Type} {enc : TypeId × Value → H} {w : World} {spare : Nat → Bool} {held : Bool}

theorem ops15_read {fuel : Nat} {v : Value} {y : DataW H × List MemPlace} (h : DataW.trod enc Try.prog w 0 spare held fuel 57 [v] = some y) :
    ∃ (a : Option Addr) (n cap : Nat) (l : List Op15), v = .slice a n cap ∧ l.length = n ∧ Cells w a (recs Op15.cs l) ∧ (∀ o ∈ l, o.ok) ∧ n ≤ maxLen := by
  obtain ⟨a, len, cap, m, rfl, hl, hm, hc⟩ := elems_read Try.underlying57 (show Try.prog.cellsOf 125 = 7 by kernel_rfl) (by decide) h
  rcases hc with rfl | ⟨b, off, rfl, hc⟩
  · exact ⟨a, 0, cap, [], rfl, rfl, Cells.nil _ _, by simp, Nat.zero_le _⟩
  · have each : ∀ i, i < len → ∃ x : Op15, (∀ r u, x.cs[r]? = some u → w.cell? ⟨b, off + i * 7 + r, none⟩ = some u) ∧ x.ok := by
      intro i hi
      obtain ⟨us, z, hlen, hat, hz⟩ := hc i hi
      obtain ⟨ys, n', _, _, _, hyl, hf⟩ := DataW.trod_struct Try.underlying125 hz
      obtain ⟨u0, u1, u2, u3, u4, u5, u6, rfl⟩ := seven hlen
      have c1 : Try.prog.cellsOf 3 = 1 := by kernel_rfl
      have c2 : Try.prog.cellsOf 76 = 1 := by kernel_rfl
      have c3 : Try.prog.cellsOf 73 = 2 := by kernel_rfl
      have get : ∀ (j : Nat) (x : DataW H × List MemPlace → Prop), j < 6 → ∃ z, ys[j]? = some z := fun j _ hj => ⟨_, List.getElem?_eq_getElem (by rw [hyl]; exact hj)⟩
      obtain ⟨z0, e0⟩ := get 0 (fun _ => True) (by decide)
      obtain ⟨z1, e1⟩ := get 1 (fun _ => True) (by decide)
      obtain ⟨z2, e2⟩ := get 2 (fun _ => True) (by decide)
      obtain ⟨z3, e3⟩ := get 3 (fun _ => True) (by decide)
      obtain ⟨z4, e4⟩ := get 4 (fun _ => True) (by decide)
      obtain ⟨z5, e5⟩ := get 5 (fun _ => True) (by decide)
      have f0 : DataW.trod enc Try.prog w 0 spare held n' 3 (([u0, u1, u2, u3, u4, u5, u6].drop 0).take (Try.prog.cellsOf 3)) = some z0 := (hf 0 _ rfl).trans e0
      rw [c1] at f0
      replace f0 : DataW.trod enc Try.prog w 0 spare held n' 3 [u0] = some z0 := f0
      have f1 : DataW.trod enc Try.prog w 0 spare held n' 3 (([u0, u1, u2, u3, u4, u5, u6].drop 1).take (Try.prog.cellsOf 3)) = some z1 := (hf 1 _ rfl).trans e1
      rw [c1] at f1
      replace f1 : DataW.trod enc Try.prog w 0 spare held n' 3 [u1] = some z1 := f1
      have f2 : DataW.trod enc Try.prog w 0 spare held n' 3 (([u0, u1, u2, u3, u4, u5, u6].drop 2).take (Try.prog.cellsOf 3)) = some z2 := (hf 2 _ rfl).trans e2
      rw [c1] at f2
      replace f2 : DataW.trod enc Try.prog w 0 spare held n' 3 [u2] = some z2 := f2
      have f3 : DataW.trod enc Try.prog w 0 spare held n' 3 (([u0, u1, u2, u3, u4, u5, u6].drop 3).take (Try.prog.cellsOf 3)) = some z3 := (hf 3 _ rfl).trans e3
      rw [c1] at f3
      replace f3 : DataW.trod enc Try.prog w 0 spare held n' 3 [u3] = some z3 := f3
      have f4 : DataW.trod enc Try.prog w 0 spare held n' 76 (([u0, u1, u2, u3, u4, u5, u6].drop 4).take (Try.prog.cellsOf 76)) = some z4 := (hf 4 _ rfl).trans e4
      rw [c2] at f4
      replace f4 : DataW.trod enc Try.prog w 0 spare held n' 76 [u4] = some z4 := f4
      have f5 : DataW.trod enc Try.prog w 0 spare held n' 73 (([u0, u1, u2, u3, u4, u5, u6].drop 5).take (Try.prog.cellsOf 73)) = some z5 := (hf 5 _ rfl).trans e5
      rw [c3] at f5
      replace f5 : DataW.trod enc Try.prog w 0 spare held n' 73 [u5, u6] = some z5 := f5
      obtain ⟨k, rfl, hk⟩ := int_read Try.underlying3 f0
      obtain ⟨p1, rfl, h1⟩ := int_read Try.underlying3 f1
      obtain ⟨p2, rfl, h2⟩ := int_read Try.underlying3 f2
      obtain ⟨p3, rfl, h3⟩ := int_read Try.underlying3 f3
      obtain ⟨p4, rfl, h4⟩ := int_read Try.underlying76 f4
      obtain ⟨ys', n'', _, _, _, hyl', hf'⟩ := DataW.trod_struct Try.underlying73 f5
      have get' : ∀ (j : Nat), j < 2 → ∃ z, ys'[j]? = some z := fun j hj => ⟨_, List.getElem?_eq_getElem (by rw [hyl']; exact hj)⟩
      obtain ⟨x0, i0⟩ := get' 0 (by decide)
      obtain ⟨x1, i1⟩ := get' 1 (by decide)
      have q0 : DataW.trod enc Try.prog w 0 spare held n'' 3 (([u5, u6].drop 0).take (Try.prog.cellsOf 3)) = some x0 := (hf' 0 _ rfl).trans i0
      rw [c1] at q0
      replace q0 : DataW.trod enc Try.prog w 0 spare held n'' 3 [u5] = some x0 := q0
      have q1 : DataW.trod enc Try.prog w 0 spare held n'' 3 (([u5, u6].drop 1).take (Try.prog.cellsOf 3)) = some x1 := (hf' 1 _ rfl).trans i1
      rw [c1] at q1
      replace q1 : DataW.trod enc Try.prog w 0 spare held n'' 3 [u6] = some x1 := q1
      obtain ⟨p5, rfl, h5⟩ := int_read Try.underlying3 q0
      obtain ⟨p6, rfl, h6⟩ := int_read Try.underlying3 q1
      have h4' := wf_u64 h4
      obtain ⟨x, rfl⟩ := Int.eq_ofNat_of_zero_le h4'.1
      exact ⟨⟨k, p1, p2, p3, x, p5, p6⟩, hat, wf_i64 hk, wf_i64 h1, wf_i64 h2, wf_i64 h3, (show x < 18446744073709551616 by omega), wf_i64 h5, wf_i64 h6⟩
    obtain ⟨l, hll, hcs, hok⟩ := recs_of Op15.len (by decide) ⟨0, 0, 0, 0, 0, 0, 0⟩ each
    exact ⟨_, len, cap, l, rfl, hll, hcs, hok, by omega⟩
end

end Go.Proofs.Ytjgdplengfnkaaa

/- object: Ptr, Data, Ptrs; the reference's. -/
namespace Go.Proofs.Ytjgdplengfnkaaa
open Go.RowKit
set_option linter.unusedVariables false

/-- A pointer, held within its bound. -/
def capP (x : Nat) : Nat := if 1099511627776 < x then 1099511627776 else x
theorem capP_le (x : Nat) : capP x ≤ 1099511627776 := by unfold capP; split <;> omega

set_option maxHeartbeats 1000000 in
theorem optrG_any {w : World} {F : Foot} {S : Dev} (h : DevAt w F S) (a i : Int) :
    Calls Try.prog 41 #[vdev F, .int .i64 a, .int .i64 i] w fun e w' => e = .returned (.tuple #[.int .i64 ((if (placeN S a i false).code = 0 then capP (peek S.cache (placeN S a i false).at_) else 0 : Nat) : Int), .int .i64 (placeN S a i false).code]) ∧ Below w.heap.size w w' := by
  have HD := Lib.hid h
  clear h
  obtain ⟨pn, hpn⟩ : ∃ pn, pn = placeN S a i false := ⟨_, rfl⟩
  rw [← hpn]
  have HPN := Lib.hid hpn
  clear hpn
  generalize hR : (if pn.code = 0 then capP (peek S.cache pn.at_) else 0 : Nat) = R
  have HR := Lib.hid hR
  clear hR
  go_enter Try.func41, Try.ntmps41
  go_wp2_with fail
  refine (ofield_any HD.out a i false).mono ?_
  rw [← HPN.out]
  rintro e w1 ⟨rfl, hb1⟩
  clear HPN
  obtain ⟨q, c⟩ := pn
  dsimp only at HR ⊢
  have HB := Lib.hid hb1
  have HD1 := Lib.hid (HD.out.below hb1)
  clear hb1 HD
  by_cases hc : c = 0
  · subst hc
    go_wp2_with fail
    refine (dget_any HD1.out q).mono ?_
    rintro e w2 ⟨rfl, rfl⟩
    rw [if_pos trivial] at HR
    generalize peek S.cache q = x at *
    by_cases hx : 1099511627776 < x
    · have HV : Hid (R = 1099511627776) := Lib.hid (by rw [← HR.out]; unfold capP; rw [if_pos hx])
      have hmin : min (x : Int) 1099511627776 = 1099511627776 := Int.min_eq_right (by omega)
      go_wp2_with fail
      go_ret2
      exact ⟨by rw [HV.out]; rfl, HB.out⟩
    · have HV : Hid (R = x) := Lib.hid (by rw [← HR.out]; unfold capP; rw [if_neg hx])
      have hmin : min (x : Int) 1099511627776 = (x : Int) := Int.min_eq_left (by omega)
      go_wp2_with fail
      go_ret2
      exact ⟨by rw [HV.out]; rfl, HB.out⟩
  · have hc1 : (c != 0) = true := by simpa using hc
    have HV : Hid (R = 0) := Lib.hid (by rw [← HR.out, if_neg hc])
    clear hc
    go_wp2_with fail
    go_ret2
    exact ⟨by rw [HV.out]; rfl, HB.out⟩

set_option maxHeartbeats 1000000 in
theorem odataG_any {w : World} {F : Foot} {S : Dev} (h : DevAt w F S) (a i : Int) :
    Calls Try.prog 42 #[vdev F, .int .i64 a, .int .i64 i] w fun e w' => e = .returned (.tuple #[vu64 (if (placeN S a i true).code = 0 then peek S.cache (placeN S a i true).at_ else 0 : Nat), .int .i64 (placeN S a i true).code]) ∧ Below w.heap.size w w' := by
  have HD := Lib.hid h
  clear h
  obtain ⟨pn, hpn⟩ : ∃ pn, pn = placeN S a i true := ⟨_, rfl⟩
  rw [← hpn]
  have HPN := Lib.hid hpn
  clear hpn
  generalize hR : (if pn.code = 0 then peek S.cache pn.at_ else 0 : Nat) = R
  have HR := Lib.hid hR
  clear hR
  go_enter Try.func42, Try.ntmps42
  go_wp2_with fail
  refine (ofield_any HD.out a i true).mono ?_
  rw [← HPN.out]
  rintro e w1 ⟨rfl, hb1⟩
  clear HPN
  obtain ⟨q, c⟩ := pn
  dsimp only at HR ⊢
  have HB := Lib.hid hb1
  have HD1 := Lib.hid (HD.out.below hb1)
  clear hb1 HD
  by_cases hc : c = 0
  · subst hc
    go_wp2_with fail
    refine (dget_any HD1.out q).mono ?_
    rintro e w2 ⟨rfl, rfl⟩
    rw [if_pos trivial] at HR
    go_wp2_with fail
    go_ret2
    exact ⟨by rw [HR.out]; rfl, HB.out⟩
  · have hc1 : (c != 0) = true := by simpa using hc
    have HV : Hid (R = 0) := Lib.hid (by rw [← HR.out, if_neg hc])
    clear hc
    go_wp2_with fail
    go_ret2
    exact ⟨by rw [HV.out]; rfl, HB.out⟩

set_option maxHeartbeats 400000 in
theorem rptr_any (x : Nat) (w : World) : Calls Try.prog 43 #[vu64 x] w fun e w' => e = .returned (.int .i64 (capP x : Nat)) ∧ w = w' := by
  by_cases hx : 1099511627776 < x
  · have HV : Hid (capP x = 1099511627776) := Lib.hid (by unfold capP; rw [if_pos hx])
    have hx' : (1099511627776 : Int) < (x : Int) := by omega
    go_enter Try.func43, Try.ntmps43
    go_wp2_with fail
    go_ret
    exact ⟨by rw [HV.out]; rfl, rfl⟩
  · have HV : Hid (capP x = x) := Lib.hid (by unfold capP; rw [if_neg hx])
    have hx' : ¬ (1099511627776 : Int) < (x : Int) := by omega
    go_enter Try.func43, Try.ntmps43
    go_wp2_with fail
    go_ret
    exact ⟨by rw [HV.out]; rfl, rfl⟩

/-- Where an object's pointers lead. -/
def ptrL (S : Dev) (a : Int) (k : Nat) : List Nat := (List.range k).map fun i : Nat => capP (peek S.cache (a + 1 + (i : Int)))
theorem ptrL_succ (S : Dev) (a : Int) (k : Nat) : ptrL S a (k + 1) = ptrL S a k ++ [capP (peek S.cache (a + 1 + (k : Int)))] := by simp [ptrL, List.range_succ]
theorem ptrL_length (S : Dev) (a : Int) (k : Nat) : (ptrL S a k).length = k := by simp [ptrL]

def PtrsPost (S : Dev) (a : Int) (w : World) : Ending → World → Prop := fun e w' => Below w.heap.size w w' ∧
      (((headN S a).code = 0 ∧ ∃ v, e = .returned (.tuple #[v, .int .i64 0]) ∧ w'.ownsRow w.heap.size 3 1 v (headN S a).p.toNat ((ptrL S a (headN S a).p.toNat).map vi)) ∨
       ((headN S a).code = 22 ∧ e = .returned (.tuple #[.slice none 0 0, .int .i64 22])))

set_option maxHeartbeats 1000000 in
set_option maxRecDepth 20000 in
theorem optrs_any {w : World} {F : Foot} {S : Dev} (h : DevAt w F S) (a : Int) :
    Calls Try.prog 45 #[vdev F, .int .i64 a] w (PtrsPost S a w) := by
  generalize hP : PtrsPost S a w = Post
  have HP := Lib.hid hP
  clear hP
  have HSm := Lib.hid (head_small h.small (a := a))
  have HD := Lib.hid h
  have HPl : Hid (∀ i, placeN S a i false = if (headN S a).code ≠ 0 then ⟨0, 22⟩ else if false = true then (if 0 ≤ i ∧ i < (headN S a).d then ⟨a + (1 + (headN S a).p + i), 0⟩ else ⟨0, 7⟩) else (if 0 ≤ i ∧ i < (headN S a).p then ⟨a + (1 + i), 0⟩ else ⟨0, 7⟩)) := Lib.hid (fun i => rfl)
  clear h
  go_enter Try.func45, Try.ntmps45
  go_wp2_with fail
  refine (ohead_any HD.out a).mono ?_
  rintro e w1 ⟨rfl, hb1⟩
  have hC22 := headN_code2 S a
  generalize hX : headN S a = x at *
  have HX := Lib.hid hX
  clear hX
  obtain ⟨p, d, c⟩ := x
  unfold Odec.val
  dsimp only at HSm HPl hC22 ⊢
  have HM := Lib.hid (((Mem.start w).later hb1).alloc #[.int .i64 p, .int .i64 d] 73)
  clear hb1
  go_upto_region 2 with fail
  generalize w1.alloc _ = w2 at *
  generalize w1.heap.size = g at *
  have c0 := HM.out.cell 0 0 rfl rfl
  by_cases hc : c = 0
  · subst hc
    obtain ⟨ha, ⟨hp0, hp1⟩, _⟩ := HSm.out rfl
    obtain ⟨n, rfl⟩ := Int.eq_ofNat_of_zero_le hp0
    have HPk : Hid (∀ k : Nat, k < n → placeN S a (k : Int) false = ⟨a + (1 + (k : Int)), 0⟩) := Lib.hid (fun k hk => by rw [HPl.out, if_neg (by simp), if_neg (by simp), if_pos (by omega)])
    clear hC22 HSm HPl
    go_wp2_with fail
    go_loopw [8, 23] (fun v i wr => ∃ k : Nat, k ≤ n ∧ i = .int .i64 k ∧ wr.ownsRow w2.heap.size 3 1 v k ((ptrL S a k).map vi) ∧ Below w2.heap.size w2 wr) (fun _ i _ => n - (intOf i).toNat)
    case atStart => exact ⟨0, Nat.zero_le _, rfl, ⟨rfl, .inl ⟨rfl, rfl⟩⟩, Below.refl _ _⟩
    case round =>
      obtain ⟨k, hk, rfl, ho, hb⟩ := hrel
      obtain ⟨a1, c1, rfl, hc1, hm1⟩ := owned_form ho
      have HO := Lib.hid ho
      have HB := Lib.hid hb
      clear ho hb
      by_cases hlt : k < n
      · have hlt' : (k : Int) < (n : Int) := by omega
        have HS := Lib.hid (ptrL_succ S a k)
        go_wp2_with fail
        refine (optrG_any ((HD.out.below HM.out.below).below HB.out) a k).mono ?_
        rw [HPk.out k hlt]
        rintro e w3 ⟨rfl, hb3⟩
        rw [if_pos rfl]
        dsimp only
        rw [show a + (1 + (k : Int)) = a + 1 + (k : Int) by omega]
        generalize capP (peek S.cache (a + 1 + (k : Int))) = y at *
        have HO3 := Lib.hid (owned_below HO.out hb3 (Nat.le_refl _))
        have HB3 := Lib.hid (HB.out.trans (hb3.mono HB.out.size))
        have hone : Hid (∀ u ∈ (#[vi y] : Array Value).toList, u.oneCell' = true) := Lib.hid (by intro u hu; simp at hu; subst hu; rfl)
        have hbase : Hid (w2.heap.size ≤ w3.heap.size) := Lib.hid HB3.out.size
        have hk9 : k < 1000000000000 := by omega
        clear hb3 HO HB
        go_wp2_with (at_builtin; refine wpList_append_new (us := #[vi y]) elInt HO3.out rfl hone.out hk9 (by decide) hbase.out rfl rfl rfl (by simp [Act.eval]) ?_; intro g6 c6 w6 ho6 hg6 hc6 hm6 hb6 hl6; have HO6 := Lib.hid ho6; have HG6 := Lib.hid hg6; clear ho6 hg6)
        refine ⟨⟨k + 1, by omega, vint (by omega), ?_, below_grownBy HB3.out HO3.out HG6.out (Nat.le_refl _) (Nat.le_refl _)⟩, by simp [intOf]; omega⟩
        rw [HS.out]
        simpa using HO6.out
      · obtain rfl : k = n := by omega
        have hlt' : decide ((k : Int) < (k : Int)) = false := by simp
        go_wp2_with fail
        rw [← HP.out]
        refine ⟨(HM.out.later HB.out).below, .inl ⟨by rw [HX.out], _, rfl, ?_⟩⟩
        rw [HX.out]
        exact owned_base HO.out HM.out.below.size
  · have hc2 : c = 22 := hC22.elim (fun h => absurd h hc) id
    subst hc2
    clear hc hC22
    go_wp2_with fail
    rw [← HP.out]
    exact ⟨HM.out.below, .inr ⟨by rw [HX.out], rfl⟩⟩

/-- What the reference's list of fields is. -/
def RList (e n : Nat) (vs : List Value) (w : World) : Ending → World → Prop := fun r w' => ∃ v, r = .returned v ∧ w'.ownsRow w.heap.size e 1 v n vs ∧ Below w.heap.size w w'

set_option maxHeartbeats 2000000 in
set_option maxRecDepth 20000 in
theorem rptrs15_any {w : World} {v : Value} {S : Dev} {m : Nat} (hm : S.dirty.length = m) (h : RAt w v m S.ref) {N : Nat} (hf : S.fit N) (a : Int) :
    Calls Try.prog 47 #[v, .int .i64 a] w (RList 3 (if (headN S a).code = 0 then (headN S a).p.toNat else 0) ((ptrL S a (if (headN S a).code = 0 then (headN S a).p.toNat else 0)).map vi) w) := by
  subst hm
  obtain ⟨an, cn, al, cl, aw, cw, ad, cd, ap, cp, m, sv, fz, dd, rfl, ho, hdl, hm8, hsv, hfz⟩ := ropen h hf
  have HRA := Lib.hid h
  have HF := Lib.hid hf
  have HSm := Lib.hid (head_small hf.wf.small (a := a))
  rw [hdl] at HRA
  have HK1 := Lib.hid ho.k1
  have HCL := Lib.hid ho.cl
  obtain ⟨n, hn⟩ : ∃ n, n = if (headN S a).code = 0 then (headN S a).p.toNat else 0 := ⟨_, rfl⟩
  rw [← hn]
  generalize hpo : RList 3 n ((ptrL S a n).map vi) w = Post
  have HDL := Lib.hid hdl
  have HN := Lib.hid hn
  have HPO := Lib.hid hpo
  clear hdl hn hpo
  clear h hf ho
  have HM := Lib.hid (Mem.one w #[.slice an m cn, .slice al m cl, .slice aw m cw, .slice ad m cd, .slice ap m cp, .int .i64 sv, .int .i64 fz, .bool dd] 31)
  go_enter Try.func47, Try.ntmps47
  go_upto_region 1 with fail
  generalize w.alloc _ = w0 at *
  go_wp2_with (refine wpList_load_mem aggRd HM.out 0 rfl rfl rfl rfl rfl ?_)
  refine (rhead15_any HDL.out (HRA.out.below HM.out.below (Nat.le_refl _)) HF.out a).mono ?_
  rintro e w1 ⟨rfl, hb1⟩
  generalize headN S a = x at *
  obtain ⟨p, d, c⟩ := x
  unfold headV
  dsimp only at HSm HN ⊢
  have HM2 := Lib.hid ((HM.out.later hb1).alloc #[.int .i64 p, .int .i64 d] 88)
  clear hb1 HM
  by_cases hc : c = 0
  · subst hc
    obtain ⟨ha, ⟨hp0, hp1⟩, _⟩ := HSm.out rfl
    have hnp : p = (n : Int) := by have := HN.out; rw [if_pos rfl] at this; omega
    subst hnp
    rw [decide_eq_true (show (0 : Int) = 0 from rfl)]
    go_upto_region 2 with fail
    generalize w1.alloc _ = w2 at *
    generalize w1.heap.size = g at *
    go_wp2_with fail
    go_loopw [7, 8] (fun v i wr => ∃ k : Nat, k ≤ n ∧ i = .int .i64 k ∧ wr.ownsRow w2.heap.size 3 1 v k ((ptrL S a k).map vi) ∧ Below w2.heap.size w2 wr) (fun _ i _ => n - (intOf i).toNat)
    case atStart => exact ⟨0, Nat.zero_le _, rfl, ⟨rfl, .inl ⟨rfl, rfl⟩⟩, Below.refl _ _⟩
    case round =>
      obtain ⟨k, hk, rfl, ho, hb⟩ := hrel
      obtain ⟨a1, c1, rfl, hc1, hm1⟩ := owned_form ho
      have c0 := (HM2.out.later hb).cell 0 0 rfl rfl
      have o0 := (HM2.out.later hb).cell 1 0 rfl rfl
      have HO := Lib.hid ho
      have HB := Lib.hid hb
      clear ho hb
      by_cases hlt : k < n
      · have hlt' : (k : Int) < (n : Int) := by omega
        have HS := Lib.hid (ptrL_succ S a k)
        go_wp2_with fail
        refine (rget_any an m cn S.cache _ (HK1.out.below (HM2.out.later HB.out).below (Nat.le_refl _)) HCL.out (by omega) _).mono ?_
        rintro e w3 ⟨rfl, rfl⟩
        generalize peek S.cache (a + 1 + (k : Int)) = y at *
        go_wp2_with fail
        refine (rptr_any y _).mono ?_
        rintro e w3 ⟨rfl, rfl⟩
        generalize capP y = y2 at *
        have hone : Hid (∀ u ∈ (#[vi y2] : Array Value).toList, u.oneCell' = true) := Lib.hid (by intro u hu; simp at hu; subst hu; rfl)
        have hbase : Hid (w2.heap.size ≤ wr.heap.size) := Lib.hid HB.out.size
        have hk9 : k < 1000000000000 := by omega
        clear c0 o0
        go_wp2_with (at_builtin; refine wpList_append_new (us := #[vi y2]) elInt HO.out rfl hone.out hk9 (by decide) hbase.out rfl rfl rfl (by simp [Act.eval]) ?_; intro g6 c6 w6 ho6 hg6 hc6 hm6 hb6 hl6; have HO6 := Lib.hid ho6; have HG6 := Lib.hid hg6; clear ho6 hg6)
        refine ⟨⟨k + 1, by omega, vint (by omega), ?_, below_grownBy HB.out HO.out HG6.out (Nat.le_refl _) (Nat.le_refl _)⟩, by simp [intOf]; omega⟩
        rw [HS.out]
        simpa using HO6.out
      · obtain rfl : k = n := by omega
        have hlt' : decide ((k : Int) < (k : Int)) = false := by simp
        go_wp2_with fail
        rw [← HPO.out]
        exact ⟨_, rfl, owned_base HO.out HM2.out.below.size, (HM2.out.later HB.out).below⟩
  · have hn0 : n = 0 := by rw [HN.out, if_neg hc]
    subst hn0
    rw [decide_eq_false hc]
    clear hc
    go_upto_region 2 with fail
    generalize w1.alloc _ = w2 at *
    generalize w1.heap.size = g at *
    go_wp2_with fail
    go_loopw [7, 8] (fun v i wr => v = .slice none 0 0 ∧ i = .int .i64 0 ∧ wr = w2) (fun _ i _ => 0)
    case atStart => exact ⟨rfl, rfl, rfl⟩
    case round =>
      obtain ⟨rfl, rfl, rfl⟩ := hrel
      go_wp2_with fail
      rw [← HPO.out]
      exact ⟨_, rfl, ⟨rfl, .inl ⟨rfl, rfl⟩⟩, HM2.out.below⟩

set_option maxHeartbeats 2000000 in
set_option maxRecDepth 20000 in
theorem rwords15_any {w : World} {v : Value} {S : Dev} {m : Nat} (hm : S.dirty.length = m) (h : RAt w v m S.ref) {N : Nat} (hf : S.fit N) (a : Int) :
    Calls Try.prog 49 #[v, .int .i64 a] w (RList 76 (if (headN S a).code = 0 then objSize (headN S a).p (headN S a).d else 0) ((wordsAt S.cache a (if (headN S a).code = 0 then objSize (headN S a).p (headN S a).d else 0)).map vu64) w) := by
  subst hm
  obtain ⟨an, cn, al, cl, aw, cw, ad, cd, ap, cp, m, sv, fz, dd, rfl, ho, hdl, hm8, hsv, hfz⟩ := ropen h hf
  have HRA := Lib.hid h
  have HF := Lib.hid hf
  have HSm := Lib.hid (head_small hf.wf.small (a := a))
  rw [hdl] at HRA
  have HK1 := Lib.hid ho.k1
  have HCL := Lib.hid ho.cl
  obtain ⟨n, hn⟩ : ∃ n, n = if (headN S a).code = 0 then objSize (headN S a).p (headN S a).d else 0 := ⟨_, rfl⟩
  rw [← hn]
  generalize hpo : RList 76 n ((wordsAt S.cache a n).map vu64) w = Post
  have HDL := Lib.hid hdl
  have HN := Lib.hid hn
  have HPO := Lib.hid hpo
  clear hdl hn hpo
  clear h hf ho
  have HM := Lib.hid (Mem.one w #[.slice an m cn, .slice al m cl, .slice aw m cw, .slice ad m cd, .slice ap m cp, .int .i64 sv, .int .i64 fz, .bool dd] 31)
  go_enter Try.func49, Try.ntmps49
  go_upto_region 1 with fail
  generalize w.alloc _ = w0 at *
  go_wp2_with (refine wpList_load_mem aggRd HM.out 0 rfl rfl rfl rfl rfl ?_)
  refine (rhead15_any HDL.out (HRA.out.below HM.out.below (Nat.le_refl _)) HF.out a).mono ?_
  rintro e w1 ⟨rfl, hb1⟩
  generalize headN S a = x at *
  obtain ⟨p, d, c⟩ := x
  unfold headV
  dsimp only at HSm HN ⊢
  have HM2 := Lib.hid ((HM.out.later hb1).alloc #[.int .i64 p, .int .i64 d] 88)
  clear hb1 HM
  by_cases hc : c = 0
  · subst hc
    obtain ⟨ha, hp, hd⟩ := HSm.out rfl
    have hnp : objSize p d = n := by have := HN.out; rw [if_pos rfl] at this; exact this.symm
    have hszl := objSize_le p d
    rw [hnp] at hszl
    have HNP := Lib.hid hnp
    clear hnp
    rw [decide_eq_true (show (0 : Int) = 0 from rfl)]
    go_upto_region 2 with fail
    generalize w1.alloc _ = w2 at *
    generalize w1.heap.size = g at *
    go_wp2_with fail
    go_loopw [7, 8] (fun v i wr => ∃ k : Nat, k ≤ n ∧ i = .int .i64 k ∧ wr.ownsRow w2.heap.size 76 1 v k ((wordsAt S.cache a k).map vu64) ∧ Below w2.heap.size w2 wr) (fun _ i _ => n - (intOf i).toNat)
    case atStart => exact ⟨0, Nat.zero_le _, rfl, ⟨rfl, .inl ⟨rfl, rfl⟩⟩, Below.refl _ _⟩
    case round =>
      obtain ⟨k, hk, rfl, ho, hb⟩ := hrel
      obtain ⟨a1, c1, rfl, hc1, hm1⟩ := owned_form ho
      have c0 := (HM2.out.later hb).cell 0 0 rfl rfl
      have o0 := (HM2.out.later hb).cell 1 0 rfl rfl
      have o1 := (HM2.out.later hb).cell 1 1 rfl rfl
      have HO := Lib.hid ho
      have HB := Lib.hid hb
      clear ho hb
      by_cases hlt : k < n
      · have hlt' : (k : Int) < (n : Int) := by omega
        have HS := Lib.hid (wordsAt_succ S.cache a k)
        go_wp2_with fail
        refine (rsize8_any p d _).mono ?_
        rintro e w3 ⟨rfl, hb3⟩
        rw [HNP.out]
        have HO3 := Lib.hid (owned_below HO.out hb3 (Nat.le_refl _))
        have HB3 := Lib.hid (HB.out.trans (hb3.mono HB.out.size))
        have c0 := (HM2.out.later HB3.out).cell 0 0 rfl rfl
        clear hb3 HO HB
        go_wp2_with fail
        refine (rget_any an m cn S.cache _ (HK1.out.below (HM2.out.later HB3.out).below (Nat.le_refl _)) HCL.out (by omega) _).mono ?_
        rintro e w4 ⟨rfl, rfl⟩
        generalize peek S.cache (a + (k : Int)) = y at *
        have hone : Hid (∀ u ∈ (#[vu64 y] : Array Value).toList, u.oneCell' = true) := Lib.hid (by intro u hu; simp at hu; subst hu; rfl)
        have hbase : Hid (w2.heap.size ≤ w3.heap.size) := Lib.hid HB3.out.size
        have hk9 : k < 1000000000000 := by omega
        go_wp2_with (at_builtin; refine wpList_append_new (us := #[vu64 y]) el64 HO3.out rfl hone.out hk9 (by decide) hbase.out rfl rfl rfl (by simp [Act.eval]) ?_; intro g6 c6 w6 ho6 hg6 hc6 hm6 hb6 hl6; have HO6 := Lib.hid ho6; have HG6 := Lib.hid hg6; clear ho6 hg6)
        refine ⟨⟨k + 1, by omega, vint (by omega), ?_, below_grownBy HB3.out HO3.out HG6.out (Nat.le_refl _) (Nat.le_refl _)⟩, by simp [intOf]; omega⟩
        rw [HS.out]
        simpa using HO6.out
      · obtain rfl : k = n := by omega
        have hlt' : decide ((k : Int) < (k : Int)) = false := by simp
        go_wp2_with fail
        refine (rsize8_any p d _).mono ?_
        rintro e w3 ⟨rfl, hb3⟩
        rw [HNP.out]
        have HO3 := Lib.hid (owned_below HO.out hb3 (Nat.le_refl _))
        have HB3 := Lib.hid (HB.out.trans (hb3.mono HB.out.size))
        clear hb3
        go_wp2_with fail
        rw [← HPO.out]
        exact ⟨_, rfl, owned_base HO3.out HM2.out.below.size, (HM2.out.later HB3.out).below⟩
  · have hn0 : n = 0 := by rw [HN.out, if_neg hc]
    subst hn0
    rw [decide_eq_false hc]
    clear hc
    go_upto_region 2 with fail
    generalize w1.alloc _ = w2 at *
    generalize w1.heap.size = g at *
    go_wp2_with fail
    go_loopw [7, 8] (fun v i wr => v = .slice none 0 0 ∧ i = .int .i64 0 ∧ wr = w2) (fun _ i _ => 0)
    case atStart => exact ⟨rfl, rfl, rfl⟩
    case round =>
      obtain ⟨rfl, rfl, rfl⟩ := hrel
      go_wp2_with fail
      rw [← HPO.out]
      exact ⟨_, rfl, ⟨rfl, .inl ⟨rfl, rfl⟩⟩, HM2.out.below⟩

end Go.Proofs.Ytjgdplengfnkaaa

/- law15: ObjectTells. -/
namespace Go.Proofs.Ytjgdplengfnkaaa
open Go.RowKit
set_option linter.unusedVariables false

theorem fsRo : (Try.prog.fieldsOf 88) = #[{ name := "Ptrs", type := 3, offset := 0, embedded := false, tag := "", pkgPath := "", byteOffset := 0 },
        { name := "Datas", type := 3, offset := 1, embedded := false, tag := "", pkgPath := "", byteOffset := 8 }] := by kernel_rfl
theorem usRo : Try.prog.underlying 88 = some (.struct (Try.prog.fieldsOf 88)) := by kernel_rfl
theorem ssRo : Try.prog.stoodInHeld 88 = false := by kernel_rfl
theorem gsRo : Try.prog.eqGuardType Try.prog.depth 88 = false := by kernel_rfl
theorem equalRo (w : World) (a b : Int) : (Op.equalIn 10000 88 (.agg #[.int .i64 a, .int .i64 b]) (.agg #[.int .i64 a, .int .i64 b])).run Try.prog w = .ok true w := by
  rw [show (10000 : Nat) = 9999 + 1 from rfl, run_equalIn_agg w 9999 88 _ _ usRo ssRo, fsRo]
  simp [Op.eqFields, go_sem, Try.underlying3, part]

set_option maxHeartbeats 8000000 in
set_option maxRecDepth 100000 in
theorem objectTells_any (c : Nat) (hc : c < 256) (a : Option Addr) (n cap : Nat) (l : List Op15) (hn : l.length = n) (x i : Int) (w : World) (hcs : Cells w a (recs Op15.cs l)) (hok : ∀ o ∈ l, o.ok) (hnm : n ≤ maxLen) :
    Calls Try.prog 7 #[.int .u8 (c : Int), .slice a n cap, .agg #[.int .i64 x, .int .i64 i]] w fun e w' => e = .returned (.bool true) ∧ Below w.heap.size w w' := by
  have HN := Lib.hid hn
  have HCS := Lib.hid hcs
  have HOK := Lib.hid hok
  have HNM := Lib.hid hnm
  clear hn hcs hok hnm
  have HM := Lib.hid (Mem.one w #[.int .i64 x, .int .i64 i] 85)
  go_enter Try.func7, Try.ntmps7
  go_upto_region 1 with fail
  generalize w.alloc _ = w0 at *
  go_wp2_with fail
  refine (awake15_any _).mono ?_
  rintro e w1 ⟨rfl, hb1⟩
  have HM1 := Lib.hid (HM.out.later hb1)
  clear hb1 HM
  go_wp2_with fail
  refine (played15_any c hc a n cap l HN.out _ (HCS.out.below HM1.out.below (Nat.le_refl _)) HOK.out HNM.out).mono ?_
  rintro e w2 ⟨F, v, S, m, rfl, hdl, hfit, hra, hd, hb2⟩
  obtain ⟨an, cn, al, cl, aw, cw, ad, cd, ap, cp, rfl, y1, y2, y3, y4, y5⟩ := hra.ex
  have HK1 : Hid (Cells w2 an (S.cache.map vu64)) := Lib.hid y1
  have HK2 : Hid (Cells w2 al (S.lasting.map vu64)) := Lib.hid y2
  clear y1 y2 y3 y4 y5
  have hcl : S.cache.length = 8 * m := by have := hfit.wf.lenD; omega
  have hm8 : m ≤ 125000 := by have := hfit.wf.small; omega
  have HLL : Hid (S.lasting.length = 8 * m) := Lib.hid (by rw [hfit.wf.lenL]; exact hcl)
  have HCL := Lib.hid hcl
  have HDL := Lib.hid hdl
  have HFit := Lib.hid hfit
  have HM2 := Lib.hid (HM1.out.later hb2)
  have HRA := Lib.hid hra
  have HD := Lib.hid hd
  generalize S.ref.steps = sv at *
  generalize S.ref.fuse = fz at *
  generalize S.ref.dead = dd at *
  have HM3 := Lib.hid (HM2.out.alloc #[.slice an m cn, .slice al m cl, .slice aw m cw, .slice ad m cd, .slice ap m cp, .int .i64 sv, .int .i64 fz, .bool dd] 31)
  have HB3 := Lib.hid (below_alloc w2 (.cells #[.slice an m cn, .slice al m cl, .slice aw m cw, .slice ad m cd, .slice ap m cp, .int .i64 sv, .int .i64 fz, .bool dd] 31))
  clear hb2 hcl hdl hfit hra hd HM1 HM2
  unfold vdev
  go_upto_region 4 with fail
  generalize w2.alloc _ = w3 at *
  generalize hg : w2.heap.size = g at *
  have HG := Lib.hid hg
  clear hg
  have HD3 := Lib.hid (HD.out.below (by rw [HG.out]; exact HB3.out))
  have HRA3 := Lib.hid (HRA.out.below (by rw [HG.out]; exact HB3.out) (Nat.le_refl _))
  have HK13 := Lib.hid (HK1.out.below (by rw [HG.out]; exact HB3.out) (Nat.le_refl _))
  have HK23 := Lib.hid (HK2.out.below (by rw [HG.out]; exact HB3.out) (Nat.le_refl _))
  clear HD HRA HK1 HK2 HB3 HG
  obtain ⟨q, hq⟩ : ∃ q, q = w.heap.size := ⟨_, rfl⟩
  rw [← hq] at HM3 ⊢
  have HQ := Lib.hid hq
  clear hq
  have e0 := HM3.out.cell 0 0 rfl rfl
  have e1 := HM3.out.cell 0 1 rfl rfl
  go_wp2_with fail
  go_quiet (fail)
  have hbn : Below w3.heap.size w3 (w3.drewN nq) := below_drewN (Below.refl _ _) nq
  have HM4 := Lib.hid (HM3.out.later hbn)
  have HD4 := Lib.hid (HD3.out.below hbn)
  have HRA4 := Lib.hid (HRA3.out.below hbn (Nat.le_refl _))
  have HK14 := Lib.hid (HK13.out.below hbn (Nat.le_refl _))
  have HK24 := Lib.hid (HK23.out.below hbn (Nat.le_refl _))
  clear hbn e0 e1 HM3 HD3 HRA3 HK13 HK23
  generalize w3.drewN nq = w4 at *
  have hC22 := headN_code2 S x
  have HHd := Lib.hid (fun W (h : DevAt W F S) => ohead_any h x)
  have HRh := Lib.hid (fun W (h : RAt W (.agg #[.slice an m cn, .slice al m cl, .slice aw m cw, .slice ad m cd, .slice ap m cp, .int .i64 sv, .int .i64 fz, .bool dd]) m S.ref) => rhead15_any HDL.out h HFit.out x)
  have HPt := Lib.hid (fun W (h : DevAt W F S) => optrs_any h x)
  have HWd := Lib.hid (fun W (h : DevAt W F S) => owords_any h x)
  have HRp := Lib.hid (fun W (h : RAt W (.agg #[.slice an m cn, .slice al m cl, .slice aw m cw, .slice ad m cd, .slice ap m cp, .int .i64 sv, .int .i64 fz, .bool dd]) m S.ref) => rptrs15_any HDL.out h HFit.out x)
  have HRw := Lib.hid (fun W (h : RAt W (.agg #[.slice an m cn, .slice al m cl, .slice aw m cw, .slice ad m cd, .slice ap m cp, .int .i64 sv, .int .i64 fz, .bool dd]) m S.ref) => rwords15_any HDL.out h HFit.out x)
  have HLs := Lib.hid (fun W (h : DevAt W F S) => olasts_any h x)
  have HSm := Lib.hid (head_small HFit.out.wf.small (a := x))
  unfold PtrsPost at HPt
  unfold WordsPost at HWd
  unfold RList at HRp HRw
  have HOl : Hid (S.olasts x = decide ((headN S x).code = 0 ∧ S.lastsTo x (objSize (headN S x).p (headN S x).d))) := Lib.hid rfl
  generalize headN S x = hd at *
  obtain ⟨hp, hdd, hcd⟩ := hd
  unfold Odec.val at HHd
  unfold headV at HRh
  dsimp only at hC22 HHd HRh HPt HWd HRp HRw HLs HSm HOl
  unfold vdev at HHd HPt HWd HLs
  go_upto_region 7 with fail
  go_wp2_with fail
  refine (HHd.out _ HD4.out).mono ?_
  rintro e w5 ⟨rfl, hb5⟩
  have HM5 := Lib.hid ((HM4.out.later hb5).alloc #[.int .i64 hp, .int .i64 hdd] 73)
  have hb6 := hb5.trans ((below_alloc w5 (.cells #[.int .i64 hp, .int .i64 hdd] 73)).mono hb5.size)
  have HD6 := Lib.hid (HD4.out.below hb6)
  have HRA6 := Lib.hid (HRA4.out.below hb6 (Nat.le_refl _))
  have HK16 := Lib.hid (HK14.out.below hb6 (Nat.le_refl _))
  have HK26 := Lib.hid (HK24.out.below hb6 (Nat.le_refl _))
  clear hb5 hb6 HM4 HD4 HRA4 HK14 HK24
  go_upto_region 8 with fail
  generalize w5.alloc _ = w6 at *
  generalize w5.heap.size = g6 at *
  go_wp2_with (refine wpList_load_mem aggRd HM5.out 1 rfl rfl rfl rfl rfl ?_)
  refine (HRh.out _ HRA6.out).mono ?_
  rintro e w7 ⟨rfl, hb7⟩
  have HM8 := Lib.hid ((HM5.out.later hb7).alloc #[.int .i64 hp, .int .i64 hdd] 88)
  have hb8 := hb7.trans ((below_alloc w7 (.cells #[.int .i64 hp, .int .i64 hdd] 88)).mono hb7.size)
  have HD8 := Lib.hid (HD6.out.below hb8)
  have HRA8 := Lib.hid (HRA6.out.below hb8 (Nat.le_refl _))
  have HK18 := Lib.hid (HK16.out.below hb8 (Nat.le_refl _))
  have HK28 := Lib.hid (HK26.out.below hb8 (Nat.le_refl _))
  clear hb7 hb8 HM5 HD6 HRA6 HK16 HK26
  go_upto_region 9 with fail
  generalize w7.alloc _ = w8 at *
  generalize w7.heap.size = g8 at *
  obtain ⟨np, hnp⟩ : ∃ np, np = if hcd = 0 then hp.toNat else 0 := ⟨_, rfl⟩
  obtain ⟨nw, hnw⟩ : ∃ nw, nw = if hcd = 0 then objSize hp hdd else 0 := ⟨_, rfl⟩
  rw [← hnp] at HRp
  rw [← hnw] at HRw
  have HPt2 := Lib.hid (fun (W : World) (h : DevAt W F S) => (HPt.out W h).mono (R' := fun (e : Ending) (w' : World) => Below W.heap.size W w' ∧ ∃ a c, e = .returned (.tuple #[.slice a np c, .int .i64 hcd]) ∧ Cells w' a ((ptrL S x np).map vi)) (by
    rintro e w' ⟨hb, ⟨h0, v, rfl, ho⟩ | ⟨h22, rfl⟩⟩
    · subst h0
      rw [if_pos rfl] at hnp
      subst hnp
      obtain ⟨a', c', rfl, _⟩ := owned_form ho
      exact ⟨hb, a', c', rfl, Cells.owned ho⟩
    · subst h22
      rw [if_neg (by decide)] at hnp
      subst hnp
      exact ⟨hb, none, 0, rfl, Cells.nil _ _⟩))
  have HWd2 := Lib.hid (fun (W : World) (h : DevAt W F S) => (HWd.out W h).mono (R' := fun (e : Ending) (w' : World) => Below W.heap.size W w' ∧ ∃ a c, e = .returned (.tuple #[.slice a nw c, .int .i64 hcd]) ∧ Cells w' a ((wordsAt S.cache x nw).map vu64)) (by
    rintro e w' ⟨hb, ⟨h0, v, rfl, ho⟩ | ⟨h22, rfl⟩⟩
    · subst h0
      rw [if_pos rfl] at hnw
      subst hnw
      obtain ⟨a', c', rfl, _⟩ := owned_form ho
      exact ⟨hb, a', c', rfl, Cells.owned ho⟩
    · subst h22
      rw [if_neg (by decide)] at hnw
      subst hnw
      exact ⟨hb, none, 0, rfl, Cells.nil _ _⟩))
  have hnwl : nw ≤ 16448 := by rw [hnw]; split; exact objSize_le _ _; omega
  have hnpl : np ≤ 100000 := by rw [hnp]; split; (rename_i h0; have := (HSm.out h0).2.1; omega); omega
  have HNW := Lib.hid hnw
  clear hnp hnw HPt HWd
  go_cut [74] from 30 (fun b wc => b = .bool false ∧ Below w8.heap.size w8 wc)
  case first =>
    have o0 := HM8.out.cell 2 0 rfl rfl
    have o1 := HM8.out.cell 2 1 rfl rfl
    have u0 := HM8.out.cell 3 0 rfl rfl
    have u1 := HM8.out.cell 3 1 rfl rfl
    have r0 := fun x => later_cell o0 x
    have r1 := fun x => later_cell o1 x
    have r2 := fun x => later_cell u0 x
    have r3 := fun x => later_cell u1 x
    have heq := fun w' => equalRo w' hp hdd
    have hgd := gsRo
    clear o0 o1 u0 u1
    have hcd2 : hcd = 0 ∨ hcd = 22 := hC22
    rcases hcd2 with rfl | rfl
    · rw [decide_eq_true (show (0 : Int) = 0 from rfl)]
      refine wp_region_tr (C := fun w' => ∃ x : Later (w8), w' = x.val) (.fl [0, 2] (.sq [1] true (.sq [3, 4] false (.pu [5, 6] (.sq [7, 8, 9, 10, 11, 12, 13, 14, 15, 16, 17] false (.nil)))))) (by kernel_rfl) (by kernel_rfl) (by intro c a d v w h; cases d <;> exact h) ?_
      simp only [trO, picks, List.getElem?_cons_succ, List.getElem?_cons_zero]
      have hC1 := later_drew (w8)
      refine wpTr_fl hC1 ?_
      repeat (first | go_big_quiet_step (fail) | quiet_step (fail))
      refine wpQuiet_nil ?_
      refine wpTr_sq (fun K hK => ?_)
      go_wp2_with fail
      refine (lawref8_any hp hdd _).mono ?_
      rintro e w9 ⟨rfl, hb9⟩
      have hC2 := later_step hC1 hb9
      clear hb9
      go_wp2_with fail
      refine hK _ _ (fun _ => hC2) ?_
      clear hK K
      refine wpTr_sq (fun K hK => ?_)
      go_wp2_with fail
      go_wp2_with fail
      refine hK _ _ (fun h => nomatch h) ?_
      clear hK K
      refine wpTr_pu ?_
      repeat (first | go_big_quiet_step (fail) | quiet_step (fail))
      refine wpQuiet_nil ?_
      refine wpTr_last ?_
      go_wp2_with fail
      go_meet
      exact ⟨rfl, later_below hC2⟩
    · rw [decide_eq_false (show ¬ (22 : Int) = 0 by decide)]
      refine wp_region_tr (C := fun w' => ∃ x : Later (w8), w' = x.val) (.fl [0, 2] (.sq [1] true (.sq [3, 4] false (.pu [5, 6] (.sq [7, 8, 9, 10, 11, 12, 13, 14, 15, 16, 17] false (.nil)))))) (by kernel_rfl) (by kernel_rfl) (by intro c a d v w h; cases d <;> exact h) ?_
      simp only [trO, picks, List.getElem?_cons_succ, List.getElem?_cons_zero]
      have hC1 := later_drew (w8)
      refine wpTr_fl hC1 ?_
      repeat (first | go_big_quiet_step (fail) | quiet_step (fail))
      refine wpQuiet_nil ?_
      refine wpTr_sq (fun K hK => ?_)
      go_wp2_with fail
      refine (lawref8_any hp hdd _).mono ?_
      rintro e w9 ⟨rfl, hb9⟩
      have hC2 := later_step hC1 hb9
      clear hb9
      go_wp2_with fail
      refine hK _ _ (fun _ => hC2) ?_
      clear hK K
      refine wpTr_sq (fun K hK => ?_)
      go_wp2_with fail
      go_wp2_with fail
      refine hK _ _ (fun h => nomatch h) ?_
      clear hK K
      refine wpTr_pu ?_
      repeat (first | go_big_quiet_step (fail) | quiet_step (fail))
      refine wpQuiet_nil ?_
      refine wpTr_last ?_
      go_wp2_with fail
      go_meet
      exact ⟨rfl, later_below hC2⟩
  case rest =>
    obtain ⟨rfl, hbc⟩ := hcut
    have HM9 := Lib.hid (HM8.out.later hbc)
    have HD9 := Lib.hid (HD8.out.below hbc)
    have HRA9 := Lib.hid (HRA8.out.below hbc (Nat.le_refl _))
    have HK19 := Lib.hid (HK18.out.below hbc (Nat.le_refl _))
    have HK29 := Lib.hid (HK28.out.below hbc (Nat.le_refl _))
    clear hbc HM8 HD8 HRA8 HK18 HK28
    have HP1 := Lib.hid (fun W (h : RAt W (.agg #[.slice an m cn, .slice al m cl, .slice aw m cw, .slice ad m cd, .slice ap m cp, .int .i64 sv, .int .i64 fz, .bool dd]) m S.ref) => rplace15_any HDL.out h HFit.out x i false)
    have HP2 := Lib.hid (fun W (h : RAt W (.agg #[.slice an m cn, .slice al m cl, .slice aw m cw, .slice ad m cd, .slice ap m cp, .int .i64 sv, .int .i64 fz, .bool dd]) m S.ref) => rplace15_any HDL.out h HFit.out x i true)
    have HO1 := Lib.hid (fun W (h : DevAt W F S) => optrG_any h x i)
    have HO2 := Lib.hid (fun W (h : DevAt W F S) => odataG_any h x i)
    unfold vdev at HO1 HO2
    generalize placeN S x i false = pn1 at *
    generalize placeN S x i true = pn2 at *
    obtain ⟨p1, k1⟩ := pn1
    obtain ⟨p2, k2⟩ := pn2
    dsimp only at HP1 HP2 HO1 HO2
    obtain ⟨V1, hV1⟩ : ∃ V, V = (if k1 = 0 then capP (peek S.cache p1) else 0 : Nat) := ⟨_, rfl⟩
    obtain ⟨V2, hV2⟩ : ∃ V, V = (if k2 = 0 then peek S.cache p2 else 0 : Nat) := ⟨_, rfl⟩
    rw [← hV1] at HO1
    rw [← hV2] at HO2
    have HV1 := Lib.hid hV1
    have HV2 := Lib.hid hV2
    clear hV1 hV2
    go_wp2_with (refine wpList_load_mem aggRd HM9.out 1 rfl rfl rfl rfl rfl ?_)
    refine (HP1.out _ HRA9.out).mono ?_
    rintro e w10 ⟨rfl, hb10⟩
    have HM10 := Lib.hid (HM9.out.later hb10)
    have HD10 := Lib.hid (HD9.out.below hb10)
    have HRA10 := Lib.hid (HRA9.out.below hb10 (Nat.le_refl _))
    have HK110 := Lib.hid (HK19.out.below hb10 (Nat.le_refl _))
    have HK210 := Lib.hid (HK29.out.below hb10 (Nat.le_refl _))
    clear hb10 HM9 HD9 HRA9 HK19 HK29
    go_wp2_with (refine wpList_load_mem aggRd HM10.out 1 rfl rfl rfl rfl rfl ?_)
    refine (HP2.out _ HRA10.out).mono ?_
    rintro e w11 ⟨rfl, hb11⟩
    have HM11 := Lib.hid (HM10.out.later hb11)
    have HD11 := Lib.hid (HD10.out.below hb11)
    have HRA11 := Lib.hid (HRA10.out.below hb11 (Nat.le_refl _))
    have HK111 := Lib.hid (HK110.out.below hb11 (Nat.le_refl _))
    have HK211 := Lib.hid (HK210.out.below hb11 (Nat.le_refl _))
    clear hb11 HM10 HD10 HRA10 HK110 HK210
    go_wp2_with fail
    refine (HO1.out _ HD11.out).mono ?_
    rintro e w12 ⟨rfl, hb12⟩
    have HM12 := Lib.hid (HM11.out.later hb12)
    have HD12 := Lib.hid (HD11.out.below hb12)
    have HRA12 := Lib.hid (HRA11.out.below hb12 (Nat.le_refl _))
    have HK112 := Lib.hid (HK111.out.below hb12 (Nat.le_refl _))
    have HK212 := Lib.hid (HK211.out.below hb12 (Nat.le_refl _))
    clear hb12 HM11 HD11 HRA11 HK111 HK211
    go_wp2_with fail
    refine (HO2.out _ HD12.out).mono ?_
    rintro e w13 ⟨rfl, hb13⟩
    have HM13 := Lib.hid (HM12.out.later hb13)
    have HD13 := Lib.hid (HD12.out.below hb13)
    have HRA13 := Lib.hid (HRA12.out.below hb13 (Nat.le_refl _))
    have HK113 := Lib.hid (HK112.out.below hb13 (Nat.le_refl _))
    have HK213 := Lib.hid (HK212.out.below hb13 (Nat.le_refl _))
    clear hb13 HM12 HD12 HRA12 HK112 HK212 HP1 HP2 HO1 HO2
    go_upto_region 15 with fail
    go_cut [135] from 30 (fun b wc => b = .bool false ∧ wc = w13)
    case first =>
      have c0 := HM13.out.cell 1 0 rfl rfl
      have hk1 : (k1 != k1) = false := by simp
      have hk2 : (k2 != k2) = false := by simp
      have HG1 := Lib.hid (fun W (h : Cells W an (S.cache.map vu64)) => rget_any an m cn S.cache W h HCL.out (by omega) p1)
      have HG2 := Lib.hid (fun W (h : Cells W an (S.cache.map vu64)) => rget_any an m cn S.cache W h HCL.out (by omega) p2)
      generalize peek S.cache p1 = y1 at *
      generalize peek S.cache p2 = y2 at *
      have HRP := Lib.hid (fun W => rptr_any y1 W)
      generalize capP y1 = z1 at *
      have hz1 : ((z1 : Int) != (z1 : Int)) = false := by simp
      have hz2 : (z1 != z1) = false := by simp
      have hy1 : ((y2 : Int) != (y2 : Int)) = false := by simp
      have hy2 : (y2 != y2) = false := by simp
      by_cases q1 : k1 = 0
      · have q1' : (k1 == 0) = true := by simp [q1]
        have hv1 : V1 = z1 := by rw [HV1.out, if_pos q1]
        have hv1' : ((V1 : Int) != (z1 : Int)) = false := by simp [hv1]
        have hv1n : (V1 != z1) = false := by simp [hv1]
        clear q1 hv1
        by_cases q2 : k2 = 0
        · have q2' : (k2 == 0) = true := by simp [q2]
          have hv2 : V2 = y2 := by rw [HV2.out, if_pos q2]
          have hv2' : ((V2 : Int) != (y2 : Int)) = false := by simp [hv2]
          have hv2n : (V2 != y2) = false := by simp [hv2]
          clear q2 hv2
          go_wp2_with fail
          refine (HG1.out _ HK113.out).mono ?_
          rintro e w14 ⟨rfl, rfl⟩
          go_wp2_with fail
          refine (HRP.out _).mono ?_
          rintro e w14 ⟨rfl, rfl⟩
          go_wp2_with fail
          refine (HG2.out _ HK113.out).mono ?_
          rintro e w14 ⟨rfl, rfl⟩
          go_wp2_with fail
          go_meet
          exact ⟨rfl, rfl⟩
        · have q2' : (k2 == 0) = false := by simpa using q2
          clear q2
          go_wp2_with fail
          refine (HG1.out _ HK113.out).mono ?_
          rintro e w14 ⟨rfl, rfl⟩
          go_wp2_with fail
          refine (HRP.out _).mono ?_
          rintro e w14 ⟨rfl, rfl⟩
          go_wp2_with fail
          go_meet
          exact ⟨rfl, rfl⟩
      · have q1' : (k1 == 0) = false := by simpa using q1
        clear q1
        by_cases q2 : k2 = 0
        · have q2' : (k2 == 0) = true := by simp [q2]
          have hv2 : V2 = y2 := by rw [HV2.out, if_pos q2]
          have hv2' : ((V2 : Int) != (y2 : Int)) = false := by simp [hv2]
          have hv2n : (V2 != y2) = false := by simp [hv2]
          clear q2 hv2
          go_wp2_with fail
          refine (HG2.out _ HK113.out).mono ?_
          rintro e w14 ⟨rfl, rfl⟩
          go_wp2_with fail
          go_meet
          exact ⟨rfl, rfl⟩
        · have q2' : (k2 == 0) = false := by simpa using q2
          clear q2
          go_wp2_with fail
          go_meet
          exact ⟨rfl, rfl⟩
    case rest =>
      obtain ⟨rfl, rfl⟩ := hcut
      go_wp2_with fail
      refine (HPt2.out _ HD13.out).mono ?_
      rintro e w14 ⟨hb14, a24, c24, rfl, hcl24⟩
      have HM14 := Lib.hid (HM13.out.later hb14)
      have HD14 := Lib.hid (HD13.out.below hb14)
      have HRA14 := Lib.hid (HRA13.out.below hb14 (Nat.le_refl _))
      have HK214 := Lib.hid (HK213.out.below hb14 (Nat.le_refl _))
      have HL24 := Lib.hid hcl24
      clear hb14 hcl24 HM13 HD13 HRA13 HK113 HK213
      go_wp2_with fail
      refine (HWd2.out _ HD14.out).mono ?_
      rintro e w15 ⟨hb15, a26, c26, rfl, hcl26⟩
      have HM15 := Lib.hid (HM14.out.later hb15)
      have HD15 := Lib.hid (HD14.out.below hb15)
      have HRA15 := Lib.hid (HRA14.out.below hb15 (Nat.le_refl _))
      have HK215 := Lib.hid (HK214.out.below hb15 (Nat.le_refl _))
      have HL24' := Lib.hid (HL24.out.below hb15 (Nat.le_refl _))
      have HL26 := Lib.hid hcl26
      clear hb15 hcl26 HM14 HD14 HRA14 HK214 HL24
      have hh1 : (hcd != hcd) = false := by simp
      have d0 := HM15.out.cell 1 0 rfl rfl
      have d1 := HM15.out.cell 1 1 rfl rfl
      have d2 := HM15.out.cell 1 2 rfl rfl
      have d3 := HM15.out.cell 1 3 rfl rfl
      have d4 := HM15.out.cell 1 4 rfl rfl
      have d5 := HM15.out.cell 1 5 rfl rfl
      have d6 := HM15.out.cell 1 6 rfl rfl
      have d7 := HM15.out.cell 1 7 rfl rfl
      go_wp2_with fail
      refine (HRp.out _ HRA15.out).mono ?_
      rintro e w16 ⟨v16, rfl, ho16, hb16⟩
      obtain ⟨a16, c16, rfl, _, _⟩ := owned_form ho16
      have HM16 := Lib.hid (HM15.out.later hb16)
      have HD16 := Lib.hid (HD15.out.below hb16)
      have HRA16 := Lib.hid (HRA15.out.below hb16 (Nat.le_refl _))
      have HK216 := Lib.hid (HK215.out.below hb16 (Nat.le_refl _))
      have HLa := Lib.hid (HL24'.out.below hb16 (Nat.le_refl _))
      have HLb := Lib.hid (Cells.owned ho16)
      have HL26b := Lib.hid (HL26.out.below hb16 (Nat.le_refl _))
      clear hb16 ho16 HM15 HD15 HRA15 HK215 HL24' HL26 d0 d1 d2 d3 d4 d5 d6 d7
      go_wp2_with fail
      refine (rints_eq a24 a16 np c24 c16 (ptrL S x np) (ptrL_length _ _ _) _ HLa.out HLb.out (by omega)).mono ?_
      rintro e w17 ⟨rfl, q17, rfl⟩
      have hbn : Below w16.heap.size w16 (w16.drewN q17) := below_drewN (Below.refl _ _) q17
      have HM17 := Lib.hid (HM16.out.later hbn)
      have HD17 := Lib.hid (HD16.out.below hbn)
      have HRA17 := Lib.hid (HRA16.out.below hbn (Nat.le_refl _))
      have HK217 := Lib.hid (HK216.out.below hbn (Nat.le_refl _))
      have HL26c := Lib.hid (HL26b.out.below hbn (Nat.le_refl _))
      clear hbn HM16 HD16 HRA16 HK216 HLa HLb HL26b
      generalize w16.drewN q17 = w17 at *
      have d0 := HM17.out.cell 1 0 rfl rfl
      have d1 := HM17.out.cell 1 1 rfl rfl
      have d2 := HM17.out.cell 1 2 rfl rfl
      have d3 := HM17.out.cell 1 3 rfl rfl
      have d4 := HM17.out.cell 1 4 rfl rfl
      have d5 := HM17.out.cell 1 5 rfl rfl
      have d6 := HM17.out.cell 1 6 rfl rfl
      have d7 := HM17.out.cell 1 7 rfl rfl
      go_wp2_with fail
      refine (HRw.out _ HRA17.out).mono ?_
      rintro e w18 ⟨v18, rfl, ho18, hb18⟩
      obtain ⟨a18, c18, rfl, _, _⟩ := owned_form ho18
      have HM18 := Lib.hid (HM17.out.later hb18)
      have HD18 := Lib.hid (HD17.out.below hb18)
      have HK218 := Lib.hid (HK217.out.below hb18 (Nat.le_refl _))
      have HLb := Lib.hid (Cells.owned ho18)
      have HL26d := Lib.hid (HL26c.out.below hb18 (Nat.le_refl _))
      clear hb18 ho18 HM17 HD17 HRA17 HK217 HL26c d0 d1 d2 d3 d4 d5 d6 d7
      go_wp2_with fail
      refine (rsame_eq a26 a18 nw c26 c18 (wordsAt S.cache x nw) (wordsAt_length _ _ _) _ HL26d.out HLb.out (by omega)).mono ?_
      rintro e w19 ⟨rfl, q19, rfl⟩
      have hbn : Below w18.heap.size w18 (w18.drewN q19) := below_drewN (Below.refl _ _) q19
      have HM19 := Lib.hid (HM18.out.later hbn)
      have HD19 := Lib.hid (HD18.out.below hbn)
      have HK219 := Lib.hid (HK218.out.below hbn (Nat.le_refl _))
      have HL26e := Lib.hid (HL26d.out.below hbn (Nat.le_refl _))
      clear hbn HM18 HD18 HK218 HLb HL26d
      generalize w18.drewN q19 = w19 at *
      have HB0 : Hid (decide (hcd = 0) = true ↔ hcd = 0 ∧ S.lastsTo x 0) := Lib.hid (by
        rw [decide_eq_true_iff]
        exact ⟨fun h => ⟨h, fun i hi => absurd hi (Nat.not_lt_zero _)⟩, fun h => h.1⟩)
      generalize decide (hcd = 0) = b0 at *
      go_wp2_with fail
      go_loopw [28, 29] (fun v i wr => ∃ k : Nat, k ≤ nw ∧ i = .int .i64 k ∧ ∃ b : Bool, v = .bool b ∧ (b = true ↔ hcd = 0 ∧ S.lastsTo x k) ∧ Below w19.heap.size w19 wr) (fun _ i _ => nw - (intOf i).toNat)
      case atStart => exact ⟨0, Nat.zero_le _, rfl, b0, rfl, HB0.out, Below.refl _ _⟩
      case round =>
        obtain ⟨k, hk, rfl, b, rfl, hbb, hbe⟩ := hrel
        have HBB := Lib.hid hbb
        have HBe := Lib.hid hbe
        have c1 := (HM19.out.later hbe).cell 1 1 rfl rfl
        clear hbb hbe
        by_cases hlt : k < nw
        · have hlt' : (k : Int) < (nw : Int) := by omega
          have hc0 : hcd = 0 := by
            have := HNW.out
            by_cases h : hcd = 0
            · exact h
            · rw [if_neg h] at this; omega
          have hx := (HSm.out hc0).1
          have HHc := Lib.hid hc0
          have HSucc : Hid (S.lastsTo x (k + 1) ↔ S.lastsTo x k ∧ peek S.lasting (x + (k : Int)) = peek S.cache (x + (k : Int))) := Lib.hid ⟨fun h => ⟨fun j hj => h j (by omega), h k (by omega)⟩, fun h j hj => by
            by_cases e : j = k
            · subst e; exact h.2
            · exact h.1 j (by omega)⟩
          have hlw : k < (wordsAt S.cache x nw).length := by rw [wordsAt_length]; exact hlt
          obtain ⟨b26, o26, rfl, _, hcs26⟩ := (HL26e.out.below HBe.out (Nat.le_refl _)).atMap 0 hlw
          have g0 := hcs26 k hlw
          have hgk : (wordsAt S.cache x nw).getD k 0 = peek S.cache (x + (k : Int)) := by
            simp only [wordsAt, List.getD_eq_getElem?_getD, List.getElem?_map, List.getElem?_range hlt, Option.map_some, Option.getD_some]
          rw [hgk] at g0
          have HG := Lib.hid (fun W (h : Cells W al (S.lasting.map vu64)) => rget_any al m cl S.lasting W h HLL.out (by omega) (x + (k : Int)))
          have HK2k := Lib.hid (HK219.out.below HBe.out (Nat.le_refl _))
          generalize peek S.cache (x + (k : Int)) = y1 at *
          generalize peek S.lasting (x + (k : Int)) = y2 at *
          have hw1 : IntKind.i64.wrap (x + (k : Int)) = x + (k : Int) := IntWalk.i64_in _ (by omega)
          clear hcs26 hlw hgk hc0
          go_upto_region 25 with fail
          have r0 := fun x => later_cell c1 x
          have r1 := fun x => later_cell g0 x
          cases b
          · have HN0 : Hid (false = true ↔ hcd = 0 ∧ S.lastsTo x (k + 1)) := Lib.hid ⟨(fun h => by cases h), fun h => absurd (HBB.out.2 ⟨h.1, (HSucc.out.1 h.2).1⟩) (by simp)⟩
            refine wp_region_tr (C := fun w' => ∃ x : Later (wr), w' = x.val) (.sq [0, 1] false (.fl [2, 3, 4, 5, 6, 8, 9, 10, 11] (.sq [7] true (.sq [12, 13, 14] false (.nil))))) (by kernel_rfl) (by kernel_rfl) (by intro c a d v w h; cases d <;> exact h) ?_
            simp only [trO, picks, List.getElem?_cons_succ, List.getElem?_cons_zero]
            have hC1 := later_drew (wr)
            refine wpTr_sq (fun K hK => ?_)
            go_wp2_with fail
            go_wp2_with fail
            refine hK _ _ (fun h => nomatch h) ?_
            clear hK K
            refine wpTr_fl hC1 ?_
            repeat (first | go_big_quiet_step (fail) | quiet_step (fail))
            refine wpQuiet_nil ?_
            refine wpTr_sq (fun K hK => ?_)
            go_wp2_with fail
            go_wp2_with fail
            refine hK _ _ (fun _ => hC1) ?_
            clear hK K
            refine wpTr_last ?_
            go_wp2_with fail
            exact ⟨⟨k + 1, by omega, vint (by omega), false, rfl, (by have := HN0.out; simpa using this), HBe.out.trans ((later_below hC1).mono HBe.out.size)⟩, by simp [intOf]; omega⟩
          · have hN1 : Hid (y2 = y1 → (true = true ↔ hcd = 0 ∧ S.lastsTo x (k + 1))) := Lib.hid (fun h => ⟨fun _ => ⟨HHc.out, HSucc.out.2 ⟨(HBB.out.1 rfl).2, h⟩⟩, fun _ => rfl⟩)
            have hN2 : Hid (y2 ≠ y1 → (false = true ↔ hcd = 0 ∧ S.lastsTo x (k + 1))) := Lib.hid (fun hne => ⟨(fun h => by cases h), fun h => absurd (HSucc.out.1 h.2).2 hne⟩)
            by_cases he : y2 = y1
            · have HN := Lib.hid (hN1.out he)
              have HE := Lib.hid he
              have he1 : ((y2 : Int) == (y1 : Int)) = true := by rw [he]; simp
              have he2 : (y2 == y1) = true := by rw [he]; simp
              clear he
              refine wp_region_tr (C := fun w' => ∃ x : Later (wr), w' = x.val) (.sq [0, 1] false (.fl [2, 3, 4, 5, 6, 8, 9, 10, 11] (.sq [7] true (.sq [12, 13, 14] false (.nil))))) (by kernel_rfl) (by kernel_rfl) (by intro c a d v w h; cases d <;> exact h) ?_
              simp only [trO, picks, List.getElem?_cons_succ, List.getElem?_cons_zero]
              have hC1 := later_drew (wr)
              refine wpTr_sq (fun K hK => ?_)
              go_wp2_with fail
              go_wp2_with fail
              refine hK _ _ (fun h => nomatch h) ?_
              clear hK K
              refine wpTr_fl hC1 ?_
              repeat (first | go_big_quiet_step (fail) | quiet_step (fail))
              refine wpQuiet_nil ?_
              refine wpTr_sq (fun K hK => ?_)
              go_wp2_with fail
              refine (HG.out _ (HK2k.out.below (later_below hC1) (Nat.le_refl _))).mono ?_
              rintro e w20 ⟨rfl, rfl⟩
              go_wp2_with fail
              refine hK _ _ (fun _ => hC1) ?_
              clear hK K
              refine wpTr_last ?_
              go_wp2_with fail
              exact ⟨⟨k + 1, by omega, vint (by omega), true, rfl, (by have := HN.out; simpa using this), HBe.out.trans ((later_below hC1).mono HBe.out.size)⟩, by simp [intOf]; omega⟩
            · have HN := Lib.hid (hN2.out he)
              have he1 : ((y2 : Int) == (y1 : Int)) = false := by simp; omega
              have he2 : (y2 == y1) = false := by simpa using he
              clear he
              refine wp_region_tr (C := fun w' => ∃ x : Later (wr), w' = x.val) (.sq [0, 1] false (.fl [2, 3, 4, 5, 6, 8, 9, 10, 11] (.sq [7] true (.sq [12, 13, 14] false (.nil))))) (by kernel_rfl) (by kernel_rfl) (by intro c a d v w h; cases d <;> exact h) ?_
              simp only [trO, picks, List.getElem?_cons_succ, List.getElem?_cons_zero]
              have hC1 := later_drew (wr)
              refine wpTr_sq (fun K hK => ?_)
              go_wp2_with fail
              go_wp2_with fail
              refine hK _ _ (fun h => nomatch h) ?_
              clear hK K
              refine wpTr_fl hC1 ?_
              repeat (first | go_big_quiet_step (fail) | quiet_step (fail))
              refine wpQuiet_nil ?_
              refine wpTr_sq (fun K hK => ?_)
              go_wp2_with fail
              refine (HG.out _ (HK2k.out.below (later_below hC1) (Nat.le_refl _))).mono ?_
              rintro e w20 ⟨rfl, rfl⟩
              go_wp2_with fail
              refine hK _ _ (fun _ => hC1) ?_
              clear hK K
              refine wpTr_last ?_
              go_wp2_with fail
              exact ⟨⟨k + 1, by omega, vint (by omega), false, rfl, (by have := HN.out; simpa using this), HBe.out.trans ((later_below hC1).mono HBe.out.size)⟩, by simp [intOf]; omega⟩
        · obtain rfl : k = nw := by omega
          have hlt' : decide ((k : Int) < (k : Int)) = false := by simp
          have HEq : Hid (S.olasts x = b) := Lib.hid (by
            rw [HOl.out, Bool.eq_iff_iff, decide_eq_true_iff, HBB.out]
            constructor
            · intro h
              have := HNW.out
              rw [if_pos h.1] at this
              rw [this]
              exact h
            · intro h
              have := HNW.out
              rw [if_pos h.1] at this
              rw [← this]
              exact h)
          have hbb : (b == b) = true := by simp
          go_wp2_with fail
          refine (HLs.out _ (HD19.out.below HBe.out)).mono ?_
          rintro e w20 ⟨rfl, hb20⟩
          rw [HEq.out]
          have HB20 := Lib.hid ((HM19.out.later HBe.out).below.trans (hb20.mono (HM19.out.later HBe.out).below.size))
          clear hb20
          go_wp2_with fail
          go_ret
          exact ⟨rfl, HB20.out⟩

end Go.Proofs.Ytjgdplengfnkaaa

/- What the reading of an array that came in by value says of its elements, each of one cell. -/
namespace Go.Proofs.Ytjgdplengfnkaaa
open Go.RowKit Go.ChangeShapes Go.WideShapes
set_option linter.unusedVariables false

section
variable {H : Type} {enc : TypeId × Value → H} {P : Program} {w : World} {base b0 : Nat} {r : Reach} {spare : Nat → Bool} {held : Bool}

theorem open_arr {t e : TypeId} {n : Nat} {v : Value} {d : DataW H} {p : List MemPlace} (hs : P.underlying t = some (.array n e)) (hone : P.cellsOf e = 1) (hC : P.cellsOf t = n)
    (hv : Value.okWide P w r b0 t v) (h : DataW.Trod enc P w base spare held t v d p) :
    ∃ (cs : Array Value) (m : Nat), v = .agg cs ∧ cs.size = n ∧ ∀ (i : Nat) (u : Value), cs[i]? = some u → ∃ y, DataW.trod enc P w base spare held m e [u] = some y := by
  simp only [Value.okWide, hs] at hv
  obtain ⟨cs, rfl, hsz, _⟩ := hv
  obtain ⟨fuel, hf⟩ := h
  obtain ⟨xs, m, _, _, _, hl, hel⟩ := DataW.trod_array hs hf
  refine ⟨cs, m, rfl, hsz.trans hC, fun i u hi => ?_⟩
  have hin : i < n := by have := (Array.getElem?_eq_some_iff.1 hi).1; omega
  have h1 := hel i hin
  have e1 : (((Value.agg cs).cells.toList.drop (i * P.cellsOf e)).take (P.cellsOf e)) = [u] := by
    rw [hone, Nat.mul_one]
    show (cs.toList.drop i).take 1 = [u]
    have hlt : i < cs.toList.length := by simpa using (Array.getElem?_eq_some_iff.1 hi).1
    rw [List.drop_eq_getElem_cons hlt]
    simp
    exact (Array.getElem?_eq_some_iff.1 hi).2
  rw [e1] at h1
  exact ⟨xs[i]'(by omega), by rw [h1]; exact List.getElem?_eq_getElem (by omega)⟩

theorem open_arr1 {t e : TypeId} {v : Value} {d : DataW H} {p : List MemPlace} (hs : P.underlying t = some (.array 1 e)) (hone : P.cellsOf e = 1) (hC : P.cellsOf t = 1)
    (hv : Value.okWide P w r b0 t v) (h : DataW.Trod enc P w base spare held t v d p) :
    ∃ (c0 : Value) (m : Nat) (y0 : DataW H × List MemPlace), v = .agg #[c0] ∧ DataW.trod enc P w base spare held m e [c0] = some y0 := by
  obtain ⟨cs, m, rfl, hsz, he⟩ := open_arr hs hone hC hv h
  obtain ⟨l⟩ := cs
  match l, hsz with
  | [c0], _ =>
    obtain ⟨y0, h0⟩ := he 0 c0 rfl
    exact ⟨c0, m, y0, rfl, h0⟩

theorem open_arr2 {t e : TypeId} {v : Value} {d : DataW H} {p : List MemPlace} (hs : P.underlying t = some (.array 2 e)) (hone : P.cellsOf e = 1) (hC : P.cellsOf t = 2)
    (hv : Value.okWide P w r b0 t v) (h : DataW.Trod enc P w base spare held t v d p) :
    ∃ (c0 c1 : Value) (m : Nat) (y0 y1 : DataW H × List MemPlace), v = .agg #[c0, c1] ∧ DataW.trod enc P w base spare held m e [c0] = some y0 ∧ DataW.trod enc P w base spare held m e [c1] = some y1 := by
  obtain ⟨cs, m, rfl, hsz, he⟩ := open_arr hs hone hC hv h
  obtain ⟨l⟩ := cs
  match l, hsz with
  | [c0, c1], _ =>
    obtain ⟨y0, h0⟩ := he 0 c0 rfl
    obtain ⟨y1, h1⟩ := he 1 c1 rfl
    exact ⟨c0, c1, m, y0, y1, rfl, h0, h1⟩
end

end Go.Proofs.Ytjgdplengfnkaaa
