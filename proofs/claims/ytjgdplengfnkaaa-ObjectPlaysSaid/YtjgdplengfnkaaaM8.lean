/- Parts of the proof, one behind the other: Ue. -/
import Derived.Test.YtjgdplengfnkaaaM7

/- law15: ObjectPlays; a slice of calls that came in. -/
namespace Go.Proofs.Ytjgdplengfnkaaa
open Go.RowKit Go.ChangeShapes Go.WideShapes Go.Deep
set_option linter.unusedVariables false

set_option maxHeartbeats 2000000 in
set_option maxRecDepth 20000 in
theorem objectPlays_any (c : Nat) (hc : c < 256) (a : Option Addr) (n cap : Nat) (l : List Op15) (hn : l.length = n) (w : World) (hcs : Cells w a (recs Op15.cs l)) (hok : ∀ o ∈ l, o.ok) (hnm : n ≤ maxLen) :
    Calls Try.prog 4 #[.int .u8 (c : Int), .slice a n cap] w fun e w' => e = .returned (.bool true) ∧ Below w.heap.size w w' := by
  have HN := Lib.hid hn
  have HCS := Lib.hid hcs
  have HOK := Lib.hid hok
  have HNM := Lib.hid hnm
  clear hn hcs hok hnm
  go_enter Try.func4, Try.ntmps4
  go_wp2_with fail
  refine (awake15_any _).mono ?_
  rintro e w1 ⟨rfl, hb1⟩
  have HB1 := Lib.hid hb1
  clear hb1
  go_wp2_with fail
  refine (played15_any c hc a n cap l HN.out _ (HCS.out.below HB1.out (Nat.le_refl _)) HOK.out HNM.out).mono ?_
  rintro e w2 ⟨F, v, S, m, rfl, hdl, hfit, hra, hd, hb2⟩
  obtain ⟨an, cn, al, cl, aw, cw, ad, cd, ap, cp, rfl, y1, y2, y3, y4, y5⟩ := hra.ex
  clear y1 y2 y3 y4 y5 hdl hfit hra hd
  have HB2 := Lib.hid (HB1.out.trans (hb2.mono HB1.out.size))
  clear hb2
  unfold vdev
  go_wp2_with fail
  go_ret
  exact ⟨rfl, HB2.out.trans ((below_alloc w2 _).mono HB2.out.size)⟩

theorem seven {α : Type} {l : List α} (h : l.length = 7) : ∃ a0 a1 a2 a3 a4 a5 a6, l = [a0, a1, a2, a3, a4, a5, a6] := by
  match l, h with
  | [a0, a1, a2, a3, a4, a5, a6], _ => exact ⟨a0, a1, a2, a3, a4, a5, a6, rfl⟩

section
variable {H : Type} {enc : TypeId × Value → H} {w : World} {spare : Nat → Bool} {held : Bool}

theorem ops15_read {fuel : Nat} {v : Value} {y : DataW H × List MemPlace} (h : DataW.trod enc Try.prog w 0 spare held fuel 57 [v] = some y) :
    ∃ (a : Option Addr) (n cap : Nat) (l : List Op15), v = .slice a n cap ∧ l.length = n ∧ Cells w a (recs Op15.cs l) ∧ (∀ o ∈ l, o.ok) ∧ n ≤ maxLen := by
  obtain ⟨a, len, cap, m, rfl, hl, hm, hc⟩ := elems_read Try.underlying57 (show Try.prog.cellsOf 125 = 7 by kernel_rfl) (by decide) h
  rcases hc with rfl | ⟨b, off, rfl, hc⟩
  · exact ⟨a, 0, cap, [], rfl, rfl, Cells.nil _ _, by simp, Nat.zero_le _⟩
  · have each : ∀ i, i < len → ∃ x : Op15, (∀ r u, x.cs[r]? = some u → w.cell? ⟨b, off + i * 7 + r, none⟩ = some u) ∧ x.ok := by
      intro i hi
      obtain ⟨us, z, hlen, hat, hz⟩ := hc i hi
      obtain ⟨ys, n', _, _, _, hyl, hf⟩ := DataW.trod_struct Try.underlying125 hz
      obtain ⟨u0, u1, u2, u3, u4, u5, u6, rfl⟩ := seven hlen
      have c1 : Try.prog.cellsOf 3 = 1 := by kernel_rfl
      have c2 : Try.prog.cellsOf 76 = 1 := by kernel_rfl
      have c3 : Try.prog.cellsOf 73 = 2 := by kernel_rfl
      have get : ∀ (j : Nat) (x : DataW H × List MemPlace → Prop), j < 6 → ∃ z, ys[j]? = some z := fun j _ hj => ⟨_, List.getElem?_eq_getElem (by rw [hyl]; exact hj)⟩
      obtain ⟨z0, e0⟩ := get 0 (fun _ => True) (by decide)
      obtain ⟨z1, e1⟩ := get 1 (fun _ => True) (by decide)
      obtain ⟨z2, e2⟩ := get 2 (fun _ => True) (by decide)
      obtain ⟨z3, e3⟩ := get 3 (fun _ => True) (by decide)
      obtain ⟨z4, e4⟩ := get 4 (fun _ => True) (by decide)
      obtain ⟨z5, e5⟩ := get 5 (fun _ => True) (by decide)
      have f0 : DataW.trod enc Try.prog w 0 spare held n' 3 (([u0, u1, u2, u3, u4, u5, u6].drop 0).take (Try.prog.cellsOf 3)) = some z0 := (hf 0 _ rfl).trans e0
      rw [c1] at f0
      replace f0 : DataW.trod enc Try.prog w 0 spare held n' 3 [u0] = some z0 := f0
      have f1 : DataW.trod enc Try.prog w 0 spare held n' 3 (([u0, u1, u2, u3, u4, u5, u6].drop 1).take (Try.prog.cellsOf 3)) = some z1 := (hf 1 _ rfl).trans e1
      rw [c1] at f1
      replace f1 : DataW.trod enc Try.prog w 0 spare held n' 3 [u1] = some z1 := f1
      have f2 : DataW.trod enc Try.prog w 0 spare held n' 3 (([u0, u1, u2, u3, u4, u5, u6].drop 2).take (Try.prog.cellsOf 3)) = some z2 := (hf 2 _ rfl).trans e2
      rw [c1] at f2
      replace f2 : DataW.trod enc Try.prog w 0 spare held n' 3 [u2] = some z2 := f2
      have f3 : DataW.trod enc Try.prog w 0 spare held n' 3 (([u0, u1, u2, u3, u4, u5, u6].drop 3).take (Try.prog.cellsOf 3)) = some z3 := (hf 3 _ rfl).trans e3
      rw [c1] at f3
      replace f3 : DataW.trod enc Try.prog w 0 spare held n' 3 [u3] = some z3 := f3
      have f4 : DataW.trod enc Try.prog w 0 spare held n' 76 (([u0, u1, u2, u3, u4, u5, u6].drop 4).take (Try.prog.cellsOf 76)) = some z4 := (hf 4 _ rfl).trans e4
      rw [c2] at f4
      replace f4 : DataW.trod enc Try.prog w 0 spare held n' 76 [u4] = some z4 := f4
      have f5 : DataW.trod enc Try.prog w 0 spare held n' 73 (([u0, u1, u2, u3, u4, u5, u6].drop 5).take (Try.prog.cellsOf 73)) = some z5 := (hf 5 _ rfl).trans e5
      rw [c3] at f5
      replace f5 : DataW.trod enc Try.prog w 0 spare held n' 73 [u5, u6] = some z5 := f5
      obtain ⟨k, rfl, hk⟩ := int_read Try.underlying3 f0
      obtain ⟨p1, rfl, h1⟩ := int_read Try.underlying3 f1
      obtain ⟨p2, rfl, h2⟩ := int_read Try.underlying3 f2
      obtain ⟨p3, rfl, h3⟩ := int_read Try.underlying3 f3
      obtain ⟨p4, rfl, h4⟩ := int_read Try.underlying76 f4
      obtain ⟨ys', n'', _, _, _, hyl', hf'⟩ := DataW.trod_struct Try.underlying73 f5
      have get' : ∀ (j : Nat), j < 2 → ∃ z, ys'[j]? = some z := fun j hj => ⟨_, List.getElem?_eq_getElem (by rw [hyl']; exact hj)⟩
      obtain ⟨x0, i0⟩ := get' 0 (by decide)
      obtain ⟨x1, i1⟩ := get' 1 (by decide)
      have q0 : DataW.trod enc Try.prog w 0 spare held n'' 3 (([u5, u6].drop 0).take (Try.prog.cellsOf 3)) = some x0 := (hf' 0 _ rfl).trans i0
      rw [c1] at q0
      replace q0 : DataW.trod enc Try.prog w 0 spare held n'' 3 [u5] = some x0 := q0
      have q1 : DataW.trod enc Try.prog w 0 spare held n'' 3 (([u5, u6].drop 1).take (Try.prog.cellsOf 3)) = some x1 := (hf' 1 _ rfl).trans i1
      rw [c1] at q1
      replace q1 : DataW.trod enc Try.prog w 0 spare held n'' 3 [u6] = some x1 := q1
      obtain ⟨p5, rfl, h5⟩ := int_read Try.underlying3 q0
      obtain ⟨p6, rfl, h6⟩ := int_read Try.underlying3 q1
      have h4' := wf_u64 h4
      obtain ⟨x, rfl⟩ := Int.eq_ofNat_of_zero_le h4'.1
      exact ⟨⟨k, p1, p2, p3, x, p5, p6⟩, hat, wf_i64 hk, wf_i64 h1, wf_i64 h2, wf_i64 h3, (show x < 18446744073709551616 by omega), wf_i64 h5, wf_i64 h6⟩
    obtain ⟨l, hll, hcs, hok⟩ := recs_of Op15.len (by decide) ⟨0, 0, 0, 0, 0, 0, 0⟩ each
    exact ⟨_, len, cap, l, rfl, hll, hcs, hok, by omega⟩
end

end Go.Proofs.Ytjgdplengfnkaaa
