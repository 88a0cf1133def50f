/- Graphs that came in or were made: what their memory holds; whether they are right. -/
import Derived.Test.YtgbgjlgofjbemaaM
namespace Go.Proofs.Ytgbgjlgofjbemaa
open Go.RowKit

/-- A node's two slices, and what they hold. -/
structure NodeV where
  pa : Option Addr
  pc : Nat
  ptrs : List Int
  da : Option Addr
  dc : Nat
  datas : List Nat

def NodeV.cells (x : NodeV) : List Value := [.slice x.pa x.ptrs.length x.pc, .slice x.da x.datas.length x.dc]

/-- What a node's slices hold. -/
def NodeV.ok (w : World) (x : NodeV) : Prop := Cells w x.pa (x.ptrs.map (Value.int .i64)) ∧ Cells w x.da (x.datas.map vu64) ∧ x.ptrs.length ≤ maxLen ∧ x.datas.length ≤ maxLen

def NodesAt (w : World) (a : Option Addr) (xs : List NodeV) : Prop := Cells w a (xs.flatMap NodeV.cells) ∧ ∀ x ∈ xs, x.ok w

theorem NodeV.ok.below {w w' : World} {B : Nat} {x : NodeV} (h : x.ok w) (hb : Below B w w') (hB : w.heap.size ≤ B) : x.ok w' := ⟨h.1.below hb hB, h.2.1.below hb hB, h.2.2⟩

theorem NodesAt.below {w w' : World} {B : Nat} {a : Option Addr} {xs : List NodeV} (h : NodesAt w a xs) (hb : Below B w w') (hB : w.heap.size ≤ B) : NodesAt w' a xs :=
  ⟨h.1.below hb hB, fun x hx => (h.2 x hx).below hb hB⟩

instance : Inhabited NodeV := ⟨⟨none, 0, [], none, 0, []⟩⟩

theorem nodes_length (xs : List NodeV) : (xs.flatMap NodeV.cells).length = xs.length * 2 := by
  induction xs with
  | nil => rfl
  | cons x l ih => simp only [List.flatMap_cons, List.length_append, ih, List.length_cons]; simp [NodeV.cells]; omega

theorem nodes_get (xs : List NodeV) : ∀ i, i < xs.length → (xs.flatMap NodeV.cells)[i * 2]? = some (.slice (xs.getD i default).pa (xs.getD i default).ptrs.length (xs.getD i default).pc) ∧
    (xs.flatMap NodeV.cells)[i * 2 + 1]? = some (.slice (xs.getD i default).da (xs.getD i default).datas.length (xs.getD i default).dc) := by
  induction xs with
  | nil => intro i hi; simp at hi
  | cons x l ih =>
    intro i hi
    cases i with
    | zero => simp [NodeV.cells]
    | succ i =>
      have := ih i (by simpa using hi)
      have e : ∀ j, ((x :: l).flatMap NodeV.cells)[j + 2]? = (l.flatMap NodeV.cells)[j]? := by
        intro j
        rw [List.flatMap_cons, List.getElem?_append_right (by simp [NodeV.cells])]
        simp [NodeV.cells]
      rw [show (i + 1) * 2 = i * 2 + 2 by omega, show i * 2 + 2 + 1 = (i * 2 + 1) + 2 by omega, e, e]
      simpa using this

theorem NodesAt.at {w : World} {a : Option Addr} {xs : List NodeV} (h : NodesAt w a xs) {i : Nat} (hi : i < xs.length) :
    ∃ b off, a = some ⟨b, off, none⟩ ∧ b < w.heap.size ∧ ∀ i, i < xs.length → w.cell? ⟨b, off + i * 2, none⟩ = some (.slice (xs.getD i default).pa (xs.getD i default).ptrs.length (xs.getD i default).pc) ∧
      w.cell? ⟨b, off + i * 2 + 1, none⟩ = some (.slice (xs.getD i default).da (xs.getD i default).datas.length (xs.getD i default).dc) := by
  obtain ⟨b, off, rfl, hb, hc⟩ := h.1.at (i := i * 2) (by rw [nodes_length]; omega)
  refine ⟨b, off, rfl, hb, fun j hj => ?_⟩
  have := nodes_get xs j hj
  exact ⟨hc _ _ this.1, by rw [Nat.add_assoc]; exact hc _ _ this.2⟩

theorem getD_mem {xs : List NodeV} {i : Nat} (hi : i < xs.length) : xs.getD i default ∈ xs := by
  rw [List.getD_eq_getElem?_getD, List.getElem?_eq_getElem hi]; exact List.getElem_mem hi

/-- May a pointer be, of so many nodes? -/
def inN (n : Nat) (r : Int) : Bool := decide (-1 ≤ r) && decide (r < (n : Int))

def nodeB (n : Nat) (x : NodeV) : Bool := decide (x.ptrs.length ≤ 63) && decide (x.datas.length ≤ 16384) && x.ptrs.all (inN n)

def rightB (roots : List Int) (xs : List NodeV) : Bool := roots.all (inN xs.length) && xs.all (nodeB xs.length)

theorem all_take_succ {α : Type} (f : α → Bool) (l : List α) (d : α) (k : Nat) (hk : k < l.length) (h : (l.take k).all f = true) (h2 : f (l.getD k d) = true) : (l.take (k + 1)).all f = true := by
  rw [List.take_succ_eq_append_getElem hk, List.all_append, h]
  rw [List.getD_eq_getElem?_getD, List.getElem?_eq_getElem hk] at h2
  simpa using h2

theorem all_false {α : Type} (f : α → Bool) (l : List α) (d : α) (k : Nat) (hk : k < l.length) (h2 : f (l.getD k d) = false) : l.all f = false := by
  rw [List.getD_eq_getElem?_getD, List.getElem?_eq_getElem hk] at h2
  rw [List.all_eq_false]
  exact ⟨_, List.getElem_mem hk, by simpa using h2⟩

set_option maxHeartbeats 400000 in
theorem in_any (r : Int) (n c g : Nat) (a : Option Addr) (w : World) (h : w.cell? ⟨g, 1, none⟩ = some (.slice a n c)) (hn : n ≤ 9223372036854775807) :
    Calls Try.prog 32 #[.int .i64 r, .pointer (some ⟨g, 0, none⟩)] w fun e w' => e = .returned (.bool (inN n r)) ∧ w = w' := by
  by_cases h1 : -1 ≤ r
  · by_cases h2 : r < (n : Int)
    · have HI : Hid (inN n r = true) := Lib.hid (by simp [inN, h1, h2])
      go_enter Try.func32, Try.ntmps32
      go_wp2_with fail
      go_ret
      exact ⟨ret_bool HI.out.symm, rfl⟩
    · have HI : Hid (inN n r = false) := Lib.hid (by simp [inN, h2])
      go_enter Try.func32, Try.ntmps32
      go_wp2_with fail
      go_ret
      exact ⟨ret_bool HI.out.symm, rfl⟩
  · have HI : Hid (inN n r = false) := Lib.hid (by simp [inN, h1])
    go_enter Try.func32, Try.ntmps32
    go_wp2_with fail
    go_ret
    exact ⟨ret_bool HI.out.symm, rfl⟩

end Go.Proofs.Ytgbgjlgofjbemaa
