/- letters.Words and the reference's. -/
import Derived.Test.YtgbgjlgofjbemaaD
namespace Go.Proofs.Ytgbgjlgofjbemaa
open Go.RowKit

/-- The words of a text. -/
def textWords (s : ByteArray) : List Nat := s.size :: packW (bytesOf s)

theorem textWords_len (s : ByteArray) : (textWords s).length = 1 + (packW (bytesOf s)).length := by simp [textWords]; omega

theorem addr_add (g j : Nat) : (⟨g, 0, none⟩ : Addr).add j = ⟨g, 0 + j, none⟩ := by unfold Addr.add; split <;> simp_all

set_option maxHeartbeats 400000 in
theorem lwords_any (s : ByteArray) (w : World) (hs : s.size ≤ 131064) :
    Calls Try.prog 7 #[.string s] w fun e w' => ∃ v, e = .returned v ∧ w'.ownsRow w.heap.size 43 1 v (textWords s).length ((textWords s).map vu64) ∧ Below w.heap.size w w' := by
  go_enter Try.func7, Try.ntmps7
  go_wp2_with (refine wpList_bytes_of Try.underlying9 Try.underlying45 Try.underlying5 rfl rfl rfl ?_; intro c w1 hc hg hsz)
  have hbl : Below w.heap.size w (w.alloc (Obj.cells #[Value.int IntKind.u64 ↑s.size] 43)) := (Below.refl _ _).alloc (Nat.le_refl _) _
  have ho0 : (w.alloc (Obj.cells #[Value.int IntKind.u64 ↑s.size] 43)).ownsRow w.heap.size 43 1 (.slice (some ⟨w.heap.size, 0, none⟩) 1 1) 1 [vu64 s.size] :=
    ⟨rfl, .inr ⟨w.heap.size, 1, #[vu64 s.size], rfl, Nat.le_refl _, heap_alloc_new w _, Nat.le_refl _, by decide, rfl, rfl⟩⟩
  have ho1 := ho0.kept hg (.inr (by simp [Value.ownBlock]))
  have hb1 := hbl.grown hg (by simp) (by simp)
  refine (words_any _ c (bytesOf s) (bytesOf_length s) w1 (by simpa using hc) (bytesOf_lt s) (by rw [bytesOf_length]; omega)).mono ?_
  rintro e w2 ⟨v, rfl, ho, hb⟩
  have ho2 := owned_below ho1 hb (Nat.le_refl _)
  have hb2 := hb1.trans (hb.mono hb1.size)
  have hlen : (packW (bytesOf s)).length ≤ 1000000 := by rw [packW_length, bytesOf_length]; omega
  clear hc hg hsz hbl ho0 ho1 hb1 hb
  go_wp2_with (at_builtin; refine wpList_append_rows el64 ho2 ho (one_cells _) (by omega) (by decide) hb2.size rfl rfl rfl rfl ?_; intro v' w3 ho3 hg3)
  go_ret
  refine ⟨_, rfl, ?_, below_grownBy hb2 ho2 hg3 (Nat.le_refl _) (Nat.le_refl _)⟩
  rw [textWords_len]
  exact ho3

set_option maxHeartbeats 400000 in
theorem rlwords_any (s : ByteArray) (w : World) (hs : s.size ≤ 131064) :
    Calls Try.prog 11 #[.string s] w fun e w' => ∃ v, e = .returned v ∧ w'.ownsRow w.heap.size 43 1 v (textWords s).length ((textWords s).map vu64) ∧ Below w.heap.size w w' := by
  go_enter Try.func11, Try.ntmps11
  go_wp2_with (refine wpList_bytes_of Try.underlying9 Try.underlying45 Try.underlying5 rfl rfl rfl ?_; intro c w1 hc hg hsz)
  have hbl : Below w.heap.size w (w.alloc (Obj.cells #[Value.int IntKind.u64 ↑s.size] 43)) := (Below.refl _ _).alloc (Nat.le_refl _) _
  have ho0 : (w.alloc (Obj.cells #[Value.int IntKind.u64 ↑s.size] 43)).ownsRow w.heap.size 43 1 (.slice (some ⟨w.heap.size, 0, none⟩) 1 1) 1 [vu64 s.size] :=
    ⟨rfl, .inr ⟨w.heap.size, 1, #[vu64 s.size], rfl, Nat.le_refl _, heap_alloc_new w _, Nat.le_refl _, by decide, rfl, rfl⟩⟩
  have ho1 := ho0.kept hg (.inr (by simp [Value.ownBlock]))
  have hb1 := hbl.grown hg (by simp) (by simp)
  refine (rwords_any _ c (bytesOf s) (bytesOf_length s) w1 (by simpa using hc) (bytesOf_lt s) (by rw [bytesOf_length]; omega)).mono ?_
  rintro e w2 ⟨v, rfl, ho, hb⟩
  have ho2 := owned_below ho1 hb (Nat.le_refl _)
  have hb2 := hb1.trans (hb.mono hb1.size)
  have hlen : (packW (bytesOf s)).length ≤ 1000000 := by rw [packW_length, bytesOf_length]; omega
  clear hc hg hsz hbl ho0 ho1 hb1 hb
  go_wp2_with (at_builtin; refine wpList_append_rows el64 ho2 ho (one_cells _) (by omega) (by decide) hb2.size rfl rfl rfl rfl ?_; intro v' w3 ho3 hg3)
  go_ret
  refine ⟨_, rfl, ?_, below_grownBy hb2 ho2 hg3 (Nat.le_refl _) (Nat.le_refl _)⟩
  rw [textWords_len]
  exact ho3

end Go.Proofs.Ytgbgjlgofjbemaa
