/- What the reading of a graph that came in says of its cells. -/
import Derived.Test.YtgbgjlgofjbemaaDeep
import Derived.Test.YtgbgjlgofjbemaaN
namespace Go.Proofs.Ytgbgjlgofjbemaa
open Go.RowKit Go.ChangeShapes Go.WideShapes Go.Deep

section
variable {H : Type} {enc : TypeId × Value → H} {w : World} {spare : Nat → Bool} {held : Bool}

theorem nodes_read {fuel : Nat} {v : Value} {y : DataW H × List MemPlace} (h : DataW.trod enc Try.prog w 0 spare held fuel 33 [v] = some y) :
    ∃ (a : Option Addr) (cap : Nat) (xs : List NodeV), v = .slice a xs.length cap ∧ NodesAt w a xs ∧ xs.length ≤ maxLen := by
  obtain ⟨a, len, cap, n, rfl, hl, hm, hc⟩ := structs_read Try.underlying33 Try.underlying50 (by kernel_rfl) (by kernel_rfl) (by decide) h
  rcases hc with rfl | ⟨b, off, rfl, hc⟩
  · exact ⟨a, cap, [], rfl, ⟨Cells.nil _ _, by simp⟩, Nat.zero_le _⟩
  · have each : ∀ i, i < len → ∃ x : NodeV, w.cell? ⟨b, off + i * 2, none⟩ = some (.slice x.pa x.ptrs.length x.pc) ∧ w.cell? ⟨b, off + i * 2 + 1, none⟩ = some (.slice x.da x.datas.length x.dc) ∧ x.ok w := by
      intro i hi
      obtain ⟨u, z, hu, hz⟩ := hc i hi 0 _ rfl
      obtain ⟨u', z', hu', hz'⟩ := hc i hi 1 _ rfl
      obtain ⟨pa, pl, pc, ptrs, rfl, hpl, hpc, _, hp1, hp2⟩ := ints_read Try.underlying32 Try.underlying3 (by kernel_rfl) hz
      obtain ⟨da, dl, dc, datas, rfl, hdl, hdc, _, hd1, hd2⟩ := nats_read (k := .u64) (B := 18446744073709551616) (fun z hz => wf_u64 hz) Try.underlying22 Try.underlying43 (by kernel_rfl) hz'
      subst hpl
      subst hdl
      refine ⟨⟨pa, pc, ptrs, da, dc, datas⟩, hu, ?_, hpc, hdc, Nat.le_trans hp1 hp2, Nat.le_trans hd1 hd2⟩
      rw [Nat.add_assoc]
      exact hu'
    obtain ⟨f, hf⟩ := choose_lt each
    refine ⟨_, cap, (List.range len).map f, by simp, ⟨.inr ⟨b, off, rfl, fun i v hi => ?_⟩, fun x hx => ?_⟩, by simp; omega⟩
    · have hlen : i < len * 2 := by
        have := (List.getElem?_eq_some_iff.1 hi).1
        rw [nodes_length] at this
        simpa using this
      have hq : i / 2 < len := by omega
      have hg := nodes_get ((List.range len).map f) (i / 2) (by simpa using hq)
      have hfd : ((List.range len).map f).getD (i / 2) default = f (i / 2) := by simp [hq]
      rw [hfd] at hg
      have hfc := hf (i / 2) hq
      rcases (show i = i / 2 * 2 ∨ i = i / 2 * 2 + 1 by omega) with e | e
      · rw [e] at hi ⊢
        have e2 : i / 2 * 2 / 2 = i / 2 := by omega
        rw [hg.1] at hi
        cases hi
        exact hfc.1
      · rw [e] at hi ⊢
        rw [hg.2] at hi
        cases hi
        rw [← Nat.add_assoc]
        exact hfc.2.1
    · rw [List.mem_map] at hx
      obtain ⟨i, hi, rfl⟩ := hx
      exact (hf i (by simpa using hi)).2.2
end

end Go.Proofs.Ytgbgjlgofjbemaa
