/- bits.Words: bytes as words. -/
import Derived.Test.YtgbgjlgofjbemaaA
import Derived.Test.YtgbgjlgofjbemaaPw
namespace Go.Proofs.Ytgbgjlgofjbemaa
open Go.RowKit

theorem el64 : Elem Try.prog 22 43 (.int .u64 0) 1 8 := Elem.mk' Try.underlying22 (by kernel_rfl) rfl (by decide)
theorem el8 : Elem Try.prog 45 5 (.int .u8 0) 1 1 := Elem.mk' Try.underlying45 (by kernel_rfl) rfl (by decide)

theorem upN8 (n : Nat) : upN (n : Int) 8 = (((n + 7) / 8 : Nat) : Int) := by unfold upN; split <;> omega

theorem or_val (x z r : Nat) (hx : x < 18446744073709551616) (hz : z < 256) (hs : z * 2 ^ (8 * r) < 18446744073709551616) :
    bits BinOp.or IntKind.u64 (x : Int) (IntKind.u64.wrap ((z : Int) * 2 ^ (8 * r))) = ((x ||| (z * 2 ^ (8 * r)) : Nat) : Int) := by
  have e2 : (z : Int) * 2 ^ (8 * r) = ((z * 2 ^ (8 * r) : Nat) : Int) := by push_cast; rfl
  rw [e2]
  generalize z * 2 ^ (8 * r) = y at *
  have e3 : IntKind.u64.wrap (y : Int) = y := by rw [IntKind.wrap_u64]; omega
  rw [e3, u64_or_nat x y hx hs]

set_option maxHeartbeats 400000 in
theorem words_any (a : Option Addr) {n : Nat} (cap : Nat) (zs : List Nat) (hn : zs.length = n) (w : World) (h : Cells w a (zs.map vu8)) (hz : ∀ z ∈ zs, z < 256) (hl : zs.length ≤ 1000000) :
    Calls Try.prog 18 #[.slice a n cap] w fun e w' => ∃ v, e = .returned v ∧ w'.ownsRow w.heap.size 43 1 v (packW zs).length ((packW zs).map vu64) ∧ Below w.heap.size w w' := by
  subst hn
  have hup := upN8 zs.length
  generalize hm : (zs.length + 7) / 8 = m at hup
  have HM := Lib.hid hm
  have hm2 : m ≤ 1000000 := by omega
  have HU := Lib.hid hup
  have HZ := Lib.hid hz
  clear hm hup hz
  go_enter Try.func18, Try.ntmps18
  go_wp2_with fail
  refine (up_any _ _ _ (by omega) (by omega)).mono ?_
  rintro e w' ⟨rfl, rfl⟩
  rw [HU.out]
  go_wp2_with (at_make; refine wpList_make_len el64 w.heap.size m rfl rfl rfl (by omega) (by decide) (Nat.le_refl _) rfl rfl rfl rfl ?_; intro w1 hown hgrow)
  go_loopw [12] (fun i wr => ∃ k : Nat, k ≤ zs.length ∧ i = .int .i64 k ∧ wr.ownsRow w.heap.size 43 1 (.slice (some ⟨w.heap.size, 0, none⟩) m m) m ((packTo zs m k).map vu64) ∧ Below w.heap.size w wr)
    (fun i _ => zs.length - (intOf i).toNat)
  case atStart =>
    refine ⟨0, Nat.zero_le _, rfl, ?_, below_grown hgrow (Nat.le_refl _)⟩
    rw [packTo_zero, List.map_replicate]
    exact hown
  case round =>
    obtain ⟨k, hk, rfl, ho, hb⟩ := hrel
    by_cases hlt : k < zs.length
    · obtain ⟨b, off, rfl, hbs, hc⟩ := h.atMap 0 hlt
      have hkm : k / 8 < m := by have := HM.out; omega
      have hst := packTo_step zs HZ.out m k hkm
      have hsm := shl_small zs HZ.out k
      have hz' := getD_lt zs HZ.out k
      have hcell : wr.cell? ⟨b, off + k, none⟩ = some (.int .u8 (zs.getD k 0 : Nat)) := by rw [hb.cell (p := ⟨b, off + k, none⟩) hbs]; exact hc k hlt
      have hx : (packTo zs m k).getD (k / 8) 0 < 18446744073709551616 := by rw [packTo_get _ _ _ _ hkm]; exact wordAt_lt _ (fun z hz => HZ.out z (List.mem_of_mem_take hz)) _
      have hwc : wr.cell? ⟨w.heap.size, k / 8, none⟩ = some (.int .u64 ((packTo zs m k).getD (k / 8) 0 : Nat)) := by
        rw [ho.cellAt _ (by omega)]; simp [packTo_length, hkm]
      have hfz : wr.frozen? ⟨w.heap.size, k / 8, none⟩ = false := ho.frozenAt _
      generalize (packTo zs m k).getD (k / 8) 0 = x at *
      generalize zs.getD k 0 = z at *
      have HO := Lib.hid (or_val x z (k % 8) hx hz' hsm)
      have HS := Lib.hid hst
      clear hc hst hsm
      go_wp2
      go_roundw
      case rel =>
        rw [HO.out]
        have hs := (ho.stored (k / 8) (vu64 (x ||| z * 2 ^ (8 * (k % 8)))))
        refine ⟨k + 1, by omega, by go_num, ?_, hb.setCell (Nat.le_refl _) _⟩
        rw [← HS.out, List.map_set]
        exact hs.1
      case measure => simp [intOf]; omega
    · go_wp2
      go_ret
      have he : k = zs.length := by omega
      subst he
      refine ⟨_, rfl, ?_, hb⟩
      have := HM.out
      subst this
      rw [packTo_end] at ho
      rw [packW_length]
      exact ho

end Go.Proofs.Ytgbgjlgofjbemaa
