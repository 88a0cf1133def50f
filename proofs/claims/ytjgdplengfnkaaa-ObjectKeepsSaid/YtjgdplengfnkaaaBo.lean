/- blocks: Open, Get, Count; law07: Ref, Refs. -/
import Derived.Test.YtjgdplengfnkaaaRk
namespace Go.Proofs.Ytjgdplengfnkaaa
open Go.RowKit
set_option linter.unusedVariables false

/-- A table of headers in memory. -/
structure TabAt (w : World) (p : Nat) (F : Foot) (B : Nat) (l : List Hd) : Prop where
  ex : ∃ g c, w.heap[p]? = some (.cells #[vdev F, .int .i64 (B : Int), .slice (some ⟨g, 0, none⟩) l.length c] 121 (0, 0)) ∧ l.length ≤ c ∧ RowAt w g 48 (hdCs l) ∧ p ≠ g

theorem TabAt.below {w w' : World} {p B : Nat} {F : Foot} {l : List Hd} (h : TabAt w p F B l) (hb : Below w.heap.size w w') : TabAt w' p F B l := by
  obtain ⟨g, c, hp, hc, hr, hne⟩ := h.ex
  exact ⟨g, c, (hb.block p (Array.getElem?_eq_some_iff.1 hp).1).trans hp, hc, hr.keep (hb.block g hr.lt), hne⟩
theorem TabAt.lt {w : World} {p B : Nat} {F : Foot} {l : List Hd} (h : TabAt w p F B l) : p < w.heap.size := by
  obtain ⟨g, c, hp, _⟩ := h.ex
  exact (Array.getElem?_eq_some_iff.1 hp).1

/-- What opening answers. -/
def OpenPost (f : Nat → Nat) (F : Foot) (B : Nat) (w : World) : Ending → World → Prop := fun en w' => Below w.heap.size w w' ∧
  ((AllOk f B ∧ ∃ p, en = .returned (.tuple #[.pointer (some ⟨p, 0, none⟩), .int .i64 0]) ∧ w.heap.size ≤ p ∧ TabAt w' p F B (hds f B)) ∨
   (∃ b : Nat, 1 ≤ b ∧ b < B ∧ AllOk f b ∧ (decN b (f b)).code ≠ 0 ∧ en = .returned (.tuple #[.pointer none, .int .i64 21])))

set_option maxHeartbeats 1000000 in
set_option maxRecDepth 100000 in
theorem open_tab {w : World} {F : Foot} {S : Dev} (h : DevAt w F S) (B : Nat) (hB1 : 1 ≤ B) (hB : B ≤ 1000) :
    Calls Try.prog 13 #[vdev F, vgeom B] w (OpenPost (devWord S) F B w) := by
  have hbx := below_alloc w (.cells #[.int .i64 (B : Int)] 25)
  have HD := Lib.hid (h.below hbx)
  have HB := Lib.hid hbx
  have hcx : (w.alloc (.cells #[.int .i64 (B : Int)] 25)).cell? ⟨w.heap.size, 0, none⟩ = some (.int .i64 (B : Int)) := cell_alloc_new _ _ _ 0 _ rfl
  generalize hP : OpenPost (devWord S) F B w = Post
  have HPE := Lib.hid hP
  clear h hP hbx
  go_enter Try.func13, Try.ntmps13
  go_wp2_with fail
  refine (read_any HD.out B hB1 hB).mono ?_
  rintro e w1 ⟨hb1, ⟨hok, g, c, rfl, hg, hgc, hr⟩ | ⟨b, hb0, hbB, hok, hbad, rfl⟩⟩
  · have hcx1 : w1.cell? ⟨w.heap.size, 0, none⟩ = some (.int .i64 (B : Int)) := below_cells hb1 hcx (Nat.le_refl _)
    have HB1 := Lib.hid (HB.out.trans (hb1.mono HB.out.size))
    have HOK := Lib.hid hok
    have HR := Lib.hid hr
    have hgl := hr.lt
    clear hcx hok hr hb1 HD
    go_wp2_with fail
    rw [← HPE.out]
    refine ⟨HB1.out.alloc HB1.out.size _, .inl ⟨HOK.out, w1.heap.size, rfl, HB1.out.size, ⟨g, c, ?_, by rw [hds_length]; exact hgc, HR.out.keep (Below.heap_alloc _ _ _ hgl), by omega⟩⟩⟩
    rw [heap_alloc_new, hds_length]
  · have HB1 := Lib.hid (HB.out.trans (hb1.mono HB.out.size))
    have HOK := Lib.hid hok
    have HBad := Lib.hid hbad
    clear hok hbad hb1 HD
    go_wp2_with fail
    rw [← HPE.out]
    exact ⟨HB1.out, .inr ⟨b, hb0, hbB, HOK.out, HBad.out, rfl⟩⟩

def Hd.val (h : Hd) : Value := .agg #[.int .i64 h.k, .int .i64 h.c, .int .i64 h.l]
/-- A header, where there is one. -/
def hdGet (l : List Hd) (b : Int) : Hd := if b < 1 ∨ (l.length : Int) ≤ b then ⟨0, 0, 0⟩ else l.getD b.toNat default

set_option maxHeartbeats 1000000 in
theorem tget_any {w : World} {p B : Nat} {F : Foot} {l : List Hd} (h : TabAt w p F B l) (b : Int) (hl : l.length ≤ 1000) :
    Calls Try.prog 17 #[.pointer (some ⟨p, 0, none⟩), .int .i64 b] w fun e w' => e = .returned (hdGet l b).val ∧ Below w.heap.size w w' := by
  obtain ⟨g, c, hp, hc, hr, hne⟩ := h.ex
  have c2 : w.cell? ⟨p, 2, none⟩ = some (.slice (some ⟨g, 0, none⟩) l.length c) := cell_of_row _ _ 2 _ _ _ hp
  have hpl : p < w.heap.size := (Array.getElem?_eq_some_iff.1 hp).1
  have hgl := hr.lt
  by_cases h1 : b < 1
  · have HE : Hid (hdGet l b = ⟨0, 0, 0⟩) := Lib.hid (by unfold hdGet; rw [if_pos (.inl h1)])
    clear hp hr h
    go_enter Try.func17, Try.ntmps17
    go_wp2_with fail
    exact bodyPost_ret (v := .agg #[.int .i64 0, .int .i64 0, .int .i64 0]) (by simp [results, Try.results17, go_sem]) rfl ⟨by rw [HE.out]; rfl, below_alloc _ _⟩
  by_cases h2 : (l.length : Int) ≤ b
  · have HE : Hid (hdGet l b = ⟨0, 0, 0⟩) := Lib.hid (by unfold hdGet; rw [if_pos (.inr h2)])
    clear hp hr h
    go_enter Try.func17, Try.ntmps17
    go_wp2_with fail
    exact bodyPost_ret (v := .agg #[.int .i64 0, .int .i64 0, .int .i64 0]) (by simp [results, Try.results17, go_sem]) rfl ⟨by rw [HE.out]; rfl, below_alloc _ _⟩
  obtain ⟨j, rfl⟩ := Int.eq_ofNat_of_zero_le (show 0 ≤ b by omega)
  have hj : j < l.length := by omega
  have HE : Hid (hdGet l (j : Int) = l.getD j default) := Lib.hid (by unfold hdGet; rw [if_neg (by omega)]; rfl)
  have HA := hdCs_at l j hj
  generalize l.getD j default = hd at *
  obtain ⟨hk, hcl, hln⟩ := hd
  have d0 : w.cell? ⟨g, j * 3, none⟩ = some (.int .i64 hk) := hr.cell (HA 0 _ rfl)
  have d1 : w.cell? ⟨g, j * 3 + 1, none⟩ = some (.int .i64 hcl) := hr.cell (HA 1 _ rfl)
  have d2 : w.cell? ⟨g, j * 3 + 2, none⟩ = some (.int .i64 hln) := hr.cell (HA 2 _ rfl)
  clear hp hr h HA
  go_enter Try.func17, Try.ntmps17
  go_wp2_with fail
  exact bodyPost_ret (v := .agg #[.int .i64 hk, .int .i64 hcl, .int .i64 hln]) (by simp [results, Try.results17, go_sem]) rfl ⟨by rw [HE.out]; rfl, below_alloc _ _⟩

def cntKind (l : List Hd) (kind : Int) : Nat → Nat
  | 0 => 0
  | b + 1 => cntKind l kind b + (if 1 ≤ b ∧ (l.getD b default).k = kind then 1 else 0)
theorem cntKind_le (l : List Hd) (kind : Int) (b : Nat) : cntKind l kind b ≤ b := by
  induction b with
  | zero => exact Nat.le_refl _
  | succ b ih => unfold cntKind; split <;> omega

set_option maxHeartbeats 1000000 in
theorem count_any {w : World} {p B : Nat} {F : Foot} {l : List Hd} (h : TabAt w p F B l) (kind : Int) (hl : l.length ≤ 1000) (hl1 : 1 ≤ l.length) :
    Calls Try.prog 18 #[.pointer (some ⟨p, 0, none⟩), .int .i64 kind] w fun e w' => e = .returned (.int .i64 (cntKind l kind l.length : Nat)) ∧ w = w' := by
  obtain ⟨g, c, hp, hc, hr, hne⟩ := h.ex
  have c2 : w.cell? ⟨p, 2, none⟩ = some (.slice (some ⟨g, 0, none⟩) l.length c) := cell_of_row _ _ 2 _ _ _ hp
  have HR := Lib.hid hr
  clear h hp hr
  go_enter Try.func18, Try.ntmps18
  go_wp2_with fail
  go_loop [5, 6] (fun n i => ∃ b : Nat, 1 ≤ b ∧ b ≤ l.length ∧ i = .int .i64 b ∧ n = .int .i64 (cntKind l kind b : Nat)) (fun _ i => l.length - (intOf i).toNat)
  case atStart => exact ⟨1, Nat.le_refl _, hl1, rfl, rfl⟩
  case round =>
    obtain ⟨b, hb1, hb2, rfl, rfl⟩ := hrel
    have hcl := cntKind_le l kind b
    by_cases hlt : b < l.length
    · have hlt' : (b : Int) < (l.length : Int) := by omega
      have HA := hdCs_at l b hlt
      have HS : Hid (cntKind l kind (b + 1) = cntKind l kind b + (if 1 ≤ b ∧ (l.getD b default).k = kind then 1 else 0)) := Lib.hid rfl
      generalize l.getD b default = hd at *
      obtain ⟨hk, hcl2, hln⟩ := hd
      have d0 : w.cell? ⟨g, b * 3, none⟩ = some (.int .i64 hk) := HR.out.cell (HA 0 _ rfl)
      clear HA
      by_cases hq : hk = kind
      · have hq1 : (hk == kind) = true := by simpa using hq
        have HQ := Lib.hid hq
        clear hq
        go_wp2_with fail
        exact ⟨⟨b + 1, by omega, by omega, vint (by omega), vint (by rw [HS.out, if_pos ⟨hb1, HQ.out⟩]; omega)⟩, by simp [intOf]; omega⟩
      · have hq1 : (hk == kind) = false := by simpa using hq
        have HQ := Lib.hid hq
        clear hq
        go_wp2_with fail
        exact ⟨⟨b + 1, by omega, by omega, vint (by omega), vint (by rw [HS.out, if_neg (fun h => HQ.out h.2)]; omega)⟩, by simp [intOf]; omega⟩
    · obtain rfl : b = l.length := by omega
      have hlt' : decide ((l.length : Int) < (l.length : Int)) = false := by simp
      go_wp2_with fail
      go_ret
      exact ⟨rfl, rfl⟩

end Go.Proofs.Ytjgdplengfnkaaa
