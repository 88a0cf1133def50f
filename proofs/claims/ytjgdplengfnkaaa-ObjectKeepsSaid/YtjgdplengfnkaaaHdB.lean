/- Headers of blocks: decoded. -/
import Derived.Test.YtjgdplengfnkaaaHdA
namespace Go.Proofs.Ytjgdplengfnkaaa
open Go.RowKit
set_option linter.unusedVariables false

/-- Two results: a struct or an array in a block of its own, and a slot. -/
theorem results_cell_row2 {P : Program} {fn : Func} {p u : Tmp} {ty : TypeId} (h : fn.results = #[.cell p ty, .tmp u]) (tmps : Array Value) (w : World) (g : Nat) (t : TypeId) (cs : Array Value) (fr : Nat × Nat) (d : TypeDesc)
    (hp : tmps.getD p undef = .pointer (some ⟨g, 0, none⟩)) (hg : w.heap[g]? = some (.cells cs t fr))
    (hu : P.underlying ty = some d) (hd : (match d with | .struct _ | .array _ _ => true | _ => false) = true) (hi : (P.info? ty).map (·.size) = some cs.size) :
    (results fn tmps).run P w = .ok (.tuple #[.agg cs, tmps.getD u undef]) w := by
  have hp' : tmps[p]?.getD undef = .pointer (some ⟨g, 0, none⟩) := by simpa using hp
  simp [results, h, hp', asAddr, run_loadVar_row w g t ty cs fr d hg hu hd hi]

theorem aggHd : Agg Try.prog 48 #[.int .i64 0, .int .i64 0, .int .i64 0] := ⟨⟨_, Try.underlying48, rfl⟩, by kernel_rfl⟩
theorem aggRh : Agg Try.prog 46 #[.int .i64 0, .int .i64 0, .int .i64 0] := ⟨⟨_, Try.underlying46, rfl⟩, by kernel_rfl⟩

/-- What a word is as a block's header: kind, class, length, the error's number. -/
structure Dec where
  k : Int
  c : Int
  l : Int
  code : Int
/-- Of a sealed number. -/
def decS (b : Int) (x n : Nat) : Dec :=
  if encN b (n % 4 : Nat) (n / 4 % 64 : Nat) (n / 256 % 65536 : Nat) = x then (if hdRight (n % 4 : Nat) (n / 4 % 64 : Nat) (n / 256 % 65536 : Nat) = true then ⟨(n % 4 : Nat), (n / 4 % 64 : Nat), (n / 256 % 65536 : Nat), 0⟩ else ⟨0, 0, 0, 26⟩) else ⟨0, 0, 0, 26⟩
def decN (b : Int) (x : Nat) : Dec := ((openN x (pl (256 + b))).map (decS b x)).getD ⟨0, 0, 0, 25⟩
def Dec.val (d : Dec) : Value := .tuple #[vhd d.k d.c d.l, .int .i64 d.code]

theorem decN_none {b : Int} {x : Nat} (h : openN x (pl (256 + b)) = none) : (decN b x).val = .tuple #[vhd 0 0 0, .int .i64 25] := by unfold decN; rw [h]; rfl
theorem decN_some {b : Int} {x n : Nat} (h : openN x (pl (256 + b)) = some n) : decN b x = decS b x n := by unfold decN; rw [h]; rfl
theorem openN_some {x q n : Nat} (h : openN x q = some n) : n < 4294967296 ∧ n = x % 4294967296 := by
  unfold openN at h
  split at h
  · cases h; exact ⟨Nat.mod_lt _ (by decide), rfl⟩
  · cases h
theorem right_zero : hdRight 0 0 0 = true := by decide
/-- A word that is its header's word: then that one may be. -/
theorem enc_right {b : Int} {x n : Nat} (h : openN x (pl (256 + b)) = some n) (he : encN b (n % 4 : Nat) (n / 4 % 64 : Nat) (n / 256 % 65536 : Nat) = x) : hdRight (n % 4 : Nat) (n / 4 % 64 : Nat) (n / 256 % 65536 : Nat) = true := by
  obtain ⟨h1, h2⟩ := openN_some h
  cases hr : hdRight (n % 4 : Nat) (n / 4 % 64 : Nat) (n / 256 % 65536 : Nat)
  · unfold encN at he
    rw [hr] at he
    simp at he
    subst he
    subst h2
    exact absurd right_zero (by simpa using hr)
  · rfl
theorem decN_ok {b : Int} {x n : Nat} (h : openN x (pl (256 + b)) = some n) (he : encN b (n % 4 : Nat) (n / 4 % 64 : Nat) (n / 256 % 65536 : Nat) = x) :
    (decN b x).val = .tuple #[vhd (n % 4 : Nat) (n / 4 % 64 : Nat) (n / 256 % 65536 : Nat), .int .i64 0] := by
  have hr := enc_right h he
  rw [decN_some h, decS, if_pos he, if_pos hr]; rfl
theorem decN_bad {b : Int} {x n : Nat} (h : openN x (pl (256 + b)) = some n) (he : encN b (n % 4 : Nat) (n / 4 % 64 : Nat) (n / 256 % 65536 : Nat) ≠ x) :
    (decN b x).val = .tuple #[vhd 0 0 0, .int .i64 26] := by
  rw [decN_some h, decS, if_neg he]; rfl

end Go.Proofs.Ytjgdplengfnkaaa
