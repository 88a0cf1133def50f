/-
  No cell of these rows narrows 'for every input' (looked for: loops, veiled, ifaces, maps, wideKeys, modest, calm, conditions, laid).
  DERIVED. THE GIVEN ROWS OF THIS SEAT. 3 by the template 'for every input the law returns true; each argument reads behind the call as it read before'; 0 by the template 'total and deterministic' (their statements: YtgbgjlgofjbemaaTotals.lean).
  GIVEN WITH THE SEED: the statements are not yours to turn. If you find one false, say at which input.
  Laid BY PROGRAM, IN A SANDBOX (cutbox-rows.mjs): the forced cells as the released guide's own fill.sh prints them over the translation e59282eb58dbe9c7… (all of the seat's roots in one cut). By AI agents, Wed Nov 11 2026. No macro, syntax, notation, axiom, sorry.
-/
import Derived.Test.YtgbgjlgofjbemaaChecked
import GoSem.Claim
import GoSem.ClaimJoined
import GoSem.ClaimMapViews
import Derived.JoinedTies
import Derived.KernelRfl
namespace Go.Proofs.Ytgbgjlgofjbemaa
/- THE CELL 'sum', in the pinned program and in every row, IS THE sha256 OF THE DUMP (.gsa) THAT YtgbgjlgofjbemaaProg.lean LOADS. Nothing in Lean hashes anything: it is a label: what it is worth is what the hold of that sum in a sandbox is worth. -/
noncomputable def Try.pinned : Pinned := { name := "ytgbgjlgofjbemaa", sum := "e59282eb58dbe9c74f54e56d8e235fe2902952fb026ec5c609648ef04a51186a", checked := Try.checked }
namespace Rows
def none {H : Type} : Left H := { results := [], args := [] }

/-- 'taprootlaw45.LettersWords': WHATEVER THE INPUT: true; the input reads as it did. -/
def lettersWordsSpec : ChangeSpec := { name := "lettersWords", fn := fun _ => fun
  | [d1, d2] => { results := [.lit (.bool true)], args := [d1, d2] }
  | _ => none }
def lettersWordsRow : OpenClaim := { program := "ytgbgjlgofjbemaa", sum := "e59282eb58dbe9c74f54e56d8e235fe2902952fb026ec5c609648ef04a51186a", func := "taproot/taprootlaw45.LettersWords", spec := "lettersWords", apart := false }
def LettersWordsSaid : Prop := lettersWordsRow.holds Try.pinned (OpenSpec.ofChange lettersWordsSpec)

/-- ITS FALSE NEIGHBOUR: 'it returns false'. Refute it at one input. -/
def lettersWordsWrong : ChangeSpec := { name := "lettersWords", fn := fun _ => fun
  | [d1, d2] => { results := [.lit (.bool false)], args := [d1, d2] }
  | _ => none }
def LettersWordsWrongFalsely : Prop := lettersWordsRow.holds Try.pinned (OpenSpec.ofChange lettersWordsWrong)

/-- 'taprootlaw45.LettersLess': WHATEVER THE INPUT: true; the input reads as it did. -/
def lettersLessSpec : ChangeSpec := { name := "lettersLess", fn := fun _ => fun
  | [d1, d2] => { results := [.lit (.bool true)], args := [d1, d2] }
  | _ => none }
def lettersLessRow : OpenClaim := { program := "ytgbgjlgofjbemaa", sum := "e59282eb58dbe9c74f54e56d8e235fe2902952fb026ec5c609648ef04a51186a", func := "taproot/taprootlaw45.LettersLess", spec := "lettersLess", apart := false }
def LettersLessSaid : Prop := lettersLessRow.holds Try.pinned (OpenSpec.ofChange lettersLessSpec)

/-- ITS FALSE NEIGHBOUR: 'it returns false'. Refute it at one input. -/
def lettersLessWrong : ChangeSpec := { name := "lettersLess", fn := fun _ => fun
  | [d1, d2] => { results := [.lit (.bool false)], args := [d1, d2] }
  | _ => none }
def LettersLessWrongFalsely : Prop := lettersLessRow.holds Try.pinned (OpenSpec.ofChange lettersLessWrong)

/-- 'taprootlaw47.CompactBlocks': WHATEVER THE INPUT: true; the input reads as it did. -/
def compactBlocksSpec : ChangeSpec := { name := "compactBlocks", fn := fun _ => fun
  | [d] => { results := [.lit (.bool true)], args := [d] }
  | _ => none }
def compactBlocksRow : OpenClaim := { program := "ytgbgjlgofjbemaa", sum := "e59282eb58dbe9c74f54e56d8e235fe2902952fb026ec5c609648ef04a51186a", func := "taproot/taprootlaw47.CompactBlocks", spec := "compactBlocks", unfollowed := true, recurses := true, apart := false }
def CompactBlocksSaid : Prop := compactBlocksRow.holds Try.pinned (OpenSpec.ofChange compactBlocksSpec)

/-- ITS FALSE NEIGHBOUR: 'it returns false'. Refute it at one input. -/
def compactBlocksWrong : ChangeSpec := { name := "compactBlocks", fn := fun _ => fun
  | [d] => { results := [.lit (.bool false)], args := [d] }
  | _ => none }
def CompactBlocksWrongFalsely : Prop := compactBlocksRow.holds Try.pinned (OpenSpec.ofChange compactBlocksWrong)

/- THE SECOND FORM. 'bulk': how many values and letters a reading holds, each counted each time it is reached (what is shared counts as often as it is met; a slice's spare places count too). A statement '..UptoSaid' is the law's where the arguments, and the package variables that the reading takes, are together of bulk at most 1048576: NARROWER than '..Said'. Prove '..Said' where nothing that the law and all that it calls make is longer than what came in: it says more and counts as full. Else prove '..UptoSaid'. A law counts once. -/
mutual
def uptoBulk {H : Type} : DataW H → Nat
  | .lit (.string bytes) => bytes.length + 1
  | .lit _ => 1
  | .nil => 1
  | .ptr d => uptoBulk d + 1
  | .slice elems spare => uptoBulkAll elems + uptoBulkAll spare + 1
  | .agg parts => uptoBulkAll parts + 1
  | .iface _ d => uptoBulk d + 1
  | .map entries => uptoBulkEntries entries + 1
  | .held _ => 1
def uptoBulkAll {H : Type} : List (DataW H) → Nat
  | [] => 0
  | d :: r => uptoBulk d + uptoBulkAll r
def uptoBulkEntries {H : Type} : List (Lit × DataW H) → Nat
  | [] => 0
  | x :: r => uptoBulkEntry x + uptoBulkEntries r
def uptoBulkEntry {H : Type} : Lit × DataW H → Nat
  | (.string bytes, d) => bytes.length + uptoBulk d + 1
  | (_, d) => uptoBulk d + 1
 end
def uptoSmall : (H : Type) → List (DataW H) → Bool := fun _ ds => decide (uptoBulkAll ds ≤ 1048576)
def OpenSpec.upto (s : _root_.Go.ChangeSpec) : _root_.Go.OpenSpec := { _root_.Go.OpenSpec.ofChange s with cond := some uptoSmall }

/-- 'taprootlaw45.LettersWords', WHERE WHAT IT READS IS OF BULK AT MOST 1048576: true; the input reads as it did. -/
def lettersWordsUptoRow : OpenClaim := { program := "ytgbgjlgofjbemaa", sum := "e59282eb58dbe9c74f54e56d8e235fe2902952fb026ec5c609648ef04a51186a", func := "taproot/taprootlaw45.LettersWords", spec := "lettersWords", apart := false, narrowed := true }
def LettersWordsUptoSaid : Prop := lettersWordsUptoRow.holds Try.pinned (OpenSpec.upto lettersWordsSpec)

/-- 'taprootlaw45.LettersLess', WHERE WHAT IT READS IS OF BULK AT MOST 1048576: true; the input reads as it did. -/
def lettersLessUptoRow : OpenClaim := { program := "ytgbgjlgofjbemaa", sum := "e59282eb58dbe9c74f54e56d8e235fe2902952fb026ec5c609648ef04a51186a", func := "taproot/taprootlaw45.LettersLess", spec := "lettersLess", apart := false, narrowed := true }
def LettersLessUptoSaid : Prop := lettersLessUptoRow.holds Try.pinned (OpenSpec.upto lettersLessSpec)

/-- 'taprootlaw47.CompactBlocks', WHERE WHAT IT READS IS OF BULK AT MOST 1048576: true; the input reads as it did. -/
def compactBlocksUptoRow : OpenClaim := { program := "ytgbgjlgofjbemaa", sum := "e59282eb58dbe9c74f54e56d8e235fe2902952fb026ec5c609648ef04a51186a", func := "taproot/taprootlaw47.CompactBlocks", spec := "compactBlocks", unfollowed := true, recurses := true, apart := false, narrowed := true }
def CompactBlocksUptoSaid : Prop := compactBlocksUptoRow.holds Try.pinned (OpenSpec.upto compactBlocksSpec)

end Rows
end Go.Proofs.Ytgbgjlgofjbemaa
