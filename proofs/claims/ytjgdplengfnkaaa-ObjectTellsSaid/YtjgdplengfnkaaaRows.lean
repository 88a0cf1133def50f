/-
  No cell of these rows narrows 'for every input' (looked for: loops, veiled, ifaces, maps, wideKeys, modest, calm, conditions, laid).
  DERIVED. THE GIVEN ROWS OF THIS SEAT. 5 by the template 'for every input the law returns true; each argument reads behind the call as it read before'; 0 by the template 'total and deterministic' (their statements: YtjgdplengfnkaaaTotals.lean).
  GIVEN WITH THE SEED: the statements are not yours to turn. If you find one false, say at which input.
  Laid BY PROGRAM, IN A SANDBOX (cutbox-rows.mjs): the forced cells as the released guide's own fill.sh prints them over the translation 1b4a03bf649c366c… (all of the seat's roots in one cut). By AI agents, Wed Nov 11 2026. No macro, syntax, notation, axiom, sorry.
-/
import Derived.Test.YtjgdplengfnkaaaChecked
import GoSem.Claim
import GoSem.ClaimJoined
import GoSem.ClaimMapViews
import Derived.JoinedTies
import Derived.KernelRfl
namespace Go.Proofs.Ytjgdplengfnkaaa
/- THE CELL 'sum', in the pinned program and in every row, IS THE sha256 OF THE DUMP (.gsa) THAT YtjgdplengfnkaaaProg.lean LOADS. Nothing in Lean hashes anything: it is a label: what it is worth is what the hold of that sum in a sandbox is worth. -/
noncomputable def Try.pinned : Pinned := { name := "ytjgdplengfnkaaa", sum := "1b4a03bf649c366c972c67541b570fe98414199440f0af3efef08c95363338c3", checked := Try.checked }
namespace Rows
def none {H : Type} : Left H := { results := [], args := [] }

/-- 'taprootlaw10.BlocksReads': WHATEVER THE INPUT: true; the input reads as it did. -/
def blocksReadsSpec : ChangeSpec := { name := "blocksReads", fn := fun _ => fun
  | [d1, d2, d3] => { results := [.lit (.bool true)], args := [d1, d2, d3] }
  | _ => none }
def blocksReadsRow : OpenClaim := { program := "ytjgdplengfnkaaa", sum := "1b4a03bf649c366c972c67541b570fe98414199440f0af3efef08c95363338c3", func := "taproot/taprootlaw10.BlocksReads", spec := "blocksReads", apart := false }
def BlocksReadsSaid : Prop := blocksReadsRow.holds Try.pinned (OpenSpec.ofChange blocksReadsSpec)

/-- ITS FALSE NEIGHBOUR: 'it returns false'. Refute it at one input. -/
def blocksReadsWrong : ChangeSpec := { name := "blocksReads", fn := fun _ => fun
  | [d1, d2, d3] => { results := [.lit (.bool false)], args := [d1, d2, d3] }
  | _ => none }
def BlocksReadsWrongFalsely : Prop := blocksReadsRow.holds Try.pinned (OpenSpec.ofChange blocksReadsWrong)

/-- 'taprootlaw15.ObjectPlays': WHATEVER THE INPUT: true; the input reads as it did. -/
def objectPlaysSpec : ChangeSpec := { name := "objectPlays", fn := fun _ => fun
  | [d1, d2] => { results := [.lit (.bool true)], args := [d1, d2] }
  | _ => none }
def objectPlaysRow : OpenClaim := { program := "ytjgdplengfnkaaa", sum := "1b4a03bf649c366c972c67541b570fe98414199440f0af3efef08c95363338c3", func := "taproot/taprootlaw15.ObjectPlays", spec := "objectPlays", apart := false }
def ObjectPlaysSaid : Prop := objectPlaysRow.holds Try.pinned (OpenSpec.ofChange objectPlaysSpec)

/-- ITS FALSE NEIGHBOUR: 'it returns false'. Refute it at one input. -/
def objectPlaysWrong : ChangeSpec := { name := "objectPlays", fn := fun _ => fun
  | [d1, d2] => { results := [.lit (.bool false)], args := [d1, d2] }
  | _ => none }
def ObjectPlaysWrongFalsely : Prop := objectPlaysRow.holds Try.pinned (OpenSpec.ofChange objectPlaysWrong)

/-- 'taprootlaw10.BlocksLast': WHATEVER THE INPUT: true; the input reads as it did. -/
def blocksLastSpec : ChangeSpec := { name := "blocksLast", fn := fun _ => fun
  | [d1, d2, d3] => { results := [.lit (.bool true)], args := [d1, d2, d3] }
  | _ => none }
def blocksLastRow : OpenClaim := { program := "ytjgdplengfnkaaa", sum := "1b4a03bf649c366c972c67541b570fe98414199440f0af3efef08c95363338c3", func := "taproot/taprootlaw10.BlocksLast", spec := "blocksLast", apart := false }
def BlocksLastSaid : Prop := blocksLastRow.holds Try.pinned (OpenSpec.ofChange blocksLastSpec)

/-- ITS FALSE NEIGHBOUR: 'it returns false'. Refute it at one input. -/
def blocksLastWrong : ChangeSpec := { name := "blocksLast", fn := fun _ => fun
  | [d1, d2, d3] => { results := [.lit (.bool false)], args := [d1, d2, d3] }
  | _ => none }
def BlocksLastWrongFalsely : Prop := blocksLastRow.holds Try.pinned (OpenSpec.ofChange blocksLastWrong)

/-- 'taprootlaw15.ObjectKeeps': WHATEVER THE INPUT: true; the input reads as it did. -/
def objectKeepsSpec : ChangeSpec := { name := "objectKeeps", fn := fun _ => fun
  | [d1, d2, d3] => { results := [.lit (.bool true)], args := [d1, d2, d3] }
  | _ => none }
def objectKeepsRow : OpenClaim := { program := "ytjgdplengfnkaaa", sum := "1b4a03bf649c366c972c67541b570fe98414199440f0af3efef08c95363338c3", func := "taproot/taprootlaw15.ObjectKeeps", spec := "objectKeeps", apart := false }
def ObjectKeepsSaid : Prop := objectKeepsRow.holds Try.pinned (OpenSpec.ofChange objectKeepsSpec)

/-- ITS FALSE NEIGHBOUR: 'it returns false'. Refute it at one input. -/
def objectKeepsWrong : ChangeSpec := { name := "objectKeeps", fn := fun _ => fun
  | [d1, d2, d3] => { results := [.lit (.bool false)], args := [d1, d2, d3] }
  | _ => none }
def ObjectKeepsWrongFalsely : Prop := objectKeepsRow.holds Try.pinned (OpenSpec.ofChange objectKeepsWrong)

/-- 'taprootlaw15.ObjectTells': WHATEVER THE INPUT: true; the input reads as it did. -/
def objectTellsSpec : ChangeSpec := { name := "objectTells", fn := fun _ => fun
  | [d1, d2, d3] => { results := [.lit (.bool true)], args := [d1, d2, d3] }
  | _ => none }
def objectTellsRow : OpenClaim := { program := "ytjgdplengfnkaaa", sum := "1b4a03bf649c366c972c67541b570fe98414199440f0af3efef08c95363338c3", func := "taproot/taprootlaw15.ObjectTells", spec := "objectTells", apart := false }
def ObjectTellsSaid : Prop := objectTellsRow.holds Try.pinned (OpenSpec.ofChange objectTellsSpec)

/-- ITS FALSE NEIGHBOUR: 'it returns false'. Refute it at one input. -/
def objectTellsWrong : ChangeSpec := { name := "objectTells", fn := fun _ => fun
  | [d1, d2, d3] => { results := [.lit (.bool false)], args := [d1, d2, d3] }
  | _ => none }
def ObjectTellsWrongFalsely : Prop := objectTellsRow.holds Try.pinned (OpenSpec.ofChange objectTellsWrong)

/- THE SECOND FORM. 'bulk': how many values and letters a reading holds, each counted each time it is reached (what is shared counts as often as it is met; a slice's spare places count too). A statement '..UptoSaid' is the law's where the arguments, and the package variables that the reading takes, are together of bulk at most 1048576: NARROWER than '..Said'. Prove '..Said' where nothing that the law and all that it calls make is longer than what came in: it says more and counts as full. Else prove '..UptoSaid'. A law counts once. -/
mutual
def uptoBulk {H : Type} : DataW H → Nat
  | .lit (.string bytes) => bytes.length + 1
  | .lit _ => 1
  | .nil => 1
  | .ptr d => uptoBulk d + 1
  | .slice elems spare => uptoBulkAll elems + uptoBulkAll spare + 1
  | .agg parts => uptoBulkAll parts + 1
  | .iface _ d => uptoBulk d + 1
  | .map entries => uptoBulkEntries entries + 1
  | .held _ => 1
def uptoBulkAll {H : Type} : List (DataW H) → Nat
  | [] => 0
  | d :: r => uptoBulk d + uptoBulkAll r
def uptoBulkEntries {H : Type} : List (Lit × DataW H) → Nat
  | [] => 0
  | x :: r => uptoBulkEntry x + uptoBulkEntries r
def uptoBulkEntry {H : Type} : Lit × DataW H → Nat
  | (.string bytes, d) => bytes.length + uptoBulk d + 1
  | (_, d) => uptoBulk d + 1
 end
def uptoSmall : (H : Type) → List (DataW H) → Bool := fun _ ds => decide (uptoBulkAll ds ≤ 1048576)
def OpenSpec.upto (s : _root_.Go.ChangeSpec) : _root_.Go.OpenSpec := { _root_.Go.OpenSpec.ofChange s with cond := some uptoSmall }

/-- 'taprootlaw10.BlocksReads', WHERE WHAT IT READS IS OF BULK AT MOST 1048576: true; the input reads as it did. -/
def blocksReadsUptoRow : OpenClaim := { program := "ytjgdplengfnkaaa", sum := "1b4a03bf649c366c972c67541b570fe98414199440f0af3efef08c95363338c3", func := "taproot/taprootlaw10.BlocksReads", spec := "blocksReads", apart := false, narrowed := true }
def BlocksReadsUptoSaid : Prop := blocksReadsUptoRow.holds Try.pinned (OpenSpec.upto blocksReadsSpec)

/-- 'taprootlaw15.ObjectPlays', WHERE WHAT IT READS IS OF BULK AT MOST 1048576: true; the input reads as it did. -/
def objectPlaysUptoRow : OpenClaim := { program := "ytjgdplengfnkaaa", sum := "1b4a03bf649c366c972c67541b570fe98414199440f0af3efef08c95363338c3", func := "taproot/taprootlaw15.ObjectPlays", spec := "objectPlays", apart := false, narrowed := true }
def ObjectPlaysUptoSaid : Prop := objectPlaysUptoRow.holds Try.pinned (OpenSpec.upto objectPlaysSpec)

/-- 'taprootlaw10.BlocksLast', WHERE WHAT IT READS IS OF BULK AT MOST 1048576: true; the input reads as it did. -/
def blocksLastUptoRow : OpenClaim := { program := "ytjgdplengfnkaaa", sum := "1b4a03bf649c366c972c67541b570fe98414199440f0af3efef08c95363338c3", func := "taproot/taprootlaw10.BlocksLast", spec := "blocksLast", apart := false, narrowed := true }
def BlocksLastUptoSaid : Prop := blocksLastUptoRow.holds Try.pinned (OpenSpec.upto blocksLastSpec)

/-- 'taprootlaw15.ObjectKeeps', WHERE WHAT IT READS IS OF BULK AT MOST 1048576: true; the input reads as it did. -/
def objectKeepsUptoRow : OpenClaim := { program := "ytjgdplengfnkaaa", sum := "1b4a03bf649c366c972c67541b570fe98414199440f0af3efef08c95363338c3", func := "taproot/taprootlaw15.ObjectKeeps", spec := "objectKeeps", apart := false, narrowed := true }
def ObjectKeepsUptoSaid : Prop := objectKeepsUptoRow.holds Try.pinned (OpenSpec.upto objectKeepsSpec)

/-- 'taprootlaw15.ObjectTells', WHERE WHAT IT READS IS OF BULK AT MOST 1048576: true; the input reads as it did. -/
def objectTellsUptoRow : OpenClaim := { program := "ytjgdplengfnkaaa", sum := "1b4a03bf649c366c972c67541b570fe98414199440f0af3efef08c95363338c3", func := "taproot/taprootlaw15.ObjectTells", spec := "objectTells", apart := false, narrowed := true }
def ObjectTellsUptoSaid : Prop := objectTellsUptoRow.holds Try.pinned (OpenSpec.upto objectTellsSpec)

end Rows
end Go.Proofs.Ytjgdplengfnkaaa
