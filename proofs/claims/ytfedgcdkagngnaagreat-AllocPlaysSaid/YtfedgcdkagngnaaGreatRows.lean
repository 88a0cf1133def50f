/-
  No cell of these rows narrows 'for every input' (looked for: loops, veiled, ifaces, maps, wideKeys, modest, calm, conditions, laid).
  DERIVED. THE GIVEN ROWS OF THIS SEAT. 11 by the template 'for every input the law returns true; each argument reads behind the call as it read before'; 0 by the template 'total and deterministic' (their statements: YtfedgcdkagngnaaGreatTotals.lean).
  GIVEN WITH THE SEED: the statements are not yours to turn. If you find one false, say at which input.
  Laid BY PROGRAM, IN A SANDBOX (cutbox-rows.mjs): the forced cells as the released guide's own fill.sh prints them over the translation c5fa09bfc8c63e60… (all of the seat's roots in one cut). By AI agents, Wed Nov 11 2026. No macro, syntax, notation, axiom, sorry.
-/
import Derived.Test.YtfedgcdkagngnaaGreatChecked
import GoSem.Claim
import GoSem.ClaimJoined
import GoSem.ClaimMapViews
import Derived.JoinedTies
import Derived.KernelRfl
namespace Go.Proofs.YtfedgcdkagngnaaGreat
/- THE CELL 'sum', in the pinned program and in every row, IS THE sha256 OF THE DUMP (.gsa) THAT YtfedgcdkagngnaaGreatProg.lean LOADS. Nothing in Lean hashes anything: it is a label: what it is worth is what the hold of that sum in a sandbox is worth. -/
noncomputable def Tryz.pinned : Pinned := { name := "ytfedgcdkagngnaagreat", sum := "c5fa09bfc8c63e6047aaca9df67be30bde228b77e16b84da0bb5a3b2cbbd0ec8", checked := Tryz.checked }
namespace Rows
def none {H : Type} : Left H := { results := [], args := [] }

/-- 'taprootlaw33.DumpObjects': WHATEVER THE INPUT: true; the input reads as it did. -/
def dumpObjectsSpec : ChangeSpec := { name := "dumpObjects", fn := fun _ => fun
  | [d1, d2, d3] => { results := [.lit (.bool true)], args := [d1, d2, d3] }
  | _ => none }
def dumpObjectsRow : OpenClaim := { program := "ytfedgcdkagngnaagreat", sum := "c5fa09bfc8c63e6047aaca9df67be30bde228b77e16b84da0bb5a3b2cbbd0ec8", func := "taproot/taprootlaw33.DumpObjects", spec := "dumpObjects", inPlace := ["internal/abi.NoEscape"], plainKeys := false, apart := false }
def DumpObjectsSaid : Prop := dumpObjectsRow.holds Tryz.pinned (OpenSpec.ofChange dumpObjectsSpec)

/-- ITS FALSE NEIGHBOUR: 'it returns false'. Refute it at one input. -/
def dumpObjectsWrong : ChangeSpec := { name := "dumpObjects", fn := fun _ => fun
  | [d1, d2, d3] => { results := [.lit (.bool false)], args := [d1, d2, d3] }
  | _ => none }
def DumpObjectsWrongFalsely : Prop := dumpObjectsRow.holds Tryz.pinned (OpenSpec.ofChange dumpObjectsWrong)

/-- 'taprootlaw32.StatsGraphs': WHATEVER THE INPUT: true; the input reads as it did. -/
def statsGraphsSpec : ChangeSpec := { name := "statsGraphs", fn := fun _ => fun
  | [d1, d2] => { results := [.lit (.bool true)], args := [d1, d2] }
  | _ => none }
def statsGraphsRow : OpenClaim := { program := "ytfedgcdkagngnaagreat", sum := "c5fa09bfc8c63e6047aaca9df67be30bde228b77e16b84da0bb5a3b2cbbd0ec8", func := "taproot/taprootlaw32.StatsGraphs", spec := "statsGraphs", unfollowed := true, recurses := true, plainKeys := false, apart := false }
def StatsGraphsSaid : Prop := statsGraphsRow.holds Tryz.pinned (OpenSpec.ofChange statsGraphsSpec)

/-- ITS FALSE NEIGHBOUR: 'it returns false'. Refute it at one input. -/
def statsGraphsWrong : ChangeSpec := { name := "statsGraphs", fn := fun _ => fun
  | [d1, d2] => { results := [.lit (.bool false)], args := [d1, d2] }
  | _ => none }
def StatsGraphsWrongFalsely : Prop := statsGraphsRow.holds Tryz.pinned (OpenSpec.ofChange statsGraphsWrong)

/-- 'taprootlaw22.MarkBarred': WHATEVER THE INPUT: true; the input reads as it did. -/
def markBarredSpec : ChangeSpec := { name := "markBarred", fn := fun _ => fun
  | [d1, d2, d3] => { results := [.lit (.bool true)], args := [d1, d2, d3] }
  | _ => none }
def markBarredRow : OpenClaim := { program := "ytfedgcdkagngnaagreat", sum := "c5fa09bfc8c63e6047aaca9df67be30bde228b77e16b84da0bb5a3b2cbbd0ec8", func := "taproot/taprootlaw22.MarkBarred", spec := "markBarred", plainKeys := false, apart := false }
def MarkBarredSaid : Prop := markBarredRow.holds Tryz.pinned (OpenSpec.ofChange markBarredSpec)

/-- ITS FALSE NEIGHBOUR: 'it returns false'. Refute it at one input. -/
def markBarredWrong : ChangeSpec := { name := "markBarred", fn := fun _ => fun
  | [d1, d2, d3] => { results := [.lit (.bool false)], args := [d1, d2, d3] }
  | _ => none }
def MarkBarredWrongFalsely : Prop := markBarredRow.holds Tryz.pinned (OpenSpec.ofChange markBarredWrong)

/-- 'taprootlaw22.MarkSteps': WHATEVER THE INPUT: true; the input reads as it did. -/
def markStepsSpec : ChangeSpec := { name := "markSteps", fn := fun _ => fun
  | [d1, d2, d3] => { results := [.lit (.bool true)], args := [d1, d2, d3] }
  | _ => none }
def markStepsRow : OpenClaim := { program := "ytfedgcdkagngnaagreat", sum := "c5fa09bfc8c63e6047aaca9df67be30bde228b77e16b84da0bb5a3b2cbbd0ec8", func := "taproot/taprootlaw22.MarkSteps", spec := "markSteps", plainKeys := false, apart := false }
def MarkStepsSaid : Prop := markStepsRow.holds Tryz.pinned (OpenSpec.ofChange markStepsSpec)

/-- ITS FALSE NEIGHBOUR: 'it returns false'. Refute it at one input. -/
def markStepsWrong : ChangeSpec := { name := "markSteps", fn := fun _ => fun
  | [d1, d2, d3] => { results := [.lit (.bool false)], args := [d1, d2, d3] }
  | _ => none }
def MarkStepsWrongFalsely : Prop := markStepsRow.holds Tryz.pinned (OpenSpec.ofChange markStepsWrong)

/-- 'taprootlaw22.MarkTurns': WHATEVER THE INPUT: true; the input reads as it did. -/
def markTurnsSpec : ChangeSpec := { name := "markTurns", fn := fun _ => fun
  | [d1, d2] => { results := [.lit (.bool true)], args := [d1, d2] }
  | _ => none }
def markTurnsRow : OpenClaim := { program := "ytfedgcdkagngnaagreat", sum := "c5fa09bfc8c63e6047aaca9df67be30bde228b77e16b84da0bb5a3b2cbbd0ec8", func := "taproot/taprootlaw22.MarkTurns", spec := "markTurns", unfollowed := true, recurses := true, plainKeys := false, apart := false }
def MarkTurnsSaid : Prop := markTurnsRow.holds Tryz.pinned (OpenSpec.ofChange markTurnsSpec)

/-- ITS FALSE NEIGHBOUR: 'it returns false'. Refute it at one input. -/
def markTurnsWrong : ChangeSpec := { name := "markTurns", fn := fun _ => fun
  | [d1, d2] => { results := [.lit (.bool false)], args := [d1, d2] }
  | _ => none }
def MarkTurnsWrongFalsely : Prop := markTurnsRow.holds Tryz.pinned (OpenSpec.ofChange markTurnsWrong)

/-- 'taprootlaw22.MarkCloses': WHATEVER THE INPUT: true; the input reads as it did. -/
def markClosesSpec : ChangeSpec := { name := "markCloses", fn := fun _ => fun
  | [d1, d2, d3] => { results := [.lit (.bool true)], args := [d1, d2, d3] }
  | _ => none }
def markClosesRow : OpenClaim := { program := "ytfedgcdkagngnaagreat", sum := "c5fa09bfc8c63e6047aaca9df67be30bde228b77e16b84da0bb5a3b2cbbd0ec8", func := "taproot/taprootlaw22.MarkCloses", spec := "markCloses", unfollowed := true, recurses := true, plainKeys := false, apart := false }
def MarkClosesSaid : Prop := markClosesRow.holds Tryz.pinned (OpenSpec.ofChange markClosesSpec)

/-- ITS FALSE NEIGHBOUR: 'it returns false'. Refute it at one input. -/
def markClosesWrong : ChangeSpec := { name := "markCloses", fn := fun _ => fun
  | [d1, d2, d3] => { results := [.lit (.bool false)], args := [d1, d2, d3] }
  | _ => none }
def MarkClosesWrongFalsely : Prop := markClosesRow.holds Tryz.pinned (OpenSpec.ofChange markClosesWrong)

/-- 'taprootlaw33.DumpGraphs': WHATEVER THE INPUT: true; the input reads as it did. -/
def dumpGraphsSpec : ChangeSpec := { name := "dumpGraphs", fn := fun _ => fun
  | [d1, d2] => { results := [.lit (.bool true)], args := [d1, d2] }
  | _ => none }
def dumpGraphsRow : OpenClaim := { program := "ytfedgcdkagngnaagreat", sum := "c5fa09bfc8c63e6047aaca9df67be30bde228b77e16b84da0bb5a3b2cbbd0ec8", func := "taproot/taprootlaw33.DumpGraphs", spec := "dumpGraphs", inPlace := ["internal/abi.NoEscape"], unfollowed := true, recurses := true, plainKeys := false, apart := false }
def DumpGraphsSaid : Prop := dumpGraphsRow.holds Tryz.pinned (OpenSpec.ofChange dumpGraphsSpec)

/-- ITS FALSE NEIGHBOUR: 'it returns false'. Refute it at one input. -/
def dumpGraphsWrong : ChangeSpec := { name := "dumpGraphs", fn := fun _ => fun
  | [d1, d2] => { results := [.lit (.bool false)], args := [d1, d2] }
  | _ => none }
def DumpGraphsWrongFalsely : Prop := dumpGraphsRow.holds Tryz.pinned (OpenSpec.ofChange dumpGraphsWrong)

/-- 'taprootlaw20.HoldClosed': WHATEVER THE INPUT: true; the input reads as it did. -/
def holdClosedSpec : ChangeSpec := { name := "holdClosed", fn := fun _ => fun
  | [d1, d2] => { results := [.lit (.bool true)], args := [d1, d2] }
  | _ => none }
def holdClosedRow : OpenClaim := { program := "ytfedgcdkagngnaagreat", sum := "c5fa09bfc8c63e6047aaca9df67be30bde228b77e16b84da0bb5a3b2cbbd0ec8", func := "taproot/taprootlaw20.HoldClosed", spec := "holdClosed", unfollowed := true, recurses := true, plainKeys := false, apart := false }
def HoldClosedSaid : Prop := holdClosedRow.holds Tryz.pinned (OpenSpec.ofChange holdClosedSpec)

/-- ITS FALSE NEIGHBOUR: 'it returns false'. Refute it at one input. -/
def holdClosedWrong : ChangeSpec := { name := "holdClosed", fn := fun _ => fun
  | [d1, d2] => { results := [.lit (.bool false)], args := [d1, d2] }
  | _ => none }
def HoldClosedWrongFalsely : Prop := holdClosedRow.holds Tryz.pinned (OpenSpec.ofChange holdClosedWrong)

/-- 'taprootlaw33.DumpTexts': WHATEVER THE INPUT: true; the input reads as it did. -/
def dumpTextsSpec : ChangeSpec := { name := "dumpTexts", fn := fun _ => fun
  | [d1, d2] => { results := [.lit (.bool true)], args := [d1, d2] }
  | _ => none }
def dumpTextsRow : OpenClaim := { program := "ytfedgcdkagngnaagreat", sum := "c5fa09bfc8c63e6047aaca9df67be30bde228b77e16b84da0bb5a3b2cbbd0ec8", func := "taproot/taprootlaw33.DumpTexts", spec := "dumpTexts", inPlace := ["internal/abi.NoEscape"], unfollowed := true, recurses := true, plainKeys := false, apart := false }
def DumpTextsSaid : Prop := dumpTextsRow.holds Tryz.pinned (OpenSpec.ofChange dumpTextsSpec)

/-- ITS FALSE NEIGHBOUR: 'it returns false'. Refute it at one input. -/
def dumpTextsWrong : ChangeSpec := { name := "dumpTexts", fn := fun _ => fun
  | [d1, d2] => { results := [.lit (.bool false)], args := [d1, d2] }
  | _ => none }
def DumpTextsWrongFalsely : Prop := dumpTextsRow.holds Tryz.pinned (OpenSpec.ofChange dumpTextsWrong)

/-- 'taprootlaw16.AllocPlays': WHATEVER THE INPUT: true; the input reads as it did. -/
def allocPlaysSpec : ChangeSpec := { name := "allocPlays", fn := fun _ => fun
  | [d1, d2] => { results := [.lit (.bool true)], args := [d1, d2] }
  | _ => none }
def allocPlaysRow : OpenClaim := { program := "ytfedgcdkagngnaagreat", sum := "c5fa09bfc8c63e6047aaca9df67be30bde228b77e16b84da0bb5a3b2cbbd0ec8", func := "taproot/taprootlaw16.AllocPlays", spec := "allocPlays", unfollowed := true, recurses := true, plainKeys := false, apart := false }
def AllocPlaysSaid : Prop := allocPlaysRow.holds Tryz.pinned (OpenSpec.ofChange allocPlaysSpec)

/-- ITS FALSE NEIGHBOUR: 'it returns false'. Refute it at one input. -/
def allocPlaysWrong : ChangeSpec := { name := "allocPlays", fn := fun _ => fun
  | [d1, d2] => { results := [.lit (.bool false)], args := [d1, d2] }
  | _ => none }
def AllocPlaysWrongFalsely : Prop := allocPlaysRow.holds Tryz.pinned (OpenSpec.ofChange allocPlaysWrong)

/-- 'taprootlaw16.AllocOpens': WHATEVER THE INPUT: true; the input reads as it did. -/
def allocOpensSpec : ChangeSpec := { name := "allocOpens", fn := fun _ => fun
  | [d1, d2, d3] => { results := [.lit (.bool true)], args := [d1, d2, d3] }
  | _ => none }
def allocOpensRow : OpenClaim := { program := "ytfedgcdkagngnaagreat", sum := "c5fa09bfc8c63e6047aaca9df67be30bde228b77e16b84da0bb5a3b2cbbd0ec8", func := "taproot/taprootlaw16.AllocOpens", spec := "allocOpens", unfollowed := true, recurses := true, plainKeys := false, apart := false }
def AllocOpensSaid : Prop := allocOpensRow.holds Tryz.pinned (OpenSpec.ofChange allocOpensSpec)

/-- ITS FALSE NEIGHBOUR: 'it returns false'. Refute it at one input. -/
def allocOpensWrong : ChangeSpec := { name := "allocOpens", fn := fun _ => fun
  | [d1, d2, d3] => { results := [.lit (.bool false)], args := [d1, d2, d3] }
  | _ => none }
def AllocOpensWrongFalsely : Prop := allocOpensRow.holds Tryz.pinned (OpenSpec.ofChange allocOpensWrong)

/- THE SECOND FORM. 'bulk': how many values and letters a reading holds, each counted each time it is reached (what is shared counts as often as it is met; a slice's spare places count too). A statement '..UptoSaid' is the law's where the arguments, and the package variables that the reading takes, are together of bulk at most 1048576: NARROWER than '..Said'. Prove '..Said' where nothing that the law and all that it calls make is longer than what came in: it says more and counts as full. Else prove '..UptoSaid'. A law counts once. -/
mutual
def uptoBulk {H : Type} : DataW H → Nat
  | .lit (.string bytes) => bytes.length + 1
  | .lit _ => 1
  | .nil => 1
  | .ptr d => uptoBulk d + 1
  | .slice elems spare => uptoBulkAll elems + uptoBulkAll spare + 1
  | .agg parts => uptoBulkAll parts + 1
  | .iface _ d => uptoBulk d + 1
  | .map entries => uptoBulkEntries entries + 1
  | .held _ => 1
def uptoBulkAll {H : Type} : List (DataW H) → Nat
  | [] => 0
  | d :: r => uptoBulk d + uptoBulkAll r
def uptoBulkEntries {H : Type} : List (Lit × DataW H) → Nat
  | [] => 0
  | x :: r => uptoBulkEntry x + uptoBulkEntries r
def uptoBulkEntry {H : Type} : Lit × DataW H → Nat
  | (.string bytes, d) => bytes.length + uptoBulk d + 1
  | (_, d) => uptoBulk d + 1
 end
def uptoSmall : (H : Type) → List (DataW H) → Bool := fun _ ds => decide (uptoBulkAll ds ≤ 1048576)
def OpenSpec.upto (s : _root_.Go.ChangeSpec) : _root_.Go.OpenSpec := { _root_.Go.OpenSpec.ofChange s with cond := some uptoSmall }

/-- 'taprootlaw33.DumpObjects', WHERE WHAT IT READS IS OF BULK AT MOST 1048576: true; the input reads as it did. -/
def dumpObjectsUptoRow : OpenClaim := { program := "ytfedgcdkagngnaagreat", sum := "c5fa09bfc8c63e6047aaca9df67be30bde228b77e16b84da0bb5a3b2cbbd0ec8", func := "taproot/taprootlaw33.DumpObjects", spec := "dumpObjects", inPlace := ["internal/abi.NoEscape"], plainKeys := false, apart := false, narrowed := true }
def DumpObjectsUptoSaid : Prop := dumpObjectsUptoRow.holds Tryz.pinned (OpenSpec.upto dumpObjectsSpec)

/-- 'taprootlaw32.StatsGraphs', WHERE WHAT IT READS IS OF BULK AT MOST 1048576: true; the input reads as it did. -/
def statsGraphsUptoRow : OpenClaim := { program := "ytfedgcdkagngnaagreat", sum := "c5fa09bfc8c63e6047aaca9df67be30bde228b77e16b84da0bb5a3b2cbbd0ec8", func := "taproot/taprootlaw32.StatsGraphs", spec := "statsGraphs", unfollowed := true, recurses := true, plainKeys := false, apart := false, narrowed := true }
def StatsGraphsUptoSaid : Prop := statsGraphsUptoRow.holds Tryz.pinned (OpenSpec.upto statsGraphsSpec)

/-- 'taprootlaw22.MarkBarred', WHERE WHAT IT READS IS OF BULK AT MOST 1048576: true; the input reads as it did. -/
def markBarredUptoRow : OpenClaim := { program := "ytfedgcdkagngnaagreat", sum := "c5fa09bfc8c63e6047aaca9df67be30bde228b77e16b84da0bb5a3b2cbbd0ec8", func := "taproot/taprootlaw22.MarkBarred", spec := "markBarred", plainKeys := false, apart := false, narrowed := true }
def MarkBarredUptoSaid : Prop := markBarredUptoRow.holds Tryz.pinned (OpenSpec.upto markBarredSpec)

/-- 'taprootlaw22.MarkSteps', WHERE WHAT IT READS IS OF BULK AT MOST 1048576: true; the input reads as it did. -/
def markStepsUptoRow : OpenClaim := { program := "ytfedgcdkagngnaagreat", sum := "c5fa09bfc8c63e6047aaca9df67be30bde228b77e16b84da0bb5a3b2cbbd0ec8", func := "taproot/taprootlaw22.MarkSteps", spec := "markSteps", plainKeys := false, apart := false, narrowed := true }
def MarkStepsUptoSaid : Prop := markStepsUptoRow.holds Tryz.pinned (OpenSpec.upto markStepsSpec)

/-- 'taprootlaw22.MarkTurns', WHERE WHAT IT READS IS OF BULK AT MOST 1048576: true; the input reads as it did. -/
def markTurnsUptoRow : OpenClaim := { program := "ytfedgcdkagngnaagreat", sum := "c5fa09bfc8c63e6047aaca9df67be30bde228b77e16b84da0bb5a3b2cbbd0ec8", func := "taproot/taprootlaw22.MarkTurns", spec := "markTurns", unfollowed := true, recurses := true, plainKeys := false, apart := false, narrowed := true }
def MarkTurnsUptoSaid : Prop := markTurnsUptoRow.holds Tryz.pinned (OpenSpec.upto markTurnsSpec)

/-- 'taprootlaw22.MarkCloses', WHERE WHAT IT READS IS OF BULK AT MOST 1048576: true; the input reads as it did. -/
def markClosesUptoRow : OpenClaim := { program := "ytfedgcdkagngnaagreat", sum := "c5fa09bfc8c63e6047aaca9df67be30bde228b77e16b84da0bb5a3b2cbbd0ec8", func := "taproot/taprootlaw22.MarkCloses", spec := "markCloses", unfollowed := true, recurses := true, plainKeys := false, apart := false, narrowed := true }
def MarkClosesUptoSaid : Prop := markClosesUptoRow.holds Tryz.pinned (OpenSpec.upto markClosesSpec)

/-- 'taprootlaw33.DumpGraphs', WHERE WHAT IT READS IS OF BULK AT MOST 1048576: true; the input reads as it did. -/
def dumpGraphsUptoRow : OpenClaim := { program := "ytfedgcdkagngnaagreat", sum := "c5fa09bfc8c63e6047aaca9df67be30bde228b77e16b84da0bb5a3b2cbbd0ec8", func := "taproot/taprootlaw33.DumpGraphs", spec := "dumpGraphs", inPlace := ["internal/abi.NoEscape"], unfollowed := true, recurses := true, plainKeys := false, apart := false, narrowed := true }
def DumpGraphsUptoSaid : Prop := dumpGraphsUptoRow.holds Tryz.pinned (OpenSpec.upto dumpGraphsSpec)

/-- 'taprootlaw20.HoldClosed', WHERE WHAT IT READS IS OF BULK AT MOST 1048576: true; the input reads as it did. -/
def holdClosedUptoRow : OpenClaim := { program := "ytfedgcdkagngnaagreat", sum := "c5fa09bfc8c63e6047aaca9df67be30bde228b77e16b84da0bb5a3b2cbbd0ec8", func := "taproot/taprootlaw20.HoldClosed", spec := "holdClosed", unfollowed := true, recurses := true, plainKeys := false, apart := false, narrowed := true }
def HoldClosedUptoSaid : Prop := holdClosedUptoRow.holds Tryz.pinned (OpenSpec.upto holdClosedSpec)

/-- 'taprootlaw33.DumpTexts', WHERE WHAT IT READS IS OF BULK AT MOST 1048576: true; the input reads as it did. -/
def dumpTextsUptoRow : OpenClaim := { program := "ytfedgcdkagngnaagreat", sum := "c5fa09bfc8c63e6047aaca9df67be30bde228b77e16b84da0bb5a3b2cbbd0ec8", func := "taproot/taprootlaw33.DumpTexts", spec := "dumpTexts", inPlace := ["internal/abi.NoEscape"], unfollowed := true, recurses := true, plainKeys := false, apart := false, narrowed := true }
def DumpTextsUptoSaid : Prop := dumpTextsUptoRow.holds Tryz.pinned (OpenSpec.upto dumpTextsSpec)

/-- 'taprootlaw16.AllocPlays', WHERE WHAT IT READS IS OF BULK AT MOST 1048576: true; the input reads as it did. -/
def allocPlaysUptoRow : OpenClaim := { program := "ytfedgcdkagngnaagreat", sum := "c5fa09bfc8c63e6047aaca9df67be30bde228b77e16b84da0bb5a3b2cbbd0ec8", func := "taproot/taprootlaw16.AllocPlays", spec := "allocPlays", unfollowed := true, recurses := true, plainKeys := false, apart := false, narrowed := true }
def AllocPlaysUptoSaid : Prop := allocPlaysUptoRow.holds Tryz.pinned (OpenSpec.upto allocPlaysSpec)

/-- 'taprootlaw16.AllocOpens', WHERE WHAT IT READS IS OF BULK AT MOST 1048576: true; the input reads as it did. -/
def allocOpensUptoRow : OpenClaim := { program := "ytfedgcdkagngnaagreat", sum := "c5fa09bfc8c63e6047aaca9df67be30bde228b77e16b84da0bb5a3b2cbbd0ec8", func := "taproot/taprootlaw16.AllocOpens", spec := "allocOpens", unfollowed := true, recurses := true, plainKeys := false, apart := false, narrowed := true }
def AllocOpensUptoSaid : Prop := allocOpensUptoRow.holds Tryz.pinned (OpenSpec.upto allocOpensSpec)

end Rows
end Go.Proofs.YtfedgcdkagngnaaGreat
