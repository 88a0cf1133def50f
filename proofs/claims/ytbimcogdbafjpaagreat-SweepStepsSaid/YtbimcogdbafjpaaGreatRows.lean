/-
  No cell of these rows narrows 'for every input' (looked for: loops, veiled, ifaces, maps, wideKeys, modest, calm, conditions, laid).
  DERIVED. THE GIVEN ROWS OF THIS SEAT. 9 by the template 'for every input the law returns true; each argument reads behind the call as it read before'; 0 by the template 'total and deterministic' (their statements: YtbimcogdbafjpaaGreatTotals.lean).
  GIVEN WITH THE SEED: the statements are not yours to turn. If you find one false, say at which input.
  Laid BY PROGRAM, IN A SANDBOX (cutbox-rows.mjs): the forced cells as the released guide's own fill.sh prints them over the translation 5c6e32746cf70268… (all of the seat's roots in one cut). By AI agents, Wed Nov 11 2026. No macro, syntax, notation, axiom, sorry.
-/
import Derived.Test.YtbimcogdbafjpaaGreatChecked
import GoSem.Claim
import GoSem.ClaimJoined
import GoSem.ClaimMapViews
import Derived.JoinedTies
import Derived.KernelRfl
namespace Go.Proofs.YtbimcogdbafjpaaGreat
/- THE CELL 'sum', in the pinned program and in every row, IS THE sha256 OF THE DUMP (.gsa) THAT YtbimcogdbafjpaaGreatProg.lean LOADS. Nothing in Lean hashes anything: it is a label: what it is worth is what the hold of that sum in a sandbox is worth. -/
noncomputable def Tryz.pinned : Pinned := { name := "ytbimcogdbafjpaagreat", sum := "5c6e32746cf70268bbe4d012e420586fd936a8bd3628a34d4dbe489fd5a72f80", checked := Tryz.checked }
namespace Rows
def none {H : Type} : Left H := { results := [], args := [] }

/-- 'taprootlaw16.AllocOpens': WHATEVER THE INPUT: true; the input reads as it did. -/
def allocOpensSpec : ChangeSpec := { name := "allocOpens", fn := fun _ => fun
  | [d1, d2, d3] => { results := [.lit (.bool true)], args := [d1, d2, d3] }
  | _ => none }
def allocOpensRow : OpenClaim := { program := "ytbimcogdbafjpaagreat", sum := "5c6e32746cf70268bbe4d012e420586fd936a8bd3628a34d4dbe489fd5a72f80", func := "taproot/taprootlaw16.AllocOpens", spec := "allocOpens", unfollowed := true, recurses := true, plainKeys := false, apart := false }
def AllocOpensSaid : Prop := allocOpensRow.holds Tryz.pinned (OpenSpec.ofChange allocOpensSpec)

/-- ITS FALSE NEIGHBOUR: 'it returns false'. Refute it at one input. -/
def allocOpensWrong : ChangeSpec := { name := "allocOpens", fn := fun _ => fun
  | [d1, d2, d3] => { results := [.lit (.bool false)], args := [d1, d2, d3] }
  | _ => none }
def AllocOpensWrongFalsely : Prop := allocOpensRow.holds Tryz.pinned (OpenSpec.ofChange allocOpensWrong)

/-- 'taprootlaw32.StatsCounts': WHATEVER THE INPUT: true; the input reads as it did. -/
def statsCountsSpec : ChangeSpec := { name := "statsCounts", fn := fun _ => fun
  | [d] => { results := [.lit (.bool true)], args := [d] }
  | _ => none }
def statsCountsRow : OpenClaim := { program := "ytbimcogdbafjpaagreat", sum := "5c6e32746cf70268bbe4d012e420586fd936a8bd3628a34d4dbe489fd5a72f80", func := "taproot/taprootlaw32.StatsCounts", spec := "statsCounts", unfollowed := true, recurses := true, plainKeys := false, apart := false }
def StatsCountsSaid : Prop := statsCountsRow.holds Tryz.pinned (OpenSpec.ofChange statsCountsSpec)

/-- ITS FALSE NEIGHBOUR: 'it returns false'. Refute it at one input. -/
def statsCountsWrong : ChangeSpec := { name := "statsCounts", fn := fun _ => fun
  | [d] => { results := [.lit (.bool false)], args := [d] }
  | _ => none }
def StatsCountsWrongFalsely : Prop := statsCountsRow.holds Tryz.pinned (OpenSpec.ofChange statsCountsWrong)

/-- 'taprootlaw23.SweepLeaves': WHATEVER THE INPUT: true; the input reads as it did. -/
def sweepLeavesSpec : ChangeSpec := { name := "sweepLeaves", fn := fun _ => fun
  | [d1, d2] => { results := [.lit (.bool true)], args := [d1, d2] }
  | _ => none }
def sweepLeavesRow : OpenClaim := { program := "ytbimcogdbafjpaagreat", sum := "5c6e32746cf70268bbe4d012e420586fd936a8bd3628a34d4dbe489fd5a72f80", func := "taproot/taprootlaw23.SweepLeaves", spec := "sweepLeaves", unfollowed := true, recurses := true, plainKeys := false, apart := false }
def SweepLeavesSaid : Prop := sweepLeavesRow.holds Tryz.pinned (OpenSpec.ofChange sweepLeavesSpec)

/-- ITS FALSE NEIGHBOUR: 'it returns false'. Refute it at one input. -/
def sweepLeavesWrong : ChangeSpec := { name := "sweepLeaves", fn := fun _ => fun
  | [d1, d2] => { results := [.lit (.bool false)], args := [d1, d2] }
  | _ => none }
def SweepLeavesWrongFalsely : Prop := sweepLeavesRow.holds Tryz.pinned (OpenSpec.ofChange sweepLeavesWrong)

/-- 'taprootlaw23.SweepSteps': WHATEVER THE INPUT: true; the input reads as it did. -/
def sweepStepsSpec : ChangeSpec := { name := "sweepSteps", fn := fun _ => fun
  | [d1, d2, d3] => { results := [.lit (.bool true)], args := [d1, d2, d3] }
  | _ => none }
def sweepStepsRow : OpenClaim := { program := "ytbimcogdbafjpaagreat", sum := "5c6e32746cf70268bbe4d012e420586fd936a8bd3628a34d4dbe489fd5a72f80", func := "taproot/taprootlaw23.SweepSteps", spec := "sweepSteps", unfollowed := true, recurses := true, plainKeys := false, apart := false }
def SweepStepsSaid : Prop := sweepStepsRow.holds Tryz.pinned (OpenSpec.ofChange sweepStepsSpec)

/-- ITS FALSE NEIGHBOUR: 'it returns false'. Refute it at one input. -/
def sweepStepsWrong : ChangeSpec := { name := "sweepSteps", fn := fun _ => fun
  | [d1, d2, d3] => { results := [.lit (.bool false)], args := [d1, d2, d3] }
  | _ => none }
def SweepStepsWrongFalsely : Prop := sweepStepsRow.holds Tryz.pinned (OpenSpec.ofChange sweepStepsWrong)

/-- 'taprootlaw28.CheckHeaders': WHATEVER THE INPUT: true; the input reads as it did. -/
def checkHeadersSpec : ChangeSpec := { name := "checkHeaders", fn := fun _ => fun
  | [d1, d2] => { results := [.lit (.bool true)], args := [d1, d2] }
  | _ => none }
def checkHeadersRow : OpenClaim := { program := "ytbimcogdbafjpaagreat", sum := "5c6e32746cf70268bbe4d012e420586fd936a8bd3628a34d4dbe489fd5a72f80", func := "taproot/taprootlaw28.CheckHeaders", spec := "checkHeaders", unfollowed := true, recurses := true, plainKeys := false, apart := false }
def CheckHeadersSaid : Prop := checkHeadersRow.holds Tryz.pinned (OpenSpec.ofChange checkHeadersSpec)

/-- ITS FALSE NEIGHBOUR: 'it returns false'. Refute it at one input. -/
def checkHeadersWrong : ChangeSpec := { name := "checkHeaders", fn := fun _ => fun
  | [d1, d2] => { results := [.lit (.bool false)], args := [d1, d2] }
  | _ => none }
def CheckHeadersWrongFalsely : Prop := checkHeadersRow.holds Tryz.pinned (OpenSpec.ofChange checkHeadersWrong)

/-- 'taprootlaw29.PredictKeeps': WHATEVER THE INPUT: true; the input reads as it did. -/
def predictKeepsSpec : ChangeSpec := { name := "predictKeeps", fn := fun _ => fun
  | [d1, d2, d3] => { results := [.lit (.bool true)], args := [d1, d2, d3] }
  | _ => none }
def predictKeepsRow : OpenClaim := { program := "ytbimcogdbafjpaagreat", sum := "5c6e32746cf70268bbe4d012e420586fd936a8bd3628a34d4dbe489fd5a72f80", func := "taproot/taprootlaw29.PredictKeeps", spec := "predictKeeps", unfollowed := true, recurses := true, plainKeys := false, apart := false }
def PredictKeepsSaid : Prop := predictKeepsRow.holds Tryz.pinned (OpenSpec.ofChange predictKeepsSpec)

/-- ITS FALSE NEIGHBOUR: 'it returns false'. Refute it at one input. -/
def predictKeepsWrong : ChangeSpec := { name := "predictKeeps", fn := fun _ => fun
  | [d1, d2, d3] => { results := [.lit (.bool false)], args := [d1, d2, d3] }
  | _ => none }
def PredictKeepsWrongFalsely : Prop := predictKeepsRow.holds Tryz.pinned (OpenSpec.ofChange predictKeepsWrong)

/-- 'taprootlaw29.PredictTells': WHATEVER THE INPUT: true; the input reads as it did. -/
def predictTellsSpec : ChangeSpec := { name := "predictTells", fn := fun _ => fun
  | [d1, d2, d3] => { results := [.lit (.bool true)], args := [d1, d2, d3] }
  | _ => none }
def predictTellsRow : OpenClaim := { program := "ytbimcogdbafjpaagreat", sum := "5c6e32746cf70268bbe4d012e420586fd936a8bd3628a34d4dbe489fd5a72f80", func := "taproot/taprootlaw29.PredictTells", spec := "predictTells", unfollowed := true, recurses := true, plainKeys := false, apart := false }
def PredictTellsSaid : Prop := predictTellsRow.holds Tryz.pinned (OpenSpec.ofChange predictTellsSpec)

/-- ITS FALSE NEIGHBOUR: 'it returns false'. Refute it at one input. -/
def predictTellsWrong : ChangeSpec := { name := "predictTells", fn := fun _ => fun
  | [d1, d2, d3] => { results := [.lit (.bool false)], args := [d1, d2, d3] }
  | _ => none }
def PredictTellsWrongFalsely : Prop := predictTellsRow.holds Tryz.pinned (OpenSpec.ofChange predictTellsWrong)

/-- 'taprootlaw28.CheckWhole': WHATEVER THE INPUT: true; the input reads as it did. -/
def checkWholeSpec : ChangeSpec := { name := "checkWhole", fn := fun _ => fun
  | [d1, d2] => { results := [.lit (.bool true)], args := [d1, d2] }
  | _ => none }
def checkWholeRow : OpenClaim := { program := "ytbimcogdbafjpaagreat", sum := "5c6e32746cf70268bbe4d012e420586fd936a8bd3628a34d4dbe489fd5a72f80", func := "taproot/taprootlaw28.CheckWhole", spec := "checkWhole", unfollowed := true, recurses := true, plainKeys := false, apart := false }
def CheckWholeSaid : Prop := checkWholeRow.holds Tryz.pinned (OpenSpec.ofChange checkWholeSpec)

/-- ITS FALSE NEIGHBOUR: 'it returns false'. Refute it at one input. -/
def checkWholeWrong : ChangeSpec := { name := "checkWhole", fn := fun _ => fun
  | [d1, d2] => { results := [.lit (.bool false)], args := [d1, d2] }
  | _ => none }
def CheckWholeWrongFalsely : Prop := checkWholeRow.holds Tryz.pinned (OpenSpec.ofChange checkWholeWrong)

/-- 'taprootlaw28.CheckFinds': WHATEVER THE INPUT: true; the input reads as it did. -/
def checkFindsSpec : ChangeSpec := { name := "checkFinds", fn := fun _ => fun
  | [d1, d2, d3] => { results := [.lit (.bool true)], args := [d1, d2, d3] }
  | _ => none }
def checkFindsRow : OpenClaim := { program := "ytbimcogdbafjpaagreat", sum := "5c6e32746cf70268bbe4d012e420586fd936a8bd3628a34d4dbe489fd5a72f80", func := "taproot/taprootlaw28.CheckFinds", spec := "checkFinds", unfollowed := true, recurses := true, plainKeys := false, apart := false }
def CheckFindsSaid : Prop := checkFindsRow.holds Tryz.pinned (OpenSpec.ofChange checkFindsSpec)

/-- ITS FALSE NEIGHBOUR: 'it returns false'. Refute it at one input. -/
def checkFindsWrong : ChangeSpec := { name := "checkFinds", fn := fun _ => fun
  | [d1, d2, d3] => { results := [.lit (.bool false)], args := [d1, d2, d3] }
  | _ => none }
def CheckFindsWrongFalsely : Prop := checkFindsRow.holds Tryz.pinned (OpenSpec.ofChange checkFindsWrong)

/- THE SECOND FORM. 'bulk': how many values and letters a reading holds, each counted each time it is reached (what is shared counts as often as it is met; a slice's spare places count too). A statement '..UptoSaid' is the law's where the arguments, and the package variables that the reading takes, are together of bulk at most 1048576: NARROWER than '..Said'. Prove '..Said' where nothing that the law and all that it calls make is longer than what came in: it says more and counts as full. Else prove '..UptoSaid'. A law counts once. -/
mutual
def uptoBulk {H : Type} : DataW H → Nat
  | .lit (.string bytes) => bytes.length + 1
  | .lit _ => 1
  | .nil => 1
  | .ptr d => uptoBulk d + 1
  | .slice elems spare => uptoBulkAll elems + uptoBulkAll spare + 1
  | .agg parts => uptoBulkAll parts + 1
  | .iface _ d => uptoBulk d + 1
  | .map entries => uptoBulkEntries entries + 1
  | .held _ => 1
def uptoBulkAll {H : Type} : List (DataW H) → Nat
  | [] => 0
  | d :: r => uptoBulk d + uptoBulkAll r
def uptoBulkEntries {H : Type} : List (Lit × DataW H) → Nat
  | [] => 0
  | x :: r => uptoBulkEntry x + uptoBulkEntries r
def uptoBulkEntry {H : Type} : Lit × DataW H → Nat
  | (.string bytes, d) => bytes.length + uptoBulk d + 1
  | (_, d) => uptoBulk d + 1
 end
def uptoSmall : (H : Type) → List (DataW H) → Bool := fun _ ds => decide (uptoBulkAll ds ≤ 1048576)
def OpenSpec.upto (s : _root_.Go.ChangeSpec) : _root_.Go.OpenSpec := { _root_.Go.OpenSpec.ofChange s with cond := some uptoSmall }

/-- 'taprootlaw16.AllocOpens', WHERE WHAT IT READS IS OF BULK AT MOST 1048576: true; the input reads as it did. -/
def allocOpensUptoRow : OpenClaim := { program := "ytbimcogdbafjpaagreat", sum := "5c6e32746cf70268bbe4d012e420586fd936a8bd3628a34d4dbe489fd5a72f80", func := "taproot/taprootlaw16.AllocOpens", spec := "allocOpens", unfollowed := true, recurses := true, plainKeys := false, apart := false, narrowed := true }
def AllocOpensUptoSaid : Prop := allocOpensUptoRow.holds Tryz.pinned (OpenSpec.upto allocOpensSpec)

/-- 'taprootlaw32.StatsCounts', WHERE WHAT IT READS IS OF BULK AT MOST 1048576: true; the input reads as it did. -/
def statsCountsUptoRow : OpenClaim := { program := "ytbimcogdbafjpaagreat", sum := "5c6e32746cf70268bbe4d012e420586fd936a8bd3628a34d4dbe489fd5a72f80", func := "taproot/taprootlaw32.StatsCounts", spec := "statsCounts", unfollowed := true, recurses := true, plainKeys := false, apart := false, narrowed := true }
def StatsCountsUptoSaid : Prop := statsCountsUptoRow.holds Tryz.pinned (OpenSpec.upto statsCountsSpec)

/-- 'taprootlaw23.SweepLeaves', WHERE WHAT IT READS IS OF BULK AT MOST 1048576: true; the input reads as it did. -/
def sweepLeavesUptoRow : OpenClaim := { program := "ytbimcogdbafjpaagreat", sum := "5c6e32746cf70268bbe4d012e420586fd936a8bd3628a34d4dbe489fd5a72f80", func := "taproot/taprootlaw23.SweepLeaves", spec := "sweepLeaves", unfollowed := true, recurses := true, plainKeys := false, apart := false, narrowed := true }
def SweepLeavesUptoSaid : Prop := sweepLeavesUptoRow.holds Tryz.pinned (OpenSpec.upto sweepLeavesSpec)

/-- 'taprootlaw23.SweepSteps', WHERE WHAT IT READS IS OF BULK AT MOST 1048576: true; the input reads as it did. -/
def sweepStepsUptoRow : OpenClaim := { program := "ytbimcogdbafjpaagreat", sum := "5c6e32746cf70268bbe4d012e420586fd936a8bd3628a34d4dbe489fd5a72f80", func := "taproot/taprootlaw23.SweepSteps", spec := "sweepSteps", unfollowed := true, recurses := true, plainKeys := false, apart := false, narrowed := true }
def SweepStepsUptoSaid : Prop := sweepStepsUptoRow.holds Tryz.pinned (OpenSpec.upto sweepStepsSpec)

/-- 'taprootlaw28.CheckHeaders', WHERE WHAT IT READS IS OF BULK AT MOST 1048576: true; the input reads as it did. -/
def checkHeadersUptoRow : OpenClaim := { program := "ytbimcogdbafjpaagreat", sum := "5c6e32746cf70268bbe4d012e420586fd936a8bd3628a34d4dbe489fd5a72f80", func := "taproot/taprootlaw28.CheckHeaders", spec := "checkHeaders", unfollowed := true, recurses := true, plainKeys := false, apart := false, narrowed := true }
def CheckHeadersUptoSaid : Prop := checkHeadersUptoRow.holds Tryz.pinned (OpenSpec.upto checkHeadersSpec)

/-- 'taprootlaw29.PredictKeeps', WHERE WHAT IT READS IS OF BULK AT MOST 1048576: true; the input reads as it did. -/
def predictKeepsUptoRow : OpenClaim := { program := "ytbimcogdbafjpaagreat", sum := "5c6e32746cf70268bbe4d012e420586fd936a8bd3628a34d4dbe489fd5a72f80", func := "taproot/taprootlaw29.PredictKeeps", spec := "predictKeeps", unfollowed := true, recurses := true, plainKeys := false, apart := false, narrowed := true }
def PredictKeepsUptoSaid : Prop := predictKeepsUptoRow.holds Tryz.pinned (OpenSpec.upto predictKeepsSpec)

/-- 'taprootlaw29.PredictTells', WHERE WHAT IT READS IS OF BULK AT MOST 1048576: true; the input reads as it did. -/
def predictTellsUptoRow : OpenClaim := { program := "ytbimcogdbafjpaagreat", sum := "5c6e32746cf70268bbe4d012e420586fd936a8bd3628a34d4dbe489fd5a72f80", func := "taproot/taprootlaw29.PredictTells", spec := "predictTells", unfollowed := true, recurses := true, plainKeys := false, apart := false, narrowed := true }
def PredictTellsUptoSaid : Prop := predictTellsUptoRow.holds Tryz.pinned (OpenSpec.upto predictTellsSpec)

/-- 'taprootlaw28.CheckWhole', WHERE WHAT IT READS IS OF BULK AT MOST 1048576: true; the input reads as it did. -/
def checkWholeUptoRow : OpenClaim := { program := "ytbimcogdbafjpaagreat", sum := "5c6e32746cf70268bbe4d012e420586fd936a8bd3628a34d4dbe489fd5a72f80", func := "taproot/taprootlaw28.CheckWhole", spec := "checkWhole", unfollowed := true, recurses := true, plainKeys := false, apart := false, narrowed := true }
def CheckWholeUptoSaid : Prop := checkWholeUptoRow.holds Tryz.pinned (OpenSpec.upto checkWholeSpec)

/-- 'taprootlaw28.CheckFinds', WHERE WHAT IT READS IS OF BULK AT MOST 1048576: true; the input reads as it did. -/
def checkFindsUptoRow : OpenClaim := { program := "ytbimcogdbafjpaagreat", sum := "5c6e32746cf70268bbe4d012e420586fd936a8bd3628a34d4dbe489fd5a72f80", func := "taproot/taprootlaw28.CheckFinds", spec := "checkFinds", unfollowed := true, recurses := true, plainKeys := false, apart := false, narrowed := true }
def CheckFindsUptoSaid : Prop := checkFindsUptoRow.holds Tryz.pinned (OpenSpec.upto checkFindsSpec)

end Rows
end Go.Proofs.YtbimcogdbafjpaaGreat
