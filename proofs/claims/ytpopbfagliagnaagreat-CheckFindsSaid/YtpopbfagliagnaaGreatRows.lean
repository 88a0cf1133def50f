/-
  No cell of these rows narrows 'for every input' (looked for: loops, veiled, ifaces, maps, wideKeys, modest, calm, conditions, laid).
  DERIVED. THE GIVEN ROWS OF THIS SEAT. 12 by the template 'for every input the law returns true; each argument reads behind the call as it read before'; 0 by the template 'total and deterministic' (their statements: YtpopbfagliagnaaGreatTotals.lean).
  GIVEN WITH THE SEED: the statements are not yours to turn. If you find one false, say at which input.
  Laid BY PROGRAM, IN A SANDBOX (cutbox-rows.mjs): the forced cells as the released guide's own fill.sh prints them over the translation e69711fb683a55c6… (all of the seat's roots in one cut). By AI agents, Wed Nov 11 2026. No macro, syntax, notation, axiom, sorry.
-/
import Derived.Test.YtpopbfagliagnaaGreatChecked
import GoSem.Claim
import GoSem.ClaimJoined
import GoSem.ClaimMapViews
import Derived.JoinedTies
import Derived.KernelRfl
namespace Go.Proofs.YtpopbfagliagnaaGreat
/- THE CELL 'sum', in the pinned program and in every row, IS THE sha256 OF THE DUMP (.gsa) THAT YtpopbfagliagnaaGreatProg.lean LOADS. Nothing in Lean hashes anything: it is a label: what it is worth is what the hold of that sum in a sandbox is worth. -/
noncomputable def Tryz.pinned : Pinned := { name := "ytpopbfagliagnaagreat", sum := "e69711fb683a55c679205966a97f2f9d1f8e639b2afe1af5068d2aff845e5066", checked := Tryz.checked }
namespace Rows
def none {H : Type} : Left H := { results := [], args := [] }

/-- 'taprootlaw26.ReviveLooks': WHATEVER THE INPUT: true; the input reads as it did. -/
def reviveLooksSpec : ChangeSpec := { name := "reviveLooks", fn := fun _ => fun
  | [d] => { results := [.lit (.bool true)], args := [d] }
  | _ => none }
def reviveLooksRow : OpenClaim := { program := "ytpopbfagliagnaagreat", sum := "e69711fb683a55c679205966a97f2f9d1f8e639b2afe1af5068d2aff845e5066", func := "taproot/taprootlaw26.ReviveLooks", spec := "reviveLooks", recurses := true, plainKeys := false, apart := false }
def ReviveLooksSaid : Prop := reviveLooksRow.holds Tryz.pinned (OpenSpec.ofChange reviveLooksSpec)

/-- ITS FALSE NEIGHBOUR: 'it returns false'. Refute it at one input. -/
def reviveLooksWrong : ChangeSpec := { name := "reviveLooks", fn := fun _ => fun
  | [d] => { results := [.lit (.bool false)], args := [d] }
  | _ => none }
def ReviveLooksWrongFalsely : Prop := reviveLooksRow.holds Tryz.pinned (OpenSpec.ofChange reviveLooksWrong)

/-- 'taprootlaw26.ReviveFormats': WHATEVER THE INPUT: true; the input reads as it did. -/
def reviveFormatsSpec : ChangeSpec := { name := "reviveFormats", fn := fun _ => fun
  | [d1, d2, d3] => { results := [.lit (.bool true)], args := [d1, d2, d3] }
  | _ => none }
def reviveFormatsRow : OpenClaim := { program := "ytpopbfagliagnaagreat", sum := "e69711fb683a55c679205966a97f2f9d1f8e639b2afe1af5068d2aff845e5066", func := "taproot/taprootlaw26.ReviveFormats", spec := "reviveFormats", recurses := true, plainKeys := false, apart := false }
def ReviveFormatsSaid : Prop := reviveFormatsRow.holds Tryz.pinned (OpenSpec.ofChange reviveFormatsSpec)

/-- ITS FALSE NEIGHBOUR: 'it returns false'. Refute it at one input. -/
def reviveFormatsWrong : ChangeSpec := { name := "reviveFormats", fn := fun _ => fun
  | [d1, d2, d3] => { results := [.lit (.bool false)], args := [d1, d2, d3] }
  | _ => none }
def ReviveFormatsWrongFalsely : Prop := reviveFormatsRow.holds Tryz.pinned (OpenSpec.ofChange reviveFormatsWrong)

/-- 'taprootlaw26.ReviveAgain': WHATEVER THE INPUT: true; the input reads as it did. -/
def reviveAgainSpec : ChangeSpec := { name := "reviveAgain", fn := fun _ => fun
  | [d1, d2, d3] => { results := [.lit (.bool true)], args := [d1, d2, d3] }
  | _ => none }
def reviveAgainRow : OpenClaim := { program := "ytpopbfagliagnaagreat", sum := "e69711fb683a55c679205966a97f2f9d1f8e639b2afe1af5068d2aff845e5066", func := "taproot/taprootlaw26.ReviveAgain", spec := "reviveAgain", unfollowed := true, recurses := true, plainKeys := false, apart := false }
def ReviveAgainSaid : Prop := reviveAgainRow.holds Tryz.pinned (OpenSpec.ofChange reviveAgainSpec)

/-- ITS FALSE NEIGHBOUR: 'it returns false'. Refute it at one input. -/
def reviveAgainWrong : ChangeSpec := { name := "reviveAgain", fn := fun _ => fun
  | [d1, d2, d3] => { results := [.lit (.bool false)], args := [d1, d2, d3] }
  | _ => none }
def ReviveAgainWrongFalsely : Prop := reviveAgainRow.holds Tryz.pinned (OpenSpec.ofChange reviveAgainWrong)

/-- 'taprootlaw26.ReviveOpens': WHATEVER THE INPUT: true; the input reads as it did. -/
def reviveOpensSpec : ChangeSpec := { name := "reviveOpens", fn := fun _ => fun
  | [d1, d2] => { results := [.lit (.bool true)], args := [d1, d2] }
  | _ => none }
def reviveOpensRow : OpenClaim := { program := "ytpopbfagliagnaagreat", sum := "e69711fb683a55c679205966a97f2f9d1f8e639b2afe1af5068d2aff845e5066", func := "taproot/taprootlaw26.ReviveOpens", spec := "reviveOpens", unfollowed := true, recurses := true, plainKeys := false, apart := false }
def ReviveOpensSaid : Prop := reviveOpensRow.holds Tryz.pinned (OpenSpec.ofChange reviveOpensSpec)

/-- ITS FALSE NEIGHBOUR: 'it returns false'. Refute it at one input. -/
def reviveOpensWrong : ChangeSpec := { name := "reviveOpens", fn := fun _ => fun
  | [d1, d2] => { results := [.lit (.bool false)], args := [d1, d2] }
  | _ => none }
def ReviveOpensWrongFalsely : Prop := reviveOpensRow.holds Tryz.pinned (OpenSpec.ofChange reviveOpensWrong)

/-- 'taprootlaw28.CheckHeaders': WHATEVER THE INPUT: true; the input reads as it did. -/
def checkHeadersSpec : ChangeSpec := { name := "checkHeaders", fn := fun _ => fun
  | [d1, d2] => { results := [.lit (.bool true)], args := [d1, d2] }
  | _ => none }
def checkHeadersRow : OpenClaim := { program := "ytpopbfagliagnaagreat", sum := "e69711fb683a55c679205966a97f2f9d1f8e639b2afe1af5068d2aff845e5066", func := "taproot/taprootlaw28.CheckHeaders", spec := "checkHeaders", unfollowed := true, recurses := true, plainKeys := false, apart := false }
def CheckHeadersSaid : Prop := checkHeadersRow.holds Tryz.pinned (OpenSpec.ofChange checkHeadersSpec)

/-- ITS FALSE NEIGHBOUR: 'it returns false'. Refute it at one input. -/
def checkHeadersWrong : ChangeSpec := { name := "checkHeaders", fn := fun _ => fun
  | [d1, d2] => { results := [.lit (.bool false)], args := [d1, d2] }
  | _ => none }
def CheckHeadersWrongFalsely : Prop := checkHeadersRow.holds Tryz.pinned (OpenSpec.ofChange checkHeadersWrong)

/-- 'taprootlaw46.SalvageReads': WHATEVER THE INPUT: true; the input reads as it did. -/
def salvageReadsSpec : ChangeSpec := { name := "salvageReads", fn := fun _ => fun
  | [d1, d2] => { results := [.lit (.bool true)], args := [d1, d2] }
  | _ => none }
def salvageReadsRow : OpenClaim := { program := "ytpopbfagliagnaagreat", sum := "e69711fb683a55c679205966a97f2f9d1f8e639b2afe1af5068d2aff845e5066", func := "taproot/taprootlaw46.SalvageReads", spec := "salvageReads", unfollowed := true, recurses := true, plainKeys := false, apart := false }
def SalvageReadsSaid : Prop := salvageReadsRow.holds Tryz.pinned (OpenSpec.ofChange salvageReadsSpec)

/-- ITS FALSE NEIGHBOUR: 'it returns false'. Refute it at one input. -/
def salvageReadsWrong : ChangeSpec := { name := "salvageReads", fn := fun _ => fun
  | [d1, d2] => { results := [.lit (.bool false)], args := [d1, d2] }
  | _ => none }
def SalvageReadsWrongFalsely : Prop := salvageReadsRow.holds Tryz.pinned (OpenSpec.ofChange salvageReadsWrong)

/-- 'taprootlaw24.CycleSafe': WHATEVER THE INPUT: true; the input reads as it did. -/
def cycleSafeSpec : ChangeSpec := { name := "cycleSafe", fn := fun _ => fun
  | [d1, d2] => { results := [.lit (.bool true)], args := [d1, d2] }
  | _ => none }
def cycleSafeRow : OpenClaim := { program := "ytpopbfagliagnaagreat", sum := "e69711fb683a55c679205966a97f2f9d1f8e639b2afe1af5068d2aff845e5066", func := "taproot/taprootlaw24.CycleSafe", spec := "cycleSafe", unfollowed := true, recurses := true, plainKeys := false, apart := false }
def CycleSafeSaid : Prop := cycleSafeRow.holds Tryz.pinned (OpenSpec.ofChange cycleSafeSpec)

/-- ITS FALSE NEIGHBOUR: 'it returns false'. Refute it at one input. -/
def cycleSafeWrong : ChangeSpec := { name := "cycleSafe", fn := fun _ => fun
  | [d1, d2] => { results := [.lit (.bool false)], args := [d1, d2] }
  | _ => none }
def CycleSafeWrongFalsely : Prop := cycleSafeRow.holds Tryz.pinned (OpenSpec.ofChange cycleSafeWrong)

/-- 'taprootlaw24.CycleAlone': WHATEVER THE INPUT: true; the input reads as it did. -/
def cycleAloneSpec : ChangeSpec := { name := "cycleAlone", fn := fun _ => fun
  | [d1, d2] => { results := [.lit (.bool true)], args := [d1, d2] }
  | _ => none }
def cycleAloneRow : OpenClaim := { program := "ytpopbfagliagnaagreat", sum := "e69711fb683a55c679205966a97f2f9d1f8e639b2afe1af5068d2aff845e5066", func := "taproot/taprootlaw24.CycleAlone", spec := "cycleAlone", unfollowed := true, recurses := true, plainKeys := false, apart := false }
def CycleAloneSaid : Prop := cycleAloneRow.holds Tryz.pinned (OpenSpec.ofChange cycleAloneSpec)

/-- ITS FALSE NEIGHBOUR: 'it returns false'. Refute it at one input. -/
def cycleAloneWrong : ChangeSpec := { name := "cycleAlone", fn := fun _ => fun
  | [d1, d2] => { results := [.lit (.bool false)], args := [d1, d2] }
  | _ => none }
def CycleAloneWrongFalsely : Prop := cycleAloneRow.holds Tryz.pinned (OpenSpec.ofChange cycleAloneWrong)

/-- 'taprootlaw24.CycleEnds': WHATEVER THE INPUT: true; the input reads as it did. -/
def cycleEndsSpec : ChangeSpec := { name := "cycleEnds", fn := fun _ => fun
  | [d1, d2, d3] => { results := [.lit (.bool true)], args := [d1, d2, d3] }
  | _ => none }
def cycleEndsRow : OpenClaim := { program := "ytpopbfagliagnaagreat", sum := "e69711fb683a55c679205966a97f2f9d1f8e639b2afe1af5068d2aff845e5066", func := "taproot/taprootlaw24.CycleEnds", spec := "cycleEnds", unfollowed := true, recurses := true, plainKeys := false, apart := false }
def CycleEndsSaid : Prop := cycleEndsRow.holds Tryz.pinned (OpenSpec.ofChange cycleEndsSpec)

/-- ITS FALSE NEIGHBOUR: 'it returns false'. Refute it at one input. -/
def cycleEndsWrong : ChangeSpec := { name := "cycleEnds", fn := fun _ => fun
  | [d1, d2, d3] => { results := [.lit (.bool false)], args := [d1, d2, d3] }
  | _ => none }
def CycleEndsWrongFalsely : Prop := cycleEndsRow.holds Tryz.pinned (OpenSpec.ofChange cycleEndsWrong)

/-- 'taprootlaw24.CycleFrees': WHATEVER THE INPUT: true; the input reads as it did. -/
def cycleFreesSpec : ChangeSpec := { name := "cycleFrees", fn := fun _ => fun
  | [d1, d2, d3] => { results := [.lit (.bool true)], args := [d1, d2, d3] }
  | _ => none }
def cycleFreesRow : OpenClaim := { program := "ytpopbfagliagnaagreat", sum := "e69711fb683a55c679205966a97f2f9d1f8e639b2afe1af5068d2aff845e5066", func := "taproot/taprootlaw24.CycleFrees", spec := "cycleFrees", unfollowed := true, recurses := true, plainKeys := false, apart := false }
def CycleFreesSaid : Prop := cycleFreesRow.holds Tryz.pinned (OpenSpec.ofChange cycleFreesSpec)

/-- ITS FALSE NEIGHBOUR: 'it returns false'. Refute it at one input. -/
def cycleFreesWrong : ChangeSpec := { name := "cycleFrees", fn := fun _ => fun
  | [d1, d2, d3] => { results := [.lit (.bool false)], args := [d1, d2, d3] }
  | _ => none }
def CycleFreesWrongFalsely : Prop := cycleFreesRow.holds Tryz.pinned (OpenSpec.ofChange cycleFreesWrong)

/-- 'taprootlaw28.CheckWhole': WHATEVER THE INPUT: true; the input reads as it did. -/
def checkWholeSpec : ChangeSpec := { name := "checkWhole", fn := fun _ => fun
  | [d1, d2] => { results := [.lit (.bool true)], args := [d1, d2] }
  | _ => none }
def checkWholeRow : OpenClaim := { program := "ytpopbfagliagnaagreat", sum := "e69711fb683a55c679205966a97f2f9d1f8e639b2afe1af5068d2aff845e5066", func := "taproot/taprootlaw28.CheckWhole", spec := "checkWhole", unfollowed := true, recurses := true, plainKeys := false, apart := false }
def CheckWholeSaid : Prop := checkWholeRow.holds Tryz.pinned (OpenSpec.ofChange checkWholeSpec)

/-- ITS FALSE NEIGHBOUR: 'it returns false'. Refute it at one input. -/
def checkWholeWrong : ChangeSpec := { name := "checkWhole", fn := fun _ => fun
  | [d1, d2] => { results := [.lit (.bool false)], args := [d1, d2] }
  | _ => none }
def CheckWholeWrongFalsely : Prop := checkWholeRow.holds Tryz.pinned (OpenSpec.ofChange checkWholeWrong)

/-- 'taprootlaw28.CheckFinds': WHATEVER THE INPUT: true; the input reads as it did. -/
def checkFindsSpec : ChangeSpec := { name := "checkFinds", fn := fun _ => fun
  | [d1, d2, d3] => { results := [.lit (.bool true)], args := [d1, d2, d3] }
  | _ => none }
def checkFindsRow : OpenClaim := { program := "ytpopbfagliagnaagreat", sum := "e69711fb683a55c679205966a97f2f9d1f8e639b2afe1af5068d2aff845e5066", func := "taproot/taprootlaw28.CheckFinds", spec := "checkFinds", unfollowed := true, recurses := true, plainKeys := false, apart := false }
def CheckFindsSaid : Prop := checkFindsRow.holds Tryz.pinned (OpenSpec.ofChange checkFindsSpec)

/-- ITS FALSE NEIGHBOUR: 'it returns false'. Refute it at one input. -/
def checkFindsWrong : ChangeSpec := { name := "checkFinds", fn := fun _ => fun
  | [d1, d2, d3] => { results := [.lit (.bool false)], args := [d1, d2, d3] }
  | _ => none }
def CheckFindsWrongFalsely : Prop := checkFindsRow.holds Tryz.pinned (OpenSpec.ofChange checkFindsWrong)

/- THE SECOND FORM. 'bulk': how many values and letters a reading holds, each counted each time it is reached (what is shared counts as often as it is met; a slice's spare places count too). A statement '..UptoSaid' is the law's where the arguments, and the package variables that the reading takes, are together of bulk at most 1048576: NARROWER than '..Said'. Prove '..Said' where nothing that the law and all that it calls make is longer than what came in: it says more and counts as full. Else prove '..UptoSaid'. A law counts once. -/
mutual
def uptoBulk {H : Type} : DataW H → Nat
  | .lit (.string bytes) => bytes.length + 1
  | .lit _ => 1
  | .nil => 1
  | .ptr d => uptoBulk d + 1
  | .slice elems spare => uptoBulkAll elems + uptoBulkAll spare + 1
  | .agg parts => uptoBulkAll parts + 1
  | .iface _ d => uptoBulk d + 1
  | .map entries => uptoBulkEntries entries + 1
  | .held _ => 1
def uptoBulkAll {H : Type} : List (DataW H) → Nat
  | [] => 0
  | d :: r => uptoBulk d + uptoBulkAll r
def uptoBulkEntries {H : Type} : List (Lit × DataW H) → Nat
  | [] => 0
  | x :: r => uptoBulkEntry x + uptoBulkEntries r
def uptoBulkEntry {H : Type} : Lit × DataW H → Nat
  | (.string bytes, d) => bytes.length + uptoBulk d + 1
  | (_, d) => uptoBulk d + 1
 end
def uptoSmall : (H : Type) → List (DataW H) → Bool := fun _ ds => decide (uptoBulkAll ds ≤ 1048576)
def OpenSpec.upto (s : _root_.Go.ChangeSpec) : _root_.Go.OpenSpec := { _root_.Go.OpenSpec.ofChange s with cond := some uptoSmall }

/-- 'taprootlaw26.ReviveLooks', WHERE WHAT IT READS IS OF BULK AT MOST 1048576: true; the input reads as it did. -/
def reviveLooksUptoRow : OpenClaim := { program := "ytpopbfagliagnaagreat", sum := "e69711fb683a55c679205966a97f2f9d1f8e639b2afe1af5068d2aff845e5066", func := "taproot/taprootlaw26.ReviveLooks", spec := "reviveLooks", recurses := true, plainKeys := false, apart := false, narrowed := true }
def ReviveLooksUptoSaid : Prop := reviveLooksUptoRow.holds Tryz.pinned (OpenSpec.upto reviveLooksSpec)

/-- 'taprootlaw26.ReviveFormats', WHERE WHAT IT READS IS OF BULK AT MOST 1048576: true; the input reads as it did. -/
def reviveFormatsUptoRow : OpenClaim := { program := "ytpopbfagliagnaagreat", sum := "e69711fb683a55c679205966a97f2f9d1f8e639b2afe1af5068d2aff845e5066", func := "taproot/taprootlaw26.ReviveFormats", spec := "reviveFormats", recurses := true, plainKeys := false, apart := false, narrowed := true }
def ReviveFormatsUptoSaid : Prop := reviveFormatsUptoRow.holds Tryz.pinned (OpenSpec.upto reviveFormatsSpec)

/-- 'taprootlaw26.ReviveAgain', WHERE WHAT IT READS IS OF BULK AT MOST 1048576: true; the input reads as it did. -/
def reviveAgainUptoRow : OpenClaim := { program := "ytpopbfagliagnaagreat", sum := "e69711fb683a55c679205966a97f2f9d1f8e639b2afe1af5068d2aff845e5066", func := "taproot/taprootlaw26.ReviveAgain", spec := "reviveAgain", unfollowed := true, recurses := true, plainKeys := false, apart := false, narrowed := true }
def ReviveAgainUptoSaid : Prop := reviveAgainUptoRow.holds Tryz.pinned (OpenSpec.upto reviveAgainSpec)

/-- 'taprootlaw26.ReviveOpens', WHERE WHAT IT READS IS OF BULK AT MOST 1048576: true; the input reads as it did. -/
def reviveOpensUptoRow : OpenClaim := { program := "ytpopbfagliagnaagreat", sum := "e69711fb683a55c679205966a97f2f9d1f8e639b2afe1af5068d2aff845e5066", func := "taproot/taprootlaw26.ReviveOpens", spec := "reviveOpens", unfollowed := true, recurses := true, plainKeys := false, apart := false, narrowed := true }
def ReviveOpensUptoSaid : Prop := reviveOpensUptoRow.holds Tryz.pinned (OpenSpec.upto reviveOpensSpec)

/-- 'taprootlaw28.CheckHeaders', WHERE WHAT IT READS IS OF BULK AT MOST 1048576: true; the input reads as it did. -/
def checkHeadersUptoRow : OpenClaim := { program := "ytpopbfagliagnaagreat", sum := "e69711fb683a55c679205966a97f2f9d1f8e639b2afe1af5068d2aff845e5066", func := "taproot/taprootlaw28.CheckHeaders", spec := "checkHeaders", unfollowed := true, recurses := true, plainKeys := false, apart := false, narrowed := true }
def CheckHeadersUptoSaid : Prop := checkHeadersUptoRow.holds Tryz.pinned (OpenSpec.upto checkHeadersSpec)

/-- 'taprootlaw46.SalvageReads', WHERE WHAT IT READS IS OF BULK AT MOST 1048576: true; the input reads as it did. -/
def salvageReadsUptoRow : OpenClaim := { program := "ytpopbfagliagnaagreat", sum := "e69711fb683a55c679205966a97f2f9d1f8e639b2afe1af5068d2aff845e5066", func := "taproot/taprootlaw46.SalvageReads", spec := "salvageReads", unfollowed := true, recurses := true, plainKeys := false, apart := false, narrowed := true }
def SalvageReadsUptoSaid : Prop := salvageReadsUptoRow.holds Tryz.pinned (OpenSpec.upto salvageReadsSpec)

/-- 'taprootlaw24.CycleSafe', WHERE WHAT IT READS IS OF BULK AT MOST 1048576: true; the input reads as it did. -/
def cycleSafeUptoRow : OpenClaim := { program := "ytpopbfagliagnaagreat", sum := "e69711fb683a55c679205966a97f2f9d1f8e639b2afe1af5068d2aff845e5066", func := "taproot/taprootlaw24.CycleSafe", spec := "cycleSafe", unfollowed := true, recurses := true, plainKeys := false, apart := false, narrowed := true }
def CycleSafeUptoSaid : Prop := cycleSafeUptoRow.holds Tryz.pinned (OpenSpec.upto cycleSafeSpec)

/-- 'taprootlaw24.CycleAlone', WHERE WHAT IT READS IS OF BULK AT MOST 1048576: true; the input reads as it did. -/
def cycleAloneUptoRow : OpenClaim := { program := "ytpopbfagliagnaagreat", sum := "e69711fb683a55c679205966a97f2f9d1f8e639b2afe1af5068d2aff845e5066", func := "taproot/taprootlaw24.CycleAlone", spec := "cycleAlone", unfollowed := true, recurses := true, plainKeys := false, apart := false, narrowed := true }
def CycleAloneUptoSaid : Prop := cycleAloneUptoRow.holds Tryz.pinned (OpenSpec.upto cycleAloneSpec)

/-- 'taprootlaw24.CycleEnds', WHERE WHAT IT READS IS OF BULK AT MOST 1048576: true; the input reads as it did. -/
def cycleEndsUptoRow : OpenClaim := { program := "ytpopbfagliagnaagreat", sum := "e69711fb683a55c679205966a97f2f9d1f8e639b2afe1af5068d2aff845e5066", func := "taproot/taprootlaw24.CycleEnds", spec := "cycleEnds", unfollowed := true, recurses := true, plainKeys := false, apart := false, narrowed := true }
def CycleEndsUptoSaid : Prop := cycleEndsUptoRow.holds Tryz.pinned (OpenSpec.upto cycleEndsSpec)

/-- 'taprootlaw24.CycleFrees', WHERE WHAT IT READS IS OF BULK AT MOST 1048576: true; the input reads as it did. -/
def cycleFreesUptoRow : OpenClaim := { program := "ytpopbfagliagnaagreat", sum := "e69711fb683a55c679205966a97f2f9d1f8e639b2afe1af5068d2aff845e5066", func := "taproot/taprootlaw24.CycleFrees", spec := "cycleFrees", unfollowed := true, recurses := true, plainKeys := false, apart := false, narrowed := true }
def CycleFreesUptoSaid : Prop := cycleFreesUptoRow.holds Tryz.pinned (OpenSpec.upto cycleFreesSpec)

/-- 'taprootlaw28.CheckWhole', WHERE WHAT IT READS IS OF BULK AT MOST 1048576: true; the input reads as it did. -/
def checkWholeUptoRow : OpenClaim := { program := "ytpopbfagliagnaagreat", sum := "e69711fb683a55c679205966a97f2f9d1f8e639b2afe1af5068d2aff845e5066", func := "taproot/taprootlaw28.CheckWhole", spec := "checkWhole", unfollowed := true, recurses := true, plainKeys := false, apart := false, narrowed := true }
def CheckWholeUptoSaid : Prop := checkWholeUptoRow.holds Tryz.pinned (OpenSpec.upto checkWholeSpec)

/-- 'taprootlaw28.CheckFinds', WHERE WHAT IT READS IS OF BULK AT MOST 1048576: true; the input reads as it did. -/
def checkFindsUptoRow : OpenClaim := { program := "ytpopbfagliagnaagreat", sum := "e69711fb683a55c679205966a97f2f9d1f8e639b2afe1af5068d2aff845e5066", func := "taproot/taprootlaw28.CheckFinds", spec := "checkFinds", unfollowed := true, recurses := true, plainKeys := false, apart := false, narrowed := true }
def CheckFindsUptoSaid : Prop := checkFindsUptoRow.holds Tryz.pinned (OpenSpec.upto checkFindsSpec)

end Rows
end Go.Proofs.YtpopbfagliagnaaGreat
