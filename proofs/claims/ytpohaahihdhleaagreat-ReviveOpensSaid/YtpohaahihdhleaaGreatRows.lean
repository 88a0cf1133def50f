/-
  No cell of these rows narrows 'for every input' (looked for: loops, veiled, ifaces, maps, wideKeys, modest, calm, conditions, laid).
  DERIVED. THE GIVEN ROWS OF THIS SEAT. 4 by the template 'for every input the law returns true; each argument reads behind the call as it read before'; 0 by the template 'total and deterministic' (their statements: YtpohaahihdhleaaGreatTotals.lean).
  GIVEN WITH THE SEED: the statements are not yours to turn. If you find one false, say at which input.
  Laid BY PROGRAM, IN A SANDBOX (cutbox-rows.mjs): the forced cells as the released guide's own fill.sh prints them over the translation 77589ec709ec3b9d… (all of the seat's roots in one cut). By AI agents, Wed Nov 11 2026. No macro, syntax, notation, axiom, sorry.
-/
import Derived.Test.YtpohaahihdhleaaGreatChecked
import GoSem.Claim
import GoSem.ClaimJoined
import GoSem.ClaimMapViews
import Derived.JoinedTies
import Derived.KernelRfl
namespace Go.Proofs.YtpohaahihdhleaaGreat
/- THE CELL 'sum', in the pinned program and in every row, IS THE sha256 OF THE DUMP (.gsa) THAT YtpohaahihdhleaaGreatProg.lean LOADS. Nothing in Lean hashes anything: it is a label: what it is worth is what the hold of that sum in a sandbox is worth. -/
noncomputable def Tryz.pinned : Pinned := { name := "ytpohaahihdhleaagreat", sum := "77589ec709ec3b9d9706f162bbe69f3630888d259d751db53e025d61a0f6d428", checked := Tryz.checked }
namespace Rows
def none {H : Type} : Left H := { results := [], args := [] }

/-- 'taprootlaw26.ReviveLooks': WHATEVER THE INPUT: true; the input reads as it did. -/
def reviveLooksSpec : ChangeSpec := { name := "reviveLooks", fn := fun _ => fun
  | [d] => { results := [.lit (.bool true)], args := [d] }
  | _ => none }
def reviveLooksRow : OpenClaim := { program := "ytpohaahihdhleaagreat", sum := "77589ec709ec3b9d9706f162bbe69f3630888d259d751db53e025d61a0f6d428", func := "taproot/taprootlaw26.ReviveLooks", spec := "reviveLooks", recurses := true, plainKeys := false, apart := false }
def ReviveLooksSaid : Prop := reviveLooksRow.holds Tryz.pinned (OpenSpec.ofChange reviveLooksSpec)

/-- ITS FALSE NEIGHBOUR: 'it returns false'. Refute it at one input. -/
def reviveLooksWrong : ChangeSpec := { name := "reviveLooks", fn := fun _ => fun
  | [d] => { results := [.lit (.bool false)], args := [d] }
  | _ => none }
def ReviveLooksWrongFalsely : Prop := reviveLooksRow.holds Tryz.pinned (OpenSpec.ofChange reviveLooksWrong)

/-- 'taprootlaw26.ReviveFormats': WHATEVER THE INPUT: true; the input reads as it did. -/
def reviveFormatsSpec : ChangeSpec := { name := "reviveFormats", fn := fun _ => fun
  | [d1, d2, d3] => { results := [.lit (.bool true)], args := [d1, d2, d3] }
  | _ => none }
def reviveFormatsRow : OpenClaim := { program := "ytpohaahihdhleaagreat", sum := "77589ec709ec3b9d9706f162bbe69f3630888d259d751db53e025d61a0f6d428", func := "taproot/taprootlaw26.ReviveFormats", spec := "reviveFormats", recurses := true, plainKeys := false, apart := false }
def ReviveFormatsSaid : Prop := reviveFormatsRow.holds Tryz.pinned (OpenSpec.ofChange reviveFormatsSpec)

/-- ITS FALSE NEIGHBOUR: 'it returns false'. Refute it at one input. -/
def reviveFormatsWrong : ChangeSpec := { name := "reviveFormats", fn := fun _ => fun
  | [d1, d2, d3] => { results := [.lit (.bool false)], args := [d1, d2, d3] }
  | _ => none }
def ReviveFormatsWrongFalsely : Prop := reviveFormatsRow.holds Tryz.pinned (OpenSpec.ofChange reviveFormatsWrong)

/-- 'taprootlaw26.ReviveAgain': WHATEVER THE INPUT: true; the input reads as it did. -/
def reviveAgainSpec : ChangeSpec := { name := "reviveAgain", fn := fun _ => fun
  | [d1, d2, d3] => { results := [.lit (.bool true)], args := [d1, d2, d3] }
  | _ => none }
def reviveAgainRow : OpenClaim := { program := "ytpohaahihdhleaagreat", sum := "77589ec709ec3b9d9706f162bbe69f3630888d259d751db53e025d61a0f6d428", func := "taproot/taprootlaw26.ReviveAgain", spec := "reviveAgain", unfollowed := true, recurses := true, plainKeys := false, apart := false }
def ReviveAgainSaid : Prop := reviveAgainRow.holds Tryz.pinned (OpenSpec.ofChange reviveAgainSpec)

/-- ITS FALSE NEIGHBOUR: 'it returns false'. Refute it at one input. -/
def reviveAgainWrong : ChangeSpec := { name := "reviveAgain", fn := fun _ => fun
  | [d1, d2, d3] => { results := [.lit (.bool false)], args := [d1, d2, d3] }
  | _ => none }
def ReviveAgainWrongFalsely : Prop := reviveAgainRow.holds Tryz.pinned (OpenSpec.ofChange reviveAgainWrong)

/-- 'taprootlaw26.ReviveOpens': WHATEVER THE INPUT: true; the input reads as it did. -/
def reviveOpensSpec : ChangeSpec := { name := "reviveOpens", fn := fun _ => fun
  | [d1, d2] => { results := [.lit (.bool true)], args := [d1, d2] }
  | _ => none }
def reviveOpensRow : OpenClaim := { program := "ytpohaahihdhleaagreat", sum := "77589ec709ec3b9d9706f162bbe69f3630888d259d751db53e025d61a0f6d428", func := "taproot/taprootlaw26.ReviveOpens", spec := "reviveOpens", unfollowed := true, recurses := true, plainKeys := false, apart := false }
def ReviveOpensSaid : Prop := reviveOpensRow.holds Tryz.pinned (OpenSpec.ofChange reviveOpensSpec)

/-- ITS FALSE NEIGHBOUR: 'it returns false'. Refute it at one input. -/
def reviveOpensWrong : ChangeSpec := { name := "reviveOpens", fn := fun _ => fun
  | [d1, d2] => { results := [.lit (.bool false)], args := [d1, d2] }
  | _ => none }
def ReviveOpensWrongFalsely : Prop := reviveOpensRow.holds Tryz.pinned (OpenSpec.ofChange reviveOpensWrong)

/- THE SECOND FORM. 'bulk': how many values and letters a reading holds, each counted each time it is reached (what is shared counts as often as it is met; a slice's spare places count too). A statement '..UptoSaid' is the law's where the arguments, and the package variables that the reading takes, are together of bulk at most 1048576: NARROWER than '..Said'. Prove '..Said' where nothing that the law and all that it calls make is longer than what came in: it says more and counts as full. Else prove '..UptoSaid'. A law counts once. -/
mutual
def uptoBulk {H : Type} : DataW H → Nat
  | .lit (.string bytes) => bytes.length + 1
  | .lit _ => 1
  | .nil => 1
  | .ptr d => uptoBulk d + 1
  | .slice elems spare => uptoBulkAll elems + uptoBulkAll spare + 1
  | .agg parts => uptoBulkAll parts + 1
  | .iface _ d => uptoBulk d + 1
  | .map entries => uptoBulkEntries entries + 1
  | .held _ => 1
def uptoBulkAll {H : Type} : List (DataW H) → Nat
  | [] => 0
  | d :: r => uptoBulk d + uptoBulkAll r
def uptoBulkEntries {H : Type} : List (Lit × DataW H) → Nat
  | [] => 0
  | x :: r => uptoBulkEntry x + uptoBulkEntries r
def uptoBulkEntry {H : Type} : Lit × DataW H → Nat
  | (.string bytes, d) => bytes.length + uptoBulk d + 1
  | (_, d) => uptoBulk d + 1
 end
def uptoSmall : (H : Type) → List (DataW H) → Bool := fun _ ds => decide (uptoBulkAll ds ≤ 1048576)
def OpenSpec.upto (s : _root_.Go.ChangeSpec) : _root_.Go.OpenSpec := { _root_.Go.OpenSpec.ofChange s with cond := some uptoSmall }

/-- 'taprootlaw26.ReviveLooks', WHERE WHAT IT READS IS OF BULK AT MOST 1048576: true; the input reads as it did. -/
def reviveLooksUptoRow : OpenClaim := { program := "ytpohaahihdhleaagreat", sum := "77589ec709ec3b9d9706f162bbe69f3630888d259d751db53e025d61a0f6d428", func := "taproot/taprootlaw26.ReviveLooks", spec := "reviveLooks", recurses := true, plainKeys := false, apart := false, narrowed := true }
def ReviveLooksUptoSaid : Prop := reviveLooksUptoRow.holds Tryz.pinned (OpenSpec.upto reviveLooksSpec)

/-- 'taprootlaw26.ReviveFormats', WHERE WHAT IT READS IS OF BULK AT MOST 1048576: true; the input reads as it did. -/
def reviveFormatsUptoRow : OpenClaim := { program := "ytpohaahihdhleaagreat", sum := "77589ec709ec3b9d9706f162bbe69f3630888d259d751db53e025d61a0f6d428", func := "taproot/taprootlaw26.ReviveFormats", spec := "reviveFormats", recurses := true, plainKeys := false, apart := false, narrowed := true }
def ReviveFormatsUptoSaid : Prop := reviveFormatsUptoRow.holds Tryz.pinned (OpenSpec.upto reviveFormatsSpec)

/-- 'taprootlaw26.ReviveAgain', WHERE WHAT IT READS IS OF BULK AT MOST 1048576: true; the input reads as it did. -/
def reviveAgainUptoRow : OpenClaim := { program := "ytpohaahihdhleaagreat", sum := "77589ec709ec3b9d9706f162bbe69f3630888d259d751db53e025d61a0f6d428", func := "taproot/taprootlaw26.ReviveAgain", spec := "reviveAgain", unfollowed := true, recurses := true, plainKeys := false, apart := false, narrowed := true }
def ReviveAgainUptoSaid : Prop := reviveAgainUptoRow.holds Tryz.pinned (OpenSpec.upto reviveAgainSpec)

/-- 'taprootlaw26.ReviveOpens', WHERE WHAT IT READS IS OF BULK AT MOST 1048576: true; the input reads as it did. -/
def reviveOpensUptoRow : OpenClaim := { program := "ytpohaahihdhleaagreat", sum := "77589ec709ec3b9d9706f162bbe69f3630888d259d751db53e025d61a0f6d428", func := "taproot/taprootlaw26.ReviveOpens", spec := "reviveOpens", unfollowed := true, recurses := true, plainKeys := false, apart := false, narrowed := true }
def ReviveOpensUptoSaid : Prop := reviveOpensUptoRow.holds Tryz.pinned (OpenSpec.upto reviveOpensSpec)

end Rows
end Go.Proofs.YtpohaahihdhleaaGreat
