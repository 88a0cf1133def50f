/-
  DERIVED. GIVEN WITH THE SEED: THE CARDS: each row of YtlaaamaaabcfeaaDoorRows.lean that lists a variable, with what it lists TIED to the program's text (the seventh form; the later family's looks); each row that meets fmt, with fmt's text TOLD by the authors' own Lean function (tested against real Go, not proved from fmt's source: count such statements apart). THE CARD IS WHAT COUNTS. Prove the row's statement (the work); the ties are given (YtlaaamaaabcfeaaDoorTie.lean); close each card by the builder's one call (the guide's Derived/Test/ToyasCard.lean, 'card_holds'). Laid BY PROGRAM, IN A SANDBOX (cutbox-door.mjs). By AI agents, Wed Nov 11 2026. No macro, syntax, notation, axiom, sorry.
-/
import Derived.Test.YtlaaamaaabcfeaaDoorRows
import GoSem.ClaimSeven
namespace Go.Proofs.YtlaaamaaabcfeaaDoor
namespace Rows

/-- THE TIED CARD OF 'taprootlaw31.OpReads'. -/
def opReadsCard : Claim7 := { stood := { row := opReadsRow, standIns := [], harness := (true, "062df3e2dfea811ca5aa37729e25ce9a318d32a14b6c58864e215bb1e4e1b988"), looks := false }, kinds := [], alts := [], laidByText := true, laidKinds := [.data, .pinned], laidTests := true, laidLooks := .later }
def OpReadsCardSaid : Prop := Claim7.holds Tryd.pinned (.plain (OpenSpec.ofChange opReadsSpec)) opReadsCard

/-- THE TIED CARD OF 'taprootlaw31.OpLines'. -/
def opLinesCard : Claim7 := { stood := { row := opLinesRow, standIns := [], harness := (true, "062df3e2dfea811ca5aa37729e25ce9a318d32a14b6c58864e215bb1e4e1b988"), looks := false }, kinds := [], alts := [], laidByText := true, laidKinds := [.data, .pinned], laidTests := true, laidLooks := .later }
def OpLinesCardSaid : Prop := Claim7.holds Tryd.pinned (.plain (OpenSpec.ofChange opLinesSpec)) opLinesCard

/-- THE TIED CARD OF 'taprootlaw31.OpScripts'. -/
def opScriptsCard : Claim7 := { stood := { row := opScriptsRow, standIns := [], harness := (true, "062df3e2dfea811ca5aa37729e25ce9a318d32a14b6c58864e215bb1e4e1b988"), looks := false }, kinds := [], alts := [], laidByText := true, laidKinds := [.data, .pinned], laidTests := true, laidLooks := .later }
def OpScriptsCardSaid : Prop := Claim7.holds Tryd.pinned (.plain (OpenSpec.ofChange opScriptsSpec)) opScriptsCard

/-- THE SECOND FORM's CARD OF 'taprootlaw31.OpReads'. -/
def opReadsUptoCard : Claim7 := { stood := { row := opReadsUptoRow, standIns := [], harness := (true, "062df3e2dfea811ca5aa37729e25ce9a318d32a14b6c58864e215bb1e4e1b988"), looks := false }, kinds := [], alts := [], laidByText := true, laidKinds := [.data, .pinned], laidTests := true, laidLooks := .later }
def OpReadsUptoCardSaid : Prop := Claim7.holds Tryd.pinned (.plain (OpenSpec.upto opReadsSpec)) opReadsUptoCard

/-- THE SECOND FORM's CARD OF 'taprootlaw31.OpLines'. -/
def opLinesUptoCard : Claim7 := { stood := { row := opLinesUptoRow, standIns := [], harness := (true, "062df3e2dfea811ca5aa37729e25ce9a318d32a14b6c58864e215bb1e4e1b988"), looks := false }, kinds := [], alts := [], laidByText := true, laidKinds := [.data, .pinned], laidTests := true, laidLooks := .later }
def OpLinesUptoCardSaid : Prop := Claim7.holds Tryd.pinned (.plain (OpenSpec.upto opLinesSpec)) opLinesUptoCard

/-- THE SECOND FORM's CARD OF 'taprootlaw31.OpScripts'. -/
def opScriptsUptoCard : Claim7 := { stood := { row := opScriptsUptoRow, standIns := [], harness := (true, "062df3e2dfea811ca5aa37729e25ce9a318d32a14b6c58864e215bb1e4e1b988"), looks := false }, kinds := [], alts := [], laidByText := true, laidKinds := [.data, .pinned], laidTests := true, laidLooks := .later }
def OpScriptsUptoCardSaid : Prop := Claim7.holds Tryd.pinned (.plain (OpenSpec.upto opScriptsSpec)) opScriptsUptoCard
end Rows
end Go.Proofs.YtlaaamaaabcfeaaDoor
