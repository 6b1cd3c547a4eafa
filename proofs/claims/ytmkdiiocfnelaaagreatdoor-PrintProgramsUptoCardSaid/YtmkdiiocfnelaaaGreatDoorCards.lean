/-
  DERIVED. GIVEN WITH THE SEED: THE CARDS: each row of YtmkdiiocfnelaaaGreatDoorRows.lean that lists a variable, with what it lists TIED to the program's text (the seventh form; the later family's looks); each row that meets fmt, with fmt's text TOLD by the authors' own Lean function (tested against real Go, not proved from fmt's source: count such statements apart). THE CARD IS WHAT COUNTS. Prove the row's statement (the work); the ties are given (YtmkdiiocfnelaaaGreatDoorTie.lean); close each card by the builder's one call (the guide's Derived/Test/ToyasCard.lean, 'card_holds'). Laid BY PROGRAM, IN A SANDBOX (cutbox-door.mjs). By AI agents, Wed Nov 11 2026. No macro, syntax, notation, axiom, sorry.
-/
import Derived.Test.YtmkdiiocfnelaaaGreatDoorRows
import GoSem.ClaimSeven
namespace Go.Proofs.YtmkdiiocfnelaaaGreatDoor
namespace Rows

/-- THE TIED CARD OF 'aumbrylaw16.PrintPrograms'. -/
def printProgramsCard : Claim7 := { stood := { row := printProgramsRow, standIns := [], harness := (true, "09763089f80c1170f56633a179e765e0f16b43eaa121abcb4fe9ba4832341841"), looks := true }, kinds := [], alts := [], laidByText := true, laidKinds := [.data, .data, .data, .data, .widerDeep, .widerDeep, .data, .pinned], laidTests := true, laidLooks := .later }
def PrintProgramsCardSaid : Prop := Claim7.holds Tryz.pinned (.plain (OpenSpec.ofChange printProgramsSpec)) printProgramsCard

/-- THE SECOND FORM's CARD OF 'aumbrylaw16.PrintPrograms'. -/
def printProgramsUptoCard : Claim7 := { stood := { row := printProgramsUptoRow, standIns := [], harness := (true, "09763089f80c1170f56633a179e765e0f16b43eaa121abcb4fe9ba4832341841"), looks := true }, kinds := [], alts := [], laidByText := true, laidKinds := [.data, .data, .data, .data, .widerDeep, .widerDeep, .data, .pinned], laidTests := true, laidLooks := .later }
def PrintProgramsUptoCardSaid : Prop := Claim7.holds Tryz.pinned (.plain (OpenSpec.upto printProgramsSpec)) printProgramsUptoCard
end Rows
end Go.Proofs.YtmkdiiocfnelaaaGreatDoor
