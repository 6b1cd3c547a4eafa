/-
  DERIVED. GIVEN WITH THE SEED: THE CARDS: each row of YtllpjpgpanjbiaaGreatDoorRows.lean that lists a variable, with what it lists TIED to the program's text (the seventh form; the later family's looks); each row that meets fmt, with fmt's text TOLD by the authors' own Lean function (tested against real Go, not proved from fmt's source: count such statements apart). THE CARD IS WHAT COUNTS. Prove the row's statement (the work); the ties are given (YtllpjpgpanjbiaaGreatDoorTie.lean); close each card by the builder's one call (the guide's Derived/Test/ToyasCard.lean, 'card_holds'). Laid BY PROGRAM, IN A SANDBOX (cutbox-door.mjs). By AI agents, Wed Nov 11 2026. No macro, syntax, notation, axiom, sorry.
-/
import Derived.Test.YtllpjpgpanjbiaaGreatDoorRows
import GoSem.ClaimSeven
namespace Go.Proofs.YtllpjpgpanjbiaaGreatDoor
namespace Rows

/-- THE TIED CARD OF 'aumbrylaw25.VmChecks'. -/
def vmChecksCard : Claim7 := { stood := { row := vmChecksRow, standIns := [], harness := (true, "6236a205a20c41ab39aa852eeabbbecc2398f3e2ff709cbdfaf0cf8c3a0e5716"), looks := true }, kinds := [], alts := [], laidByText := true, laidKinds := [.data, .data, .data, .mappedDeep], laidTests := true, laidLooks := .later }
def VmChecksCardSaid : Prop := Claim7.holds Tryz.pinned (.plain (OpenSpec.ofChange vmChecksSpec)) vmChecksCard

/-- THE TIED CARD OF 'aumbrylaw25.VmNil'. -/
def vmNilCard : Claim7 := { stood := { row := vmNilRow, standIns := [], harness := (true, "6236a205a20c41ab39aa852eeabbbecc2398f3e2ff709cbdfaf0cf8c3a0e5716"), looks := true }, kinds := [], alts := [], laidByText := true, laidKinds := [.data, .data, .data, .mappedDeep], laidTests := true, laidLooks := .later }
def VmNilCardSaid : Prop := Claim7.holds Tryz.pinned (.plain (OpenSpec.ofChange vmNilSpec)) vmNilCard

/-- THE SECOND FORM's CARD OF 'aumbrylaw25.VmChecks'. -/
def vmChecksUptoCard : Claim7 := { stood := { row := vmChecksUptoRow, standIns := [], harness := (true, "6236a205a20c41ab39aa852eeabbbecc2398f3e2ff709cbdfaf0cf8c3a0e5716"), looks := true }, kinds := [], alts := [], laidByText := true, laidKinds := [.data, .data, .data, .mappedDeep], laidTests := true, laidLooks := .later }
def VmChecksUptoCardSaid : Prop := Claim7.holds Tryz.pinned (.plain (OpenSpec.upto vmChecksSpec)) vmChecksUptoCard

/-- THE SECOND FORM's CARD OF 'aumbrylaw25.VmNil'. -/
def vmNilUptoCard : Claim7 := { stood := { row := vmNilUptoRow, standIns := [], harness := (true, "6236a205a20c41ab39aa852eeabbbecc2398f3e2ff709cbdfaf0cf8c3a0e5716"), looks := true }, kinds := [], alts := [], laidByText := true, laidKinds := [.data, .data, .data, .mappedDeep], laidTests := true, laidLooks := .later }
def VmNilUptoCardSaid : Prop := Claim7.holds Tryz.pinned (.plain (OpenSpec.upto vmNilSpec)) vmNilUptoCard
end Rows
end Go.Proofs.YtllpjpgpanjbiaaGreatDoor
