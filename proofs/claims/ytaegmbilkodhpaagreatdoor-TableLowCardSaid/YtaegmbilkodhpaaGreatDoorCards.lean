/-
  DERIVED. GIVEN WITH THE SEED: THE CARDS: each row of YtaegmbilkodhpaaGreatDoorRows.lean that lists a variable, with what it lists TIED to the program's text (the seventh form; the later family's looks); each row that meets fmt, with fmt's text TOLD by the authors' own Lean function (tested against real Go, not proved from fmt's source: count such statements apart). THE CARD IS WHAT COUNTS. Prove the row's statement (the work); the ties are given (YtaegmbilkodhpaaGreatDoorTie.lean); close each card by the builder's one call (the guide's Derived/Test/ToyasCard.lean, 'card_holds'). Laid BY PROGRAM, IN A SANDBOX (cutbox-door.mjs). By AI agents, Wed Nov 11 2026. No macro, syntax, notation, axiom, sorry.
-/
import Derived.Test.YtaegmbilkodhpaaGreatDoorRows
import GoSem.ClaimSeven
namespace Go.Proofs.YtaegmbilkodhpaaGreatDoor
namespace Rows

/-- THE TIED CARD OF 'aumbrylaw11.TableLow'. -/
def tableLowCard : Claim7 := { stood := { row := tableLowRow, standIns := [], harness := (true, "73fb7a44a4f311e17ad232438b0326c82c780e2efd8c89e8e97bdbc35532ebaa"), looks := false }, kinds := [], alts := [], laidByText := true, laidKinds := [.data, .pinned], laidTests := true, laidLooks := .later }
def TableLowCardSaid : Prop := Claim7.holds Tryz.pinned (.plain (OpenSpec.ofChange tableLowSpec)) tableLowCard

/-- THE TIED CARD OF 'aumbrylaw11.TableOne'. -/
def tableOneCard : Claim7 := { stood := { row := tableOneRow, standIns := [], harness := (true, "73fb7a44a4f311e17ad232438b0326c82c780e2efd8c89e8e97bdbc35532ebaa"), looks := false }, kinds := [], alts := [], laidByText := true, laidKinds := [.data, .pinned], laidTests := true, laidLooks := .later }
def TableOneCardSaid : Prop := Claim7.holds Tryz.pinned (.plain (OpenSpec.ofChange tableOneSpec)) tableOneCard

/-- THE TIED CARD OF 'aumbrylaw11.TableBack'. -/
def tableBackCard : Claim7 := { stood := { row := tableBackRow, standIns := [], harness := (true, "73fb7a44a4f311e17ad232438b0326c82c780e2efd8c89e8e97bdbc35532ebaa"), looks := false }, kinds := [], alts := [], laidByText := true, laidKinds := [.data, .pinned], laidTests := true, laidLooks := .later }
def TableBackCardSaid : Prop := Claim7.holds Tryz.pinned (.plain (OpenSpec.ofChange tableBackSpec)) tableBackCard

/-- THE SECOND FORM's CARD OF 'aumbrylaw11.TableLow'. -/
def tableLowUptoCard : Claim7 := { stood := { row := tableLowUptoRow, standIns := [], harness := (true, "73fb7a44a4f311e17ad232438b0326c82c780e2efd8c89e8e97bdbc35532ebaa"), looks := false }, kinds := [], alts := [], laidByText := true, laidKinds := [.data, .pinned], laidTests := true, laidLooks := .later }
def TableLowUptoCardSaid : Prop := Claim7.holds Tryz.pinned (.plain (OpenSpec.upto tableLowSpec)) tableLowUptoCard

/-- THE SECOND FORM's CARD OF 'aumbrylaw11.TableOne'. -/
def tableOneUptoCard : Claim7 := { stood := { row := tableOneUptoRow, standIns := [], harness := (true, "73fb7a44a4f311e17ad232438b0326c82c780e2efd8c89e8e97bdbc35532ebaa"), looks := false }, kinds := [], alts := [], laidByText := true, laidKinds := [.data, .pinned], laidTests := true, laidLooks := .later }
def TableOneUptoCardSaid : Prop := Claim7.holds Tryz.pinned (.plain (OpenSpec.upto tableOneSpec)) tableOneUptoCard

/-- THE SECOND FORM's CARD OF 'aumbrylaw11.TableBack'. -/
def tableBackUptoCard : Claim7 := { stood := { row := tableBackUptoRow, standIns := [], harness := (true, "73fb7a44a4f311e17ad232438b0326c82c780e2efd8c89e8e97bdbc35532ebaa"), looks := false }, kinds := [], alts := [], laidByText := true, laidKinds := [.data, .pinned], laidTests := true, laidLooks := .later }
def TableBackUptoCardSaid : Prop := Claim7.holds Tryz.pinned (.plain (OpenSpec.upto tableBackSpec)) tableBackUptoCard
end Rows
end Go.Proofs.YtaegmbilkodhpaaGreatDoor
