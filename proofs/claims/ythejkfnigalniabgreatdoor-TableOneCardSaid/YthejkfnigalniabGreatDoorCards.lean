/-
  DERIVED. GIVEN WITH THE SEED: THE CARDS: each row of YthejkfnigalniabGreatDoorRows.lean that lists a variable, with what it lists TIED to the program's text (the seventh form; the later family's looks); each row that meets fmt, with fmt's text TOLD by the authors' own Lean function (tested against real Go, not proved from fmt's source: count such statements apart). THE CARD IS WHAT COUNTS. Prove the row's statement (the work); the ties are given (YthejkfnigalniabGreatDoorTie.lean); close each card by the builder's one call (the guide's Derived/Test/ToyasCard.lean, 'card_holds'). Laid BY PROGRAM, IN A SANDBOX (cutbox-door.mjs). By AI agents, Wed Nov 11 2026. No macro, syntax, notation, axiom, sorry.
-/
import Derived.Test.YthejkfnigalniabGreatDoorRows
import GoSem.ClaimSeven
namespace Go.Proofs.YthejkfnigalniabGreatDoor
namespace Rows

/-- THE TIED CARD OF 'aumbrylaw11.TableOne'. -/
def tableOneCard : Claim7 := { stood := { row := tableOneRow, standIns := [], harness := (true, "08c1179136921541e337f8731216b5852651be52a384fc14a7d101b5361a48e0"), looks := false }, kinds := [], alts := [], laidByText := true, laidKinds := [.data, .pinned], laidTests := true, laidLooks := .later }
def TableOneCardSaid : Prop := Claim7.holds Tryz.pinned (.plain (OpenSpec.ofChange tableOneSpec)) tableOneCard

/-- THE TIED CARD OF 'aumbrylaw11.TableBack'. -/
def tableBackCard : Claim7 := { stood := { row := tableBackRow, standIns := [], harness := (true, "08c1179136921541e337f8731216b5852651be52a384fc14a7d101b5361a48e0"), looks := false }, kinds := [], alts := [], laidByText := true, laidKinds := [.data, .pinned], laidTests := true, laidLooks := .later }
def TableBackCardSaid : Prop := Claim7.holds Tryz.pinned (.plain (OpenSpec.ofChange tableBackSpec)) tableBackCard

/-- THE SECOND FORM's CARD OF 'aumbrylaw11.TableOne'. -/
def tableOneUptoCard : Claim7 := { stood := { row := tableOneUptoRow, standIns := [], harness := (true, "08c1179136921541e337f8731216b5852651be52a384fc14a7d101b5361a48e0"), looks := false }, kinds := [], alts := [], laidByText := true, laidKinds := [.data, .pinned], laidTests := true, laidLooks := .later }
def TableOneUptoCardSaid : Prop := Claim7.holds Tryz.pinned (.plain (OpenSpec.upto tableOneSpec)) tableOneUptoCard

/-- THE SECOND FORM's CARD OF 'aumbrylaw11.TableBack'. -/
def tableBackUptoCard : Claim7 := { stood := { row := tableBackUptoRow, standIns := [], harness := (true, "08c1179136921541e337f8731216b5852651be52a384fc14a7d101b5361a48e0"), looks := false }, kinds := [], alts := [], laidByText := true, laidKinds := [.data, .pinned], laidTests := true, laidLooks := .later }
def TableBackUptoCardSaid : Prop := Claim7.holds Tryz.pinned (.plain (OpenSpec.upto tableBackSpec)) tableBackUptoCard
end Rows
end Go.Proofs.YthejkfnigalniabGreatDoor
