/-
  DERIVED. GIVEN WITH THE SEED: THE CARDS: each row of YtaamiedjgfopiaaGreatDoorRows.lean that lists a variable, with what it lists TIED to the program's text (the seventh form; the later family's looks); each row that meets fmt, with fmt's text TOLD by the authors' own Lean function (tested against real Go, not proved from fmt's source: count such statements apart). THE CARD IS WHAT COUNTS. Prove the row's statement (the work); the ties are given (YtaamiedjgfopiaaGreatDoorTie.lean); close each card by the builder's one call (the guide's Derived/Test/ToyasCard.lean, 'card_holds'). Laid BY PROGRAM, IN A SANDBOX (cutbox-door.mjs). By AI agents, Wed Nov 11 2026. No macro, syntax, notation, axiom, sorry.
-/
import Derived.Test.YtaamiedjgfopiaaGreatDoorRows
import GoSem.ClaimSeven
namespace Go.Proofs.YtaamiedjgfopiaaGreatDoor
namespace Rows

/-- THE TIED CARD OF 'aumbrylaw11.TableNil'. -/
def tableNilCard : Claim7 := { stood := { row := tableNilRow, standIns := [], harness := (true, "e540611658526b06277d003592f6b18d77ae38e726d86bbac212544a69f036d2"), looks := false }, kinds := [], alts := [], laidByText := true, laidKinds := [.data, .pinned], laidTests := true, laidLooks := .later }
def TableNilCardSaid : Prop := Claim7.holds Tryz.pinned (.plain (OpenSpec.ofChange tableNilSpec)) tableNilCard

/-- THE TIED CARD OF 'aumbrylaw08.ShadowNil'. -/
def shadowNilCard : Claim7 := { stood := { row := shadowNilRow, standIns := [], harness := (true, "e540611658526b06277d003592f6b18d77ae38e726d86bbac212544a69f036d2"), looks := false }, kinds := [], alts := [], laidByText := true, laidKinds := [.data, .pinned], laidTests := true, laidLooks := .later }
def ShadowNilCardSaid : Prop := Claim7.holds Tryz.pinned (.plain (OpenSpec.ofChange shadowNilSpec)) shadowNilCard

/-- THE TIED CARD OF 'aumbrylaw12.StoreNil'. -/
def storeNilCard : Claim7 := { stood := { row := storeNilRow, standIns := [], harness := (true, "e540611658526b06277d003592f6b18d77ae38e726d86bbac212544a69f036d2"), looks := false }, kinds := [], alts := [], laidByText := true, laidKinds := [.data, .pinned], laidTests := true, laidLooks := .later }
def StoreNilCardSaid : Prop := Claim7.holds Tryz.pinned (.plain (OpenSpec.ofChange storeNilSpec)) storeNilCard

/-- THE TIED CARD OF 'aumbrylaw13.CollectNil'. -/
def collectNilCard : Claim7 := { stood := { row := collectNilRow, standIns := [], harness := (true, "e540611658526b06277d003592f6b18d77ae38e726d86bbac212544a69f036d2"), looks := false }, kinds := [], alts := [], laidByText := true, laidKinds := [.data, .pinned], laidTests := true, laidLooks := .later }
def CollectNilCardSaid : Prop := Claim7.holds Tryz.pinned (.plain (OpenSpec.ofChange collectNilSpec)) collectNilCard

/-- THE TIED CARD OF 'aumbrylaw26.BridgeNil'. -/
def bridgeNilCard : Claim7 := { stood := { row := bridgeNilRow, standIns := [], harness := (true, "e540611658526b06277d003592f6b18d77ae38e726d86bbac212544a69f036d2"), looks := false }, kinds := [], alts := [], laidByText := true, laidKinds := [.data, .pinned], laidTests := true, laidLooks := .later }
def BridgeNilCardSaid : Prop := Claim7.holds Tryz.pinned (.plain (OpenSpec.ofChange bridgeNilSpec)) bridgeNilCard

/-- THE SECOND FORM's CARD OF 'aumbrylaw11.TableNil'. -/
def tableNilUptoCard : Claim7 := { stood := { row := tableNilUptoRow, standIns := [], harness := (true, "e540611658526b06277d003592f6b18d77ae38e726d86bbac212544a69f036d2"), looks := false }, kinds := [], alts := [], laidByText := true, laidKinds := [.data, .pinned], laidTests := true, laidLooks := .later }
def TableNilUptoCardSaid : Prop := Claim7.holds Tryz.pinned (.plain (OpenSpec.upto tableNilSpec)) tableNilUptoCard

/-- THE SECOND FORM's CARD OF 'aumbrylaw08.ShadowNil'. -/
def shadowNilUptoCard : Claim7 := { stood := { row := shadowNilUptoRow, standIns := [], harness := (true, "e540611658526b06277d003592f6b18d77ae38e726d86bbac212544a69f036d2"), looks := false }, kinds := [], alts := [], laidByText := true, laidKinds := [.data, .pinned], laidTests := true, laidLooks := .later }
def ShadowNilUptoCardSaid : Prop := Claim7.holds Tryz.pinned (.plain (OpenSpec.upto shadowNilSpec)) shadowNilUptoCard

/-- THE SECOND FORM's CARD OF 'aumbrylaw12.StoreNil'. -/
def storeNilUptoCard : Claim7 := { stood := { row := storeNilUptoRow, standIns := [], harness := (true, "e540611658526b06277d003592f6b18d77ae38e726d86bbac212544a69f036d2"), looks := false }, kinds := [], alts := [], laidByText := true, laidKinds := [.data, .pinned], laidTests := true, laidLooks := .later }
def StoreNilUptoCardSaid : Prop := Claim7.holds Tryz.pinned (.plain (OpenSpec.upto storeNilSpec)) storeNilUptoCard

/-- THE SECOND FORM's CARD OF 'aumbrylaw13.CollectNil'. -/
def collectNilUptoCard : Claim7 := { stood := { row := collectNilUptoRow, standIns := [], harness := (true, "e540611658526b06277d003592f6b18d77ae38e726d86bbac212544a69f036d2"), looks := false }, kinds := [], alts := [], laidByText := true, laidKinds := [.data, .pinned], laidTests := true, laidLooks := .later }
def CollectNilUptoCardSaid : Prop := Claim7.holds Tryz.pinned (.plain (OpenSpec.upto collectNilSpec)) collectNilUptoCard

/-- THE SECOND FORM's CARD OF 'aumbrylaw26.BridgeNil'. -/
def bridgeNilUptoCard : Claim7 := { stood := { row := bridgeNilUptoRow, standIns := [], harness := (true, "e540611658526b06277d003592f6b18d77ae38e726d86bbac212544a69f036d2"), looks := false }, kinds := [], alts := [], laidByText := true, laidKinds := [.data, .pinned], laidTests := true, laidLooks := .later }
def BridgeNilUptoCardSaid : Prop := Claim7.holds Tryz.pinned (.plain (OpenSpec.upto bridgeNilSpec)) bridgeNilUptoCard
end Rows
end Go.Proofs.YtaamiedjgfopiaaGreatDoor
