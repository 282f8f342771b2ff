/-
  DERIVED. GIVEN WITH THE SEED: THE CARDS: each row of YtehhmgbgkemidaaGreatDoorRows.lean that lists a variable, with what it lists TIED to the program's text (the seventh form; the later family's looks); each row that meets fmt, with fmt's text TOLD by the authors' own Lean function (tested against real Go, not proved from fmt's source: count such statements apart). THE CARD IS WHAT COUNTS. Prove the row's statement (the work); the ties are given (YtehhmgbgkemidaaGreatDoorTie.lean); close each card by the builder's one call (the guide's Derived/Test/ToyasCard.lean, 'card_holds'). Laid BY PROGRAM, IN A SANDBOX (cutbox-door.mjs). By AI agents, Wed Nov 11 2026. No macro, syntax, notation, axiom, sorry.
-/
import Derived.Test.YtehhmgbgkemidaaGreatDoorRows
import GoSem.ClaimSeven
namespace Go.Proofs.YtehhmgbgkemidaaGreatDoor
namespace Rows

/-- THE TIED CARD OF 'coilkeep.FaultsAddUp'. -/
def faultsAddUpCard : Claim7 := { stood := { row := faultsAddUpRow, standIns := [], harness := (true, "26d54581a3009acbb88fb1148acede25014ae872f8b164553f09845a5e6dcef2"), looks := true }, kinds := [], alts := [], laidByText := true, laidKinds := [.data, .pinned], laidTests := true, laidLooks := .later }
def FaultsAddUpCardSaid : Prop := Claim7.holds Tryz.pinned (.plain (OpenSpec.ofChange faultsAddUpSpec)) faultsAddUpCard

/-- THE TIED CARD OF 'coilkeep.LedgersAreEven'. -/
def ledgersAreEvenCard : Claim7 := { stood := { row := ledgersAreEvenRow, standIns := [], harness := (true, "26d54581a3009acbb88fb1148acede25014ae872f8b164553f09845a5e6dcef2"), looks := true }, kinds := [], alts := [], laidByText := true, laidKinds := [.data, .data, .data, .data, .sentinel, .sentinel, .pinned], laidTests := true, laidLooks := .later }
def LedgersAreEvenCardSaid : Prop := Claim7.holds Tryz.pinned (.plain (OpenSpec.ofChange ledgersAreEvenSpec)) ledgersAreEvenCard

/-- THE TIED CARD OF 'coilkeep.LayoutsChangeLittle'. -/
def layoutsChangeLittleCard : Claim7 := { stood := { row := layoutsChangeLittleRow, standIns := [], harness := (true, "26d54581a3009acbb88fb1148acede25014ae872f8b164553f09845a5e6dcef2"), looks := true }, kinds := [], alts := [], laidByText := true, laidKinds := [.data, .pinned], laidTests := true, laidLooks := .later }
def LayoutsChangeLittleCardSaid : Prop := Claim7.holds Tryz.pinned (.plain (OpenSpec.ofChange layoutsChangeLittleSpec)) layoutsChangeLittleCard

/-- THE SECOND FORM's CARD OF 'coilkeep.FaultsAddUp'. -/
def faultsAddUpUptoCard : Claim7 := { stood := { row := faultsAddUpUptoRow, standIns := [], harness := (true, "26d54581a3009acbb88fb1148acede25014ae872f8b164553f09845a5e6dcef2"), looks := true }, kinds := [], alts := [], laidByText := true, laidKinds := [.data, .pinned], laidTests := true, laidLooks := .later }
def FaultsAddUpUptoCardSaid : Prop := Claim7.holds Tryz.pinned (.plain (OpenSpec.upto faultsAddUpSpec)) faultsAddUpUptoCard

/-- THE SECOND FORM's CARD OF 'coilkeep.LedgersAreEven'. -/
def ledgersAreEvenUptoCard : Claim7 := { stood := { row := ledgersAreEvenUptoRow, standIns := [], harness := (true, "26d54581a3009acbb88fb1148acede25014ae872f8b164553f09845a5e6dcef2"), looks := true }, kinds := [], alts := [], laidByText := true, laidKinds := [.data, .data, .data, .data, .sentinel, .sentinel, .pinned], laidTests := true, laidLooks := .later }
def LedgersAreEvenUptoCardSaid : Prop := Claim7.holds Tryz.pinned (.plain (OpenSpec.upto ledgersAreEvenSpec)) ledgersAreEvenUptoCard

/-- THE SECOND FORM's CARD OF 'coilkeep.LayoutsChangeLittle'. -/
def layoutsChangeLittleUptoCard : Claim7 := { stood := { row := layoutsChangeLittleUptoRow, standIns := [], harness := (true, "26d54581a3009acbb88fb1148acede25014ae872f8b164553f09845a5e6dcef2"), looks := true }, kinds := [], alts := [], laidByText := true, laidKinds := [.data, .pinned], laidTests := true, laidLooks := .later }
def LayoutsChangeLittleUptoCardSaid : Prop := Claim7.holds Tryz.pinned (.plain (OpenSpec.upto layoutsChangeLittleSpec)) layoutsChangeLittleUptoCard
end Rows
end Go.Proofs.YtehhmgbgkemidaaGreatDoor
