/-
  DERIVED. GIVEN WITH THE SEED: THE CARDS: each row of YthikknnadmebgaaGreatDoorRows.lean that lists a variable, with what it lists TIED to the program's text (the seventh form; the later family's looks); each row that meets fmt, with fmt's text TOLD by the authors' own Lean function (tested against real Go, not proved from fmt's source: count such statements apart). THE CARD IS WHAT COUNTS. Prove the row's statement (the work); the ties are given (YthikknnadmebgaaGreatDoorTie.lean); close each card by the builder's one call (the guide's Derived/Test/ToyasCard.lean, 'card_holds'). Laid BY PROGRAM, IN A SANDBOX (cutbox-door.mjs). By AI agents, Wed Nov 11 2026. No macro, syntax, notation, axiom, sorry.
-/
import Derived.Test.YthikknnadmebgaaGreatDoorRows
import GoSem.ClaimSeven
namespace Go.Proofs.YthikknnadmebgaaGreatDoor
namespace Rows

/-- THE TIED CARD OF 'coilkeep.LedgersAreEven'. -/
def ledgersAreEvenCard : Claim7 := { stood := { row := ledgersAreEvenRow, standIns := [], harness := (true, "9b5767b2b9e9e12d28317e14a483e3234d9205ba034d1ab96b35c52ec6546160"), looks := true }, kinds := [], alts := [], laidByText := true, laidKinds := [.data, .data, .data, .data, .sentinel, .sentinel, .pinned], laidTests := true, laidLooks := .later }
def LedgersAreEvenCardSaid : Prop := Claim7.holds Tryz.pinned (.plain (OpenSpec.ofChange ledgersAreEvenSpec)) ledgersAreEvenCard

/-- THE TIED CARD OF 'coilkeep.LayoutsChangeLittle'. -/
def layoutsChangeLittleCard : Claim7 := { stood := { row := layoutsChangeLittleRow, standIns := [], harness := (true, "9b5767b2b9e9e12d28317e14a483e3234d9205ba034d1ab96b35c52ec6546160"), looks := true }, kinds := [], alts := [], laidByText := true, laidKinds := [.data, .pinned], laidTests := true, laidLooks := .later }
def LayoutsChangeLittleCardSaid : Prop := Claim7.holds Tryz.pinned (.plain (OpenSpec.ofChange layoutsChangeLittleSpec)) layoutsChangeLittleCard

/-- THE SECOND FORM's CARD OF 'coilkeep.LedgersAreEven'. -/
def ledgersAreEvenUptoCard : Claim7 := { stood := { row := ledgersAreEvenUptoRow, standIns := [], harness := (true, "9b5767b2b9e9e12d28317e14a483e3234d9205ba034d1ab96b35c52ec6546160"), looks := true }, kinds := [], alts := [], laidByText := true, laidKinds := [.data, .data, .data, .data, .sentinel, .sentinel, .pinned], laidTests := true, laidLooks := .later }
def LedgersAreEvenUptoCardSaid : Prop := Claim7.holds Tryz.pinned (.plain (OpenSpec.upto ledgersAreEvenSpec)) ledgersAreEvenUptoCard

/-- THE SECOND FORM's CARD OF 'coilkeep.LayoutsChangeLittle'. -/
def layoutsChangeLittleUptoCard : Claim7 := { stood := { row := layoutsChangeLittleUptoRow, standIns := [], harness := (true, "9b5767b2b9e9e12d28317e14a483e3234d9205ba034d1ab96b35c52ec6546160"), looks := true }, kinds := [], alts := [], laidByText := true, laidKinds := [.data, .pinned], laidTests := true, laidLooks := .later }
def LayoutsChangeLittleUptoCardSaid : Prop := Claim7.holds Tryz.pinned (.plain (OpenSpec.upto layoutsChangeLittleSpec)) layoutsChangeLittleUptoCard
end Rows
end Go.Proofs.YthikknnadmebgaaGreatDoor
