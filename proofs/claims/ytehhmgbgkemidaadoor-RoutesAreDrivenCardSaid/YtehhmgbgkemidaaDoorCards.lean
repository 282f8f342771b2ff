/-
  DERIVED. GIVEN WITH THE SEED: THE CARDS: each row of YtehhmgbgkemidaaDoorRows.lean that lists a variable, with what it lists TIED to the program's text (the seventh form; the later family's looks); each row that meets fmt, with fmt's text TOLD by the authors' own Lean function (tested against real Go, not proved from fmt's source: count such statements apart). THE CARD IS WHAT COUNTS. Prove the row's statement (the work); the ties are given (YtehhmgbgkemidaaDoorTie.lean); close each card by the builder's one call (the guide's Derived/Test/ToyasCard.lean, 'card_holds'). Laid BY PROGRAM, IN A SANDBOX (cutbox-door.mjs). By AI agents, Wed Nov 11 2026. No macro, syntax, notation, axiom, sorry.
-/
import Derived.Test.YtehhmgbgkemidaaDoorRows
import GoSem.ClaimSeven
namespace Go.Proofs.YtehhmgbgkemidaaDoor
namespace Rows

/-- THE TIED CARD OF 'coilkeep.RoutesAreDriven'. -/
def routesAreDrivenCard : Claim7 := { stood := { row := routesAreDrivenRow, standIns := [], harness := (true, "d578f037209b8cc9b1c48eb7d0acb989e8e0baf2658b1c5691ad1a55232047d4"), looks := false }, kinds := [], alts := [], laidByText := true, laidKinds := [.data, .pinned], laidTests := true, laidLooks := .later }
def RoutesAreDrivenCardSaid : Prop := Claim7.holds Tryd.pinned (.plain (OpenSpec.ofChange routesAreDrivenSpec)) routesAreDrivenCard

/-- THE SECOND FORM's CARD OF 'coilkeep.RoutesAreDriven'. -/
def routesAreDrivenUptoCard : Claim7 := { stood := { row := routesAreDrivenUptoRow, standIns := [], harness := (true, "d578f037209b8cc9b1c48eb7d0acb989e8e0baf2658b1c5691ad1a55232047d4"), looks := false }, kinds := [], alts := [], laidByText := true, laidKinds := [.data, .pinned], laidTests := true, laidLooks := .later }
def RoutesAreDrivenUptoCardSaid : Prop := Claim7.holds Tryd.pinned (.plain (OpenSpec.upto routesAreDrivenSpec)) routesAreDrivenUptoCard
end Rows
end Go.Proofs.YtehhmgbgkemidaaDoor
