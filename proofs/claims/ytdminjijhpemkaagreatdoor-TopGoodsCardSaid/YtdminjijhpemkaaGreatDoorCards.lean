/-
  DERIVED. GIVEN WITH THE SEED: THE CARDS: each row of YtdminjijhpemkaaGreatDoorRows.lean that lists a variable, with what it lists TIED to the program's text (the seventh form; the later family's looks); each row that meets fmt, with fmt's text TOLD by the authors' own Lean function (tested against real Go, not proved from fmt's source: count such statements apart). THE CARD IS WHAT COUNTS. Prove the row's statement (the work); the ties are given (YtdminjijhpemkaaGreatDoorTie.lean); close each card by the builder's one call (the guide's Derived/Test/ToyasCard.lean, 'card_holds'). Laid BY PROGRAM, IN A SANDBOX (cutbox-door.mjs). By AI agents, Wed Nov 11 2026. No macro, syntax, notation, axiom, sorry.
-/
import Derived.Test.YtdminjijhpemkaaGreatDoorRows
import GoSem.ClaimSeven
namespace Go.Proofs.YtdminjijhpemkaaGreatDoor
namespace Rows

/-- THE TIED CARD OF 'coiltop.TopGoods'. -/
def topGoodsCard : Claim7 := { stood := { row := topGoodsRow, standIns := [], harness := (true, "ecc2dfa9856528f3d1895cf3cfb3844e5928c40da37607dc3277648db933ca45"), looks := true }, kinds := [], alts := [], laidByText := true, laidKinds := [.data, .data, .data, .data, .sentinel, .sentinel, .pinned], laidTests := true, laidLooks := .later }
def TopGoodsCardSaid : Prop := Claim7.holds Tryz.pinned (.plain (OpenSpec.ofChange topGoodsSpec)) topGoodsCard

/-- THE TIED CARD OF 'coiltop.TopCoins'. -/
def topCoinsCard : Claim7 := { stood := { row := topCoinsRow, standIns := [], harness := (true, "ecc2dfa9856528f3d1895cf3cfb3844e5928c40da37607dc3277648db933ca45"), looks := true }, kinds := [], alts := [], laidByText := true, laidKinds := [.data, .data, .data, .data, .sentinel, .sentinel, .pinned], laidTests := true, laidLooks := .later }
def TopCoinsCardSaid : Prop := Claim7.holds Tryz.pinned (.plain (OpenSpec.ofChange topCoinsSpec)) topCoinsCard

/-- THE TIED CARD OF 'coiltop.TopHalls'. -/
def topHallsCard : Claim7 := { stood := { row := topHallsRow, standIns := [], harness := (true, "ecc2dfa9856528f3d1895cf3cfb3844e5928c40da37607dc3277648db933ca45"), looks := true }, kinds := [], alts := [], laidByText := true, laidKinds := [.data, .data, .data, .data, .sentinel, .sentinel, .pinned], laidTests := true, laidLooks := .later }
def TopHallsCardSaid : Prop := Claim7.holds Tryz.pinned (.plain (OpenSpec.ofChange topHallsSpec)) topHallsCard

/-- THE SECOND FORM's CARD OF 'coiltop.TopGoods'. -/
def topGoodsUptoCard : Claim7 := { stood := { row := topGoodsUptoRow, standIns := [], harness := (true, "ecc2dfa9856528f3d1895cf3cfb3844e5928c40da37607dc3277648db933ca45"), looks := true }, kinds := [], alts := [], laidByText := true, laidKinds := [.data, .data, .data, .data, .sentinel, .sentinel, .pinned], laidTests := true, laidLooks := .later }
def TopGoodsUptoCardSaid : Prop := Claim7.holds Tryz.pinned (.plain (OpenSpec.upto topGoodsSpec)) topGoodsUptoCard

/-- THE SECOND FORM's CARD OF 'coiltop.TopCoins'. -/
def topCoinsUptoCard : Claim7 := { stood := { row := topCoinsUptoRow, standIns := [], harness := (true, "ecc2dfa9856528f3d1895cf3cfb3844e5928c40da37607dc3277648db933ca45"), looks := true }, kinds := [], alts := [], laidByText := true, laidKinds := [.data, .data, .data, .data, .sentinel, .sentinel, .pinned], laidTests := true, laidLooks := .later }
def TopCoinsUptoCardSaid : Prop := Claim7.holds Tryz.pinned (.plain (OpenSpec.upto topCoinsSpec)) topCoinsUptoCard

/-- THE SECOND FORM's CARD OF 'coiltop.TopHalls'. -/
def topHallsUptoCard : Claim7 := { stood := { row := topHallsUptoRow, standIns := [], harness := (true, "ecc2dfa9856528f3d1895cf3cfb3844e5928c40da37607dc3277648db933ca45"), looks := true }, kinds := [], alts := [], laidByText := true, laidKinds := [.data, .data, .data, .data, .sentinel, .sentinel, .pinned], laidTests := true, laidLooks := .later }
def TopHallsUptoCardSaid : Prop := Claim7.holds Tryz.pinned (.plain (OpenSpec.upto topHallsSpec)) topHallsUptoCard
end Rows
end Go.Proofs.YtdminjijhpemkaaGreatDoor
