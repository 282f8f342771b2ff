/-
  DERIVED. GIVEN WITH THE SEED: THE CARDS: each row of YtjhdngfliakidaaDoorRows.lean that lists a variable, with what it lists TIED to the program's text (the seventh form; the later family's looks); each row that meets fmt, with fmt's text TOLD by the authors' own Lean function (tested against real Go, not proved from fmt's source: count such statements apart). THE CARD IS WHAT COUNTS. Prove the row's statement (the work); the ties are given (YtjhdngfliakidaaDoorTie.lean); close each card by the builder's one call (the guide's Derived/Test/ToyasCard.lean, 'card_holds'). Laid BY PROGRAM, IN A SANDBOX (cutbox-door.mjs). By AI agents, Wed Nov 11 2026. No macro, syntax, notation, axiom, sorry.
-/
import Derived.Test.YtjhdngfliakidaaDoorRows
import GoSem.ClaimSeven
namespace Go.Proofs.YtjhdngfliakidaaDoor
namespace Rows

/-- THE TIED CARD OF 'coilkeep.TillsStay'. -/
def tillsStayCard : Claim7 := { stood := { row := tillsStayRow, standIns := [], harness := (true, "f02c32822e552ed163f6a639b4a460eedb8df56ba8d43f3400668384d23f3a99"), looks := true }, kinds := [], alts := [], laidByText := true, laidKinds := [.data, .pinned], laidTests := true, laidLooks := .later }
def TillsStayCardSaid : Prop := Claim7.holds Tryd.pinned (.plain (OpenSpec.ofChange tillsStaySpec)) tillsStayCard

/-- THE TIED CARD OF 'coilkeep.CountsAreBest'. -/
def countsAreBestCard : Claim7 := { stood := { row := countsAreBestRow, standIns := [], harness := (true, "f02c32822e552ed163f6a639b4a460eedb8df56ba8d43f3400668384d23f3a99"), looks := true }, kinds := [], alts := [], laidByText := true, laidKinds := [.data, .pinned], laidTests := true, laidLooks := .later }
def CountsAreBestCardSaid : Prop := Claim7.holds Tryd.pinned (.plain (OpenSpec.ofChange countsAreBestSpec)) countsAreBestCard

/-- THE TIED CARD OF 'coilkeep.LinesAreChecked'. -/
def linesAreCheckedCard : Claim7 := { stood := { row := linesAreCheckedRow, standIns := [], harness := (true, "f02c32822e552ed163f6a639b4a460eedb8df56ba8d43f3400668384d23f3a99"), looks := true }, kinds := [], alts := [], laidByText := true, laidKinds := [.data, .data, .data, .data, .sentinel, .sentinel, .pinned], laidTests := true, laidLooks := .later }
def LinesAreCheckedCardSaid : Prop := Claim7.holds Tryd.pinned (.plain (OpenSpec.ofChange linesAreCheckedSpec)) linesAreCheckedCard

/-- THE SECOND FORM's CARD OF 'coilkeep.TillsStay'. -/
def tillsStayUptoCard : Claim7 := { stood := { row := tillsStayUptoRow, standIns := [], harness := (true, "f02c32822e552ed163f6a639b4a460eedb8df56ba8d43f3400668384d23f3a99"), looks := true }, kinds := [], alts := [], laidByText := true, laidKinds := [.data, .pinned], laidTests := true, laidLooks := .later }
def TillsStayUptoCardSaid : Prop := Claim7.holds Tryd.pinned (.plain (OpenSpec.upto tillsStaySpec)) tillsStayUptoCard

/-- THE SECOND FORM's CARD OF 'coilkeep.CountsAreBest'. -/
def countsAreBestUptoCard : Claim7 := { stood := { row := countsAreBestUptoRow, standIns := [], harness := (true, "f02c32822e552ed163f6a639b4a460eedb8df56ba8d43f3400668384d23f3a99"), looks := true }, kinds := [], alts := [], laidByText := true, laidKinds := [.data, .pinned], laidTests := true, laidLooks := .later }
def CountsAreBestUptoCardSaid : Prop := Claim7.holds Tryd.pinned (.plain (OpenSpec.upto countsAreBestSpec)) countsAreBestUptoCard

/-- THE SECOND FORM's CARD OF 'coilkeep.LinesAreChecked'. -/
def linesAreCheckedUptoCard : Claim7 := { stood := { row := linesAreCheckedUptoRow, standIns := [], harness := (true, "f02c32822e552ed163f6a639b4a460eedb8df56ba8d43f3400668384d23f3a99"), looks := true }, kinds := [], alts := [], laidByText := true, laidKinds := [.data, .data, .data, .data, .sentinel, .sentinel, .pinned], laidTests := true, laidLooks := .later }
def LinesAreCheckedUptoCardSaid : Prop := Claim7.holds Tryd.pinned (.plain (OpenSpec.upto linesAreCheckedSpec)) linesAreCheckedUptoCard
end Rows
end Go.Proofs.YtjhdngfliakidaaDoor
