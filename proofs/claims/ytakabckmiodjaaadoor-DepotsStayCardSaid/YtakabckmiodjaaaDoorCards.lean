/-
  DERIVED. GIVEN WITH THE SEED: THE CARDS: each row of YtakabckmiodjaaaDoorRows.lean that lists a variable, with what it lists TIED to the program's text (the seventh form; the later family's looks); each row that meets fmt, with fmt's text TOLD by the authors' own Lean function (tested against real Go, not proved from fmt's source: count such statements apart). THE CARD IS WHAT COUNTS. Prove the row's statement (the work); the ties are given (YtakabckmiodjaaaDoorTie.lean); close each card by the builder's one call (the guide's Derived/Test/ToyasCard.lean, 'card_holds'). Laid BY PROGRAM, IN A SANDBOX (cutbox-door.mjs). By AI agents, Wed Nov 11 2026. No macro, syntax, notation, axiom, sorry.
-/
import Derived.Test.YtakabckmiodjaaaDoorRows
import GoSem.ClaimSeven
namespace Go.Proofs.YtakabckmiodjaaaDoor
namespace Rows

/-- THE TIED CARD OF 'coilkeep.DepotsStay'. -/
def depotsStayCard : Claim7 := { stood := { row := depotsStayRow, standIns := [], harness := (true, "e09a950d3fa23c670ff8235a279749648b503f8a7c7ddd0e428c2982d7a234b5"), looks := false }, kinds := [], alts := [], laidByText := true, laidKinds := [.data, .pinned], laidTests := true, laidLooks := .later }
def DepotsStayCardSaid : Prop := Claim7.holds Tryd.pinned (.plain (OpenSpec.ofChange depotsStaySpec)) depotsStayCard

/-- THE TIED CARD OF 'coilkeep.DealsAreCheaper'. -/
def dealsAreCheaperCard : Claim7 := { stood := { row := dealsAreCheaperRow, standIns := [], harness := (true, "e09a950d3fa23c670ff8235a279749648b503f8a7c7ddd0e428c2982d7a234b5"), looks := false }, kinds := [], alts := [], laidByText := true, laidKinds := [.data, .pinned], laidTests := true, laidLooks := .later }
def DealsAreCheaperCardSaid : Prop := Claim7.holds Tryd.pinned (.plain (OpenSpec.ofChange dealsAreCheaperSpec)) dealsAreCheaperCard

/-- THE SECOND FORM's CARD OF 'coilkeep.DepotsStay'. -/
def depotsStayUptoCard : Claim7 := { stood := { row := depotsStayUptoRow, standIns := [], harness := (true, "e09a950d3fa23c670ff8235a279749648b503f8a7c7ddd0e428c2982d7a234b5"), looks := false }, kinds := [], alts := [], laidByText := true, laidKinds := [.data, .pinned], laidTests := true, laidLooks := .later }
def DepotsStayUptoCardSaid : Prop := Claim7.holds Tryd.pinned (.plain (OpenSpec.upto depotsStaySpec)) depotsStayUptoCard

/-- THE SECOND FORM's CARD OF 'coilkeep.DealsAreCheaper'. -/
def dealsAreCheaperUptoCard : Claim7 := { stood := { row := dealsAreCheaperUptoRow, standIns := [], harness := (true, "e09a950d3fa23c670ff8235a279749648b503f8a7c7ddd0e428c2982d7a234b5"), looks := false }, kinds := [], alts := [], laidByText := true, laidKinds := [.data, .pinned], laidTests := true, laidLooks := .later }
def DealsAreCheaperUptoCardSaid : Prop := Claim7.holds Tryd.pinned (.plain (OpenSpec.upto dealsAreCheaperSpec)) dealsAreCheaperUptoCard
end Rows
end Go.Proofs.YtakabckmiodjaaaDoor
