/-
  DERIVED. GIVEN WITH THE SEED: THE CARDS: each row of YtdjnomeabadbnaaDoorRows.lean that lists a variable, with what it lists TIED to the program's text (the seventh form; the later family's looks); each row that meets fmt, with fmt's text TOLD by the authors' own Lean function (tested against real Go, not proved from fmt's source: count such statements apart). THE CARD IS WHAT COUNTS. Prove the row's statement (the work); the ties are given (YtdjnomeabadbnaaDoorTie.lean); close each card by the builder's one call (the guide's Derived/Test/ToyasCard.lean, 'card_holds'). Laid BY PROGRAM, IN A SANDBOX (cutbox-door.mjs). By AI agents, Wed Nov 11 2026. No macro, syntax, notation, axiom, sorry.
-/
import Derived.Test.YtdjnomeabadbnaaDoorRows
import GoSem.ClaimSeven
namespace Go.Proofs.YtdjnomeabadbnaaDoor
namespace Rows

/-- THE TIED CARD OF 'coilkeep.MachinesStay'. -/
def machinesStayCard : Claim7 := { stood := { row := machinesStayRow, standIns := [], harness := (true, "dedb6b25c75c5646ae2eb9b18ec0c40f1937e807bb75df436a35a7f27e8fe0f0"), looks := false }, kinds := [], alts := [], laidByText := true, laidKinds := [.data, .pinned], laidTests := true, laidLooks := .later }
def MachinesStayCardSaid : Prop := Claim7.holds Tryd.pinned (.plain (OpenSpec.ofChange machinesStaySpec)) machinesStayCard

/-- THE TIED CARD OF 'coilkeep.StaysAreWhole'. -/
def staysAreWholeCard : Claim7 := { stood := { row := staysAreWholeRow, standIns := [], harness := (true, "dedb6b25c75c5646ae2eb9b18ec0c40f1937e807bb75df436a35a7f27e8fe0f0"), looks := false }, kinds := [], alts := [], laidByText := true, laidKinds := [.data, .pinned], laidTests := true, laidLooks := .later }
def StaysAreWholeCardSaid : Prop := Claim7.holds Tryd.pinned (.plain (OpenSpec.ofChange staysAreWholeSpec)) staysAreWholeCard

/-- THE TIED CARD OF 'coilkeep.MachinesAddUp'. -/
def machinesAddUpCard : Claim7 := { stood := { row := machinesAddUpRow, standIns := [], harness := (true, "dedb6b25c75c5646ae2eb9b18ec0c40f1937e807bb75df436a35a7f27e8fe0f0"), looks := false }, kinds := [], alts := [], laidByText := true, laidKinds := [.data, .pinned], laidTests := true, laidLooks := .later }
def MachinesAddUpCardSaid : Prop := Claim7.holds Tryd.pinned (.plain (OpenSpec.ofChange machinesAddUpSpec)) machinesAddUpCard

/-- THE TIED CARD OF 'coilkeep.CoilsKeepOrder'. -/
def coilsKeepOrderCard : Claim7 := { stood := { row := coilsKeepOrderRow, standIns := [], harness := (true, "dedb6b25c75c5646ae2eb9b18ec0c40f1937e807bb75df436a35a7f27e8fe0f0"), looks := false }, kinds := [], alts := [], laidByText := true, laidKinds := [.data, .pinned], laidTests := true, laidLooks := .later }
def CoilsKeepOrderCardSaid : Prop := Claim7.holds Tryd.pinned (.plain (OpenSpec.ofChange coilsKeepOrderSpec)) coilsKeepOrderCard

/-- THE TIED CARD OF 'coilkeep.StockStays'. -/
def stockStaysCard : Claim7 := { stood := { row := stockStaysRow, standIns := [], harness := (true, "dedb6b25c75c5646ae2eb9b18ec0c40f1937e807bb75df436a35a7f27e8fe0f0"), looks := false }, kinds := [], alts := [], laidByText := true, laidKinds := [.data, .pinned], laidTests := true, laidLooks := .later }
def StockStaysCardSaid : Prop := Claim7.holds Tryd.pinned (.plain (OpenSpec.ofChange stockStaysSpec)) stockStaysCard

/-- THE TIED CARD OF 'coilkeep.PicksAreOldest'. -/
def picksAreOldestCard : Claim7 := { stood := { row := picksAreOldestRow, standIns := [], harness := (true, "dedb6b25c75c5646ae2eb9b18ec0c40f1937e807bb75df436a35a7f27e8fe0f0"), looks := false }, kinds := [], alts := [], laidByText := true, laidKinds := [.data, .pinned], laidTests := true, laidLooks := .later }
def PicksAreOldestCardSaid : Prop := Claim7.holds Tryd.pinned (.plain (OpenSpec.ofChange picksAreOldestSpec)) picksAreOldestCard

/-- THE SECOND FORM's CARD OF 'coilkeep.MachinesStay'. -/
def machinesStayUptoCard : Claim7 := { stood := { row := machinesStayUptoRow, standIns := [], harness := (true, "dedb6b25c75c5646ae2eb9b18ec0c40f1937e807bb75df436a35a7f27e8fe0f0"), looks := false }, kinds := [], alts := [], laidByText := true, laidKinds := [.data, .pinned], laidTests := true, laidLooks := .later }
def MachinesStayUptoCardSaid : Prop := Claim7.holds Tryd.pinned (.plain (OpenSpec.upto machinesStaySpec)) machinesStayUptoCard

/-- THE SECOND FORM's CARD OF 'coilkeep.StaysAreWhole'. -/
def staysAreWholeUptoCard : Claim7 := { stood := { row := staysAreWholeUptoRow, standIns := [], harness := (true, "dedb6b25c75c5646ae2eb9b18ec0c40f1937e807bb75df436a35a7f27e8fe0f0"), looks := false }, kinds := [], alts := [], laidByText := true, laidKinds := [.data, .pinned], laidTests := true, laidLooks := .later }
def StaysAreWholeUptoCardSaid : Prop := Claim7.holds Tryd.pinned (.plain (OpenSpec.upto staysAreWholeSpec)) staysAreWholeUptoCard

/-- THE SECOND FORM's CARD OF 'coilkeep.MachinesAddUp'. -/
def machinesAddUpUptoCard : Claim7 := { stood := { row := machinesAddUpUptoRow, standIns := [], harness := (true, "dedb6b25c75c5646ae2eb9b18ec0c40f1937e807bb75df436a35a7f27e8fe0f0"), looks := false }, kinds := [], alts := [], laidByText := true, laidKinds := [.data, .pinned], laidTests := true, laidLooks := .later }
def MachinesAddUpUptoCardSaid : Prop := Claim7.holds Tryd.pinned (.plain (OpenSpec.upto machinesAddUpSpec)) machinesAddUpUptoCard

/-- THE SECOND FORM's CARD OF 'coilkeep.CoilsKeepOrder'. -/
def coilsKeepOrderUptoCard : Claim7 := { stood := { row := coilsKeepOrderUptoRow, standIns := [], harness := (true, "dedb6b25c75c5646ae2eb9b18ec0c40f1937e807bb75df436a35a7f27e8fe0f0"), looks := false }, kinds := [], alts := [], laidByText := true, laidKinds := [.data, .pinned], laidTests := true, laidLooks := .later }
def CoilsKeepOrderUptoCardSaid : Prop := Claim7.holds Tryd.pinned (.plain (OpenSpec.upto coilsKeepOrderSpec)) coilsKeepOrderUptoCard

/-- THE SECOND FORM's CARD OF 'coilkeep.StockStays'. -/
def stockStaysUptoCard : Claim7 := { stood := { row := stockStaysUptoRow, standIns := [], harness := (true, "dedb6b25c75c5646ae2eb9b18ec0c40f1937e807bb75df436a35a7f27e8fe0f0"), looks := false }, kinds := [], alts := [], laidByText := true, laidKinds := [.data, .pinned], laidTests := true, laidLooks := .later }
def StockStaysUptoCardSaid : Prop := Claim7.holds Tryd.pinned (.plain (OpenSpec.upto stockStaysSpec)) stockStaysUptoCard

/-- THE SECOND FORM's CARD OF 'coilkeep.PicksAreOldest'. -/
def picksAreOldestUptoCard : Claim7 := { stood := { row := picksAreOldestUptoRow, standIns := [], harness := (true, "dedb6b25c75c5646ae2eb9b18ec0c40f1937e807bb75df436a35a7f27e8fe0f0"), looks := false }, kinds := [], alts := [], laidByText := true, laidKinds := [.data, .pinned], laidTests := true, laidLooks := .later }
def PicksAreOldestUptoCardSaid : Prop := Claim7.holds Tryd.pinned (.plain (OpenSpec.upto picksAreOldestSpec)) picksAreOldestUptoCard
end Rows
end Go.Proofs.YtdjnomeabadbnaaDoor
