/-
  NARROWER THAN 'FOR EVERY INPUT', by the rows' own cells (each row's printed sentence says how): MachinesStay: laid · StaysAreWhole: laid · MachinesAddUp: laid · CoilsKeepOrder: laid · StockStays: laid · PicksAreOldest: laid.
  DERIVED. THE GIVEN ROWS OF THIS SEAT. 6 by the template 'for every input the law returns true; each argument reads behind the call as it read before'; 0 by the template 'total and deterministic' (their statements: YtdjnomeabadbnaaDoorTotals.lean).
  GIVEN WITH THE SEED: the statements are not yours to turn. If you find one false, say at which input.
  Laid BY PROGRAM, IN A SANDBOX (cutbox-rows.mjs): the forced cells as the released guide's own fill.sh prints them over the translation 9ab9c34e43fd6359… (all of the seat's roots in one cut). By AI agents, Wed Nov 11 2026. No macro, syntax, notation, axiom, sorry.
-/
import Derived.Test.YtdjnomeabadbnaaDoorChecked
import GoSem.PinnedTables
import GoSem.Claim
import GoSem.ClaimJoined
import GoSem.ClaimMapViews
import Derived.JoinedTies
import Derived.KernelRfl
namespace Go.Proofs.YtdjnomeabadbnaaDoor
/- THE CELL 'sum', in the pinned program and in every row, IS THE sha256 OF THE DUMP (.gsa) THAT YtdjnomeabadbnaaDoorProg.lean LOADS. Nothing in Lean hashes anything: it is a label: what it is worth is what the hold of that sum in a sandbox is worth. -/
noncomputable def Tryd.pinned : Pinned := { name := "ytdjnomeabadbnaadoor", sum := "9ab9c34e43fd63596a066dc2ebf2f5dc1234cdde19515900dc133cf46f17182d", checked := Tryd.checked }
namespace Rows
def none {H : Type} : Left H := { results := [], args := [] }

/- WHAT THE LISTED PACKAGE-LEVEL VARIABLES READ AS WHEN THE CALL BEGINS. Each datum BY PROGRAM (the guide's laid-datum.mjs) off the statement by which the dump's own 'gosem.cut.vars' lays the variable. In a bare row this is a premise. The card (YtdjnomeabadbnaaDoorCards.lean) ties it to the program's text. -/
def laid_unicode_utf8_acceptRanges {H : Type} : DataW H := .agg [.agg [.lit (.int .u8 128), .lit (.int .u8 191)], .agg [.lit (.int .u8 160), .lit (.int .u8 191)], .agg [.lit (.int .u8 128), .lit (.int .u8 159)], .agg [.lit (.int .u8 144), .lit (.int .u8 191)], .agg [.lit (.int .u8 128), .lit (.int .u8 143)], .agg [.lit (.int .u8 0), .lit (.int .u8 0)], .agg [.lit (.int .u8 0), .lit (.int .u8 0)], .agg [.lit (.int .u8 0), .lit (.int .u8 0)], .agg [.lit (.int .u8 0), .lit (.int .u8 0)], .agg [.lit (.int .u8 0), .lit (.int .u8 0)], .agg [.lit (.int .u8 0), .lit (.int .u8 0)], .agg [.lit (.int .u8 0), .lit (.int .u8 0)], .agg [.lit (.int .u8 0), .lit (.int .u8 0)], .agg [.lit (.int .u8 0), .lit (.int .u8 0)], .agg [.lit (.int .u8 0), .lit (.int .u8 0)], .agg [.lit (.int .u8 0), .lit (.int .u8 0)]]
/-- One of Go's own tables, pinned by name: the form's constant. -/
def laid_unicode_utf8_first : DataW Unit := Go.Pinned.utf8First

/-- 'coilkeep.MachinesStay': WHATEVER THE INPUT: true; the input reads as it did. -/
def machinesStaySpec : ChangeSpec := { name := "machinesStay", fn := fun _ => fun
  | [d] => { results := [.lit (.bool true)], args := [d] }
  | _ => none }
def machinesStayRow : OpenClaim := { program := "ytdjnomeabadbnaadoor", sum := "9ab9c34e43fd63596a066dc2ebf2f5dc1234cdde19515900dc133cf46f17182d", func := "coilrack/coilkeep.MachinesStay", spec := "machinesStay", inPlace := ["internal/bytealg.IndexByteString", "internal/bytealg.IndexString"], unfollowed := true, recurses := true, named := ["unicode/utf8.first", "unicode/utf8.acceptRanges", "internal/bytealg.MaxLen"], apart := false, laid := [("unicode/utf8.acceptRanges", laid_unicode_utf8_acceptRanges), ("unicode/utf8.first", laid_unicode_utf8_first)] }
def MachinesStaySaid : Prop := machinesStayRow.holds Tryd.pinned (OpenSpec.ofChange machinesStaySpec)

/-- ITS FALSE NEIGHBOUR: 'it returns false'. Refute it at one input. -/
def machinesStayWrong : ChangeSpec := { name := "machinesStay", fn := fun _ => fun
  | [d] => { results := [.lit (.bool false)], args := [d] }
  | _ => none }
def MachinesStayWrongFalsely : Prop := machinesStayRow.holds Tryd.pinned (OpenSpec.ofChange machinesStayWrong)

/-- 'coilkeep.StaysAreWhole': WHATEVER THE INPUT: true; the input reads as it did. -/
def staysAreWholeSpec : ChangeSpec := { name := "staysAreWhole", fn := fun _ => fun
  | [d] => { results := [.lit (.bool true)], args := [d] }
  | _ => none }
def staysAreWholeRow : OpenClaim := { program := "ytdjnomeabadbnaadoor", sum := "9ab9c34e43fd63596a066dc2ebf2f5dc1234cdde19515900dc133cf46f17182d", func := "coilrack/coilkeep.StaysAreWhole", spec := "staysAreWhole", inPlace := ["internal/bytealg.IndexByteString", "internal/bytealg.IndexString"], unfollowed := true, recurses := true, named := ["unicode/utf8.first", "unicode/utf8.acceptRanges", "internal/bytealg.MaxLen"], apart := false, laid := [("unicode/utf8.acceptRanges", laid_unicode_utf8_acceptRanges), ("unicode/utf8.first", laid_unicode_utf8_first)] }
def StaysAreWholeSaid : Prop := staysAreWholeRow.holds Tryd.pinned (OpenSpec.ofChange staysAreWholeSpec)

/-- ITS FALSE NEIGHBOUR: 'it returns false'. Refute it at one input. -/
def staysAreWholeWrong : ChangeSpec := { name := "staysAreWhole", fn := fun _ => fun
  | [d] => { results := [.lit (.bool false)], args := [d] }
  | _ => none }
def StaysAreWholeWrongFalsely : Prop := staysAreWholeRow.holds Tryd.pinned (OpenSpec.ofChange staysAreWholeWrong)

/-- 'coilkeep.MachinesAddUp': WHATEVER THE INPUT: true; the input reads as it did. -/
def machinesAddUpSpec : ChangeSpec := { name := "machinesAddUp", fn := fun _ => fun
  | [d] => { results := [.lit (.bool true)], args := [d] }
  | _ => none }
def machinesAddUpRow : OpenClaim := { program := "ytdjnomeabadbnaadoor", sum := "9ab9c34e43fd63596a066dc2ebf2f5dc1234cdde19515900dc133cf46f17182d", func := "coilrack/coilkeep.MachinesAddUp", spec := "machinesAddUp", inPlace := ["internal/bytealg.IndexByteString", "internal/bytealg.IndexString"], unfollowed := true, recurses := true, named := ["unicode/utf8.first", "unicode/utf8.acceptRanges", "internal/bytealg.MaxLen"], apart := false, laid := [("unicode/utf8.acceptRanges", laid_unicode_utf8_acceptRanges), ("unicode/utf8.first", laid_unicode_utf8_first)] }
def MachinesAddUpSaid : Prop := machinesAddUpRow.holds Tryd.pinned (OpenSpec.ofChange machinesAddUpSpec)

/-- ITS FALSE NEIGHBOUR: 'it returns false'. Refute it at one input. -/
def machinesAddUpWrong : ChangeSpec := { name := "machinesAddUp", fn := fun _ => fun
  | [d] => { results := [.lit (.bool false)], args := [d] }
  | _ => none }
def MachinesAddUpWrongFalsely : Prop := machinesAddUpRow.holds Tryd.pinned (OpenSpec.ofChange machinesAddUpWrong)

/-- 'coilkeep.CoilsKeepOrder': WHATEVER THE INPUT: true; the input reads as it did. -/
def coilsKeepOrderSpec : ChangeSpec := { name := "coilsKeepOrder", fn := fun _ => fun
  | [d] => { results := [.lit (.bool true)], args := [d] }
  | _ => none }
def coilsKeepOrderRow : OpenClaim := { program := "ytdjnomeabadbnaadoor", sum := "9ab9c34e43fd63596a066dc2ebf2f5dc1234cdde19515900dc133cf46f17182d", func := "coilrack/coilkeep.CoilsKeepOrder", spec := "coilsKeepOrder", inPlace := ["internal/bytealg.IndexByteString", "internal/bytealg.IndexString", "internal/bytealg.abigen_runtime_cmpstring"], unfollowed := true, recurses := true, named := ["unicode/utf8.first", "unicode/utf8.acceptRanges", "internal/bytealg.MaxLen"], apart := false, laid := [("unicode/utf8.acceptRanges", laid_unicode_utf8_acceptRanges), ("unicode/utf8.first", laid_unicode_utf8_first)] }
def CoilsKeepOrderSaid : Prop := coilsKeepOrderRow.holds Tryd.pinned (OpenSpec.ofChange coilsKeepOrderSpec)

/-- ITS FALSE NEIGHBOUR: 'it returns false'. Refute it at one input. -/
def coilsKeepOrderWrong : ChangeSpec := { name := "coilsKeepOrder", fn := fun _ => fun
  | [d] => { results := [.lit (.bool false)], args := [d] }
  | _ => none }
def CoilsKeepOrderWrongFalsely : Prop := coilsKeepOrderRow.holds Tryd.pinned (OpenSpec.ofChange coilsKeepOrderWrong)

/-- 'coilkeep.StockStays': WHATEVER THE INPUT: true; the input reads as it did. -/
def stockStaysSpec : ChangeSpec := { name := "stockStays", fn := fun _ => fun
  | [d] => { results := [.lit (.bool true)], args := [d] }
  | _ => none }
def stockStaysRow : OpenClaim := { program := "ytdjnomeabadbnaadoor", sum := "9ab9c34e43fd63596a066dc2ebf2f5dc1234cdde19515900dc133cf46f17182d", func := "coilrack/coilkeep.StockStays", spec := "stockStays", inPlace := ["internal/bytealg.IndexByteString", "internal/bytealg.IndexString", "internal/bytealg.abigen_runtime_cmpstring", "slices.overlaps[coilrack/api.Lot]", "slices.overlaps[map[string]int]"], unfollowed := true, recurses := true, named := ["unicode/utf8.first", "unicode/utf8.acceptRanges", "internal/bytealg.MaxLen"], apart := false, laid := [("unicode/utf8.acceptRanges", laid_unicode_utf8_acceptRanges), ("unicode/utf8.first", laid_unicode_utf8_first)] }
def StockStaysSaid : Prop := stockStaysRow.holds Tryd.pinned (OpenSpec.ofChange stockStaysSpec)

/-- ITS FALSE NEIGHBOUR: 'it returns false'. Refute it at one input. -/
def stockStaysWrong : ChangeSpec := { name := "stockStays", fn := fun _ => fun
  | [d] => { results := [.lit (.bool false)], args := [d] }
  | _ => none }
def StockStaysWrongFalsely : Prop := stockStaysRow.holds Tryd.pinned (OpenSpec.ofChange stockStaysWrong)

/-- 'coilkeep.PicksAreOldest': WHATEVER THE INPUT: true; the input reads as it did. -/
def picksAreOldestSpec : ChangeSpec := { name := "picksAreOldest", fn := fun _ => fun
  | [d] => { results := [.lit (.bool true)], args := [d] }
  | _ => none }
def picksAreOldestRow : OpenClaim := { program := "ytdjnomeabadbnaadoor", sum := "9ab9c34e43fd63596a066dc2ebf2f5dc1234cdde19515900dc133cf46f17182d", func := "coilrack/coilkeep.PicksAreOldest", spec := "picksAreOldest", inPlace := ["internal/bytealg.IndexByteString", "internal/bytealg.IndexString", "internal/bytealg.abigen_runtime_cmpstring"], unfollowed := true, recurses := true, named := ["unicode/utf8.first", "unicode/utf8.acceptRanges", "internal/bytealg.MaxLen"], apart := false, laid := [("unicode/utf8.acceptRanges", laid_unicode_utf8_acceptRanges), ("unicode/utf8.first", laid_unicode_utf8_first)] }
def PicksAreOldestSaid : Prop := picksAreOldestRow.holds Tryd.pinned (OpenSpec.ofChange picksAreOldestSpec)

/-- ITS FALSE NEIGHBOUR: 'it returns false'. Refute it at one input. -/
def picksAreOldestWrong : ChangeSpec := { name := "picksAreOldest", fn := fun _ => fun
  | [d] => { results := [.lit (.bool false)], args := [d] }
  | _ => none }
def PicksAreOldestWrongFalsely : Prop := picksAreOldestRow.holds Tryd.pinned (OpenSpec.ofChange picksAreOldestWrong)

/- THE SECOND FORM. 'bulk': how many values and letters a reading holds, each counted each time it is reached (what is shared counts as often as it is met; a slice's spare places count too). A statement '..UptoSaid' is the law's where the arguments, and the package variables that the reading takes, are together of bulk at most 1048576: NARROWER than '..Said'. Prove '..Said' where nothing that the law and all that it calls make is longer than what came in: it says more and counts as full. Else prove '..UptoSaid'. A law counts once. -/
mutual
def uptoBulk {H : Type} : DataW H → Nat
  | .lit (.string bytes) => bytes.length + 1
  | .lit _ => 1
  | .nil => 1
  | .ptr d => uptoBulk d + 1
  | .slice elems spare => uptoBulkAll elems + uptoBulkAll spare + 1
  | .agg parts => uptoBulkAll parts + 1
  | .iface _ d => uptoBulk d + 1
  | .map entries => uptoBulkEntries entries + 1
  | .held _ => 1
def uptoBulkAll {H : Type} : List (DataW H) → Nat
  | [] => 0
  | d :: r => uptoBulk d + uptoBulkAll r
def uptoBulkEntries {H : Type} : List (Lit × DataW H) → Nat
  | [] => 0
  | x :: r => uptoBulkEntry x + uptoBulkEntries r
def uptoBulkEntry {H : Type} : Lit × DataW H → Nat
  | (.string bytes, d) => bytes.length + uptoBulk d + 1
  | (_, d) => uptoBulk d + 1
 end
def uptoSmall : (H : Type) → List (DataW H) → Bool := fun _ ds => decide (uptoBulkAll ds ≤ 1048576)
def OpenSpec.upto (s : _root_.Go.ChangeSpec) : _root_.Go.OpenSpec := { _root_.Go.OpenSpec.ofChange s with cond := some uptoSmall }

/-- 'coilkeep.MachinesStay', WHERE WHAT IT READS IS OF BULK AT MOST 1048576: true; the input reads as it did. -/
def machinesStayUptoRow : OpenClaim := { program := "ytdjnomeabadbnaadoor", sum := "9ab9c34e43fd63596a066dc2ebf2f5dc1234cdde19515900dc133cf46f17182d", func := "coilrack/coilkeep.MachinesStay", spec := "machinesStay", inPlace := ["internal/bytealg.IndexByteString", "internal/bytealg.IndexString"], unfollowed := true, recurses := true, named := ["unicode/utf8.first", "unicode/utf8.acceptRanges", "internal/bytealg.MaxLen"], apart := false, laid := [("unicode/utf8.acceptRanges", laid_unicode_utf8_acceptRanges), ("unicode/utf8.first", laid_unicode_utf8_first)], narrowed := true }
def MachinesStayUptoSaid : Prop := machinesStayUptoRow.holds Tryd.pinned (OpenSpec.upto machinesStaySpec)

/-- 'coilkeep.StaysAreWhole', WHERE WHAT IT READS IS OF BULK AT MOST 1048576: true; the input reads as it did. -/
def staysAreWholeUptoRow : OpenClaim := { program := "ytdjnomeabadbnaadoor", sum := "9ab9c34e43fd63596a066dc2ebf2f5dc1234cdde19515900dc133cf46f17182d", func := "coilrack/coilkeep.StaysAreWhole", spec := "staysAreWhole", inPlace := ["internal/bytealg.IndexByteString", "internal/bytealg.IndexString"], unfollowed := true, recurses := true, named := ["unicode/utf8.first", "unicode/utf8.acceptRanges", "internal/bytealg.MaxLen"], apart := false, laid := [("unicode/utf8.acceptRanges", laid_unicode_utf8_acceptRanges), ("unicode/utf8.first", laid_unicode_utf8_first)], narrowed := true }
def StaysAreWholeUptoSaid : Prop := staysAreWholeUptoRow.holds Tryd.pinned (OpenSpec.upto staysAreWholeSpec)

/-- 'coilkeep.MachinesAddUp', WHERE WHAT IT READS IS OF BULK AT MOST 1048576: true; the input reads as it did. -/
def machinesAddUpUptoRow : OpenClaim := { program := "ytdjnomeabadbnaadoor", sum := "9ab9c34e43fd63596a066dc2ebf2f5dc1234cdde19515900dc133cf46f17182d", func := "coilrack/coilkeep.MachinesAddUp", spec := "machinesAddUp", inPlace := ["internal/bytealg.IndexByteString", "internal/bytealg.IndexString"], unfollowed := true, recurses := true, named := ["unicode/utf8.first", "unicode/utf8.acceptRanges", "internal/bytealg.MaxLen"], apart := false, laid := [("unicode/utf8.acceptRanges", laid_unicode_utf8_acceptRanges), ("unicode/utf8.first", laid_unicode_utf8_first)], narrowed := true }
def MachinesAddUpUptoSaid : Prop := machinesAddUpUptoRow.holds Tryd.pinned (OpenSpec.upto machinesAddUpSpec)

/-- 'coilkeep.CoilsKeepOrder', WHERE WHAT IT READS IS OF BULK AT MOST 1048576: true; the input reads as it did. -/
def coilsKeepOrderUptoRow : OpenClaim := { program := "ytdjnomeabadbnaadoor", sum := "9ab9c34e43fd63596a066dc2ebf2f5dc1234cdde19515900dc133cf46f17182d", func := "coilrack/coilkeep.CoilsKeepOrder", spec := "coilsKeepOrder", inPlace := ["internal/bytealg.IndexByteString", "internal/bytealg.IndexString", "internal/bytealg.abigen_runtime_cmpstring"], unfollowed := true, recurses := true, named := ["unicode/utf8.first", "unicode/utf8.acceptRanges", "internal/bytealg.MaxLen"], apart := false, laid := [("unicode/utf8.acceptRanges", laid_unicode_utf8_acceptRanges), ("unicode/utf8.first", laid_unicode_utf8_first)], narrowed := true }
def CoilsKeepOrderUptoSaid : Prop := coilsKeepOrderUptoRow.holds Tryd.pinned (OpenSpec.upto coilsKeepOrderSpec)

/-- 'coilkeep.StockStays', WHERE WHAT IT READS IS OF BULK AT MOST 1048576: true; the input reads as it did. -/
def stockStaysUptoRow : OpenClaim := { program := "ytdjnomeabadbnaadoor", sum := "9ab9c34e43fd63596a066dc2ebf2f5dc1234cdde19515900dc133cf46f17182d", func := "coilrack/coilkeep.StockStays", spec := "stockStays", inPlace := ["internal/bytealg.IndexByteString", "internal/bytealg.IndexString", "internal/bytealg.abigen_runtime_cmpstring", "slices.overlaps[coilrack/api.Lot]", "slices.overlaps[map[string]int]"], unfollowed := true, recurses := true, named := ["unicode/utf8.first", "unicode/utf8.acceptRanges", "internal/bytealg.MaxLen"], apart := false, laid := [("unicode/utf8.acceptRanges", laid_unicode_utf8_acceptRanges), ("unicode/utf8.first", laid_unicode_utf8_first)], narrowed := true }
def StockStaysUptoSaid : Prop := stockStaysUptoRow.holds Tryd.pinned (OpenSpec.upto stockStaysSpec)

/-- 'coilkeep.PicksAreOldest', WHERE WHAT IT READS IS OF BULK AT MOST 1048576: true; the input reads as it did. -/
def picksAreOldestUptoRow : OpenClaim := { program := "ytdjnomeabadbnaadoor", sum := "9ab9c34e43fd63596a066dc2ebf2f5dc1234cdde19515900dc133cf46f17182d", func := "coilrack/coilkeep.PicksAreOldest", spec := "picksAreOldest", inPlace := ["internal/bytealg.IndexByteString", "internal/bytealg.IndexString", "internal/bytealg.abigen_runtime_cmpstring"], unfollowed := true, recurses := true, named := ["unicode/utf8.first", "unicode/utf8.acceptRanges", "internal/bytealg.MaxLen"], apart := false, laid := [("unicode/utf8.acceptRanges", laid_unicode_utf8_acceptRanges), ("unicode/utf8.first", laid_unicode_utf8_first)], narrowed := true }
def PicksAreOldestUptoSaid : Prop := picksAreOldestUptoRow.holds Tryd.pinned (OpenSpec.upto picksAreOldestSpec)

end Rows
end Go.Proofs.YtdjnomeabadbnaaDoor
