/-
  No cell of these rows narrows 'for every input' (looked for: loops, veiled, ifaces, maps, wideKeys, modest, calm, conditions, laid).
  DERIVED. THE GIVEN ROWS OF THIS SEAT. 10 by the template 'for every input the law returns true; each argument reads behind the call as it read before'; 0 by the template 'total and deterministic' (their statements: YtlpkancpjdihgaaTotals.lean).
  GIVEN WITH THE SEED: the statements are not yours to turn. If you find one false, say at which input.
  Laid BY PROGRAM, IN A SANDBOX (cutbox-rows.mjs): the forced cells as the released guide's own fill.sh prints them over the translation 22ff4d967efacc13… (all of the seat's roots in one cut). By AI agents, Wed Nov 11 2026. No macro, syntax, notation, axiom, sorry.
-/
import Derived.Test.YtlpkancpjdihgaaChecked
import GoSem.Claim
import GoSem.ClaimJoined
import GoSem.ClaimMapViews
import Derived.JoinedTies
import Derived.KernelRfl
namespace Go.Proofs.Ytlpkancpjdihgaa
/- THE CELL 'sum', in the pinned program and in every row, IS THE sha256 OF THE DUMP (.gsa) THAT YtlpkancpjdihgaaProg.lean LOADS. Nothing in Lean hashes anything: it is a label: what it is worth is what the hold of that sum in a sandbox is worth. -/
noncomputable def Try.pinned : Pinned := { name := "ytlpkancpjdihgaa", sum := "22ff4d967efacc131e727c10db25f92d7b0622c47fd5f79d976fbf787eaeca94", checked := Try.checked }
namespace Rows
def none {H : Type} : Left H := { results := [], args := [] }

/-- 'coilkeep.ChancesAddUp': WHATEVER THE INPUT: true; the input reads as it did. -/
def chancesAddUpSpec : ChangeSpec := { name := "chancesAddUp", fn := fun _ => fun
  | [d] => { results := [.lit (.bool true)], args := [d] }
  | _ => none }
def chancesAddUpRow : OpenClaim := { program := "ytlpkancpjdihgaa", sum := "22ff4d967efacc131e727c10db25f92d7b0622c47fd5f79d976fbf787eaeca94", func := "coilrack/coilkeep.ChancesAddUp", spec := "chancesAddUp", apart := false }
def ChancesAddUpSaid : Prop := chancesAddUpRow.holds Try.pinned (OpenSpec.ofChange chancesAddUpSpec)

/-- ITS FALSE NEIGHBOUR: 'it returns false'. Refute it at one input. -/
def chancesAddUpWrong : ChangeSpec := { name := "chancesAddUp", fn := fun _ => fun
  | [d] => { results := [.lit (.bool false)], args := [d] }
  | _ => none }
def ChancesAddUpWrongFalsely : Prop := chancesAddUpRow.holds Try.pinned (OpenSpec.ofChange chancesAddUpWrong)

/-- 'coilkeep.WantsAreNotLess': WHATEVER THE INPUT: true; the input reads as it did. -/
def wantsAreNotLessSpec : ChangeSpec := { name := "wantsAreNotLess", fn := fun _ => fun
  | [d] => { results := [.lit (.bool true)], args := [d] }
  | _ => none }
def wantsAreNotLessRow : OpenClaim := { program := "ytlpkancpjdihgaa", sum := "22ff4d967efacc131e727c10db25f92d7b0622c47fd5f79d976fbf787eaeca94", func := "coilrack/coilkeep.WantsAreNotLess", spec := "wantsAreNotLess", unfollowed := true, recurses := true, apart := false }
def WantsAreNotLessSaid : Prop := wantsAreNotLessRow.holds Try.pinned (OpenSpec.ofChange wantsAreNotLessSpec)

/-- ITS FALSE NEIGHBOUR: 'it returns false'. Refute it at one input. -/
def wantsAreNotLessWrong : ChangeSpec := { name := "wantsAreNotLess", fn := fun _ => fun
  | [d] => { results := [.lit (.bool false)], args := [d] }
  | _ => none }
def WantsAreNotLessWrongFalsely : Prop := wantsAreNotLessRow.holds Try.pinned (OpenSpec.ofChange wantsAreNotLessWrong)

/-- 'coilkeep.CoinsStay': WHATEVER THE INPUT: true; the input reads as it did. -/
def coinsStaySpec : ChangeSpec := { name := "coinsStay", fn := fun _ => fun
  | [d] => { results := [.lit (.bool true)], args := [d] }
  | _ => none }
def coinsStayRow : OpenClaim := { program := "ytlpkancpjdihgaa", sum := "22ff4d967efacc131e727c10db25f92d7b0622c47fd5f79d976fbf787eaeca94", func := "coilrack/coilkeep.CoinsStay", spec := "coinsStay", unfollowed := true, recurses := true, apart := false }
def CoinsStaySaid : Prop := coinsStayRow.holds Try.pinned (OpenSpec.ofChange coinsStaySpec)

/-- ITS FALSE NEIGHBOUR: 'it returns false'. Refute it at one input. -/
def coinsStayWrong : ChangeSpec := { name := "coinsStay", fn := fun _ => fun
  | [d] => { results := [.lit (.bool false)], args := [d] }
  | _ => none }
def CoinsStayWrongFalsely : Prop := coinsStayRow.holds Try.pinned (OpenSpec.ofChange coinsStayWrong)

/-- 'coilkeep.ChangeIsExact': WHATEVER THE INPUT: true; the input reads as it did. -/
def changeIsExactSpec : ChangeSpec := { name := "changeIsExact", fn := fun _ => fun
  | [d] => { results := [.lit (.bool true)], args := [d] }
  | _ => none }
def changeIsExactRow : OpenClaim := { program := "ytlpkancpjdihgaa", sum := "22ff4d967efacc131e727c10db25f92d7b0622c47fd5f79d976fbf787eaeca94", func := "coilrack/coilkeep.ChangeIsExact", spec := "changeIsExact", unfollowed := true, recurses := true, apart := false }
def ChangeIsExactSaid : Prop := changeIsExactRow.holds Try.pinned (OpenSpec.ofChange changeIsExactSpec)

/-- ITS FALSE NEIGHBOUR: 'it returns false'. Refute it at one input. -/
def changeIsExactWrong : ChangeSpec := { name := "changeIsExact", fn := fun _ => fun
  | [d] => { results := [.lit (.bool false)], args := [d] }
  | _ => none }
def ChangeIsExactWrongFalsely : Prop := changeIsExactRow.holds Try.pinned (OpenSpec.ofChange changeIsExactWrong)

/-- 'coilkeep.NobodyIsLost': WHATEVER THE INPUT: true; the input reads as it did. -/
def nobodyIsLostSpec : ChangeSpec := { name := "nobodyIsLost", fn := fun _ => fun
  | [d] => { results := [.lit (.bool true)], args := [d] }
  | _ => none }
def nobodyIsLostRow : OpenClaim := { program := "ytlpkancpjdihgaa", sum := "22ff4d967efacc131e727c10db25f92d7b0622c47fd5f79d976fbf787eaeca94", func := "coilrack/coilkeep.NobodyIsLost", spec := "nobodyIsLost", unfollowed := true, recurses := true, apart := false }
def NobodyIsLostSaid : Prop := nobodyIsLostRow.holds Try.pinned (OpenSpec.ofChange nobodyIsLostSpec)

/-- ITS FALSE NEIGHBOUR: 'it returns false'. Refute it at one input. -/
def nobodyIsLostWrong : ChangeSpec := { name := "nobodyIsLost", fn := fun _ => fun
  | [d] => { results := [.lit (.bool false)], args := [d] }
  | _ => none }
def NobodyIsLostWrongFalsely : Prop := nobodyIsLostRow.holds Try.pinned (OpenSpec.ofChange nobodyIsLostWrong)

/-- 'coilkeep.LoadsAreBest': WHATEVER THE INPUT: true; the input reads as it did. -/
def loadsAreBestSpec : ChangeSpec := { name := "loadsAreBest", fn := fun _ => fun
  | [d] => { results := [.lit (.bool true)], args := [d] }
  | _ => none }
def loadsAreBestRow : OpenClaim := { program := "ytlpkancpjdihgaa", sum := "22ff4d967efacc131e727c10db25f92d7b0622c47fd5f79d976fbf787eaeca94", func := "coilrack/coilkeep.LoadsAreBest", spec := "loadsAreBest", unfollowed := true, recurses := true, apart := false }
def LoadsAreBestSaid : Prop := loadsAreBestRow.holds Try.pinned (OpenSpec.ofChange loadsAreBestSpec)

/-- ITS FALSE NEIGHBOUR: 'it returns false'. Refute it at one input. -/
def loadsAreBestWrong : ChangeSpec := { name := "loadsAreBest", fn := fun _ => fun
  | [d] => { results := [.lit (.bool false)], args := [d] }
  | _ => none }
def LoadsAreBestWrongFalsely : Prop := loadsAreBestRow.holds Try.pinned (OpenSpec.ofChange loadsAreBestWrong)

/-- 'coilkeep.DemandStays': WHATEVER THE INPUT: true; the input reads as it did. -/
def demandStaysSpec : ChangeSpec := { name := "demandStays", fn := fun _ => fun
  | [d] => { results := [.lit (.bool true)], args := [d] }
  | _ => none }
def demandStaysRow : OpenClaim := { program := "ytlpkancpjdihgaa", sum := "22ff4d967efacc131e727c10db25f92d7b0622c47fd5f79d976fbf787eaeca94", func := "coilrack/coilkeep.DemandStays", spec := "demandStays", unfollowed := true, recurses := true, apart := false }
def DemandStaysSaid : Prop := demandStaysRow.holds Try.pinned (OpenSpec.ofChange demandStaysSpec)

/-- ITS FALSE NEIGHBOUR: 'it returns false'. Refute it at one input. -/
def demandStaysWrong : ChangeSpec := { name := "demandStays", fn := fun _ => fun
  | [d] => { results := [.lit (.bool false)], args := [d] }
  | _ => none }
def DemandStaysWrongFalsely : Prop := demandStaysRow.holds Try.pinned (OpenSpec.ofChange demandStaysWrong)

/-- 'coilkeep.WalletsAreNeverOverdrawn': WHATEVER THE INPUT: true; the input reads as it did. -/
def walletsAreNeverOverdrawnSpec : ChangeSpec := { name := "walletsAreNeverOverdrawn", fn := fun _ => fun
  | [d] => { results := [.lit (.bool true)], args := [d] }
  | _ => none }
def walletsAreNeverOverdrawnRow : OpenClaim := { program := "ytlpkancpjdihgaa", sum := "22ff4d967efacc131e727c10db25f92d7b0622c47fd5f79d976fbf787eaeca94", func := "coilrack/coilkeep.WalletsAreNeverOverdrawn", spec := "walletsAreNeverOverdrawn", unfollowed := true, recurses := true, apart := false }
def WalletsAreNeverOverdrawnSaid : Prop := walletsAreNeverOverdrawnRow.holds Try.pinned (OpenSpec.ofChange walletsAreNeverOverdrawnSpec)

/-- ITS FALSE NEIGHBOUR: 'it returns false'. Refute it at one input. -/
def walletsAreNeverOverdrawnWrong : ChangeSpec := { name := "walletsAreNeverOverdrawn", fn := fun _ => fun
  | [d] => { results := [.lit (.bool false)], args := [d] }
  | _ => none }
def WalletsAreNeverOverdrawnWrongFalsely : Prop := walletsAreNeverOverdrawnRow.holds Try.pinned (OpenSpec.ofChange walletsAreNeverOverdrawnWrong)

/-- 'coilkeep.ShelvesStay': WHATEVER THE INPUT: true; the input reads as it did. -/
def shelvesStaySpec : ChangeSpec := { name := "shelvesStay", fn := fun _ => fun
  | [d] => { results := [.lit (.bool true)], args := [d] }
  | _ => none }
def shelvesStayRow : OpenClaim := { program := "ytlpkancpjdihgaa", sum := "22ff4d967efacc131e727c10db25f92d7b0622c47fd5f79d976fbf787eaeca94", func := "coilrack/coilkeep.ShelvesStay", spec := "shelvesStay", unfollowed := true, recurses := true, apart := false }
def ShelvesStaySaid : Prop := shelvesStayRow.holds Try.pinned (OpenSpec.ofChange shelvesStaySpec)

/-- ITS FALSE NEIGHBOUR: 'it returns false'. Refute it at one input. -/
def shelvesStayWrong : ChangeSpec := { name := "shelvesStay", fn := fun _ => fun
  | [d] => { results := [.lit (.bool false)], args := [d] }
  | _ => none }
def ShelvesStayWrongFalsely : Prop := shelvesStayRow.holds Try.pinned (OpenSpec.ofChange shelvesStayWrong)

/-- 'coilkeep.WeeksAreLevel': WHATEVER THE INPUT: true; the input reads as it did. -/
def weeksAreLevelSpec : ChangeSpec := { name := "weeksAreLevel", fn := fun _ => fun
  | [d] => { results := [.lit (.bool true)], args := [d] }
  | _ => none }
def weeksAreLevelRow : OpenClaim := { program := "ytlpkancpjdihgaa", sum := "22ff4d967efacc131e727c10db25f92d7b0622c47fd5f79d976fbf787eaeca94", func := "coilrack/coilkeep.WeeksAreLevel", spec := "weeksAreLevel", unfollowed := true, recurses := true, apart := false }
def WeeksAreLevelSaid : Prop := weeksAreLevelRow.holds Try.pinned (OpenSpec.ofChange weeksAreLevelSpec)

/-- ITS FALSE NEIGHBOUR: 'it returns false'. Refute it at one input. -/
def weeksAreLevelWrong : ChangeSpec := { name := "weeksAreLevel", fn := fun _ => fun
  | [d] => { results := [.lit (.bool false)], args := [d] }
  | _ => none }
def WeeksAreLevelWrongFalsely : Prop := weeksAreLevelRow.holds Try.pinned (OpenSpec.ofChange weeksAreLevelWrong)

/- THE SECOND FORM. 'bulk': how many values and letters a reading holds, each counted each time it is reached (what is shared counts as often as it is met; a slice's spare places count too). A statement '..UptoSaid' is the law's where the arguments, and the package variables that the reading takes, are together of bulk at most 1048576: NARROWER than '..Said'. Prove '..Said' where nothing that the law and all that it calls make is longer than what came in: it says more and counts as full. Else prove '..UptoSaid'. A law counts once. -/
mutual
def uptoBulk {H : Type} : DataW H → Nat
  | .lit (.string bytes) => bytes.length + 1
  | .lit _ => 1
  | .nil => 1
  | .ptr d => uptoBulk d + 1
  | .slice elems spare => uptoBulkAll elems + uptoBulkAll spare + 1
  | .agg parts => uptoBulkAll parts + 1
  | .iface _ d => uptoBulk d + 1
  | .map entries => uptoBulkEntries entries + 1
  | .held _ => 1
def uptoBulkAll {H : Type} : List (DataW H) → Nat
  | [] => 0
  | d :: r => uptoBulk d + uptoBulkAll r
def uptoBulkEntries {H : Type} : List (Lit × DataW H) → Nat
  | [] => 0
  | x :: r => uptoBulkEntry x + uptoBulkEntries r
def uptoBulkEntry {H : Type} : Lit × DataW H → Nat
  | (.string bytes, d) => bytes.length + uptoBulk d + 1
  | (_, d) => uptoBulk d + 1
 end
def uptoSmall : (H : Type) → List (DataW H) → Bool := fun _ ds => decide (uptoBulkAll ds ≤ 1048576)
def OpenSpec.upto (s : _root_.Go.ChangeSpec) : _root_.Go.OpenSpec := { _root_.Go.OpenSpec.ofChange s with cond := some uptoSmall }

/-- 'coilkeep.ChancesAddUp', WHERE WHAT IT READS IS OF BULK AT MOST 1048576: true; the input reads as it did. -/
def chancesAddUpUptoRow : OpenClaim := { program := "ytlpkancpjdihgaa", sum := "22ff4d967efacc131e727c10db25f92d7b0622c47fd5f79d976fbf787eaeca94", func := "coilrack/coilkeep.ChancesAddUp", spec := "chancesAddUp", apart := false, narrowed := true }
def ChancesAddUpUptoSaid : Prop := chancesAddUpUptoRow.holds Try.pinned (OpenSpec.upto chancesAddUpSpec)

/-- 'coilkeep.WantsAreNotLess', WHERE WHAT IT READS IS OF BULK AT MOST 1048576: true; the input reads as it did. -/
def wantsAreNotLessUptoRow : OpenClaim := { program := "ytlpkancpjdihgaa", sum := "22ff4d967efacc131e727c10db25f92d7b0622c47fd5f79d976fbf787eaeca94", func := "coilrack/coilkeep.WantsAreNotLess", spec := "wantsAreNotLess", unfollowed := true, recurses := true, apart := false, narrowed := true }
def WantsAreNotLessUptoSaid : Prop := wantsAreNotLessUptoRow.holds Try.pinned (OpenSpec.upto wantsAreNotLessSpec)

/-- 'coilkeep.CoinsStay', WHERE WHAT IT READS IS OF BULK AT MOST 1048576: true; the input reads as it did. -/
def coinsStayUptoRow : OpenClaim := { program := "ytlpkancpjdihgaa", sum := "22ff4d967efacc131e727c10db25f92d7b0622c47fd5f79d976fbf787eaeca94", func := "coilrack/coilkeep.CoinsStay", spec := "coinsStay", unfollowed := true, recurses := true, apart := false, narrowed := true }
def CoinsStayUptoSaid : Prop := coinsStayUptoRow.holds Try.pinned (OpenSpec.upto coinsStaySpec)

/-- 'coilkeep.ChangeIsExact', WHERE WHAT IT READS IS OF BULK AT MOST 1048576: true; the input reads as it did. -/
def changeIsExactUptoRow : OpenClaim := { program := "ytlpkancpjdihgaa", sum := "22ff4d967efacc131e727c10db25f92d7b0622c47fd5f79d976fbf787eaeca94", func := "coilrack/coilkeep.ChangeIsExact", spec := "changeIsExact", unfollowed := true, recurses := true, apart := false, narrowed := true }
def ChangeIsExactUptoSaid : Prop := changeIsExactUptoRow.holds Try.pinned (OpenSpec.upto changeIsExactSpec)

/-- 'coilkeep.NobodyIsLost', WHERE WHAT IT READS IS OF BULK AT MOST 1048576: true; the input reads as it did. -/
def nobodyIsLostUptoRow : OpenClaim := { program := "ytlpkancpjdihgaa", sum := "22ff4d967efacc131e727c10db25f92d7b0622c47fd5f79d976fbf787eaeca94", func := "coilrack/coilkeep.NobodyIsLost", spec := "nobodyIsLost", unfollowed := true, recurses := true, apart := false, narrowed := true }
def NobodyIsLostUptoSaid : Prop := nobodyIsLostUptoRow.holds Try.pinned (OpenSpec.upto nobodyIsLostSpec)

/-- 'coilkeep.LoadsAreBest', WHERE WHAT IT READS IS OF BULK AT MOST 1048576: true; the input reads as it did. -/
def loadsAreBestUptoRow : OpenClaim := { program := "ytlpkancpjdihgaa", sum := "22ff4d967efacc131e727c10db25f92d7b0622c47fd5f79d976fbf787eaeca94", func := "coilrack/coilkeep.LoadsAreBest", spec := "loadsAreBest", unfollowed := true, recurses := true, apart := false, narrowed := true }
def LoadsAreBestUptoSaid : Prop := loadsAreBestUptoRow.holds Try.pinned (OpenSpec.upto loadsAreBestSpec)

/-- 'coilkeep.DemandStays', WHERE WHAT IT READS IS OF BULK AT MOST 1048576: true; the input reads as it did. -/
def demandStaysUptoRow : OpenClaim := { program := "ytlpkancpjdihgaa", sum := "22ff4d967efacc131e727c10db25f92d7b0622c47fd5f79d976fbf787eaeca94", func := "coilrack/coilkeep.DemandStays", spec := "demandStays", unfollowed := true, recurses := true, apart := false, narrowed := true }
def DemandStaysUptoSaid : Prop := demandStaysUptoRow.holds Try.pinned (OpenSpec.upto demandStaysSpec)

/-- 'coilkeep.WalletsAreNeverOverdrawn', WHERE WHAT IT READS IS OF BULK AT MOST 1048576: true; the input reads as it did. -/
def walletsAreNeverOverdrawnUptoRow : OpenClaim := { program := "ytlpkancpjdihgaa", sum := "22ff4d967efacc131e727c10db25f92d7b0622c47fd5f79d976fbf787eaeca94", func := "coilrack/coilkeep.WalletsAreNeverOverdrawn", spec := "walletsAreNeverOverdrawn", unfollowed := true, recurses := true, apart := false, narrowed := true }
def WalletsAreNeverOverdrawnUptoSaid : Prop := walletsAreNeverOverdrawnUptoRow.holds Try.pinned (OpenSpec.upto walletsAreNeverOverdrawnSpec)

/-- 'coilkeep.ShelvesStay', WHERE WHAT IT READS IS OF BULK AT MOST 1048576: true; the input reads as it did. -/
def shelvesStayUptoRow : OpenClaim := { program := "ytlpkancpjdihgaa", sum := "22ff4d967efacc131e727c10db25f92d7b0622c47fd5f79d976fbf787eaeca94", func := "coilrack/coilkeep.ShelvesStay", spec := "shelvesStay", unfollowed := true, recurses := true, apart := false, narrowed := true }
def ShelvesStayUptoSaid : Prop := shelvesStayUptoRow.holds Try.pinned (OpenSpec.upto shelvesStaySpec)

/-- 'coilkeep.WeeksAreLevel', WHERE WHAT IT READS IS OF BULK AT MOST 1048576: true; the input reads as it did. -/
def weeksAreLevelUptoRow : OpenClaim := { program := "ytlpkancpjdihgaa", sum := "22ff4d967efacc131e727c10db25f92d7b0622c47fd5f79d976fbf787eaeca94", func := "coilrack/coilkeep.WeeksAreLevel", spec := "weeksAreLevel", unfollowed := true, recurses := true, apart := false, narrowed := true }
def WeeksAreLevelUptoSaid : Prop := weeksAreLevelUptoRow.holds Try.pinned (OpenSpec.upto weeksAreLevelSpec)

end Rows
end Go.Proofs.Ytlpkancpjdihgaa
