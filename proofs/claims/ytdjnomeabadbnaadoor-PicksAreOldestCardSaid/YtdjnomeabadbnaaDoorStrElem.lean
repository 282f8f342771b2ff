/- Strings and rows of ints as elements. -/
import Derived.Test.YtdjnomeabadbnaaDoorMakeInts
namespace Go.Proofs.YtdjnomeabadbnaaDoor
open Go.RowKit

theorem eStr : ElemT Tryd.prog 59 9 (.string { data := #[] }) 1 16 := ⟨by kernel_rfl, by kernel_rfl, by decide, by decide, by decide⟩
end Go.Proofs.YtdjnomeabadbnaaDoor
