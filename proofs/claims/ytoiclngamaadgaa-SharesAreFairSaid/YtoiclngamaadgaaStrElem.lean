/- Strings and rows of ints as elements. -/
import Derived.Test.YtoiclngamaadgaaMakeInts
namespace Go.Proofs.Ytoiclngamaadgaa
open Go.RowKit

theorem eStr : ElemT Try.prog 91 9 (.string { data := #[] }) 1 16 := ⟨by kernel_rfl, by kernel_rfl, by decide, by decide, by decide⟩
end Go.Proofs.Ytoiclngamaadgaa
