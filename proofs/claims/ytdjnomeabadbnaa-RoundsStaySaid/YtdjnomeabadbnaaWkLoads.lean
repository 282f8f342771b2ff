/- The loads of days of jobs, as the program adds them up; the least and the greatest of a row; squares. -/
import Derived.Test.YtdjnomeabadbnaaWkFault
import Derived.Test.YtdjnomeabadbnaaMakeInts
import Derived.Deep.OwnRows
import Derived.Deep.CutRange
namespace Go.Proofs.Ytdjnomeabadbnaa
open Go.RowKit

def LoadsPost (J Q : List Int) (D n : Nat) (w : World) (e : Ending) (w' : World) : Prop := ∃ g, e = .returned (.slice (some ⟨g, 0, none⟩) D D) ∧ w'.ownsRow w.heap.size 3 1 (.slice (some ⟨g, 0, none⟩) D D) D (ints (ldL J Q D n)) ∧ w.grownBy w' none
end Go.Proofs.Ytdjnomeabadbnaa
