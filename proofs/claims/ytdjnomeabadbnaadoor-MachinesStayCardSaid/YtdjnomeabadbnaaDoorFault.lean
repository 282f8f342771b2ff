/- What a function says that looks for a fault. -/
import Derived.Test.YtdjnomeabadbnaaDoorKit
namespace Go.Proofs.YtdjnomeabadbnaaDoor
open Go.RowKit

/-- What a function says that looks for a fault: 0 just if all is right. -/
def FaultPost (ok : Prop) (w : World) (e : Ending) (w' : World) : Prop := ∃ r : Int, e = .returned (.int .i64 r) ∧ (r = 0 ↔ ok) ∧ w.grownBy w' none
theorem fault_bad {ok : Prop} {w w' : World} (r : Int) (hr : r ≠ 0) (h : ¬ ok) (g : w.grownBy w' none) : FaultPost ok w (.returned (.int .i64 r)) w' := ⟨r, rfl, ⟨fun e => absurd e hr, fun o => absurd o h⟩, g⟩
theorem fault_good {ok : Prop} {w w' : World} (h : ok) (g : w.grownBy w' none) : FaultPost ok w (.returned (.int .i64 0)) w' := ⟨0, rfl, ⟨fun _ => h, fun _ => rfl⟩, g⟩

end Go.Proofs.YtdjnomeabadbnaaDoor
