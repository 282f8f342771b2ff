/- Package vend: tubes are checked, and counted. -/
import Derived.Test.YtdjnomeabadbnaaTubes
import Derived.Test.YtdjnomeabadbnaaFault
namespace Go.Proofs.Ytdjnomeabadbnaa
open Go.RowKit

structure OkTube (l : List Tube) (i : Nat) : Prop where
  v0 : 1 ≤ (tubeAt l i).value
  v1 : (tubeAt l i).value ≤ 10000
  up : 0 < i → (tubeAt l (i - 1)).value < (tubeAt l i).value
  m0 : 0 ≤ (tubeAt l i).most
  m1 : (tubeAt l i).most ≤ 1000
  c0 : 0 ≤ (tubeAt l i).count
  c1 : (tubeAt l i).count ≤ (tubeAt l i).most
structure OkTubes (l : List Tube) : Prop where
  len : l.length ≤ 10
  ok : ∀ i, i < l.length → OkTube l i
theorem not_tubes {l : List Tube} {k : Nat} (hk : k < l.length) (h : ¬ OkTube l k) : ¬ OkTubes l := fun o => h (o.ok k hk)

end Go.Proofs.Ytdjnomeabadbnaa
