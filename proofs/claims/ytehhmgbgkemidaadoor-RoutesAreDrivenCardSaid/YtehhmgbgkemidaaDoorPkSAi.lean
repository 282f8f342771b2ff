/- Routes, as the stream makes them. -/
import Derived.Test.YtehhmgbgkemidaaDoorPkSAh
import Derived.Test.YtehhmgbgkemidaaDoorPkSAd
import Derived.Test.YtehhmgbgkemidaaDoorPkSAc
namespace Go.Proofs.YtehhmgbgkemidaaDoor
open Go.RowKit
variable {lw : Nat}

def routeC (l : List Int) (k n : Nat) : Nat := (nxt l (k + (n - 1)) ((n : Int) + 1)).toNat
def routeM (l : List Int) (k n : Nat) : List Int := if flipM l (k + (n - 1) + 1) 15 then (ordM l k n).take (routeC l k n) ++ [pickM l (k + (n - 1) + 2) [-1, 0, (n : Int)]] else (ordM l k n).take (routeC l k n)
def routeK (l : List Int) (k n : Nat) : Nat := if flipM l (k + (n - 1) + 1) 15 then k + (n - 1) + 3 else k + (n - 1) + 2
theorem routeC_le (l : List Int) (k n : Nat) : routeC l k n ≤ n := by
  have := nxt_range l (k + (n - 1)) ((n : Int) + 1) (by omega)
  unfold routeC; omega
def RoutePost (l : List Int) (k n p lw : Nat) (w : World) (e : Ending) (w' : World) : Prop :=
  ∃ v, e = .returned v ∧ w'.ownsRow w.heap.size 3 1 v (routeM l k n).length (ints (routeM l k n)) ∧ StreamAt w' p lw l (routeK l k n) ∧ w.grownBy w' (some p)

end Go.Proofs.YtehhmgbgkemidaaDoor
