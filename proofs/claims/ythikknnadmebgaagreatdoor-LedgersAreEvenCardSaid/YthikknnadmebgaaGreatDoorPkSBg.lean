/- What is wrong with a reading: the document's answer and the program's. -/
import Derived.Test.YthikknnadmebgaaGreatDoorPkSAd
import Derived.Test.YthikknnadmebgaaGreatDoorPkSAq
namespace Go.Proofs.YthikknnadmebgaaGreatDoor
open Go.RowKit

structure Rd where
  at_ : Int
  vs : List Int
structure RdOk (m : Mtr) (x : Rd) : Prop where
  a0 : 0 ≤ x.at_
  a1 : x.at_ < 5761440
  len : (x.vs.length : Int) = m.cnt
  all : ∀ n ∈ x.vs, 0 ≤ n ∧ n < m.turn
def badV (t n : Int) : Bool := decide (n < 0) || decide (t ≤ n)
end Go.Proofs.YthikknnadmebgaaGreatDoor
