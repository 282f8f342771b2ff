/- slices.Insert of one element at []coilrack/api.Reading, at any place. Written by mkinsert.py. -/
import Derived.Test.YtjhfglhoiplfmaaPkSAi
import Derived.Test.YtjhfglhoiplfmaaPkSAz
import Derived.Shelf.Spec.SlicesInsertGrow
import Derived.Lib.AppendZerosOnto
namespace Go.Proofs.Ytjhfglhoiplfmaa
open Go.RowKit

def InsRdPost (base n i : Nat) (xs news : List Value) (v : Value) (w : World) (e : Ending) (w' : World) : Prop :=
  ∃ v', e = .returned v' ∧ w'.ownsRow base 56 2 v' (n + 1) (xs.take (i * 2) ++ news ++ xs.drop (i * 2)) ∧ w.grownBy w' v.ownBlock ∧ (∀ q, v'.ownBlock = some q → v.ownBlock = some q ∨ w.heap.size ≤ q)
end Go.Proofs.Ytjhfglhoiplfmaa
