/- Package slices at elements coilrack/api.Offer: with a function value. Written by mkfind.py. -/
import Derived.Test.YtdjnomeabadbnaaDoorOffView
import Derived.Test.YtdjnomeabadbnaaDoorKitB
namespace Go.Proofs.YtdjnomeabadbnaaDoor
open Go.RowKit

end Go.Proofs.YtdjnomeabadbnaaDoor
