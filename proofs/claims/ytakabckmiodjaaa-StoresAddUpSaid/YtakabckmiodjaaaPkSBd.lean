/- slices.Equal at []coilrack/api.Lot, of the same contents. Written by mkequal.py. -/
import Derived.Test.YtakabckmiodjaaaPkSAe
import Derived.WalkLawsBesides
namespace Go.Proofs.Ytakabckmiodjaaa
open Go.RowKit

/-! slices.Equal at []coilrack/api.Piece, of the same contents. Written by mkequal.py. -/

end Go.Proofs.Ytakabckmiodjaaa
