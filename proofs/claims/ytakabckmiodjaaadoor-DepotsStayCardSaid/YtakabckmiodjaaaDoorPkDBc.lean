/- Package slices at elements coilrack/api.Piece: stable sorting of few. Written by mksort2.py. -/
import Derived.Test.YtakabckmiodjaaaDoorPkDBa
import Derived.Test.YtakabckmiodjaaaDoorPkDAb
import Derived.Test.YtakabckmiodjaaaDoorPkDBb
import Derived.Test.YtakabckmiodjaaaDoorPkDAj
namespace Go.Proofs.YtakabckmiodjaaaDoor
open Go.RowKit

theorem own_of_heap2 {w w1 : World} {base e size n : Nat} {v : Value} {xs : List Value} (h : w.ownsRow base e size v n xs) (e1 : w1.heap = w.heap) : w1.ownsRow base e size v n xs := by
  rcases h.2 with h2 | ⟨g, cap, cur, hv, hb, hg, r⟩
  · exact ⟨h.1, .inl h2⟩
  · exact ⟨h.1, .inr ⟨g, cap, cur, hv, hb, by rw [e1]; exact hg, r⟩⟩
/-- A comparison of elements of a list, in worlds that differ from w at one block at most. -/
def CmpPc (F : FuncId) (q : Nat) (cm : Piece → Piece → Int) (L : List Piece) (r : Option Nat) (w : World) : Prop :=
  ∀ (x y : Piece) (w1 : World), x ∈ L → y ∈ L → w.grownBy w1 r → Calls Tryd.prog F #[.agg #[.string (x.lot), .int .i64 (x.many)], .agg #[.string (y.lot), .int .i64 (y.many)], .pointer (some ⟨q, 0, none⟩)] w1 fun e w2 => e = .returned (.int .i64 (cm x y)) ∧ w1.grownBy w2 none
end Go.Proofs.YtakabckmiodjaaaDoor
