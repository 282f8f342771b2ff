/- A region that draws its order, whose own operations only read and whose calls may make memory: one walk in the text's order. Of no program. -/
import Derived.Test.YtjhfglhoiplfmaaPkSAa
import Derived.Deep.QuietTactic
import Derived.BigQuiet
namespace Go.Proofs.Ytjhfglhoiplfmaa
open Go.RowKit

/-- The worlds that have grown out of one. -/
def Grew (w0 : World) : Type := { w : World // w0.grownBy w none }
def Grew.w {w0 : World} (n : Grew w0) : World := n.1
theorem Grew.gr {w0 : World} (n : Grew w0) : w0.grownBy n.w none := n.2
instance Grew.some (w0 : World) : Nonempty (Grew w0) := ⟨⟨w0, gr_refl w0 none⟩⟩
theorem grew_cell {w0 : World} {b o : Nat} {v : Value} (h : w0.cell? ⟨b, o, none⟩ = some v) : ∀ n : Grew w0, n.w.cell? ⟨b, o, none⟩ = some v := fun n => (gr_cell n.gr (lt_of_cell h)).trans h
theorem wp_region_grew {P : Program} {id : Nat} {Q : Exit → Act → World → Prop} {a : Act} {w : World} {l : List Oper} (hm : P.follows .mixedOrders = true) (hB : Region.lexB .any l.toArray = true)
    (h : wpQuiet P l.toArray (fun w' => ∃ n : Grew w, w' = n.w) (fun a' => ∀ w', (∃ n : Grew w, w' = n.w) → Q .normal a' w') l a) : (Code.region id l.toArray true).wp P Q a w :=
  wp_region_quiet (C := fun w' => ∃ n : Grew w, w' = n.w) hm hB ⟨⟨w.drew, gr_drew (gr_refl w none)⟩, rfl⟩ (by simpa using h)
theorem Calls.grew_of {P : Program} {f : FuncId} {args : Array Value} {w0 : World} {n : Grew w0} {v : Value} (h : ∀ W, w0.grownBy W none → Calls P f args W fun e w' => e = .returned v ∧ W.grownBy w' none) :
    Calls P f args n.w fun e w'' => e = .returned v ∧ ∃ m : Grew w0, w'' = m.w :=
  (h n.w n.gr).mono fun _ w' hh => ⟨hh.1, ⟨⟨w', gr_trans n.gr hh.2⟩, rfl⟩⟩
end Go.Proofs.Ytjhfglhoiplfmaa
