/- A region that draws its order, whose operations and calls leave all memory as it is but for new blocks, which are known to be new blocks and nothing else. Of no program. -/
import Derived.Test.YtehhmgbgkemidaaGreatDoorPkSAe
import Derived.Test.YtehhmgbgkemidaaGreatDoorPkSAq
import Derived.Sort.Grow
namespace Go.Proofs.YtehhmgbgkemidaaGreatDoor
open Go.RowKit Go.Sort

def Exa (_ : World) : Type := Nat × Array Obj
def Exa.w {w0 : World} (n : Exa w0) : World := grow (w0.drewN n.1) n.2
instance Exa.some (w0 : World) : Nonempty (Exa w0) := ⟨(0, #[])⟩
theorem Exa.gr {w0 : World} (n : Exa w0) : w0.grownBy n.w none := by
  refine ⟨rfl, rfl, rfl, ?_, fun b hb _ => ?_⟩
  · show w0.heap.size ≤ (w0.heap ++ n.2).size
    simp
  · show (w0.heap ++ n.2)[b]? = _
    rw [Array.getElem?_append_left hb]
theorem exa_cell {w0 : World} {b o : Nat} {v : Value} (h : w0.cell? ⟨b, o, none⟩ = some v) : ∀ n : Exa w0, n.w.cell? ⟨b, o, none⟩ = some v := fun n => (gr_cell n.gr (lt_of_cell h)).trans h
theorem exa_drew (w0 : World) : w0.drew = Exa.w (w0 := w0) (1, #[]) := by
  unfold Exa.w World.drewN World.drew grow
  simp
theorem wp_region_exa_tail {P : Program} {id : Nat} {Q : Exit → Act → World → Prop} {a : Act} {w : World} {l : List Oper} (n : Nat) (hm : P.follows .mixedOrders = true) (hB : Region.lexTailB .any l.toArray n = true)
    (h : wpQuiet P l.toArray (fun w' => ∃ m : Exa w, w' = m.w) (fun a' => ∀ w', (∃ m : Exa w, w' = m.w) → wpList P l.toArray Q (l.drop n) a' w') (l.take n) a) : (Code.region id l.toArray true).wp P Q a w :=
  wp_region_quiet_tail (C := fun w' => ∃ m : Exa w, w' = m.w) n hm hB ⟨(1, #[]), exa_drew w⟩ h
theorem Calls.exa_of {P : Program} {f : FuncId} {args : Array Value} {w0 : World} {n : Exa w0} {v : Value} (h : ∀ W, Calls P f args W fun e w' => e = .returned v ∧ W = w') :
    Calls P f args n.w fun e w'' => e = .returned v ∧ ∃ m : Exa w0, w'' = m.w :=
  (h n.w).mono fun _ _ hh => ⟨hh.1, ⟨n, hh.2.symm⟩⟩
/-- The worlds add up. -/
theorem exa_alloc (w : World) (n : Nat) (os : Array Obj) (o : Obj) : (grow (w.drewN n) os).alloc o = grow (w.drewN n) (os ++ #[o]) := by rw [alloc_eq_grow, grow_grow]
theorem exa_from2 (w : World) (a b : Obj) (n : Nat) (os : Array Obj) : grow (((w.alloc a).alloc b).drewN n) os = grow (w.drewN n) (#[a, b] ++ os) := by
  rw [alloc_eq_grow, alloc_eq_grow, grow_grow]
  unfold grow World.drewN
  simp
end Go.Proofs.YtehhmgbgkemidaaGreatDoor
