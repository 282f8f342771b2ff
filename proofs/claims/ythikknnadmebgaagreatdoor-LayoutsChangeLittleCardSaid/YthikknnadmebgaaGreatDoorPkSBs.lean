/- What the library's variables hold when a law begins, and that it stays: its tables, and the world's shape. -/
import Derived.Test.YthikknnadmebgaaGreatDoorPkSBp
import Derived.Test.YthikknnadmebgaaGreatDoorPkSAa
import Derived.ShapedOpen
import Derived.ChangeAgain
namespace Go.Proofs.YthikknnadmebgaaGreatDoor
open Go.RowKit

structure EnvW (w : World) : Prop where
  shp : w.ShapedOpen Tryz.prog
  tabs : Lib.Utf8Tabs (lays196_ren.g 3) (lays196_ren.g 4) w
theorem kept_of_grown {w w1 : World} (g : w.grownBy w1 none) : w.keptBut w1 (fun _ => False) := by
  refine ⟨g.os, g.output, fun i hi => ?_⟩
  rw [g.block i hi (by simp)]
  cases h : w.heap[i]? with
  | none => rfl
  | some o => cases o <;> simp
theorem EnvW.keep {w w1 : World} (h : EnvW w) (g : w.grownBy w1 none) : EnvW w1 := by
  refine ⟨h.shp.keptBut (kept_of_grown g) (fun p hp => hp.elim), ?_, ?_⟩
  · intro c hc
    have h1 := h.tabs.1 c hc
    exact (gr_cell g (lt_of_cell h1)).trans h1
  · intro i hi
    obtain ⟨h1, h2⟩ := h.tabs.2 i hi
    exact ⟨(gr_cell g (lt_of_cell h1)).trans h1, (gr_cell g (lt_of_cell h2)).trans h2⟩
theorem below_grown {w w1 : World} (h : Below w.heap.size w w1) : w.grownBy w1 none :=
  ⟨h.os, h.tape, h.output, h.size, fun k hk _ => h.block k hk⟩
end Go.Proofs.YthikknnadmebgaaGreatDoor
