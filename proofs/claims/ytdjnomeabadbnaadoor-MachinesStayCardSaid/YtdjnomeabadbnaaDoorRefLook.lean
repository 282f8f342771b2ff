/- Looking up in an empty map. -/
import Derived.Test.YtdjnomeabadbnaaDoorRefNew
import Derived.MapKept
namespace Go.Proofs.YtdjnomeabadbnaaDoor
open Go.RowKit

theorem zero_ints (w : World) : (zeroValue 22).run Tryd.prog w = .ok (.slice none 0 0) w := by kernel_rfl
theorem und_map : Tryd.prog.underlying 146 = some (.map 9 22) := by kernel_rfl
theorem und_str : Tryd.prog.underlying 9 = some .string := by kernel_rfl
theorem lookup_empty (w : World) (b : Nat) (s : ByteArray) (hb : w.heap[b]? = some (.map #[] 0)) :
    (Instr.lookup 146 (.map (some b)) (.string s) false).run Tryd.prog w = .ok (.slice none 0 0) w := by
  have h1 := fun w => run_underlying und_map w
  have h3 := zero_ints w
  have h4 := MapKept.run_getObj_map (P := Tryd.prog) hb
  have h5 := MapKept.run_checkKey (P := Tryd.prog) (w := w) (k := .string s) und_str (by trivial) true 9999
  have h6 := MapKept.run_findKey (P := Tryd.prog) (w := w) (k := .string s) (l := []) (a := none) und_str rfl
  unfold Instr.lookup
  simp [Sem.run_bind, h1, h3, h4, h5, h6]
end Go.Proofs.YtdjnomeabadbnaaDoor
