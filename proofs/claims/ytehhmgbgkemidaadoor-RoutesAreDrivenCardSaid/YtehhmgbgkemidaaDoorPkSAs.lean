/- slices.Insert of ints: where the kit's law finds its functions and types in this program. -/
import Derived.Test.YtehhmgbgkemidaaDoorChecked
import Derived.Shelf.Spec.SlicesInsertGrow
namespace Go.Proofs.YtehhmgbgkemidaaDoor

def insRen : Go.Shelf.Ren := ⟨fun | 21 => 42 | 27 => 58 | 28 => 59 | 35 => 67 | 39 => 30 | n => n, fun | 0 => 0 | 3 => 3 | 4 => 4 | 22 => 22 | n => n, fun n => n⟩
theorem insLays : Lays2.n21 Tryd.prog insRen := {
  mixed := by kernel_rfl
  f21 := by kernel_rfl
  f27 := by kernel_rfl
  f28 := by kernel_rfl
  f35 := by kernel_rfl
  f39 := by kernel_rfl
  t0 := by kernel_rfl
  a0 := fun _ => by kernel_rfl
  z0 := fun _ => by kernel_rfl
  v0 := fun _ => by kernel_rfl
  t3 := by kernel_rfl
  a3 := fun _ => by kernel_rfl
  z3 := fun _ => by kernel_rfl
  v3 := fun _ => by kernel_rfl
  t4 := by kernel_rfl
  a4 := fun _ => by kernel_rfl
  z4 := fun _ => by kernel_rfl
  v4 := fun _ => by kernel_rfl
  t22 := by kernel_rfl
  a22 := fun _ => by kernel_rfl
  z22 := fun _ => by kernel_rfl
  v22 := fun _ => by kernel_rfl
  i3 := by kernel_rfl
}
end Go.Proofs.YtehhmgbgkemidaaDoor
