/- slices.SortFunc of days of many: where the kit's law finds its functions and types in this program. Written by gen_dclays.py. -/
import Derived.Test.YtjhfglhoiplfmaaChecked
import Derived.Shelf.SlSortCmp.WholeK
namespace Go.Proofs.Ytjhfglhoiplfmaa

def dcRen : Go.Shelf.Ren := ⟨fun | 6 => 36 | 14 => 48 | 15 => 44 | 20 => 65 | 21 => 66 | 22 => 67 | 23 => 68 | 24 => 69 | 25 => 70 | 26 => 71 | 27 => 72 | 28 => 58 | 29 => 59 | 46 => 83 | 47 => 76 | 48 => 77 | 49 => 84 | 50 => 85 | 57 => 89 | n => n, fun | 0 => 0 | 3 => 3 | 4 => 4 | 5 => 5 | 9 => 9 | 22 => 42 | 24 => 46 | 25 => 73 | 39 => 78 | 45 => 83 | 46 => 84 | 50 => 88 | 53 => 91 | 55 => 93 | 66 => 102 | 70 => 106 | 76 => 111 | 77 => 112 | n => n, fun n => n⟩
theorem dcLays : SlLaysF0.n6 Try.prog dcRen := {
  mixed := by kernel_rfl
  f6 := ⟨(Try.f36).name, by kernel_rfl, Try.func36.trans (by kernel_rfl)⟩
  f14 := ⟨(Try.f48).name, by kernel_rfl, Try.func48.trans (by kernel_rfl)⟩
  f15 := by kernel_rfl
  f20 := ⟨(Try.f65).name, by kernel_rfl, Try.func65.trans (by kernel_rfl)⟩
  f21 := ⟨(Try.f66).name, by kernel_rfl, Try.func66.trans (by kernel_rfl)⟩
  f22 := ⟨(Try.f67).name, by kernel_rfl, Try.func67.trans (by kernel_rfl)⟩
  f23 := ⟨(Try.f68).name, by kernel_rfl, Try.func68.trans (by kernel_rfl)⟩
  f24 := ⟨(Try.f69).name, by kernel_rfl, Try.func69.trans (by kernel_rfl)⟩
  f25 := ⟨(Try.f70).name, by kernel_rfl, Try.func70.trans (by kernel_rfl)⟩
  f26 := ⟨(Try.f71).name, by kernel_rfl, Try.func71.trans (by kernel_rfl)⟩
  f27 := ⟨(Try.f72).name, by kernel_rfl, Try.func72.trans (by kernel_rfl)⟩
  f28 := by kernel_rfl
  f29 := by kernel_rfl
  f46 := ⟨(Try.f83).name, by kernel_rfl, Try.func83.trans (by kernel_rfl)⟩
  f47 := by kernel_rfl
  f48 := by kernel_rfl
  f49 := ⟨(Try.f84).name, by kernel_rfl, Try.func84.trans (by kernel_rfl)⟩
  f50 := ⟨(Try.f85).name, by kernel_rfl, Try.func85.trans (by kernel_rfl)⟩
  f57 := ⟨(Try.f89).name, by kernel_rfl, Try.func89.trans (by kernel_rfl)⟩
  t0 := by kernel_rfl
  a0 := fun _ => by kernel_rfl
  z0 := fun _ => by kernel_rfl
  v0 := fun _ => by kernel_rfl
  t3 := by kernel_rfl
  a3 := fun _ => by kernel_rfl
  z3 := fun _ => by kernel_rfl
  v3 := fun _ => by kernel_rfl
  t4 := by kernel_rfl
  a4 := fun _ => by kernel_rfl
  z4 := fun _ => by kernel_rfl
  v4 := fun _ => by kernel_rfl
  t5 := by kernel_rfl
  a5 := fun _ => by kernel_rfl
  z5 := fun _ => by kernel_rfl
  v5 := fun _ => by kernel_rfl
  t9 := by kernel_rfl
  a9 := fun _ => by kernel_rfl
  z9 := fun _ => by kernel_rfl
  v9 := fun _ => by kernel_rfl
  t22 := by kernel_rfl
  a22 := fun _ => by kernel_rfl
  z22 := fun _ => by kernel_rfl
  v22 := fun _ => by kernel_rfl
  t25 := by kernel_rfl
  a25 := fun _ => by kernel_rfl
  z25 := fun _ => by kernel_rfl
  v25 := fun _ => by kernel_rfl
  t39 := by kernel_rfl
  a39 := fun _ => by kernel_rfl
  z39 := fun _ => by kernel_rfl
  v39 := fun _ => by kernel_rfl
  t45 := by kernel_rfl
  a45 := fun _ => by kernel_rfl
  z45 := fun _ => by kernel_rfl
  v45 := fun _ => by kernel_rfl
  t46 := by kernel_rfl
  a46 := fun _ => by kernel_rfl
  z46 := fun _ => by kernel_rfl
  v46 := fun _ => by kernel_rfl
  t50 := by kernel_rfl
  a50 := fun _ => by kernel_rfl
  z50 := fun _ => by kernel_rfl
  v50 := fun _ => by kernel_rfl
  t53 := by kernel_rfl
  a53 := fun _ => by kernel_rfl
  z53 := fun _ => by kernel_rfl
  v53 := fun _ => by kernel_rfl
  t55 := by kernel_rfl
  a55 := fun _ => by kernel_rfl
  z55 := fun _ => by kernel_rfl
  v55 := fun _ => by kernel_rfl
  t66 := by kernel_rfl
  a66 := fun _ => by kernel_rfl
  z66 := fun _ => by kernel_rfl
  v66 := fun _ => by kernel_rfl
  t70 := by kernel_rfl
  a70 := fun _ => by kernel_rfl
  z70 := fun _ => by kernel_rfl
  v70 := fun _ => by kernel_rfl
  t76 := by kernel_rfl
  a76 := fun _ => by kernel_rfl
  z76 := fun _ => by kernel_rfl
  v76 := fun _ => by kernel_rfl
  t77 := by kernel_rfl
  a77 := fun _ => by kernel_rfl
  z77 := fun _ => by kernel_rfl
  v77 := fun _ => by kernel_rfl
}
end Go.Proofs.Ytjhfglhoiplfmaa
