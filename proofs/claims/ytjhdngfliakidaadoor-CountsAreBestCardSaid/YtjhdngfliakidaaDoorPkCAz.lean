/- slices.SortFunc of ints of many: where the kit's law finds its functions and types in this program. Written by gen_intlays.py. -/
import Derived.Test.YtjhdngfliakidaaDoorChecked
import Derived.Shelf.SlSortCmp.Whole1
namespace Go.Proofs.YtjhdngfliakidaaDoor

def intRen : Go.Shelf.Ren := ⟨fun | 6 => 45 | 14 => 83 | 15 => 84 | 20 => 113 | 21 => 114 | 22 => 115 | 23 => 116 | 24 => 117 | 25 => 118 | 26 => 119 | 27 => 120 | 28 => 121 | 29 => 122 | 46 => 149 | 47 => 150 | 48 => 151 | 49 => 152 | 50 => 153 | 57 => 173 | n => n, fun | 0 => 0 | 3 => 3 | 4 => 4 | 5 => 5 | 9 => 9 | 22 => 22 | 24 => 3 | 25 => 99 | 39 => 130 | 45 => 156 | 46 => 157 | 50 => 122 | 53 => 163 | 55 => 165 | 66 => 183 | 70 => 187 | 76 => 205 | 77 => 206 | n => n, fun n => n⟩
theorem intLays : SlLaysF.n6 Tryd.prog intRen := {
  mixed := by kernel_rfl
  f6 := ⟨(Tryd.f45).name, by kernel_rfl, Tryd.func45.trans (by kernel_rfl)⟩
  f14 := ⟨(Tryd.f83).name, by kernel_rfl, Tryd.func83.trans (by kernel_rfl)⟩
  f15 := by kernel_rfl
  f20 := ⟨(Tryd.f113).name, by kernel_rfl, Tryd.func113.trans (by kernel_rfl)⟩
  f21 := ⟨(Tryd.f114).name, by kernel_rfl, Tryd.func114.trans (by kernel_rfl)⟩
  f22 := ⟨(Tryd.f115).name, by kernel_rfl, Tryd.func115.trans (by kernel_rfl)⟩
  f23 := ⟨(Tryd.f116).name, by kernel_rfl, Tryd.func116.trans (by kernel_rfl)⟩
  f24 := ⟨(Tryd.f117).name, by kernel_rfl, Tryd.func117.trans (by kernel_rfl)⟩
  f25 := ⟨(Tryd.f118).name, by kernel_rfl, Tryd.func118.trans (by kernel_rfl)⟩
  f26 := ⟨(Tryd.f119).name, by kernel_rfl, Tryd.func119.trans (by kernel_rfl)⟩
  f27 := ⟨(Tryd.f120).name, by kernel_rfl, Tryd.func120.trans (by kernel_rfl)⟩
  f28 := by kernel_rfl
  f29 := by kernel_rfl
  f46 := ⟨(Tryd.f149).name, by kernel_rfl, Tryd.func149.trans (by kernel_rfl)⟩
  f47 := by kernel_rfl
  f48 := by kernel_rfl
  f49 := ⟨(Tryd.f152).name, by kernel_rfl, Tryd.func152.trans (by kernel_rfl)⟩
  f50 := ⟨(Tryd.f153).name, by kernel_rfl, Tryd.func153.trans (by kernel_rfl)⟩
  f57 := ⟨(Tryd.f173).name, by kernel_rfl, Tryd.func173.trans (by kernel_rfl)⟩
  t0 := by kernel_rfl
  a0 := fun _ => by kernel_rfl
  z0 := fun _ => by kernel_rfl
  v0 := fun _ => by kernel_rfl
  t3 := by kernel_rfl
  a3 := fun _ => by kernel_rfl
  z3 := fun _ => by kernel_rfl
  v3 := fun _ => by kernel_rfl
  t4 := by kernel_rfl
  a4 := fun _ => by kernel_rfl
  z4 := fun _ => by kernel_rfl
  v4 := fun _ => by kernel_rfl
  t5 := by kernel_rfl
  a5 := fun _ => by kernel_rfl
  z5 := fun _ => by kernel_rfl
  v5 := fun _ => by kernel_rfl
  t9 := by kernel_rfl
  a9 := fun _ => by kernel_rfl
  z9 := fun _ => by kernel_rfl
  v9 := fun _ => by kernel_rfl
  t22 := by kernel_rfl
  a22 := fun _ => by kernel_rfl
  z22 := fun _ => by kernel_rfl
  v22 := fun _ => by kernel_rfl
  a24 := fun _ => by kernel_rfl
  z24 := fun _ => by kernel_rfl
  t25 := by kernel_rfl
  a25 := fun _ => by kernel_rfl
  z25 := fun _ => by kernel_rfl
  v25 := fun _ => by kernel_rfl
  t39 := by kernel_rfl
  a39 := fun _ => by kernel_rfl
  z39 := fun _ => by kernel_rfl
  v39 := fun _ => by kernel_rfl
  t45 := by kernel_rfl
  a45 := fun _ => by kernel_rfl
  z45 := fun _ => by kernel_rfl
  v45 := fun _ => by kernel_rfl
  t46 := by kernel_rfl
  a46 := fun _ => by kernel_rfl
  z46 := fun _ => by kernel_rfl
  v46 := fun _ => by kernel_rfl
  t50 := by kernel_rfl
  a50 := fun _ => by kernel_rfl
  z50 := fun _ => by kernel_rfl
  v50 := fun _ => by kernel_rfl
  t53 := by kernel_rfl
  a53 := fun _ => by kernel_rfl
  z53 := fun _ => by kernel_rfl
  v53 := fun _ => by kernel_rfl
  t55 := by kernel_rfl
  a55 := fun _ => by kernel_rfl
  z55 := fun _ => by kernel_rfl
  v55 := fun _ => by kernel_rfl
  t66 := by kernel_rfl
  a66 := fun _ => by kernel_rfl
  z66 := fun _ => by kernel_rfl
  v66 := fun _ => by kernel_rfl
  t70 := by kernel_rfl
  a70 := fun _ => by kernel_rfl
  z70 := fun _ => by kernel_rfl
  v70 := fun _ => by kernel_rfl
  t76 := by kernel_rfl
  a76 := fun _ => by kernel_rfl
  z76 := fun _ => by kernel_rfl
  v76 := fun _ => by kernel_rfl
  t77 := by kernel_rfl
  a77 := fun _ => by kernel_rfl
  z77 := fun _ => by kernel_rfl
  v77 := fun _ => by kernel_rfl
}
end Go.Proofs.YtjhdngfliakidaaDoor
