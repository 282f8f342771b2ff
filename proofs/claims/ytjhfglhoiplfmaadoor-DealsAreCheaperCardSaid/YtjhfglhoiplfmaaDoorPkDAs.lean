/- slices.SortFunc of ints of many: where the kit's law finds its functions and types in this program. Written by gen_intlays.py. -/
import Derived.Test.YtjhfglhoiplfmaaDoorChecked
import Derived.Shelf.SlSortCmp.Whole1
namespace Go.Proofs.YtjhfglhoiplfmaaDoor

def intRen : Go.Shelf.Ren := ⟨fun | 6 => 59 | 14 => 106 | 15 => 107 | 20 => 136 | 21 => 137 | 22 => 138 | 23 => 139 | 24 => 140 | 25 => 141 | 26 => 142 | 27 => 143 | 28 => 144 | 29 => 145 | 46 => 174 | 47 => 175 | 48 => 176 | 49 => 177 | 50 => 178 | 57 => 201 | n => n, fun | 0 => 0 | 3 => 3 | 4 => 4 | 5 => 5 | 9 => 9 | 22 => 22 | 24 => 3 | 25 => 98 | 39 => 157 | 45 => 191 | 46 => 192 | 50 => 146 | 53 => 184 | 55 => 187 | 66 => 212 | 70 => 216 | 76 => 239 | 77 => 240 | n => n, fun n => n⟩
theorem intLays : SlLaysF.n6 Tryd.prog intRen := {
  mixed := by kernel_rfl
  f6 := ⟨(Tryd.f59).name, by kernel_rfl, Tryd.func59.trans (by kernel_rfl)⟩
  f14 := ⟨(Tryd.f106).name, by kernel_rfl, Tryd.func106.trans (by kernel_rfl)⟩
  f15 := by kernel_rfl
  f20 := ⟨(Tryd.f136).name, by kernel_rfl, Tryd.func136.trans (by kernel_rfl)⟩
  f21 := ⟨(Tryd.f137).name, by kernel_rfl, Tryd.func137.trans (by kernel_rfl)⟩
  f22 := ⟨(Tryd.f138).name, by kernel_rfl, Tryd.func138.trans (by kernel_rfl)⟩
  f23 := ⟨(Tryd.f139).name, by kernel_rfl, Tryd.func139.trans (by kernel_rfl)⟩
  f24 := ⟨(Tryd.f140).name, by kernel_rfl, Tryd.func140.trans (by kernel_rfl)⟩
  f25 := ⟨(Tryd.f141).name, by kernel_rfl, Tryd.func141.trans (by kernel_rfl)⟩
  f26 := ⟨(Tryd.f142).name, by kernel_rfl, Tryd.func142.trans (by kernel_rfl)⟩
  f27 := ⟨(Tryd.f143).name, by kernel_rfl, Tryd.func143.trans (by kernel_rfl)⟩
  f28 := by kernel_rfl
  f29 := by kernel_rfl
  f46 := ⟨(Tryd.f174).name, by kernel_rfl, Tryd.func174.trans (by kernel_rfl)⟩
  f47 := by kernel_rfl
  f48 := by kernel_rfl
  f49 := ⟨(Tryd.f177).name, by kernel_rfl, Tryd.func177.trans (by kernel_rfl)⟩
  f50 := ⟨(Tryd.f178).name, by kernel_rfl, Tryd.func178.trans (by kernel_rfl)⟩
  f57 := ⟨(Tryd.f201).name, by kernel_rfl, Tryd.func201.trans (by kernel_rfl)⟩
  t0 := by kernel_rfl
  a0 := fun _ => by kernel_rfl
  z0 := fun _ => by kernel_rfl
  v0 := fun _ => by kernel_rfl
  t3 := by kernel_rfl
  a3 := fun _ => by kernel_rfl
  z3 := fun _ => by kernel_rfl
  v3 := fun _ => by kernel_rfl
  t4 := by kernel_rfl
  a4 := fun _ => by kernel_rfl
  z4 := fun _ => by kernel_rfl
  v4 := fun _ => by kernel_rfl
  t5 := by kernel_rfl
  a5 := fun _ => by kernel_rfl
  z5 := fun _ => by kernel_rfl
  v5 := fun _ => by kernel_rfl
  t9 := by kernel_rfl
  a9 := fun _ => by kernel_rfl
  z9 := fun _ => by kernel_rfl
  v9 := fun _ => by kernel_rfl
  t22 := by kernel_rfl
  a22 := fun _ => by kernel_rfl
  z22 := fun _ => by kernel_rfl
  v22 := fun _ => by kernel_rfl
  a24 := fun _ => by kernel_rfl
  z24 := fun _ => by kernel_rfl
  t25 := by kernel_rfl
  a25 := fun _ => by kernel_rfl
  z25 := fun _ => by kernel_rfl
  v25 := fun _ => by kernel_rfl
  t39 := by kernel_rfl
  a39 := fun _ => by kernel_rfl
  z39 := fun _ => by kernel_rfl
  v39 := fun _ => by kernel_rfl
  t45 := by kernel_rfl
  a45 := fun _ => by kernel_rfl
  z45 := fun _ => by kernel_rfl
  v45 := fun _ => by kernel_rfl
  t46 := by kernel_rfl
  a46 := fun _ => by kernel_rfl
  z46 := fun _ => by kernel_rfl
  v46 := fun _ => by kernel_rfl
  t50 := by kernel_rfl
  a50 := fun _ => by kernel_rfl
  z50 := fun _ => by kernel_rfl
  v50 := fun _ => by kernel_rfl
  t53 := by kernel_rfl
  a53 := fun _ => by kernel_rfl
  z53 := fun _ => by kernel_rfl
  v53 := fun _ => by kernel_rfl
  t55 := by kernel_rfl
  a55 := fun _ => by kernel_rfl
  z55 := fun _ => by kernel_rfl
  v55 := fun _ => by kernel_rfl
  t66 := by kernel_rfl
  a66 := fun _ => by kernel_rfl
  z66 := fun _ => by kernel_rfl
  v66 := fun _ => by kernel_rfl
  t70 := by kernel_rfl
  a70 := fun _ => by kernel_rfl
  z70 := fun _ => by kernel_rfl
  v70 := fun _ => by kernel_rfl
  t76 := by kernel_rfl
  a76 := fun _ => by kernel_rfl
  z76 := fun _ => by kernel_rfl
  v76 := fun _ => by kernel_rfl
  t77 := by kernel_rfl
  a77 := fun _ => by kernel_rfl
  z77 := fun _ => by kernel_rfl
  v77 := fun _ => by kernel_rfl
}
end Go.Proofs.YtjhfglhoiplfmaaDoor
