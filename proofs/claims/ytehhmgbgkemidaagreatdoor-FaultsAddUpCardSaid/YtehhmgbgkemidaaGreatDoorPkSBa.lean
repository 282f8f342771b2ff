/- slices.SortFunc of many structs: where the kit's law finds its functions and types in this program. Written by mklays.py. -/
import Derived.Test.YtehhmgbgkemidaaGreatDoorChecked
import Derived.Shelf.SlSortCmp.WholeK
namespace Go.Proofs.YtehhmgbgkemidaaGreatDoor

def fdRen : Go.Shelf.Ren := ⟨fun | 6 => 69 | 14 => 123 | 15 => 124 | 20 => 161 | 21 => 162 | 22 => 163 | 23 => 164 | 24 => 165 | 25 => 166 | 26 => 167 | 27 => 168 | 28 => 169 | 29 => 170 | 46 => 212 | 47 => 213 | 48 => 214 | 49 => 215 | 50 => 216 | 57 => 243 | n => n, fun | 0 => 0 | 3 => 3 | 4 => 4 | 5 => 5 | 9 => 9 | 22 => 40 | 24 => 44 | 25 => 113 | 39 => 184 | 45 => 208 | 46 => 209 | 50 => 192 | 53 => 215 | 55 => 217 | 66 => 244 | 70 => 248 | 76 => 272 | 77 => 273 | n => n, fun n => n⟩
theorem fdLays : SlLaysF0.n6 Tryz.prog fdRen := {
  mixed := by kernel_rfl
  f6 := ⟨(Tryz.f69).name, by kernel_rfl, Tryz.func69.trans (by kernel_rfl)⟩
  f14 := ⟨(Tryz.f123).name, by kernel_rfl, Tryz.func123.trans (by kernel_rfl)⟩
  f15 := by kernel_rfl
  f20 := ⟨(Tryz.f161).name, by kernel_rfl, Tryz.func161.trans (by kernel_rfl)⟩
  f21 := ⟨(Tryz.f162).name, by kernel_rfl, Tryz.func162.trans (by kernel_rfl)⟩
  f22 := ⟨(Tryz.f163).name, by kernel_rfl, Tryz.func163.trans (by kernel_rfl)⟩
  f23 := ⟨(Tryz.f164).name, by kernel_rfl, Tryz.func164.trans (by kernel_rfl)⟩
  f24 := ⟨(Tryz.f165).name, by kernel_rfl, Tryz.func165.trans (by kernel_rfl)⟩
  f25 := ⟨(Tryz.f166).name, by kernel_rfl, Tryz.func166.trans (by kernel_rfl)⟩
  f26 := ⟨(Tryz.f167).name, by kernel_rfl, Tryz.func167.trans (by kernel_rfl)⟩
  f27 := ⟨(Tryz.f168).name, by kernel_rfl, Tryz.func168.trans (by kernel_rfl)⟩
  f28 := by kernel_rfl
  f29 := by kernel_rfl
  f46 := ⟨(Tryz.f212).name, by kernel_rfl, Tryz.func212.trans (by kernel_rfl)⟩
  f47 := by kernel_rfl
  f48 := by kernel_rfl
  f49 := ⟨(Tryz.f215).name, by kernel_rfl, Tryz.func215.trans (by kernel_rfl)⟩
  f50 := ⟨(Tryz.f216).name, by kernel_rfl, Tryz.func216.trans (by kernel_rfl)⟩
  f57 := ⟨(Tryz.f243).name, by kernel_rfl, Tryz.func243.trans (by kernel_rfl)⟩
  t0 := by kernel_rfl
  a0 := fun _ => by kernel_rfl
  z0 := fun _ => by kernel_rfl
  v0 := fun _ => by kernel_rfl
  t3 := by kernel_rfl
  a3 := fun _ => by kernel_rfl
  z3 := fun _ => by kernel_rfl
  v3 := fun _ => by kernel_rfl
  t4 := by kernel_rfl
  a4 := fun _ => by kernel_rfl
  z4 := fun _ => by kernel_rfl
  v4 := fun _ => by kernel_rfl
  t5 := by kernel_rfl
  a5 := fun _ => by kernel_rfl
  z5 := fun _ => by kernel_rfl
  v5 := fun _ => by kernel_rfl
  t9 := by kernel_rfl
  a9 := fun _ => by kernel_rfl
  z9 := fun _ => by kernel_rfl
  v9 := fun _ => by kernel_rfl
  t22 := by kernel_rfl
  a22 := fun _ => by kernel_rfl
  z22 := fun _ => by kernel_rfl
  v22 := fun _ => by kernel_rfl
  t25 := by kernel_rfl
  a25 := fun _ => by kernel_rfl
  z25 := fun _ => by kernel_rfl
  v25 := fun _ => by kernel_rfl
  t39 := by kernel_rfl
  a39 := fun _ => by kernel_rfl
  z39 := fun _ => by kernel_rfl
  v39 := fun _ => by kernel_rfl
  t45 := by kernel_rfl
  a45 := fun _ => by kernel_rfl
  z45 := fun _ => by kernel_rfl
  v45 := fun _ => by kernel_rfl
  t46 := by kernel_rfl
  a46 := fun _ => by kernel_rfl
  z46 := fun _ => by kernel_rfl
  v46 := fun _ => by kernel_rfl
  t50 := by kernel_rfl
  a50 := fun _ => by kernel_rfl
  z50 := fun _ => by kernel_rfl
  v50 := fun _ => by kernel_rfl
  t53 := by kernel_rfl
  a53 := fun _ => by kernel_rfl
  z53 := fun _ => by kernel_rfl
  v53 := fun _ => by kernel_rfl
  t55 := by kernel_rfl
  a55 := fun _ => by kernel_rfl
  z55 := fun _ => by kernel_rfl
  v55 := fun _ => by kernel_rfl
  t66 := by kernel_rfl
  a66 := fun _ => by kernel_rfl
  z66 := fun _ => by kernel_rfl
  v66 := fun _ => by kernel_rfl
  t70 := by kernel_rfl
  a70 := fun _ => by kernel_rfl
  z70 := fun _ => by kernel_rfl
  v70 := fun _ => by kernel_rfl
  t76 := by kernel_rfl
  a76 := fun _ => by kernel_rfl
  z76 := fun _ => by kernel_rfl
  v76 := fun _ => by kernel_rfl
  t77 := by kernel_rfl
  a77 := fun _ => by kernel_rfl
  z77 := fun _ => by kernel_rfl
  v77 := fun _ => by kernel_rfl
}
end Go.Proofs.YtehhmgbgkemidaaGreatDoor

/-! slices.SortFunc of days of many: where the kit's law finds its functions and types in this program. Written by gen_dclays.py. -/
namespace Go.Proofs.YtehhmgbgkemidaaGreatDoor

end Go.Proofs.YtehhmgbgkemidaaGreatDoor
