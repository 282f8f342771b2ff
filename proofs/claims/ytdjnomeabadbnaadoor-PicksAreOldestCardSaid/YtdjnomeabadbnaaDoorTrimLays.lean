/- Where the kit finds functions of the library in this program; written by the kit and turned by a program. -/
import Derived.Test.YtdjnomeabadbnaaDoorChecked
import Derived.Shelf.Strings.Trim
import Derived.Shelf.Strings.SlTrimAscii
namespace Go.Proofs.YtdjnomeabadbnaaDoor
open Go.Shelf
def lays160_ren : Go.Shelf.Ren := ⟨fun | 160 => 170 | 232 => 185 | 231 => 184 | 227 => 186 | 234 => 188 | 233 => 187 | 236 => 190 | 235 => 189 | 228 => 196 | 271 => 199 | 151 => 198 | 197 => 197 | 120 => 204 | 152 => 203 | 260 => 202 | 137 => 206 | 119 => 207 | 224 => 208 | 225 => 209 | 217 => 210 | 266 => 211 | n => n, fun | 9 => 9 | 4 => 4 | 3 => 3 | 5 => 5 | 117 => 244 | 116 => 243 | 0 => 0 | 124 => 247 | 21 => 21 | 105 => 256 | 46 => 226 | 119 => 260 | 139 => 263 | 138 => 262 | n => n, fun | 3 => 1 | 4 => 2 | n => n⟩
theorem lays160 : Go.Proofs.Lays.n160 Tryd.prog lays160_ren := {
  mixed := by kernel_rfl
  f119 := Tryd.func207.trans (congrArg some (by kernel_rfl))
  f120 := Tryd.func204.trans (congrArg some (by kernel_rfl))
  f137 := Tryd.func206.trans (congrArg some (by kernel_rfl))
  f151 := Tryd.func198.trans (congrArg some (by kernel_rfl))
  f152 := Tryd.func203.trans (congrArg some (by kernel_rfl))
  f160 := Tryd.func170.trans (congrArg some (by kernel_rfl))
  f197 := Tryd.func197.trans (congrArg some (by kernel_rfl))
  f217 := Tryd.func210.trans (congrArg some (by kernel_rfl))
  f224 := Tryd.func208.trans (congrArg some (by kernel_rfl))
  f225 := Tryd.func209.trans (congrArg some (by kernel_rfl))
  f227 := Tryd.func186.trans (congrArg some (by kernel_rfl))
  f228 := Tryd.func196.trans (congrArg some (by kernel_rfl))
  f231 := Tryd.func184.trans (congrArg some (by kernel_rfl))
  f232 := Tryd.func185.trans (congrArg some (by kernel_rfl))
  f233 := Tryd.func187.trans (congrArg some (by kernel_rfl))
  f234 := Tryd.func188.trans (congrArg some (by kernel_rfl))
  f235 := Tryd.func189.trans (congrArg some (by kernel_rfl))
  f236 := Tryd.func190.trans (congrArg some (by kernel_rfl))
  f260 := Tryd.func202.trans (congrArg some (by kernel_rfl))
  f266 := Tryd.func211.trans (congrArg some (by kernel_rfl))
  f271 := Tryd.func199.trans (congrArg some (by kernel_rfl))
  t0 := Tryd.underlying0
  a0 := Tryd.isAgg0
  z0 := Tryd.sizeOf0
  v0 := Tryd.zeroValue0
  t3 := Tryd.underlying3
  a3 := Tryd.isAgg3
  z3 := Tryd.sizeOf3
  v3 := Tryd.zeroValue3
  t4 := Tryd.underlying4
  a4 := Tryd.isAgg4
  z4 := Tryd.sizeOf4
  v4 := Tryd.zeroValue4
  t5 := Tryd.underlying5
  a5 := Tryd.isAgg5
  z5 := Tryd.sizeOf5
  v5 := Tryd.zeroValue5
  t9 := Tryd.underlying9
  a9 := Tryd.isAgg9
  z9 := Tryd.sizeOf9
  v9 := Tryd.zeroValue9
  t21 := Tryd.underlying21
  a21 := Tryd.isAgg21
  z21 := Tryd.sizeOf21
  v21 := Tryd.zeroValue21
  t46 := Tryd.underlying226
  a46 := Tryd.isAgg226
  z46 := Tryd.sizeOf226
  v46 := Tryd.zeroValue226
  t105 := Tryd.underlying256
  a105 := Tryd.isAgg256
  z105 := Tryd.sizeOf256
  v105 := Tryd.zeroValue256
  t116 := Tryd.underlying243
  a116 := Tryd.isAgg243
  z116 := Tryd.sizeOf243
  t117 := Tryd.underlying244
  a117 := Tryd.isAgg244
  z117 := Tryd.sizeOf244
  v117 := Tryd.zeroValue244
  t119 := Tryd.underlying260
  a119 := Tryd.isAgg260
  z119 := Tryd.sizeOf260
  t124 := Tryd.underlying247
  a124 := Tryd.isAgg247
  z124 := Tryd.sizeOf247
  v124 := Tryd.zeroValue247
  t138 := Tryd.underlying262
  a138 := Tryd.isAgg262
  z138 := Tryd.sizeOf262
  v138 := Tryd.zeroValue262
  t139 := Tryd.underlying263
  a139 := Tryd.isAgg263
  z139 := Tryd.sizeOf263
  v139 := Tryd.zeroValue263
  g3 := by kernel_rfl
  g4 := by kernel_rfl }
end Go.Proofs.YtdjnomeabadbnaaDoor
