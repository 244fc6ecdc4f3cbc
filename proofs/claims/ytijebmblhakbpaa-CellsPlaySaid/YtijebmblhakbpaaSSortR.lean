/-
  Contracts of library functions, as the kit's own tools have laid them at this program.
-/
import Derived.Shelf.SlSortCmp.NoneTotal
import Derived.Ground.SlsfProg
import Derived.Test.YtijebmblhakbpaaProg
namespace Go.Proofs
open Go.Shelf
def Try.sortRef_ren : Go.Shelf.Ren := ⟨fun | 6 => 87 | 15 => 113 | 14 => 112 | 28 => 130 | 29 => 131 | 20 => 122 | 21 => 123 | 22 => 124 | 23 => 125 | 24 => 126 | 25 => 127 | 26 => 128 | 27 => 129 | 46 => 139 | 47 => 140 | 48 => 141 | 49 => 142 | 50 => 143 | 57 => 148 | n => n, fun | 22 => 171 | 24 => 49 | 25 => 173 | 3 => 3 | 39 => 195 | 0 => 0 | 53 => 216 | 55 => 23 | 4 => 4 | 46 => 209 | 45 => 208 | 50 => 213 | 5 => 5 | 9 => 9 | 66 => 228 | 70 => 232 | 76 => 237 | 77 => 223 | n => n, fun | n => n⟩
theorem Try.sortRef : Go.Proofs.SlLaysF0.n6 Try.prog Try.sortRef_ren := {
  mixed := by kernel_rfl
  f6 := ⟨Try.f87.name, by decide, Try.func87.trans (congrArg some (by kernel_rfl))⟩
  f14 := ⟨Try.f112.name, by decide, Try.func112.trans (congrArg some (by kernel_rfl))⟩
  f15 := Try.func113.trans (congrArg some (by kernel_rfl))
  f20 := ⟨Try.f122.name, by decide, Try.func122.trans (congrArg some (by kernel_rfl))⟩
  f21 := ⟨Try.f123.name, by decide, Try.func123.trans (congrArg some (by kernel_rfl))⟩
  f22 := ⟨Try.f124.name, by decide, Try.func124.trans (congrArg some (by kernel_rfl))⟩
  f23 := ⟨Try.f125.name, by decide, Try.func125.trans (congrArg some (by kernel_rfl))⟩
  f24 := ⟨Try.f126.name, by decide, Try.func126.trans (congrArg some (by kernel_rfl))⟩
  f25 := ⟨Try.f127.name, by decide, Try.func127.trans (congrArg some (by kernel_rfl))⟩
  f26 := ⟨Try.f128.name, by decide, Try.func128.trans (congrArg some (by kernel_rfl))⟩
  f27 := ⟨Try.f129.name, by decide, Try.func129.trans (congrArg some (by kernel_rfl))⟩
  f28 := Try.func130.trans (congrArg some (by kernel_rfl))
  f29 := Try.func131.trans (congrArg some (by kernel_rfl))
  f46 := ⟨Try.f139.name, by decide, Try.func139.trans (congrArg some (by kernel_rfl))⟩
  f47 := Try.func140.trans (congrArg some (by kernel_rfl))
  f48 := Try.func141.trans (congrArg some (by kernel_rfl))
  f49 := ⟨Try.f142.name, by decide, Try.func142.trans (congrArg some (by kernel_rfl))⟩
  f50 := ⟨Try.f143.name, by decide, Try.func143.trans (congrArg some (by kernel_rfl))⟩
  f57 := ⟨Try.f148.name, by decide, Try.func148.trans (congrArg some (by kernel_rfl))⟩
  t0 := Try.underlying0
  a0 := Try.isAgg0
  z0 := Try.sizeOf0
  v0 := Try.zeroValue0
  t3 := Try.underlying3
  a3 := Try.isAgg3
  z3 := Try.sizeOf3
  v3 := Try.zeroValue3
  t4 := Try.underlying4
  a4 := Try.isAgg4
  z4 := Try.sizeOf4
  v4 := Try.zeroValue4
  t5 := Try.underlying5
  a5 := Try.isAgg5
  z5 := Try.sizeOf5
  v5 := Try.zeroValue5
  t9 := Try.underlying9
  a9 := Try.isAgg9
  z9 := Try.sizeOf9
  v9 := Try.zeroValue9
  t22 := Try.underlying171
  a22 := Try.isAgg171
  z22 := Try.sizeOf171
  v22 := Try.zeroValue171
  t25 := Try.underlying173
  a25 := Try.isAgg173
  z25 := Try.sizeOf173
  v25 := Try.zeroValue173
  t39 := Try.underlying195
  a39 := Try.isAgg195
  z39 := Try.sizeOf195
  v39 := Try.zeroValue195
  t45 := Try.underlying208
  a45 := Try.isAgg208
  z45 := Try.sizeOf208
  v45 := Try.zeroValue208
  t46 := Try.underlying209
  a46 := Try.isAgg209
  z46 := Try.sizeOf209
  v46 := Try.zeroValue209
  t50 := Try.underlying213
  a50 := Try.isAgg213
  z50 := Try.sizeOf213
  v50 := Try.zeroValue213
  t53 := Try.underlying216
  a53 := Try.isAgg216
  z53 := Try.sizeOf216
  v53 := Try.zeroValue216
  t55 := Try.underlying23
  a55 := Try.isAgg23
  z55 := Try.sizeOf23
  v55 := Try.zeroValue23
  t66 := Try.underlying228
  a66 := Try.isAgg228
  z66 := Try.sizeOf228
  v66 := Try.zeroValue228
  t70 := Try.underlying232
  a70 := Try.isAgg232
  z70 := Try.sizeOf232
  v70 := Try.zeroValue232
  t76 := Try.underlying237
  a76 := Try.isAgg237
  z76 := Try.sizeOf237
  v76 := Try.zeroValue237
  t77 := Try.underlying223
  a77 := Try.isAgg223
  z77 := Try.sizeOf223
  v77 := Try.zeroValue223 }
end Go.Proofs
