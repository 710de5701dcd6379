/- The contract of slices.Sort over ints, laid at this program (the text was written by the kit program lay-plain.mjs). -/
import Derived.Shelf.SortG.Plain
import Derived.Ground.SlgnProg
import Derived.Test.YtmomjannlnafcaaProg
namespace Go.Proofs
set_option linter.unusedSimpArgs false
set_option linter.unusedVariables false
open Go.Shelf
def sortInt_ren : Go.Shelf.Ren := ⟨fun | 53 => 114 | 64 => 126 | 63 => 125 | 78 => 139 | 79 => 140 | 70 => 130 | 71 => 131 | 72 => 132 | 73 => 133 | 74 => 134 | 75 => 135 | 59 => 136 | 76 => 137 | 77 => 138 | 88 => 142 | 89 => 143 | 90 => 144 | 91 => 145 | 92 => 146 | 68 => 103 | 96 => 148 | n => n, fun | 22 => 23 | 23 => 3 | 3 => 3 | 51 => 46 | 0 => 0 | 67 => 135 | 69 => 137 | 4 => 4 | 61 => 128 | 60 => 127 | 44 => 132 | 5 => 5 | 9 => 9 | 75 => 138 | 79 => 142 | 83 => 144 | 84 => 97 | n => n, fun | n => n⟩
theorem sortInt : Go.Proofs.SlLaysN.n53 Try.prog sortInt_ren := {
  mixed := by kernel_rfl
  f53 := ⟨Try.f114.name, by decide, Try.func114.trans (congrArg some (by kernel_rfl))⟩
  f59 := ⟨Try.f136.name, by decide, Try.func136.trans (congrArg some (by kernel_rfl))⟩
  f63 := ⟨Try.f125.name, by decide, Try.func125.trans (congrArg some (by kernel_rfl))⟩
  f64 := Try.func126.trans (congrArg some (by kernel_rfl))
  f68 := ⟨Try.f103.name, by decide, Try.func103.trans (congrArg some (by kernel_rfl))⟩
  f70 := ⟨Try.f130.name, by decide, Try.func130.trans (congrArg some (by kernel_rfl))⟩
  f71 := ⟨Try.f131.name, by decide, Try.func131.trans (congrArg some (by kernel_rfl))⟩
  f72 := ⟨Try.f132.name, by decide, Try.func132.trans (congrArg some (by kernel_rfl))⟩
  f73 := ⟨Try.f133.name, by decide, Try.func133.trans (congrArg some (by kernel_rfl))⟩
  f74 := ⟨Try.f134.name, by decide, Try.func134.trans (congrArg some (by kernel_rfl))⟩
  f75 := ⟨Try.f135.name, by decide, Try.func135.trans (congrArg some (by kernel_rfl))⟩
  f76 := ⟨Try.f137.name, by decide, Try.func137.trans (congrArg some (by kernel_rfl))⟩
  f77 := ⟨Try.f138.name, by decide, Try.func138.trans (congrArg some (by kernel_rfl))⟩
  f78 := Try.func139.trans (congrArg some (by kernel_rfl))
  f79 := Try.func140.trans (congrArg some (by kernel_rfl))
  f88 := ⟨Try.f142.name, by decide, Try.func142.trans (congrArg some (by kernel_rfl))⟩
  f89 := Try.func143.trans (congrArg some (by kernel_rfl))
  f90 := Try.func144.trans (congrArg some (by kernel_rfl))
  f91 := ⟨Try.f145.name, by decide, Try.func145.trans (congrArg some (by kernel_rfl))⟩
  f92 := ⟨Try.f146.name, by decide, Try.func146.trans (congrArg some (by kernel_rfl))⟩
  f96 := ⟨Try.f148.name, by decide, Try.func148.trans (congrArg some (by kernel_rfl))⟩
  t0 := Try.underlying0
  a0 := Try.isAgg0
  z0 := Try.sizeOf0
  v0 := Try.zeroValue0
  t3 := Try.underlying3
  a3 := Try.isAgg3
  z3 := Try.sizeOf3
  v3 := Try.zeroValue3
  t4 := Try.underlying4
  a4 := Try.isAgg4
  z4 := Try.sizeOf4
  v4 := Try.zeroValue4
  t5 := Try.underlying5
  a5 := Try.isAgg5
  z5 := Try.sizeOf5
  v5 := Try.zeroValue5
  t9 := Try.underlying9
  a9 := Try.isAgg9
  z9 := Try.sizeOf9
  v9 := Try.zeroValue9
  t22 := Try.underlying23
  a22 := Try.isAgg23
  z22 := Try.sizeOf23
  v22 := Try.zeroValue23
  t23 := Try.underlying3
  a23 := Try.isAgg3
  z23 := Try.sizeOf3
  v23 := Try.zeroValue3
  t44 := Try.underlying132
  a44 := Try.isAgg132
  z44 := Try.sizeOf132
  v44 := Try.zeroValue132
  t51 := Try.underlying46
  a51 := Try.isAgg46
  z51 := Try.sizeOf46
  v51 := Try.zeroValue46
  t60 := Try.underlying127
  a60 := Try.isAgg127
  z60 := Try.sizeOf127
  v60 := Try.zeroValue127
  t61 := Try.underlying128
  a61 := Try.isAgg128
  z61 := Try.sizeOf128
  v61 := Try.zeroValue128
  t67 := Try.underlying135
  a67 := Try.isAgg135
  z67 := Try.sizeOf135
  v67 := Try.zeroValue135
  t69 := Try.underlying137
  a69 := Try.isAgg137
  z69 := Try.sizeOf137
  v69 := Try.zeroValue137
  t75 := Try.underlying138
  a75 := Try.isAgg138
  z75 := Try.sizeOf138
  v75 := Try.zeroValue138
  t79 := Try.underlying142
  a79 := Try.isAgg142
  z79 := Try.sizeOf142
  v79 := Try.zeroValue142
  t83 := Try.underlying144
  a83 := Try.isAgg144
  z83 := Try.sizeOf144
  v83 := Try.zeroValue144
  t84 := Try.underlying97
  a84 := Try.isAgg97
  z84 := Try.sizeOf97
  v84 := Try.zeroValue97 }
end Go.Proofs
