/-
  DERIVED: THE SHELF's CONTRACTS AT THIS DUMP, IN PLAIN WORDS (tools/lay-plain.mjs out of 'YtjbjlpoiibefnaaShelf.lean', which tools/lay-shelf.mjs wrote): THE SAME DECLARATIONS UNDER THE SAME NAMES: 'import', 'namespace', 'open', 'def', 'theorem' AND NOTHING ELSE: no command of the shelf's: FOR A HAND-IN. Each laying: the table of numbers ('.._ren') and one theorem, a field a fact of the dump's own or the kernel's comparison; each contract: ONE APPLICATION.
-/
import Derived.Shelf.SlGeneric
import Derived.Shelf.SortG.Plain
import Derived.Shelf.SortG.SortNone
import Derived.Ground.SlgnProg
import Derived.Shelf.SlicesG.CompactI
import Derived.Test.YtjbjlpoiibefnaaProg
namespace Go.Proofs
open Go.Shelf
def Try.lsort_ren : Go.Shelf.Ren := ⟨fun | 53 => 156 | 64 => 163 | 63 => 162 | 78 => 175 | 79 => 176 | 70 => 166 | 71 => 167 | 72 => 168 | 73 => 169 | 74 => 170 | 75 => 171 | 59 => 172 | 76 => 173 | 77 => 174 | 88 => 177 | 89 => 178 | 90 => 179 | 91 => 180 | 92 => 181 | 68 => 182 | 96 => 183 | n => n, fun | 22 => 28 | 23 => 2 | 3 => 3 | 51 => 142 | 0 => 0 | 67 => 176 | 69 => 90 | 4 => 4 | 61 => 168 | 60 => 167 | 44 => 173 | 5 => 5 | 9 => 9 | 75 => 178 | 79 => 182 | 83 => 184 | 84 => 185 | n => n, fun | n => n⟩
theorem Try.lsort : Go.Proofs.SlLaysN.n53 Try.prog Try.lsort_ren := {
  mixed := by kernel_rfl
  f53 := ⟨Try.f156.name, by decide, Try.func156.trans (congrArg some (by kernel_rfl))⟩
  f59 := ⟨Try.f172.name, by decide, Try.func172.trans (congrArg some (by kernel_rfl))⟩
  f63 := ⟨Try.f162.name, by decide, Try.func162.trans (congrArg some (by kernel_rfl))⟩
  f64 := Try.func163.trans (congrArg some (by kernel_rfl))
  f68 := ⟨Try.f182.name, by decide, Try.func182.trans (congrArg some (by kernel_rfl))⟩
  f70 := ⟨Try.f166.name, by decide, Try.func166.trans (congrArg some (by kernel_rfl))⟩
  f71 := ⟨Try.f167.name, by decide, Try.func167.trans (congrArg some (by kernel_rfl))⟩
  f72 := ⟨Try.f168.name, by decide, Try.func168.trans (congrArg some (by kernel_rfl))⟩
  f73 := ⟨Try.f169.name, by decide, Try.func169.trans (congrArg some (by kernel_rfl))⟩
  f74 := ⟨Try.f170.name, by decide, Try.func170.trans (congrArg some (by kernel_rfl))⟩
  f75 := ⟨Try.f171.name, by decide, Try.func171.trans (congrArg some (by kernel_rfl))⟩
  f76 := ⟨Try.f173.name, by decide, Try.func173.trans (congrArg some (by kernel_rfl))⟩
  f77 := ⟨Try.f174.name, by decide, Try.func174.trans (congrArg some (by kernel_rfl))⟩
  f78 := Try.func175.trans (congrArg some (by kernel_rfl))
  f79 := Try.func176.trans (congrArg some (by kernel_rfl))
  f88 := ⟨Try.f177.name, by decide, Try.func177.trans (congrArg some (by kernel_rfl))⟩
  f89 := Try.func178.trans (congrArg some (by kernel_rfl))
  f90 := Try.func179.trans (congrArg some (by kernel_rfl))
  f91 := ⟨Try.f180.name, by decide, Try.func180.trans (congrArg some (by kernel_rfl))⟩
  f92 := ⟨Try.f181.name, by decide, Try.func181.trans (congrArg some (by kernel_rfl))⟩
  f96 := ⟨Try.f183.name, by decide, Try.func183.trans (congrArg some (by kernel_rfl))⟩
  t0 := Try.underlying0
  a0 := Try.isAgg0
  z0 := Try.sizeOf0
  v0 := Try.zeroValue0
  t3 := Try.underlying3
  a3 := Try.isAgg3
  z3 := Try.sizeOf3
  v3 := Try.zeroValue3
  t4 := Try.underlying4
  a4 := Try.isAgg4
  z4 := Try.sizeOf4
  v4 := Try.zeroValue4
  t5 := Try.underlying5
  a5 := Try.isAgg5
  z5 := Try.sizeOf5
  v5 := Try.zeroValue5
  t9 := Try.underlying9
  a9 := Try.isAgg9
  z9 := Try.sizeOf9
  v9 := Try.zeroValue9
  t22 := Try.underlying28
  a22 := Try.isAgg28
  z22 := Try.sizeOf28
  v22 := Try.zeroValue28
  t23 := Try.underlying2
  a23 := Try.isAgg2
  z23 := Try.sizeOf2
  v23 := Try.zeroValue2
  t44 := Try.underlying173
  a44 := Try.isAgg173
  z44 := Try.sizeOf173
  v44 := Try.zeroValue173
  t51 := Try.underlying142
  a51 := Try.isAgg142
  z51 := Try.sizeOf142
  v51 := Try.zeroValue142
  t60 := Try.underlying167
  a60 := Try.isAgg167
  z60 := Try.sizeOf167
  v60 := Try.zeroValue167
  t61 := Try.underlying168
  a61 := Try.isAgg168
  z61 := Try.sizeOf168
  v61 := Try.zeroValue168
  t67 := Try.underlying176
  a67 := Try.isAgg176
  z67 := Try.sizeOf176
  v67 := Try.zeroValue176
  t69 := Try.underlying90
  a69 := Try.isAgg90
  z69 := Try.sizeOf90
  v69 := Try.zeroValue90
  t75 := Try.underlying178
  a75 := Try.isAgg178
  z75 := Try.sizeOf178
  v75 := Try.zeroValue178
  t79 := Try.underlying182
  a79 := Try.isAgg182
  z79 := Try.sizeOf182
  v79 := Try.zeroValue182
  t83 := Try.underlying184
  a83 := Try.isAgg184
  z83 := Try.sizeOf184
  v83 := Try.zeroValue184
  t84 := Try.underlying185
  a84 := Try.isAgg185
  z84 := Try.sizeOf185
  v84 := Try.zeroValue185 }
def Try.lcompact_ren : Go.Shelf.Ren := ⟨fun | 43 => 157 | n => n, fun | 22 => 28 | 23 => 2 | 3 => 3 | 4 => 4 | 0 => 0 | n => n, fun | n => n⟩
theorem Try.lcompact : Go.Proofs.SlLaysN.n43 Try.prog Try.lcompact_ren := {
  mixed := by kernel_rfl
  f43 := ⟨Try.f157.name, by decide, Try.func157.trans (congrArg some (by kernel_rfl))⟩
  t0 := Try.underlying0
  a0 := Try.isAgg0
  z0 := Try.sizeOf0
  v0 := Try.zeroValue0
  t3 := Try.underlying3
  a3 := Try.isAgg3
  z3 := Try.sizeOf3
  v3 := Try.zeroValue3
  t4 := Try.underlying4
  a4 := Try.isAgg4
  z4 := Try.sizeOf4
  v4 := Try.zeroValue4
  t22 := Try.underlying28
  a22 := Try.isAgg28
  z22 := Try.sizeOf28
  v22 := Try.zeroValue28
  t23 := Try.underlying2
  a23 := Try.isAgg2
  z23 := Try.sizeOf2
  v23 := Try.zeroValue2
  i23 := by kernel_rfl }
end Go.Proofs
