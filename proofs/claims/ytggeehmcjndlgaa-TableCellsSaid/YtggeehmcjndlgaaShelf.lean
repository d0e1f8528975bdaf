/-
  DERIVED: THE SHELF's CONTRACTS AT THIS DUMP, IN PLAIN WORDS (tools/lay-plain.mjs out of 'YtggeehmcjndlgaaShelf.lean', which tools/lay-shelf.mjs wrote): THE SAME DECLARATIONS UNDER THE SAME NAMES: 'import', 'namespace', 'open', 'def', 'theorem' AND NOTHING ELSE: no command of the shelf's: FOR A HAND-IN. Each laying: the table of numbers ('.._ren') and one theorem, a field a fact of the dump's own or the kernel's comparison; each contract: ONE APPLICATION.
-/
import Derived.Shelf.SlicesE.DeleteFunc
import Derived.Shelf.SlicesE.Clone
import Derived.Shelf.SortM.Plain
import Derived.Shelf.SortM.SortNone
import Derived.Shelf.SlIterI.Nil
import Derived.Ground.SlgfProg
import Derived.Ground.SlgmProg
import Derived.Ground.SlgnProg
import Derived.Ground.GgzProg
import Derived.Test.YtggeehmcjndlgaaRows
namespace Go.Proofs
open Go.Shelf
def Try.cloneInts_ren : Go.Shelf.Ren := ⟨fun | 41 => 129 | n => n, fun | 22 => 44 | 23 => 3 | 4 => 4 | n => n, fun | n => n⟩
theorem Try.cloneInts : Go.Proofs.SlLaysE0.n41 Try.prog Try.cloneInts_ren := {
  mixed := by kernel_rfl
  f41 := ⟨Try.f129.name, by decide, Try.func129.trans (congrArg some (by kernel_rfl))⟩
  t4 := Try.underlying4
  a4 := Try.isAgg4
  z4 := Try.sizeOf4
  v4 := Try.zeroValue4
  t22 := Try.underlying44
  a22 := Try.isAgg44
  z22 := Try.sizeOf44
  v22 := Try.zeroValue44 }
def Try.delInts_ren : Go.Shelf.Ren := ⟨fun | 10 => 104 | 6 => 128 | n => n, fun | 22 => 44 | 23 => 3 | 25 => 144 | 3 => 3 | 4 => 4 | 0 => 0 | n => n, fun | n => n⟩
theorem Try.delInts : Go.Proofs.SlLaysH.n10 Try.prog Try.delInts_ren := {
  mixed := by kernel_rfl
  f6 := ⟨Try.f128.name, by decide, Try.func128.trans (congrArg some (by kernel_rfl))⟩
  f10 := ⟨Try.f104.name, by decide, Try.func104.trans (congrArg some (by kernel_rfl))⟩
  t0 := Try.underlying0
  a0 := Try.isAgg0
  z0 := Try.sizeOf0
  v0 := Try.zeroValue0
  t3 := Try.underlying3
  a3 := Try.isAgg3
  z3 := Try.sizeOf3
  v3 := Try.zeroValue3
  t4 := Try.underlying4
  a4 := Try.isAgg4
  z4 := Try.sizeOf4
  v4 := Try.zeroValue4
  t22 := Try.underlying44
  a22 := Try.isAgg44
  z22 := Try.sizeOf44
  v22 := Try.zeroValue44
  a23 := Try.isAgg3
  z23 := Try.sizeOf3
  t25 := Try.underlying144
  a25 := Try.isAgg144
  z25 := Try.sizeOf144
  v25 := Try.zeroValue144 }
def Try.sortInts_ren : Go.Shelf.Ren := ⟨fun | 5 => 79 | 8 => 113 | 7 => 112 | 19 => 140 | 20 => 141 | 10 => 131 | 11 => 132 | 12 => 133 | 13 => 134 | 14 => 135 | 15 => 136 | 16 => 137 | 17 => 138 | 18 => 139 | 30 => 145 | 31 => 146 | 32 => 147 | 33 => 148 | 34 => 149 | 35 => 150 | 40 => 153 | n => n, fun | 23 => 44 | 25 => 3 | 3 => 3 | 32 => 152 | 22 => 44 | 0 => 0 | 44 => 159 | 46 => 180 | 4 => 4 | 36 => 172 | 35 => 171 | 41 => 137 | 5 => 5 | 9 => 9 | 53 => 183 | 57 => 187 | 63 => 190 | 64 => 160 | n => n, fun | n => n⟩
theorem Try.sortInts : Go.Proofs.SlLaysM.n5 Try.prog Try.sortInts_ren := {
  mixed := by kernel_rfl
  f5 := ⟨Try.f79.name, by decide, Try.func79.trans (congrArg some (by kernel_rfl))⟩
  f7 := ⟨Try.f112.name, by decide, Try.func112.trans (congrArg some (by kernel_rfl))⟩
  f8 := Try.func113.trans (congrArg some (by kernel_rfl))
  f10 := ⟨Try.f131.name, by decide, Try.func131.trans (congrArg some (by kernel_rfl))⟩
  f11 := ⟨Try.f132.name, by decide, Try.func132.trans (congrArg some (by kernel_rfl))⟩
  f12 := ⟨Try.f133.name, by decide, Try.func133.trans (congrArg some (by kernel_rfl))⟩
  f13 := ⟨Try.f134.name, by decide, Try.func134.trans (congrArg some (by kernel_rfl))⟩
  f14 := ⟨Try.f135.name, by decide, Try.func135.trans (congrArg some (by kernel_rfl))⟩
  f15 := ⟨Try.f136.name, by decide, Try.func136.trans (congrArg some (by kernel_rfl))⟩
  f16 := ⟨Try.f137.name, by decide, Try.func137.trans (congrArg some (by kernel_rfl))⟩
  f17 := ⟨Try.f138.name, by decide, Try.func138.trans (congrArg some (by kernel_rfl))⟩
  f18 := ⟨Try.f139.name, by decide, Try.func139.trans (congrArg some (by kernel_rfl))⟩
  f19 := Try.func140.trans (congrArg some (by kernel_rfl))
  f20 := Try.func141.trans (congrArg some (by kernel_rfl))
  f30 := ⟨Try.f145.name, by decide, Try.func145.trans (congrArg some (by kernel_rfl))⟩
  f31 := Try.func146.trans (congrArg some (by kernel_rfl))
  f32 := Try.func147.trans (congrArg some (by kernel_rfl))
  f33 := ⟨Try.f148.name, by decide, Try.func148.trans (congrArg some (by kernel_rfl))⟩
  f34 := ⟨Try.f149.name, by decide, Try.func149.trans (congrArg some (by kernel_rfl))⟩
  f35 := ⟨Try.f150.name, by decide, Try.func150.trans (congrArg some (by kernel_rfl))⟩
  f40 := ⟨Try.f153.name, by decide, Try.func153.trans (congrArg some (by kernel_rfl))⟩
  t0 := Try.underlying0
  a0 := Try.isAgg0
  z0 := Try.sizeOf0
  v0 := Try.zeroValue0
  t3 := Try.underlying3
  a3 := Try.isAgg3
  z3 := Try.sizeOf3
  v3 := Try.zeroValue3
  t4 := Try.underlying4
  a4 := Try.isAgg4
  z4 := Try.sizeOf4
  v4 := Try.zeroValue4
  t5 := Try.underlying5
  a5 := Try.isAgg5
  z5 := Try.sizeOf5
  v5 := Try.zeroValue5
  t9 := Try.underlying9
  a9 := Try.isAgg9
  z9 := Try.sizeOf9
  v9 := Try.zeroValue9
  t22 := Try.underlying44
  a22 := Try.isAgg44
  z22 := Try.sizeOf44
  v22 := Try.zeroValue44
  t23 := Try.underlying44
  a23 := Try.isAgg44
  z23 := Try.sizeOf44
  v23 := Try.zeroValue44
  t25 := Try.underlying3
  a25 := Try.isAgg3
  z25 := Try.sizeOf3
  v25 := Try.zeroValue3
  t32 := Try.underlying152
  a32 := Try.isAgg152
  z32 := Try.sizeOf152
  v32 := Try.zeroValue152
  t35 := Try.underlying171
  a35 := Try.isAgg171
  z35 := Try.sizeOf171
  v35 := Try.zeroValue171
  t36 := Try.underlying172
  a36 := Try.isAgg172
  z36 := Try.sizeOf172
  v36 := Try.zeroValue172
  t41 := Try.underlying137
  a41 := Try.isAgg137
  z41 := Try.sizeOf137
  v41 := Try.zeroValue137
  t44 := Try.underlying159
  a44 := Try.isAgg159
  z44 := Try.sizeOf159
  v44 := Try.zeroValue159
  t46 := Try.underlying180
  a46 := Try.isAgg180
  z46 := Try.sizeOf180
  v46 := Try.zeroValue180
  t53 := Try.underlying183
  a53 := Try.isAgg183
  z53 := Try.sizeOf183
  v53 := Try.zeroValue183
  t57 := Try.underlying187
  a57 := Try.isAgg187
  z57 := Try.sizeOf187
  v57 := Try.zeroValue187
  t63 := Try.underlying190
  a63 := Try.isAgg190
  z63 := Try.sizeOf190
  v63 := Try.zeroValue190
  t64 := Try.underlying160
  a64 := Try.isAgg160
  z64 := Try.sizeOf160
  v64 := Try.zeroValue160 }
def Try.keysP_ren : Go.Shelf.Ren := ⟨fun | 7 => 72 | 10 => 102 | n => n, fun | 23 => 104 | 26 => 3 | 3 => 31 | 28 => 112 | 0 => 0 | 27 => 111 | 33 => 144 | 4 => 4 | n => n, fun | n => n⟩
theorem Try.keysP : Go.Proofs.SlLaysZI.n7 Try.prog Try.keysP_ren := {
  mixed := by kernel_rfl
  f7 := ⟨Try.f72.name, by decide, Try.func72.trans (congrArg some (by kernel_rfl))⟩
  f10 := ⟨Try.f102.name, by decide, Try.func102.trans (congrArg some (by kernel_rfl))⟩
  t0 := Try.underlying0
  a0 := Try.isAgg0
  z0 := Try.sizeOf0
  v0 := Try.zeroValue0
  t4 := Try.underlying4
  a4 := Try.isAgg4
  z4 := Try.sizeOf4
  v4 := Try.zeroValue4
  t23 := Try.underlying104
  a23 := Try.isAgg104
  z23 := Try.sizeOf104
  v23 := Try.zeroValue104
  t26 := Try.underlying3
  a26 := Try.isAgg3
  z26 := Try.sizeOf3
  v26 := Try.zeroValue3
  t27 := Try.underlying111
  a27 := Try.isAgg111
  z27 := Try.sizeOf111
  v27 := Try.zeroValue111
  t28 := Try.underlying112
  a28 := Try.isAgg112
  z28 := Try.sizeOf112
  v28 := Try.zeroValue112
  t33 := Try.underlying144
  a33 := Try.isAgg144
  z33 := Try.sizeOf144
  v33 := Try.zeroValue144 }
def Try.sortedP_ren : Go.Shelf.Ren := ⟨fun | 6 => 71 | 8 => 101 | 9 => 79 | 11 => 127 | 13 => 113 | 12 => 112 | 23 => 140 | 24 => 141 | 14 => 131 | 15 => 132 | 16 => 133 | 17 => 134 | 18 => 135 | 19 => 136 | 20 => 137 | 21 => 138 | 22 => 139 | 25 => 145 | 26 => 146 | 27 => 147 | 28 => 148 | 29 => 149 | 30 => 150 | 31 => 153 | n => n, fun | 26 => 3 | 28 => 112 | 24 => 44 | 0 => 0 | 3 => 3 | 37 => 152 | 48 => 159 | 50 => 180 | 4 => 4 | 40 => 172 | 39 => 171 | 45 => 137 | 5 => 5 | 9 => 9 | 51 => 183 | 55 => 187 | 57 => 190 | 58 => 160 | 33 => 144 | n => n, fun | n => n⟩
theorem Try.sortedP : Go.Proofs.SlLaysZI.n6 Try.prog Try.sortedP_ren := {
  mixed := by kernel_rfl
  f6 := ⟨Try.f71.name, by decide, Try.func71.trans (congrArg some (by kernel_rfl))⟩
  f8 := ⟨Try.f101.name, by decide, Try.func101.trans (congrArg some (by kernel_rfl))⟩
  f11 := ⟨Try.f127.name, by decide, Try.func127.trans (congrArg some (by kernel_rfl))⟩
  t0 := Try.underlying0
  a0 := Try.isAgg0
  z0 := Try.sizeOf0
  v0 := Try.zeroValue0
  t24 := Try.underlying44
  a24 := Try.isAgg44
  z24 := Try.sizeOf44
  v24 := Try.zeroValue44
  t26 := Try.underlying3
  a26 := Try.isAgg3
  z26 := Try.sizeOf3
  v26 := Try.zeroValue3
  t28 := Try.underlying112
  a28 := Try.isAgg112
  z28 := Try.sizeOf112
  v28 := Try.zeroValue112
  i26 := by kernel_rfl }
end Go.Proofs
