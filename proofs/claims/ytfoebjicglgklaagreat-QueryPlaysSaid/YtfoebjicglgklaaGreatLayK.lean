/-
  DERIVED: THE SHELF's CONTRACTS AT THIS DUMP, IN PLAIN WORDS (tools/lay-plain.mjs out of 'TryzLayTmp.lean', which tools/lay-shelf.mjs wrote): THE SAME DECLARATIONS UNDER THE SAME NAMES: 'import', 'namespace', 'open', 'def', 'theorem' AND NOTHING ELSE: no command of the shelf's: FOR A HAND-IN. Each laying: the table of numbers ('.._ren') and one theorem, a field a fact of the dump's own or the kernel's comparison; each contract: ONE APPLICATION.
-/
import Derived.Shelf.SlGeneric
import Derived.Shelf.SlIter.Sorted
import Derived.Shelf.SortM.Plain
import Derived.Shelf.SortM.SortNone
import Derived.Ground.GgzProg
import Derived.Ground.SlgmProg
import Derived.Ground.NamesProg
import Derived.Shelf.Small.Bits
import Derived.Test.YtfoebjicglgklaaGreatProg
set_option linter.unusedSimpArgs false
set_option linter.unusedVariables false
set_option linter.unusedSectionVars false
namespace Go.Proofs
open Go.Shelf
def Tryz.keysT_ren : Go.Shelf.Ren := ⟨fun | 7 => 178 | 10 => 209 | n => n, fun | 23 => 220 | 26 => 9 | 3 => 3 | 28 => 225 | 0 => 0 | 27 => 224 | 33 => 173 | 4 => 4 | n => n, fun | n => n⟩
theorem Tryz.keysT : Go.Proofs.SlLaysZ.n7 Tryz.prog Tryz.keysT_ren := {
  mixed := by kernel_rfl
  f7 := ⟨Tryz.f178.name, by decide, Tryz.func178.trans (congrArg some (by kernel_rfl))⟩
  f10 := ⟨Tryz.f209.name, by decide, Tryz.func209.trans (congrArg some (by kernel_rfl))⟩
  t0 := Tryz.underlying0
  a0 := Tryz.isAgg0
  z0 := Tryz.sizeOf0
  v0 := Tryz.zeroValue0
  t4 := Tryz.underlying4
  a4 := Tryz.isAgg4
  z4 := Tryz.sizeOf4
  v4 := Tryz.zeroValue4
  t23 := Tryz.underlying220
  a23 := Tryz.isAgg220
  z23 := Tryz.sizeOf220
  v23 := Tryz.zeroValue220
  t26 := Tryz.underlying9
  a26 := Tryz.isAgg9
  z26 := Tryz.sizeOf9
  v26 := Tryz.zeroValue9
  t27 := Tryz.underlying224
  a27 := Tryz.isAgg224
  z27 := Tryz.sizeOf224
  v27 := Tryz.zeroValue224
  t28 := Tryz.underlying225
  a28 := Tryz.isAgg225
  z28 := Tryz.sizeOf225
  v28 := Tryz.zeroValue225
  t33 := Tryz.underlying173
  a33 := Tryz.isAgg173
  z33 := Tryz.sizeOf173
  v33 := Tryz.zeroValue173 }
def Tryz.sortedT_ren : Go.Shelf.Ren := ⟨fun | 6 => 177 | 8 => 207 | 9 => 208 | 11 => 222 | 13 => 211 | 12 => 223 | 23 => 232 | 24 => 233 | 14 => 239 | 15 => 240 | 16 => 241 | 17 => 242 | 18 => 243 | 19 => 244 | 20 => 245 | 21 => 246 | 22 => 247 | 25 => 253 | 26 => 249 | 27 => 250 | 28 => 254 | 29 => 255 | 30 => 235 | 31 => 257 | n => n, fun | 26 => 9 | 28 => 225 | 24 => 171 | 0 => 0 | 3 => 3 | 37 => 237 | 48 => 262 | 50 => 264 | 4 => 4 | 40 => 256 | 39 => 255 | 45 => 107 | 5 => 5 | 9 => 9 | 51 => 272 | 55 => 276 | 57 => 280 | 58 => 168 | 33 => 173 | n => n, fun | n => n⟩
theorem Tryz.sortedT : Go.Proofs.SlLaysZ.n6 Tryz.prog Tryz.sortedT_ren := {
  mixed := by kernel_rfl
  f6 := ⟨Tryz.f177.name, by decide, Tryz.func177.trans (congrArg some (by kernel_rfl))⟩
  f8 := ⟨Tryz.f207.name, by decide, Tryz.func207.trans (congrArg some (by kernel_rfl))⟩
  f11 := ⟨Tryz.f222.name, by decide, Tryz.func222.trans (congrArg some (by kernel_rfl))⟩
  t0 := Tryz.underlying0
  a0 := Tryz.isAgg0
  z0 := Tryz.sizeOf0
  v0 := Tryz.zeroValue0
  t24 := Tryz.underlying171
  a24 := Tryz.isAgg171
  z24 := Tryz.sizeOf171
  v24 := Tryz.zeroValue171
  t26 := Tryz.underlying9
  a26 := Tryz.isAgg9
  z26 := Tryz.sizeOf9
  v26 := Tryz.zeroValue9
  t28 := Tryz.underlying225
  a28 := Tryz.isAgg225
  z28 := Tryz.sizeOf225
  v28 := Tryz.zeroValue225
  i26 := by kernel_rfl }
def Tryz.sortT_ren : Go.Shelf.Ren := ⟨fun | 6 => 208 | 8 => 211 | 9 => 223 | 19 => 232 | 20 => 233 | 21 => 239 | 22 => 240 | 23 => 241 | 24 => 242 | 25 => 243 | 26 => 244 | 27 => 245 | 28 => 246 | 29 => 247 | 36 => 253 | 31 => 249 | 32 => 250 | 37 => 254 | 38 => 255 | 39 => 235 | 41 => 257 | n => n, fun | 27 => 171 | 29 => 9 | 3 => 3 | 32 => 237 | 26 => 171 | 0 => 0 | 44 => 262 | 46 => 264 | 4 => 4 | 36 => 256 | 35 => 255 | 41 => 107 | 5 => 5 | 9 => 9 | 53 => 272 | 57 => 276 | 63 => 280 | 64 => 168 | n => n, fun | n => n⟩
theorem Tryz.sortT : Go.Proofs.SlLaysM.n6 Tryz.prog Tryz.sortT_ren := {
  mixed := by kernel_rfl
  f6 := ⟨Tryz.f208.name, by decide, Tryz.func208.trans (congrArg some (by kernel_rfl))⟩
  f8 := Tryz.func211.trans (congrArg some (by kernel_rfl))
  f9 := ⟨Tryz.f223.name, by decide, Tryz.func223.trans (congrArg some (by kernel_rfl))⟩
  f19 := Tryz.func232.trans (congrArg some (by kernel_rfl))
  f20 := Tryz.func233.trans (congrArg some (by kernel_rfl))
  f21 := ⟨Tryz.f239.name, by decide, Tryz.func239.trans (congrArg some (by kernel_rfl))⟩
  f22 := ⟨Tryz.f240.name, by decide, Tryz.func240.trans (congrArg some (by kernel_rfl))⟩
  f23 := ⟨Tryz.f241.name, by decide, Tryz.func241.trans (congrArg some (by kernel_rfl))⟩
  f24 := ⟨Tryz.f242.name, by decide, Tryz.func242.trans (congrArg some (by kernel_rfl))⟩
  f25 := ⟨Tryz.f243.name, by decide, Tryz.func243.trans (congrArg some (by kernel_rfl))⟩
  f26 := ⟨Tryz.f244.name, by decide, Tryz.func244.trans (congrArg some (by kernel_rfl))⟩
  f27 := ⟨Tryz.f245.name, by decide, Tryz.func245.trans (congrArg some (by kernel_rfl))⟩
  f28 := ⟨Tryz.f246.name, by decide, Tryz.func246.trans (congrArg some (by kernel_rfl))⟩
  f29 := ⟨Tryz.f247.name, by decide, Tryz.func247.trans (congrArg some (by kernel_rfl))⟩
  f31 := Tryz.func249.trans (congrArg some (by kernel_rfl))
  f32 := Tryz.func250.trans (congrArg some (by kernel_rfl))
  f36 := ⟨Tryz.f253.name, by decide, Tryz.func253.trans (congrArg some (by kernel_rfl))⟩
  f37 := ⟨Tryz.f254.name, by decide, Tryz.func254.trans (congrArg some (by kernel_rfl))⟩
  f38 := ⟨Tryz.f255.name, by decide, Tryz.func255.trans (congrArg some (by kernel_rfl))⟩
  f39 := ⟨Tryz.f235.name, by decide, Tryz.func235.trans (congrArg some (by kernel_rfl))⟩
  f41 := ⟨Tryz.f257.name, by decide, Tryz.func257.trans (congrArg some (by kernel_rfl))⟩
  t0 := Tryz.underlying0
  a0 := Tryz.isAgg0
  z0 := Tryz.sizeOf0
  v0 := Tryz.zeroValue0
  t3 := Tryz.underlying3
  a3 := Tryz.isAgg3
  z3 := Tryz.sizeOf3
  v3 := Tryz.zeroValue3
  t4 := Tryz.underlying4
  a4 := Tryz.isAgg4
  z4 := Tryz.sizeOf4
  v4 := Tryz.zeroValue4
  t5 := Tryz.underlying5
  a5 := Tryz.isAgg5
  z5 := Tryz.sizeOf5
  v5 := Tryz.zeroValue5
  t9 := Tryz.underlying9
  a9 := Tryz.isAgg9
  z9 := Tryz.sizeOf9
  v9 := Tryz.zeroValue9
  t26 := Tryz.underlying171
  a26 := Tryz.isAgg171
  z26 := Tryz.sizeOf171
  v26 := Tryz.zeroValue171
  t27 := Tryz.underlying171
  a27 := Tryz.isAgg171
  z27 := Tryz.sizeOf171
  v27 := Tryz.zeroValue171
  t29 := Tryz.underlying9
  a29 := Tryz.isAgg9
  z29 := Tryz.sizeOf9
  v29 := Tryz.zeroValue9
  t32 := Tryz.underlying237
  a32 := Tryz.isAgg237
  z32 := Tryz.sizeOf237
  v32 := Tryz.zeroValue237
  t35 := Tryz.underlying255
  a35 := Tryz.isAgg255
  z35 := Tryz.sizeOf255
  v35 := Tryz.zeroValue255
  t36 := Tryz.underlying256
  a36 := Tryz.isAgg256
  z36 := Tryz.sizeOf256
  v36 := Tryz.zeroValue256
  t41 := Tryz.underlying107
  a41 := Tryz.isAgg107
  z41 := Tryz.sizeOf107
  v41 := Tryz.zeroValue107
  t44 := Tryz.underlying262
  a44 := Tryz.isAgg262
  z44 := Tryz.sizeOf262
  v44 := Tryz.zeroValue262
  t46 := Tryz.underlying264
  a46 := Tryz.isAgg264
  z46 := Tryz.sizeOf264
  v46 := Tryz.zeroValue264
  t53 := Tryz.underlying272
  a53 := Tryz.isAgg272
  z53 := Tryz.sizeOf272
  v53 := Tryz.zeroValue272
  t57 := Tryz.underlying276
  a57 := Tryz.isAgg276
  z57 := Tryz.sizeOf276
  v57 := Tryz.zeroValue276
  t63 := Tryz.underlying280
  a63 := Tryz.isAgg280
  z63 := Tryz.sizeOf280
  v63 := Tryz.zeroValue280
  t64 := Tryz.underlying168
  a64 := Tryz.isAgg168
  z64 := Tryz.sizeOf168
  v64 := Tryz.zeroValue168 }
end Go.Proofs
