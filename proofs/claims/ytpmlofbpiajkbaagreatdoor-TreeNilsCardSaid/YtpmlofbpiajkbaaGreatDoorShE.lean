/-
  DERIVED: THE SHELF's CONTRACTS AT THIS DUMP, IN PLAIN WORDS (tools/lay-plain.mjs out of 'YtpmlofbpiajkbaaGreatDoorShE.lean', which tools/lay-shelf.mjs wrote): THE SAME DECLARATIONS UNDER THE SAME NAMES: 'import', 'namespace', 'open', 'def', 'theorem' AND NOTHING ELSE: no command of the shelf's: FOR A HAND-IN. Each laying: the table of numbers ('.._ren') and one theorem, a field a fact of the dump's own or the kernel's comparison; each contract: ONE APPLICATION.
-/
import Derived.Shelf.Sort.Plain
import Derived.Shelf.Slices.In.SortNone
import Derived.Shelf.Slices.Turned
import Derived.Shelf.SlIterI.Nil
import Derived.Shelf.SlIterI.Keys
import Derived.Shelf.SlIterI.Sorted
import Derived.Ground.GgzProg
import Derived.Test.YtpmlofbpiajkbaaGreatDoorProg
namespace Go.Proofs
open Go.Shelf
def Tryz.lays189_ren : Go.Shelf.Ren := ⟨fun | 189 => 178 | 125 => 227 | 257 => 226 | 128 => 266 | 129 => 267 | 294 => 258 | 295 => 259 | 296 => 260 | 297 => 261 | 298 => 262 | 299 => 263 | 216 => 228 | 300 => 264 | 301 => 265 | 328 => 286 | 329 => 287 | 330 => 288 | 331 => 289 | 332 => 290 | 215 => 268 | 343 => 307 | n => n, fun | 28 => 79 | 3 => 3 | 46 => 269 | 0 => 0 | 51 => 291 | 53 => 43 | 4 => 4 | 183 => 314 | 182 => 313 | 131 => 238 | 5 => 5 | 9 => 9 | 218 => 328 | 222 => 331 | 228 => 349 | 229 => 157 | n => n, fun | n => n⟩
theorem Tryz.lays189 : Go.Proofs.Lays.n189 Tryz.prog Tryz.lays189_ren := {
  mixed := by kernel_rfl
  f125 := Tryz.func227.trans (congrArg some (by kernel_rfl))
  f128 := Tryz.func266.trans (congrArg some (by kernel_rfl))
  f129 := Tryz.func267.trans (congrArg some (by kernel_rfl))
  f189 := Tryz.func178.trans (congrArg some (by kernel_rfl))
  f215 := Tryz.func268.trans (congrArg some (by kernel_rfl))
  f216 := Tryz.func228.trans (congrArg some (by kernel_rfl))
  f257 := Tryz.func226.trans (congrArg some (by kernel_rfl))
  f294 := Tryz.func258.trans (congrArg some (by kernel_rfl))
  f295 := Tryz.func259.trans (congrArg some (by kernel_rfl))
  f296 := Tryz.func260.trans (congrArg some (by kernel_rfl))
  f297 := Tryz.func261.trans (congrArg some (by kernel_rfl))
  f298 := Tryz.func262.trans (congrArg some (by kernel_rfl))
  f299 := Tryz.func263.trans (congrArg some (by kernel_rfl))
  f300 := Tryz.func264.trans (congrArg some (by kernel_rfl))
  f301 := Tryz.func265.trans (congrArg some (by kernel_rfl))
  f328 := Tryz.func286.trans (congrArg some (by kernel_rfl))
  f329 := Tryz.func287.trans (congrArg some (by kernel_rfl))
  f330 := Tryz.func288.trans (congrArg some (by kernel_rfl))
  f331 := Tryz.func289.trans (congrArg some (by kernel_rfl))
  f332 := Tryz.func290.trans (congrArg some (by kernel_rfl))
  f343 := Tryz.func307.trans (congrArg some (by kernel_rfl))
  t0 := Tryz.underlying0
  a0 := Tryz.isAgg0
  z0 := Tryz.sizeOf0
  v0 := Tryz.zeroValue0
  t3 := Tryz.underlying3
  a3 := Tryz.isAgg3
  z3 := Tryz.sizeOf3
  v3 := Tryz.zeroValue3
  t4 := Tryz.underlying4
  a4 := Tryz.isAgg4
  z4 := Tryz.sizeOf4
  v4 := Tryz.zeroValue4
  t5 := Tryz.underlying5
  a5 := Tryz.isAgg5
  z5 := Tryz.sizeOf5
  v5 := Tryz.zeroValue5
  t9 := Tryz.underlying9
  a9 := Tryz.isAgg9
  z9 := Tryz.sizeOf9
  v9 := Tryz.zeroValue9
  t28 := Tryz.underlying79
  a28 := Tryz.isAgg79
  z28 := Tryz.sizeOf79
  v28 := Tryz.zeroValue79
  t46 := Tryz.underlying269
  a46 := Tryz.isAgg269
  z46 := Tryz.sizeOf269
  v46 := Tryz.zeroValue269
  t51 := Tryz.underlying291
  a51 := Tryz.isAgg291
  z51 := Tryz.sizeOf291
  v51 := Tryz.zeroValue291
  t53 := Tryz.underlying43
  a53 := Tryz.isAgg43
  z53 := Tryz.sizeOf43
  v53 := Tryz.zeroValue43
  t131 := Tryz.underlying238
  a131 := Tryz.isAgg238
  z131 := Tryz.sizeOf238
  v131 := Tryz.zeroValue238
  t182 := Tryz.underlying313
  a182 := Tryz.isAgg313
  z182 := Tryz.sizeOf313
  v182 := Tryz.zeroValue313
  t183 := Tryz.underlying314
  a183 := Tryz.isAgg314
  z183 := Tryz.sizeOf314
  v183 := Tryz.zeroValue314
  t218 := Tryz.underlying328
  a218 := Tryz.isAgg328
  z218 := Tryz.sizeOf328
  v218 := Tryz.zeroValue328
  t222 := Tryz.underlying331
  a222 := Tryz.isAgg331
  z222 := Tryz.sizeOf331
  v222 := Tryz.zeroValue331
  t228 := Tryz.underlying349
  a228 := Tryz.isAgg349
  z228 := Tryz.sizeOf349
  v228 := Tryz.zeroValue349
  t229 := Tryz.underlying157
  a229 := Tryz.isAgg157
  z229 := Tryz.sizeOf157
  v229 := Tryz.zeroValue157 }
def Tryz.keysA_ren : Go.Shelf.Ren := ⟨fun | 7 => 113 | 10 => 179 | n => n, fun | 23 => 147 | 26 => 3 | 3 => 3 | 28 => 92 | 0 => 0 | 27 => 91 | 33 => 150 | 4 => 4 | n => n, fun | n => n⟩
theorem Tryz.keysA : Go.Proofs.SlLaysZI.n7 Tryz.prog Tryz.keysA_ren := {
  mixed := by kernel_rfl
  f7 := ⟨Tryz.f113.name, by decide, Tryz.func113.trans (congrArg some (by kernel_rfl))⟩
  f10 := ⟨Tryz.f179.name, by decide, Tryz.func179.trans (congrArg some (by kernel_rfl))⟩
  t0 := Tryz.underlying0
  a0 := Tryz.isAgg0
  z0 := Tryz.sizeOf0
  v0 := Tryz.zeroValue0
  t4 := Tryz.underlying4
  a4 := Tryz.isAgg4
  z4 := Tryz.sizeOf4
  v4 := Tryz.zeroValue4
  t23 := Tryz.underlying147
  a23 := Tryz.isAgg147
  z23 := Tryz.sizeOf147
  v23 := Tryz.zeroValue147
  t26 := Tryz.underlying3
  a26 := Tryz.isAgg3
  z26 := Tryz.sizeOf3
  v26 := Tryz.zeroValue3
  t27 := Tryz.underlying91
  a27 := Tryz.isAgg91
  z27 := Tryz.sizeOf91
  v27 := Tryz.zeroValue91
  t28 := Tryz.underlying92
  a28 := Tryz.isAgg92
  z28 := Tryz.sizeOf92
  v28 := Tryz.zeroValue92
  t33 := Tryz.underlying150
  a33 := Tryz.isAgg150
  z33 := Tryz.sizeOf150
  v33 := Tryz.zeroValue150 }
def Tryz.sortedA_ren : Go.Shelf.Ren := ⟨fun | 6 => 112 | 8 => 47 | 9 => 178 | 11 => 114 | 13 => 227 | 12 => 226 | 23 => 266 | 24 => 267 | 14 => 258 | 15 => 259 | 16 => 260 | 17 => 261 | 18 => 262 | 19 => 263 | 20 => 228 | 21 => 264 | 22 => 265 | 25 => 286 | 26 => 287 | 27 => 288 | 28 => 289 | 29 => 290 | 30 => 268 | 31 => 307 | n => n, fun | 26 => 3 | 28 => 92 | 24 => 79 | 0 => 0 | 3 => 3 | 37 => 269 | 48 => 291 | 50 => 43 | 4 => 4 | 40 => 314 | 39 => 313 | 45 => 238 | 5 => 5 | 9 => 9 | 51 => 328 | 55 => 331 | 57 => 349 | 58 => 157 | 33 => 150 | n => n, fun | n => n⟩
theorem Tryz.sortedA : Go.Proofs.SlLaysZI.n6 Tryz.prog Tryz.sortedA_ren := {
  mixed := by kernel_rfl
  f6 := ⟨Tryz.f112.name, by decide, Tryz.func112.trans (congrArg some (by kernel_rfl))⟩
  f8 := ⟨Tryz.f47.name, by decide, Tryz.func47.trans (congrArg some (by kernel_rfl))⟩
  f11 := ⟨Tryz.f114.name, by decide, Tryz.func114.trans (congrArg some (by kernel_rfl))⟩
  t0 := Tryz.underlying0
  a0 := Tryz.isAgg0
  z0 := Tryz.sizeOf0
  v0 := Tryz.zeroValue0
  t24 := Tryz.underlying79
  a24 := Tryz.isAgg79
  z24 := Tryz.sizeOf79
  v24 := Tryz.zeroValue79
  t26 := Tryz.underlying3
  a26 := Tryz.isAgg3
  z26 := Tryz.sizeOf3
  v26 := Tryz.zeroValue3
  t28 := Tryz.underlying92
  a28 := Tryz.isAgg92
  z28 := Tryz.sizeOf92
  v28 := Tryz.zeroValue92
  i26 := by kernel_rfl }
end Go.Proofs
