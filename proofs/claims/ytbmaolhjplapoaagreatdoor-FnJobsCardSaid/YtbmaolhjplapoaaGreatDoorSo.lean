/-
 DERIVED: THE SHELF's CONTRACTS AT THIS DUMP, IN PLAIN WORDS (tools/lay-plain.mjs out of 'TryzSort.lean', which tools/lay-shelf.mjs wrote): THE SAME DECLARATIONS UNDER THE SAME NAMES: 'import', 'namespace', 'open', 'def', 'theorem' AND NOTHING ELSE: no command of the shelf's: FOR A HAND-IN. Each laying: the table of numbers ('.._ren') and one theorem, a field a fact of the dump's own or the kernel's comparison; each contract: ONE APPLICATION.
-/
import Derived.Shelf.SlGeneric
import Derived.Ground.SlgmProg
import Derived.Shelf.SortM.Plain
import Derived.Test.YtbmaolhjplapoaaGreatDoorProg
namespace Go.Proofs
open Go.Shelf
def Tryz.laysSort_ren : Go.Shelf.Ren := ⟨fun | 5 => 207 | 8 => 225 | 7 => 224 | 19 => 251 | 20 => 237 | 10 => 242 | 11 => 243 | 12 => 244 | 13 => 245 | 14 => 246 | 15 => 247 | 16 => 248 | 17 => 249 | 18 => 250 | 30 => 258 | 31 => 259 | 32 => 260 | 33 => 261 | 34 => 262 | 35 => 204 | 40 => 263 | n => n, fun | 23 => 42 | 25 => 2 | 3 => 3 | 32 => 84 | 22 => 42 | 0 => 0 | 44 => 203 | 46 => 172 | 4 => 4 | 36 => 250 | 35 => 249 | 41 => 254 | 5 => 5 | 9 => 9 | 53 => 265 | 57 => 269 | 63 => 273 | 64 => 274 | n => n, fun | n => n⟩
theorem Tryz.laysSort : Go.Proofs.SlLaysM.n5 Tryz.prog Tryz.laysSort_ren := {
 mixed := by kernel_rfl
 f5 := ⟨Tryz.f207.name, by decide, Tryz.func207.trans (congrArg some (by kernel_rfl))⟩
 f7 := ⟨Tryz.f224.name, by decide, Tryz.func224.trans (congrArg some (by kernel_rfl))⟩
 f8 := Tryz.func225.trans (congrArg some (by kernel_rfl))
 f10 := ⟨Tryz.f242.name, by decide, Tryz.func242.trans (congrArg some (by kernel_rfl))⟩
 f11 := ⟨Tryz.f243.name, by decide, Tryz.func243.trans (congrArg some (by kernel_rfl))⟩
 f12 := ⟨Tryz.f244.name, by decide, Tryz.func244.trans (congrArg some (by kernel_rfl))⟩
 f13 := ⟨Tryz.f245.name, by decide, Tryz.func245.trans (congrArg some (by kernel_rfl))⟩
 f14 := ⟨Tryz.f246.name, by decide, Tryz.func246.trans (congrArg some (by kernel_rfl))⟩
 f15 := ⟨Tryz.f247.name, by decide, Tryz.func247.trans (congrArg some (by kernel_rfl))⟩
 f16 := ⟨Tryz.f248.name, by decide, Tryz.func248.trans (congrArg some (by kernel_rfl))⟩
 f17 := ⟨Tryz.f249.name, by decide, Tryz.func249.trans (congrArg some (by kernel_rfl))⟩
 f18 := ⟨Tryz.f250.name, by decide, Tryz.func250.trans (congrArg some (by kernel_rfl))⟩
 f19 := Tryz.func251.trans (congrArg some (by kernel_rfl))
 f20 := Tryz.func237.trans (congrArg some (by kernel_rfl))
 f30 := ⟨Tryz.f258.name, by decide, Tryz.func258.trans (congrArg some (by kernel_rfl))⟩
 f31 := Tryz.func259.trans (congrArg some (by kernel_rfl))
 f32 := Tryz.func260.trans (congrArg some (by kernel_rfl))
 f33 := ⟨Tryz.f261.name, by decide, Tryz.func261.trans (congrArg some (by kernel_rfl))⟩
 f34 := ⟨Tryz.f262.name, by decide, Tryz.func262.trans (congrArg some (by kernel_rfl))⟩
 f35 := ⟨Tryz.f204.name, by decide, Tryz.func204.trans (congrArg some (by kernel_rfl))⟩
 f40 := ⟨Tryz.f263.name, by decide, Tryz.func263.trans (congrArg some (by kernel_rfl))⟩
 t0 := Tryz.underlying0
 a0 := Tryz.isAgg0
 z0 := Tryz.sizeOf0
 v0 := Tryz.zeroValue0
 t3 := Tryz.underlying3
 a3 := Tryz.isAgg3
 z3 := Tryz.sizeOf3
 v3 := Tryz.zeroValue3
 t4 := Tryz.underlying4
 a4 := Tryz.isAgg4
 z4 := Tryz.sizeOf4
 v4 := Tryz.zeroValue4
 t5 := Tryz.underlying5
 a5 := Tryz.isAgg5
 z5 := Tryz.sizeOf5
 v5 := Tryz.zeroValue5
 t9 := Tryz.underlying9
 a9 := Tryz.isAgg9
 z9 := Tryz.sizeOf9
 v9 := Tryz.zeroValue9
 t22 := Tryz.underlying42
 a22 := Tryz.isAgg42
 z22 := Tryz.sizeOf42
 v22 := Tryz.zeroValue42
 t23 := Tryz.underlying42
 a23 := Tryz.isAgg42
 z23 := Tryz.sizeOf42
 v23 := Tryz.zeroValue42
 t25 := Tryz.underlying2
 a25 := Tryz.isAgg2
 z25 := Tryz.sizeOf2
 v25 := Tryz.zeroValue2
 t32 := Tryz.underlying84
 a32 := Tryz.isAgg84
 z32 := Tryz.sizeOf84
 v32 := Tryz.zeroValue84
 t35 := Tryz.underlying249
 a35 := Tryz.isAgg249
 z35 := Tryz.sizeOf249
 v35 := Tryz.zeroValue249
 t36 := Tryz.underlying250
 a36 := Tryz.isAgg250
 z36 := Tryz.sizeOf250
 v36 := Tryz.zeroValue250
 t41 := Tryz.underlying254
 a41 := Tryz.isAgg254
 z41 := Tryz.sizeOf254
 v41 := Tryz.zeroValue254
 t44 := Tryz.underlying203
 a44 := Tryz.isAgg203
 z44 := Tryz.sizeOf203
 v44 := Tryz.zeroValue203
 t46 := Tryz.underlying172
 a46 := Tryz.isAgg172
 z46 := Tryz.sizeOf172
 v46 := Tryz.zeroValue172
 t53 := Tryz.underlying265
 a53 := Tryz.isAgg265
 z53 := Tryz.sizeOf265
 v53 := Tryz.zeroValue265
 t57 := Tryz.underlying269
 a57 := Tryz.isAgg269
 z57 := Tryz.sizeOf269
 v57 := Tryz.zeroValue269
 t63 := Tryz.underlying273
 a63 := Tryz.isAgg273
 z63 := Tryz.sizeOf273
 v63 := Tryz.zeroValue273
 t64 := Tryz.underlying274
 a64 := Tryz.isAgg274
 z64 := Tryz.sizeOf274
 v64 := Tryz.zeroValue274 }
open Go.RowKit Go.Sort Go.Lib in
theorem Tryz.slices_Sort_int (blk off cap : Nat) (zs : List Int) (w : World) (hH : Holds (Value.int .i64) w blk off zs.toArray) (hblk : blk < w.heap.size) (hsz : zs.length < 4611686018427387904) :
  Calls Tryz.prog 207 #[.slice (some ⟨blk, off, none⟩) zs.length cap] w fun e w' => e = .returned (.tuple #[]) ∧ ∃ n os, w' = grow (putRow (Value.int .i64) (Sort.ahead w n) blk off (zs.mergeSort fun x y => decide (x ≤ y)).toArray) os := AnyM.slices_Sort_int Tryz.laysSort blk off cap zs w hH hblk hsz
end Go.Proofs
