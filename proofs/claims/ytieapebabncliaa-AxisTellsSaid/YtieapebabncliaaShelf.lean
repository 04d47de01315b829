/-
  DERIVED: THE SHELF's CONTRACTS AT THIS DUMP, IN PLAIN WORDS (tools/lay-plain.mjs out of 'YtieapebabncliaaShelf.lean', which tools/lay-shelf.mjs wrote): THE SAME DECLARATIONS UNDER THE SAME NAMES: 'import', 'namespace', 'open', 'def', 'theorem' AND NOTHING ELSE: no command of the shelf's: FOR A HAND-IN. Each laying: the table of numbers ('.._ren') and one theorem, a field a fact of the dump's own or the kernel's comparison; each contract: ONE APPLICATION.
-/
import Derived.Shelf.SlGeneric
import Derived.Shelf.SlSortCmp.WholeK
import Derived.Shelf.SlSortCmp.NoneTotal
import Derived.Ground.SlsfProg
import Derived.Test.YtieapebabncliaaProg
namespace Go.Proofs
open Go.Shelf
def Try.sortSpan_ren : Go.Shelf.Ren := ⟨fun | 6 => 42 | 15 => 52 | 14 => 51 | 28 => 64 | 29 => 65 | 20 => 56 | 21 => 57 | 22 => 58 | 23 => 59 | 24 => 60 | 25 => 61 | 26 => 62 | 27 => 63 | 46 => 67 | 47 => 68 | 48 => 69 | 49 => 70 | 50 => 71 | 57 => 72 | n => n, fun | 22 => 26 | 24 => 36 | 25 => 61 | 3 => 3 | 39 => 70 | 0 => 0 | 53 => 34 | 55 => 32 | 4 => 4 | 46 => 76 | 45 => 75 | 50 => 80 | 5 => 5 | 9 => 9 | 66 => 85 | 70 => 89 | 76 => 91 | 77 => 92 | n => n, fun | n => n⟩
theorem Try.sortSpan : Go.Proofs.SlLaysF0.n6 Try.prog Try.sortSpan_ren := {
 mixed := by kernel_rfl
 f6 := ⟨Try.f42.name, by decide, Try.func42.trans (congrArg some (by kernel_rfl))⟩
 f14 := ⟨Try.f51.name, by decide, Try.func51.trans (congrArg some (by kernel_rfl))⟩
 f15 := Try.func52.trans (congrArg some (by kernel_rfl))
 f20 := ⟨Try.f56.name, by decide, Try.func56.trans (congrArg some (by kernel_rfl))⟩
 f21 := ⟨Try.f57.name, by decide, Try.func57.trans (congrArg some (by kernel_rfl))⟩
 f22 := ⟨Try.f58.name, by decide, Try.func58.trans (congrArg some (by kernel_rfl))⟩
 f23 := ⟨Try.f59.name, by decide, Try.func59.trans (congrArg some (by kernel_rfl))⟩
 f24 := ⟨Try.f60.name, by decide, Try.func60.trans (congrArg some (by kernel_rfl))⟩
 f25 := ⟨Try.f61.name, by decide, Try.func61.trans (congrArg some (by kernel_rfl))⟩
 f26 := ⟨Try.f62.name, by decide, Try.func62.trans (congrArg some (by kernel_rfl))⟩
 f27 := ⟨Try.f63.name, by decide, Try.func63.trans (congrArg some (by kernel_rfl))⟩
 f28 := Try.func64.trans (congrArg some (by kernel_rfl))
 f29 := Try.func65.trans (congrArg some (by kernel_rfl))
 f46 := ⟨Try.f67.name, by decide, Try.func67.trans (congrArg some (by kernel_rfl))⟩
 f47 := Try.func68.trans (congrArg some (by kernel_rfl))
 f48 := Try.func69.trans (congrArg some (by kernel_rfl))
 f49 := ⟨Try.f70.name, by decide, Try.func70.trans (congrArg some (by kernel_rfl))⟩
 f50 := ⟨Try.f71.name, by decide, Try.func71.trans (congrArg some (by kernel_rfl))⟩
 f57 := ⟨Try.f72.name, by decide, Try.func72.trans (congrArg some (by kernel_rfl))⟩
 t0 := Try.underlying0
 a0 := Try.isAgg0
 z0 := Try.sizeOf0
 v0 := Try.zeroValue0
 t3 := Try.underlying3
 a3 := Try.isAgg3
 z3 := Try.sizeOf3
 v3 := Try.zeroValue3
 t4 := Try.underlying4
 a4 := Try.isAgg4
 z4 := Try.sizeOf4
 v4 := Try.zeroValue4
 t5 := Try.underlying5
 a5 := Try.isAgg5
 z5 := Try.sizeOf5
 v5 := Try.zeroValue5
 t9 := Try.underlying9
 a9 := Try.isAgg9
 z9 := Try.sizeOf9
 v9 := Try.zeroValue9
 t22 := Try.underlying26
 a22 := Try.isAgg26
 z22 := Try.sizeOf26
 v22 := Try.zeroValue26
 t25 := Try.underlying61
 a25 := Try.isAgg61
 z25 := Try.sizeOf61
 v25 := Try.zeroValue61
 t39 := Try.underlying70
 a39 := Try.isAgg70
 z39 := Try.sizeOf70
 v39 := Try.zeroValue70
 t45 := Try.underlying75
 a45 := Try.isAgg75
 z45 := Try.sizeOf75
 v45 := Try.zeroValue75
 t46 := Try.underlying76
 a46 := Try.isAgg76
 z46 := Try.sizeOf76
 v46 := Try.zeroValue76
 t50 := Try.underlying80
 a50 := Try.isAgg80
 z50 := Try.sizeOf80
 v50 := Try.zeroValue80
 t53 := Try.underlying34
 a53 := Try.isAgg34
 z53 := Try.sizeOf34
 v53 := Try.zeroValue34
 t55 := Try.underlying32
 a55 := Try.isAgg32
 z55 := Try.sizeOf32
 v55 := Try.zeroValue32
 t66 := Try.underlying85
 a66 := Try.isAgg85
 z66 := Try.sizeOf85
 v66 := Try.zeroValue85
 t70 := Try.underlying89
 a70 := Try.isAgg89
 z70 := Try.sizeOf89
 v70 := Try.zeroValue89
 t76 := Try.underlying91
 a76 := Try.isAgg91
 z76 := Try.sizeOf91
 v76 := Try.zeroValue91
 t77 := Try.underlying92
 a77 := Try.isAgg92
 z77 := Try.sizeOf92
 v77 := Try.zeroValue92 }
end Go.Proofs
