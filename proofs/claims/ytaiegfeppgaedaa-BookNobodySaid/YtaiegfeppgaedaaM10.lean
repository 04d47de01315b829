import Derived.Test.YtaiegfeppgaedaaM9
namespace Go.Proofs.Ytaiegfeppgaedaa.Iv
open Go
set_option linter.unusedVariables false
set_option maxRecDepth 100000
theorem ac0 : evCall (run bcfg 400) bcfg.pol ah0 7 16 [(.int .i64 9)] = some ⟨(.tup [(.ptr (.sub 7 (.own 15)) 0 0), (.int .i64 0)]), au0, [(.sub 7 (.own 15)), (.sub 7 (.own 13))]⟩ := by kernel_rfl
theorem ac1 : evCall (run bcfg 400) bcfg.pol ah1 14 14 [(.ptr (.sub 7 (.own 15)) 0 0), (.int .i64 7)] = some ⟨(.int .i64 1), au1, [(.sub 7 (.own 15)), (.sub 7 (.own 13)), (.sub 14 (.arg 0)), (.sub 14 (.arg 1))]⟩ := by kernel_rfl
theorem ac2 : evCall (run bcfg 400) bcfg.pol ah2 19 14 [(.ptr (.sub 7 (.own 15)) 0 0), (.int .i64 0)] = some ⟨(.int .i64 1), au2, [(.sub 7 (.own 15)), (.sub 7 (.own 13)), (.sub 19 (.arg 0)), (.sub 19 (.arg 1))]⟩ := by kernel_rfl
theorem ac4 : evCall (run bcfg 400) bcfg.pol ah4 31 10 [(.ptr (.sub 23 (.sub 31 (.own 25))) 0 0)] = some ⟨(.int .i64 0), [], [(.sub 23 (.sub 31 (.own 25)))]⟩ := by kernel_rfl
theorem ac5 : evCall (run bcfg 400) bcfg.pol ah4 36 12 [(.ptr (.sub 23 (.sub 31 (.own 25))) 0 0), (.int .i64 4), (.int .i64 3)] = some ⟨(.bool true), au5, [(.sub 23 (.sub 31 (.own 25))), (.sub 23 (.sub 14 (.own 15))), (.sub 23 (.sub 14 (.own 13))), (.sub 36 (.arg 0)), (.sub 36 (.arg 1)), (.sub 36 (.arg 2))]⟩ := by kernel_rfl
theorem ac6 : evBuildSlice Try.prog ah6 41 22 1 [(0, (.int .u8 97))] = some ⟨(.sl (.own 41) 0 0 1 1 (some 1)), au6, [(.own 41)]⟩ := by kernel_rfl
theorem ac7 : evConvert Try.prog ah7 22 22 (.sl (.own 41) 0 0 1 1 (some 1)) = some ⟨(.list (ints1 .u8 ([97])) false), au7, [(.own 41)]⟩ := by kernel_rfl
theorem ac9 : evMakeSlice Try.prog ah9 48 22 (.int .i64 70) (.int .i64 70) = some ⟨(.sl (.own 48) 0 0 70 1 none), au9, [(.own 48)]⟩ := by kernel_rfl
theorem ac11 : evCall (run bcfg 400) bcfg.pol ah11 54 12 [(.ptr (.sub 23 (.sub 31 (.own 25))) 0 0), (.int .i64 1), (.int .i64 3)] = some ⟨(.bool true), au11, [(.sub 23 (.sub 31 (.own 25))), (.sub 23 (.sub 14 (.own 15))), (.sub 23 (.sub 14 (.own 13))), (.sub 43 (.own 79)), (.sub 54 (.arg 0)), (.sub 54 (.arg 1)), (.sub 54 (.arg 2)), (.sub 54 (.arg 3))]⟩ := by kernel_rfl
theorem ac13 : evCall (run bcfg 400) bcfg.pol ah13 62 11 [(.ptr (.sub 23 (.sub 31 (.own 25))) 0 0)] = some ⟨(.int .i64 2), au13, [(.sub 23 (.sub 31 (.own 25))), (.sub 23 (.sub 14 (.own 15))), (.sub 23 (.sub 14 (.own 13))), (.sub 62 (.arg 0)), (.sub 62 (.arg 1)), (.sub 62 (.arg 2))]⟩ := by kernel_rfl
theorem ac14 : evCall (run bcfg 400) bcfg.pol ah14 67 12 [(.ptr (.sub 23 (.sub 31 (.own 25))) 0 0), (.int .i64 4), (.int .i64 1)] = some ⟨(.bool true), au14, [(.sub 23 (.sub 31 (.own 25))), (.sub 23 (.sub 14 (.own 15))), (.sub 23 (.sub 14 (.own 13))), (.sub 67 (.arg 0)), (.sub 67 (.arg 1)), (.sub 67 (.arg 2))]⟩ := by kernel_rfl
theorem ac15 : evMakeSlice Try.prog ah15 71 22 (.int .i64 230) (.int .i64 230) = some ⟨(.sl (.own 71) 0 0 230 1 none), au15, [(.own 71)]⟩ := by kernel_rfl
theorem ac17 : evCall (run bcfg 400) bcfg.pol ah17 77 10 [(.ptr (.sub 23 (.sub 31 (.own 25))) 0 0)] = some ⟨(.int .i64 2), [], [(.sub 23 (.sub 31 (.own 25)))]⟩ := by kernel_rfl
end Go.Proofs.Ytaiegfeppgaedaa.Iv
