import Derived.Test.YtaiegfeppgaedaaM9
namespace Go.Proofs.Ytaiegfeppgaedaa.Iv
open Go
set_option linter.unusedVariables false
set_option maxRecDepth 100000
theorem ac8 : evCall (run bcfg 400) bcfg.pol ah8 43 8 [(.ptr (.sub 23 (.sub 31 (.own 25))) 0 0), (.list (ints1 .u8 ([97])) false)] = some ⟨(.int .i64 0), au8, [(.sub 23 (.sub 31 (.own 25))), (.sub 23 (.sub 14 (.own 15))), (.sub 23 (.sub 14 (.own 13))), (.sub 43 (.arg 0)), (.sub 43 (.arg 1)), (.sub 43 (.arg 2)), (.sub 43 (.own 79))]⟩ := by kernel_rfl
end Go.Proofs.Ytaiegfeppgaedaa.Iv
