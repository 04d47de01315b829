import Derived.Test.YtaiegfeppgaedaaM9
namespace Go.Proofs.Ytaiegfeppgaedaa.Iv
open Go
set_option linter.unusedVariables false
set_option maxRecDepth 100000
theorem ac12 : evCall (run bcfg 400) bcfg.pol ah12 58 9 [(.ptr (.sub 23 (.sub 31 (.own 25))) 0 0)] = some ⟨(.int .i64 0), au12, [(.sub 23 (.sub 31 (.own 25))), (.sub 23 (.sub 14 (.own 15))), (.sub 23 (.sub 14 (.own 13))), (.sub 43 (.own 79)), (.sub 58 (.arg 0)), (.sub 58 (.arg 1)), (.sub 58 (.arg 2)), (.sub 58 (.arg 3))]⟩ := by kernel_rfl
end Go.Proofs.Ytaiegfeppgaedaa.Iv
