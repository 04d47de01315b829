import Derived.Test.YtaiegfeppgaedaaM9
namespace Go.Proofs.Ytaiegfeppgaedaa.Iv
open Go
set_option linter.unusedVariables false
set_option maxRecDepth 100000
theorem ac16 : evCall (run bcfg 400) bcfg.pol ah16 72 8 [(.ptr (.sub 23 (.sub 31 (.own 25))) 0 0), (.sl (.own 71) 0 0 230 1 none)] = some ⟨(.int .i64 7), au16, [(.own 71), (.sub 23 (.sub 31 (.own 25))), (.sub 23 (.sub 14 (.own 15))), (.sub 23 (.sub 14 (.own 13))), (.sub 72 (.arg 0)), (.sub 72 (.arg 1)), (.sub 72 (.arg 2))]⟩ := by kernel_rfl
end Go.Proofs.Ytaiegfeppgaedaa.Iv
