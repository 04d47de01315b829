import Derived.Test.YtaiegfeppgaedaaM9
namespace Go.Proofs.Ytaiegfeppgaedaa.Iv
open Go
set_option linter.unusedVariables false
set_option maxRecDepth 100000
theorem ac3 : evCall (run bcfg 400) bcfg.pol ah3 23 18 [(.int .i64 9), (.int .i64 4)] = some ⟨(.tup [(.ptr (.sub 23 (.sub 14 (.own 15))) 0 0), (.ptr (.sub 23 (.sub 31 (.own 25))) 0 0), (.bool true)]), au3, [(.sub 23 (.sub 14 (.own 15))), (.sub 23 (.sub 14 (.own 13))), (.sub 23 (.sub 31 (.own 25)))]⟩ := by kernel_rfl
end Go.Proofs.Ytaiegfeppgaedaa.Iv
