import Derived.Test.YtieapebabncliaaWInv
import Derived.Test.YtieapebabncliaaWFootNe
namespace Go.Proofs.YtieapebabncliaaW.PrintWords
open Go.RowKit
end Go.Proofs.YtieapebabncliaaW.PrintWords
namespace Go.Proofs.YtieapebabncliaaW.PrintLast
section
variable {ops : Array Oper} {a : Act} {o og : Oper} {g : Nat} {t : Tmp} {u : Bool}
end
end Go.Proofs.YtieapebabncliaaW.PrintLast
