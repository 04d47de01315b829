import Derived.Test.YtieapebabncliaaX0
import Derived.Test.YtieapebabncliaaX5
namespace Go.Proofs.Ytieapebabncliaa.X
open Go.RowKit Go.Proofs.YtieapebabncliaaW.PrintWords Go.Proofs.YtieapebabncliaaW.PrintLast Go.Proofs.YtieapebabncliaaW.PrintMore
set_option linter.unusedVariables false
set_option linter.unusedSimpArgs false
def axis_Has.f (l0 : List (S36)) (a1 : Int) : Option Bool := if l0.length < 17592186044416 then some (hasb l0 a1) else none
end Go.Proofs.Ytieapebabncliaa.X
