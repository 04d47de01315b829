-- PRINTED BY print.sh 35421559b90ae4d0a3588c463048766b98c2df88dd9212a6774a882060cdf62d: not written by this session
import Derived.Test.YtieapebabncliaaWInv
import Derived.Test.YtieapebabncliaaWFootNe
namespace Go.Proofs.YtieapebabncliaaW.PrintWords
open Go.RowKit
end Go.Proofs.YtieapebabncliaaW.PrintWords
namespace Go.Proofs.YtieapebabncliaaW.PrintLast
section
variable {ops : Array Oper} {a : Act} {o og : Oper} {g : Nat} {t : Tmp} {u : Bool}
end
end Go.Proofs.YtieapebabncliaaW.PrintLast
