import Derived.Test.YtieapebabncliaaX0
import Derived.Test.YtieapebabncliaaX10
import Derived.Test.YtieapebabncliaaX16
namespace Go.Proofs.Ytieapebabncliaa.X
open Go.RowKit Go.Proofs.YtieapebabncliaaW.PrintWords Go.Proofs.YtieapebabncliaaW.PrintLast Go.Proofs.YtieapebabncliaaW.PrintMore
attribute [local go_sem] max2_int min2_int max_two min_two max_three min_three max_four min_four
set_option linter.unusedVariables false
set_option linter.unusedSimpArgs false
def incipitref19_Of.l0 : Nat → List Int → List (S36) → Int → Option ((List (S36)))
 | 0, _, _, _ => none
 | k + 1, x0, x3, x4 => if x4 < (x0.length : Int) then (if 0 ≤ x4 then (if x3.length < 17592186044416 then (incipitref19_Of.l0 k x0 (x3 ++ [(⟨rd x0 x4, rd x0 x4⟩ : S36)]) (wrap64 (x4 + 1))) else (none)) else (none)) else ((rf_Union.f k (([x3] : List (List (S36))))).bind fun t400 => (some t400))
def incipitref19_Of.f (k : Nat) (l0 : List Int) : Option ((List (S36))) := incipitref19_Of.l0 k l0 ([] : List (S36)) 0
def incipitref19_May.f (k : Nat) (l0 : List (S36)) : Option (Bool) := (rf_Union.f k (([l0] : List (List (S36))))).bind fun t406 => ((rf_Same.f k l0 t406).bind fun t409 => (some t409))
def incipitref19_Count.l0 : Nat → Int → List (S36) → Int → Option (Int)
 | 0, _, _, _ => none
 | k + 1, x3, x4, x5 => if x5 < (x4.length : Int) then (if 0 ≤ x5 then (incipitref19_Count.l0 k (IntKind.u64.wrap ((IntKind.u64.wrap ((IntKind.u64.wrap (x3 + (IntKind.u64.wrap ((rd_T36 x4 x5).f1)))) - (IntKind.u64.wrap ((rd_T36 x4 x5).f0)))) + 1)) x4 (wrap64 (x5 + 1))) else (none)) else (some x3)
def incipitref19_Count.f (k : Nat) (l0 : List (S36)) : Option (Int) := (rf_Union.f k (([l0] : List (List (S36))))).bind fun t413 => (incipitref19_Count.l0 k 0 t413 0)
end Go.Proofs.Ytieapebabncliaa.X
