import Derived.Test.YtieapebabncliaaX0
import Derived.Test.YtieapebabncliaaX5
namespace Go.Proofs.Ytieapebabncliaa.X
open Go.RowKit Go.Proofs.YtieapebabncliaaW.PrintWords Go.Proofs.YtieapebabncliaaW.PrintLast Go.Proofs.YtieapebabncliaaW.PrintMore
set_option linter.unusedVariables false
set_option linter.unusedSimpArgs false
def axis_Has.f (l0 : List (S36)) (a1 : Int) : Option Bool := if l0.length < 17592186044416 then some (hasb l0 a1) else none
theorem axis_Has.calls (A0 : Option Addr) (c0 : Nat) (l0 : List (S36)) (a1 : Int) (r : Bool) (w : World) (hr0 : Kd.C k36 w A0 l0.length l0) (hc0 : l0.length ≤ c0) (h : axis_Has.f l0 a1 = some r) :
  Calls Try.prog 26 #[.slice A0 l0.length c0, .int .u32 a1] w fun e w' => e = .returned (.bool r) ∧ Below w.heap.size w w' := by
 unfold axis_Has.f at h
 split at h
 ·obtain rfl := Option.some.inj h
  exact zx_has A0 c0 l0 a1 w hr0 (by assumption)
 ·cases h
end Go.Proofs.Ytieapebabncliaa.X
