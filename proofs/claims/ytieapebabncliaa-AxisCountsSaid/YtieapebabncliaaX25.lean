-- Written by a program of this session out of the translation. Lean checks it.
import Derived.Test.YtieapebabncliaaX0
import Derived.Test.YtieapebabncliaaX4
namespace Go.Proofs.Ytieapebabncliaa.X
open Go.RowKit Go.Proofs.YtieapebabncliaaW.PrintWords Go.Proofs.YtieapebabncliaaW.PrintLast Go.Proofs.YtieapebabncliaaW.PrintMore
set_option linter.unusedVariables false
set_option linter.unusedSimpArgs false

-- EXTERN
theorem opens34 : Opens Try.prog 34 (Kd.int .u32) (GInt .u32) := opens_int Try.underlying34
theorem opens37 : Opens Try.prog 37 (Kd.slice 34 (Kd.int .u32)) (GAll (GInt .u32)) := opens_slice Try.underlying37 (by kernel_rfl) opens34
theorem opens36 : Opens Try.prog 36 k36 (fun x => (GInt .u32) x.f0 ∧ (GInt .u32) x.f1) := opens_iso (fun a => ⟨a.1, a.2⟩) (fun _ => rfl) (opens_pair Try.underlying36 (by kernel_rfl) rfl rfl (by kernel_rfl) (by kernel_rfl) opens34 opens34)
theorem opens26 : Opens Try.prog 26 (Kd.slice 36 k36) (GAll (fun x => (GInt .u32) x.f0 ∧ (GInt .u32) x.f1)) := opens_slice Try.underlying26 (by kernel_rfl) opens36
theorem opens22 : Opens Try.prog 22 (Kd.slice 26 (Kd.slice 36 k36)) (GAll (GAll (fun x => (GInt .u32) x.f0 ∧ (GInt .u32) x.f1))) := opens_slice Try.underlying22 (by kernel_rfl) opens26
end Go.Proofs.Ytieapebabncliaa.X
