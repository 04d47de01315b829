import Derived.Test.YtieapebabncliaaX0
import Derived.Test.YtieapebabncliaaX4
namespace Go.Proofs.Ytieapebabncliaa.X
open Go.RowKit Go.Proofs.YtieapebabncliaaW.PrintWords Go.Proofs.YtieapebabncliaaW.PrintLast Go.Proofs.YtieapebabncliaaW.PrintMore
set_option linter.unusedVariables false
set_option linter.unusedSimpArgs false
theorem opens34 : Opens Try.prog 34 (Kd.int .u32) (GInt .u32) := opens_int Try.underlying34
theorem opens36 : Opens Try.prog 36 k36 (fun x => (GInt .u32) x.f0 ∧ (GInt .u32) x.f1) := opens_iso (fun a => ⟨a.1, a.2⟩) (fun _ => rfl) (opens_pair Try.underlying36 (by kernel_rfl) rfl rfl (by kernel_rfl) (by kernel_rfl) opens34 opens34)
theorem opens26 : Opens Try.prog 26 (Kd.slice 36 k36) (GAll (fun x => (GInt .u32) x.f0 ∧ (GInt .u32) x.f1)) := opens_slice Try.underlying26 (by kernel_rfl) opens36
theorem opens47 : Opens Try.prog 47 k47 (fun x => (GAll (fun x => (GInt .u32) x.f0 ∧ (GInt .u32) x.f1)) x.f0 ∧ (GAll (fun x => (GInt .u32) x.f0 ∧ (GInt .u32) x.f1)) x.f1) := opens_iso (fun a => ⟨a.1, a.2⟩) (fun _ => rfl) (opens_pair Try.underlying47 (by kernel_rfl) rfl rfl (by kernel_rfl) (by kernel_rfl) opens26 opens26)
theorem opens44 : Opens Try.prog 44 (Kd.slice 47 k47) (GAll (fun x => (GAll (fun x => (GInt .u32) x.f0 ∧ (GInt .u32) x.f1)) x.f0 ∧ (GAll (fun x => (GInt .u32) x.f0 ∧ (GInt .u32) x.f1)) x.f1)) := opens_slice Try.underlying44 (by kernel_rfl) opens47
end Go.Proofs.Ytieapebabncliaa.X
