import Derived.Test.YtieapebabncliaaX0
namespace Go.Proofs.Ytieapebabncliaa.X
open Go.RowKit Go.Proofs.YtieapebabncliaaW.PrintWords Go.Proofs.YtieapebabncliaaW.PrintLast Go.Proofs.YtieapebabncliaaW.PrintMore
set_option linter.unusedVariables false
set_option linter.unusedSimpArgs false
set_option maxHeartbeats 400000 in
theorem zx_grow (n : Int) (w : World) (h0 : 0 ≤ n) (hn : n < 17592186044416) :
  Calls Try.prog 50 #[.slice none 0 0, .int .i64 n] w fun e w' => ∃ v0_ : Value, e = .returned (v0_) ∧ Kd.R k36 36 w' w.heap.size (fun _ => True) v0_ [] ∧ Below w.heap.size w w' := by
 have huS := Try.underlying36
 by_cases hz : n = 0
 ·subst hz
  go_enter Try.func50, Try.ntmps50
  go_wp2
  go_ret
  exact ⟨_, rfl, Kd.R_nil _ _ _ _ _, Below.refl _ _⟩
 ·have h1 : 0 < n := by omega
  clear hz
  go_enter Try.func50, Try.ntmps50
  go_wp2_with (first | ((with_reducible refine gate_builtin (b := .append) (xs := #[.tmp 20, .tmp 21]) rfl ?_); refine Kd.R_append_zeros k36 (w0 := w) w.heap.size rfl (.tmp 20) (.tmp 21) 26 3 36 (.agg #[(.int .u32 0), (.int .u32 0)]) 8 rfl Try.underlying26 Try.underlying3 info36 rfl (by decide) (by decide) (.slice none 0 0) [] z36 n (fun _ => True) rfl rfl (k36_mkM _ _ _ _) (fun _ _ => trivial) (Kd.R_nil _ _ _ _ _) h0 (Below.refl _ _) (Nat.le_refl _) (by simp only [List.length_nil]; omega) ?_))
  intro v1 w1 ho hb hg hat
  obtain ⟨A, c, rfl⟩ := Kd.R_slice ho
  have HO := Sd.mk (Kd.R_take (m := 0) ho (Nat.zero_le _))
  have HB := Sd.mk hb
  clear ho hb hg hat
  go_wp2
  go_ret
  exact ⟨_, rfl, HO.out, HB.out⟩
def api_Span_50_nil.f (a1 : Int) : Option (List (S36)) := if 0 ≤ a1 then if a1 < 17592186044416 then some [] else none else none
theorem api_Span_50_nil.calls (a1 : Int) (r : List (S36)) (w : World) (h : api_Span_50_nil.f a1 = some r) :
  Calls Try.prog 50 #[.slice none 0 0, .int .i64 a1] w fun e w' => ∃ v0_ : Value, e = .returned (v0_) ∧ Kd.R k36 36 w' w.heap.size (fun _ => True) v0_ r ∧ Below w.heap.size w w' := by
 unfold api_Span_50_nil.f at h
 split at h
 ·split at h
  ·obtain rfl := Option.some.inj h
   exact zx_grow a1 w (by assumption) (by assumption)
  ·cases h
 ·cases h
end Go.Proofs.Ytieapebabncliaa.X
