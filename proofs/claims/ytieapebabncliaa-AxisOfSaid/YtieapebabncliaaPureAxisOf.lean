/- Plain laws about what the printed functions compute. -/
import Derived.Test.YtieapebabncliaaQ5
import Derived.Test.YtieapebabncliaaX16
namespace Go.Proofs.Ytieapebabncliaa.Pure
open Go.RowKit Go.Proofs.YtieapebabncliaaW.PrintWords Go.Proofs.Ytieapebabncliaa.X
set_option linter.unusedVariables false
set_option linter.unusedSimpArgs false
theorem gint {v : Int} (h : GInt .u32 v) : 0 ≤ v ∧ v < 4294967296 := by
  unfold GInt Lit.wf at h
  have e1 : IntKind.u32.min = 0 := by decide
  have e2 : IntKind.u32.max = 4294967295 := by decide
  simp only [e1, e2, Bool.and_eq_true, decide_eq_true_eq] at h
  omega
theorem okl {l : List S36} (h : GAll (fun x : S36 => (GInt .u32) x.f0 ∧ (GInt .u32) x.f1) l) : OkL l := fun s hs => by
  have := h.2 s hs
  have a := gint this.1
  have b := gint this.2
  exact ⟨a.1, a.2, b.1, b.2⟩
theorem own_l0 (a : List Int) (ha : a.length < 1000000) : ∀ (d j k : Nat), a.length - j = d → j ≤ a.length → 1000002001 + d < k → incipitlaw19_AxisOf.l0 k a a (j : Int) = some true := by
  intro d
  induction d with
  | zero =>
    intro j k hd hj hk
    obtain ⟨k, rfl⟩ : ∃ m, k = m + 1 := ⟨k - 1, by omega⟩
    obtain rfl : j = a.length := by omega
    simp only [incipitlaw19_AxisOf.l0]
    rw [if_neg (by omega), awake_f k (by omega)]; rfl
  | succ d ih =>
    intro j k hd hj hk
    obtain ⟨k, rfl⟩ : ∃ m, k = m + 1 := ⟨k - 1, by omega⟩
    simp only [incipitlaw19_AxisOf.l0]
    rw [if_pos (by omega), if_pos (by omega), if_pos (by omega), if_pos trivial, w64 (by omega) (by omega), cast_s]
    exact ih (j + 1) k (by omega) (by omega) (by omega)
theorem has_hasb (l : List S36) (v : Int) (hl : l.length < 1000000) : axis_Has.f l v = some (hasb l v) := by unfold axis_Has.f; rw [if_pos (by omega)]
theorem AxisOf : incipitlaw19_AxisOf.Pure := by
  intro ids l id hids hl hid
  refine ⟨1000004000 + ids.length, ?_⟩
  generalize hK : 1000004000 + ids.length = K
  unfold incipitlaw19_AxisOf.f
  obtain ⟨k, rfl⟩ : ∃ m, K = m + 1 := ⟨K - 1, by omega⟩
  by_cases h200 : (ids.length : Int) > 200
  · rw [if_pos h200]
    simp only [incipitlaw19_AxisOf.j0, if_true]
    rw [awake_f k (by omega)]; rfl
  · rw [if_neg h200]
    by_cases h40 : (l.length : Int) > 40
    · simp only [incipitlaw19_AxisOf.j0, decide_eq_true h40, if_true]
      rw [awake_f k (by omega)]; rfl
    · have hu : ∀ v ∈ ids, 0 ≤ v ∧ v < 4294967296 := fun v hv => gint (hids.2 v hv)
      have hok := okl hl
      obtain ⟨m1, g1, h1⟩ := may_f k l (by omega) (OkL_nat hok) (by omega)
      obtain ⟨m2, g2, h2⟩ := rmay_f k l (by omega) hok (by omega)
      have hm : m1 = m2 := by rw [Bool.eq_iff_iff, h1, h2]
      have hul := union_len (spansOf ids)
      have hsl : (spansOf ids).length = ids.length := by unfold spansOf; rw [List.length_map]
      simp only [incipitlaw19_AxisOf.j0, decide_eq_false h40, Bool.false_eq_true, if_false, Option.bind_some, List.length_nil, Nat.zero_add, List.nil_append]
      rw [if_pos (by omega)]
      rw [of_f k ids (by omega) (by omega), Option.bind_some, rof_f k ids (by omega) hu (by omega), Option.bind_some, same_t k (by omega) (by omega) rfl, Option.bind_some, if_pos rfl]
      rw [g1, Option.bind_some, g2, Option.bind_some, hm, if_neg (by simp)]
      rw [count_f k l (by omega) (by omega), Option.bind_some, rcount_f k l (by omega) hok (by omega), Option.bind_some, if_pos rfl]
      rw [has_hasb l id (by omega), Option.bind_some, has_f k l id (by omega) (by omega), Option.bind_some]
      obtain ⟨k, rfl⟩ : ∃ m, k = m + 1 := ⟨k - 1, by omega⟩
      simp only [incipitlaw19_AxisOf.j1, bne_self_eq_false, Bool.false_eq_true, if_false]
      exact own_l0 ids (by omega) ids.length 0 k (by omega) (by omega) (by omega)

end Go.Proofs.Ytieapebabncliaa.Pure
