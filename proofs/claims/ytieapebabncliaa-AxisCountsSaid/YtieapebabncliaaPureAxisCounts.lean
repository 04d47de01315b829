/- Plain laws about what the printed functions compute. -/
import Derived.Test.YtieapebabncliaaQ5
import Derived.Test.YtieapebabncliaaQ6
import Derived.Test.YtieapebabncliaaQ7
import Derived.Test.YtieapebabncliaaQ4
import Derived.Test.YtieapebabncliaaX22
namespace Go.Proofs.Ytieapebabncliaa.Pure
open Go.RowKit Go.Proofs.YtieapebabncliaaW.PrintWords Go.Proofs.Ytieapebabncliaa.X
set_option linter.unusedVariables false
set_option linter.unusedSimpArgs false
theorem cmp_l0 (a b t : List S36) (hn : t.length < 1000000) : ∀ (d j k : Nat) (hend : ∀ m, d + m = k → incipitlaw19_AxisCounts.l0 m a b t t (t.length : Int) = some true), t.length - j = d → j ≤ t.length → d < k → incipitlaw19_AxisCounts.l0 k a b t t (j : Int) = some true := by
  intro d
  induction d with
  | zero =>
    intro j k hend hd hj hk
    obtain rfl : j = t.length := by omega
    exact hend k (by omega)
  | succ d ih =>
    intro j k hend hd hj hk
    obtain ⟨k, rfl⟩ : ∃ m, k = m + 1 := ⟨k - 1, by omega⟩
    have hlt : j < t.length := by omega
    simp only [incipitlaw19_AxisCounts.l0]
    rw [if_pos (by omega), if_pos (by omega), if_pos (by omega), if_neg (by simp), w64 (by omega) (by omega), cast_s]
    exact ih (j + 1) k (fun m hm => hend m (by omega)) (by omega) (by omega) (by omega)
theorem AxisCounts : incipitlaw19_AxisCounts.Pure := by
  intro a b ha hb
  refine ⟨1000006000, ?_⟩
  generalize hK : 1000006000 = K
  obtain ⟨k, rfl⟩ : ∃ m, K = m + 1 := ⟨K - 1, by omega⟩
  have asleep : incipitlaw19_AxisCounts.j0 (k + 1) a b true = some true := by
    simp only [incipitlaw19_AxisCounts.j0, if_true]
    rw [awake_f k (by omega)]; rfl
  unfold incipitlaw19_AxisCounts.f
  by_cases h1 : (a.length : Int) > 40
  · rw [if_pos h1]; exact asleep
  · rw [if_neg h1]
    by_cases h2 : (b.length : Int) > 40
    · rw [decide_eq_true h2]; exact asleep
    · rw [decide_eq_false h2]
      have lr := restF_len a
      have lrr := restF_len (restF a)
      have lu := union_len a
      have hback : restF (restF a) = unionF a := Can_uniq (restF_can _) (union_can _) (fun v => by
        rw [restF_in, restF_in, union_in]
        constructor
        · rintro ⟨p, q, h⟩
          exact ⟨p, q, Classical.byContradiction fun hn => h ⟨p, q, hn⟩⟩
        · rintro ⟨p, q, h⟩
          exact ⟨p, q, fun hn => hn.2.2 h⟩)
      have hmeet : meetF [a, restF a] = [] := meet_eq trivial (fun v => by
        rw [inS_nil]
        constructor
        · intro h; exact h.elim
        · rintro ⟨p, q, h⟩
          exact ((restF_in a v).mp (h (restF a) (by simp))).2.2 (h a (by simp)))
      have hsum : sizeF (unionF a) + sizeF (unionF (restF a)) = 2147483647 := by rw [union_cnt, union_cnt, rest_cnt]
      have hs1 := union_size a
      have hs2 := union_size (restF a)
      have two : ∀ x y : List S36, x.length < 1000 → y.length < 1000 → axis_Meet.f k [x, y] = some (meetF [x, y]) := fun x y hx hy => meet_f k [x, y] (show 2 < 1000 by decide) (by
        intro z hz
        simp only [List.mem_cons, List.not_mem_nil, or_false] at hz
        rcases hz with rfl | rfl
        · exact hx
        · exact hy) (by omega)
      simp only [incipitlaw19_AxisCounts.j0, Bool.false_eq_true, if_false]
      rw [rest_f k a (by omega) (by omega), Option.bind_some, rest_f k (restF a) (by omega) (by omega), Option.bind_some, union_f1 a (by omega), Option.bind_some, count_f k a (by omega) (by omega), Option.bind_some, count_f k (restF a) (by omega) (by omega), Option.bind_some, u64w (by omega) (by omega), if_pos hsum, two a (restF a) (by omega) (by omega), Option.bind_some, hmeet, if_pos (by rfl), hback]
      obtain ⟨k, rfl⟩ : ∃ m, k = m + 1 := ⟨k - 1, by omega⟩
      simp only [incipitlaw19_AxisCounts.j1, bne_self_eq_false, Bool.false_eq_true, if_false]
      refine cmp_l0 a b (unionF a) (by omega) (unionF a).length 0 k ?_ (by omega) (by omega) (by omega)
      intro m hm
      obtain ⟨m, rfl⟩ : ∃ q, m = q + 1 := ⟨m - 1, by omega⟩
      have two2 : axis_Meet.f m [a, b] = some (meetF [a, b]) := meet_f m [a, b] (show 2 < 1000 by decide) (by
        intro z hz
        simp only [List.mem_cons, List.not_mem_nil, or_false] at hz
        rcases hz with rfl | rfl <;> omega) (by omega)
      have lm := meetF_len [a, b] (show 2 < 1000 by decide) (by
        intro z hz
        simp only [List.mem_cons, List.not_mem_nil, or_false] at hz
        rcases hz with rfl | rfl <;> omega)
      have lab := union_len (a ++ b)
      rw [List.length_append] at lab
      have eab : axis_Union.f [a, b] = some (unionF (a ++ b)) := by
        rw [union_f [a, b] (by simp) (by simp only [List.flatten_cons, List.flatten_nil, List.length_append, List.length_nil]; omega)]
        simp
      have euu : sizeF (unionF (unionF (a ++ b))) = cnt (hasb (a ++ b)) MXN := by rw [can_self.mpr (union_can _), union_cnt]
      have hp := pair_cnt a b
      have hsz : sizeF (unionF (unionF (a ++ b))) + sizeF (unionF (meetF [a, b])) = sizeF (unionF a) + sizeF (unionF b) := by
        rw [euu, union_cnt, union_cnt a, union_cnt b, hp]
      simp only [incipitlaw19_AxisCounts.l0]
      rw [if_neg (by omega), eab, Option.bind_some, count_f m _ (by omega) (by omega), Option.bind_some, two2, Option.bind_some, count_f m _ (by omega) (by omega), Option.bind_some, count_f m a (by omega) (by omega), Option.bind_some, count_f m b (by omega) (by omega), Option.bind_some, hsz, if_pos rfl, awake_f m (by omega)]
      rfl

end Go.Proofs.Ytieapebabncliaa.Pure
