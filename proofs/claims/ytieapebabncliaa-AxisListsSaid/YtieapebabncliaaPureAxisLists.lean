/- Plain laws about what the printed functions compute. -/
import Derived.Test.YtieapebabncliaaQ5
import Derived.Test.YtieapebabncliaaQ6
import Derived.Test.YtieapebabncliaaX21
namespace Go.Proofs.Ytieapebabncliaa.Pure
open Go.RowKit Go.Proofs.YtieapebabncliaaW.PrintWords Go.Proofs.Ytieapebabncliaa.X
set_option linter.unusedVariables false
set_option linter.unusedSimpArgs false
theorem lists_l0 (ls : List (List S36)) (hn : ls.length ≤ 40) (hl : ∀ l ∈ ls, l.length ≤ 40) (hok : ∀ l ∈ ls, OkL l) : ∀ (d j k : Nat), ls.length - j = d → j ≤ ls.length → 1000002001 + d < k → incipitlaw19_AxisLists.l0 k ls ls (j : Int) = some true := by
  intro d
  induction d with
  | zero =>
    intro j k hd hj hk
    obtain ⟨k, rfl⟩ : ∃ m, k = m + 1 := ⟨k - 1, by omega⟩
    obtain rfl : j = ls.length := by omega
    simp only [incipitlaw19_AxisLists.l0]
    rw [if_neg (by omega), kept_f k ls (by omega) (fun l h => by have := hl l h; omega) (by omega), Option.bind_some, if_pos rfl, awake_f k (by omega)]; rfl
  | succ d ih =>
    intro j k hd hj hk
    obtain ⟨k, rfl⟩ : ∃ m, k = m + 1 := ⟨k - 1, by omega⟩
    have hlt : j < ls.length := by omega
    have hll := hl ls[j] (List.getElem_mem ..)
    have hrl := restF_len ls[j]
    simp only [incipitlaw19_AxisLists.l0]
    rw [if_pos (by omega), if_pos (by omega), if_pos (by omega), rdL ls j hlt, rest_f k _ (by omega) (by omega), Option.bind_some, rrest_f k _ (by omega) (hok _ (List.getElem_mem ..)) (by omega), Option.bind_some, same_t k (by omega) (by omega) rfl, Option.bind_some, if_pos rfl, Option.bind_some, w64 (by omega) (by omega), cast_s]
    exact ih (j + 1) k (by omega) (by omega) (by omega)
theorem AxisLists : incipitlaw19_AxisLists.Pure := by
  intro ls hls
  refine ⟨1000004000, ?_⟩
  generalize hK : 1000004000 = K
  obtain ⟨b, hb, hbb⟩ := long_f K ls (Nat.le_trans hls.1 (by decide)) (by omega)
  unfold incipitlaw19_AxisLists.f
  rw [hb, Option.bind_some]
  cases b with
  | true => rw [if_pos rfl, awake_f K (by omega)]; rfl
  | false =>
    obtain ⟨hn, hl⟩ := hbb rfl
    have hok := okls hls
    have hf := flat_len 40 ls hl
    have hul := union_len ls.flatten
    have hml := meetF_len ls (by omega) (fun l h => by have := hl l h; omega)
    obtain ⟨k, rfl⟩ : ∃ m, K = m + 1 := ⟨K - 1, by omega⟩
    rw [if_neg (by simp), copied_f _ ls (by omega) (fun l h => by have := hl l h; omega) (by omega), Option.bind_some, union_f ls (by omega) (by omega), Option.bind_some, meet_f _ ls (by omega) (fun l h => by have := hl l h; omega) (by omega), Option.bind_some, runion_f _ ls (by omega) (by omega) hok (by omega), Option.bind_some, same_t _ (by omega) (by omega) rfl, Option.bind_some, if_pos rfl, rmeet_f _ ls (by omega) (by omega) hok (by omega), Option.bind_some, same_t _ (by omega) (by omega) rfl, Option.bind_some]
    simp only [incipitlaw19_AxisLists.j0, Bool.not_true, Bool.false_eq_true, if_false, Option.bind_some]
    exact lists_l0 ls hn hl hok ls.length 0 k (by omega) (by omega) (by omega)

end Go.Proofs.Ytieapebabncliaa.Pure
