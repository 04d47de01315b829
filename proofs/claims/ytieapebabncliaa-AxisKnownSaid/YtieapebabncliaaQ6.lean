/- Plain laws about what the printed functions compute. -/
import Derived.Test.YtieapebabncliaaQ4
import Derived.Test.YtieapebabncliaaX19
import Derived.Test.YtieapebabncliaaX20
namespace Go.Proofs.Ytieapebabncliaa.X
open Go.RowKit Go.Proofs.YtieapebabncliaaW.PrintWords Go.Proofs.Ytieapebabncliaa.X
set_option linter.unusedVariables false
set_option linter.unusedSimpArgs false
theorem long_l0 (ls : List (List S36)) (hm : ls.length ≤ 9223372036854775807) : ∀ (d i k : Nat), 41 - i = d → i ≤ 41 → 2 * d + 4 < k →
  ∃ b, incipitlaw19_long.l0 k ls (i : Int) = some b ∧ (b = false → ls.length ≤ 40 ∧ ∀ l ∈ ls.drop i, l.length ≤ 40) := by
 intro d
 induction d with
 | zero =>
  intro i k hd hi hk
  obtain ⟨k, rfl⟩ : ∃ m, k = m + 2 := ⟨k - 2, by omega⟩
  obtain rfl : i = 41 := by omega
  simp only [incipitlaw19_long.l0, incipitlaw19_long.j1]
  by_cases h : 41 < ls.length
  ·rw [if_pos (by omega), if_neg (by simp)]
   exact ⟨_, rfl, fun hb => by have := of_decide_eq_false hb; omega⟩
  ·rw [if_neg (by omega), if_neg (by simp)]
   exact ⟨_, rfl, fun hb => by have := of_decide_eq_false hb; exact ⟨by omega, by rw [List.drop_eq_nil_of_le (by omega)]; simp⟩⟩
 | succ d ih =>
  intro i k hd hi hk
  obtain ⟨k, rfl⟩ : ∃ m, k = m + 2 := ⟨k - 2, by omega⟩
  simp only [incipitlaw19_long.l0, incipitlaw19_long.j1]
  by_cases h : i < ls.length
  ·rw [if_pos (by omega), if_pos (decide_eq_true (by omega)), if_pos (by omega), if_pos (by omega), rdL ls i h]
   by_cases h2 : ((ls[i].length : Nat) : Int) > 40
   ·rw [if_pos h2]; exact ⟨true, rfl, fun hb => by cases hb⟩
   ·rw [if_neg h2, w64 (by omega) (by omega), cast_s]
    obtain ⟨b, hb, hbb⟩ := ih (i + 1) k (by omega) (by omega) (by omega)
    refine ⟨b, hb, fun hf => ?_⟩
    obtain ⟨h3, h4⟩ := hbb hf
    refine ⟨h3, ?_⟩
    rw [drop_c ls i h]
    intro l hl
    rcases List.mem_cons.mp hl with rfl | hl
    ·omega
    ·exact h4 l hl
  ·rw [if_neg (by omega), if_neg (by simp)]
   exact ⟨_, rfl, fun hb => by have := of_decide_eq_false hb; exact ⟨by omega, by rw [List.drop_eq_nil_of_le (by omega)]; simp⟩⟩
theorem long_f (k : Nat) (ls : List (List S36)) (hm : ls.length ≤ 9223372036854775807) (hk : 1000 < k) : ∃ b, incipitlaw19_long.f k ls = some b ∧ (b = false → ls.length ≤ 40 ∧ ∀ l ∈ ls, l.length ≤ 40) := by
 unfold incipitlaw19_long.f
 have := long_l0 ls hm 41 0 k (by omega) (by omega) (by omega)
 rw [List.drop_zero] at this
 exact this
theorem kept_l0 (ls : List (List S36)) (hn : ls.length < 1000000) (hl : ∀ l ∈ ls, l.length < 1000000) : ∀ (d j k : Nat), ls.length - j = d → j ≤ ls.length → 1000000 + d < k →
  incipitlaw19_kept.l0 k ls ls (j : Int) = some true := by
 intro d
 induction d with
 | zero =>
  intro j k hd hj hk
  obtain ⟨k, rfl⟩ : ∃ m, k = m + 1 := ⟨k - 1, by omega⟩
  obtain rfl : j = ls.length := by omega
  simp only [incipitlaw19_kept.l0]
  rw [if_neg (by omega)]; simp
 | succ d ih =>
  intro j k hd hj hk
  obtain ⟨k, rfl⟩ : ∃ m, k = m + 1 := ⟨k - 1, by omega⟩
  have hlt : j < ls.length := by omega
  have hll := hl ls[j] (List.getElem_mem ..)
  simp only [incipitlaw19_kept.l0]
  rw [if_pos (by omega), if_pos (by omega), if_pos (by omega), rdL ls j hlt, same_t k (by omega) (by omega) rfl, Option.bind_some, if_pos rfl, w64 (by omega) (by omega), cast_s]
  exact ih (j + 1) k (by omega) (by omega) (by omega)
theorem kept_f (k : Nat) (ls : List (List S36)) (hn : ls.length < 1000000) (hl : ∀ l ∈ ls, l.length < 1000000) (hk : 3000000 < k) : incipitlaw19_kept.f k ls ls = some true := by
 unfold incipitlaw19_kept.f
 exact kept_l0 ls hn hl ls.length 0 k (by omega) (by omega) (by omega)
theorem rmeet_f (k : Nat) (ls : List (List S36)) (hn : ls.length < 1000000) (hf : ls.flatten.length < 100000000) (hok : ∀ l ∈ ls, OkL l) (hk : 600000000 < k) : incipitref19_Meet.f k ls = some (meetF ls) := by
 unfold incipitref19_Meet.f
 rw [made_f k ls 1 hn hf hok hk, Option.bind_some, made1]
theorem meetF_len (ls : List (List S36)) (h : ls.length < 1000) (hn : ∀ l ∈ ls, l.length < 1000) : (meetF ls).length < 2000000 := by
 have hf := flat_len 1000 (ls.map restF) (by
  intro x hx
  obtain ⟨y, hy, rfl⟩ := List.mem_map.mp hx
  have := restF_len y
  have := hn y hy
  omega)
 rw [List.length_map] at hf
 have h1 := union_len (ls.map restF).flatten
 have h2 := restF_len (unionF (ls.map restF).flatten)
 unfold meetF; omega
end Go.Proofs.Ytieapebabncliaa.X
