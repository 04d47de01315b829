/- Plain laws about what the printed functions compute. -/
import Derived.Test.YtieapebabncliaaQ5
import Derived.Test.YtieapebabncliaaQ6
import Derived.Test.YtieapebabncliaaQ4
import Derived.Test.YtieapebabncliaaX24
import Derived.Test.YtieapebabncliaaX22
import Derived.Test.YtieapebabncliaaX23
import Derived.Test.YtieapebabncliaaX18
namespace Go.Proofs.Ytieapebabncliaa.Pure
open Go.RowKit Go.Proofs.YtieapebabncliaaW.PrintWords Go.Proofs.Ytieapebabncliaa.X
set_option linter.unusedVariables false
set_option linter.unusedSimpArgs false
theorem in2_l0 (l : List S36) (hl : l.length < 1000000000) (v : Int) : ∀ (d j k : Nat), l.length - j = d → j ≤ l.length → d < k → incipitlaw19_in.l0 k l v (j : Int) = some (hasb (l.drop j) v) := by
  intro d
  induction d with
  | zero =>
    intro j k hd hj hk
    obtain ⟨k, rfl⟩ : ∃ m, k = m + 1 := ⟨k - 1, by omega⟩
    obtain rfl : j = l.length := by omega
    simp only [incipitlaw19_in.l0]
    rw [if_neg (by omega), List.drop_length]; simp [hasb]
  | succ d ih =>
    intro j k hd hj hk
    obtain ⟨k, rfl⟩ : ∃ m, k = m + 1 := ⟨k - 1, by omega⟩
    have hlt : j < l.length := by omega
    have e : hasb (l.drop j) v = (decide (1 ≤ v) && decide (v ≤ 2147483647) && (decide (l[j].f0 ≤ v) && decide (v ≤ l[j].f1)) || hasb (l.drop (j + 1)) v) := by
      rw [drop_c l j hlt]; unfold hasb; rw [List.any_cons, Bool.and_or_distrib_left]
    simp only [incipitlaw19_in.l0]
    rw [if_pos (by omega), if_pos (by omega), rdT l j hlt, w64 (by omega) (by omega), cast_s, ih (j + 1) k (by omega) (by omega) (by omega), e]
    generalize l[j] = s
    by_cases h0 : s.f0 ≤ v
    · rw [if_pos h0]
      by_cases h1 : v ≤ s.f1
      · rw [if_pos h1]
        by_cases h2 : v ≥ 1
        · rw [if_pos h2]
          by_cases h3 : v ≤ 2147483647
          · rw [if_pos h3]; simp [h0, h1, h3, show 1 ≤ v by omega]
          · rw [if_neg h3]; simp [h3]
        · rw [if_neg h2]; simp [show ¬ 1 ≤ v by omega]
      · rw [if_neg h1]; simp [h1]
    · rw [if_neg h0]; simp [h0]
theorem in2_f (k : Nat) (l : List S36) (v : Int) (hl : l.length < 1000000000) (hk : l.length < k) : incipitlaw19_in.f k l v = some (hasb l v) := by
  unfold incipitlaw19_in.f
  simpa using in2_l0 l hl v l.length 0 k (by omega) (by omega) (by omega)
theorem ids_l0 (ls : List (List S36)) (hn : ls.length ≤ 40) (hl : ∀ l ∈ ls, l.length ≤ 40) : ∀ (d i k : Nat) (out : List Int), ls.length - i = d → i ≤ ls.length → d * 100 + 10 < k → out.length + d * 240 < 1000000 →
    ∃ r, incipitlaw19_ids.l0 k ls out (i : Int) = some r ∧ r.length ≤ out.length + d * 240 := by
  intro d
  induction d with
  | zero =>
    intro i k out hd hi hk ho
    obtain ⟨k, rfl⟩ : ∃ m, k = m + 1 := ⟨k - 1, by omega⟩
    simp only [incipitlaw19_ids.l0]
    rw [if_neg (by omega)]
    exact ⟨out, rfl, by omega⟩
  | succ d ih =>
    intro i k out hd hi hk ho
    obtain ⟨k, rfl⟩ : ∃ m, k = m + 1 := ⟨k - 1, by omega⟩
    have hlt : i < ls.length := by omega
    have hll := hl ls[i] (List.getElem_mem ..)
    simp only [incipitlaw19_ids.l0]
    rw [if_pos (by omega)]
    have inner : ∀ (e j k : Nat) (out : List Int), ls[i].length - j = e → j ≤ ls[i].length → d * 100 + e + 12 < k → out.length + e * 6 + d * 240 < 1000000 → ∃ r, incipitlaw19_ids.l1 k ls out (i : Int) (j : Int) = some r ∧ r.length ≤ out.length + e * 6 + d * 240 := by
      intro e
      induction e with
      | zero =>
        intro j k out he hj hk ho
        obtain ⟨k, rfl⟩ : ∃ m, k = m + 1 := ⟨k - 1, by omega⟩
        simp only [incipitlaw19_ids.l1]
        rw [if_pos (by omega), if_pos (by omega), rdL ls i hlt, if_neg (by omega), w64 (by omega) (by omega), cast_s]
        obtain ⟨r, h1, h2⟩ := ih (i + 1) k out (by omega) (by omega) (by omega) (by omega)
        exact ⟨r, h1, by omega⟩
      | succ e ihe =>
        intro j k out he hj hk ho
        obtain ⟨k, rfl⟩ : ∃ m, k = m + 1 := ⟨k - 1, by omega⟩
        simp only [incipitlaw19_ids.l1, Option.bind_some, List.length_cons, List.length_nil]
        rw [if_pos (by omega), if_pos (by omega), rdL ls i hlt, if_pos (by omega), if_pos (by omega), if_pos (by omega), w64 (x := (j : Int) + 1) (by omega) (by omega), cast_s]
        obtain ⟨r, h1, h2⟩ := ihe (j + 1) k (out ++ [(rd_T36 ls[i] (j : Int)).f0, ((rd_T36 ls[i] (j : Int)).f0 - 1) % 4294967296, ((rd_T36 ls[i] (j : Int)).f0 + 1) % 4294967296, (rd_T36 ls[i] (j : Int)).f1, ((rd_T36 ls[i] (j : Int)).f1 - 1) % 4294967296, ((rd_T36 ls[i] (j : Int)).f1 + 1) % 4294967296]) (by omega) (by omega) (by omega) (by simp only [List.length_append, List.length_cons, List.length_nil]; omega)
        simp only [List.length_append, List.length_cons, List.length_nil] at h2
        exact ⟨r, h1, by omega⟩
    obtain ⟨r, h1, h2⟩ := inner ls[i].length 0 k out (by omega) (by omega) (by omega) (by omega)
    exact ⟨r, h1, by omega⟩
theorem ids_f (k : Nat) (ls : List (List S36)) (more : List Int) (hn : ls.length ≤ 40) (hl : ∀ l ∈ ls, l.length ≤ 40) (hm : more.length ≤ 100) (hk : 100000 < k) : ∃ r, incipitlaw19_ids.f k ls more = some r ∧ r.length ≤ 10000 := by
  unfold incipitlaw19_ids.f
  simp only [Option.bind_some, List.length_cons, List.length_nil]
  rw [if_pos (by omega)]
  have hlen : (([0, 1, 2147483647, 2147483648] : List Int) ++ more).length = more.length + 4 := by simp
  generalize ([0, 1, 2147483647, 2147483648] : List Int) ++ more = out at hlen ⊢
  obtain ⟨r, h1, h2⟩ := ids_l0 ls hn hl ls.length 0 k out (by omega) (by omega) (by omega) (by omega)
  exact ⟨r, h1, by omega⟩
theorem has2_f (l : List S36) (v : Int) (hl : l.length < 100000000) : axis_Has.f l v = some (hasb l v) := by unfold axis_Has.f; rw [if_pos (by omega)]
section
variable (ls : List (List S36)) (hn : ls.length ≤ 40) (hl : ∀ l ∈ ls, l.length ≤ 40) (all : List Int) (hall : all.length ≤ 10000)
include hn hl hall
theorem sets_l0 : ∀ (d i k : Nat), all.length - i = d → i ≤ all.length → 1000003000 + d * 100 < k →
    incipitlaw19_AxisSets.l0 k ls (unionF ls.flatten) (meetF ls) (restF (unionF ls.flatten)) all (i : Int) = some true := by
  have hf := flat_len 40 ls hl
  have lu := union_len ls.flatten
  have lm := meetF_len ls (by omega) (fun l h => by have := hl l h; omega)
  have lr := restF_len (unionF ls.flatten)
  intro d
  induction d with
  | zero =>
    intro i k hd hi hk
    obtain ⟨k, rfl⟩ : ∃ m, k = m + 1 := ⟨k - 1, by omega⟩
    simp only [incipitlaw19_AxisSets.l0]
    rw [if_neg (by omega), awake_f k (by omega)]; rfl
  | succ d ih =>
    intro i k hd hi hk
    obtain ⟨k, rfl⟩ : ∃ m, k = m + 1 := ⟨k - 1, by omega⟩
    simp only [incipitlaw19_AxisSets.l0]
    rw [if_pos (by omega), if_pos (by omega)]
    generalize rd all (i : Int) = v
    have inner : ∀ (e j k n : Nat), ls.length - j = e → j ≤ ls.length → 1000003000 + d * 100 + e + 2 < k → n = (ls.take j).countP (fun l => hasb l v) →
        incipitlaw19_AxisSets.l1 k ls (unionF ls.flatten) (meetF ls) (restF (unionF ls.flatten)) all (i : Int) v (n : Int) (j : Int) = some true := by
      intro e
      induction e with
      | zero =>
        intro j k n he hj hk hnn
        obtain ⟨k, rfl⟩ : ∃ m, k = m + 2 := ⟨k - 2, by omega⟩
        obtain rfl : j = ls.length := by omega
        rw [List.take_length] at hnn
        have hb1 : (hasb (unionF ls.flatten) v) = decide ((n : Int) > 0) := by
          rw [Bool.eq_iff_iff, hasb_in, union_in, inS_flatten, decide_eq_true_eq, hnn]
          have : ((0 : Int) < (ls.countP fun l => hasb l v)) ↔ 0 < ls.countP fun l => hasb l v := by omega
          show _ ↔ ((0 : Int) < _)
          rw [this, List.countP_pos_iff]
          constructor
          · rintro ⟨a, b, _, _, l, hl, h⟩; exact ⟨l, hl, (hasb_in l v).mpr ⟨a, b, h⟩⟩
          · rintro ⟨l, hl, h⟩
            obtain ⟨a, b, c⟩ := (hasb_in l v).mp h
            exact ⟨a, b, a, b, l, hl, c⟩
        have hb2 : 1 ≤ v → v ≤ 2147483647 → (hasb (meetF ls) v) = ((n : Int) == (ls.length : Int)) := by
          intro a b
          rw [Bool.eq_iff_iff, hasb_in, meetF_in, beq_iff_eq, hnn]
          have : (((ls.countP fun l => hasb l v) : Nat) : Int) = (ls.length : Int) ↔ (ls.countP fun l => hasb l v) = ls.length := by omega
          rw [this, List.countP_eq_length]
          constructor
          · rintro ⟨_, _, _, _, h⟩ l hl; exact (hasb_in l v).mpr ⟨a, b, h l hl⟩
          · intro h; exact ⟨a, b, a, b, fun l hl => ((hasb_in l v).mp (h l hl)).2.2⟩
        have hb3 : 1 ≤ v → v ≤ 2147483647 → (hasb (restF (unionF ls.flatten)) v) = ((n : Int) == 0) := by
          intro a b
          have h1 : hasb (restF (unionF ls.flatten)) v = !hasb (unionF ls.flatten) v := by
            rw [Bool.eq_iff_iff, hasb_in, restF_in, Bool.not_eq_true', ← Bool.not_eq_true, hasb_in]
            constructor
            · rintro ⟨_, _, _, _, c⟩ ⟨_, _, d⟩; exact c d
            · intro h; exact ⟨a, b, a, b, fun hn => h ⟨a, b, hn⟩⟩
          rw [h1, hb1, Bool.eq_iff_iff, Bool.not_eq_true', decide_eq_false_iff_not, beq_iff_eq]
          omega
        have off : ¬ (1 ≤ v ∧ v ≤ 2147483647) → ∀ l, hasb l v = false := by
          intro h l
          rw [← Bool.not_eq_true, hasb_in]
          exact fun hh => h ⟨hh.1, hh.2.1⟩
        have go := ih (i + 1) k (by omega) (by omega) (by omega)
        have hw : wrap64 ((i : Int) + 1) = ((i + 1 : Nat) : Int) := by rw [w64 (by omega) (by omega), cast_s]
        simp only [incipitlaw19_AxisSets.l1, incipitlaw19_AxisSets.j4]
        rw [if_neg (by omega)]
        simp only [has2_f (unionF ls.flatten) v (by omega), has2_f (meetF ls) v (by omega), has2_f (restF (unionF ls.flatten)) v (by omega), Option.bind_some, hb1, bne_self_eq_false, Bool.false_eq_true, if_false, hw]
        by_cases h1 : v ≥ 1
        · rw [if_pos h1]
          by_cases h2 : v ≤ 2147483647
          · rw [if_pos (decide_eq_true h2), hb2 h1 h2, if_neg (by simp), hb3 h1 h2, if_neg (by simp)]; exact go
          · rw [if_neg (by simp [h2]), off (fun h => h2 h.2), if_neg (by simp), off (fun h => h2 h.2), if_neg (by simp)]; exact go
        · rw [if_neg h1, off (fun h => h1 h.1), if_neg (by simp), off (fun h => h1 h.1), if_neg (by simp)]; exact go
      | succ e ihe =>
        intro j k n he hj hk hnn
        obtain ⟨k, rfl⟩ : ∃ m, k = m + 1 := ⟨k - 1, by omega⟩
        have hlt : j < ls.length := by omega
        have hll := hl ls[j] (List.getElem_mem ..)
        have hcl : (ls.take j).countP (fun l => hasb l v) ≤ (ls.take j).length := List.countP_le_length
        rw [List.length_take] at hcl
        have hs : (ls.take (j + 1)).countP (fun l => hasb l v) = n + if hasb ls[j] v = true then 1 else 0 := by
          rw [List.take_succ_eq_append_getElem hlt, List.countP_append, ← hnn, List.countP_singleton]
        simp only [incipitlaw19_AxisSets.l1]
        rw [if_pos (by omega), if_pos (by omega), rdL ls j hlt, in2_f k _ v (by omega) (by omega), Option.bind_some, w64 (x := (j : Int) + 1) (by omega) (by omega), cast_s j]
        split
        · rename_i ht
          rw [w64 (by omega) (by omega), cast_s n]
          exact ihe (j + 1) k (n + 1) (by omega) (by omega) (by omega) (by rw [hs, if_pos ht])
        · rename_i ht
          exact ihe (j + 1) k n (by omega) (by omega) (by omega) (by rw [hs, if_neg ht]; omega)
    exact inner ls.length 0 k 0 (by omega) (by omega) (by omega) (by simp)
end
theorem AxisSets : incipitlaw19_AxisSets.Pure := by
  intro ls more hls hmore
  refine ⟨1002006000, ?_⟩
  generalize hK : 1002006000 = K
  obtain ⟨k, rfl⟩ : ∃ m, K = m + 1 := ⟨K - 1, by omega⟩
  have asleep : incipitlaw19_AxisSets.j0 (k + 1) ls more true = some true := by
    simp only [incipitlaw19_AxisSets.j0, if_true]
    rw [awake_f k (by omega)]; rfl
  unfold incipitlaw19_AxisSets.f
  by_cases h1 : (ls.length : Int) > 8
  · rw [if_pos h1]; exact asleep
  · rw [if_neg h1]
    obtain ⟨b, hb, hbb⟩ := long_f (k + 1) ls (by omega) (by omega)
    rw [hb, Option.bind_some]
    cases b with
    | true => rw [if_pos rfl]; exact asleep
    | false =>
      obtain ⟨hn, hl⟩ := hbb rfl
      rw [if_neg (by simp)]
      by_cases h2 : (more.length : Int) > 100
      · rw [decide_eq_true h2]; exact asleep
      · rw [decide_eq_false h2]
        have hf := flat_len 40 ls hl
        have lu := union_len ls.flatten
        have lm := meetF_len ls (by omega) (fun l h => by have := hl l h; omega)
        have lr := restF_len (unionF ls.flatten)
        have can_nn : ∀ l : List S36, X.Can 1 l → ∀ s ∈ l, 0 ≤ s.f0 ∧ 0 ≤ s.f1 := fun l h s hs => by have := Can_mem h hs; omega
        obtain ⟨m1, g1, e1⟩ := may_f k (unionF ls.flatten) (by omega) (can_nn _ (union_can _)) (by omega)
        obtain ⟨m2, g2, e2⟩ := may_f k (meetF ls) (by omega) (can_nn _ (meetF_can _)) (by omega)
        obtain ⟨m3, g3, e3⟩ := may_f k (restF (unionF ls.flatten)) (by omega) (can_nn _ (restF_can _)) (by omega)
        obtain rfl := e1.mpr (union_can _)
        obtain rfl := e2.mpr (meetF_can _)
        obtain rfl := e3.mpr (restF_can _)
        simp only [incipitlaw19_AxisSets.j0, Bool.false_eq_true, if_false]
        rw [union_f ls (by omega) (by omega), Option.bind_some, meet_f k ls (by omega) (fun l h => by have := hl l h; omega) (by omega), Option.bind_some, Option.bind_some, rest_f k _ (by omega) (by omega), Option.bind_some, g1, Option.bind_some, if_pos rfl, g2, Option.bind_some, if_pos rfl, g3, Option.bind_some]
        obtain ⟨k, rfl⟩ : ∃ m, k = m + 1 := ⟨k - 1, by omega⟩
        simp only [incipitlaw19_AxisSets.j1, Bool.not_true, Bool.false_eq_true, if_false]
        obtain ⟨all, ha, hal⟩ := ids_f k ls more hn hl (by omega) (by omega)
        rw [ha, Option.bind_some]
        exact sets_l0 ls hn hl all hal all.length 0 k (by omega) (by omega) (by omega)

end Go.Proofs.Ytieapebabncliaa.Pure
