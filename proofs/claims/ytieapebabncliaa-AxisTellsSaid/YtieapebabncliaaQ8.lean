/- Plain laws about what the printed functions compute. -/
import Derived.Test.YtieapebabncliaaQ2
import Derived.Test.YtieapebabncliaaX14
import Derived.Test.YtieapebabncliaaX13
import Derived.Test.YtieapebabncliaaX12
import Derived.Test.YtieapebabncliaaX16
import Derived.Test.YtieapebabncliaaX17
import Derived.Test.YtieapebabncliaaX15
namespace Go.Proofs.Ytieapebabncliaa.X
open Go.RowKit Go.Proofs.YtieapebabncliaaW.PrintWords Go.Proofs.Ytieapebabncliaa.X
set_option linter.unusedVariables false
set_option linter.unusedSimpArgs false
theorem hasb_in (l : List S36) (v : Int) : hasb l v = true ↔ 1 ≤ v ∧ v ≤ 2147483647 ∧ inS l v := by
 unfold hasb inS
 simp only [Bool.and_eq_true, decide_eq_true_eq, List.any_eq_true, and_assoc]
theorem rdK (l : List S47) (j : Nat) (h : j < l.length) : rd_T47 l (j : Int) = l[j] := by unfold rd_T47; simp [h]
theorem parted_l0 (l : List S47) (hl : l.length < 1000000) : ∀ (d j k : Nat) (a b : List (List S36)), l.length - j = d → j ≤ l.length → d < k → a = (l.take j).map (·.f0) → b = (l.take j).map (·.f1) →
  axis_parted.l0 k a b l (l.length : Int) (j : Int) = some (l.map (·.f0), l.map (·.f1)) := by
 intro d
 induction d with
 | zero =>
  intro j k a b hd hj hk ha hb
  obtain ⟨k, rfl⟩ : ∃ m, k = m + 1 := ⟨k - 1, by omega⟩
  obtain rfl : j = l.length := by omega
  rw [List.take_length] at ha hb
  simp only [axis_parted.l0]
  rw [if_neg (by omega), ha, hb]
 | succ d ih =>
  intro j k a b hd hj hk ha hb
  obtain ⟨k, rfl⟩ : ∃ m, k = m + 1 := ⟨k - 1, by omega⟩
  have hlt : j < l.length := by omega
  have hal : a.length = j := by rw [ha, List.length_map, List.length_take]; omega
  have hbl : b.length = j := by rw [hb, List.length_map, List.length_take]; omega
  simp only [axis_parted.l0, Option.bind_some, List.length_singleton]
  rw [if_pos (by omega), if_pos (by omega), if_pos (by omega), if_pos (by omega), if_pos (by omega), rdK l j hlt, w64 (by omega) (by omega), cast_s]
  exact ih (j + 1) k _ _ (by omega) (by omega) (by omega) (by rw [List.take_succ_eq_append_getElem hlt, List.map_append, ha]; rfl) (by rw [List.take_succ_eq_append_getElem hlt, List.map_append, hb]; rfl)
theorem parted_f (k : Nat) (l : List S47) (hl : l.length < 1000000) (hk : l.length < k) : axis_parted.f k l = some (l.map (·.f0), l.map (·.f1)) := by
 unfold axis_parted.f
 exact parted_l0 l hl l.length 0 k [] [] (by omega) (by omega) (by omega) rfl rfl
theorem and_f (k : Nat) (l : List S47) (hl : l.length < 1000) (hn : ∀ x ∈ l, x.f0.length < 1000 ∧ x.f1.length < 1000) (hk : 1000001000 < k) : axis_And.f k l = some (meetF (l.map (·.f0)), unionF (l.map (·.f1)).flatten) := by
 unfold axis_And.f
 have hm : ∀ x ∈ l.map (·.f1), x.length ≤ 1000 := fun x hx => by obtain ⟨y, hy, rfl⟩ := List.mem_map.mp hx; exact Nat.le_of_lt (hn y hy).2
 have hf := flat_len 1000 (l.map (·.f1)) hm
 rw [List.length_map] at hf
 rw [parted_f k l (by omega) (by omega), Option.bind_some, meet_f k _ (by simpa using hl) (fun x hx => by obtain ⟨y, hy, rfl⟩ := List.mem_map.mp hx; exact (hn y hy).1) hk, Option.bind_some]
 dsimp only
 rw [union_f _ (by rw [List.length_map]; omega) (by omega), Option.bind_some]
theorem meet_eq {l : List (List S36)} {r : List S36} (hc : Can 1 r) (h : ∀ v, inS r v ↔ 1 ≤ v ∧ v ≤ 2147483647 ∧ ∀ x ∈ l, inS x v) : meetF l = r :=
 Can_uniq (meetF_can l) hc (fun v => by rw [meetF_in, h])
theorem rest_eq {l : List S36} {r : List S36} (hc : Can 1 r) (h : ∀ v, inS r v ↔ 1 ≤ v ∧ v ≤ 2147483647 ∧ ¬ inS l v) : restF l = r :=
 Can_uniq (restF_can l) hc (fun v => by rw [restF_in, h])
theorem ex_of : unionF (spansOf [5, 3, 4, 9, 0]) = [⟨3, 5⟩, ⟨9, 9⟩] := union_eq (by simp [Can]) (fun v => by simp only [spansOf, List.map_cons, List.map_nil, inS_cons, inS_nil, or_false]; omega)
theorem ex_union : unionF [⟨1, 3⟩, ⟨4, 6⟩] = [⟨1, 6⟩] := union_eq (by simp [Can]) (fun v => by simp only [inS_cons, inS_nil, or_false]; omega)
theorem ex_none : unionF [⟨4, 2⟩] = [] := union_eq (by simp [Can]) (fun v => by simp only [inS_cons, inS_nil, or_false, false_iff]; omega)
theorem ex_meet : meetF [[⟨1, 5⟩], [⟨4, 9⟩]] = [⟨4, 5⟩] := meet_eq (by simp [Can]) (fun v => by simp only [List.mem_cons, List.not_mem_nil, or_false, forall_eq_or_imp, forall_eq, inS_cons, inS_nil]; omega)
theorem ex_meet0 : meetF [] = [⟨1, 2147483647⟩] := meet_eq (by simp [Can]) (fun v => by simp only [List.not_mem_nil, false_implies, implies_true, and_true, inS_cons, inS_nil, or_false])
theorem ex_rest : restF [] = [⟨1, 2147483647⟩] := rest_eq (by simp [Can]) (fun v => by simp only [inS_cons, inS_nil, or_false, not_false_eq_true, and_true])
theorem ex_count : unionF [⟨3, 5⟩, ⟨4, 9⟩] = [⟨3, 9⟩] := union_eq (by simp [Can]) (fun v => by simp only [inS_cons, inS_nil, or_false]; omega)
theorem ex_yes : meetF [[⟨1, 5⟩], [⟨1, 3⟩]] = [⟨1, 3⟩] := meet_eq (by simp [Can]) (fun v => by simp only [List.mem_cons, List.not_mem_nil, or_false, forall_eq_or_imp, forall_eq, inS_cons, inS_nil]; omega)
theorem ex_no : unionF [⟨6, 9⟩, ⟨4, 4⟩] = [⟨4, 4⟩, ⟨6, 9⟩] := union_eq (by simp [Can]) (fun v => by simp only [inS_cons, inS_nil, or_false]; omega)
theorem one_f (a b : Int) : lw_one.f a b = some [⟨a, b⟩] := rfl
theorem awake_f (k : Nat) (hk : 1000002000 < k) : incipitlaw19_awake.f k = some true := by
 have e1 := of_f k [5, 3, 4, 9, 0] (by decide) (Nat.lt_trans (by decide) hk)
 have e2 := and_f k [⟨[⟨1, 5⟩], [⟨6, 9⟩]⟩, ⟨[⟨1, 3⟩], [⟨4, 4⟩]⟩] (by decide) (by intro x hx; simp only [List.mem_cons, List.not_mem_nil, or_false] at hx; rcases hx with rfl | rfl <;> exact ⟨by decide, by decide⟩) (by omega)
 have e3 := union_f [[⟨1, 3⟩], [⟨4, 6⟩]] (by decide) (by decide)
 have e4 := union_f [[⟨4, 2⟩]] (by decide) (by decide)
 have e5 := meet_f k [[⟨1, 5⟩], [⟨4, 9⟩]] (by decide) (by intro x hx; simp only [List.mem_cons, List.not_mem_nil, or_false] at hx; rcases hx with rfl | rfl <;> decide) (by omega)
 have e6 := meet_f k [] (by decide) (by simp) (by omega)
 have e7 := rest_f k [] (by decide) (by simp only [List.length_nil]; omega)
 have e8 := count_f k [⟨3, 5⟩, ⟨4, 9⟩] (by decide) (Nat.lt_trans (by decide) hk)
 have s2 : 2 < k := by omega
 obtain ⟨m1, g1, h1⟩ := may_f k [⟨1, 1⟩] (by decide) (by intro s hs; obtain rfl := List.mem_singleton.mp hs; exact ⟨by decide, by decide⟩) (by simp only [List.length_singleton]; omega)
 obtain ⟨m2, g2, h2⟩ := may_f k [⟨0, 1⟩] (by decide) (by intro s hs; obtain rfl := List.mem_singleton.mp hs; exact ⟨by decide, by decide⟩) (by simp only [List.length_singleton]; omega)
 obtain rfl : m1 = true := h1.mpr (by simp [Can])
 obtain rfl : m2 = false := by rw [← Bool.not_eq_true, h2]; simp [Can]
 simp only [List.map_cons, List.map_nil, List.flatten_cons, List.flatten_nil, List.append_nil, List.cons_append, List.nil_append] at e2 e3 e4
 rw [ex_of] at e1
 rw [ex_yes, ex_no] at e2
 rw [ex_union] at e3
 rw [ex_none] at e4
 rw [ex_meet] at e5
 rw [ex_meet0] at e6
 rw [ex_rest] at e7
 rw [ex_count] at e8
 have sa : ∀ l : List S36, l.length < 3 → rf_Same.f k l l = some true := fun l hl => same_t k (by omega) (by omega) rfl
 unfold incipitlaw19_awake.f
 simp only [e1, e2, e3, e4, e5, e6, e7, one_f, Option.bind_some, sa _ (show ([⟨3, 5⟩, ⟨9, 9⟩] : List S36).length < 3 by decide), sa _ (show ([⟨1, 6⟩] : List S36).length < 3 by decide), sa _ (show ([⟨4, 5⟩] : List S36).length < 3 by decide), sa _ (show ([⟨1, 2147483647⟩] : List S36).length < 3 by decide), sa _ (show ([⟨1, 3⟩] : List S36).length < 3 by decide), sa _ (show ([⟨4, 4⟩, ⟨6, 9⟩] : List S36).length < 3 by decide), if_true, List.length_nil, List.length_singleton, List.cons_append, List.nil_append]
 rw [if_pos (by decide), if_pos (by decide), e8, Option.bind_some, if_pos (by decide), g1, Option.bind_some, if_pos rfl, g2]
 rfl
theorem not_f (a b : List S36) (ha : a.length < 1000000) (hb : b.length < 1000000) : axis_Not.f a b = some (unionF b, unionF a) := by
 unfold axis_Not.f
 rw [union_f1 b (by omega), Option.bind_some, union_f1 a (by omega), Option.bind_some]
theorem pair_union (a b : List S36) (ha : a.length < 1000000) (hb : b.length < 1000000) : axis_Union.f [a, b] = some (unionF (a ++ b)) := by
 rw [union_f [a, b] (show 2 < 1000000 by decide) (by simp only [List.flatten_cons, List.flatten_nil, List.length_append, List.length_nil]; omega)]
 simp
theorem whole_f (k : Nat) (a b : List S36) (ha : a.length < 1000000) (hb : b.length < 1000000) (hk : 3000000 < k) : axis_Whole.f k a b = some (((restF (unionF (a ++ b))).length : Int) == 0) := by
 have hu := union_len (a ++ b)
 rw [List.length_append] at hu
 unfold axis_Whole.f
 rw [pair_union a b ha hb, Option.bind_some, rest_f k _ (by omega) (by omega), Option.bind_some]
theorem or_f (k : Nat) (l : List S47) (hl : l.length < 1000) (hn : ∀ x ∈ l, x.f0.length < 1000 ∧ x.f1.length < 1000) (hk : 1000001000 < k) : axis_Or.f k l = some (unionF (l.map (·.f0)).flatten, meetF (l.map (·.f1))) := by
 unfold axis_Or.f
 have hm : ∀ x ∈ l.map (·.f0), x.length ≤ 1000 := fun x hx => by obtain ⟨y, hy, rfl⟩ := List.mem_map.mp hx; exact Nat.le_of_lt (hn y hy).1
 have hf := flat_len 1000 (l.map (·.f0)) hm
 rw [List.length_map] at hf
 rw [parted_f k l (by omega) (by omega), Option.bind_some]
 dsimp only
 rw [union_f _ (by rw [List.length_map]; omega) (by omega), Option.bind_some, meet_f k _ (by simpa using hl) (fun x hx => by obtain ⟨y, hy, rfl⟩ := List.mem_map.mp hx; exact (hn y hy).2) hk, Option.bind_some]
theorem in2_l0 (l : List S36) (hl : l.length < 1000000000) (v : Int) : ∀ (d j k : Nat), l.length - j = d → j ≤ l.length → d < k → incipitlaw19_in.l0 k l v (j : Int) = some (hasb (l.drop j) v) := by
 intro d
 induction d with
 | zero =>
  intro j k hd hj hk
  obtain ⟨k, rfl⟩ : ∃ m, k = m + 1 := ⟨k - 1, by omega⟩
  obtain rfl : j = l.length := by omega
  simp only [incipitlaw19_in.l0]
  rw [if_neg (by omega), List.drop_length]; simp [hasb]
 | succ d ih =>
  intro j k hd hj hk
  obtain ⟨k, rfl⟩ : ∃ m, k = m + 1 := ⟨k - 1, by omega⟩
  have hlt : j < l.length := by omega
  have e : hasb (l.drop j) v = (decide (1 ≤ v) && decide (v ≤ 2147483647) && (decide (l[j].f0 ≤ v) && decide (v ≤ l[j].f1)) || hasb (l.drop (j + 1)) v) := by
   rw [drop_c l j hlt]; unfold hasb; rw [List.any_cons, Bool.and_or_distrib_left]
  simp only [incipitlaw19_in.l0]
  rw [if_pos (by omega), if_pos (by omega), rdT l j hlt, w64 (by omega) (by omega), cast_s, ih (j + 1) k (by omega) (by omega) (by omega), e]
  generalize l[j] = s
  by_cases h0 : s.f0 ≤ v
  ·rw [if_pos h0]
   by_cases h1 : v ≤ s.f1
   ·rw [if_pos h1]
    by_cases h2 : v ≥ 1
    ·rw [if_pos h2]
     by_cases h3 : v ≤ 2147483647
     ·rw [if_pos h3]; simp [h0, h1, h3, show 1 ≤ v by omega]
     ·rw [if_neg h3]; simp [h3]
    ·rw [if_neg h2]; simp [show ¬ 1 ≤ v by omega]
   ·rw [if_neg h1]; simp [h1]
  ·rw [if_neg h0]; simp [h0]
theorem in2_f (k : Nat) (l : List S36) (v : Int) (hl : l.length < 1000000000) (hk : l.length < k) : incipitlaw19_in.f k l v = some (hasb l v) := by
 unfold incipitlaw19_in.f
 simpa using in2_l0 l hl v l.length 0 k (by omega) (by omega) (by omega)
theorem has2_f (l : List S36) (v : Int) (hl : l.length < 100000000) : axis_Has.f l v = some (hasb l v) := by unfold axis_Has.f; rw [if_pos (by omega)]
end Go.Proofs.Ytieapebabncliaa.X
