/- Plain laws about what the printed functions compute. -/
import Derived.Test.YtieapebabncliaaQ5
import Derived.Test.YtieapebabncliaaQ6
import Derived.Test.YtieapebabncliaaQ4
import Derived.Test.YtieapebabncliaaX27
import Derived.Test.YtieapebabncliaaX26
import Derived.Test.YtieapebabncliaaX25
namespace Go.Proofs.Ytieapebabncliaa.Pure
open Go.RowKit Go.Proofs.YtieapebabncliaaW.PrintWords Go.Proofs.Ytieapebabncliaa.X
set_option linter.unusedVariables false
set_option linter.unusedSimpArgs false
theorem yes_l0 (l : List S47) (hn : l.length < 1000000) : ∀ (d j k : Nat) (out : List (List S36)), l.length - j = d → j ≤ l.length → d < k → out = (l.take j).map (·.f0) → incipitref19_Yes.l0 k l out (j : Int) = some (l.map (·.f0)) := by
 intro d
 induction d with
 | zero =>
  intro j k out hd hj hk ho
  obtain ⟨k, rfl⟩ : ∃ m, k = m + 1 := ⟨k - 1, by omega⟩
  obtain rfl : j = l.length := by omega
  simp only [incipitref19_Yes.l0]
  rw [if_neg (by omega), ho, List.take_length]
 | succ d ih =>
  intro j k out hd hj hk ho
  obtain ⟨k, rfl⟩ : ∃ m, k = m + 1 := ⟨k - 1, by omega⟩
  have hlt : j < l.length := by omega
  have hol : out.length = j := by rw [ho, List.length_map, List.length_take]; omega
  simp only [incipitref19_Yes.l0]
  rw [if_pos (by omega), if_pos (by omega), if_pos (by omega), rdK l j hlt, w64 (by omega) (by omega), cast_s]
  exact ih (j + 1) k _ (by omega) (by omega) (by omega) (by rw [List.take_succ_eq_append_getElem hlt, List.map_append, ho]; rfl)
theorem yes_f (k : Nat) (l : List S47) (hn : l.length < 1000000) (hk : l.length < k) : incipitref19_Yes.f k l = some (l.map (·.f0)) := by
 unfold incipitref19_Yes.f
 exact yes_l0 l hn l.length 0 k [] (by omega) (by omega) (by omega) rfl
theorem no_l0 (l : List S47) (hn : l.length < 1000000) : ∀ (d j k : Nat) (out : List (List S36)), l.length - j = d → j ≤ l.length → d < k → out = (l.take j).map (·.f1) → incipitref19_No.l0 k l out (j : Int) = some (l.map (·.f1)) := by
 intro d
 induction d with
 | zero =>
  intro j k out hd hj hk ho
  obtain ⟨k, rfl⟩ : ∃ m, k = m + 1 := ⟨k - 1, by omega⟩
  obtain rfl : j = l.length := by omega
  simp only [incipitref19_No.l0]
  rw [if_neg (by omega), ho, List.take_length]
 | succ d ih =>
  intro j k out hd hj hk ho
  obtain ⟨k, rfl⟩ : ∃ m, k = m + 1 := ⟨k - 1, by omega⟩
  have hlt : j < l.length := by omega
  have hol : out.length = j := by rw [ho, List.length_map, List.length_take]; omega
  simp only [incipitref19_No.l0]
  rw [if_pos (by omega), if_pos (by omega), if_pos (by omega), rdK l j hlt, w64 (by omega) (by omega), cast_s]
  exact ih (j + 1) k _ (by omega) (by omega) (by omega) (by rw [List.take_succ_eq_append_getElem hlt, List.map_append, ho]; rfl)
theorem no_f (k : Nat) (l : List S47) (hn : l.length < 1000000) (hk : l.length < k) : incipitref19_No.f k l = some (l.map (·.f1)) := by
 unfold incipitref19_No.f
 exact no_l0 l hn l.length 0 k [] (by omega) (by omega) (by omega) rfl
theorem not_f (a b : List S36) (ha : a.length < 1000000) (hb : b.length < 1000000) : axis_Not.f a b = some (unionF b, unionF a) := by
 unfold axis_Not.f
 rw [union_f1 b (by omega), Option.bind_some, union_f1 a (by omega), Option.bind_some]
theorem pair_union (a b : List S36) (ha : a.length < 1000000) (hb : b.length < 1000000) : axis_Union.f [a, b] = some (unionF (a ++ b)) := by
 rw [union_f [a, b] (show 2 < 1000000 by decide) (by simp only [List.flatten_cons, List.flatten_nil, List.length_append, List.length_nil]; omega)]
 simp
theorem whole_f (k : Nat) (a b : List S36) (ha : a.length < 1000000) (hb : b.length < 1000000) (hk : 3000000 < k) : axis_Whole.f k a b = some (((restF (unionF (a ++ b))).length : Int) == 0) := by
 have hu := union_len (a ++ b)
 rw [List.length_append] at hu
 unfold axis_Whole.f
 rw [pair_union a b ha hb, Option.bind_some, rest_f k _ (by omega) (by omega), Option.bind_some]
theorem whole_iff {u : List S36} (hu : X.Can 1 u) : ((restF u).length = 0) ↔ u = [⟨1, 2147483647⟩] := by
 constructor
 ·intro h
  refine Can_uniq hu (lo := 1) (by simp [X.Can]) (fun v => ?_)
  rw [inS_cons, inS_nil, or_false]
  constructor
  ·intro hv; exact Can_low hu hv
  ·rintro ⟨a, b⟩
   refine Classical.byContradiction fun hn => ?_
   have : inS (restF u) v := (restF_in u v).mpr ⟨a, b, hn⟩
   rw [List.eq_nil_of_length_eq_zero h] at this
   exact (inS_nil v).mp this
 ·intro h
  have : restF u = [] := rest_eq trivial (fun v => by
   rw [h, inS_nil, inS_cons, inS_nil, or_false]
   constructor
   ·intro hh; exact hh.elim
   ·rintro ⟨a, b, c⟩; exact c ⟨a, b⟩)
  rw [this]; rfl
theorem rwhole_f (k : Nat) (a b : List S36) (ha : a.length < 1000000) (hb : b.length < 1000000) (oa : OkL a) (ob : OkL b) (hk : 700000000 < k) : ∃ r, incipitref19_Whole.f k a b = some r ∧ (r = true ↔ unionF (a ++ b) = [⟨1, 2147483647⟩]) := by
 unfold incipitref19_Whole.f
 rw [runion_f k [a, b] (show 2 < 1000000 by decide) (by simp only [List.flatten_cons, List.flatten_nil, List.length_append, List.length_nil]; omega) (by
  intro x hx
  simp only [List.mem_cons, List.not_mem_nil, or_false] at hx
  rcases hx with rfl | rfl
  ·exact oa
  ·exact ob) (by omega), Option.bind_some]
 have e : ([a, b] : List (List S36)).flatten = a ++ b := by simp
 rw [e]
 generalize unionF (a ++ b) = u
 rcases u with _ | ⟨s, _ | ⟨t, r⟩⟩
 ·rw [if_neg (by simp)]; exact ⟨false, rfl, by simp⟩
 ·have h0 : rd_T36 [s] 0 = s := rfl
  rw [if_pos (by simp), if_pos (by simp), h0]
  by_cases h1 : s.f0 = 1
  ·rw [if_pos h1]
   refine ⟨_, rfl, ?_⟩
   rw [beq_iff_eq]
   constructor
   ·intro h2; rw [S36_ext (a := s) (b := ⟨1, 2147483647⟩) h1 h2]
   ·intro h2; injection h2 with h3 _; rw [h3]
  ·rw [if_neg h1]
   exact ⟨false, rfl, by simp only [Bool.false_eq_true, false_iff]; intro h2; injection h2 with h3 _; exact h1 (by rw [h3])⟩
 ·rw [if_neg (by simp; omega)]; exact ⟨false, rfl, by simp⟩
theorem or_f (k : Nat) (l : List S47) (hl : l.length < 1000) (hn : ∀ x ∈ l, x.f0.length < 1000 ∧ x.f1.length < 1000) (hk : 1000001000 < k) : axis_Or.f k l = some (unionF (l.map (·.f0)).flatten, meetF (l.map (·.f1))) := by
 unfold axis_Or.f
 have hm : ∀ x ∈ l.map (·.f0), x.length ≤ 1000 := fun x hx => by obtain ⟨y, hy, rfl⟩ := List.mem_map.mp hx; exact Nat.le_of_lt (hn y hy).1
 have hf := flat_len 1000 (l.map (·.f0)) hm
 rw [List.length_map] at hf
 rw [parted_f k l (by omega) (by omega), Option.bind_some]
 dsimp only
 rw [union_f _ (by rw [List.length_map]; omega) (by omega), Option.bind_some, meet_f k _ (by simpa using hl) (fun x hx => by obtain ⟨y, hy, rfl⟩ := List.mem_map.mp hx; exact (hn y hy).2) hk, Option.bind_some]
theorem cut1 {α : Type} (l : List α) (j : Nat) (h : j < l.length) : (l.take (j + 1)).drop j = [l[j]] := by
 rw [List.take_succ_eq_append_getElem h, List.drop_append_of_le_length (by rw [List.length_take]; omega), List.drop_eq_nil_of_le (by rw [List.length_take]; omega)]; rfl
section
variable (l : List S47) (hn : l.length ≤ 20) (h0 : ∀ x ∈ l, x.f0.length ≤ 40 ∧ x.f1.length ≤ 40) (hok : ∀ x ∈ l, OkL x.f0 ∧ OkL x.f1)
include hn h0 hok
theorem known_l0 : ∀ (d j k : Nat) (own : List S47), l.length - j = d → j ≤ l.length → 1000003000 + d < k → own = l.take j →
  incipitlaw19_AxisKnown.l0 k l (l.map (·.f0)) (l.map (·.f1)) own (j : Int) = some true := by
 have oky : ∀ x ∈ l.map (·.f0), OkL x := fun x hx => by obtain ⟨y, hy, rfl⟩ := List.mem_map.mp hx; exact (hok y hy).1
 have okn : ∀ x ∈ l.map (·.f1), OkL x := fun x hx => by obtain ⟨y, hy, rfl⟩ := List.mem_map.mp hx; exact (hok y hy).2
 have ly : ∀ x ∈ l.map (·.f0), x.length ≤ 40 := fun x hx => by obtain ⟨y, hy, rfl⟩ := List.mem_map.mp hx; exact (h0 y hy).1
 have ln : ∀ x ∈ l.map (·.f1), x.length ≤ 40 := fun x hx => by obtain ⟨y, hy, rfl⟩ := List.mem_map.mp hx; exact (h0 y hy).2
 have my : (l.map (·.f0)).length = l.length := List.length_map ..
 have mn : (l.map (·.f1)).length = l.length := List.length_map ..
 intro d
 induction d with
 | zero =>
  intro j k own hd hj hk ho
  obtain ⟨k, rfl⟩ : ∃ m, k = m + 2 := ⟨k - 2, by omega⟩
  obtain rfl : j = l.length := by omega
  rw [List.take_length] at ho
  subst ho
  have fy := flat_len 40 _ ly
  have fn := flat_len 40 _ ln
  have uy := union_len (own.map (·.f0)).flatten
  have un := union_len (own.map (·.f1)).flatten
  have meey := meetF_len (own.map (·.f0)) (by omega) (fun x hx => by have := ly x hx; omega)
  have meen := meetF_len (own.map (·.f1)) (by omega) (fun x hx => by have := ln x hx; omega)
  simp only [incipitlaw19_AxisKnown.l0]
  rw [if_neg (by omega)]
  rw [and_f _ own (by omega) (fun x hx => by have := h0 x hx; omega) (by omega), Option.bind_some, or_f _ own (by omega) (fun x hx => by have := h0 x hx; omega) (by omega), Option.bind_some]
  dsimp only
  rw [rmeet_f _ _ (by omega) (by omega) oky (by omega), Option.bind_some, same_t _ (by omega) (by omega) rfl, Option.bind_some, if_pos rfl, runion_f _ _ (by omega) (by omega) okn (by omega), Option.bind_some, same_t _ (by omega) (by omega) rfl, Option.bind_some, if_pos rfl, runion_f _ _ (by omega) (by omega) oky (by omega), Option.bind_some, same_t _ (by omega) (by omega) rfl, Option.bind_some, if_pos rfl, rmeet_f _ _ (by omega) (by omega) okn (by omega), Option.bind_some, same_t _ (by omega) (by omega) rfl, Option.bind_some]
  simp only [incipitlaw19_AxisKnown.j2, Bool.not_true, Bool.false_eq_true, if_false]
  rw [yes_f _ own (by omega) (by omega), Option.bind_some, kept_f _ _ (by omega) (fun x hx => by have := ly x hx; omega) (by omega), Option.bind_some, if_pos rfl, no_f _ own (by omega) (by omega), Option.bind_some, kept_f _ _ (by omega) (fun x hx => by have := ln x hx; omega) (by omega), Option.bind_some, if_pos rfl, awake_f _ (by omega)]
  rfl
 | succ d ih =>
  intro j k own hd hj hk ho
  obtain ⟨k, rfl⟩ : ∃ m, k = m + 1 := ⟨k - 1, by omega⟩
  have hlt : j < l.length := by omega
  have hol : own.length = j := by rw [ho, List.length_take]; omega
  have hx0 := h0 l[j] (List.getElem_mem ..)
  have hxo := hok l[j] (List.getElem_mem ..)
  have hown : own ++ [⟨l[j].f0, l[j].f1⟩] = l.take (j + 1) := by rw [List.take_succ_eq_append_getElem hlt, ho]
  have hjt : j < (l.take (j + 1)).length := by rw [List.length_take]; omega
  have hg : (l.take (j + 1))[j] = l[j] := by rw [List.getElem_take]
  have u0 := union_len l[j].f0
  have u1 := union_len l[j].f1
  obtain ⟨r, hr, hrr⟩ := rwhole_f k l[j].f0 l[j].f1 (by omega) (by omega) hxo.1 hxo.2 (by omega)
  have hw : (((restF (unionF (l[j].f0 ++ l[j].f1))).length : Int) == 0) = r := by
   rw [Bool.eq_iff_iff, hrr, beq_iff_eq, ← whole_iff (union_can _)]
   omega
  have ey : (((l.map (·.f0)).take (j + 1)).drop j) = [l[j].f0] := by rw [cut1 _ j (by omega)]; simp
  have en : (((l.map (·.f1)).take (j + 1)).drop j) = [l[j].f1] := by rw [cut1 _ j (by omega)]; simp
  simp only [incipitlaw19_AxisKnown.l0, Option.bind_some, List.length_nil, Nat.zero_add, List.nil_append, w64 (show (0 : Int) ≤ ((j + 1 : Nat) : Int) by omega) (show ((j + 1 : Nat) : Int) < 9223372036854775808 by omega), cast_s, Int.toNat_natCast, rdK l j hlt, hown, rdK _ j hjt, hg, ey, en]
  rw [if_pos (by omega), if_pos (by omega), if_pos (by omega), if_pos (by omega), if_pos (by omega), if_pos (by omega)]
  rw [not_f _ _ (by omega) (by omega), Option.bind_some]
  dsimp only
  rw [whole_f k _ _ (by omega) (by omega) (by omega), Option.bind_some, hr, Option.bind_some, hw, if_neg (by simp), if_pos (by omega), if_pos (by omega)]
  rw [runion_f1 k _ (by omega) hxo.2 (by omega), Option.bind_some, same_t k (by omega) (by omega) rfl, Option.bind_some, if_pos rfl, if_pos (by omega), runion_f1 k _ (by omega) hxo.1 (by omega), Option.bind_some, same_t k (by omega) (by omega) rfl, Option.bind_some, if_pos rfl]
  exact ih (j + 1) k _ (by omega) (by omega) (by omega) rfl
end
theorem AxisKnown : incipitlaw19_AxisKnown.Pure := by
 intro l hl
 refine ⟨1000005000, ?_⟩
 generalize hK : 1000005000 = K
 obtain ⟨k, rfl⟩ : ∃ m, K = m + 1 := ⟨K - 1, by omega⟩
 have asleep : ∀ y n, incipitlaw19_AxisKnown.j0 (k + 1) l y n true = some true := fun y n => by
  simp only [incipitlaw19_AxisKnown.j0, if_true]
  rw [awake_f k (by omega)]; rfl
 unfold incipitlaw19_AxisKnown.f
 by_cases h1 : (l.length : Int) > 20
 ·rw [if_pos h1, awake_f _ (by omega)]; rfl
 ·rw [if_neg h1, yes_f _ l (by omega) (by omega), Option.bind_some, no_f _ l (by omega) (by omega), Option.bind_some]
  have my : (l.map (·.f0)).length = l.length := List.length_map ..
  have mn : (l.map (·.f1)).length = l.length := List.length_map ..
  obtain ⟨b, hb, hbb⟩ := long_f (k + 1) (l.map (·.f0)) (by omega) (by omega)
  rw [hb, Option.bind_some]
  cases b with
  | true => rw [if_pos rfl]; exact asleep _ _
  | false =>
   obtain ⟨c, hc, hcc⟩ := long_f (k + 1) (l.map (·.f1)) (by omega) (by omega)
   rw [if_neg (by simp), hc, Option.bind_some]
   cases c with
   | true => exact asleep _ _
   | false =>
    have hy := (hbb rfl).2
    have hn := (hcc rfl).2
    simp only [incipitlaw19_AxisKnown.j0, Bool.false_eq_true, if_false]
    exact known_l0 l (by omega) (fun x hx => ⟨hy _ (List.mem_map.mpr ⟨x, hx, rfl⟩), hn _ (List.mem_map.mpr ⟨x, hx, rfl⟩)⟩) (fun x hx => ⟨okl (hl.2 x hx).1, okl (hl.2 x hx).2⟩) l.length 0 k [] (by omega) (by omega) (by omega) rfl
end Go.Proofs.Ytieapebabncliaa.Pure
