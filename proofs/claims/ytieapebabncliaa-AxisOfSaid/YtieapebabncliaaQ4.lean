/- Plain laws about what the printed functions compute. -/
import Derived.Test.YtieapebabncliaaQ3
import Derived.Test.YtieapebabncliaaX14
namespace Go.Proofs.Ytieapebabncliaa.X
open Go.RowKit Go.Proofs.YtieapebabncliaaW.PrintWords Go.Proofs.Ytieapebabncliaa.X
set_option linter.unusedVariables false
set_option linter.unusedSimpArgs false
/-! # The document's lists are the program's -/
theorem OkL_nat {l : List S36} (h : OkL l) : ∀ s ∈ l, 0 ≤ s.f0 ∧ 0 ≤ s.f1 := fun s hs => ⟨(h s hs).1, (h s hs).2.2.1⟩
theorem inB_any (ls : List (List S36)) (v : Int) : inB ls v 0 = true ↔ 1 ≤ v ∧ v ≤ 2147483647 ∧ inS ls.flatten v := by
  unfold inB
  rw [if_pos rfl, List.any_eq_true, inS_flatten]
  constructor
  · rintro ⟨l, hl, h⟩
    obtain ⟨a, b, c⟩ := (hasb_in l v).mp h
    exact ⟨a, b, l, hl, c⟩
  · rintro ⟨a, b, l, hl, c⟩
    exact ⟨l, hl, (hasb_in l v).mpr ⟨a, b, c⟩⟩
theorem made0 (ls : List (List S36)) : madeF ls 0 = unionF ls.flatten := by
  obtain ⟨h1, h2⟩ := made_ok ls 0
  refine (union_eq h1 fun v => ?_).symm
  rw [h2, inB_any]
  constructor
  · rintro ⟨_, _, h⟩; exact h
  · intro h; exact ⟨h.1, h.2.1, h⟩
theorem runion_f (k : Nat) (ls : List (List S36)) (hn : ls.length < 1000000) (hf : ls.flatten.length < 100000000) (hok : ∀ l ∈ ls, OkL l) (hk : 600000000 < k) : incipitref19_Union.f k ls = some (unionF ls.flatten) := by
  unfold incipitref19_Union.f
  rw [made_f k ls 0 hn hf hok hk, Option.bind_some, made0]
theorem runion_f1 (k : Nat) (l : List S36) (hf : l.length < 100000000) (hok : OkL l) (hk : 600000000 < k) : incipitref19_Union.f k [l] = some (unionF l) := by
  rw [runion_f k [l] (by simp) (by simpa using hf) (by intro x hx; obtain rfl := List.mem_singleton.mp hx; exact hok) hk]
  simp
theorem rof_l0 (l : List Int) (hl : l.length < 1000000) (hu : ∀ v ∈ l, 0 ≤ v ∧ v < 4294967296) : ∀ (d j k : Nat) (out : List S36), l.length - j = d → j ≤ l.length → 600000001 + d < k → out = spansOf (l.take j) →
    incipitref19_Of.l0 k l out (j : Int) = some (unionF (spansOf l)) := by
  intro d
  induction d with
  | zero =>
    intro j k out hd hj hk ho
    obtain ⟨k, rfl⟩ : ∃ m, k = m + 1 := ⟨k - 1, by omega⟩
    obtain rfl : j = l.length := by omega
    rw [List.take_length] at ho
    simp only [incipitref19_Of.l0]
    rw [if_neg (by omega), ho, runion_f1 k _ (by unfold spansOf; rw [List.length_map]; omega) (by
      intro s hs
      obtain ⟨v, hv, rfl⟩ := List.mem_map.mp hs
      have := hu v hv
      exact ⟨this.1, this.2, this.1, this.2⟩) (by omega), Option.bind_some]
  | succ d ih =>
    intro j k out hd hj hk ho
    obtain ⟨k, rfl⟩ : ∃ m, k = m + 1 := ⟨k - 1, by omega⟩
    have hlt : j < l.length := by omega
    have hol : out.length = j := by rw [ho]; unfold spansOf; rw [List.length_map, List.length_take]; omega
    simp only [incipitref19_Of.l0]
    rw [if_pos (by omega), if_pos (by omega), if_pos (by omega), rdI l j hlt, w64 (by omega) (by omega), cast_s]
    exact ih (j + 1) k _ (by omega) (by omega) (by omega) (by unfold spansOf; rw [List.take_succ_eq_append_getElem hlt, List.map_append, ho]; rfl)
theorem rof_f (k : Nat) (l : List Int) (hl : l.length < 1000000) (hu : ∀ v ∈ l, 0 ≤ v ∧ v < 4294967296) (hk : 700000000 < k) : incipitref19_Of.f k l = some (unionF (spansOf l)) := by
  unfold incipitref19_Of.f
  exact rof_l0 l hl hu l.length 0 k [] (by omega) (by omega) (by omega) rfl
theorem rmay_f (k : Nat) (l : List S36) (hl : l.length < 100000000) (hok : OkL l) (hk : 700000000 < k) : ∃ r, incipitref19_May.f k l = some r ∧ (r = true ↔ Can 1 l) := by
  unfold incipitref19_May.f
  rw [runion_f1 k l hl hok (by omega), Option.bind_some]
  obtain ⟨r, h1, h2⟩ := same_f k l (unionF l) (by omega) (by omega)
  rw [h1, Option.bind_some]
  exact ⟨r, rfl, by rw [h2, ← can_self]; exact eq_comm⟩
theorem rcount_l0 (t : List S36) (ht : t.length < 1000000000) : ∀ (d j k : Nat) (n lo : Int), t.length - j = d → j ≤ t.length → d < k → 1 ≤ lo → lo ≤ 2147483649 → 0 ≤ n → n + sizeF (t.drop j) ≤ 2147483648 → Can lo (t.drop j) →
    incipitref19_Count.l0 k n t (j : Int) = some (n + sizeF (t.drop j)) := by
  intro d
  induction d with
  | zero =>
    intro j k n lo hd hj hk hl _ h0 h1 hc
    obtain ⟨k, rfl⟩ : ∃ m, k = m + 1 := ⟨k - 1, by omega⟩
    obtain rfl : j = t.length := by omega
    rw [List.drop_length]
    simp only [incipitref19_Count.l0]
    rw [if_neg (by omega)]
    simp [sizeF]
  | succ d ih =>
    intro j k n lo hd hj hk hl hl2 h0 h1 hc
    obtain ⟨k, rfl⟩ : ∃ m, k = m + 1 := ⟨k - 1, by omega⟩
    have hlt : j < t.length := by omega
    rw [drop_c t j hlt] at hc h1 ⊢
    rw [sizeF_cons] at h1 ⊢
    obtain ⟨c1, c2, c3, c4⟩ := hc
    have hz := size_le _ _ c4 (by omega)
    simp only [incipitref19_Count.l0]
    rw [if_pos (by omega), if_pos (by omega), rdT t j hlt, w64 (by omega) (by omega), cast_s]
    generalize t[j] = s at c1 c2 c3 c4 h1 hz ⊢
    rw [u64w (x := s.f1) (by omega) (by omega), u64w (x := s.f0) (by omega) (by omega), u64w (x := n + s.f1) (by omega) (by omega), u64w (x := n + s.f1 - s.f0) (by omega) (by omega), u64w (by omega) (by omega), ih (j + 1) k _ (s.f1 + 2) (by omega) (by omega) (by omega) (by omega) (by omega) (by omega) (by omega) c4]
    congr 1; omega
theorem rcount_f (k : Nat) (l : List S36) (hl : l.length < 100000000) (hok : OkL l) (hk : 700000000 < k) : incipitref19_Count.f k l = some (sizeF (unionF l)) := by
  have hu := union_len l
  have hs := union_size l
  unfold incipitref19_Count.f
  rw [runion_f1 k l hl hok (by omega), Option.bind_some]
  have := rcount_l0 (unionF l) (by omega) (unionF l).length 0 k 0 1 (by omega) (by omega) (by omega) (by omega) (by omega) (by omega) (by simpa using (by omega : sizeF (unionF l) ≤ 2147483648)) (by simpa using union_can l)
  simpa using this

end Go.Proofs.Ytieapebabncliaa.X
