/- Plain laws about what the printed functions compute. -/
import Derived.Test.YtieapebabncliaaQ1
import Derived.Test.YtieapebabncliaaX10
import Derived.Test.YtieapebabncliaaX11
namespace Go.Proofs.Ytieapebabncliaa.X
open Go.RowKit Go.Proofs.YtieapebabncliaaW.PrintWords Go.Proofs.Ytieapebabncliaa.X
set_option linter.unusedVariables false
set_option linter.unusedSimpArgs false
theorem w64 {x : Int} (h0 : 0 ≤ x) (h1 : x < 9223372036854775808) : wrap64 x = x := by unfold wrap64; omega
theorem rdT (l : List S36) (j : Nat) (h : j < l.length) : rd_T36 l (j : Int) = l[j] := rd_get l j h
theorem rdL (l : List (List S36)) (j : Nat) (h : j < l.length) : rd_L3 l (j : Int) = l[j] := by unfold rd_L3; simp [h]
theorem rdI (l : List Int) (j : Nat) (h : j < l.length) : rd l (j : Int) = l[j] := by unfold rd; simp [h]
theorem drop_c {α : Type} (l : List α) (j : Nat) (h : j < l.length) : l.drop j = l[j] :: l.drop (j + 1) := List.drop_eq_getElem_cons h
theorem cast_s (j : Nat) : ((j : Int) + 1) = ((j + 1 : Nat) : Int) := by omega
theorem rest_l0 (t : List S36) (ht : t.length < 1000000000) : ∀ (d j k : Nat) (out : List S36) (lo : Int), t.length - j = d → j ≤ t.length → d < k → out.length ≤ j → 1 ≤ lo → Can lo (t.drop j) →
  axis_Rest.l0 k out lo t (t.length : Int) (j : Int) = some (out ++ restC lo (t.drop j)) := by
 intro d
 induction d with
 | zero =>
  intro j k out lo hd hj hk ho hl hc
  obtain ⟨k, rfl⟩ : ∃ m, k = m + 1 := ⟨k - 1, by omega⟩
  obtain rfl : j = t.length := by omega
  rw [List.drop_length]
  simp only [axis_Rest.l0]
  rw [if_neg (by omega)]
  unfold restC
  by_cases h : lo ≤ 2147483647
  ·rw [if_pos h, if_pos h, if_pos (by omega)]
  ·rw [if_neg h, if_neg h, List.append_nil]
 | succ d ih =>
  intro j k out lo hd hj hk ho hl hc
  obtain ⟨k, rfl⟩ : ∃ m, k = m + 1 := ⟨k - 1, by omega⟩
  have hlt : j < t.length := by omega
  rw [drop_c t j hlt] at hc ⊢
  obtain ⟨c1, c2, c3, c4⟩ := hc
  simp only [axis_Rest.l0]
  rw [if_pos (by omega), if_pos (by omega), if_pos (by omega), rdT t j hlt, w64 (by omega) (by omega), cast_s]
  generalize t[j] = s at c1 c2 c3 c4 ⊢
  have e1 : (s.f0 - 1) % 4294967296 = s.f0 - 1 := Int.emod_eq_of_lt (by omega) (by omega)
  have e2 : (s.f1 + 1) % 4294967296 = s.f1 + 1 := Int.emod_eq_of_lt (by omega) (by omega)
  rw [e1, e2]
  unfold restC
  by_cases h : s.f0 > lo
  ·rw [if_pos h, if_pos h, if_pos (by omega), ih (j + 1) k _ _ (by omega) (by omega) (by omega) (by simp; omega) (by omega) (Can_mono c4 (by omega))]
   simp
  ·rw [if_neg h, if_neg h, ih (j + 1) k _ _ (by omega) (by omega) (by omega) (by omega) (by omega) (Can_mono c4 (by omega))]
theorem rest_f (k : Nat) (l : List S36) (hl : l.length < 1000000000) (hk : l.length < k) : axis_Rest.f k l = some (restF l) := by
 have hu := union_len l
 unfold axis_Rest.f
 rw [union_f1 l hl, Option.bind_some]
 have := rest_l0 (unionF l) (by omega) (unionF l).length 0 k [] 1 (by omega) (by omega) (by omega) (by simp) (by omega) (by simpa using union_can l)
 simpa [restF] using this
theorem flat_len (n : Nat) : ∀ l : List (List S36), (∀ x ∈ l, x.length ≤ n) → l.flatten.length ≤ l.length * n := by
 intro l
 induction l with
 | nil => intro _; simp
 | cons a l ih =>
  intro h
  have h1 := ih (fun x hx => h x (List.mem_cons_of_mem _ hx))
  have h2 := h a (List.mem_cons_self ..)
  simp only [List.flatten_cons, List.length_append, List.length_cons, Nat.add_mul]
  omega
def meetF (l : List (List S36)) : List S36 := restF (unionF (l.map restF).flatten)
theorem inS_flatten (l : List (List S36)) (v : Int) : inS l.flatten v ↔ ∃ x ∈ l, inS x v := by
 induction l with
 | nil => simp [inS_nil]
 | cons a l ih => rw [List.flatten_cons, inS_append, ih]; simp
theorem meetF_can (l : List (List S36)) : Can 1 (meetF l) := restF_can _
theorem meetF_in (l : List (List S36)) (v : Int) : inS (meetF l) v ↔ 1 ≤ v ∧ v ≤ 2147483647 ∧ ∀ x ∈ l, inS x v := by
 unfold meetF
 rw [restF_in, union_in, inS_flatten]
 constructor
 ·rintro ⟨a, b, c⟩
  refine ⟨a, b, fun x hx => ?_⟩
  refine Classical.byContradiction fun hn => c ⟨a, b, restF x, List.mem_map.mpr ⟨x, hx, rfl⟩, (restF_in x v).mpr ⟨a, b, hn⟩⟩
 ·rintro ⟨a, b, c⟩
  refine ⟨a, b, ?_⟩
  rintro ⟨_, _, y, hy, hv⟩
  obtain ⟨x, hx, rfl⟩ := List.mem_map.mp hy
  exact ((restF_in x v).mp hv).2.2 (c x hx)
theorem meet_l0 (l : List (List S36)) (hl : l.length < 1000) (hn : ∀ x ∈ l, x.length < 1000) : ∀ (d j k : Nat) (out : List (List S36)), l.length - j = d → j ≤ l.length → d + 1000000000 < k → out = (l.take j).map restF →
  axis_Meet.l0 k out l (l.length : Int) (j : Int) = some (meetF l) := by
 intro d
 induction d with
 | zero =>
  intro j k out hd hj hk ho
  obtain ⟨k, rfl⟩ : ∃ m, k = m + 1 := ⟨k - 1, by omega⟩
  obtain rfl : j = l.length := by omega
  rw [List.take_length] at ho
  simp only [axis_Meet.l0]
  rw [if_neg (by omega)]
  have hf := flat_len 1000 out (by
   rw [ho]; intro x hx
   obtain ⟨y, hy, rfl⟩ := List.mem_map.mp hx
   have := restF_len y
   have := hn y hy
   omega)
  have hol : out.length = l.length := by rw [ho, List.length_map]
  have hun := union_len out.flatten
  rw [union_f out (by omega) (by omega), Option.bind_some, rest_f k _ (by omega) (by omega), Option.bind_some, ho]
  rfl
 | succ d ih =>
  intro j k out hd hj hk ho
  obtain ⟨k, rfl⟩ : ∃ m, k = m + 1 := ⟨k - 1, by omega⟩
  have hlt : j < l.length := by omega
  have hjl := hn l[j] (List.getElem_mem ..)
  have hol : out.length = j := by rw [ho, List.length_map, List.length_take]; omega
  simp only [axis_Meet.l0]
  rw [if_pos (by omega), if_pos (by omega), if_pos (by omega), rdL l j hlt, rest_f k _ (by omega) (by omega), Option.bind_some, if_pos (by omega), w64 (by omega) (by omega), cast_s]
  exact ih (j + 1) k _ (by omega) (by omega) (by omega) (by rw [List.take_succ_eq_append_getElem hlt, List.map_append, ho]; rfl)
theorem meet_f (k : Nat) (l : List (List S36)) (hl : l.length < 1000) (hn : ∀ x ∈ l, x.length < 1000) (hk : 1000001000 < k) : axis_Meet.f k l = some (meetF l) := by
 unfold axis_Meet.f
 exact meet_l0 l hl hn l.length 0 k [] (by omega) (by omega) (by omega) (by simp)
theorem same_l0 (a b : List S36) (ha : a.length < 1000000000) (hb : a.length = b.length) : ∀ (d j k : Nat), a.length - j = d → j ≤ a.length → d < k →
  ∃ r, rf_Same.l0 k a b (j : Int) = some r ∧ (r = true ↔ a.drop j = b.drop j) := by
 intro d
 induction d with
 | zero =>
  intro j k hd hj hk
  obtain ⟨k, rfl⟩ : ∃ m, k = m + 1 := ⟨k - 1, by omega⟩
  obtain rfl : j = a.length := by omega
  simp only [rf_Same.l0]
  rw [if_neg (by omega)]
  exact ⟨true, rfl, by rw [List.drop_length, hb, List.drop_length]; simp⟩
 | succ d ih =>
  intro j k hd hj hk
  obtain ⟨k, rfl⟩ : ∃ m, k = m + 1 := ⟨k - 1, by omega⟩
  have hlt : j < a.length := by omega
  have hlb : j < b.length := by omega
  simp only [rf_Same.l0]
  rw [if_pos (by omega), if_pos (by omega), if_pos (by omega), rdT a j hlt, rdT b j hlb, w64 (by omega) (by omega), cast_s]
  obtain ⟨r, hr, hrr⟩ := ih (j + 1) k (by omega) (by omega) (by omega)
  rw [drop_c a j hlt, drop_c b j hlb, hr]
  by_cases h0 : a[j].f0 = b[j].f0
  ·by_cases h1 : a[j].f1 = b[j].f1
   ·rw [if_neg (by simp [h0, h1])]
    exact ⟨r, rfl, by rw [hrr, S36_ext h0 h1]; simp only [List.cons.injEq, true_and]⟩
   ·rw [if_pos (by simp [h1])]
    exact ⟨false, rfl, by simp only [Bool.false_eq_true, List.cons.injEq, false_iff]; rintro ⟨e, _⟩; exact h1 (by rw [e])⟩
  ·rw [if_pos (by simp [h0])]
   exact ⟨false, rfl, by simp only [Bool.false_eq_true, List.cons.injEq, false_iff]; rintro ⟨e, _⟩; exact h0 (by rw [e])⟩
theorem same_f (k : Nat) (a b : List S36) (ha : a.length < 1000000000) (hk : a.length < k) : ∃ r, rf_Same.f k a b = some r ∧ (r = true ↔ a = b) := by
 unfold rf_Same.f
 by_cases h : a.length = b.length
 ·rw [if_pos (by omega)]
  simpa using same_l0 a b ha h a.length 0 k (by omega) (by omega) (by omega)
 ·rw [if_neg (by omega)]
  exact ⟨false, rfl, by simp only [Bool.false_eq_true, false_iff]; intro e; exact h (by rw [e])⟩
theorem same_t (k : Nat) {a b : List S36} (ha : a.length < 1000000000) (hk : a.length < k) (h : a = b) : rf_Same.f k a b = some true := by
 obtain ⟨r, h1, h2⟩ := same_f k a b ha hk
 rw [h1, h2.mpr h]
def sizeF (l : List S36) : Int := (l.map fun s => s.f1 - s.f0 + 1).sum
theorem size_le (l : List S36) : ∀ lo : Int, Can lo l → lo ≤ 2147483649 → 0 ≤ sizeF l ∧ (lo ≤ 2147483648 → sizeF l ≤ 2147483648 - lo) ∧ (2147483648 < lo → sizeF l = 0) := by
 induction l with
 | nil => intro lo _ _; simp [sizeF]; try omega
 | cons s r ih =>
  intro lo h hlo
  obtain ⟨h1, h2, h3, h4⟩ := h
  have := ih (s.f1 + 2) h4 (by omega)
  have e : sizeF (s :: r) = s.f1 - s.f0 + 1 + sizeF r := by simp [sizeF]
  rw [e]
  omega
theorem u64w {x : Int} (h0 : 0 ≤ x) (h1 : x < 18446744073709551616) : IntKind.u64.wrap x = x := by
 unfold IntKind.wrap
 simp [IntKind.signed, IntKind.bits]
 omega
theorem sizeF_cons (s : S36) (r : List S36) : sizeF (s :: r) = s.f1 - s.f0 + 1 + sizeF r := by simp [sizeF]
theorem count_l0 (t : List S36) (ht : t.length < 1000000000) : ∀ (d j k : Nat) (n lo : Int), t.length - j = d → j ≤ t.length → d < k → 1 ≤ lo → lo ≤ 2147483649 → 0 ≤ n → n + sizeF (t.drop j) ≤ 2147483648 → Can lo (t.drop j) →
  axis_Count.l0 k n t (t.length : Int) (j : Int) = some (n + sizeF (t.drop j)) := by
 intro d
 induction d with
 | zero =>
  intro j k n lo hd hj hk hl _ h0 h1 hc
  obtain ⟨k, rfl⟩ : ∃ m, k = m + 1 := ⟨k - 1, by omega⟩
  obtain rfl : j = t.length := by omega
  rw [List.drop_length]
  simp only [axis_Count.l0]
  rw [if_neg (by omega)]
  simp [sizeF]
 | succ d ih =>
  intro j k n lo hd hj hk hl hl2 h0 h1 hc
  obtain ⟨k, rfl⟩ : ∃ m, k = m + 1 := ⟨k - 1, by omega⟩
  have hlt : j < t.length := by omega
  rw [drop_c t j hlt] at hc h1 ⊢
  rw [sizeF_cons] at h1 ⊢
  obtain ⟨c1, c2, c3, c4⟩ := hc
  have hz := size_le _ _ c4 (by omega)
  simp only [axis_Count.l0]
  rw [if_pos (by omega), if_pos (by omega), if_pos (by omega), rdT t j hlt, w64 (by omega) (by omega), cast_s]
  generalize t[j] = s at c1 c2 c3 c4 h1 hz ⊢
  have e1 : (s.f1 - s.f0) % 4294967296 = s.f1 - s.f0 := Int.emod_eq_of_lt (by omega) (by omega)
  rw [e1, u64w (by omega) (by omega), ih (j + 1) k _ (s.f1 + 2) (by omega) (by omega) (by omega) (by omega) (by omega) (by omega) (by omega) c4]
  congr 1; omega
theorem union_size (l : List S36) : 0 ≤ sizeF (unionF l) ∧ sizeF (unionF l) ≤ 2147483647 := by
 have := size_le _ _ (union_can l) (by omega); omega
theorem count_f (k : Nat) (l : List S36) (hl : l.length < 1000000000) (hk : l.length < k) : axis_Count.f k l = some (sizeF (unionF l)) := by
 have hu := union_len l
 have hs := union_size l
 unfold axis_Count.f
 rw [union_f1 l hl, Option.bind_some]
 have := count_l0 (unionF l) (by omega) (unionF l).length 0 k 0 1 (by omega) (by omega) (by omega) (by omega) (by omega) (by omega) (by simpa using (by omega : sizeF (unionF l) ≤ 2147483648)) (by simpa using union_can l)
 simpa using this
def spansOf (l : List Int) : List S36 := l.map fun i => ⟨i, i⟩
theorem of_l0 (l : List Int) (hl : l.length < 1000000) : ∀ (d j k : Nat) (out : List S36), l.length - j = d → j ≤ l.length → d < k → out = spansOf (l.take j) →
  axis_Of.l0 k out l (l.length : Int) (j : Int) = some (unionF (spansOf l)) := by
 intro d
 induction d with
 | zero =>
  intro j k out hd hj hk ho
  obtain ⟨k, rfl⟩ : ∃ m, k = m + 1 := ⟨k - 1, by omega⟩
  obtain rfl : j = l.length := by omega
  rw [List.take_length] at ho
  simp only [axis_Of.l0]
  rw [if_neg (by omega), ho, union_f1 _ (by unfold spansOf; rw [List.length_map]; omega), Option.bind_some]
 | succ d ih =>
  intro j k out hd hj hk ho
  obtain ⟨k, rfl⟩ : ∃ m, k = m + 1 := ⟨k - 1, by omega⟩
  have hlt : j < l.length := by omega
  have hol : out.length = j := by rw [ho]; unfold spansOf; rw [List.length_map, List.length_take]; omega
  simp only [axis_Of.l0]
  rw [if_pos (by omega), if_pos (by omega), if_pos (by omega), if_pos (by omega), rdI l j hlt, w64 (by omega) (by omega), cast_s]
  exact ih (j + 1) k _ (by omega) (by omega) (by omega) (by unfold spansOf; rw [List.take_succ_eq_append_getElem hlt, List.map_append, ho]; rfl)
theorem of_f (k : Nat) (l : List Int) (hl : l.length < 1000000) (hk : l.length < k) : axis_Of.f k l = some (unionF (spansOf l)) := by
 unfold axis_Of.f
 exact of_l0 l hl l.length 0 k [] (by omega) (by omega) (by omega) rfl
theorem may_l0 (t : List S36) (ht : t.length < 1000000000) (hu : ∀ s ∈ t, 0 ≤ s.f0 ∧ 0 ≤ s.f1) : ∀ (d j k : Nat) (x lo : Int), t.length - j = d → j ≤ t.length → d < k → (j = 0 → lo = 1) → (0 < j → lo = x + 2 ∧ 0 ≤ x ∧ x ≤ 2147483647) →
  ∃ r, axis_May.l0 k x t (t.length : Int) (j : Int) = some r ∧ (r = true ↔ Can lo (t.drop j)) := by
 intro d
 induction d with
 | zero =>
  intro j k x lo hd hj hk hl0 hl1
  obtain ⟨k, rfl⟩ : ∃ m, k = m + 1 := ⟨k - 1, by omega⟩
  obtain rfl : j = t.length := by omega
  simp only [axis_May.l0]
  rw [if_neg (by omega), List.drop_length]
  exact ⟨true, rfl, by simp [Can]⟩
 | succ d ih =>
  intro j k x lo hd hj hk hl0 hl1
  obtain ⟨k, rfl⟩ : ∃ m, k = m + 1 := ⟨k - 1, by omega⟩
  have hlt : j < t.length := by omega
  have hs := hu t[j] (List.getElem_mem ..)
  rw [drop_c t j hlt]
  simp only [axis_May.l0]
  rw [if_pos (by omega), if_pos (by omega), if_pos (by omega), rdT t j hlt, w64 (by omega) (by omega), cast_s]
  generalize t[j] = s at hs ⊢
  have no : ∀ h : ¬ (lo ≤ s.f0 ∧ s.f0 ≤ s.f1 ∧ s.f1 ≤ 2147483647), ∃ r, some false = some r ∧ (r = true ↔ Can lo (s :: t.drop (j + 1))) := fun h =>
   ⟨false, rfl, by simp only [Bool.false_eq_true, false_iff]; exact fun hc => h ⟨hc.1, hc.2.1, hc.2.2.1⟩⟩
  by_cases h1 : s.f0 < 1
  ·rw [if_pos h1]; exact no (by rcases Nat.eq_zero_or_pos j with hj0 | hj0; exact (by have := hl0 hj0; omega); exact (by have := hl1 hj0; omega))
  ·rw [if_neg h1]
   by_cases h2 : s.f0 > s.f1
   ·rw [if_pos h2]; exact no (by omega)
   ·rw [if_neg h2]
    by_cases h3 : s.f1 > 2147483647
    ·rw [if_pos h3]; exact no (by omega)
    ·rw [if_neg h3]
     obtain ⟨r, hr, hrr⟩ := ih (j + 1) k s.f1 (s.f1 + 2) (by omega) (by omega) (by omega) (by omega) (by omega)
     have yes : lo ≤ s.f0 → ∃ r', axis_May.l0 k s.f1 t (t.length : Int) ((j + 1 : Nat) : Int) = some r' ∧ (r' = true ↔ Can lo (s :: t.drop (j + 1))) := fun h =>
      ⟨r, hr, by rw [hrr]; exact ⟨fun h4 => ⟨h, by omega, by omega, h4⟩, fun h4 => h4.2.2.2⟩⟩
     by_cases h4 : (j : Int) > 0
     ·obtain ⟨e1, e2, e3⟩ := hl1 (by omega)
      have e4 : (x + 1) % 4294967296 = x + 1 := Int.emod_eq_of_lt (by omega) (by omega)
      rw [if_pos h4, e4]
      by_cases h5 : s.f0 ≤ x + 1
      ·rw [if_pos h5]; exact no (by omega)
      ·rw [if_neg h5]; exact yes (by omega)
     ·rw [if_neg h4]
      have := hl0 (by omega)
      exact yes (by omega)
theorem may_f (k : Nat) (l : List S36) (hl : l.length < 1000000000) (hu : ∀ s ∈ l, 0 ≤ s.f0 ∧ 0 ≤ s.f1) (hk : l.length < k) : ∃ r, axis_May.f k l = some r ∧ (r = true ↔ Can 1 l) := by
 unfold axis_May.f
 simpa using may_l0 l hl hu l.length 0 k 0 1 (by omega) (by omega) (by omega) (fun _ => rfl) (by omega)
end Go.Proofs.Ytieapebabncliaa.X
