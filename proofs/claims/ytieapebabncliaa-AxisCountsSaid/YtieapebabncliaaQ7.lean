/- Plain laws about what the printed functions compute. -/
import Derived.Test.YtieapebabncliaaQ2
import Derived.Test.YtieapebabncliaaQ3
namespace Go.Proofs.Ytieapebabncliaa.X
open Go.RowKit Go.Proofs.YtieapebabncliaaW.PrintWords Go.Proofs.Ytieapebabncliaa.X
set_option linter.unusedVariables false
set_option linter.unusedSimpArgs false
/-! # How many Ids a set has -/
def bi : Bool → Int
  | true => 1
  | false => 0
def cnt (P : Int → Bool) : Nat → Int
  | 0 => 0
  | n + 1 => cnt P n + bi (P ((n + 1 : Nat) : Int))
theorem cnt_congr {P Q : Int → Bool} : ∀ n : Nat, (∀ v : Int, 1 ≤ v → v ≤ n → P v = Q v) → cnt P n = cnt Q n := by
  intro n
  induction n with
  | zero => intro _; rfl
  | succ n ih =>
    intro h
    unfold cnt
    rw [ih (fun v h1 h2 => h v h1 (by omega)), h ((n + 1 : Nat) : Int) (by omega) (by omega)]
theorem cnt_or (P Q : Int → Bool) (n : Nat) : cnt (fun v => P v || Q v) n + cnt (fun v => P v && Q v) n = cnt P n + cnt Q n := by
  induction n with
  | zero => rfl
  | succ n ih =>
    have e : ∀ p q : Bool, bi (p || q) + bi (p && q) = bi p + bi q := by decide
    have := e (P ((n + 1 : Nat) : Int)) (Q ((n + 1 : Nat) : Int))
    simp only [cnt]
    omega
theorem cnt_none (n : Nat) : cnt (fun _ => false) n = 0 := by
  induction n with
  | zero => rfl
  | succ n ih => simp only [cnt, ih]; rfl
theorem cnt_not (P : Int → Bool) (n : Nat) : cnt P n + cnt (fun v => !P v) n = n := by
  induction n with
  | zero => rfl
  | succ n ih =>
    have e : ∀ p : Bool, bi p + bi (!p) = 1 := by decide
    have := e (P ((n + 1 : Nat) : Int))
    simp only [cnt]
    omega
theorem cnt_seg (a b : Int) (h1 : 1 ≤ a) (h2 : a ≤ b) (n : Nat) : ((n : Int) < a → cnt (fun v => decide (a ≤ v) && decide (v ≤ b)) n = 0) ∧ (a ≤ (n : Int) → (n : Int) ≤ b → cnt (fun v => decide (a ≤ v) && decide (v ≤ b)) n = n - a + 1) ∧ (b < (n : Int) → cnt (fun v => decide (a ≤ v) && decide (v ≤ b)) n = b - a + 1) := by
  induction n with
  | zero => exact ⟨fun _ => rfl, fun h _ => by omega, fun h => by omega⟩
  | succ n ih =>
    obtain ⟨i1, i2, i3⟩ := ih
    simp only [cnt]
    refine ⟨fun h => ?_, fun h h' => ?_, fun h => ?_⟩
    · rw [i1 (by omega), decide_eq_false (by omega)]; rfl
    · rw [decide_eq_true h, decide_eq_true h']
      by_cases c : (n : Int) < a
      · rw [i1 c]; show (0 : Int) + 1 = _; omega
      · rw [i2 (by omega) (by omega)]; show _ + (1 : Int) = _; omega
    · rw [decide_eq_false (p := ((n + 1 : Nat) : Int) ≤ b) (by omega), Bool.and_false]
      by_cases c : b < (n : Int)
      · rw [i3 c]; show _ + (0 : Int) = _; omega
      · rw [i2 (by omega) (by omega)]; show _ + (0 : Int) = _; omega
def MXN : Nat := 2147483647
theorem hasb_cons (s : S36) (l : List S36) (v : Int) (h1 : 1 ≤ v) (h2 : v ≤ 2147483647) : hasb (s :: l) v = ((decide (s.f0 ≤ v) && decide (v ≤ s.f1)) || hasb l v) := by
  unfold hasb
  rw [List.any_cons, decide_eq_true h1, decide_eq_true h2]; rfl
/-- The size of the one list is the number of its Ids. -/
theorem size_cnt (l : List S36) : ∀ lo : Int, 1 ≤ lo → Can lo l → sizeF l = cnt (hasb l) MXN := by
  induction l with
  | nil =>
    intro lo _ _
    rw [cnt_congr (Q := fun _ => false) MXN (fun v _ _ => by simp [hasb]), cnt_none]; rfl
  | cons s r ih =>
    intro lo hlo h
    obtain ⟨h1, h2, h3, h4⟩ := h
    have e1 := ih (s.f1 + 2) (by omega) h4
    have e2 := cnt_seg s.f0 s.f1 (by omega) h2 MXN
    have hM : ((MXN : Nat) : Int) = 2147483647 := rfl
    have e3 := cnt_or (fun v => decide (s.f0 ≤ v) && decide (v ≤ s.f1)) (hasb r) MXN
    rw [cnt_congr (P := fun v => (decide (s.f0 ≤ v) && decide (v ≤ s.f1)) && hasb r v) (Q := fun _ => false) MXN (fun v p q => by
      rw [Bool.eq_false_iff]
      intro hc
      simp only [Bool.and_eq_true, decide_eq_true_eq] at hc
      have := Can_low h4 ((hasb_in r v).mp hc.2).2.2
      omega), cnt_none] at e3
    rw [cnt_congr (P := hasb (s :: r)) (Q := fun v => (decide (s.f0 ≤ v) && decide (v ≤ s.f1)) || hasb r v) MXN (fun v p q => hasb_cons s r v p (by omega))]
    rw [sizeF_cons, e1]
    rw [hM] at e2
    obtain ⟨i1, i2, i3⟩ := e2
    by_cases c : s.f1 = 2147483647
    · have := i2 (by omega) (by omega); omega
    · have := i3 (by omega); omega
theorem union_cnt (l : List S36) : sizeF (unionF l) = cnt (hasb l) MXN := by
  rw [size_cnt _ 1 (by omega) (union_can l)]
  refine cnt_congr MXN (fun v h1 h2 => ?_)
  rw [Bool.eq_iff_iff, hasb_in, hasb_in, union_in]
  constructor
  · rintro ⟨a, b, c⟩; exact c
  · intro h; exact ⟨h.1, h.2.1, h⟩
theorem rest_cnt (l : List S36) : cnt (hasb l) MXN + cnt (hasb (restF l)) MXN = 2147483647 := by
  have hM : ((MXN : Nat) : Int) = 2147483647 := rfl
  have := cnt_not (hasb l) MXN
  rw [← cnt_congr (P := hasb (restF l)) (Q := fun v => !hasb l v) MXN (fun v h1 h2 => by
    rw [hM] at h2
    rw [Bool.eq_iff_iff, hasb_in, restF_in, Bool.not_eq_true', ← Bool.not_eq_true, hasb_in]
    constructor
    · rintro ⟨a, b, _, _, c⟩ ⟨_, _, d⟩; exact c d
    · intro h; exact ⟨h1, h2, h1, h2, fun hn => h ⟨h1, h2, hn⟩⟩), hM] at this
  exact this
theorem pair_cnt (a b : List S36) : cnt (hasb (a ++ b)) MXN + cnt (hasb (meetF [a, b])) MXN = cnt (hasb a) MXN + cnt (hasb b) MXN := by
  have hM : ((MXN : Nat) : Int) = 2147483647 := rfl
  have e1 : cnt (hasb (a ++ b)) MXN = cnt (fun v => hasb a v || hasb b v) MXN := by
    refine cnt_congr MXN (fun v h1 h2 => ?_)
    rw [Bool.eq_iff_iff, hasb_in, inS_append, Bool.or_eq_true, hasb_in, hasb_in]
    constructor
    · rintro ⟨p, q, h | h⟩
      · exact .inl ⟨p, q, h⟩
      · exact .inr ⟨p, q, h⟩
    · rintro (⟨p, q, h⟩ | ⟨p, q, h⟩)
      · exact ⟨p, q, .inl h⟩
      · exact ⟨p, q, .inr h⟩
  have e2 : cnt (hasb (meetF [a, b])) MXN = cnt (fun v => hasb a v && hasb b v) MXN := by
    refine cnt_congr MXN (fun v h1 h2 => ?_)
    rw [Bool.eq_iff_iff, hasb_in, meetF_in, Bool.and_eq_true, hasb_in, hasb_in]
    constructor
    · rintro ⟨p, q, _, _, h⟩
      exact ⟨⟨p, q, h a (by simp)⟩, ⟨p, q, h b (by simp)⟩⟩
    · rintro ⟨⟨p, q, h⟩, ⟨_, _, h'⟩⟩
      refine ⟨p, q, p, q, ?_⟩
      intro x hx
      simp only [List.mem_cons, List.not_mem_nil, or_false] at hx
      rcases hx with rfl | rfl
      · exact h
      · exact h'
  rw [e1, e2, cnt_or]

end Go.Proofs.Ytieapebabncliaa.X
