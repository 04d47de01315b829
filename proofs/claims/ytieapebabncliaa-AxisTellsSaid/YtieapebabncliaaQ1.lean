/- Plain laws about what the printed functions compute. -/
import Derived.Test.YtieapebabncliaaX9
namespace Go.Proofs.Ytieapebabncliaa.X
open Go.RowKit Go.Proofs.YtieapebabncliaaW.PrintWords Go.Proofs.Ytieapebabncliaa.X
set_option linter.unusedVariables false
set_option linter.unusedSimpArgs false
def inS (l : List S36) (x : Int) : Prop := ∃ s ∈ l, s.f0 ≤ x ∧ x ≤ s.f1
def Can : Int → List S36 → Prop
 | _, [] => True
 | lo, s :: r => lo ≤ s.f0 ∧ s.f0 ≤ s.f1 ∧ s.f1 ≤ 2147483647 ∧ Can (s.f1 + 2) r
theorem inS_nil (x : Int) : inS [] x ↔ False := by simp [inS]
theorem inS_cons (s : S36) (l : List S36) (x : Int) : inS (s :: l) x ↔ (s.f0 ≤ x ∧ x ≤ s.f1) ∨ inS l x := by simp [inS]
theorem inS_append (a b : List S36) (x : Int) : inS (a ++ b) x ↔ inS a x ∨ inS b x := by
 induction a with
 | nil => simp [inS_nil]
 | cons s a ih => rw [List.cons_append, inS_cons, inS_cons, ih, or_assoc]
theorem inS_perm {a b : List S36} (h : a.Perm b) (x : Int) : inS a x ↔ inS b x := by
 unfold inS
 constructor
 ·rintro ⟨s, hs, h1⟩; exact ⟨s, h.mem_iff.mp hs, h1⟩
 ·rintro ⟨s, hs, h1⟩; exact ⟨s, h.mem_iff.mpr hs, h1⟩
theorem Can_mono {lo lo' : Int} {l : List S36} (h : Can lo l) (hl : lo' ≤ lo) : Can lo' l := by
 cases l with
 | nil => trivial
 | cons s r => exact ⟨by have := h.1; omega, h.2⟩
theorem Can_low {l : List S36} : ∀ {lo x : Int}, Can lo l → inS l x → lo ≤ x ∧ x ≤ 2147483647 := by
 induction l with
 | nil => intro lo x _ h; exact absurd h (by simp [inS_nil])
 | cons s r ih =>
  intro lo x h hx
  obtain ⟨h1, h2, h3, h4⟩ := h
  rcases (inS_cons s r x).mp hx with hx | hx
  ·omega
  ·have := ih h4 hx; omega
theorem S36_ext {a b : S36} (h0 : a.f0 = b.f0) (h1 : a.f1 = b.f1) : a = b := by cases a; cases b; simp_all
theorem Can_uniq {a : List S36} : ∀ {b : List S36} {lo : Int}, Can lo a → Can lo b → (∀ x, inS a x ↔ inS b x) → a = b := by
 induction a with
 | nil =>
  intro b lo _ hb h
  cases b with
  | nil => rfl
  | cons t r => exact absurd ((h t.f0).mpr ((inS_cons _ _ _).mpr (.inl ⟨Int.le_refl _, hb.2.1⟩))) (by simp [inS_nil])
 | cons s a ih =>
  intro b lo ha hb h
  cases b with
  | nil => exact absurd ((h s.f0).mp ((inS_cons _ _ _).mpr (.inl ⟨Int.le_refl _, ha.2.1⟩))) (by simp [inS_nil])
  | cons t b =>
   obtain ⟨a1, a2, a3, a4⟩ := ha
   obtain ⟨b1, b2, b3, b4⟩ := hb
   have e0 : s.f0 = t.f0 := by
    have p := (h s.f0).mp ((inS_cons _ _ _).mpr (.inl ⟨Int.le_refl _, a2⟩))
    have q := (h t.f0).mpr ((inS_cons _ _ _).mpr (.inl ⟨Int.le_refl _, b2⟩))
    have hp := Can_low (lo := t.f0) (l := t :: b) ⟨Int.le_refl _, b2, b3, b4⟩ p
    have hq := Can_low (lo := s.f0) (l := s :: a) ⟨Int.le_refl _, a2, a3, a4⟩ q
    omega
   have e1 : s.f1 = t.f1 := by
    rcases Int.lt_trichotomy s.f1 t.f1 with hlt | he | hlt
    ·have p := (h (s.f1 + 1)).mpr ((inS_cons _ _ _).mpr (.inl ⟨by omega, by omega⟩))
     rcases (inS_cons _ _ _).mp p with p | p
     ·omega
     ·have := Can_low a4 p; omega
    ·exact he
    ·have p := (h (t.f1 + 1)).mp ((inS_cons _ _ _).mpr (.inl ⟨by omega, by omega⟩))
     rcases (inS_cons _ _ _).mp p with p | p
     ·omega
     ·have := Can_low b4 p; omega
   obtain rfl := S36_ext e0 e1
   rw [ih a4 b4 (fun x => by
    have hx := h x
    rw [inS_cons, inS_cons] at hx
    constructor
    ·intro p
     have := Can_low a4 p
     rcases hx.mp (.inr p) with q | q
     ·omega
     ·exact q
    ·intro p
     have := Can_low b4 p
     rcases hx.mpr (.inr p) with q | q
     ·omega
     ·exact q)]
theorem Can_snoc {l : List S36} {s : S36} : ∀ {lo : Int}, Can lo (l ++ [s]) ↔ Can lo l ∧ (∀ t ∈ l, t.f1 + 2 ≤ s.f0) ∧ lo ≤ s.f0 ∧ s.f0 ≤ s.f1 ∧ s.f1 ≤ 2147483647 := by
 induction l with
 | nil => intro lo; simp [Can]
 | cons t r ih =>
  intro lo
  rw [List.cons_append]
  show (_ ∧ _ ∧ _ ∧ Can (t.f1 + 2) (r ++ [s])) ↔ (_ ∧ _ ∧ _ ∧ Can (t.f1 + 2) r) ∧ _
  rw [ih]
  constructor
  ·rintro ⟨h1, h2, h3, h4, h5, h6, h7, h8⟩
   refine ⟨⟨h1, h2, h3, h4⟩, ?_, by omega, h7, h8⟩
   intro u hu
   rcases List.mem_cons.mp hu with rfl | hu
   ·exact h6
   ·exact h5 u hu
  ·rintro ⟨⟨h1, h2, h3, h4⟩, h5, h6, h7, h8⟩
   exact ⟨h1, h2, h3, h4, fun u hu => h5 u (List.mem_cons_of_mem _ hu), h5 t (List.mem_cons_self ..), h7, h8⟩
theorem snoc_cases {α : Type} (l : List α) : l = [] ∨ ∃ o y, l = o ++ [y] := by
 rcases List.eq_nil_or_concat l with h | ⟨o, y, h⟩
 ·exact .inl h
 ·exact .inr ⟨o, y, by simpa using h⟩
theorem rd_last (o : List S36) (y : S36) : rd_T36 (o ++ [y]) (((o ++ [y]).length : Int) - 1) = y := by
 have : (((o ++ [y]).length : Int) - 1) = ((o.length : Nat) : Int) := by simp
 rw [this, rd_get _ _ (by simp)]
 simp
theorem set_last (o : List S36) (y z : S36) : (o ++ [y]).set ((o ++ [y]).length - 1) z = o ++ [z] := by simp
theorem up_of {x : S36} (h : gone x = false) : (spanUp x).f0 = max x.f0 1 ∧ (spanUp x).f1 = min x.f1 2147483647 ∧ max x.f0 1 ≤ min x.f1 2147483647 := by
 unfold gone at h
 have := of_decide_eq_false h
 exact ⟨rfl, rfl, by omega⟩
theorem fold_spec : ∀ (r out : List S36), Can 1 out → (∀ t ∈ out, ∀ x ∈ r, t.f0 ≤ max x.f0 1) → r.Pairwise (fun x y => x.f0 ≤ y.f0) → (∀ x ∈ r, gone x = false) →
  Can 1 (r.foldl stepU out) ∧ ∀ v, inS (r.foldl stepU out) v ↔ inS out v ∨ (1 ≤ v ∧ v ≤ 2147483647 ∧ inS r v) := by
 intro r
 induction r with
 | nil => intro out h _ _ _; exact ⟨h, fun v => by simp [inS_nil]⟩
 | cons x r ih =>
  intro out hc hlo hp hg
  obtain ⟨hp1, hp2⟩ := List.pairwise_cons.mp hp
  obtain ⟨u0, u1, u2⟩ := up_of (hg x (List.mem_cons_self ..))
  have key : Can 1 (stepU out x) ∧ (∀ t ∈ stepU out x, ∀ z ∈ r, t.f0 ≤ max z.f0 1) ∧ ∀ v, inS (stepU out x) v ↔ inS out v ∨ (1 ≤ v ∧ v ≤ 2147483647 ∧ x.f0 ≤ v ∧ v ≤ x.f1) := by
   rcases snoc_cases out with rfl | ⟨o, y, rfl⟩
   ·have e : stepU [] x = [spanUp x] := by unfold stepU; rw [if_neg (by simp)]; rfl
    rw [e]
    refine ⟨⟨by omega, by omega, by omega, trivial⟩, ?_, ?_⟩
    ·intro t ht z hz
     obtain rfl := List.mem_singleton.mp ht
     have := hp1 z hz; omega
    ·intro v; rw [inS_cons, inS_nil, or_false, false_or]; omega
   ·obtain ⟨c1, c2, c3, c4, c5⟩ := Can_snoc.mp hc
    have hyx : y.f0 ≤ max x.f0 1 := hlo y (by simp) x (List.mem_cons_self ..)
    have hm : (y.f1 + 1) % 4294967296 = y.f1 + 1 := Int.emod_eq_of_lt (by omega) (by omega)
    unfold stepU
    rw [rd_last, hm]
    by_cases hj : (spanUp x).f0 ≤ y.f1 + 1
    ·rw [if_pos ⟨by simp, hj⟩, set_last]
     refine ⟨Can_snoc.mpr ⟨c1, c2, c3, by show y.f0 ≤ max y.f1 _; omega, by show max y.f1 _ ≤ _; omega⟩, ?_, ?_⟩
     ·intro t ht z hz
      rcases List.mem_append.mp ht with ht | ht
      ·exact hlo t (by simp [ht]) z (List.mem_cons_of_mem _ hz)
      ·obtain rfl := List.mem_singleton.mp ht
       exact hlo y (by simp) z (List.mem_cons_of_mem _ hz)
     ·intro v
      rw [inS_append, inS_append, inS_cons, inS_cons, inS_nil, or_false, or_false]
      show (_ ∨ ((y.f0 ≤ v ∧ v ≤ max y.f1 _))) ↔ _
      rw [or_assoc]
      refine or_congr_right ?_
      omega
    ·rw [if_neg (fun h => hj h.2)]
     refine ⟨Can_snoc.mpr ⟨hc, ?_, by omega, by omega, by omega⟩, ?_, ?_⟩
     ·intro t ht
      rcases List.mem_append.mp ht with ht | ht
      ·have := c2 t ht; omega
      ·obtain rfl := List.mem_singleton.mp ht; omega
     ·intro t ht z hz
      rcases List.mem_append.mp ht with ht | ht
      ·exact hlo t ht z (List.mem_cons_of_mem _ hz)
      ·obtain rfl := List.mem_singleton.mp ht
       have := hp1 z hz; omega
     ·intro v
      rw [inS_append (o ++ [y]), inS_cons, inS_nil, or_false]
      refine or_congr_right ?_
      omega
  obtain ⟨k1, k2, k3⟩ := key
  obtain ⟨i1, i2⟩ := ih (stepU out x) k1 k2 hp2 (fun z hz => hg z (List.mem_cons_of_mem _ hz))
  refine ⟨i1, fun v => ?_⟩
  rw [List.foldl_cons, i2, k3, inS_cons]
  constructor
  ·rintro ((h | h) | h)
   ·exact .inl h
   ·exact .inr ⟨h.1, h.2.1, .inl h.2.2⟩
   ·exact .inr ⟨h.1, h.2.1, .inr h.2.2⟩
  ·rintro (h | ⟨h1, h2, h | h⟩)
   ·exact .inl (.inl h)
   ·exact .inl (.inr ⟨h1, h2, h⟩)
   ·exact .inr ⟨h1, h2, h⟩
theorem union_can (l : List S36) : Can 1 (unionF l) := by
 refine (fold_spec (zx_pdq (l.filter fun x => !gone x)) [] trivial (by simp) (zx_pdq_sorted _) ?_).1
 intro x hx
 have := (zx_pdq_perm _).mem_iff.mp hx
 simpa using (List.mem_filter.mp this).2
theorem union_in (l : List S36) (v : Int) : inS (unionF l) v ↔ 1 ≤ v ∧ v ≤ 2147483647 ∧ inS l v := by
 have h := (fold_spec (zx_pdq (l.filter fun x => !gone x)) [] trivial (by simp) (zx_pdq_sorted _) (by
  intro x hx
  have := (zx_pdq_perm _).mem_iff.mp hx
  simpa using (List.mem_filter.mp this).2)).2 v
 unfold unionF joinU
 rw [h, inS_nil, false_or, inS_perm (zx_pdq_perm _)]
 refine and_congr_right fun h1 => and_congr_right fun h2 => ?_
 unfold inS
 constructor
 ·rintro ⟨s, hs, hx⟩; exact ⟨s, (List.mem_filter.mp hs).1, hx⟩
 ·rintro ⟨s, hs, hx⟩
  refine ⟨s, List.mem_filter.mpr ⟨hs, ?_⟩, hx⟩
  have : gone s = false := by unfold gone; exact decide_eq_false (by omega)
  simp [this]
theorem union_len (l : List S36) : (unionF l).length ≤ l.length := by
 have h := foldU_len (zx_pdq (l.filter fun x => !gone x)) []
 rw [zx_pdq_len] at h
 have := List.length_filter_le (fun x => !gone x) l
 unfold unionF joinU
 simp only [List.length_nil, Nat.zero_add] at h
 omega
theorem union_eq {l r : List S36} (hc : Can 1 r) (h : ∀ v, inS r v ↔ 1 ≤ v ∧ v ≤ 2147483647 ∧ inS l v) : unionF l = r :=
 Can_uniq (union_can l) hc (fun v => by rw [union_in, h])
theorem union_f (l : List (List S36)) (h1 : l.length < 1000000) (h2 : l.flatten.length < 1000000000) : axis_Union.f l = some (unionF l.flatten) := by
 unfold axis_Union.f; rw [if_pos ⟨by omega, by omega⟩]
theorem union_f1 (l : List S36) (h : l.length < 1000000000) : axis_Union.f [l] = some (unionF l) := by
 rw [union_f [l] (by simp) (by simpa using h)]; simp
def restC : Int → List S36 → List S36
 | lo, [] => if lo ≤ 2147483647 then [⟨lo, 2147483647⟩] else []
 | lo, s :: r => if s.f0 > lo then ⟨lo, s.f0 - 1⟩ :: restC (s.f1 + 1) r else restC (s.f1 + 1) r
theorem rest_spec (t : List S36) : ∀ lo : Int, Can lo t → Can lo (restC lo t) ∧ ∀ v, inS (restC lo t) v ↔ lo ≤ v ∧ v ≤ 2147483647 ∧ ¬ inS t v := by
 induction t with
 | nil =>
  intro lo _
  unfold restC
  split
  ·exact ⟨⟨Int.le_refl _, by assumption, Int.le_refl _, trivial⟩, fun v => by rw [inS_cons, inS_nil]; simp⟩
  ·exact ⟨trivial, fun v => by rw [inS_nil]; simp; omega⟩
 | cons s r ih =>
  intro lo h
  obtain ⟨h1, h2, h3, h4⟩ := h
  obtain ⟨i1, i2⟩ := ih (s.f1 + 1) (Can_mono h4 (by omega))
  unfold restC
  split
  ·refine ⟨⟨Int.le_refl _, by show lo ≤ s.f0 - 1; omega, by show s.f0 - 1 ≤ _; omega, Can_mono i1 (by show s.f0 - 1 + 2 ≤ _; omega)⟩, fun v => ?_⟩
   rw [inS_cons, i2, inS_cons]
   show (lo ≤ v ∧ v ≤ s.f0 - 1) ∨ _ ↔ _
   constructor
   ·rintro (hv | ⟨a, b, c⟩)
    ·exact ⟨by omega, by omega, fun hn => by
      rcases hn with hn | hn
      ·omega
      ·have := Can_low h4 hn; omega⟩
    ·exact ⟨by omega, b, fun hn => by
      rcases hn with hn | hn
      ·omega
      ·exact c hn⟩
   ·rintro ⟨a, b, c⟩
    by_cases hv : v ≤ s.f0 - 1
    ·exact .inl ⟨a, hv⟩
    ·exact .inr ⟨by have : ¬ (s.f0 ≤ v ∧ v ≤ s.f1) := fun hh => c (.inl hh); omega, b, fun hh => c (.inr hh)⟩
  ·refine ⟨Can_mono i1 (by omega), fun v => ?_⟩
   rw [i2, inS_cons]
   constructor
   ·rintro ⟨a, b, c⟩
    exact ⟨by omega, b, fun hn => by
      rcases hn with hn | hn
      ·omega
      ·exact c hn⟩
   ·rintro ⟨a, b, c⟩
    exact ⟨by have : ¬ (s.f0 ≤ v ∧ v ≤ s.f1) := fun hh => c (.inl hh); omega, b, fun hh => c (.inr hh)⟩
theorem restC_len (t : List S36) : ∀ lo : Int, (restC lo t).length ≤ t.length + 1 := by
 induction t with
 | nil => intro lo; unfold restC; split <;> simp
 | cons s r ih =>
  intro lo
  have := ih (s.f1 + 1)
  unfold restC
  split
  ·simp only [List.length_cons]; omega
  ·simp only [List.length_cons]; omega
def restF (l : List S36) : List S36 := restC 1 (unionF l)
theorem restF_can (l : List S36) : Can 1 (restF l) := (rest_spec _ 1 (union_can l)).1
theorem restF_in (l : List S36) (v : Int) : inS (restF l) v ↔ 1 ≤ v ∧ v ≤ 2147483647 ∧ ¬ inS l v := by
 unfold restF
 rw [(rest_spec _ 1 (union_can l)).2, union_in]
 constructor
 ·rintro ⟨a, b, c⟩; exact ⟨a, b, fun h => c ⟨a, b, h⟩⟩
 ·rintro ⟨a, b, c⟩; exact ⟨a, b, fun h => c h.2.2⟩
theorem restF_len (l : List S36) : (restF l).length ≤ l.length + 1 := by
 have := restC_len (unionF l) 1
 have := union_len l
 unfold restF; omega
end Go.Proofs.Ytieapebabncliaa.X
