-- Written by a program of this session out of the translation. Lean checks it.
import Derived.Test.YtieapebabncliaaX0
import Derived.Test.YtieapebabncliaaX5
namespace Go.Proofs.Ytieapebabncliaa.X
open Go.RowKit Go.Proofs.YtieapebabncliaaW.PrintWords Go.Proofs.YtieapebabncliaaW.PrintLast Go.Proofs.YtieapebabncliaaW.PrintMore
set_option linter.unusedVariables false
set_option linter.unusedSimpArgs false

-- EXTERN
section
variable {P : Program} {α : Type} {d : Kd α} {e : Nat} {W : World} {base : Nat} {ok : Nat → Prop} {xs : List α}

/-- 'clear' of what a row of the call's own holds from place i on. -/
theorem R_clear (t ty : TypeId) (z : Value) (z0 : α) (ht : P.underlying t = some (.slice e)) (hv : ∀ w, (zeroValue e).run P w = .ok z w) (hz : z.cells.size = d.sz) (hs : 0 < d.sz) (h1 : ∀ u ∈ z.cells.toList, u.oneCell' = true) {g n cap : Nat} (i : Nat) (hi : i ≤ n)
    (h0 : ∀ w ok, d.M w base ok z0 z.cells.toList) (h : d.R e W base ok (.slice (some ⟨g, 0, none⟩) n cap) xs) :
    ∃ w1, (Builtin.clear_ #[t] ty #[.slice (some ⟨g, i * d.sz, none⟩) (n - i) (cap - i)]).run P W = .ok (.tuple #[]) w1 ∧
      d.R e w1 base ok (.slice (some ⟨g, 0, none⟩) n cap) (xs.take i ++ List.replicate (n - i) z0) ∧ W.grownBy w1 (some g) := by
  obtain ⟨hn, hnc, _⟩ := Kd.R_reads' h
  obtain ⟨hok, inner, ho, hr⟩ := h
  obtain ⟨ho1, ho2⟩ := ho
  rcases ho2 with ⟨hv', _⟩ | ⟨g', cap', cur, hv', hb, hh, hnc', hcm, hcs, htk⟩
  · cases hv'
  injection hv' with ha _ hc
  injection ha with ha
  injection ha with hg
  subst hg; subst hc
  have hlz : (Builtin.zeroCells z.cells (n - i)).toList.length = (n - i) * d.sz := by
    have := (Kd.reps_zeros (R := d.M W base ok) hz hs (h0 W ok) (n - i)).1
    simpa using this
  have hmul : i * d.sz + (n - i) * d.sz = n * d.sz := by rw [← Nat.add_mul]; congr 1; omega
  have hle : n * d.sz ≤ cap * d.sz := Nat.mul_le_mul_right _ hnc
  have hfit : i * d.sz + (Builtin.zeroCells z.cells (n - i)).toList.length ≤ cur.size := by rw [hlz, hcs]; omega
  obtain ⟨cur', h3, h4, h5⟩ := setCells_row (Builtin.zeroCells z.cells (n - i)).toList (i * d.sz) W cur hh hfit
  obtain ⟨s1, s2, s3, s4⟩ := setCells_same g (Builtin.zeroCells z.cells (n - i)).toList (i * d.sz) W
  have hzi : ∀ u ∈ (Builtin.zeroCells z.cells (n - i)).toList, u.oneCell' = true := by
    intro u hu
    obtain ⟨q, hq, rfl⟩ := List.getElem_of_mem hu
    simp only [Array.length_toList] at hq
    simp only [Array.getElem_toList]
    simp only [Builtin.zeroCells, Array.size_map, Array.size_range] at hq
    simp only [Builtin.zeroCells, Array.getElem_map, Array.getElem_range]
    apply h1
    have hpos : 0 < z.cells.size := by omega
    have hmod : q % z.cells.size < z.cells.size := Nat.mod_lt _ hpos
    rw [getElem!_pos z.cells _ hmod]
    simp
  refine ⟨W.setCells g (i * d.sz) (Builtin.zeroCells z.cells (n - i)).toList, ?_, ⟨hok, inner.take (i * d.sz) ++ (Builtin.zeroCells z.cells (n - i)).toList, ?_, ?_⟩, ⟨s1, s2, s3, by rw [s4]; exact Nat.le_refl _, fun k _ hk => setCells_far _ _ k (fun he => hk (by rw [he]))⟩⟩
  · rcases Nat.eq_zero_or_pos (n - i) with hz0 | hpos
    · have : (Builtin.zeroCells z.cells (n - i)).toList = [] := List.eq_nil_of_length_eq_zero (by rw [hlz, hz0, Nat.zero_mul])
      rw [this, hz0]
      simp [Builtin.clear_, run_underlying ht, World.setCells]
    · obtain ⟨m, hm⟩ : ∃ m, n - i = m + 1 := ⟨n - i - 1, by omega⟩
      have hst := run_storeCells_cells (P := P) g (i * d.sz) (Builtin.zeroCells z.cells (n - i)).toList 0 W
        (by intro j hj
            have : i * d.sz + j < cur.size := by omega
            rw [blk_cell hh]; simp [this])
        (by intro j hj; exact blk_frozen hh _)
        hzi
      simp only [Nat.add_zero] at hst
      rw [hm] at hst ⊢
      simp [Builtin.clear_, run_underlying ht, hv, hst]
  · have hlen : (xs.take i ++ List.replicate (n - i) z0).length = n := by
      rw [List.length_append, List.length_take, List.length_replicate]; omega
    rw [hlen]
    have hil : inner.length = n * d.sz := by rw [hr.1, hn]
    refine ⟨?_, .inr ⟨g, cap, cur', rfl, hb, h3, hnc, hcm, by rw [h4, hcs], ?_⟩⟩
    · rw [List.length_append, List.length_take, hlz]; omega
    · rw [h5, hlz, hmul, List.take_append, List.take_of_length_le (by rw [List.length_append, List.length_take, hlz, Array.length_toList]; omega)]
      have e1 : cur.toList.take (i * d.sz) = inner.take (i * d.sz) := by
        rw [← htk, List.take_take, Nat.min_eq_left (by rw [← hn]; omega)]
      rw [e1]
      have e2 : (List.take (i * d.sz) inner ++ (Builtin.zeroCells z.cells (n - i)).toList).length = n * d.sz := by
        rw [List.length_append, List.length_take, hlz]; omega
      rw [e2, Nat.sub_self, List.take_zero, List.append_nil]
  · exact Kd.reps_append (Kd.reps_take (hr.imp_ (fun _ _ hp => d.M_move (fun k hk => setCells_far _ _ k (fun he => hk.2 (by rw [he]; rfl))) hp)) (by omega)) (Kd.reps_zeros hz hs (h0 _ _) _)
end

theorem filter_take_succ {α : Type} (p : α → Bool) (l : List α) (j : Nat) (hj : j < l.length) : (l.take (j + 1)).filter p = (l.take j).filter p ++ if p l[j] then [l[j]] else [] := by
  rw [List.take_succ_eq_append_getElem hj, List.filter_append]
  cases h : p l[j] <;> simp [h]
/-- The row while elements are taken out. -/
def kept {α : Type} (p : α → Bool) (l : List α) (j : Nat) : List α := (l.take j).filter p
theorem kept_le {α : Type} (p : α → Bool) (l : List α) (j : Nat) : (kept p l j).length ≤ j := by
  unfold kept
  exact Nat.le_trans (List.length_filter_le _ _) (by rw [List.length_take]; omega)
theorem kept_row_len {α : Type} (p : α → Bool) (l : List α) (j : Nat) (hj : j ≤ l.length) : (kept p l j ++ l.drop (kept p l j).length).length = l.length := by
  have := kept_le p l j
  rw [List.length_append, List.length_drop]; omega
theorem kept_row_get {α : Type} (p : α → Bool) (l : List α) (j : Nat) (hj : j < l.length) : (kept p l j ++ l.drop (kept p l j).length)[j]? = some l[j] := by
  have := kept_le p l j
  rw [List.getElem?_append_right this, List.getElem?_drop, show (kept p l j).length + (j - (kept p l j).length) = j by omega, List.getElem?_eq_getElem hj]
theorem kept_row_set {α : Type} (p : α → Bool) (l : List α) (j : Nat) (hj : j < l.length) (hp : p l[j] = true) :
    (kept p l j ++ l.drop (kept p l j).length).set (kept p l j).length l[j] = kept p l (j + 1) ++ l.drop (kept p l (j + 1)).length := by
  have hle := kept_le p l j
  have e : kept p l (j + 1) = kept p l j ++ [l[j]] := by unfold kept; rw [filter_take_succ p l j hj, if_pos hp]
  rw [e, List.set_append_right _ _ (Nat.le_refl _), Nat.sub_self, List.length_append, List.length_singleton, List.append_assoc]
  congr 1
  rw [List.drop_eq_getElem_cons (show (kept p l j).length < l.length by omega), List.set_cons_zero]
  rfl
theorem kept_skip {α : Type} (p : α → Bool) (l : List α) (j : Nat) (hj : j < l.length) (hp : p l[j] = false) : kept p l (j + 1) = kept p l j := by
  unfold kept; rw [filter_take_succ p l j hj, if_neg (by simp [hp]), List.append_nil]
theorem kept_start {α : Type} (q : α → Bool) (l : List α) (i : Nat) (hi : i < l.length) (hq : q l[i] = true) (hn : ∀ j (hj : j < l.length), j < i → q l[j] = false) : kept (fun x => !q x) l (i + 1) = l.take i := by
  rw [kept_skip _ l i hi (by simp [hq])]
  unfold kept
  apply List.filter_eq_self.2
  intro x hx
  obtain ⟨j, hj, rfl⟩ := List.getElem_of_mem hx
  rw [List.length_take] at hj
  rw [List.getElem_take, hn j (by omega) (by omega)]; rfl
theorem idxf_cases {α : Type} (q : α → Bool) (l : List α) : (idxf q l = -1 ∧ l.filter (fun x => !q x) = l) ∨ ∃ i, ∃ h : i < l.length, idxf q l = (i : Int) ∧ q l[i] = true ∧ ∀ j (hj : j < l.length), j < i → q l[j] = false := by
  unfold idxf
  cases h : l.findIdx? q with
  | none =>
    refine .inl ⟨rfl, List.filter_eq_self.2 fun x hx => ?_⟩
    rw [List.findIdx?_eq_none_iff] at h
    rw [h x hx]; rfl
  | some i =>
    rw [List.findIdx?_eq_some_iff_getElem] at h
    obtain ⟨hi, h1, h2⟩ := h
    exact .inr ⟨i, hi, rfl, h1, fun j hj hji => by simpa using h2 j hji⟩
theorem R_two {α : Type} {d : Kd α} {e : Nat} {w : World} {base : Nat} {ok : Nat → Prop} {v : Value} {xs : List α} (h : d.R e w base ok v xs) : v = .slice none 0 0 ∨ ∃ g c, v = .slice (some ⟨g, 0, none⟩) xs.length c := by
  obtain ⟨_, inner, ho, _⟩ := h
  rcases ho.2 with ⟨h1, h0⟩ | ⟨g, cap, cur, rfl, _⟩
  · exact .inl h1
  · exact .inr ⟨g, cap, rfl⟩
theorem R_head {α : Type} {d : Kd α} {e : Nat} {w : World} {base : Nat} {ok : Nat → Prop} {v : Value} {xs : List α} (h : d.R e w base ok v xs) (hp : 0 < xs.length) : ∃ g c, v = .slice (some ⟨g, 0, none⟩) xs.length c := by
  obtain ⟨_, inner, ho, _⟩ := h
  rcases ho.2 with ⟨_, h0⟩ | ⟨g, cap, cur, rfl, _⟩
  · omega
  · exact ⟨g, cap, rfl⟩

end Go.Proofs.Ytieapebabncliaa.X
