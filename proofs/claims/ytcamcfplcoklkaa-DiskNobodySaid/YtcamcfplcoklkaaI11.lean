import Derived.Test.YtcamcfplcoklkaaI10
namespace Go.Proofs.Ytcamcfplcoklkaa.Iv
open Go
section
variable {P : Program} {K B : Nat → Prop} {w : World} {S : Nat → Prop} {m : Map} {H : Heap}
set_option linter.unusedVariables false
set_option linter.unusedSimpArgs false

/-! ### filling -/
theorem fillOne {cells : List V} {arr ys : Array Value} {cs : List V} {R : V → Value → Prop} (off : Nat) (h : All2 R cells arr.toList) (k : All2 R cs ys.toList) (hle : off + cs.length ≤ cells.length) :
    All2 R (splice cells off cs) (ys.zipIdx.foldl (fun a (c, j) => a.setIfInBounds (off + j) c) arr).toList := by
  have e : ys.zipIdx.foldl (fun a (c, j) => a.setIfInBounds (off + j) c) arr = (ys.toList.zipIdx 0).foldl (fun cs (x : Value × Nat) => cs.setIfInBounds (off + x.2) x.1) arr := by
    rw [← Array.foldl_toList, Array.toList_zipIdx]
  obtain ⟨g1, g2⟩ := Great.foldl_set off ys.toList 0 arr
  rw [← e] at g1 g2
  have hl1 := h.len
  have hl2 := k.len
  have hx : (ys.zipIdx.foldl (fun a (c, j) => a.setIfInBounds (off + j) c) arr).toList = arr.toList.take off ++ ys.toList ++ arr.toList.drop (off + ys.toList.length) := by
    apply List.ext_getElem?
    intro j
    rw [Array.getElem?_toList, g2 j]
    simp only [Nat.add_zero]
    have hsz : arr.size = arr.toList.length := by simp
    have hto : (arr.toList.take off).length = off := by rw [List.length_take]; omega
    rw [List.append_assoc]
    rcases Nat.lt_or_ge j off with h1 | h1
    · rw [if_neg (by omega), List.getElem?_append_left (by omega), List.getElem?_take_of_lt h1, Array.getElem?_toList]
    · rw [List.getElem?_append_right (by omega), hto]
      rcases Nat.lt_or_ge (j - off) ys.toList.length with h2 | h2
      · rw [List.getElem?_append_left h2]
        by_cases h3 : j < arr.size
        · rw [if_pos ⟨h1, by omega, h3⟩]
        · omega
      · rw [if_neg (by omega), List.getElem?_append_right h2, List.getElem?_drop, Array.getElem?_toList]
        congr 1
        omega
  rw [hx]
  exact h.splice off k

theorem fill_sound {R : V → Value → Prop} {place : Nat → Option (Nat × Nat)} : ∀ {ps : List (Nat × V)} {qs : List (Nat × Value)} {cells : List V} {arr : Array Value} {r : List V},
    fillF place ps cells = some r → ps.length = qs.length → (∀ (j : Nat) p q, ps[j]? = some p → qs[j]? = some q → p.1 = q.1 ∧ All2 R p.2.cells q.2.cells.toList) → All2 R cells arr.toList →
    ∃ r', Instr.fill place arr qs = some r' ∧ All2 R r r'.toList
  | [], [], cells, arr, r, he, _, _, h => by simp [fillF] at he; subst he; exact ⟨arr, rfl, h⟩
  | [], _ :: _, _, _, _, _, hl, _, _ => by simp at hl
  | _ :: _, [], _, _, _, _, hl, _, _ => by simp at hl
  | (i, v) :: ps, (i', y) :: qs, cells, arr, r, he, hl, hpq, h => by
    obtain ⟨e1, hc⟩ := hpq 0 _ _ rfl rfl
    simp only at e1 hc
    subst e1
    simp only [fillF] at he
    split at he
    · rename_i off size hp
      split at he
      · rename_i hq
        obtain ⟨hq1, hq2⟩ := hq
        have hyl : y.cells.toList.length = v.cells.length := hc.len
        have hal := h.len
        have h' := fillOne off h hc (by omega)
        obtain ⟨r', hr, h2⟩ := fill_sound (place := place) he (by simpa using hl) (fun j p q h1 h2 => hpq (j + 1) p q (by simpa using h1) (by simpa using h2)) h'
        refine ⟨r', ?_, h2⟩
        simp only [Array.length_toList] at hyl hal
        simp only [Instr.fill, hp]
        rw [if_neg (by rw [hyl, hal, hq1]; simp; omega)]
        exact hr
      · cases he
    · cases he

theorem cells_of {v : V} {x : Value} (h : VR w S B m v x) (hu : v ≠ .und) (hv : ∀ cs, v ≠ .tup cs) : All2 (VR w S B m) v.cells x.cells.toList := by
  cases h with
  | fr hf =>
    have h1 : v.cells = [v] := by cases hf <;> rfl
    have h2 : x.cells = #[x] := by cases hf <;> rfl
    rw [h1, h2]; exact ⟨.fr hf, trivial⟩
  | agg cs vs hl hh => exact All2.of (by simpa [V.cells, Value.cells] using hl) (fun j c x h1 h2 => hh j c x h1 (by have h2' : vs.toList[j]? = some x := h2; simpa using h2'))
  | und => exact absurd rfl hu
  | tup cs => exact absurd rfl (hv _)
  | lfptr cs rb o vals a b c => exact ⟨.lfptr cs rb o vals a b c, trivial⟩
  | llist xs sz cap a vals a b c d => exact ⟨.llist xs sz cap _ vals a b c d, trivial⟩
  | ptr i o im hm => exact ⟨.ptr i o im hm, trivial⟩
  | ptrD i g o im a hm hg => exact ⟨.ptrD i g o im a hm hg, trivial⟩
  | sl i o n sz lim im a cap hm ha h1 h2 h3 h4 h5 => exact ⟨.sl i o n sz lim im a cap hm ha h1 h2 h3 h4 h5, trivial⟩
  | slD i g o n sz lim im a cap hm hg h1 h5 => exact ⟨.slD i g o n sz lim im a cap hm hg h1 h5, trivial⟩
  | fn f cs vs hl hh => exact ⟨.fn f cs vs hl hh, trivial⟩

/-- parts of a literal, related one by one -/
def PartsR (R : V → Value → Prop) (ps : List (Nat × V)) (qs : List (Nat × Value)) : Prop :=
  ps.length = qs.length ∧ ∀ (j : Nat) p q, ps[j]? = some p → qs[j]? = some q → p.1 = q.1 ∧ R p.2 q.2

theorem build_sound {t : Nat} {ps : List (Nat × V)} {v : V} (he : evBuild P t ps = some v) {qs : Array (Nat × Value)} (hp : PartsR (VR w S B m) ps qs.toList) : SoundV P B w S m v (Instr.build t qs) := by
  unfold evBuild at he
  split at he
  case isFalse => cases he
  rename_i hok
  have hu : ∀ p ∈ ps, p.2 ≠ .und ∧ ∀ cs, p.2 ≠ .tup cs := fun p hp => by
    have := List.all_eq_true.1 hok p hp
    exact ⟨fun e => (by rw [e] at this; cases this), fun cs e => (by rw [e] at this; cases this)⟩
  have hpq : ∀ (j : Nat) p q, ps[j]? = some p → qs.toList[j]? = some q → p.1 = q.1 ∧ All2 (VR w S B m) p.2.cells q.2.cells.toList := fun j p q h1 h2 => by
    obtain ⟨e, r⟩ := hp.2 j p q h1 h2
    have := hu p (List.mem_of_getElem? h1)
    exact ⟨e, cells_of r this.1 this.2⟩
  have zc : ∀ {z}, zOf P t = some z → ∃ zv, (zeroValue t).run P w = .ok zv w ∧ All2 (VR w S B m) z zv.cells.toList := fun hz => by
    obtain ⟨zv, hr, rfl⟩ := run_zero' hz w
    refine ⟨zv, hr, ?_⟩
    cases zv with
    | agg cs =>
      refine All2.of (by simp [ofVal, V.cells, Value.cells]) (fun j c x h1 h2 => ?_)
      simp only [ofVal, V.cells, List.getElem?_map, Value.cells] at h1 h2
      rw [h2] at h1
      simp only [Option.map_some, Option.some.injEq] at h1
      subst h1; exact sc_VR x
    | _ =>
      have e : ∀ y : Value, (sc y).cells = [sc y] := fun y => by
        cases hh : sc y <;> first | rfl | exact (sc_agg _ _ hh).elim
      simp only [ofVal, e, Value.cells]
      exact ⟨sc_VR _, trivial⟩
  split at he
  · rename_i fs z hu' hz
    obtain ⟨zv, hzr, hz2⟩ := zc hz
    obtain ⟨it, zv', hit, hiz, hze⟩ := zOf_info hz
    have : zv' = zv := by
      have : (zeroValue t).run P w = .ok zv' w := by unfold zeroValue typeInfo; simp [hit, hiz]
      rw [hzr] at this; cases this; rfl
    subst this
    split at he
    · rename_i places hpl
      split at he
      · rename_i r hf
        cases he
        obtain ⟨r', hr, h2⟩ := fill_sound hf hp.1 hpq hz2
        refine ⟨.agg r', run_build w t qs r' ?_, VR.agg_mk (xs := r'.toList) h2⟩
        unfold placesOf at hpl
        simp only [Program.built, hit, hu', hiz, hpl]
        rw [← hr]
        congr 1
        funext i
        simp
      · cases he
    · cases he
  · rename_i n e z hu' hz
    obtain ⟨zv, hzr, hz2⟩ := zc hz
    split at he
    · rename_i sz hs
      split at he
      · rename_i r hf
        cases he
        obtain ⟨r', hr, h2⟩ := fill_sound hf hp.1 hpq hz2
        refine ⟨.agg r', ?_, VR.agg_mk (xs := r'.toList) h2⟩
        simp [Instr.build, hzr, run_underlying hu', run_sizeOf' hs, hr]
      · cases he
    · cases he
  · cases he
end
end Go.Proofs.Ytcamcfplcoklkaa.Iv
