import Derived.Test.YtcamcfplcoklkaaI24
namespace Go.Proofs.Ytcamcfplcoklkaa.Iv
open Go
set_option linter.unusedVariables false
set_option linter.unusedSimpArgs false

/-! ### what an operation reads of the heap is what it says that it reads -/
theorem live_same {H H' : Heap} {i : Id} (h : H' i = H i) (g : Nat) : live H' i g = live H i g := by unfold live; rw [h]
theorem next_same {H H' : Heap} {i : Id} (h : H' i = H i) : nextGen H' i = nextGen H i := by unfold nextGen; rw [h]

section
variable {P : Program} {H H' : Heap}

theorem load_loc {t : Nat} {a : V} {out : Out} (he : evLoad P H t a = some out) (hl : ∀ i ∈ out.rd, H' i = H i) : evLoad P H' t a = some out := by
  unfold evLoad at he ⊢
  split at he
  · split at he
    · split at he
      · split at he
        · cases he
          simp only [*, live_same (hl _ (List.mem_singleton_self _))]
        · cases he
      · cases he
    · cases he
  · exact he
  · cases he
theorem store_loc {t : Nat} {a v : V} {out : Out} (he : evStore P H t a v = some out) (hl : ∀ i ∈ out.rd, H' i = H i) : evStore P H' t a v = some out := by
  unfold evStore at he ⊢
  split at he
  · split at he
    · split at he
      · cases he
        rename_i hc
        simp only [*, live_same (hl _ (List.mem_singleton_self _))]
        simp
      · cases he
    · cases he
  · cases he
theorem box_loc {d : Nat} {cs : List V} {out : Out} (he : evBox H d cs = some out) (hl : ∀ i ∈ out.rd, H' i = H i) : evBox H' d cs = some out := by
  unfold evBox at he ⊢
  split at he
  · cases he
    rename_i hc
    rw [if_pos hc, next_same (hl _ (List.mem_singleton_self _))]
  · cases he
theorem boxO_loc {d : Nat} {v : V} {out : Out} (he : boxO H d v = some out) (hl : ∀ i ∈ out.rd, H' i = H i) : boxO H' d v = some out := by
  unfold boxO at he ⊢
  split at he
  · exact he
  · exact box_loc he hl
theorem keep1_loc {v : V} {out : Out} (he : keep1 H v = some out) (hl : ∀ i ∈ out.rd, H' i = H i) : keep1 H' v = some out := by
  unfold keep1 at he ⊢
  split at he
  · split at he
    · split at he
      · split at he
        · cases he
          rename_i hc
          simp only [*, live_same (hl _ (List.mem_singleton_self _))]
          simp
        · cases he
      · cases he
    · cases he
  all_goals exact he
theorem keepL_loc : ∀ {cs : List V} {out : List V × List (Id × Blk) × List Id}, keepL H cs = some out → (∀ i ∈ out.2.2, H' i = H i) → keepL H' cs = some out
  | [], out, he, _ => he
  | v :: r, out, he, hl => by
    simp only [keepL] at he ⊢
    split at he
    · rename_i v' u d hv
      split at he
      · rename_i vs us ds hr
        cases he
        rw [keep1_loc hv (fun i hi => hl i (by simp only [List.mem_append]; exact .inl hi)), keepL_loc hr (fun i hi => hl i (by simp only [List.mem_append]; exact .inr hi))]
      · cases he
    · cases he
theorem keepV_loc {v : V} {out : Out} (he : keepV H v = some out) (hl : ∀ i ∈ out.rd, H' i = H i) : keepV H' v = some out := by
  unfold keepV at he ⊢
  split at he
  · split at he
    · rename_i hk
      cases he
      simp only [keepL_loc hk hl]
    · cases he
  · exact keep1_loc he hl
theorem keepParts_loc : ∀ {ps : List (Nat × V)} {out : List (Nat × List V) × List (Id × Blk) × List Id}, keepParts H ps = some out → (∀ i ∈ out.2.2, H' i = H i) → keepParts H' ps = some out
  | [], out, he, _ => he
  | (i, v) :: r, out, he, hl => by
    simp only [keepParts] at he ⊢
    split at he
    · rename_i v' u d hv
      split at he
      · rename_i vs us ds hr
        cases he
        rw [keepV_loc hv (fun i hi => hl i (by simp only [List.mem_append]; exact .inl hi)), keepParts_loc hr (fun i hi => hl i (by simp only [List.mem_append]; exact .inr hi))]
      · cases he
    · cases he
theorem buildSlice_loc {d t len : Nat} {ps : List (Nat × V)} {out : Out} (he : evBuildSlice P H d t len ps = some out) (hl : ∀ i ∈ out.rd, H' i = H i) : evBuildSlice P H' d t len ps = some out := by
  unfold evBuildSlice at he ⊢
  split at he
  · split at he
    · split at he
      · rename_i hc
        split at he
        · rename_i hk
          split at he
          · split at he
            · rename_i hk2
              cases he
              have e1 := keepParts_loc hk (fun i hi => hl i (List.mem_cons_of_mem _ hi))
              have e2 := next_same (hl _ List.mem_cons_self)
              simp only [*]
              simp
            · cases he
          · cases he
        · cases he
      · cases he
    · cases he
  · cases he
theorem makeSlice_loc {d t : Nat} {l c : V} {out : Out} (he : evMakeSlice P H d t l c = some out) (hl : ∀ i ∈ out.rd, H' i = H i) : evMakeSlice P H' d t l c = some out := by
  unfold evMakeSlice at he ⊢
  split at he
  · split at he
    · split at he
      · rename_i hc
        cases he
        rename_i h1 h2 h3 _
        rw [next_same (hl _ (List.mem_singleton_self _))]
        simp [*]
      · cases he
    · cases he
  · cases he
theorem src_loc {sz : Nat} {v : V} {out : List V × Nat × Bool × List Id} (he : src H sz v = some out) (hl : ∀ i ∈ out.2.2.2, H' i = H i) : src H' sz v = some out := by
  unfold src at he ⊢
  split at he
  · split at he
    · split at he
      · split at he
        · cases he
          rename_i hc
          subst hc
          simp only [*, live_same (hl _ (List.mem_singleton_self _))]
          simp
        · cases he
      · cases he
    · cases he
  all_goals exact he

theorem mem_c {α : Type} {a b : α} {l : List α} (h : a ∈ l) : a ∈ b :: l := List.mem_cons_of_mem _ h

theorem appSrc_loc {sz : Nat} {z : List V} {xT : Nat} {b : V} {r : List V × Nat × Bool × List Id} (hr : appSrc P H sz z xT b = some r) (hl : ∀ i ∈ r.2.2.2, H' i = H i) : appSrc P H' sz z xT b = some r := by
  unfold appSrc at hr ⊢
  split at hr
  · exact hr
  · exact hr
  · exact src_loc hr hl
  · cases hr
theorem append_loc {d sT xT : Nat} {a b : V} {out : Out} (he : evAppend P H d sT xT a b = some out) (hl : ∀ i ∈ out.rd, H' i = H i) : evAppend P H' d sT xT a b = some out := by
  unfold evAppend at he ⊢
  split at he
  · split at he
    · rename_i sz by_ z hs hb hz
      split at he
      · rename_i cs k fl rd hsrc
        have hsrc' := fun h => appSrc_loc (H' := H') hsrc h
        split at he
        · rename_i hq
          split at he
          · split at he
            · cases he
              have e1 := hsrc' hl
              simp only [e1]
              simp [*]
            · split at he
              · cases he
                have e1 := hsrc' (fun i hi => hl i (mem_c hi))
                have e2 := next_same (hl _ List.mem_cons_self)
                simp only [e1, e2]
                simp [*]
              · cases he
          · split at he
            · cases he
              have e1 := hsrc' hl
              simp only [e1]
              simp [*]
            · split at he
              · cases he
                have e1 := hsrc' (fun i hi => hl i (mem_c hi))
                have e2 := next_same (hl _ List.mem_cons_self)
                simp only [e1, e2]
                simp [*]
              · cases he
          · split at he
            · cases he
              have e1 := hsrc' hl
              simp only [e1]
              simp [*]
            · cases he
          · split at he
            · rename_i bb hbb
              split at he
              · rename_i hc
                split at he
                · split at he
                  · cases he
                    have e1 := hsrc' (fun i hi => hl i (mem_c hi))
                    have e2 := live_same (hl _ List.mem_cons_self)
                    simp only [e1, e2, hbb]
                    rw [if_pos hq, if_pos hc]
                    simp [*]
                  · split at he
                    · cases he
                      have e1 := hsrc' (fun i hi => hl i (mem_c hi))
                      have e2 := live_same (hl _ List.mem_cons_self)
                      simp only [e1, e2, hbb]
                      rw [if_pos hq, if_pos hc]
                      simp [*]
                    · cases he
                · split at he
                  · split at he
                    · cases he
                      have e1 := hsrc' (fun i hi => hl i (mem_c hi))
                      have e2 := live_same (hl _ List.mem_cons_self)
                      simp only [e1, e2, hbb]
                      rw [if_pos hq, if_pos hc]
                      simp [*]
                    · cases he
                  · split at he
                    · cases he
                      have e1 := hsrc' (fun i hi => hl i (mem_c (mem_c hi)))
                      have e2 := live_same (hl _ List.mem_cons_self)
                      have e3 := next_same (hl _ (mem_c List.mem_cons_self))
                      simp only [e1, e2, hbb, e3]
                      rw [if_pos hq, if_pos hc]
                      simp [*]
                    · cases he
              · cases he
            · cases he
          · cases he
        · cases he
      · cases he
    · cases he
  · cases he
end
end Go.Proofs.Ytcamcfplcoklkaa.Iv
