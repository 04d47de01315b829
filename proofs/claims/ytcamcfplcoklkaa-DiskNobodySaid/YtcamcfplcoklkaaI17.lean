import Derived.Test.YtcamcfplcoklkaaI16
namespace Go.Proofs.Ytcamcfplcoklkaa.Iv
open Go
set_option linter.unusedVariables false
set_option linter.unusedSimpArgs false

/-! ### other names for blocks -/
def ImLike (a b : Im) : Prop := a.rb = b.rb ∧ a.dl = b.dl ∧ a.n = b.n ∧ a.tot = b.tot
def RenOK (f : Id → Nat → Option (Id × Nat)) (m m' : Map) : Prop :=
  ∀ i g i' g', f i g = some (i', g') → ∀ im, m i = some im → ∃ im', m' i' = some im' ∧ (im.gen = g → im'.gen = g' ∧ ImLike im im') ∧ (g < im.gen → g' < im'.gen)

theorem renL_map (f : Id → Nat → Option (Id × Nat)) : ∀ cs : List V, renL f cs = cs.map (ren f)
  | [] => rfl
  | c :: cs => by simp [renL, renL_map f cs]

theorem VR.ren {w : World} {S B : Nat → Prop} {m m' : Map} {f : Id → Nat → Option (Id × Nat)} (hf : RenOK f m m') {v : V} {x : Value} (h : VR w S B m v x) : VR w S B m' (Iv.ren f v) x := by
  induction h with
  | fr h => cases h with
    | fptr cs rb o vals a b c => exact .fr (.fptr cs rb o vals a b c)
    | list xs sz cap a vals h1 h2 h3 h4 => exact .fr (.list xs sz cap a vals h1 h2 h3 h4)
    | int k n => exact .fr (.int k n)
    | bool b => exact .fr (.bool b)
    | str s => exact .fr (.str s)
    | nilp => exact .fr .nilp
    | nils => exact .fr .nils
    | emp a => exact .fr (.emp a)
    | nilf => exact .fr .nilf
  | lfptr cs rb o vals h hc hv => exact .lfptr cs rb o vals h hc hv
  | llist xs sz cap a vals hcap hz ha hv => exact .llist xs sz cap a vals hcap hz ha hv
  | ptr i o im hm =>
    simp only [Iv.ren]
    cases e : f i im.gen with
    | none => exact .und _
    | some p =>
      obtain ⟨i', g'⟩ := p
      obtain ⟨im', hm', h1, _⟩ := hf i im.gen i' g' e im hm
      obtain ⟨rfl, q1, q2, q3, q4⟩ := h1 rfl
      rw [q1, q2]
      exact .ptr i' o im' hm'
  | ptrD i g o im a hm hg =>
    simp only [Iv.ren]
    cases e : f i g with
    | none => exact .und _
    | some p =>
      obtain ⟨i', g'⟩ := p
      obtain ⟨im', hm', _, h2⟩ := hf i g i' g' e im hm
      exact .ptrD i' g' o im' a hm' (h2 hg)
  | sl i o n sz lim im a cap hm ha h1 h2 h3 h4 h5 =>
    simp only [Iv.ren]
    cases e : f i im.gen with
    | none => exact .und _
    | some p =>
      obtain ⟨i', g'⟩ := p
      obtain ⟨im', hm', k1, _⟩ := hf i im.gen i' g' e im hm
      obtain ⟨rfl, q1, q2, q3, q4⟩ := k1 rfl
      exact .sl i' o n sz lim im' a cap hm' (fun hp => by rw [← q1, ← q2]; exact ha hp) h1 (by rw [← q3]; exact h2) (by rw [← q2, ← q4]; exact h3) (fun e => by rw [← q3]; exact h4 e) h5
  | slD i g o n sz lim im a cap hm hg h1 h5 =>
    simp only [Iv.ren]
    cases e : f i g with
    | none => exact .und _
    | some p =>
      obtain ⟨i', g'⟩ := p
      obtain ⟨im', hm', _, h2⟩ := hf i g i' g' e im hm
      exact .slD i' g' o n sz lim im' a cap hm' (h2 hg) h1 h5
  | agg cs vs hl h ih =>
    simp only [Iv.ren, renL_map]
    refine .agg _ _ (by simpa using hl) (fun j c x h1 h2 => ?_)
    rw [List.getElem?_map] at h1
    cases e : cs[j]? with
    | none => rw [e] at h1; cases h1
    | some c' => rw [e] at h1; cases h1; exact ih j c' x e h2
  | tup cs vs hl h ih =>
    simp only [Iv.ren, renL_map]
    refine .tup _ _ (by simpa using hl) (fun j c x h1 h2 => ?_)
    rw [List.getElem?_map] at h1
    cases e : cs[j]? with
    | none => rw [e] at h1; cases h1
    | some c' => rw [e] at h1; cases h1; exact ih j c' x e h2
  | fn k cs vs hl h ih =>
    simp only [Iv.ren, renL_map]
    refine .fn _ _ _ (by simpa using hl) (fun j c x h1 h2 => ?_)
    rw [List.getElem?_map] at h1
    cases e : cs[j]? with
    | none => rw [e] at h1; cases h1
    | some c' => rw [e] at h1; cases h1; exact ih j c' x e h2
  | und x => exact .und x

mutual
theorem ren_norefs (f : Id → Nat → Option (Id × Nat)) : ∀ v : V, refs v = [] → ren f v = v
  | .ptr i g o, h => by simp [refs] at h
  | .sl i g o n sz lim, h => by simp [refs] at h
  | .agg cs, h => by simp only [ren]; rw [renL_norefs f cs (by simpa [refs] using h)]
  | .tup cs, h => by simp only [ren]; rw [renL_norefs f cs (by simpa [refs] using h)]
  | .fn k cs, h => by simp only [ren]; rw [renL_norefs f cs (by simpa [refs] using h)]
  | .int .., _ => rfl
  | .bool _, _ => rfl
  | .str _, _ => rfl
  | .nilp, _ => rfl
  | .nils, _ => rfl
  | .emp, _ => rfl
  | .nilf, _ => rfl
  | .fptr .., _ => rfl
  | .list .., _ => rfl
  | .und, _ => rfl
theorem renL_norefs (f : Id → Nat → Option (Id × Nat)) : ∀ cs : List V, refsL cs = [] → renL f cs = cs
  | [], _ => rfl
  | c :: cs, h => by
    simp only [refsL, List.append_eq_nil_iff] at h
    simp only [renL]
    rw [ren_norefs f c h.1, renL_norefs f cs h.2]
end

theorem VR.monoB {w : World} {S B B' : Nat → Prop} {m : Map} (hB : ∀ rb, B rb → B' rb) {v : V} {x : Value} (h : VR w S B m v x) : VR w S B' m v x := by
  induction h with
  | fr h => exact .fr h
  | lfptr cs rb o vals h hc hv => exact .lfptr cs rb o vals (h.imp id (hB _)) hc (fun j c e => (hv j c e).map id (fun rb q => ⟨q.imp id (hB _), rfl⟩))
  | llist xs sz cap a vals hcap hz ha hv => exact .llist xs sz cap a vals hcap hz (fun hne => let ⟨rb, o, e, h, hc⟩ := ha hne; ⟨rb, o, e, h.imp id (hB _), hc⟩) hv
  | ptr i o im hm => exact .ptr i o im hm
  | ptrD i g o im x hm hg => exact .ptrD i g o im x hm hg
  | sl i o n sz lim im a cap hm ha h1 h2 h3 h4 h5 => exact .sl i o n sz lim im a cap hm ha h1 h2 h3 h4 h5
  | slD i g o n sz lim im a cap hm hg h1 h5 => exact .slD i g o n sz lim im a cap hm hg h1 h5
  | agg cs vs hl h ih => exact .agg cs vs hl ih
  | tup cs vs hl h ih => exact .tup cs vs hl ih
  | fn f cs vs hl h ih => exact .fn f cs vs hl ih
  | und x => exact .und x

/-! ### which blocks go over -/
theorem collect_spec {H : Heap} : ∀ (n : Nat) (todo : List (Id × Nat)) (acc acc' : List Id), collect H n todo acc = some acc' →
    (∀ i ∈ acc, i ∈ acc') ∧ (acc.Nodup → acc'.Nodup) ∧ ((∀ i ∈ acc, ∃ b, H i = some b) → ∀ i ∈ acc', ∃ b, H i = some b) ∧ (∀ p ∈ todo, p.1 ∈ acc')
  | _, [], acc, acc', h => by
    have : acc' = acc := by cases ‹Nat› <;> (simp [collect] at h; exact h.symm)
    subst this
    exact ⟨fun _ h => h, id, fun h => h, fun p hp => by cases hp⟩
  | 0, _ :: _, acc, acc', h => by simp [collect] at h
  | n + 1, (i, g) :: todo, acc, acc', h => by
    simp only [collect] at h
    split at h
    · rename_i hi
      obtain ⟨h1, h2, h3, h4⟩ := collect_spec n todo acc acc' h
      refine ⟨h1, h2, h3, fun p hp => ?_⟩
      rcases List.mem_cons.1 hp with rfl | hp
      · exact h1 _ hi
      · exact h4 p hp
    · rename_i hi
      split at h
      · rename_i b hb
        obtain ⟨h1, h2, h3, h4⟩ := collect_spec n _ (acc ++ [i]) acc' h
        obtain ⟨hb1, _⟩ := live_some hb
        refine ⟨fun j hj => h1 j (by simp [hj]), fun hnd => h2 ?_, fun hs => h3 (fun j hj => ?_), fun p hp => ?_⟩
        · rw [List.nodup_append]
          exact ⟨hnd, by simp, fun a ha b hb => by simp at hb; subst hb; intro e; subst e; exact hi ha⟩
        · rcases List.mem_append.1 hj with hj | hj
          · exact hs j hj
          · simp at hj; subst hj; exact ⟨b, hb1⟩
        · rcases List.mem_cons.1 hp with rfl | hp
          · exact h1 _ (by simp)
          · exact h4 p (by simp [hp])
      · cases h

theorem pos_spec {i : Id} : ∀ {l : List Id} {n j : Nat}, pos i l n = some j → n ≤ j ∧ l[j - n]? = some i
  | [], n, j, h => by simp [pos] at h
  | x :: r, n, j, h => by
    simp only [pos] at h
    split at h
    · rename_i e; cases h; exact ⟨Nat.le_refl _, by simp [e]⟩
    · obtain ⟨h1, h2⟩ := pos_spec h
      refine ⟨by omega, ?_⟩
      rw [show j - n = (j - (n + 1)) + 1 by omega, List.getElem?_cons_succ]
      exact h2

theorem sets_get (H : Heap) : ∀ (ups : List (Id × Blk)), (ups.map (·.1)).Nodup → (∀ p ∈ ups, (H.sets ups) p.1 = some p.2) ∧ (∀ i, i ∉ ups.map (·.1) → (H.sets ups) i = H i)
  | [], _ => ⟨(fun p hp => by cases hp), fun _ _ => rfl⟩
  | (i, b) :: r, hnd => by
    simp only [List.map_cons, List.nodup_cons] at hnd
    obtain ⟨h1, h2⟩ := sets_get (H.set i b) r hnd.2
    refine ⟨fun p hp => ?_, fun j hj => ?_⟩
    · rcases List.mem_cons.1 hp with rfl | hp
      · simp only [Heap.sets]; rw [h2 i hnd.1]; exact Heap.set_same ..
      · exact h1 p hp
    · simp only [List.map_cons, List.mem_cons, not_or] at hj
      simp only [Heap.sets]; rw [h2 j hj.2]; exact Heap.set_ne _ _ hj.1

theorem backUps_spec {H H' : Heap} {d : Nat} {acc acc' : List Id} : ∀ {l : List Id} {ups : List (Id × Blk)}, backUps H H' d acc acc' l = some ups →
    (∀ p ∈ ups, ∃ i ∈ l, ∃ b g, H' i = some b ∧ backName H d acc i = some (p.1, g) ∧ (b.flat || b.cells.all V.kept) = true ∧
      p.2 = { gen := g + b.gen, cells := if b.flat then b.cells else renL (backRen H d acc acc') b.cells, frz := b.frz, flat := b.flat }) ∧
    (∀ i ∈ l, ∃ i' g b, backName H d acc i = some (i', g) ∧ H' i = some b ∧ i' ∈ ups.map (·.1)) ∧
    ups.map (fun p => some p.1) = l.map (fun i => (backName H d acc i).map (·.1))
  | [], ups, h => by simp [backUps] at h; subst h; exact ⟨(fun p hp => by cases hp), (fun i hi => by cases hi), rfl⟩
  | i :: r, ups, h => by
    simp only [backUps] at h
    split at h
    · rename_i b i' g us hb hn hr
      split at h
      · rename_i hk
        cases h
        obtain ⟨h1, h2, h3⟩ := backUps_spec hr
        refine ⟨fun p hp => ?_, fun j hj => ?_, ?_⟩
        · rcases List.mem_cons.1 hp with rfl | hp
          · exact ⟨i, by simp, b, g, hb, hn, hk, rfl⟩
          · obtain ⟨j, hj, q⟩ := h1 p hp; exact ⟨j, by simp [hj], q⟩
        · rcases List.mem_cons.1 hj with rfl | hj
          · exact ⟨i', g, b, hn, hb, by simp⟩
          · obtain ⟨a, c, e, q1, q2, q3⟩ := h2 j hj; exact ⟨a, c, e, q1, q2, by simp [q3]⟩
        · simp [hn, h3]
      · cases h
    · cases h
end Go.Proofs.Ytcamcfplcoklkaa.Iv
