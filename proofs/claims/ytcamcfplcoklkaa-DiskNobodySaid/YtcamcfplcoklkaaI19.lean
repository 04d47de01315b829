import Derived.Test.YtcamcfplcoklkaaI18
namespace Go.Proofs.Ytcamcfplcoklkaa.Iv
open Go
set_option linter.unusedVariables false
set_option linter.unusedSimpArgs false
section
variable {P : Program} {K B : Nat → Prop} {w : World} {S : Nat → Prop} {m : Map} {H : Heap}

theorem All2.map {R R' : V → Value → Prop} (f : V → V) (hf : ∀ c x, R c x → R' (f c) x) : ∀ {cs : List V} {xs : List Value}, All2 R cs xs → All2 R' (cs.map f) xs
  | [], [], _ => trivial
  | _ :: _, _ :: _, h => ⟨hf _ _ h.1, All2.map f hf h.2⟩
  | [], _ :: _, h => h.elim
  | _ :: _, [], h => h.elim

theorem keep1_frz {v : V} {o : Out} (he : keep1 H v = some o) : ∀ p ∈ o.ups, p.2.frz = true := by
  unfold keep1 at he
  split at he
  · split at he
    · split at he
      · split at he
        · cases he; intro p hp; simp at hp; subst hp; rfl
        · cases he
      · cases he
    · cases he
  · split at he
    · cases he
    · cases he; intro p hp; cases hp
  · cases he; intro p hp; cases hp
  · cases he; intro p hp; cases hp
  · split at he
    · cases he
    · cases he; intro p hp; cases hp
  · cases he
  · cases he
  · cases he
  · split at he
    · cases he; intro p hp; cases hp
    · cases he
  · cases he; intro p hp; cases hp
theorem keepL_frz : ∀ {cs : List V} {o : List V × List (Id × Blk) × List Id}, keepL H cs = some o → ∀ p ∈ o.2.1, p.2.frz = true
  | [], o, he => by simp [keepL] at he; subst he; intro p hp; cases hp
  | v :: r, o, he => by
    simp only [keepL] at he
    split at he
    · rename_i hv
      split at he
      · rename_i hr
        cases he
        intro p hp
        rcases List.mem_append.1 hp with hp | hp
        · exact keep1_frz hv p hp
        · exact keepL_frz hr p hp
      · cases he
    · cases he
theorem keepV_frz {v : V} {o : Out} (he : keepV H v = some o) : ∀ p ∈ o.ups, p.2.frz = true := by
  unfold keepV at he
  split at he
  · split at he
    · rename_i hl; cases he; exact keepL_frz hl
    · cases he
  · exact keep1_frz he
theorem view1_ups {v : V} {o : Out} (he : view1 H v = some o) : o.ups = [] := by
  unfold view1 at he
  split at he
  · split at he
    · split at he
      · cases he; rfl
      · cases he
    · cases he
  · cases he; rfl
  · cases he; rfl
  · cases he
theorem argIn_frz0 {md : Mode} (hn : md ≠ .lentN) {v : V} {o : Out} (he : argIn H md v = some o) : ∀ p ∈ o.ups, p.2.frz = true := by
  cases md with
  | keep => exact keepV_frz he
  | lentN => exact absurd rfl hn
  | byref => simp only [argIn, pureO, Option.some.injEq] at he; subst he; intro p hp; cases hp
  | view => simp only [argIn] at he; rw [view1_ups he]; intro p hp; cases hp
  | lent =>
    simp only [argIn] at he
    unfold lent1 at he
    split at he
    · split at he
      · split at he
        · split at he
          · cases he; intro p hp; cases hp
          · cases he
        · cases he
      · cases he
    · cases he; intro p hp; cases hp
    · cases he; intro p hp; cases hp
    · cases he; intro p hp; cases hp
    · exact keepV_frz he
theorem argIn_frz {md : Mode} {v : V} {o : Out} (he : argIn H md v = some o) : ∀ p ∈ o.ups, p.2.frz = true := by
  by_cases hn : md = .lentN
  · subst hn
    simp only [argIn] at he
    split at he
    · simp only [pureO, Option.some.injEq] at he; subst he; intro p hp; cases hp
    · simp only [pureO, Option.some.injEq] at he; subst he; intro p hp; cases hp
    · exact argIn_frz0 (md := .lent) (by simp) (by simpa [argIn] using he)
  · exact argIn_frz0 hn he
theorem argsIn_frz : ∀ {ms : List Mode} {vs : List V} {o : List V × List (Id × Blk) × List Id}, argsIn H ms vs = some o → ∀ p ∈ o.2.1, p.2.frz = true
  | ms, [], o, he => by
    have : o = ([], [], []) := by cases ms <;> simpa [argsIn] using he.symm
    subst this; intro p hp; cases hp
  | ms, v :: r, o, he => by
    simp only [argsIn] at he
    split at he
    · rename_i hv
      split at he
      · rename_i hr
        cases he
        intro p hp
        rcases List.mem_append.1 hp with hp | hp
        · exact argIn_frz hv p hp
        · exact argsIn_frz hr p hp
      · cases he
    · cases he
theorem sets_out (H : Heap) : ∀ (ups : List (Id × Blk)) (i : Id), i ∉ ups.map (·.1) → (H.sets ups) i = H i
  | [], _, _ => rfl
  | (j, b) :: r, i, h => by
    simp only [List.map_cons, List.mem_cons, not_or] at h
    simp only [Heap.sets]
    rw [sets_out _ r i h.2]; exact Heap.set_ne _ _ h.1
theorem sets_frz (H : Heap) : ∀ (ups : List (Id × Blk)), (∀ p ∈ ups, p.2.frz = true) → ∀ i ∈ ups.map (·.1), ∃ b, (H.sets ups) i = some b ∧ b.frz = true
  | [], _, i, hi => by cases hi
  | (j, b) :: r, h, i, hi => by
    simp only [Heap.sets]
    by_cases hr : i ∈ r.map (·.1)
    · exact sets_frz _ r (fun p hp => h p (by simp [hp])) i hr
    · simp only [List.map_cons, List.mem_cons] at hi
      rcases hi with rfl | hi
      · exact ⟨b, by rw [sets_out _ r _ hr]; exact Heap.set_same .., h (i, b) (by simp)⟩
      · exact absurd hi hr

theorem enterH_arg (H : Heap) (acc : List Id) (j : Nat) : enterH H acc (.arg j) = match acc[j]? with
    | some i => match H i with
      | some b => some { gen := 0, cells := if b.flat then b.cells else renL (intoRen H acc) b.cells, frz := b.frz, flat := b.flat }
      | none => none
    | none => none := by
  cases acc with
  | nil => simp [enterH]
  | cons a r => rfl
theorem enterH_other (H : Heap) (acc : List Id) (i : Id) (h : ∀ j, i ≠ .arg j) : enterH H acc i = none := by
  cases acc with
  | nil => rfl
  | cons a r => cases i with
    | arg j => exact absurd rfl (h j)
    | own => rfl
    | sub => rfl

theorem freshSubs_spec {d : Nat} {acc : List Id} : ∀ {l : List Id}, freshSubs d acc l = true → ∀ k ∈ l, (∀ j, k ≠ .arg j) → Id.sub d k ∉ acc
  | [], _, k, hk, _ => by cases hk
  | x :: r, h, k, hk, hn => by
    cases x with
    | arg j =>
      rcases List.mem_cons.1 hk with rfl | hk
      · exact absurd rfl (hn j)
      · exact freshSubs_spec (by simpa [freshSubs] using h) k hk hn
    | own t =>
      simp only [freshSubs, Bool.and_eq_true] at h
      rcases List.mem_cons.1 hk with rfl | hk
      · simpa using h.1
      · exact freshSubs_spec h.2 k hk hn
    | sub t i =>
      simp only [freshSubs, Bool.and_eq_true] at h
      rcases List.mem_cons.1 hk with rfl | hk
      · simpa using h.1
      · exact freshSubs_spec h.2 k hk hn

theorem argIds_spec (H : Heap) : ∀ (n : Nat) (l : List (Id × Nat)), (∀ p ∈ l, p ∈ argIds n H l) ∧ ∀ j b, j < n → H (.arg j) = some b → (.arg j, b.gen) ∈ argIds n H l
  | 0, l => ⟨fun p hp => hp, fun j b hj => by omega⟩
  | n + 1, l => by
    simp only [argIds]
    obtain ⟨h1, h2⟩ := argIds_spec H n (match H (.arg n) with | some b => (.arg n, b.gen) :: l | none => l)
    refine ⟨fun p hp => h1 p ?_, fun j b hj hb => ?_⟩
    · split
      · exact List.mem_cons_of_mem _ hp
      · exact hp
    · rcases Nat.lt_or_ge j n with q | q
      · exact h2 j b q hb
      · have : j = n := by omega
        subst this
        refine h1 _ ?_
        rw [hb]
        exact List.mem_cons_self

/-- the blocks as they are known to whom they are handed -/
def mapIn (m : Map) (acc : List Id) : Map := fun
  | .arg j => match acc[j]? with
    | some i => (m i).map fun im => { im with gen := 0 }
    | none => none
  | _ => none

theorem into_ok {acc : List Id} (h : SR w S K m H) : RenOK (intoRen H acc) m (mapIn m acc) := by
  intro i g i' g' e im hm
  unfold intoRen at e
  split at e
  · rename_i j hp
    split at e
    · rename_i b hb
      cases e
      obtain ⟨_, hj⟩ := pos_spec hp
      obtain ⟨hb1, hb2⟩ := live_some hb
      obtain ⟨im0, hm0, ok⟩ := h.blk i b hb1
      rw [hm] at hm0; cases hm0
      have hg := ok.gen
      simp only [Nat.sub_zero] at hj
      exact ⟨{ im with gen := 0 }, by simp [mapIn, hj, hm], fun _ => ⟨rfl, rfl, rfl, rfl, rfl⟩, fun hlt => by omega⟩
    · cases e
  · cases e

/-- what stays while the call runs -/
def KIn (w : World) (m : Map) (H : Heap) (acc : List Id) : Nat → Prop := fun rb => rb < w.heap.size ∧ ¬ ∃ i ∈ acc, ∃ b im, H i = some b ∧ b.frz = false ∧ m i = some im ∧ im.rb = rb

theorem enter_sound {acc : List Id} (h : SR w S K m H) (hnd : acc.Nodup) : SR w S (KIn w m H acc) (mapIn m acc) (enterH H acc) := by
  have at_ : ∀ {i b}, enterH H acc i = some b → ∃ j i0 b0, i = .arg j ∧ acc[j]? = some i0 ∧ H i0 = some b0 ∧ b = { gen := 0, cells := if b0.flat then b0.cells else renL (intoRen H acc) b0.cells, frz := b0.frz, flat := b0.flat } := by
    intro i b hi
    cases i with
    | arg j =>
      rw [enterH_arg] at hi
      split at hi
      · rename_i i0 hj
        split at hi
        · rename_i b0 hb; cases hi; exact ⟨j, i0, b0, rfl, hj, hb, rfl⟩
        · cases hi
      · cases hi
    | own t => rw [enterH_other _ _ _ (by simp)] at hi; cases hi
    | sub t i => rw [enterH_other _ _ _ (by simp)] at hi; cases hi
  have map_ : ∀ {j i0 im}, acc[j]? = some i0 → mapIn m acc (.arg j) = some im → ∃ im0, m i0 = some im0 ∧ im = { im0 with gen := 0 } := by
    intro j i0 im hj hm
    simp only [mapIn, hj] at hm
    cases hm0 : m i0 with
    | none => rw [hm0] at hm; cases hm
    | some im0 => rw [hm0] at hm; cases hm; exact ⟨im0, rfl, rfl⟩
  refine ⟨h.sub, fun rb hk => hk.1, fun i b hi => ?_, fun i hi => ?_, fun i k bi im km hi hf hm hkm hne => ?_, fun i b im hi hf hm => ?_, h.scel⟩
  · obtain ⟨j, i0, b0, rfl, hj, hb0, rfl⟩ := at_ hi
    obtain ⟨im, hm, ok⟩ := h.blk i0 b0 hb0
    refine ⟨{ im with gen := 0 }, by simp [mapIn, hj, hm], ⟨rfl, ?_, ok.row, ok.fit, fun q c hq => ?_, ok.frz, ok.thaw⟩⟩
    · simp only
      split
      · exact ok.n
      · rw [renL_map, List.length_map]; exact ok.n
    · simp only at hq ⊢
      cases hfl : b0.flat with
      | true =>
        rw [hfl] at hq
        simp only [if_true] at hq
        obtain ⟨x, q1, q2, q3, q4⟩ := ok.cel q c hq
        exact ⟨x, q1, q2, .fr (q4 hfl), fun _ => q4 hfl⟩
      | false =>
        rw [hfl] at hq
        simp only [Bool.false_eq_true, if_false, renL_map, List.getElem?_map] at hq
        cases hc : b0.cells[q]? with
        | none => rw [hc] at hq; cases hq
        | some c0 =>
          rw [hc] at hq; cases hq
          obtain ⟨x, q1, q2, q3, q4⟩ := ok.cel q c0 hc
          exact ⟨x, q1, q2, q3.ren (into_ok h), fun e => by cases e⟩
  · cases i with
    | arg j =>
      rw [enterH_arg] at hi
      simp only [mapIn]
      split at hi
      · rename_i i0 hj
        split at hi
        · cases hi
        · rename_i hb; rw [h.non i0 hb]; rfl
      · rfl
    | own t => rfl
    | sub t i => rfl
  · obtain ⟨j, i0, b0, rfl, hj, hb0, rfl⟩ := at_ hi
    cases k with
    | arg j2 =>
      cases hj2 : acc[j2]? with
      | none => simp [mapIn, hj2] at hkm
      | some k0 =>
        obtain ⟨im0, hm0, rfl⟩ := map_ hj hm
        obtain ⟨km0, hkm0, rfl⟩ := map_ hj2 hkm
        refine h.inj i0 k0 b0 im0 km0 hb0 hf hm0 hkm0 (fun e => hne ?_)
        subst e
        obtain ⟨l1, e1⟩ := List.getElem?_eq_some_iff.1 hj
        obtain ⟨l2, e2⟩ := List.getElem?_eq_some_iff.1 hj2
        rw [(List.getElem_inj (h₀ := l1) (h₁ := l2) hnd).1 (e1.trans e2.symm)]
    | own t => simp [mapIn] at hkm
    | sub t i => simp [mapIn] at hkm
  · obtain ⟨j, i0, b0, rfl, hj, hb0, rfl⟩ := at_ hi
    obtain ⟨im0, hm0, rfl⟩ := map_ hj hm
    exact fun hk => hk.2 ⟨i0, List.mem_of_getElem? hj, b0, im0, hb0, hf, hm0, rfl⟩
end
end Go.Proofs.Ytcamcfplcoklkaa.Iv
