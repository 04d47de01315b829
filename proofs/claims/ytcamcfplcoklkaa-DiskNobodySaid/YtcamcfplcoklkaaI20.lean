import Derived.Test.YtcamcfplcoklkaaI19
namespace Go.Proofs.Ytcamcfplcoklkaa.Iv
open Go
set_option linter.unusedVariables false
set_option linter.unusedSimpArgs false
section
variable {P : Program} {K B : Nat → Prop} {w : World} {S : Nat → Prop} {m : Map} {H : Heap}

theorem nodup_names {d : Nat} {acc acc' : List Id} (hnd : acc.Nodup) (hnd' : acc'.Nodup) (hfs : freshSubs d acc acc' = true) {i k p : Id} {g g' : Nat} (hi : i ∈ acc') (hk : k ∈ acc')
    (e1 : backName H d acc i = some (p, g)) (e2 : backName H d acc k = some (p, g')) : i = k := by
  have argc : ∀ {j q g}, backName H d acc (.arg j) = some (q, g) → acc[j]? = some q := by
    intro j q g e
    simp only [backName] at e
    split at e
    · rename_i i0 hj
      split at e
      · cases e; exact hj
      · cases e
    · cases e
  have oth : ∀ {k q g}, (∀ j, k ≠ .arg j) → backName H d acc k = some (q, g) → q = .sub d k := by
    intro k q g hn e
    cases k with
    | arg j => exact absurd rfl (hn j)
    | own t => simp [backName] at e; exact e.1.symm
    | sub t i => simp [backName] at e; exact e.1.symm
  by_cases h1 : ∃ j, i = .arg j
  · obtain ⟨j, rfl⟩ := h1
    have a1 := argc e1
    by_cases h2 : ∃ j, k = .arg j
    · obtain ⟨j2, rfl⟩ := h2
      have a2 := argc e2
      obtain ⟨l1, q1⟩ := List.getElem?_eq_some_iff.1 a1
      obtain ⟨l2, q2⟩ := List.getElem?_eq_some_iff.1 a2
      rw [(List.getElem_inj (h₀ := l1) (h₁ := l2) hnd).1 (q1.trans q2.symm)]
    · have a2 := oth (fun j e => h2 ⟨j, e⟩) e2
      subst a2
      exact absurd (List.mem_of_getElem? a1) (freshSubs_spec hfs k hk (fun j e => h2 ⟨j, e⟩))
  · have a1 := oth (fun j e => h1 ⟨j, e⟩) e1
    subst a1
    by_cases h2 : ∃ j, k = .arg j
    · obtain ⟨j2, rfl⟩ := h2
      exact absurd (List.mem_of_getElem? (argc e2)) (freshSubs_spec hfs i hi (fun j e => h1 ⟨j, e⟩))
    · have a2 := oth (fun j e => h2 ⟨j, e⟩) e2
      simp only [Id.sub.injEq, true_and] at a2
      exact a2

open Classical in
/-- the blocks as the caller knows them behind the call -/
noncomputable def mapOut (m m2 : Map) (nm : Id → Option (Id × Nat)) (acc' : List Id) : Map := fun i' =>
  if h : ∃ p : Id × Nat × Im, p.1 ∈ acc' ∧ nm p.1 = some (i', p.2.1) ∧ m2 p.1 = some p.2.2 then some { h.choose.2.2 with gen := h.choose.2.1 + h.choose.2.2.gen } else m i'
theorem mapOut_at {m m2 : Map} {nm : Id → Option (Id × Nat)} {acc' : List Id} (inj : ∀ {i k p g g'}, i ∈ acc' → k ∈ acc' → nm i = some (p, g) → nm k = some (p, g') → i = k)
    {i i' : Id} {g : Nat} {im : Im} (hi : i ∈ acc') (hn : nm i = some (i', g)) (hm : m2 i = some im) : mapOut m m2 nm acc' i' = some { im with gen := g + im.gen } := by
  have h : ∃ p : Id × Nat × Im, p.1 ∈ acc' ∧ nm p.1 = some (i', p.2.1) ∧ m2 p.1 = some p.2.2 := ⟨(i, g, im), hi, hn, hm⟩
  unfold mapOut
  rw [dif_pos h]
  obtain ⟨h1, h2, h3⟩ := h.choose_spec
  have e := inj h1 hi h2 hn
  rw [e] at h2 h3
  rw [hn] at h2; rw [hm] at h3
  simp only [Option.some.injEq, Prod.mk.injEq, true_and] at h2 h3
  rw [← h2, ← h3]
theorem mapOut_not {m m2 : Map} {nm : Id → Option (Id × Nat)} {acc' : List Id} {i' : Id} (hn : ∀ i ∈ acc', ∀ g, nm i ≠ some (i', g)) : mapOut m m2 nm acc' i' = m i' := by
  unfold mapOut
  rw [dif_neg (fun ⟨p, h1, h2, _⟩ => hn _ h1 _ h2)]

/-- THE WAY BACK: what the callee leaves, known by the caller's names. -/
theorem back_sound {acc acc' : List Id} (h : SR w S K m H) (hnd : acc.Nodup) (hex : ∀ i ∈ acc, ∃ b, H i = some b) {w' : World} {S' : Nat → Prop} {m2 : Map} {H2 : Heap} {d : Nat}
    (st : Step (KIn w m H acc) w S (mapIn m acc) w' S' m2) (sr : SR w' S' (KIn w m H acc) m2 H2) (hnd' : acc'.Nodup) (hall : ∀ j b, j < acc.length → H2 (.arg j) = some b → .arg j ∈ acc')
    (hfs : freshSubs d acc acc' = true) {ups : List (Id × Blk)} (hb : backUps H H2 d acc acc' acc' = some ups) :
    RenOK (backRen H d acc acc') m2 (mapOut m m2 (backName H d acc) acc') ∧ Step K w S m w' S' (mapOut m m2 (backName H d acc) acc') ∧
      SR w' S' K (mapOut m m2 (backName H d acc) acc') (H.sets ups) := by
  obtain ⟨u1, u2, u3⟩ := backUps_spec hb
  have inj : ∀ {i k p g g'}, i ∈ acc' → k ∈ acc' → backName H d acc i = some (p, g) → backName H d acc k = some (p, g') → i = k := fun hi hk e1 e2 => nodup_names hnd hnd' hfs hi hk e1 e2
  -- the names that are written
  have hupsnd : (ups.map (·.1)).Nodup := by
    have h1 : (acc'.map (fun i => (backName H d acc i).map (·.1))).Nodup := by
      unfold List.Nodup
      rw [List.pairwise_map]
      refine List.Pairwise.imp_of_mem (fun {a b} ha hb' hne e => hne ?_) hnd'
      obtain ⟨p, g, _, e1, _⟩ := u2 a ha
      obtain ⟨p', g', _, e2, _⟩ := u2 b hb'
      rw [e1, e2] at e
      simp only [Option.map_some, Option.some.injEq] at e
      subst e
      exact inj ha hb' e1 e2
    rw [← u3] at h1
    unfold List.Nodup at h1 ⊢
    rw [List.pairwise_map] at h1 ⊢
    exact h1.imp (fun hne e => hne (by rw [e]))
  obtain ⟨g1, g2⟩ := sets_get H ups hupsnd
  -- a name that is written, and one that is not
  have named : ∀ {i i' g b}, i ∈ acc' → backName H d acc i = some (i', g) → H2 i = some b →
      (H.sets ups) i' = some { gen := g + b.gen, cells := if b.flat then b.cells else renL (backRen H d acc acc') b.cells, frz := b.frz, flat := b.flat } ∧ (b.flat || b.cells.all V.kept) = true := by
    intro i i' g b hi hn hb2
    obtain ⟨p, g', b', e1, e2, e3⟩ := u2 i hi
    rw [hn] at e1; cases e1
    obtain ⟨q, hq, hq1⟩ := List.mem_map.1 e3
    obtain ⟨k, hk, bk, gk, f1, f2, f3, f4⟩ := u1 q hq
    rw [hq1] at f2
    have := inj hk hi f2 hn
    subst this
    rw [hn] at f2; cases f2
    rw [hb2] at f1; cases f1
    refine ⟨?_, f3⟩
    rw [← f4, ← hq1]
    exact g1 q hq
  have outN : ∀ {i'}, i' ∉ ups.map (·.1) → ∀ i ∈ acc', ∀ g, backName H d acc i ≠ some (i', g) := by
    intro i' hn i hi g e
    obtain ⟨p, g', b', e1, e2, e3⟩ := u2 i hi
    rw [e] at e1; cases e1
    exact hn e3
  have inN : ∀ {i'}, i' ∈ ups.map (·.1) → ∃ i ∈ acc', ∃ g b im, backName H d acc i = some (i', g) ∧ H2 i = some b ∧ m2 i = some im ∧ BlkOK w' S' m2 b im := by
    intro i' hi'
    obtain ⟨q, hq, hq1⟩ := List.mem_map.1 hi'
    obtain ⟨k, hk, bk, gk, f1, f2, f3, f4⟩ := u1 q hq
    rw [hq1] at f2
    obtain ⟨im, hm, ok⟩ := sr.blk k bk f1
    exact ⟨k, hk, gk, bk, im, f2, f1, hm, ok⟩
  -- what is handed over is named
  have argNamed : ∀ i ∈ acc, i ∈ ups.map (·.1) := by
    intro i hi
    obtain ⟨j, hj⟩ := List.getElem?_of_mem hi
    have hjl : j < acc.length := (List.getElem?_eq_some_iff.1 hj).1
    obtain ⟨b, hb⟩ := hex i hi
    obtain ⟨im, hm, ok⟩ := h.blk i b hb
    have hm0 : mapIn m acc (.arg j) = some { im with gen := 0 } := by simp [mapIn, hj, hm]
    obtain ⟨im2, hm2, _, _⟩ := st.ext _ _ hm0
    obtain ⟨b2, hb2, _⟩ := sr.of_map hm2
    have hin := hall j b2 hjl hb2
    obtain ⟨p, g', b', e1, e2, e3⟩ := u2 _ hin
    simp only [backName, hj, hb, Option.some.injEq, Prod.mk.injEq] at e1
    obtain ⟨rfl, _⟩ := e1
    exact e3
  have kOut : ∀ {i' im}, i' ∉ ups.map (·.1) → m i' = some im → KIn w m H acc im.rb := by
    intro i' im hn hm
    obtain ⟨b, hb, ok⟩ := h.of_map hm
    refine ⟨ok.lt, fun ⟨k, hk, bk, km, e1, e2, e3, e4⟩ => ?_⟩
    exact h.inj k i' bk km im e1 e2 e3 hm (fun e => hn (e ▸ argNamed k hk)) e4
  have kK : ∀ rb, K rb → KIn w m H acc rb := fun rb hk => ⟨h.kin rb hk, fun ⟨k, hk', bk, km, e1, e2, e3, e4⟩ => h.own k bk km e1 e2 e3 (e4 ▸ hk)⟩
  have hren : RenOK (backRen H d acc acc') m2 (mapOut m m2 (backName H d acc) acc') := by
    intro i g i' g' e im hm
    unfold backRen at e
    split at e
    · rename_i hi
      split at e
      · rename_i p b hp
        cases e
        exact ⟨_, mapOut_at inj hi hp hm, fun e => ⟨by simp only; omega, rfl, rfl, rfl, rfl⟩, fun e => by simp only; omega⟩
      · cases e
    · cases e
  have stF : Step K w S m w' S' (mapOut m m2 (backName H d acc) acc') := by
    refine ⟨st.os, st.tape, st.output, st.size, st.sub, fun rb hs => (st.fresh rb hs).imp id (fun hn hk => hn (kK rb hk)), fun rb hk => st.pres rb (hk.imp id (kK rb)), fun i' im hm => ?_, st.oth⟩
    by_cases hn : i' ∈ ups.map (·.1)
    · obtain ⟨i, hi, g, b2, im2, e1, e2, e3, ok2⟩ := inN hn
      refine ⟨_, mapOut_at inj hi e1 e3, ?_, fun e => ?_⟩
      all_goals
        cases i with
        | arg j =>
          simp only [backName] at e1
          split at e1
          · rename_i i0 hj
            split at e1
            · rename_i b0 hb0
              cases e1
              obtain ⟨im0, hm0, ok0⟩ := h.blk _ _ hb0
              rw [hm] at hm0; cases hm0
              have hg := ok0.gen
              have hmi : mapIn m acc (.arg j) = some { im with gen := 0 } := by simp [mapIn, hj, hm]
              obtain ⟨im2', hm2', h1, h2⟩ := st.ext _ _ hmi
              rw [e3] at hm2'; cases hm2'
              first
                | (simp only; omega)
                | (simp only at e
                   have h0 : im2.gen = 0 := by omega
                   have := h2 h0
                   rw [this]
                   cases im
                   simp only at hg ⊢
                   simp [hg])
            · cases e1
          · cases e1
        | own t =>
          simp only [backName, Option.some.injEq, Prod.mk.injEq] at e1
          obtain ⟨rfl, rfl⟩ := e1
          have := nextGen_lt h hm
          first | (simp only; omega) | (simp only at e; omega)
        | sub t i =>
          simp only [backName, Option.some.injEq, Prod.mk.injEq] at e1
          obtain ⟨rfl, rfl⟩ := e1
          have := nextGen_lt h hm
          first | (simp only; omega) | (simp only at e; omega)
    · exact ⟨im, by rw [mapOut_not (outN hn)]; exact hm, Nat.le_refl _, fun _ => rfl⟩
  refine ⟨hren, stF, ⟨sr.sub, fun rb hk => Nat.lt_of_lt_of_le (h.kin rb hk) st.size, fun i' b' hi' => ?_, fun i' hi' => ?_, fun i' k' bi im km hi' hf hm hkm hne => ?_, fun i' b' im hi' hf hm => ?_, sr.scel⟩⟩
  · by_cases hn : i' ∈ ups.map (·.1)
    · obtain ⟨i, hi, g, b2, im2, e1, e2, e3, ok2⟩ := inN hn
      obtain ⟨q1, q2⟩ := named hi e1 e2
      rw [q1] at hi'; cases hi'
      refine ⟨_, mapOut_at inj hi e1 e3, ⟨by simp only; rw [ok2.gen], ?_, ok2.row, ok2.fit, fun q c hq => ?_, ok2.frz, ok2.thaw⟩⟩
      · simp only
        split
        · exact ok2.n
        · rw [renL_map, List.length_map]; exact ok2.n
      · simp only at hq ⊢
        cases hfl : b2.flat with
        | true =>
          rw [hfl] at hq
          simp only [if_true] at hq
          obtain ⟨x, r1, r2, r3, r4⟩ := ok2.cel q c hq
          exact ⟨x, r1, r2, .fr (r4 hfl), fun _ => r4 hfl⟩
        | false =>
          rw [hfl] at hq
          simp only [Bool.false_eq_true, if_false, renL_map, List.getElem?_map] at hq
          cases hc : b2.cells[q]? with
          | none => rw [hc] at hq; cases hq
          | some c0 =>
            rw [hc] at hq; cases hq
            obtain ⟨x, r1, r2, r3, r4⟩ := ok2.cel q c0 hc
            exact ⟨x, r1, r2, r3.ren hren, fun e => by cases e⟩
    · rw [g2 i' hn] at hi'
      obtain ⟨im, hm, ok⟩ := h.blk i' b' hi'
      refine ⟨im, by rw [mapOut_not (outN hn)]; exact hm, ok.mono stF (st.pres _ (.inr (kOut hn hm))) (fun hf hs => ?_)⟩
      exact (st.fresh _ hs).elim (ok.thaw hf) (fun hk => hk (kOut hn hm))
  · by_cases hn : i' ∈ ups.map (·.1)
    · obtain ⟨i, hi, g, b2, im2, e1, e2, e3, ok2⟩ := inN hn
      rw [(named hi e1 e2).1] at hi'; cases hi'
    · rw [g2 i' hn] at hi'
      rw [mapOut_not (outN hn)]; exact h.non i' hi'
  · by_cases hn : i' ∈ ups.map (·.1)
    · obtain ⟨i, hi, g, b2, im2, e1, e2, e3, ok2⟩ := inN hn
      rw [(named hi e1 e2).1] at hi'; cases hi'
      rw [mapOut_at inj hi e1 e3] at hm; cases hm
      simp only at hf ⊢
      by_cases hk : k' ∈ ups.map (·.1)
      · obtain ⟨k, hk1, gk, bk, imk, f1, f2, f3, okk⟩ := inN hk
        rw [mapOut_at inj hk1 f1 f3] at hkm; cases hkm
        exact sr.inj i k b2 im2 imk e2 hf e3 f3 (fun e => hne (by subst e; rw [e1] at f1; cases f1; rfl))
      · rw [mapOut_not (outN hk)] at hkm
        exact fun e => sr.own i b2 im2 e2 hf e3 (e ▸ kOut hk hkm)
    · rw [g2 i' hn] at hi'
      rw [mapOut_not (outN hn)] at hm
      by_cases hk : k' ∈ ups.map (·.1)
      · obtain ⟨k, hk1, gk, bk, imk, f1, f2, f3, okk⟩ := inN hk
        rw [mapOut_at inj hk1 f1 f3] at hkm; cases hkm
        simp only
        intro e
        cases hfk : bk.frz with
        | false => exact sr.own k bk imk f2 hfk f3 (e ▸ kOut hn hm)
        | true =>
          have hs := okk.frz hfk
          rw [← e] at hs
          obtain ⟨im0, hm0, ok0⟩ := h.blk i' bi hi'
          rw [hm] at hm0; cases hm0
          exact (st.fresh _ hs).elim (ok0.thaw hf) (fun hk => hk (kOut hn hm))
      · rw [mapOut_not (outN hk)] at hkm
        exact h.inj i' k' bi im km hi' hf hm hkm hne
  · by_cases hn : i' ∈ ups.map (·.1)
    · obtain ⟨i, hi, g, b2, im2, e1, e2, e3, ok2⟩ := inN hn
      rw [(named hi e1 e2).1] at hi'; cases hi'
      rw [mapOut_at inj hi e1 e3] at hm; cases hm
      exact fun hk => sr.own i b2 im2 e2 hf e3 (kK _ hk)
    · rw [g2 i' hn] at hi'
      rw [mapOut_not (outN hn)] at hm
      exact h.own i' b' im hi' hf hm
end
end Go.Proofs.Ytcamcfplcoklkaa.Iv
