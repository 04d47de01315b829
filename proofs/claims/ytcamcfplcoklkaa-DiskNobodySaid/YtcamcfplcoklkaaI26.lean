import Derived.Test.YtcamcfplcoklkaaI25
namespace Go.Proofs.Ytcamcfplcoklkaa.Iv
open Go
set_option linter.unusedVariables false
set_option linter.unusedSimpArgs false
section
variable {P : Program} {H H' : Heap}

theorem copy_loc {dT : Nat} {a b : V} {out : Out} (he : evCopy P H dT a b = some out) (hl : ∀ i ∈ out.rd, H' i = H i) : evCopy P H' dT a b = some out := by
  unfold evCopy at he ⊢
  split at he
  · split at he
    · split at he
      · rename_i hsrc
        split at he
        · cases he; have e1 := src_loc (H' := H') hsrc hl; simp only [*]
        · cases he; have e1 := src_loc (H' := H') hsrc hl; simp only [*]
        · cases he; have e1 := src_loc (H' := H') hsrc hl; simp only [*]
        · split at he
          · rename_i hb
            split at he
            · rename_i hc
              cases he
              have e1 := src_loc (H' := H') hsrc (fun i hi => hl i (mem_c hi))
              have e2 := live_same (hl _ List.mem_cons_self)
              simp only [e1, e2, hb]
              rw [if_pos hc]
            · cases he
          · cases he
        · cases he
      · cases he
    · cases he
  · cases he
theorem clear_loc {t : Nat} {a : V} {out : Out} (he : evClear P H t a = some out) (hl : ∀ i ∈ out.rd, H' i = H i) : evClear P H' t a = some out := by
  unfold evClear at he ⊢
  split at he
  · split at he
    · split at he
      · exact he
      · exact he
      · exact he
      · split at he
        · rename_i hb
          split at he
          · rename_i hc
            cases he
            have e2 := live_same (hl _ List.mem_cons_self)
            simp only [e2, hb]
            rw [if_pos hc]
          · cases he
        · cases he
      · cases he
    · cases he
  · cases he
theorem convert_loc {s t : Nat} {a : V} {out : Out} (he : evConvert P H s t a = some out) (hl : ∀ i ∈ out.rd, H' i = H i) : evConvert P H' s t a = some out := by
  unfold evConvert at he ⊢
  split at he
  · split at he
    · split at he
      · rename_i hsrc
        split at he
        · cases he
          have e1 : srcS H' a = srcS H a := by
            rw [hsrc]
            unfold srcS at hsrc ⊢
            split at hsrc
            · cases hsrc
            · exact src_loc hsrc hl
          simp only [e1, hsrc]
          simp only [*]
        · cases he
      · cases he
    · cases he
  all_goals exact he
theorem slice_loc {t : Nat} {a : V} {lo hi mx : Option V} {out : Out} (he : evSlice P H t a lo hi mx = some out) (hl : ∀ i ∈ out.rd, H' i = H i) : evSlice P H' t a lo hi mx = some out := by
  unfold evSlice at he ⊢
  split at he
  · exact he
  · split at he
    · split at he
      · cases he
      · rename_i hz
        rw [if_neg hz]
        split at he
        · exact he
        · exact he
        · exact he
        · split at he
          · rename_i hs
            rw [if_pos hs]
            split at he
            · split at he
              · split at he
                · rename_i h1
                  rw [if_pos h1]
                  split at he
                  · rename_i h2; rw [if_pos h2]; exact he
                  · rename_i h2
                    rw [if_neg h2]
                    split at he
                    · rename_i hb
                      split at he
                      · rename_i hc
                        cases he
                        have e2 := live_same (hl _ List.mem_cons_self)
                        simp only [e2, hb]
                        rw [if_pos hc]
                      · cases he
                    · cases he
                · cases he
              · cases he
            · exact he
          · cases he
        · cases he
    · cases he
  · split at he
    · split at he
      · cases he
      · rename_i hz
        rw [if_neg hz]
        split at he
        · split at he
          · rename_i h1
            rw [if_pos h1]
            split at he
            · split at he
              · rename_i hb
                split at he
                · rename_i hc
                  cases he
                  have e2 := live_same (hl _ List.mem_cons_self)
                  simp only [e2, hb]
                  rw [if_pos hc]
                · cases he
              · cases he
            · cases he
          · cases he
        · cases he
    · cases he
  · cases he

theorem builtin_loc {d : Nat} {b : Builtin} {ts : List Nat} {args : List V} {out : Out} (he : evBuiltin P H d b ts args = some out) (hl : ∀ i ∈ out.rd, H' i = H i) : evBuiltin P H' d b ts args = some out := by
  unfold evBuiltin at he ⊢
  split at he
  · exact append_loc he hl
  · exact he
  · exact he
  · exact copy_loc he hl
  · exact clear_loc he hl
  · exact he
  · exact he
  · cases he

theorem viewC_loc {c : V} {o : V × List Id} (he : viewC H c = some o) (hl : ∀ i ∈ o.2, H' i = H i) : viewC H' c = some o := by
  unfold viewC at he ⊢
  split at he
  · split at he
    · split at he
      · split at he
        · cases he
          have e2 := live_same (hl _ (List.mem_singleton_self _))
          simp only [e2, *]
          simp
        · cases he
      · cases he
    · cases he
  · exact he
theorem viewL_loc : ∀ {cs : List V} {o : List V × List Id}, viewL H cs = some o → (∀ i ∈ o.2, H' i = H i) → viewL H' cs = some o
  | [], o, he, _ => he
  | c :: r, o, he, hl => by
    simp only [viewL] at he ⊢
    split at he
    · rename_i c' d hc
      split at he
      · rename_i cs ds hr
        cases he
        rw [viewC_loc hc (fun i hi => hl i (by simp only [List.mem_append]; exact .inl hi)), viewL_loc hr (fun i hi => hl i (by simp only [List.mem_append]; exact .inr hi))]
      · cases he
    · cases he
theorem view1_loc {v : V} {o : Out} (he : view1 H v = some o) (hl : ∀ i ∈ o.rd, H' i = H i) : view1 H' v = some o := by
  unfold view1 at he ⊢
  split at he
  · split at he
    · rename_i b hb
      split at he
      · rename_i cs d hv
        cases he
        have e2 := live_same (hl _ (List.mem_cons_self ..))
        simp only [e2, hb, viewL_loc hv (fun i hi => hl i (by simp [hi]))]
      · cases he
    · cases he
  · exact he
  · exact he
  · cases he
theorem argIn_loc0 {md : Mode} (hn : md ≠ .lentN) {v : V} {out : Out} (he : argIn H md v = some out) (hl : ∀ i ∈ out.rd, H' i = H i) : argIn H' md v = some out := by
  cases md with
  | keep => exact keepV_loc he hl
  | lentN => exact absurd rfl hn
  | byref => exact he
  | view => exact view1_loc he hl
  | lent =>
    simp only [argIn] at he ⊢
    unfold lent1 at he ⊢
    split at he
    · split at he
      · split at he
        · split at he
          · cases he
            have e2 := live_same (hl _ (List.mem_singleton_self _))
            simp only [e2, *]
            simp
          · cases he
        · cases he
      · cases he
    · exact he
    · exact he
    · exact he
    · exact keepV_loc he hl
theorem argIn_loc {md : Mode} {v : V} {out : Out} (he : argIn H md v = some out) (hl : ∀ i ∈ out.rd, H' i = H i) : argIn H' md v = some out := by
  by_cases hn : md = .lentN
  · subst hn
    simp only [argIn] at he ⊢
    split at he
    · exact he
    · exact he
    · have := argIn_loc0 (md := .lent) (H := H) (H' := H') (by simp) (by simpa [argIn] using he) hl
      simpa [argIn] using this
  · exact argIn_loc0 hn he hl
theorem argsIn_loc : ∀ {ms : List Mode} {vs : List V} {out : List V × List (Id × Blk) × List Id}, argsIn H ms vs = some out → (∀ i ∈ out.2.2, H' i = H i) → argsIn H' ms vs = some out
  | ms, [], out, he, _ => by cases ms <;> exact he
  | ms, v :: r, out, he, hl => by
    simp only [argsIn] at he ⊢
    split at he
    · rename_i v' u d hv
      split at he
      · rename_i vs us ds hr
        cases he
        rw [argIn_loc hv (fun i hi => hl i (by simp only [List.mem_append]; exact .inl hi)), argsIn_loc hr (fun i hi => hl i (by simp only [List.mem_append]; exact .inr hi))]
      · cases he
    · cases he

theorem sets_same : ∀ (ups : List (Id × Blk)) {H H' : Heap} {i : Id}, H' i = H i → (H'.sets ups) i = (H.sets ups) i
  | [], _, _, _, h => h
  | (j, b) :: r, H, H', i, h => by
    simp only [Heap.sets]
    refine sets_same r ?_
    unfold Heap.set
    split
    · rfl
    · exact h
theorem collect_loc : ∀ (n : Nat) (todo : List (Id × Nat)) (acc : List Id) {acc' : List Id}, collect H n todo acc = some acc' → (∀ i ∈ acc', H' i = H i) → collect H' n todo acc = some acc'
  | _, [], acc, acc', h, _ => by cases ‹Nat› <;> (simp [collect] at h ⊢; exact h)
  | 0, _ :: _, _, _, h, _ => by simp [collect] at h
  | n + 1, (i, g) :: todo, acc, acc', h, hl => by
    simp only [collect] at h ⊢
    split at h
    · rename_i hi; rw [if_pos hi]; exact collect_loc n todo acc h hl
    · rename_i hi
      rw [if_neg hi]
      split at h
      · rename_i b hb
        have hmem : i ∈ acc' := (collect_spec n _ _ _ h).1 i (by simp)
        rw [live_same (hl i hmem), hb]
        exact collect_loc n _ _ h hl
      · cases h
theorem into_loc {acc : List Id} (hl : ∀ i ∈ acc, H' i = H i) : intoRen H' acc = intoRen H acc := by
  funext i g
  unfold intoRen
  cases hp : pos i acc 0 with
  | none => rfl
  | some j =>
    simp only
    have : i ∈ acc := List.mem_of_getElem? (pos_spec hp).2
    rw [live_same (hl i this)]
theorem enter_loc {acc : List Id} (hl : ∀ i ∈ acc, H' i = H i) : enterH H' acc = enterH H acc := by
  funext i
  cases i with
  | arg j =>
    rw [enterH_arg, enterH_arg, into_loc hl]
    cases hj : acc[j]? with
    | none => rfl
    | some i0 => simp only; rw [hl i0 (List.mem_of_getElem? hj)]
  | own t => rw [enterH_other _ _ _ (by simp), enterH_other _ _ _ (by simp)]
  | sub t i => rw [enterH_other _ _ _ (by simp), enterH_other _ _ _ (by simp)]
theorem name_loc {d : Nat} {acc : List Id} (hl : ∀ i ∈ acc, H' i = H i) {i : Id} (hs : H' (.sub d i) = H (.sub d i)) : backName H' d acc i = backName H d acc i := by
  cases i with
  | arg j =>
    simp only [backName]
    cases hj : acc[j]? with
    | none => rfl
    | some i0 => simp only; rw [hl i0 (List.mem_of_getElem? hj)]
  | own t => simp only [backName]; rw [next_same hs]
  | sub t i => simp only [backName]; rw [next_same hs]
theorem backRen_loc {d : Nat} {acc acc' : List Id} (hl : ∀ i ∈ acc, H' i = H i) (hs : ∀ i ∈ acc', H' (.sub d i) = H (.sub d i)) : backRen H' d acc acc' = backRen H d acc acc' := by
  funext i g
  unfold backRen
  by_cases hi : i ∈ acc'
  · rw [if_pos hi, if_pos hi, name_loc hl (hs i hi)]
  · rw [if_neg hi, if_neg hi]
theorem backUps_loc {H2 : Heap} {d : Nat} {acc acc' : List Id} (hl : ∀ i ∈ acc, H' i = H i) (hs : ∀ i ∈ acc', H' (.sub d i) = H (.sub d i)) : ∀ (l : List Id), (∀ i ∈ l, i ∈ acc') → backUps H' H2 d acc acc' l = backUps H H2 d acc acc' l
  | [], _ => rfl
  | i :: r, hsub => by
    simp only [backUps]
    rw [backUps_loc hl hs r (fun i hi => hsub i (by simp [hi])), name_loc hl (hs i (hsub i (by simp))), backRen_loc hl hs]

theorem call_loc {call : Nat → List V → Heap → Option (V × Heap)} {pol : Nat → Pol} {d f : Nat} {args : List V} {out : Out} (he : evCall call pol H d f args = some out) (hl : ∀ i ∈ out.rd, H' i = H i) :
    evCall call pol H' d f args = some out := by
  unfold evCall at he ⊢
  split at he
  · rename_i as fz rd hargs
    simp only at he
    split at he
    · rename_i acc hcol
      split at he
      · cases he
      · rename_i hheld
        split at he
        · rename_i r H2 hcall
          split at he
          · rename_i r' us hret
            split at he
            · rename_i acc' hcol2
              split at he
              · rename_i ups hups
                split at he
                · rename_i hfin
                  cases he
                  have la : ∀ i ∈ rd, H' i = H i := fun i hi => hl i (by simp [hi])
                  have lb : ∀ i ∈ acc, (H'.sets fz) i = (H.sets fz) i := fun i hi => sets_same fz (hl i (by simp [hi]))
                  have lc : ∀ i ∈ acc', (H'.sets fz) (.sub d i) = (H.sets fz) (.sub d i) := fun i hi => sets_same fz (hl _ (by simp [hi]))
                  have e1 := argsIn_loc (H' := H') hargs la
                  have e2 := collect_loc _ _ _ hcol lb
                  simp only [e1, e2]
                  rw [if_neg hheld, into_loc lb, enter_loc lb, hcall]
                  simp only [hret, hcol2]
                  rw [backUps_loc lb lc _ (fun i hi => hi), hups]
                  simp only
                  rw [if_pos hfin, backRen_loc lb lc]
                · cases he
              · cases he
            · cases he
          · cases he
        · cases he
    · cases he
  · cases he

theorem evOp_loc {call : Nat → List V → Heap → Option (V × Heap)} {pol : Nat → Pol} {ρ : Operand → V} {d : Nat} {op : Op} {out : Out} (he : evOp P call pol H ρ d op = some out) (hl : ∀ i ∈ out.rd, H' i = H i) :
    evOp P call pol H' ρ d op = some out := by
  unfold evOp at he ⊢
  split at he <;> first
    | exact he
    | exact boxO_loc he hl
    | exact box_loc he hl
    | exact buildSlice_loc he hl
    | exact load_loc he hl
    | exact store_loc he hl
    | exact convert_loc he hl
    | exact makeSlice_loc he hl
    | exact slice_loc he hl
    | exact builtin_loc he hl
    | skip
  · split at he
    · exact box_loc he hl
    · cases he
  · split at he
    · exact call_loc he hl
    · cases he

theorem map_same {ρ ρ' : Operand → V} {l : List Operand} (h : ∀ x ∈ l, ρ' x = ρ x) : l.map ρ' = l.map ρ := List.map_congr_left h

theorem evOp_env {call : Nat → List V → Heap → Option (V × Heap)} {pol : Nat → Pol} {ρ ρ' : Operand → V} {d : Nat} {op : Op} (h : ∀ x ∈ op.operands, ρ' x = ρ x) : evOp P call pol H ρ' d op = evOp P call pol H ρ d op := by
  cases op with
  | move x => simp only [evOp]; rw [h x (by simp [Op.operands])]
  | assign x => simp only [evOp]; rw [h x (by simp [Op.operands])]
  | pick c a b => simp only [evOp]; rw [h c (by simp [Op.operands]), h a (by simp [Op.operands]), h b (by simp [Op.operands])]
  | alloc e => rfl
  | box e x => simp only [evOp]; rw [h x (by simp [Op.operands])]
  | build t ps =>
    simp only [evOp]
    have : (ps.toList.map fun p => (p.1, ρ' p.2)) = ps.toList.map fun p => (p.1, ρ p.2) := List.map_congr_left (fun p hp => by
      rw [h p.2 (by simp only [Op.operands, List.mem_toArray, List.mem_map]; exact ⟨p, hp, rfl⟩)])
    rw [this]
  | buildSlice t len ps =>
    simp only [evOp]
    have : (ps.toList.map fun p => (p.1, ρ' p.2)) = ps.toList.map fun p => (p.1, ρ p.2) := List.map_congr_left (fun p hp => by
      rw [h p.2 (by simp only [Op.operands, List.mem_toArray, List.mem_map]; exact ⟨p, hp, rfl⟩)])
    rw [this]
  | load t x => simp only [evOp]; rw [h x (by simp [Op.operands])]
  | store t a x => simp only [evOp]; rw [h a (by simp [Op.operands]), h x (by simp [Op.operands])]
  | nilCheck x => simp only [evOp]; rw [h x (by simp [Op.operands])]
  | binOp o t x y yt => simp only [evOp]; rw [h x (by simp [Op.operands]), h y (by simp [Op.operands])]
  | unOp o t x => simp only [evOp]; rw [h x (by simp [Op.operands])]
  | convert s t x => simp only [evOp]; rw [h x (by simp [Op.operands])]
  | makeFunc fn first cap =>
    cases fn with
    | func f =>
      simp only [evOp]
      have : cap.toList.map ρ' = cap.toList.map ρ := map_same (fun x hx => h x (by simp only [Op.operands, Array.mem_append]; exact .inr (by simpa using hx)))
      rw [this]
    | _ => rfl
  | makeSlice t l c => simp only [evOp]; rw [h l (by simp [Op.operands]), h c (by simp [Op.operands])]
  | slice t x lo hi mx =>
    simp only [evOp]
    have e1 : lo.map ρ' = lo.map ρ := by cases lo with | none => rfl | some y => simp only [Option.map_some]; rw [h y (by simp [Op.operands])]
    have e2 : hi.map ρ' = hi.map ρ := by cases hi with | none => rfl | some y => simp only [Option.map_some]; rw [h y (by simp [Op.operands])]
    have e3 : mx.map ρ' = mx.map ρ := by cases mx with | none => rfl | some y => simp only [Option.map_some]; rw [h y (by simp [Op.operands])]
    rw [h x (by simp [Op.operands]), e1, e2, e3]
  | fieldAddr t x f => simp only [evOp]; rw [h x (by simp [Op.operands])]
  | field t x f => simp only [evOp]; rw [h x (by simp [Op.operands])]
  | indexAddr t x i => simp only [evOp]; rw [h x (by simp [Op.operands]), h i (by simp [Op.operands])]
  | index t x i => simp only [evOp]; rw [h x (by simp [Op.operands]), h i (by simp [Op.operands])]
  | extract t i => simp only [evOp]; rw [h t (by simp [Op.operands])]
  | call c =>
    obtain ⟨callee, args, ts⟩ := c
    have ea : args.toList.map ρ' = args.toList.map ρ := map_same (fun x hx => h x (by simp only [Op.operands, Call.operands, Array.mem_append]; exact .inr (by simpa using hx)))
    cases callee with
    | builtin b => simp only [evOp]; rw [ea]
    | value f => simp only [evOp]; rw [ea, h f (by simp [Op.operands, Call.operands])]
    | invoke r mm => rfl
  | _ => rfl
end
end Go.Proofs.Ytcamcfplcoklkaa.Iv
