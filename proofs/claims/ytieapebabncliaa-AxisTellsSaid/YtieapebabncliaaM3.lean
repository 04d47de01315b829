import Derived.Test.YtieapebabncliaaM2
import Derived.Still
namespace Go.Proofs.Ytieapebabncliaa.Iv
open Go
set_option linter.unusedVariables false
set_option linter.unusedSimpArgs false
section
variable {P : Program} {H H' : Heap}

theorem copy_loc {dT : Nat} {a b : V} {out : Out} (he : evCopy P H dT a b = some out) (hl : ∀ i ∈ out.rd, H' i = H i) : evCopy P H' dT a b = some out := by
  unfold evCopy at he ⊢
  split at he
  · split at he
    · split at he
      · rename_i hsrc
        split at he
        · cases he; have e1 := src_loc (H' := H') hsrc hl; simp only [*]
        · cases he; have e1 := src_loc (H' := H') hsrc hl; simp only [*]
        · cases he; have e1 := src_loc (H' := H') hsrc hl; simp only [*]
        · split at he
          · rename_i hb
            split at he
            · rename_i hc
              cases he
              have e1 := src_loc (H' := H') hsrc (fun i hi => hl i (mem_c hi))
              have e2 := live_same (hl _ List.mem_cons_self)
              simp only [e1, e2, hb]
              rw [if_pos hc]
            · cases he
          · cases he
        · cases he
      · cases he
    · cases he
  · cases he
theorem clear_loc {t : Nat} {a : V} {out : Out} (he : evClear P H t a = some out) (hl : ∀ i ∈ out.rd, H' i = H i) : evClear P H' t a = some out := by
  unfold evClear at he ⊢
  split at he
  · split at he
    · split at he
      · exact he
      · exact he
      · exact he
      · split at he
        · rename_i hb
          split at he
          · rename_i hc
            cases he
            have e2 := live_same (hl _ List.mem_cons_self)
            simp only [e2, hb]
            rw [if_pos hc]
          · cases he
        · cases he
      · cases he
    · cases he
  · cases he
theorem convert_loc {s t : Nat} {a : V} {out : Out} (he : evConvert P H s t a = some out) (hl : ∀ i ∈ out.rd, H' i = H i) : evConvert P H' s t a = some out := by
  unfold evConvert at he ⊢
  split at he
  · split at he
    · split at he
      · rename_i hsrc
        split at he
        · cases he
          have e1 : srcS H' a = srcS H a := by
            rw [hsrc]
            unfold srcS at hsrc ⊢
            split at hsrc
            · cases hsrc
            · exact src_loc hsrc hl
          simp only [e1, hsrc]
          simp only [*]
        · cases he
      · cases he
    · cases he
  · exact he
  · exact he
  · split at he
    · exact he
    · split at he
      · split at he
        · split at he
          · split at he
            · cases he
              rename_i hq
              simp only [*, live_same (hl _ (List.mem_singleton_self _))]
              simp
            · cases he
          · cases he
        · cases he
      · cases he
    · cases he
  · cases he
theorem slice_loc {t : Nat} {a : V} {lo hi mx : Option V} {out : Out} (he : evSlice P H t a lo hi mx = some out) (hl : ∀ i ∈ out.rd, H' i = H i) : evSlice P H' t a lo hi mx = some out := by
  unfold evSlice at he ⊢
  split at he
  · exact he
  · split at he
    · split at he
      · cases he
      · rename_i hz
        rw [if_neg hz]
        split at he
        · exact he
        · exact he
        · exact he
        · split at he
          · rename_i hs
            rw [if_pos hs]
            split at he
            · split at he
              · split at he
                · rename_i h1
                  rw [if_pos h1]
                  split at he
                  · rename_i h2; rw [if_pos h2]; exact he
                  · rename_i h2
                    rw [if_neg h2]
                    split at he
                    · rename_i hb
                      split at he
                      · rename_i hc
                        cases he
                        have e2 := live_same (hl _ List.mem_cons_self)
                        simp only [e2, hb]
                        rw [if_pos hc]
                      · cases he
                    · cases he
                · cases he
              · cases he
            · exact he
          · cases he
        · cases he
    · cases he
  · split at he
    · split at he
      · cases he
      · rename_i hz
        rw [if_neg hz]
        split at he
        · split at he
          · rename_i h1
            rw [if_pos h1]
            split at he
            · split at he
              · rename_i hb
                split at he
                · rename_i hc
                  cases he
                  have e2 := live_same (hl _ List.mem_cons_self)
                  simp only [e2, hb]
                  rw [if_pos hc]
                · cases he
              · cases he
            · cases he
          · cases he
        · cases he
    · cases he
  · cases he

theorem builtin_loc {d : Nat} {b : Builtin} {ts : List Nat} {args : List V} {out : Out} (he : evBuiltin P H d b ts args = some out) (hl : ∀ i ∈ out.rd, H' i = H i) : evBuiltin P H' d b ts args = some out := by
  unfold evBuiltin at he ⊢
  split at he
  · exact append_loc he hl
  · exact he
  · exact he
  · exact copy_loc he hl
  · exact clear_loc he hl
  · exact he
  · exact he
  · cases he

theorem viewC_loc {c : V} {o : V × List Id} (he : viewC H c = some o) (hl : ∀ i ∈ o.2, H' i = H i) : viewC H' c = some o := by
  unfold viewC at he ⊢
  split at he
  · split at he
    · split at he
      · split at he
        · cases he
          have e2 := live_same (hl _ (List.mem_singleton_self _))
          simp only [e2, *]
          simp
        · cases he
      · cases he
    · cases he
  · exact he
theorem viewL_loc : ∀ {cs : List V} {o : List V × List Id}, viewL H cs = some o → (∀ i ∈ o.2, H' i = H i) → viewL H' cs = some o
  | [], o, he, _ => he
  | c :: r, o, he, hl => by
    simp only [viewL] at he ⊢
    split at he
    · rename_i c' d hc
      split at he
      · rename_i cs ds hr
        cases he
        rw [viewC_loc hc (fun i hi => hl i (by simp only [List.mem_append]; exact .inl hi)), viewL_loc hr (fun i hi => hl i (by simp only [List.mem_append]; exact .inr hi))]
      · cases he
    · cases he
theorem view1_loc {v : V} {o : Out} (he : view1 H v = some o) (hl : ∀ i ∈ o.rd, H' i = H i) : view1 H' v = some o := by
  unfold view1 at he ⊢
  split at he
  · split at he
    · rename_i b hb
      split at he
      · rename_i cs d hv
        cases he
        have e2 := live_same (hl _ (List.mem_cons_self ..))
        simp only [e2, hb, viewL_loc hv (fun i hi => hl i (by simp [hi]))]
      · cases he
    · cases he
  · exact he
  · exact he
  · cases he
theorem argIn_loc0 {md : Mode} (hn : md ≠ .lentN) {v : V} {out : Out} (he : argIn H md v = some out) (hl : ∀ i ∈ out.rd, H' i = H i) : argIn H' md v = some out := by
  cases md with
  | keep => exact keepV_loc he hl
  | lentN => exact absurd rfl hn
  | byref => exact he
  | view => exact view1_loc he hl
  | lent =>
    simp only [argIn] at he ⊢
    unfold lent1 at he ⊢
    split at he
    · split at he
      · split at he
        · split at he
          · cases he
            have e2 := live_same (hl _ (List.mem_singleton_self _))
            simp only [e2, *]
            simp
          · cases he
        · cases he
      · cases he
    · exact he
    · exact he
    · exact he
    · exact keepV_loc he hl
theorem argIn_loc {md : Mode} {v : V} {out : Out} (he : argIn H md v = some out) (hl : ∀ i ∈ out.rd, H' i = H i) : argIn H' md v = some out := by
  by_cases hn : md = .lentN
  · subst hn
    simp only [argIn] at he ⊢
    split at he
    · exact he
    · exact he
    · have := argIn_loc0 (md := .lent) (H := H) (H' := H') (by simp) (by simpa [argIn] using he) hl
      simpa [argIn] using this
  · exact argIn_loc0 hn he hl
theorem argsIn_loc : ∀ {ms : List Mode} {vs : List V} {out : List V × List (Id × Blk) × List Id}, argsIn H ms vs = some out → (∀ i ∈ out.2.2, H' i = H i) → argsIn H' ms vs = some out
  | ms, [], out, he, _ => by cases ms <;> exact he
  | ms, v :: r, out, he, hl => by
    simp only [argsIn] at he ⊢
    split at he
    · rename_i v' u d hv
      split at he
      · rename_i vs us ds hr
        cases he
        rw [argIn_loc hv (fun i hi => hl i (by simp only [List.mem_append]; exact .inl hi)), argsIn_loc hr (fun i hi => hl i (by simp only [List.mem_append]; exact .inr hi))]
      · cases he
    · cases he

theorem sets_same : ∀ (ups : List (Id × Blk)) {H H' : Heap} {i : Id}, H' i = H i → (H'.sets ups) i = (H.sets ups) i
  | [], _, _, _, h => h
  | (j, b) :: r, H, H', i, h => by
    simp only [Heap.sets]
    refine sets_same r ?_
    unfold Heap.set
    split
    · rfl
    · exact h
theorem collect_loc : ∀ (n : Nat) (todo : List (Id × Nat)) (acc : List Id) {acc' : List Id}, collect H n todo acc = some acc' → (∀ i ∈ acc', H' i = H i) → collect H' n todo acc = some acc'
  | _, [], acc, acc', h, _ => by cases ‹Nat› <;> (simp [collect] at h ⊢; exact h)
  | 0, _ :: _, _, _, h, _ => by simp [collect] at h
  | n + 1, (i, g) :: todo, acc, acc', h, hl => by
    simp only [collect] at h ⊢
    split at h
    · rename_i hi; rw [if_pos hi]; exact collect_loc n todo acc h hl
    · rename_i hi
      rw [if_neg hi]
      split at h
      · rename_i b hb
        have hmem : i ∈ acc' := (collect_spec n _ _ _ h).1 i (by simp)
        rw [live_same (hl i hmem), hb]
        exact collect_loc n _ _ h hl
      · cases h
theorem into_loc {acc : List Id} (hl : ∀ i ∈ acc, H' i = H i) : intoRen H' acc = intoRen H acc := by
  funext i g
  unfold intoRen
  cases hp : pos i acc 0 with
  | none => rfl
  | some j =>
    simp only
    have : i ∈ acc := List.mem_of_getElem? (pos_spec hp).2
    rw [live_same (hl i this)]
theorem enter_loc {acc : List Id} (hl : ∀ i ∈ acc, H' i = H i) : enterH H' acc = enterH H acc := by
  funext i
  cases i with
  | arg j =>
    rw [enterH_arg, enterH_arg, into_loc hl]
    cases hj : acc[j]? with
    | none => rfl
    | some i0 => simp only; rw [hl i0 (List.mem_of_getElem? hj)]
  | own t => rw [enterH_other _ _ _ (by simp), enterH_other _ _ _ (by simp)]
  | sub t i => rw [enterH_other _ _ _ (by simp), enterH_other _ _ _ (by simp)]
theorem name_loc {d : Nat} {acc : List Id} (hl : ∀ i ∈ acc, H' i = H i) {i : Id} (hs : H' (newName d acc i) = H (newName d acc i)) : backName H' d acc i = backName H d acc i := by
  cases i with
  | arg j =>
    simp only [backName]
    cases hj : acc[j]? with
    | none => rfl
    | some i0 => simp only; rw [hl i0 (List.mem_of_getElem? hj)]
  | own t => simp only [backName]; rw [next_same hs]
  | sub t i => simp only [backName]; rw [next_same hs]
theorem backRen_loc {d : Nat} {acc acc' : List Id} (hl : ∀ i ∈ acc, H' i = H i) (hs : ∀ i ∈ acc', H' (newName d acc i) = H (newName d acc i)) : backRen H' d acc acc' = backRen H d acc acc' := by
  funext i g
  unfold backRen
  by_cases hi : i ∈ acc'
  · rw [if_pos hi, if_pos hi, name_loc hl (hs i hi)]
  · rw [if_neg hi, if_neg hi]
theorem backUps_loc {H2 : Heap} {d : Nat} {acc acc' : List Id} (hl : ∀ i ∈ acc, H' i = H i) (hs : ∀ i ∈ acc', H' (newName d acc i) = H (newName d acc i)) : ∀ (l : List Id), (∀ i ∈ l, i ∈ acc') → backUps H' H2 d acc acc' l = backUps H H2 d acc acc' l
  | [], _ => rfl
  | i :: r, hsub => by
    simp only [backUps]
    rw [backUps_loc hl hs r (fun i hi => hsub i (by simp [hi])), name_loc hl (hs i (hsub i (by simp))), backRen_loc hl hs]

theorem pick_loc {d : Nat} {i0 : Id} : ∀ (n c : Nat) {o : Nat × List Id}, pickD H d i0 n c = some o → (∀ i ∈ o.2, H' i = H i) → pickD H' d i0 n c = some o
  | 0, c, o, he, _ => by simp [pickD] at he
  | n + 1, c, o, he, hl => by
    simp only [pickD] at he ⊢
    split at he
    · rename_i hn
      cases he
      rw [hl _ (by simp), hn]
    · rename_i b hb
      split at he
      · rename_i d' r hr
        cases he
        rw [hl _ (by simp), hb]
        simp only
        rw [pick_loc n (c + 1) hr (fun i hi => hl i (by simp [hi]))]
      · cases he
theorem site_loc {d : Nat} : ∀ {l : List (Nat × Id)} {o : Nat × List Id}, siteD H d l = some o → (∀ i ∈ o.2, H' i = H i) → siteD H' d l = some o
  | [], o, he, _ => he
  | (x, i0) :: r, o, he, hl => by
    simp only [siteD] at he ⊢
    split at he
    · rename_i hx; rw [if_pos hx]; exact pick_loc _ _ he hl
    · rename_i hx; rw [if_neg hx]; exact site_loc he hl
theorem call_loc {call : Nat → List V → Heap → Option (V × Heap)} {pol : Nat → Pol} {d f : Nat} {args : List V} {out : Out} (he : evCall call pol H d f args = some out) (hl : ∀ i ∈ out.rd, H' i = H i) :
    evCall call pol H' d f args = some out := by
  unfold evCall at he ⊢
  split at he
  · rename_i as fz rd hargs
    simp only at he
    split at he
    · rename_i acc hcol
      split at he
      · cases he
      · rename_i hheld
        split at he
        · rename_i r H2 hcall
          split at he
          · rename_i r' us hret
            split at he
            · rename_i acc' hcol2
              split at he
              rotate_left
              · cases he
              rename_i d rs hsite
              split at he
              · rename_i ups hups
                split at he
                · rename_i hfin
                  cases he
                  have e0 := site_loc (H' := H') hsite (fun i hi => hl i (by simp [hi]))
                  have la : ∀ i ∈ rd, H' i = H i := fun i hi => hl i (by simp [hi])
                  have lb : ∀ i ∈ acc, (H'.sets fz) i = (H.sets fz) i := fun i hi => sets_same fz (hl i (by simp [hi]))
                  have lc : ∀ i ∈ acc', (H'.sets fz) (newName d acc i) = (H.sets fz) (newName d acc i) := fun i hi => sets_same fz (hl _ (by simp only [List.mem_append, List.mem_map]; exact .inr (.inr ⟨i, hi, rfl⟩)))
                  have e1 := argsIn_loc (H' := H') hargs la
                  have e2 := collect_loc _ _ _ hcol lb
                  simp only [e1, e2]
                  rw [if_neg hheld, into_loc lb, enter_loc lb, hcall]
                  simp only [hret, hcol2, e0]
                  rw [backUps_loc lb lc _ (fun i hi => hi), hups]
                  simp only
                  rw [if_pos hfin, backRen_loc lb lc]
                · cases he
              · cases he
            · cases he
          · cases he
        · cases he
    · cases he
  · cases he

theorem evOp_loc {call : Nat → List V → Heap → Option (V × Heap)} {pol : Nat → Pol} {ρ : Operand → V} {d : Nat} {op : Op} {out : Out} (he : evOp P call pol H ρ d op = some out) (hl : ∀ i ∈ out.rd, H' i = H i) :
    evOp P call pol H' ρ d op = some out := by
  unfold evOp at he ⊢
  split at he <;> first
    | exact he
    | exact boxO_loc he hl
    | exact box_loc he hl
    | exact buildSlice_loc he hl
    | exact load_loc he hl
    | exact store_loc he hl
    | exact convert_loc he hl
    | exact makeSlice_loc he hl
    | exact slice_loc he hl
    | exact builtin_loc he hl
    | skip
  · split at he
    · split at he
      · rename_i hA
        rw [if_pos hA]
        exact boxA_loc he hl
      · rename_i hA
        rw [if_neg hA]
        exact box_loc he hl
    · cases he
  · split at he
    · rename_i hA
      rw [if_pos hA]
      exact boxA_loc he hl
    · rename_i hA
      rw [if_neg hA]
      exact boxO_loc he hl
  · split at he
    · split at he
      · rename_i hlt
        rw [if_pos hlt]
        exact call_loc he hl
      · rename_i hlt
        rw [if_neg hlt]
        split at he
        · rename_i hn
          rw [if_pos hn]
          exact call_loc he hl
        · cases he
    · cases he

theorem map_same {ρ ρ' : Operand → V} {l : List Operand} (h : ∀ x ∈ l, ρ' x = ρ x) : l.map ρ' = l.map ρ := List.map_congr_left h

theorem evOp_env {call : Nat → List V → Heap → Option (V × Heap)} {pol : Nat → Pol} {ρ ρ' : Operand → V} {d : Nat} {op : Op} (h : ∀ x ∈ op.operands, ρ' x = ρ x) : evOp P call pol H ρ' d op = evOp P call pol H ρ d op := by
  cases op with
  | move x => simp only [evOp]; rw [h x (by simp [Op.operands])]
  | assign x => simp only [evOp]; rw [h x (by simp [Op.operands])]
  | pick c a b => simp only [evOp]; rw [h c (by simp [Op.operands]), h a (by simp [Op.operands]), h b (by simp [Op.operands])]
  | alloc e => rfl
  | box e x => simp only [evOp]; rw [h x (by simp [Op.operands])]
  | build t ps =>
    simp only [evOp]
    have : (ps.toList.map fun p => (p.1, ρ' p.2)) = ps.toList.map fun p => (p.1, ρ p.2) := List.map_congr_left (fun p hp => by
      rw [h p.2 (by simp only [Op.operands, List.mem_toArray, List.mem_map]; exact ⟨p, hp, rfl⟩)])
    rw [this]
  | buildSlice t len ps =>
    simp only [evOp]
    have : (ps.toList.map fun p => (p.1, ρ' p.2)) = ps.toList.map fun p => (p.1, ρ p.2) := List.map_congr_left (fun p hp => by
      rw [h p.2 (by simp only [Op.operands, List.mem_toArray, List.mem_map]; exact ⟨p, hp, rfl⟩)])
    rw [this]
  | load t x => simp only [evOp]; rw [h x (by simp [Op.operands])]
  | store t a x => simp only [evOp]; rw [h a (by simp [Op.operands]), h x (by simp [Op.operands])]
  | nilCheck x => simp only [evOp]; rw [h x (by simp [Op.operands])]
  | binOp o t x y yt => simp only [evOp]; rw [h x (by simp [Op.operands]), h y (by simp [Op.operands])]
  | unOp o t x => simp only [evOp]; rw [h x (by simp [Op.operands])]
  | convert s t x => simp only [evOp]; rw [h x (by simp [Op.operands])]
  | makeFunc fn first cap =>
    cases fn with
    | func f =>
      simp only [evOp]
      have : cap.toList.map ρ' = cap.toList.map ρ := map_same (fun x hx => h x (by simp only [Op.operands, Array.mem_append]; exact .inr (by simpa using hx)))
      have this2 : first.toList.map ρ' = first.toList.map ρ := map_same (fun x hx => h x (by simp only [Op.operands, Array.mem_append]; exact .inl (by simpa using hx)))
      rw [this, this2]
    | _ => rfl
  | makeSlice t l c => simp only [evOp]; rw [h l (by simp [Op.operands]), h c (by simp [Op.operands])]
  | slice t x lo hi mx =>
    simp only [evOp]
    have e1 : lo.map ρ' = lo.map ρ := by cases lo with | none => rfl | some y => simp only [Option.map_some]; rw [h y (by simp [Op.operands])]
    have e2 : hi.map ρ' = hi.map ρ := by cases hi with | none => rfl | some y => simp only [Option.map_some]; rw [h y (by simp [Op.operands])]
    have e3 : mx.map ρ' = mx.map ρ := by cases mx with | none => rfl | some y => simp only [Option.map_some]; rw [h y (by simp [Op.operands])]
    rw [h x (by simp [Op.operands]), e1, e2, e3]
  | fieldAddr t x f => simp only [evOp]; rw [h x (by simp [Op.operands])]
  | field t x f => simp only [evOp]; rw [h x (by simp [Op.operands])]
  | indexAddr t x i => simp only [evOp]; rw [h x (by simp [Op.operands]), h i (by simp [Op.operands])]
  | index t x i => simp only [evOp]; rw [h x (by simp [Op.operands]), h i (by simp [Op.operands])]
  | extract t i => simp only [evOp]; rw [h t (by simp [Op.operands])]
  | call c =>
    obtain ⟨callee, args, ts⟩ := c
    have ea : args.toList.map ρ' = args.toList.map ρ := map_same (fun x hx => h x (by simp only [Op.operands, Call.operands, Array.mem_append]; exact .inr (by simpa using hx)))
    cases callee with
    | builtin b => simp only [evOp]; rw [ea]
    | value f => simp only [evOp]; rw [ea, h f (by simp [Op.operands, Call.operands])]
    | invoke r mm => rfl
  | _ => rfl
end
end Go.Proofs.Ytieapebabncliaa.Iv

namespace Go.Proofs.Ytieapebabncliaa.Iv
open Go
set_option linter.unusedVariables false
set_option linter.unusedSimpArgs false

/-! ### regions that draw their order: whatever order, the same comes out -/
theorem evOper_env {P : Program} {call : Nat → List V → Heap → Option (V × Heap)} {pol : Nat → Pol} {ops : Array Oper} {k : Nat} {o : Oper} {env env' : List V} {H : Heap}
    (h : ∀ t ∈ o.looksAt ops, env'.getD t .und = env.getD t .und) : evOper P call pol ops k o env' H = evOper P call pol ops k o env H := by
  have hw : wantV ops env' o.guard = wantV ops env o.guard := by
    cases hg : o.guard with
    | none => rfl
    | some p =>
      obtain ⟨j, b⟩ := p
      simp only [wantV]
      cases ht : (ops[j]?).bind (·.dst) with
      | none => rfl
      | some t =>
        simp only
        rw [h t (by simp only [Oper.looksAt, hg, ht, List.mem_append]; exact .inr (by simp))]
  have ho : evOp P call pol H (evOperand env') (o.dst.getD (1000 + k)) o.op = evOp P call pol H (evOperand env) (o.dst.getD (1000 + k)) o.op := evOp_env (fun x hx => by
    cases x with
    | tmp t => exact h t (by simp only [Oper.looksAt, List.mem_append, List.mem_filterMap]; exact .inl ⟨.tmp t, by simpa using hx, rfl⟩)
    | _ => rfl)
  unfold evOper
  rw [hw, ho]
theorem evOper_loc {P : Program} {call : Nat → List V → Heap → Option (V × Heap)} {pol : Nat → Pol} {ops : Array Oper} {k : Nat} {o : Oper} {env : List V} {H H' : Heap} {out : Out}
    (he : evOper P call pol ops k o env H = some out) (hl : ∀ i ∈ out.rd, H' i = H i) : evOper P call pol ops k o env H' = some out := by
  unfold evOper at he ⊢
  split at he
  · exact evOp_loc he hl
  · exact he
  · cases he

theorem setV_get {env env' : List V} {d : Option Nat} {v : V} (h : setV env d v = some env') {t : Nat} (ht : ∀ q, d = some q → q ≠ t) : env'.getD t .und = env.getD t .und := by
  cases d with
  | none => simp only [setV, Option.some.injEq] at h; subst h; rfl
  | some q =>
    simp only [setV] at h
    split at h
    · cases h; simp [List.getD, List.getElem?_set_ne (ht q rfl)]
    · cases h
theorem setV_len {env env' : List V} {d : Option Nat} {v : V} (h : setV env d v = some env') : env'.length = env.length := by
  cases d with
  | none => simp only [setV, Option.some.injEq] at h; subst h; rfl
  | some q =>
    simp only [setV] at h
    split at h
    · cases h; simp
    · cases h
theorem setV_swap {env e1 e12 : List V} {d1 d2 : Option Nat} {v1 v2 : V} (h1 : setV env d1 v1 = some e1) (h2 : setV e1 d2 v2 = some e12) (hne : ∀ d, d1 = some d → d2 ≠ some d) :
    ∃ e2, setV env d2 v2 = some e2 ∧ setV e2 d1 v1 = some e12 := by
  cases d1 with
  | none =>
    simp only [setV, Option.some.injEq] at h1; subst h1
    exact ⟨e12, h2, rfl⟩
  | some a =>
    cases d2 with
    | none =>
      simp only [setV, Option.some.injEq] at h2; subst h2
      exact ⟨env, rfl, h1⟩
    | some b =>
      have hab : a ≠ b := fun e => hne a rfl (by rw [e])
      simp only [setV] at h1 h2 ⊢
      split at h1
      · rename_i ha
        cases h1
        split at h2
        · rename_i hb
          cases h2
          simp only [List.length_set] at hb
          refine ⟨env.set b v2, by rw [if_pos hb], ?_⟩
          simp only [List.length_set]
          rw [if_pos ha, List.set_comm _ _ hab]
        · cases h2
      · cases h1

theorem set_swap {H : Heap} {i j : Id} {a b : Blk} (h : i ≠ j) : (H.set i a).set j b = (H.set j b).set i a := by
  funext k
  unfold Heap.set
  by_cases h1 : k = i
  · subst h1
    simp [h]
  · simp [h1]
theorem sets_set {H : Heap} {i : Id} {a : Blk} : ∀ (r : List (Id × Blk)), i ∉ r.map (·.1) → (H.set i a).sets r = (H.sets r).set i a
  | [], _ => rfl
  | (j, b) :: r, h => by
    simp only [List.map_cons, List.mem_cons, not_or] at h
    simp only [Heap.sets]
    rw [set_swap h.1]
    exact sets_set r h.2
theorem sets_swap : ∀ (a b : List (Id × Blk)) {H : Heap}, (∀ x ∈ a.map (·.1), x ∉ b.map (·.1)) → (H.sets a).sets b = (H.sets b).sets a
  | [], b, H, _ => rfl
  | (i, x) :: r, b, H, h => by
    simp only [Heap.sets]
    rw [sets_swap r b (fun y hy => h y (by simp [hy])), sets_set b (h i (by simp))]

/-- Two outcomes that do not meet. -/
def Indep (a b : Out) : Prop := (∀ x ∈ a.ups.map (·.1), x ∉ b.rd ∧ x ∉ b.ups.map (·.1)) ∧ (∀ x ∈ b.ups.map (·.1), x ∉ a.rd)

section
variable (P : Program) (call : Nat → List V → Heap → Option (V × Heap)) (pol : Nat → Pol) (ops : Array Oper) (L : Nat → Out)

/-- From here on whatever is ready may come next, and it comes to what L says. -/
def AnyA (Qf : List V → Heap → Prop) : Nat → Array Bool → List V → Heap → Prop
  | 0, listed, env, H => Region.ready .any ops listed = [] ∧ Qf env H
  | fuel + 1, listed, env, H => (Region.ready .any ops listed = [] → Qf env H) ∧
    ∀ i ∈ Region.ready .any ops listed, ∃ o env', ops[i]? = some o ∧ evOper P call pol ops i o env H = some (L i) ∧ setV env o.dst (L i).v = some env' ∧
      AnyA Qf fuel (listed.setIfInBounds i true) env' (H.sets (L i).ups)

/-- closed: whatever something that is listed waits for is listed -/
def Closed (listed : Array Bool) : Prop := ∀ j oj, ops[j]? = some oj → listed.getD j false = true → ∀ e ∈ oj.after, Region.binds .any e = true → listed.getD e.on false = true
/-- j may come before i -/
def May (j i : Nat) : Prop := ∃ listed, Closed ops listed ∧ listed.getD i true = false ∧ j ∈ Region.ready .any ops listed

variable {P call pol ops L}
theorem Closed.set {listed : Array Bool} (h : Closed ops listed) {i : Nat} (hi : i ∈ Region.ready .any ops listed) : Closed ops (listed.setIfInBounds i true) := by
  obtain ⟨_, oi, hoi, hall⟩ := mem_ready.1 hi
  intro j oj hj hl e he hb
  by_cases hij : i = j
  · subst hij
    rw [hoi] at hj; cases hj
    exact getD_set_true (hall e he hb)
  · rw [getD_set_ne false hij] at hl
    exact getD_set_true (h j oj hj hl e he hb)

theorem first_any {Qf : List V → Heap → Prop} {i : Nat} {oi : Oper} (hi : ops[i]? = some oi) (U : Nat → Prop)
    (hfree : ∀ j oj, ops[j]? = some oj → j ≠ i → U j → May ops j i → oi.apart ops oj = true ∧ Indep (L i) (L j)) :
    ∀ (fuel : Nat) (listed : Array Bool) (env env1 : List V) (H : Heap), (∀ j, listed.getD j true = false → U j) → Closed ops listed → i ∈ Region.ready .any ops listed → evOper P call pol ops i oi env H = some (L i) →
      setV env oi.dst (L i).v = some env1 → AnyA P call pol ops L Qf fuel (listed.setIfInBounds i true) env1 (H.sets (L i).ups) → AnyA P call pol ops L Qf (fuel + 1) listed env H := by
  intro fuel
  induction fuel with
  | zero =>
    intro listed env env1 H hU hc hr he hs A
    refine ⟨fun h => (by rw [h] at hr; cases hr), fun j hj => ?_⟩
    by_cases hji : j = i
    · subst hji; exact ⟨oi, env1, hi, he, hs, A⟩
    · have := ready_mono hj hji
      rw [A.1] at this; cases this
  | succ fuel ih =>
    intro listed env env1 H hU hc hr he hs A
    refine ⟨fun h => (by rw [h] at hr; cases hr), fun j hj => ?_⟩
    by_cases hji : j = i
    · subst hji; exact ⟨oi, env1, hi, he, hs, A⟩
    · obtain ⟨oj, env12, hoj, hej, hsj, A2⟩ := A.2 j (ready_mono hj hji)
      have hun := (mem_ready.1 hr).1
      obtain ⟨hap, hin⟩ := hfree j oj hoj hji (hU j (mem_ready.1 hj).1) ⟨listed, hc, hun, hj⟩
      obtain ⟨a1, a2, a3⟩ := Oper.apart_spec hap
      obtain ⟨env2, hs2, hs12⟩ := setV_swap hs hsj a2
      have hej' : evOper P call pol ops j oj env H = some (L j) := by
        have h1 : evOper P call pol ops j oj env (H.sets (L i).ups) = some (L j) := by
          rw [← hej]
          exact (evOper_env (fun t ht => setV_get hs (fun q hq e => a1 q hq (e ▸ ht)))).symm
        refine evOper_loc h1 (fun x hx => ?_)
        exact (sets_out H _ x (fun hm => (hin.1 x hm).1 hx)).symm
      have hei' : evOper P call pol ops i oi env2 (H.sets (L j).ups) = some (L i) := by
        have h1 : evOper P call pol ops i oi env2 H = some (L i) := by
          rw [← he]
          exact evOper_env (fun t ht => setV_get hs2 (fun q hq e => a3 q hq (e ▸ ht)))
        exact evOper_loc h1 (fun x hx => sets_out H _ x (fun hm => hin.2 x hm hx))
      refine ⟨oj, env2, hoj, hej', hs2, ?_⟩
      refine ih (listed.setIfInBounds j true) env2 env12 _ (fun q hq => hU q (by
        by_cases e : j = q
        · subst e
          exact (mem_ready.1 hj).1
        · rw [getD_set_ne true e] at hq; exact hq)) (hc.set hj) (ready_mono hr (Ne.symm hji)) hei' hs12 ?_
      rw [← sets_swap _ _ (fun x hx => (hin.1 x hx).2), Array.setIfInBounds_comm _ _ hji]
      exact A2

/-- the machine's own walk through such a region -/
theorem any_sound (hrun : RunOK P call) {K B : Nat → Prop} (hB : ∀ rb, B rb → K rb) {Qf : List V → Heap → Prop} {r : Option Nat} {n : Nat} {Q : Exit → Act → World → Prop} :
    ∀ (fuel : Nat) (listed : Array Bool) (env : List V) (H : Heap) (a : Act) (w : World) (S : Nat → Prop) (m : Map), AnyA P call pol ops L Qf fuel listed env H → Fit K B env a w S m H →
      (∀ a' w' S' m' env' H', Qf env' H' → Step K w S m w' S' m' → Fit K B env' a' w' S' m' H' → a'.defers = a.defers → Q .normal a' w') → wpAnyIn (Fw r) n P .any ops Q fuel listed a w
  | 0, listed, env, H, a, w, S, m, A, h, hq => ⟨A.1, hq a w S m env H A.2 (Step.refl ..) h rfl⟩
  | fuel + 1, listed, env, H, a, w, S, m, A, h, hq => by
    refine ⟨fun h0 => hq a w S m env H (A.1 h0) (Step.refl ..) h rfl, fun i hi => ?_⟩
    obtain ⟨o, env1, ho, he, hs, A2⟩ := A.2 i hi
    refine oper_sound hrun hB h he hs ho (fun a1 w1 S1 m1 st1 h1 hd1 => ?_)
    exact any_sound hrun hB fuel _ env1 _ a1 w1 S1 m1 A2 h1 (fun a' w' S' m' env' H' hQ st' h' hd' => hq a' w' S' m' env' H' hQ (st1.trans st') h' (hd'.trans hd1))
end
end Go.Proofs.Ytieapebabncliaa.Iv

namespace Go.Proofs.Ytieapebabncliaa.Iv
open Go
set_option linter.unusedVariables false
set_option linter.unusedSimpArgs false

/-! ### from the order of the text to any order -/
section
variable {P : Program} {call : Nat → List V → Heap → Option (V × Heap)} {pol : Nat → Pol} {ops : Array Oper}

/-- the walk in the text's order, with what each operation came to -/
def Runs (P : Program) (call : Nat → List V → Heap → Option (V × Heap)) (pol : Nat → Pol) (ops : Array Oper) : List Oper → Nat → List V → Heap → List Out → List V → Heap → Prop
  | [], _, env, H, outs, env', H' => outs = [] ∧ env' = env ∧ H' = H
  | o :: r, k, env, H, outs, env', H' => ∃ out outs' env1, outs = out :: outs' ∧ evOper P call pol ops k o env H = some out ∧ setV env o.dst out.v = some env1 ∧
      Runs P call pol ops r (k + 1) env1 (H.sets out.ups) outs' env' H'
def logOf : Nat → List Out → Log
  | _, [] => []
  | k, o :: r => (k, o.rd, o.ups.map (·.1)) :: logOf (k + 1) r

theorem runs_of : ∀ {l : List Oper} {k : Nat} {env : List V} {H : Heap} {lg : Log} {env' : List V} {H' : Heap} {lg' : Log}, evOps P call pol ops l k env H lg = some (env', H', lg') →
    ∃ outs, outs.length = l.length ∧ Runs P call pol ops l k env H outs env' H' ∧ lg' = (logOf k outs).reverse ++ lg
  | [], k, env, H, lg, env', H', lg', h => by
    simp only [evOps, Option.some.injEq, Prod.mk.injEq] at h
    obtain ⟨rfl, rfl, rfl⟩ := h
    exact ⟨[], rfl, ⟨rfl, rfl, rfl⟩, rfl⟩
  | o :: r, k, env, H, lg, env', H', lg', h => by
    simp only [evOps] at h
    split at h
    · rename_i v us rd ho
      split at h
      · rename_i env1 hs
        obtain ⟨outs, hl, hr, hlg⟩ := runs_of h
        refine ⟨⟨v, us, rd⟩ :: outs, by simp [hl], ⟨_, _, env1, rfl, ho, hs, hr⟩, ?_⟩
        rw [hlg]
        simp [logOf]
      · cases h
    · cases h

theorem logOf_get : ∀ (outs : List Out) (k j : Nat) (o : Out), outs[j]? = some o → (logOf k outs)[j]? = some (k + j, o.rd, o.ups.map (·.1))
  | [], k, j, o, h => by simp at h
  | x :: r, k, 0, o, h => by simp at h; subst h; simp [logOf]
  | x :: r, k, j + 1, o, h => by
    have := logOf_get r (k + 1) j o (by simpa using h)
    simp only [logOf, List.getElem?_cons_succ, this]
    congr 2; omega

theorem logOk_pair {y : Nat × List Id × List Id} : ∀ {lg : Log}, logOk ops lg = true → ∀ (a b : Nat) (x y : Nat × List Id × List Id), lg[a]? = some y → lg[b]? = some x → a < b → pairOk ops x y = true
  | [], _, a, b, x, y, h, _, _ => by simp at h
  | z :: r, h, 0, b + 1, x, y, h1, h2, _ => by
    simp only [logOk, Bool.and_eq_true] at h
    simp at h1; subst h1
    exact List.all_eq_true.1 h.1 x (List.mem_of_getElem? (by simpa using h2))
  | z :: r, h, a + 1, b + 1, x, y, h1, h2, hab => by
    simp only [logOk, Bool.and_eq_true] at h
    exact logOk_pair (y := y) h.2 a b x y (by simpa using h1) (by simpa using h2) (by omega)
  | z :: r, h, a, 0, x, y, h1, h2, hab => by omega

theorem pairs_of {outs : List Out} (h : logOk ops ((logOf 0 outs).reverse ++ []) = true) {i j : Nat} {a b : Out} (hi : outs[i]? = some a) (hj : outs[j]? = some b) (hij : i < j) :
    pairOk ops (i, a.rd, a.ups.map (·.1)) (j, b.rd, b.ups.map (·.1)) = true := by
  rw [List.append_nil] at h
  have l1 := logOf_get outs 0 i a hi
  have l2 := logOf_get outs 0 j b hj
  simp only [Nat.zero_add] at l1 l2
  have n1 := (List.getElem?_eq_some_iff.1 l1).1
  have n2 := (List.getElem?_eq_some_iff.1 l2).1
  refine logOk_pair (y := (j, b.rd, b.ups.map (·.1))) h ((logOf 0 outs).length - 1 - j) ((logOf 0 outs).length - 1 - i) _ _ ?_ ?_ (by omega)
  · rw [List.getElem?_reverse (by omega), show (logOf 0 outs).length - 1 - ((logOf 0 outs).length - 1 - j) = j by omega]; exact l2
  · rw [List.getElem?_reverse (by omega), show (logOf 0 outs).length - 1 - ((logOf 0 outs).length - 1 - i) = i by omega]; exact l1

/-! what comes before what -/
theorem fold_bit (acc : Array Nat) (i : Nat) : ∀ (es : List Edge) (s : Nat), (es.foldl (fun s e => if Region.binds .any e then s ||| 2 ^ e.on ||| acc.getD e.on 0 else s) s).testBit i = true →
    s.testBit i = true ∨ ∃ e ∈ es, Region.binds .any e = true ∧ (e.on = i ∨ (acc.getD e.on 0).testBit i = true)
  | [], s, h => .inl h
  | e :: es, s, h => by
    simp only [List.foldl_cons] at h
    rcases fold_bit acc i es _ h with h1 | ⟨e', he', q⟩
    · by_cases hb : Region.binds .any e = true
      · rw [if_pos hb, Nat.testBit_or, Nat.testBit_or, Bool.or_eq_true, Bool.or_eq_true] at h1
        rcases h1 with (h1 | h1) | h1
        · exact .inl h1
        · rw [Nat.testBit_two_pow] at h1
          exact .inr ⟨e, by simp, hb, .inl (by simpa using h1)⟩
        · exact .inr ⟨e, by simp, hb, .inr h1⟩
      · rw [if_neg hb] at h1; exact .inl h1
    · exact .inr ⟨e', by simp [he'], q⟩

theorem before_spec : ∀ (l : List Oper) (acc : Array Nat) (pre : List Oper), acc.size = pre.length →
    (∀ j i, (acc.getD j 0).testBit i = true → ∃ oj, pre[j]? = some oj ∧ ∃ e ∈ oj.after, Region.binds .any e = true ∧ (e.on = i ∨ (e.on < j ∧ (acc.getD e.on 0).testBit i = true))) →
    ∀ j i, ((l.foldl (fun acc o => acc.push (o.after.foldl (fun s e => if Region.binds .any e then s ||| 2 ^ e.on ||| acc.getD e.on 0 else s) 0)) acc).getD j 0).testBit i = true →
      ∃ oj, (pre ++ l)[j]? = some oj ∧ ∃ e ∈ oj.after, Region.binds .any e = true ∧ (e.on = i ∨ (e.on < j ∧ ((l.foldl (fun acc o => acc.push (o.after.foldl (fun s e => if Region.binds .any e then s ||| 2 ^ e.on ||| acc.getD e.on 0 else s) 0)) acc).getD e.on 0).testBit i = true))
  | [], acc, pre, hs, hI, j, i, h => by simpa using hI j i h
  | o :: l, acc, pre, hs, hI, j, i, h => by
    simp only [List.foldl_cons] at h ⊢
    have hgd : ∀ (v q : Nat), q < acc.size → (acc.push v).getD q 0 = acc.getD q 0 := fun v q hq => by
      simp [Array.getD_eq_getD_getElem?, Array.getElem?_push, Nat.ne_of_lt hq]
    have hz : ∀ q, acc.size ≤ q → acc.getD q 0 = 0 := fun q hq => by simp [Array.getD_eq_getD_getElem?, Array.getElem?_eq_none hq]
    have := before_spec l (acc.push (o.after.foldl (fun s e => if Region.binds .any e then s ||| 2 ^ e.on ||| acc.getD e.on 0 else s) 0)) (pre ++ [o]) (by simp [hs]) (fun j i h => by
      rcases Nat.lt_or_ge j acc.size with q | q
      · rw [hgd _ _ q] at h
        obtain ⟨oj, h1, e, h2, h3, h4⟩ := hI j i h
        refine ⟨oj, by rw [List.getElem?_append_left (by omega)]; exact h1, e, h2, h3, h4.imp id (fun ⟨a, b⟩ => ⟨a, by rw [hgd _ _ (by omega)]; exact b⟩)⟩
      · by_cases e : j = acc.size
        · subst e
          have hp : (acc.push (o.after.foldl (fun s e => if Region.binds .any e then s ||| 2 ^ e.on ||| acc.getD e.on 0 else s) 0)).getD acc.size 0 = o.after.foldl (fun s e => if Region.binds .any e then s ||| 2 ^ e.on ||| acc.getD e.on 0 else s) 0 := by
            simp [Array.getD_eq_getD_getElem?]
          rw [hp, ← Array.foldl_toList] at h
          rcases fold_bit acc i _ _ h with h1 | ⟨e, he, hb, hq⟩
          · simp at h1
          · refine ⟨o, by rw [hs, List.getElem?_append_right (Nat.le_refl _)]; simp, e, by simpa using he, hb, hq.imp id (fun hq => ?_)⟩
            rcases Nat.lt_or_ge e.on acc.size with q2 | q2
            · exact ⟨q2, by rw [hgd _ _ q2]; exact hq⟩
            · rw [hz _ q2] at hq; simp at hq
        · have : (acc.push (o.after.foldl (fun s e => if Region.binds .any e then s ||| 2 ^ e.on ||| acc.getD e.on 0 else s) 0)).getD j 0 = 0 := by
            have hj : (acc.push (o.after.foldl (fun s e => if Region.binds .any e then s ||| 2 ^ e.on ||| acc.getD e.on 0 else s) 0)).size ≤ j := by simp; omega
            rw [Array.getD_eq_getD_getElem?, Array.getElem?_eq_none hj]; rfl
          rw [this] at h; simp at h) j i h
    simpa using this

theorem may_not {j i : Nat} (hm : May ops j i) : ((Region.before ops).getD j 0).testBit i = false := by
  obtain ⟨listed, hc, hun, hr⟩ := hm
  cases hb : ((Region.before ops).getD j 0).testBit i with
  | false => rfl
  | true =>
    exfalso
    have spec : ∀ j i, ((Region.before ops).getD j 0).testBit i = true → ∃ oj, ops[j]? = some oj ∧ ∃ e ∈ oj.after, Region.binds .any e = true ∧ (e.on = i ∨ (e.on < j ∧ ((Region.before ops).getD e.on 0).testBit i = true)) := by
      intro j i h
      unfold Region.before at h ⊢
      rw [← Array.foldl_toList] at h ⊢
      have := before_spec ops.toList #[] [] rfl (fun j i h => by simp [Array.getD_eq_getD_getElem?] at h) j i h
      simpa using this
    have unl : listed.getD i false = false := by
      rcases Nat.lt_or_ge i listed.size with h' | h'
      · simp [h'] at hun ⊢; exact hun
      · simp [Array.getElem?_eq_none h']
    -- whatever is listed does not come behind i
    have key : ∀ n k, k = n → listed.getD k false = true → ((Region.before ops).getD k 0).testBit i = true → False := by
      intro n
      induction n using Nat.strongRecOn with
      | _ n ih =>
        intro k hk hl hbit
        obtain ⟨ok, ho, e, he, hbd, hq⟩ := spec k i hbit
        have hle := hc k ok ho hl e he hbd
        rcases hq with hq | ⟨hlt, hq⟩
        · rw [hq, unl] at hle; cases hle
        · exact ih e.on (by omega) e.on rfl hle hq
    obtain ⟨_, oj, hoj, hall⟩ := mem_ready.1 hr
    obtain ⟨oj', ho, e, he, hbd, hq⟩ := spec j i hb
    rw [hoj] at ho; cases ho
    have hle := hall e he hbd
    rcases hq with hq | ⟨hlt, hq⟩
    · rw [hq, unl] at hle; cases hle
    · exact key _ e.on rfl hle hq

theorem not_meets {a b : List Id} (h : meets a b = false) : ∀ x ∈ a, x ∉ b := fun x hx hb => by
  unfold meets at h
  rw [List.any_eq_false] at h
  exact h x hx (by simpa using hb)

theorem lex_any {outs : List Out} (hlen : outs.length = ops.size) (hlg : logOk ops ((logOf 0 outs).reverse ++ []) = true) {Qf : List V → Heap → Prop} {env' : List V} {H' : Heap} (hq : Qf env' H') :
    ∀ (l : List Oper) (k : Nat) (listed : Array Bool) (env : List V) (H : Heap) (os : List Out), (∀ j, l[j]? = ops[k + j]?) → (∀ j, os[j]? = outs[k + j]?) →
      Region.lexFrom .any ops l.length k listed = true → Closed ops listed → (∀ j, j < k → listed.getD j true = true) → Runs P call pol ops l k env H os env' H' →
      AnyA P call pol ops (fun i => outs.getD i ⟨.und, [], []⟩) Qf l.length listed env H
  | [], k, listed, env, H, os, _, _, hB, _, _, hr => by
    obtain ⟨_, rfl, rfl⟩ := hr
    exact ⟨by simpa [Region.lexFrom] using hB, hq⟩
  | o :: l, k, listed, env, H, os, hl, hos, hB, hc, hpre, hr => by
    obtain ⟨out, os', env1, rfl, he, hs, hr'⟩ := hr
    have h0 : ops[k]? = some o := by simpa using (hl 0).symm
    have ho0 : outs[k]? = some out := by simpa using (hos 0).symm
    simp only [List.length_cons, Region.lexFrom, Bool.and_eq_true] at hB
    obtain ⟨⟨hrd, hf⟩, hB'⟩ := hB
    have hrd' : k ∈ Region.ready .any ops listed := by simpa using hrd
    have hLk : outs.getD k ⟨.und, [], []⟩ = out := by simp [List.getD, ho0]
    have hlt : k < listed.size := by
      have := (mem_ready.1 hrd').1
      rcases Nat.lt_or_ge k listed.size with q | q
      · exact q
      · simp [Array.getElem?_eq_none q] at this
    have rest := lex_any hlen hlg hq l (k + 1) (listed.setIfInBounds k true) env1 (H.sets out.ups) os' (fun j => by have := hl (j + 1); simpa [Nat.add_assoc, Nat.add_comm 1 j] using this)
      (fun j => by have := hos (j + 1); simpa [Nat.add_assoc, Nat.add_comm 1 j] using this) hB' (hc.set hrd') (fun j hj => by
        by_cases e : j = k
        · subst e; simp [hlt]
        · rw [getD_set_ne true (Ne.symm e)]; exact hpre j (by omega)) hr'
    refine first_any (L := fun i => outs.getD i ⟨.und, [], []⟩) h0 (fun j => listed.getD j true = false) (fun j oj hj hne hU hmay => ?_) l.length listed env env1 H (fun j hj => hj) hc hrd' (by rw [hLk]; exact he) (by rw [hLk]; exact hs) (by rw [hLk]; exact rest)
    have hjk : k < j := by
      rcases Nat.lt_trichotomy j k with q | q | q
      · rw [hpre j q] at hU; cases hU
      · exact absurd q hne
      · exact q
    refine ⟨Region.free_spec h0 hf j oj hj hne hU (fun e he hb heq => ?_), ?_⟩
    · obtain ⟨l', _, hun, hr2⟩ := hmay
      obtain ⟨_, oj', ho', hall⟩ := mem_ready.1 hr2
      rw [hj] at ho'; cases ho'
      have h1 := hall e he hb
      rw [heq] at h1
      rcases Nat.lt_or_ge k l'.size with h' | h'
      · simp [h'] at hun h1; rw [hun] at h1; cases h1
      · simp [Array.getElem?_eq_none h'] at h1
    · have hjs : j < ops.size := (Array.getElem?_eq_some_iff.1 hj).1
      have hoj : outs[j]? = some (outs[j]'(by omega)) := List.getElem?_eq_getElem _
      have hp := pairs_of hlg ho0 hoj hjk
      have hLj : outs.getD j ⟨.und, [], []⟩ = outs[j]'(by omega) := by simp [List.getD, hoj]
      rw [hLk, hLj]
      unfold pairOk at hp
      simp only [may_not hmay, Bool.or_false, Bool.not_eq_true', Bool.or_eq_false_iff] at hp
      obtain ⟨⟨p1, p2⟩, p3⟩ := hp
      exact ⟨fun x hx => ⟨not_meets p1 x hx, not_meets p2 x hx⟩, not_meets p3⟩

theorem draw_sound (hm : P.follows .mixedOrders = true) (hrun : RunOK P call) {id : Nat} (hlex : Region.lexB .any ops = true) : DrawOK P call pol id ops := by
  intro env H env' H' lg he hlg K B hB r n _ a w S m h Q hq
  simp only [Region.lexB, Bool.and_eq_true] at hlex
  obtain ⟨outs, hl, hr, rfl⟩ := runs_of he
  have hol : outs.length = ops.size := by simpa using hl
  refine wpIn_region_any hm ?_
  have A := lex_any (Qf := fun e h => e = env' ∧ h = H') hol hlg ⟨rfl, rfl⟩ ops.toList 0 (Array.replicate ops.size false) env H outs (by simp) (by simp) (by simpa using hlex.2)
    (fun j oj hj hl => by
      rcases Nat.lt_or_ge j ops.size with q | q
      · simp [q] at hl
      · simp [Array.getElem?_eq_none (show (Array.replicate ops.size false).size ≤ j by simpa using q), q] at hl) (fun j hj => by omega) hr
  have hd : Fit K B env a w.drew S m H := ⟨h.sr.drew, h.len, fun t => (h.tr t).mono (Step.drew K w S m) hB⟩
  have := any_sound hrun hB (r := r) (n := n) (Q := Q) _ _ env H a w.drew S m A hd (fun a' w' S' m' e2 h2 hQ st' h' hd' => by
    obtain ⟨rfl, rfl⟩ := hQ
    exact hq .normal a' w' S' m' trivial ((Step.drew K w S m).trans st') h' (.of_eq hd'))
  simpa using this

/-- the check of a function's code: each region that draws is one that may be walked in any order -/
def lexAll (c : Code) : Bool := (drawn c).all fun p => Region.lexB .any p.2
def cfgB (C : Cfg) : Bool := C.good.all fun f => match C.P.funcs[f]? with
  | some fn => !(fn.name == "runtime.NumGoroutine") && (match fn.body with | some c => lexAll c | none => true)
  | none => true
theorem seq_none {P : Program} {pol : Nat → Pol} (h : ∀ g, (pol g).seq = none) : SeqOK P pol := fun g cap items he => by simp [seqOf, h] at he
theorem ext_none {C : Cfg} (h : ∀ f, C.ext f = none) : RunOK C.P C.extern :=
  ⟨fun f args H r he => by simp [Cfg.extern, h] at he, fun f args H r H' he => by simp [Cfg.extern, h] at he⟩
theorem cfg_ok {C : Cfg} (hm : C.P.follows .mixedOrders = true) (hq : SeqOK C.P C.pol) (hE : RunOK C.P C.extern) (h : cfgB C = true) : CfgOK C := by
  unfold cfgB at h
  refine ⟨hq, fun f hf fn he => ?_, hE, fun f hf fn c he hb => ?_⟩
  · have := List.all_eq_true.1 h f hf
    simp only [he, Bool.and_eq_true] at this
    simpa using this.1
  · have := List.all_eq_true.1 h f hf
    simp only [he, hb, Bool.and_eq_true] at this
    exact fun call hr p hp => draw_sound hm hr (List.all_eq_true.1 this.2 p hp)

/-- WHAT THE IDEAL MACHINE COMES TO, THE MODEL's COMES TO: of a call without references. -/
theorem calls_of_run {C : Cfg} (hm : C.P.follows .mixedOrders = true) (hq : SeqOK C.P C.pol) (hE : RunOK C.P C.extern) (h : cfgB C = true) {n f : Nat} {args : List V} {r : V} {H' : Heap} (he : run C n f args (fun _ => none) = some (r, H')) {w : World} {S : Nat → Prop} (hS : ∀ rb, S rb → ∃ o : Obj, w.heap[rb]? = some o ∧ o.isCells = true)
    {vs : List Value} (hx : All2 (VR w S no (fun _ => none)) args vs) :
    Calls C.P f vs.toArray w fun e w' => ∃ x S' m', e = .returned x ∧ RowKit.Below w.heap.size w w' ∧ (∀ rb, S rb → S' rb) ∧ VR w' S' no m' r x := by
  have sr : SR w S (fun rb => rb < w.heap.size) (fun _ => none) (fun _ => none) :=
    ⟨fun rb hb => (hS rb hb).elim fun o h => (Array.getElem?_eq_some_iff.1 h.1).1, fun rb h => h, (fun i b h => by cases h), fun _ _ => rfl, (fun i j bi im jm h => by cases h), (fun i b im h => by cases h), hS⟩
  refine ((run_sound (cfg_ok hm hq hE h) n).1.ok f args _ r H' he w S _ no _ vs sr (fun _ f => f.elim) hx).mono ?_
  rintro e w' ⟨x, S', m', rfl, st, sr', hv⟩
  exact ⟨x, S', m', rfl, ⟨st.os, st.tape, st.output, st.size, fun k hk => st.pres k (.inr hk)⟩, st.sub, hv⟩
end
end Go.Proofs.Ytieapebabncliaa.Iv

namespace Go.Proofs.Ytieapebabncliaa.Iv
open Go
set_option linter.unusedVariables false
set_option linter.unusedSimpArgs false

/-! ### more fuel, the same answer -/
abbrev CallF := Nat → List V → Heap → Option (V × Heap)
def LeC (c c' : CallF) : Prop := ∀ f a H r, c f a H = some r → c' f a H = some r
def LeA (c c' : Code → List V → Heap → Res) : Prop := ∀ x e H r, c x e H = some r → c' x e H = some r

structure Pre where
  as : List V
  Hin : Heap
  acc : List Id
  fz : List (Id × Blk)
  rd : List Id
/-- what is handed to a function -/
def callPre (pol : Nat → Pol) (H : Heap) (f : Nat) (args : List V) : Option Pre :=
  match argsIn H (pol f).modes args with
  | some (as, fz, rd) =>
    match collect (H.sets fz) 200 (refsL as) [] with
    | some acc =>
      if acc.any (fun i => rd.contains i && !(fz.any fun x => x.1 == i)) = true then none else
        some ⟨renIf acc (intoRen (H.sets fz) acc) as, enterH (H.sets fz) acc, acc, fz, rd⟩
    | none => none
  | none => none
/-- what comes back -/
def callPost (pol : Nat → Pol) (H : Heap) (d f : Nat) (p : Pre) (r : V) (H' : Heap) : Option Out :=
  match retZ (pol f) H' r with
  | some (r, us) =>
    match collect (H'.sets us) 200 (argIds p.acc.length (H'.sets us) (refs r)) [] with
    | some acc' => match siteD H d (pol f).multi with
      | some (d, rs) => match backUps (H.sets p.fz) (H'.sets us) d p.acc acc' acc' with
        | some ups => if (outKept r || p.rd.isEmpty) && freshSubs d p.acc acc' then
            some ⟨renIfV acc' (backRen (H.sets p.fz) d p.acc acc') r, p.fz ++ ups, rs ++ (p.rd ++ p.acc ++ acc'.map (newName d p.acc))⟩
          else none
        | none => none
      | none => none
    | none => none
  | none => none
theorem evCall_eq (call : CallF) (pol : Nat → Pol) (H : Heap) (d f : Nat) (args : List V) :
    evCall call pol H d f args = match callPre pol H f args with
      | some p => match call f p.as p.Hin with
        | some (r, H') => callPost pol H d f p r H'
        | none => none
      | none => none := by
  unfold evCall callPre
  cases argsIn H (pol f).modes args with
  | none => rfl
  | some q =>
    obtain ⟨as, fz, rd⟩ := q
    simp only
    cases collect (H.sets fz) 200 (refsL as) [] with
    | none => rfl
    | some acc =>
      simp only
      split
      · rfl
      · simp only
        cases call f (renIf acc (intoRen (H.sets fz) acc) as) (enterH (H.sets fz) acc) with
        | none => rfl
        | some q => obtain ⟨r, H'⟩ := q; rfl

theorem evCall_mono {c c' : CallF} (h : LeC c c') {pol : Nat → Pol} {H : Heap} {d f : Nat} {args : List V} {o : Out} (he : evCall c pol H d f args = some o) : evCall c' pol H d f args = some o := by
  rw [evCall_eq] at he ⊢
  cases hp : callPre pol H f args with
  | none => rw [hp] at he; cases he
  | some p =>
    rw [hp] at he
    simp only at he ⊢
    cases hc : c f p.as p.Hin with
    | none => rw [hc] at he; cases he
    | some q => rw [hc] at he; rw [h _ _ _ _ hc]; exact he

theorem evOp_mono {P : Program} {c c' : CallF} (h : LeC c c') {pol : Nat → Pol} {H : Heap} {ρ : Operand → V} {d : Nat} {op : Op} {o : Out} (he : evOp P c pol H ρ d op = some o) : evOp P c' pol H ρ d op = some o := by
  unfold evOp at he ⊢
  split at he <;> first | exact he | skip
  split at he
  · split at he
    · rename_i hlt
      rw [if_pos hlt]
      exact evCall_mono h he
    · rename_i hlt
      rw [if_neg hlt]
      split at he
      · rename_i hn
        rw [if_pos hn]
        exact evCall_mono h he
      · cases he
  · exact he

theorem evOps_mono {P : Program} {c c' : CallF} (h : LeC c c') {pol : Nat → Pol} {ops : Array Oper} : ∀ {l : List Oper} {k : Nat} {env : List V} {H : Heap} {lg : Log} {r : List V × Heap × Log},
    evOps P c pol ops l k env H lg = some r → evOps P c' pol ops l k env H lg = some r
  | [], k, env, H, lg, r, he => he
  | o :: l, k, env, H, lg, r, he => by
    simp only [evOps] at he ⊢
    cases ho : evOper P c pol ops k o env H with
    | none => rw [ho] at he; cases he
    | some out =>
      have : evOper P c' pol ops k o env H = some out := by
        unfold evOper at ho ⊢
        split at ho
        · exact evOp_mono h ho
        · exact ho
        · cases ho
      rw [this]
      rw [ho] at he
      obtain ⟨v, us, rd⟩ := out
      simp only at he ⊢
      cases hs : setV env o.dst v with
      | none => rw [hs] at he; cases he
      | some env' => rw [hs] at he; exact evOps_mono h he

theorem evItems_mono {env : List V} {f g : List V → Heap → Res} (h : ∀ x H r, f x H = some r → g x H = some r) : ∀ {l : List (List V)} {H : Heap} {r : Ex × List V × Heap}, evItems env f l H = some r → evItems env g l H = some r
  | [], H, r, he => he
  | x :: l, H, r, he => by
    simp only [evItems] at he ⊢
    cases hf : f x H with
    | none => rw [hf] at he; cases he
    | some t =>
      obtain ⟨ex, e, H1⟩ := t
      rw [hf] at he
      rw [h _ _ _ hf]
      cases ex with
      | nrm => exact evItems_mono h he
      | _ => exact he
theorem twoC_mono {ps : List Nat} {env : List V} {a b a' b' : List V → Heap → Res} (ha : ∀ {e H r}, a e H = some r → a' e H = some r) (hb : ∀ {e H r}, b e H = some r → b' e H = some r) {x : List V} {H : Heap} {r : Ex × List V × Heap}
    (he : twoC ps env a b x H = some r) : twoC ps env a' b' x H = some r := by
  unfold twoC at he ⊢
  split at he
  · split at he
    · rename_i h1
      rw [ha h1]
      exact hb he
    · cases he
  · cases he

theorem evC_mono {P : Program} {c c' : CallF} (h : LeC c c') {pol : Nat → Pol} {g g' : Code → List V → Heap → Res} (hg : LeA g g') : ∀ {x : Code} {env : List V} {H : Heap} {r : Ex × List V × Heap},
    evC P c pol g x env H = some r → evC P c' pol g' x env H = some r := by
  intro x
  induction x with
  | seq a b iha ihb =>
    intro env H r he
    simp only [evC] at he ⊢
    cases ha : evC P c pol g a env H with
    | none => rw [ha] at he; cases he
    | some q =>
      rw [iha ha]
      rw [ha] at he
      obtain ⟨ex, e, H1⟩ := q
      cases ex with
      | nrm => exact ihb he
      | _ => exact he
  | cond t a b iha ihb =>
    intro env H r he
    simp only [evC] at he ⊢
    split at he
    · exact iha he
    · exact ihb he
    · cases he
  | block id a ih =>
    intro env H r he
    simp only [evC] at he ⊢
    cases ha : evC P c pol g a env H with
    | none => rw [ha] at he; cases he
    | some q => rw [ih ha]; rw [ha] at he; exact he
  | scope a ih =>
    intro env H r he
    simp only [evC] at he ⊢
    exact ih he
  | loop a ih =>
    intro env H r he
    simp only [evC] at he ⊢
    cases ha : evC P c pol g a env H with
    | none => rw [ha] at he; cases he
    | some q =>
      rw [ih ha]
      rw [ha] at he
      obtain ⟨ex, e, H1⟩ := q
      cases ex with
      | nrm => exact hg _ _ _ _ he
      | _ => exact he
  | rangeFunc g ps as body iha ihb =>
    intro env H r he
    simp only [evC] at he ⊢
    split at he
    · split at he
      · split at he
        · rename_i hf
          rw [if_pos hf]
          exact evItems_mono (fun x H r h => twoC_mono iha ihb h) he
        · cases he
      · cases he
    · cases he
  | region id ops draw =>
    intro env H r he
    simp only [evC] at he ⊢
    cases ho : evOps P c pol ops ops.toList 0 env H [] with
    | none => rw [ho] at he; cases he
    | some q => rw [evOps_mono h ho]; rw [ho] at he; exact he
  | _ => intro env H r he; exact he

theorem evFun_mono {K : Cfg} {c c' : CallF} (h : LeC c c') {g g' : Code → List V → Heap → Res} (hg : LeA g g') : LeC (evFun K c g) (evFun K c' g') := by
  intro f args H r he
  unfold evFun at he ⊢
  split at he
  · rename_i hx; rw [if_pos hx]; exact he
  · rename_i hx
    rw [if_neg hx]
    unfold evBody at he ⊢
    split at he
    · rename_i hgd
      rw [if_pos hgd]
      cases hf : K.P.funcs[f]? with
      | none => rw [hf] at he; cases he
      | some fn =>
        rw [hf] at he
        simp only at he ⊢
        cases hb : fn.body with
        | none => rw [hb] at he; cases he
        | some c0 =>
          rw [hb] at he
          simp only at he ⊢
          split at he
          · rename_i hl
            rw [if_pos hl]
            cases hc : evC K.P c K.pol g c0 (args ++ List.replicate (fn.ntmps - args.length) .und) H with
            | none => rw [hc] at he; cases he
            | some q => rw [evC_mono h hg hc]; rw [hc] at he; exact he
          · cases he
    · cases he

theorem run_mono1 (K : Cfg) : ∀ n, LeC (run K n) (run K (n + 1)) ∧ LeA (again K n) (again K (n + 1))
  | 0 => ⟨fun f a H r he => by simp [run] at he, fun x e H r he => by simp [again] at he⟩
  | n + 1 => by
    obtain ⟨h1, h2⟩ := run_mono1 K n
    have e1 : run K (n + 1) = evFun K (run K n) (again K n) := by funext f args H; rfl
    have e2 : run K (n + 1 + 1) = evFun K (run K (n + 1)) (again K (n + 1)) := by funext f args H; rfl
    refine ⟨by rw [e2, e1]; rw [e1] at h1; exact evFun_mono (by rw [← e1] at h1 ⊢; exact h1) h2, fun x e H r he => ?_⟩
    exact evC_mono h1 h2 he
theorem run_mono (K : Cfg) {n m : Nat} (h : n ≤ m) : LeC (run K n) (run K m) := by
  induction h with
  | refl => exact fun f a H r he => he
  | step _ ih => exact fun f a H r he => (run_mono1 K _).1 _ _ _ _ (ih _ _ _ _ he)
theorem again_mono (K : Cfg) {n m : Nat} (h : n ≤ m) : LeA (again K n) (again K m) := by
  induction h with
  | refl => exact fun f a H r he => he
  | step _ ih => exact fun f a H r he => (run_mono1 K _).2 _ _ _ _ (ih _ _ _ _ he)
end Go.Proofs.Ytieapebabncliaa.Iv

namespace Go.Proofs.Ytieapebabncliaa.Iv
open Go
set_option linter.unusedVariables false
set_option linter.unusedSimpArgs false

/-! ### what holds behind a piece of code, told from its end -/
abbrev KQ := Ex → List V → Heap → Prop
abbrev CallW := Nat → List V → Heap → (V → Heap → Prop) → Prop
abbrev LoopW := Code → List V → Heap → KQ → Prop

def isVCall : Op → Bool
  | .call { callee := .value _, .. } => true
  | _ => false

section
variable (P : Program) (pol : Nat → Pol) (cl : CallW) (lp : LoopW)

def outW (o : Option Out) (Q : Out → Prop) : Prop :=
  match o with
  | some o => Q o
  | none => False
def wCall (H : Heap) (d f : Nat) (args : List V) (Q : Out → Prop) : Prop :=
  match callPre pol H f args with
  | some p => cl f p.as p.Hin fun r H' => outW (callPost pol H d f p r H') Q
  | none => False
def wOp (H : Heap) (ρ : Operand → V) (d : Nat) (op : Op) (Q : Out → Prop) : Prop :=
  match op with
  | .call { callee := .value f, args, .. } => match ρ f with
    | .fn f cap => if f < 1048576 then wCall pol cl H d f (args.toList.map ρ ++ cap) Q else if args.toList = [] then wCall pol cl H d (f % 1048576) cap Q else False
    | _ => False
  | op => outW (evOp P (fun _ _ _ => none) pol H ρ d op) Q
def gate (w : Option Bool) (run : (Out → Prop) → Prop) (Q : Out → Prop) : Prop :=
  match w with
  | some true => run Q
  | some false => Q ⟨.tup [], [], []⟩
  | none => False
def wOper (ops : Array Oper) (k : Nat) (o : Oper) (env : List V) (H : Heap) (Q : Out → Prop) : Prop :=
  gate (wantV ops env o.guard) (wOp P pol cl H (evOperand env) (o.dst.getD (1000 + k)) o.op) Q
def setW (env : List V) (d : Option Nat) (v : V) (Q : List V → Prop) : Prop :=
  match setV env d v with
  | some env => Q env
  | none => False
def wOps (ops : Array Oper) : List Oper → Nat → List V → Heap → (List V → Heap → Prop) → Prop
  | [], _, env, H, Q => Q env H
  | o :: r, k, env, H, Q => wOper P pol cl ops k o env H fun out => setW env o.dst out.v fun env => wOps ops r (k + 1) env (H.sets out.ups) Q
def wOpsL (ops : Array Oper) : List Oper → Nat → List V → Heap → Log → (List V → Heap → Log → Prop) → Prop
  | [], _, env, H, lg, Q => Q env H lg
  | o :: r, k, env, H, lg, Q => wOper P pol cl ops k o env H fun out => setW env o.dst out.v fun env => wOpsL ops r (k + 1) env (H.sets out.ups) ((k, out.rd, out.ups.map (·.1)) :: lg) Q

def wItems (env : List V) (round : List V → Heap → KQ → Prop) : List (List V) → Heap → KQ → Prop
  | [], H, Q => Q .nrm env H
  | x :: r, H, Q => round x H fun ex _ H => match ex with
    | .nrm => wItems env round r H Q
    | .exit i => Q (.exit i) env H
    | .ret => Q .ret env H
def twoW (ps : List Nat) (env : List V) (as body : List V → Heap → KQ → Prop) (x : List V) (H : Heap) (Q : KQ) : Prop :=
  match putAll ps x env with
  | some e => as e H fun ex e H => match ex with
    | .nrm => body e H Q
    | _ => False
  | none => False
def wC : Code → List V → Heap → KQ → Prop
  | .skip, env, H, Q => Q .nrm env H
  | .label _, env, H, Q => Q .nrm env H
  | .ret, env, H, Q => Q .ret env H
  | .exit id, env, H, Q => Q (.exit id) env H
  | .seq a b, env, H, Q => wC a env H fun ex env H => match ex with
    | .nrm => wC b env H Q
    | .exit i => Q (.exit i) env H
    | .ret => Q .ret env H
  | .cond c a b, env, H, Q => match evOperand env c with
    | .bool true => wC a env H Q
    | .bool false => wC b env H Q
    | _ => False
  | .block id c, env, H, Q => wC c env H fun ex env H => match ex with
    | .exit j => if j = id then Q .nrm env H else Q (.exit j) env H
    | .nrm => Q .nrm env H
    | .ret => Q .ret env H
  | .scope c, env, H, Q => wC c env H Q
  | .loop c, env, H, Q => lp c env H Q
  | .region _ ops false, env, H, Q => wOps P pol cl ops ops.toList 0 env H (Q .nrm)
  | .region _ ops true, env, H, Q => wOpsL P pol cl ops ops.toList 0 env H [] fun env H lg => logOk ops lg = true ∧ Q .nrm env H
  | .rangeFunc g ps assign body, env, H, Q => match evOperand env g with
    | .fn k cap => match seqOf P pol k cap with
      | some items => if flatC assign && flatC body then wItems env (twoW ps.toList env (wC assign) (wC body)) items H Q else False
      | none => False
    | _ => False
  | _, _, _, _ => False
end

/-- A call goes so. -/
def CallR (K : Cfg) : CallW := fun f args H Q => ∃ n r H', run K n f args H = some (r, H') ∧ Q r H'
/-- A loop goes so. -/
def LoopR (K : Cfg) : LoopW := fun c env H Q => ∃ n ex env' H', again K n (.loop c) env H = some (ex, env', H') ∧ Q ex env' H'

theorem outW_some {o : Option Out} {Q : Out → Prop} (h : outW o Q) : ∃ x, o = some x ∧ Q x := by
  cases o with
  | none => exact h.elim
  | some x => exact ⟨x, rfl, h⟩
theorem setW_some {env : List V} {d : Option Nat} {v : V} {Q : List V → Prop} (h : setW env d v Q) : ∃ e, setV env d v = some e ∧ Q e := by
  unfold setW at h
  cases hs : setV env d v with
  | none => rw [hs] at h; exact h.elim
  | some e => rw [hs] at h; exact ⟨e, rfl, h⟩

variable {K : Cfg}
theorem wCall_sound {H : Heap} {d f : Nat} {args : List V} {Q : Out → Prop} (h : wCall K.pol (CallR K) H d f args Q) : ∃ n o, evCall (run K n) K.pol H d f args = some o ∧ Q o := by
  unfold wCall at h
  cases hp : callPre K.pol H f args with
  | none => rw [hp] at h; exact h.elim
  | some p =>
    rw [hp] at h
    obtain ⟨n, r, H', hr, hq⟩ := h
    obtain ⟨o, ho, hq⟩ := outW_some hq
    exact ⟨n, o, by rw [evCall_eq, hp]; simp only; rw [hr]; exact ho, hq⟩
theorem none_le (c : CallF) : LeC (fun _ _ _ => none) c := fun f a H r he => by cases he
theorem wOp_sound {H : Heap} {ρ : Operand → V} {d : Nat} {op : Op} {Q : Out → Prop} (h : wOp K.P K.pol (CallR K) H ρ d op Q) : ∃ n o, evOp K.P (run K n) K.pol H ρ d op = some o ∧ Q o := by
  unfold wOp at h
  split at h
  · rename_i f args ts
    split at h
    · rename_i g cap hf
      split at h
      · rename_i hlt
        obtain ⟨n, o, ho, hq⟩ := wCall_sound h
        exact ⟨n, o, by simp only [evOp, hf]; rw [if_pos hlt]; exact ho, hq⟩
      · rename_i hlt
        split at h
        · rename_i hn
          obtain ⟨n, o, ho, hq⟩ := wCall_sound h
          exact ⟨n, o, by simp only [evOp, hf]; rw [if_neg hlt, if_pos hn]; exact ho, hq⟩
        · exact h.elim
    · exact h.elim
  · obtain ⟨o, ho, hq⟩ := outW_some h
    exact ⟨0, o, evOp_mono (none_le _) ho, hq⟩
theorem wOper_sound {ops : Array Oper} {k : Nat} {o : Oper} {env : List V} {H : Heap} {Q : Out → Prop} (h : wOper K.P K.pol (CallR K) ops k o env H Q) :
    ∃ n out, evOper K.P (run K n) K.pol ops k o env H = some out ∧ Q out := by
  unfold wOper gate at h
  split at h
  · rename_i hw
    obtain ⟨n, out, ho, hq⟩ := wOp_sound h
    exact ⟨n, out, by unfold evOper; rw [hw]; exact ho, hq⟩
  · rename_i hw
    exact ⟨0, _, by unfold evOper; rw [hw], h⟩
  · exact h.elim
theorem evOper_mono {P : Program} {c c' : CallF} (h : LeC c c') {pol : Nat → Pol} {ops : Array Oper} {k : Nat} {o : Oper} {env : List V} {H : Heap} {out : Out} (he : evOper P c pol ops k o env H = some out) :
    evOper P c' pol ops k o env H = some out := by
  unfold evOper at he ⊢
  split at he
  · exact evOp_mono h he
  · exact he
  · cases he
theorem wOpsL_sound {ops : Array Oper} : ∀ {l : List Oper} {k : Nat} {env : List V} {H : Heap} {lg : Log} {Q : List V → Heap → Log → Prop}, wOpsL K.P K.pol (CallR K) ops l k env H lg Q →
    ∃ n env' H' lg', evOps K.P (run K n) K.pol ops l k env H lg = some (env', H', lg') ∧ Q env' H' lg'
  | [], k, env, H, lg, Q, h => ⟨0, env, H, lg, rfl, h⟩
  | o :: l, k, env, H, lg, Q, h => by
    obtain ⟨n, out, ho, h⟩ := wOper_sound h
    obtain ⟨e, hs, h⟩ := setW_some h
    obtain ⟨n', env', H', lg', hr, hq⟩ := wOpsL_sound h
    refine ⟨max n n', env', H', lg', ?_, hq⟩
    simp only [evOps]
    rw [evOper_mono (run_mono K (Nat.le_max_left n n')) ho]
    simp only
    rw [hs]
    exact evOps_mono (run_mono K (Nat.le_max_right n n')) hr
theorem wOps_log {cl : CallW} {P : Program} {pol : Nat → Pol} (hm : ∀ f a H Q Q', (∀ r H', Q r H' → Q' r H') → cl f a H Q → cl f a H Q') {ops : Array Oper} : ∀ {l : List Oper} {k : Nat} {env : List V} {H : Heap} {Q : List V → Heap → Prop} (lg : Log), wOps P pol cl ops l k env H Q → wOpsL P pol cl ops l k env H lg fun e h _ => Q e h
  | [], k, env, H, Q, lg, h => h
  | o :: l, k, env, H, Q, lg, h => by
    have key : ∀ {q q' : Out → Prop}, (∀ x, q x → q' x) → wOper P pol cl ops k o env H q → wOper P pol cl ops k o env H q' := by
      intro q q' hq hh
      unfold wOper gate at hh ⊢
      split at hh
      · unfold wOp at hh ⊢
        have call : ∀ (f : Nat) (args : List V) (d : Nat), wCall pol cl H d f args q → wCall pol cl H d f args q' := by
          intro f args d hh
          unfold wCall at hh ⊢
          cases hp : callPre pol H f args with
          | none => rw [hp] at hh; exact hh
          | some p =>
            rw [hp] at hh
            refine hm _ _ _ _ _ (fun r H' h1 => ?_) hh
            obtain ⟨x, hx, h2⟩ := outW_some h1
            rw [hx]; exact hq _ h2
        split at hh
        · split at hh
          · split at hh
            · rename_i hlt
              rw [if_pos hlt]
              exact call _ _ _ hh
            · rename_i hlt
              rw [if_neg hlt]
              split at hh
              · rename_i hn
                rw [if_pos hn]
                exact call _ _ _ hh
              · exact hh.elim
          · exact hh
        · obtain ⟨x, hx, h2⟩ := outW_some hh
          rw [hx]; exact hq _ h2
      · exact hq _ hh
      · exact hh
    refine key (fun x hx => ?_) h
    obtain ⟨e, hs, h2⟩ := setW_some hx
    unfold setW
    rw [hs]
    exact wOps_log hm _ h2
theorem CallR.mono {f : Nat} {args : List V} {H : Heap} {Q Q' : V → Heap → Prop} (h : CallR K f args H Q) (hq : ∀ r H', Q r H' → Q' r H') : CallR K f args H Q' :=
  let ⟨n, r, H', hr, q⟩ := h; ⟨n, r, H', hr, hq _ _ q⟩
theorem LoopR.mono {c : Code} {env : List V} {H : Heap} {Q Q' : KQ} (h : LoopR K c env H Q) (hq : ∀ ex e h, Q ex e h → Q' ex e h) : LoopR K c env H Q' :=
  let ⟨n, ex, e, H', hr, q⟩ := h; ⟨n, ex, e, H', hr, hq _ _ _ q⟩

theorem wItems_sound {as body : Code} {ps : List Nat} {env0 : List V}
    (ha : ∀ {env : List V} {H : Heap} {Q : KQ}, wC K.P K.pol (CallR K) (LoopR K) as env H Q → ∃ n ex env' H', evC K.P (run K n) K.pol (again K n) as env H = some (ex, env', H') ∧ Q ex env' H')
    (hb : ∀ {env : List V} {H : Heap} {Q : KQ}, wC K.P K.pol (CallR K) (LoopR K) body env H Q → ∃ n ex env' H', evC K.P (run K n) K.pol (again K n) body env H = some (ex, env', H') ∧ Q ex env' H') :
    ∀ {l : List (List V)} {H : Heap} {Q : KQ}, wItems env0 (twoW ps env0 (wC K.P K.pol (CallR K) (LoopR K) as) (wC K.P K.pol (CallR K) (LoopR K) body)) l H Q →
      ∃ n ex env' H', evItems env0 (twoC ps env0 (evC K.P (run K n) K.pol (again K n) as) (evC K.P (run K n) K.pol (again K n) body)) l H = some (ex, env', H') ∧ Q ex env' H'
  | [], H, Q, h => ⟨0, _, _, _, rfl, h⟩
  | x :: l, H, Q, h => by
    simp only [wItems] at h
    unfold twoW at h
    cases hp : putAll ps x env0 with
    | none => rw [hp] at h; exact h.elim
    | some e =>
      rw [hp] at h
      obtain ⟨n1, ex1, e1, H1, h1, h2⟩ := ha h
      cases ex1 with
      | exit i => exact h2.elim
      | ret => exact h2.elim
      | nrm =>
        obtain ⟨n2, ex2, e2, H2, h3, h4⟩ := hb h2
        have key : ∀ n, n1 ≤ n → n2 ≤ n → twoC ps env0 (evC K.P (run K n) K.pol (again K n) as) (evC K.P (run K n) K.pol (again K n) body) x H = some (ex2, e2, H2) := fun n q1 q2 => by
          unfold twoC
          rw [hp]
          simp only
          rw [evC_mono (run_mono K q1) (again_mono K q1) h1]
          exact evC_mono (run_mono K q2) (again_mono K q2) h3
        cases ex2 with
        | nrm =>
          obtain ⟨n3, ex3, e3, H3, h5, h6⟩ := wItems_sound ha hb (show wItems env0 _ l H2 Q from h4)
          refine ⟨max (max n1 n2) n3, ex3, e3, H3, ?_, h6⟩
          simp only [evItems]
          rw [key _ (by omega) (by omega)]
          have q3 : n3 ≤ max (max n1 n2) n3 := Nat.le_max_right _ _
          exact evItems_mono (fun x H r h => twoC_mono (fun h => evC_mono (run_mono K q3) (again_mono K q3) h) (fun h => evC_mono (run_mono K q3) (again_mono K q3) h) h) h5
        | exit i =>
          refine ⟨max n1 n2, _, env0, H2, ?_, h4⟩
          simp only [evItems]
          rw [key _ (by omega) (by omega)]
        | ret =>
          refine ⟨max n1 n2, _, env0, H2, ?_, h4⟩
          simp only [evItems]
          rw [key _ (by omega) (by omega)]
theorem wC_sound : ∀ {c : Code} {env : List V} {H : Heap} {Q : KQ}, wC K.P K.pol (CallR K) (LoopR K) c env H Q →
    ∃ n ex env' H', evC K.P (run K n) K.pol (again K n) c env H = some (ex, env', H') ∧ Q ex env' H' := by
  intro c
  induction c with
  | skip => intro env H Q h; exact ⟨0, _, _, _, rfl, h⟩
  | label => intro env H Q h; exact ⟨0, _, _, _, rfl, h⟩
  | ret => intro env H Q h; exact ⟨0, _, _, _, rfl, h⟩
  | exit => intro env H Q h; exact ⟨0, _, _, _, rfl, h⟩
  | goto => intro env H Q h; exact h.elim
  | refuse => intro env H Q h; exact h.elim
  | rangeFunc g ps as body iha ihb =>
    intro env H Q h
    simp only [wC] at h
    split at h
    · rename_i k cap hv
      split at h
      · rename_i items hi
        split at h
        · rename_i hf
          obtain ⟨n, ex, e, H', h1, h2⟩ := wItems_sound (K := K) (as := as) (body := body) (fun h => iha h) (fun h => ihb h) h
          exact ⟨n, ex, e, H', by simp only [evC]; rw [hv]; simp only; rw [hi]; simp only; rw [if_pos hf]; exact h1, h2⟩
        · exact h.elim
      · exact h.elim
    · exact h.elim
  | seq a b iha ihb =>
    intro env H Q h
    obtain ⟨n, ex, e, H1, h1, h2⟩ := iha (show wC K.P K.pol (CallR K) (LoopR K) a env H _ from h)
    cases ex with
    | nrm =>
      obtain ⟨n', ex', e', H', h3, h4⟩ := ihb h2
      refine ⟨max n n', ex', e', H', ?_, h4⟩
      simp only [evC]
      rw [evC_mono (run_mono K (Nat.le_max_left n n')) (again_mono K (Nat.le_max_left n n')) h1]
      exact evC_mono (run_mono K (Nat.le_max_right n n')) (again_mono K (Nat.le_max_right n n')) h3
    | exit i => exact ⟨n, _, e, H1, by simp only [evC]; rw [h1], h2⟩
    | ret => exact ⟨n, _, e, H1, by simp only [evC]; rw [h1], h2⟩
  | cond t a b iha ihb =>
    intro env H Q h
    simp only [wC] at h
    split at h
    · rename_i ht
      obtain ⟨n, ex, e, H1, h1, h2⟩ := iha h
      exact ⟨n, ex, e, H1, by simp only [evC]; rw [ht]; exact h1, h2⟩
    · rename_i ht
      obtain ⟨n, ex, e, H1, h1, h2⟩ := ihb h
      exact ⟨n, ex, e, H1, by simp only [evC]; rw [ht]; exact h1, h2⟩
    · exact h.elim
  | block id a ih =>
    intro env H Q h
    obtain ⟨n, ex, e, H1, h1, h2⟩ := ih (show wC K.P K.pol (CallR K) (LoopR K) a env H _ from h)
    cases ex with
    | nrm => exact ⟨n, _, e, H1, by simp only [evC]; rw [h1], h2⟩
    | ret => exact ⟨n, _, e, H1, by simp only [evC]; rw [h1], h2⟩
    | exit j =>
      simp only at h2
      by_cases hj : j = id
      · rw [if_pos hj] at h2
        exact ⟨n, _, e, H1, by simp only [evC]; rw [h1]; simp only; rw [if_pos hj], h2⟩
      · rw [if_neg hj] at h2
        exact ⟨n, _, e, H1, by simp only [evC]; rw [h1]; simp only; rw [if_neg hj], h2⟩
  | scope a ih => intro env H Q h; exact ih h
  | loop a ih =>
    intro env H Q h
    obtain ⟨n, ex, e, H1, h1, h2⟩ := (show LoopR K a env H Q from h)
    cases n with
    | zero => simp [again] at h1
    | succ n => exact ⟨n, ex, e, H1, h1, h2⟩
  | region id ops draw =>
    intro env H Q h
    cases draw with
    | false =>
      have h0 : wOps K.P K.pol (CallR K) ops ops.toList 0 env H (Q .nrm) := h
      have h1 := wOps_log (cl := CallR K) (fun f a H Q Q' hq (hh : CallR K f a H Q) => hh.mono hq) [] h0
      obtain ⟨n, e, H1, lg, h1, h2⟩ := wOpsL_sound h1
      exact ⟨n, _, e, H1, by simp only [evC]; rw [h1]; simp, h2⟩
    | true =>
      obtain ⟨n, e, H1, lg, h1, h2⟩ := wOpsL_sound (show wOpsL K.P K.pol (CallR K) ops ops.toList 0 env H [] (fun env H lg => logOk ops lg = true ∧ Q .nrm env H) from h)
      exact ⟨n, _, e, H1, by simp only [evC]; rw [h1]; simp [h2.1], h2.2⟩

/-- A round of a loop, and the rest. -/
theorem LoopR.step {c : Code} {env : List V} {H : Heap} {Q : KQ}
    (h : wC K.P K.pol (CallR K) (LoopR K) c env H fun ex e h => match ex with | .nrm => LoopR K c e h Q | .exit i => Q (.exit i) e h | .ret => Q .ret e h) : LoopR K c env H Q := by
  obtain ⟨n, ex, e, H1, h1, h2⟩ := wC_sound h
  cases ex with
  | nrm =>
    obtain ⟨n', ex', e', H', h3, h4⟩ := (show LoopR K c e H1 Q from h2)
    refine ⟨max n n' + 1, ex', e', H', ?_, h4⟩
    show evC K.P (run K (max n n')) K.pol (again K (max n n')) (.loop c) env H = _
    simp only [evC]
    rw [evC_mono (run_mono K (Nat.le_max_left n n')) (again_mono K (Nat.le_max_left n n')) h1]
    exact again_mono K (Nat.le_max_right n n') _ _ _ _ h3
  | exit i =>
    refine ⟨n + 1, _, e, H1, ?_, h2⟩
    show evC K.P (run K n) K.pol (again K n) (.loop c) env H = _
    simp only [evC]; rw [h1]
  | ret =>
    refine ⟨n + 1, _, e, H1, ?_, h2⟩
    show evC K.P (run K n) K.pol (again K n) (.loop c) env H = _
    simp only [evC]; rw [h1]

/-- what a function comes to behind its code -/
def wRes (P : Program) (rs : List ResultVar) (Q : V → Heap → Prop) : KQ := fun ex env H =>
  match ex with
  | .exit _ => False
  | _ => match evResults P H env rs with
    | some [v] => Q v H
    | some vs => Q (.tup vs) H
    | none => False

theorem CallR.body {f : Nat} {fn : Func} {c : Code} {args : List V} {H : Heap} {Q : V → Heap → Prop} (hx : K.ext f = none) (hg : K.good.contains f = true) (hf : K.P.funcs[f]? = some fn) (hb : fn.body = some c)
    (hl : args.length ≤ fn.ntmps) (h : wC K.P K.pol (CallR K) (LoopR K) c (args ++ List.replicate (fn.ntmps - args.length) .und) H (wRes K.P fn.results.toList Q)) : CallR K f args H Q := by
  obtain ⟨n, ex, e, H1, h1, h2⟩ := wC_sound h
  have key : ∀ r, (ex = .nrm ∨ ex = .ret) → (match evResults K.P H1 e fn.results.toList with | some [v] => some (v, H1) | some vs => some (.tup vs, H1) | none => none) = some (r, H1) → run K (n + 1) f args H = some (r, H1) := by
    intro r hex hr
    show evFun K (run K n) (again K n) f args H = _
    unfold evFun
    rw [if_neg (by simp [hx])]
    unfold evBody
    rw [if_pos hg, hf]
    simp only [hb]
    rw [if_pos hl, h1]
    rcases hex with rfl | rfl <;> exact hr
  unfold wRes at h2
  cases ex with
  | exit i => exact h2.elim
  | _ =>
    simp only at h2
    split at h2
    · rename_i v hv; exact ⟨n + 1, v, H1, key v (by simp) (by rw [hv]), h2⟩
    · rename_i vs hne hv
      refine ⟨n + 1, .tup vs, H1, key _ (by simp) ?_, h2⟩
      rw [hv]
      split
      · rename_i v e; cases e; exact absurd rfl (hne _)
      · rename_i e; cases e; rfl
      · rename_i e; cases e
    · exact h2.elim
end Go.Proofs.Ytieapebabncliaa.Iv

namespace Go.Proofs.Ytieapebabncliaa.Iv
open Go

/-! ### words of the printed programs -/
def cAt : List Nat → Code → Code
  | [], c => c
  | 0 :: p, .seq a _ => cAt p a
  | _ :: p, .seq _ b => cAt p b
  | 0 :: p, .cond _ a _ => cAt p a
  | _ :: p, .cond _ _ b => cAt p b
  | _ :: p, .block _ a => cAt p a
  | _ :: p, .scope a => cAt p a
  | _ :: p, .loop a => cAt p a
  | 0 :: p, .rangeFunc _ _ a _ => cAt p a
  | _ :: p, .rangeFunc _ _ _ b => cAt p b
  | _ :: _, c => c
def bodyOf (f : Func) : Code := match f.body with | some c => c | none => .skip
def opsOf : Code → Array Oper
  | .region _ ops _ => ops
  | _ => #[]

def stepW (o : Option Out) (H : Heap) (Q : V → Heap → Prop) : Prop := outW o fun o => Q o.v (H.sets o.ups)
def stepL (o : Option Out) (H : Heap) (lg : Log) (k : Nat) (Q : V → Heap → Log → Prop) : Prop := outW o fun o => Q o.v (H.sets o.ups) ((k, o.rd, o.ups.map (·.1)) :: lg)
section
variable (pol : Nat → Pol) (cl : CallW)
def callW (H : Heap) (d f : Nat) (args : List V) (Q : V → Heap → Prop) : Prop := wCall pol cl H d f args fun o => Q o.v (H.sets o.ups)
def callL (H : Heap) (lg : Log) (k d f : Nat) (args : List V) (Q : V → Heap → Log → Prop) : Prop := wCall pol cl H d f args fun o => Q o.v (H.sets o.ups) ((k, o.rd, o.ups.map (·.1)) :: lg)
def wCallV (H : Heap) (d : Nat) (f : V) (args : List V) (Q : Out → Prop) : Prop :=
  match f with
  | .fn f cap => if f < 1048576 then wCall pol cl H d f (args ++ cap) Q else if args = [] then wCall pol cl H d (f % 1048576) cap Q else False
  | _ => False
end
def wantG (g : V) (b : Bool) : Option Bool := match g with | .bool c => some (c == b) | .tup [] => some false | _ => none
def guardO (g : V) (b : Bool) (run : (Out → Prop) → Prop) (Q : Out → Prop) : Prop :=
  gate (wantG g b) run Q
def guardW (g : V) (b : Bool) (H : Heap) (run : (Out → Prop) → Prop) (Q : V → Heap → Prop) : Prop := guardO g b run fun o => Q o.v (H.sets o.ups)
def guardL (g : V) (b : Bool) (H : Heap) (lg : Log) (k : Nat) (run : (Out → Prop) → Prop) (Q : V → Heap → Log → Prop) : Prop := guardO g b run fun o => Q o.v (H.sets o.ups) ((k, o.rd, o.ups.map (·.1)) :: lg)
def condW (c : V) (a b : Prop) : Prop :=
  match c with
  | .bool true => a
  | .bool false => b
  | _ => False
def pickO (c a b : V) : Option Out := match c with | .bool t => pureO (if t then a else b) | _ => none
def allocO (P : Program) (H : Heap) (d e : Nat) : Option Out := match zOf P e with | some z => if arrInt P e = true then evBoxA H d z else evBox H d z | none => none
def boxT (P : Program) (H : Heap) (d t : Nat) (v : V) : Option Out := if arrInt P t = true then evBoxA H d v.cells else boxO H d v
def nilO (x : V) : Option Out := match x with
  | .ptr i g o => pureO (.ptr i g o)
  | .fptr cs l => pureO (.fptr cs l)
  | .fn f c => pureO (.fn f c)
  | _ => none
def extractO (x : V) (i : Nat) : Option Out := match x with | .tup vs => liftO vs[i]? | _ => none
section
variable (P : Program) (pol : Nat → Pol) (cl : CallW) (lp : LoopW)
def seqK (b : Code) (Q : KQ) : KQ := fun ex env H => match ex with
  | .nrm => wC P pol cl lp b env H Q
  | .exit i => Q (.exit i) env H
  | .ret => Q .ret env H
end
def blockK (id : Nat) (Q : KQ) : KQ := fun ex env H => match ex with
  | .exit j => if j = id then Q .nrm env H else Q (.exit j) env H
  | .nrm => Q .nrm env H
  | .ret => Q .ret env H
section
variable {P : Program} {pol : Nat → Pol} {cl : CallW} {lp : LoopW} {c a b : Code} {env : List V} {H : Heap} {Q : KQ}
theorem wC_seq (h : c = .seq a b) : wC P pol cl lp c env H Q = wC P pol cl lp a env H (seqK P pol cl lp b Q) := by subst h; rfl
theorem wC_cond {x : Operand} (h : c = .cond x a b) : wC P pol cl lp c env H Q = condW (evOperand env x) (wC P pol cl lp a env H Q) (wC P pol cl lp b env H Q) := by subst h; rfl
theorem wC_block {i : Nat} (h : c = .block i a) : wC P pol cl lp c env H Q = wC P pol cl lp a env H (blockK i Q) := by subst h; rfl
theorem wC_scope (h : c = .scope a) : wC P pol cl lp c env H Q = wC P pol cl lp a env H Q := by subst h; rfl
theorem wC_loop (h : c = .loop a) : wC P pol cl lp c env H Q = lp a env H Q := by subst h; rfl
theorem wC_range {g : Operand} {ps : Array Tmp} (h : c = .rangeFunc g ps a b) (hf : (flatC a && flatC b) = true) {k : Nat} {cap : List V} {items : List (List V)} (hv : evOperand env g = .fn k cap) (hs : seqOf P pol k cap = some items) :
    wC P pol cl lp c env H Q = wItems env (twoW ps.toList env (wC P pol cl lp a) (wC P pol cl lp b)) items H Q := by
  subst h
  simp only [wC, hv, hs, hf, if_true]
theorem wC_ret (h : c = .ret) : wC P pol cl lp c env H Q = Q .ret env H := by subst h; rfl
theorem wC_skip (h : c = .skip) : wC P pol cl lp c env H Q = Q .nrm env H := by subst h; rfl
theorem wC_exit {i : Nat} (h : c = .exit i) : wC P pol cl lp c env H Q = Q (.exit i) env H := by subst h; rfl
theorem wC_reg {i : Nat} {ops : Array Oper} {l : List Oper} (h : c = .region i ops false) (hl : ops.toList = l) : wC P pol cl lp c env H Q = wOps P pol cl ops l 0 env H (Q .nrm) := by subst h; subst hl; rfl
theorem wC_regL {i : Nat} {ops : Array Oper} {l : List Oper} (h : c = .region i ops true) (hl : ops.toList = l) : wC P pol cl lp c env H Q = wOpsL P pol cl ops l 0 env H [] (fun env H lg => logOk ops lg = true ∧ Q .nrm env H) := by subst h; subst hl; rfl
theorem wOps_app {ops : Array Oper} (b : List Oper) : ∀ (a : List Oper) (k : Nat) (env : List V) (H : Heap) (Q : List V → Heap → Prop), wOps P pol cl ops (a ++ b) k env H Q = wOps P pol cl ops a k env H fun env H => wOps P pol cl ops b (k + a.length) env H Q
  | [], _, _, _, _ => rfl
  | o :: a, k, env, H, Q => by
    simp only [List.cons_append, wOps, List.length_cons]
    congr 1; funext out; congr 1; funext env
    rw [wOps_app b a, Nat.add_assoc, Nat.add_comm 1]
theorem wOpsL_app {ops : Array Oper} (b : List Oper) : ∀ (a : List Oper) (k : Nat) (env : List V) (H : Heap) (lg : Log) (Q : List V → Heap → Log → Prop), wOpsL P pol cl ops (a ++ b) k env H lg Q = wOpsL P pol cl ops a k env H lg fun env H lg => wOpsL P pol cl ops b (k + a.length) env H lg Q
  | [], _, _, _, _, _ => rfl
  | o :: a, k, env, H, lg, Q => by
    simp only [List.cons_append, wOpsL, List.length_cons]
    congr 1; funext out; congr 1; funext env
    rw [wOpsL_app b a, Nat.add_assoc, Nat.add_comm 1]
theorem wOps_cut {ops : Array Oper} {l a b : List Oper} {k n : Nat} {Q : List V → Heap → Prop} (h : l = a ++ b) (hn : k + a.length = n) : wOps P pol cl ops l k env H Q = wOps P pol cl ops a k env H fun env H => wOps P pol cl ops b n env H Q := by subst h; subst hn; exact wOps_app b a k env H Q
theorem wOpsL_cut {ops : Array Oper} {l a b : List Oper} {k n : Nat} {lg : Log} {Q : List V → Heap → Log → Prop} (h : l = a ++ b) (hn : k + a.length = n) : wOpsL P pol cl ops l k env H lg Q = wOpsL P pol cl ops a k env H lg fun env H lg => wOpsL P pol cl ops b n env H lg Q := by subst h; subst hn; exact wOpsL_app b a k env H lg Q
end
end Go.Proofs.Ytieapebabncliaa.Iv

namespace Go.Proofs.Ytieapebabncliaa.Iv
open Go
/-! ### operations without the table of types; steps -/
def lenS (x : V) : Option Out :=
  match x with
  | .sl _ _ _ n _ _ => pureO (.int .i64 n)
  | .list xs _ => pureO (.int .i64 xs.length)
  | .nils => pureO (.int .i64 0)
  | .emp => pureO (.int .i64 0)
  | _ => none
def ldR (sz : Nat) (ag : Bool) (H : Heap) (a : V) : Option Out :=
  match a with
  | .ptr i g o =>
    match live H i g with
    | some b => match cut b.cells o sz with
      | some cs => match mkv ag cs with
        | some v => some ⟨v, [], [i]⟩
        | none => none
      | none => none
    | none => none
  | .fptr cs _ => match cut cs 0 sz with
    | some cs => match mkv ag cs with
      | some v => pureO v
      | none => none
    | none => none
  | _ => none
def stR (sz : Nat) (H : Heap) (a v : V) : Option Out :=
  match a with
  | .ptr i g o =>
    match live H i g with
    | some b =>
      if b.frz = false ∧ v.cells.length = sz ∧ o + sz ≤ b.cells.length ∧ v.cells.all (fits b.flat) = true then
        some ⟨.und, [(i, { b with cells := splice b.cells o v.cells })], [i]⟩
      else none
    | none => none
  | _ => none
def faR (off : Nat) (x : V) : Option Out :=
  match x with
  | .ptr b g o => pureO (.ptr b g (o + off))
  | .fptr cs l => if off ≤ cs.length then pureO (.fptr (cs.drop off) l) else none
  | _ => none
def iaR (sz : Nat) (x ix : V) : Option Out :=
  match ix with
  | .int _ i =>
    if 0 ≤ i then
      match x with
      | .sl b g o n s2 _ => if s2 = sz ∧ i.toNat < n then pureO (.ptr b g (o + i.toNat * sz)) else none
      | .list xs l => match xs[i.toNat]? with
        | some cs => if cs.length = sz ∧ 0 < sz then pureO (.fptr cs l) else none
        | none => none
      | _ => none
    else none
  | _ => none

section
variable {o : Option Out} {H : Heap} {Q : V → Heap → Prop}
theorem mk (v : V) (us : List (Id × Blk)) (rd : List Id) (h : o = some ⟨v, us, rd⟩) (q : Q v (H.sets us)) : stepW o H Q := by subst h; exact q
theorem mk0 (v : V) (h : o = pureO v) (q : Q v H) : stepW o H Q := by subst h; exact q
theorem gy0 (v : V) (h : o = pureO v) (q : Q v H) {b : Bool} : guardW (.bool b) b H (outW o) Q := by subst h; cases b <;> exact q
theorem gy (v : V) (us : List (Id × Blk)) (rd : List Id) (h : o = some ⟨v, us, rd⟩) (q : Q v (H.sets us)) {b : Bool} : guardW (.bool b) b H (outW o) Q := by subst h; cases b <;> exact q
theorem gp {b : Bool} {o : Out} (q : Q o.v (H.sets o.ups)) : guardW (.bool b) b H (fun q => q o) Q := by cases b <;> exact q
theorem gnt {r} (q : Q (.tup []) H) : guardW (.bool true) false H r Q := q
theorem gnf {r} (q : Q (.tup []) H) : guardW (.bool false) true H r Q := q
/-- its guard was not done itself -/
theorem gnu {r} {b : Bool} (q : Q (.tup []) H) : guardW (.tup []) b H r Q := q
theorem condT {a b : Prop} (h : a) : condW (.bool true) a b := h
theorem condF {a b : Prop} (h : b) : condW (.bool false) a b := h
end
theorem bin_lss {P : Program} {t : Nat} {k : IntKind} {a b : Int} : liftO (evBin P t .lss (.int k a) (.int k b)) = pureO (.bool (decide (a < b))) := by simp [evBin, evInt, liftO]
theorem bin_leq {P : Program} {t : Nat} {k : IntKind} {a b : Int} : liftO (evBin P t .leq (.int k a) (.int k b)) = pureO (.bool (decide (a ≤ b))) := by simp [evBin, evInt, liftO]
theorem bin_gtr {P : Program} {t : Nat} {k : IntKind} {a b : Int} : liftO (evBin P t .gtr (.int k a) (.int k b)) = pureO (.bool (decide (a > b))) := by simp [evBin, evInt, liftO]
theorem bin_geq {P : Program} {t : Nat} {k : IntKind} {a b : Int} : liftO (evBin P t .geq (.int k a) (.int k b)) = pureO (.bool (decide (a ≥ b))) := by simp [evBin, evInt, liftO]
theorem bin_eql {P : Program} {t : Nat} {k : IntKind} {a b : Int} : liftO (evBin P t .eql (.int k a) (.int k b)) = pureO (.bool (a == b)) := by simp [evBin, evInt, liftO]
theorem bin_neq {P : Program} {t : Nat} {k : IntKind} {a b : Int} : liftO (evBin P t .neq (.int k a) (.int k b)) = pureO (.bool (a != b)) := by simp [evBin, evInt, liftO]
theorem i64_wrap {z : Int} (h1 : -9223372036854775808 ≤ z) (h2 : z ≤ 9223372036854775807) : IntKind.i64.wrap z = z := by
  have e : IntKind.i64.wrap z = (if z % 18446744073709551616 ≥ 9223372036854775808 then z % 18446744073709551616 - 18446744073709551616 else z % 18446744073709551616) := by
    have e1 : (2 : Int) ^ 64 = 18446744073709551616 := by decide
    have e2 : (2 : Int) ^ (64 - 1) = 9223372036854775808 := by decide
    simp only [IntKind.wrap, IntKind.bits, IntKind.signed, Bool.true_and, e1, e2, decide_eq_true_eq]
  rw [e]
  split <;> omega
theorem bin_add {P : Program} {t : Nat} {a b : Int} (h1 : -9223372036854775808 ≤ a + b) (h2 : a + b ≤ 9223372036854775807) : liftO (evBin P t .add (.int .i64 a) (.int .i64 b)) = pureO (.int .i64 (a + b)) := by simp [evBin, evInt, liftO, i64_wrap h1 h2]
theorem bin_sub {P : Program} {t : Nat} {a b : Int} (h1 : -9223372036854775808 ≤ a - b) (h2 : a - b ≤ 9223372036854775807) : liftO (evBin P t .sub (.int .i64 a) (.int .i64 b)) = pureO (.int .i64 (a - b)) := by simp [evBin, evInt, liftO, i64_wrap h1 h2]
theorem ia_list {sz i : Nat} {k : IntKind} {xs : List (List V)} {l : Bool} {cs : List V} (h : xs[i]? = some cs) (hl : cs.length = sz) (hp : 0 < sz) : iaR sz (.list xs l) (.int k (i : Int)) = pureO (.fptr cs l) := by
  simp [iaR, h, hl, hp]

/-! ### what holds behind a piece of code, as it is run -/
def wE (K : Cfg) (c : Code) (env : List V) (H : Heap) (Q : KQ) : Prop := ∃ n ex env' H', evC K.P (run K n) K.pol (again K n) c env H = some (ex, env', H') ∧ Q ex env' H'
theorem CallR.of_run {K : Cfg} {n f : Nat} {args : List V} {H : Heap} {Q : V → Heap → Prop} (r : V) (h : (run K n f args H).map (·.1) = some r) (hq : ∀ H', run K n f args H = some (r, H') → Q r H') : CallR K f args H Q := by
  cases hr : run K n f args H with
  | none => rw [hr] at h; cases h
  | some p =>
    obtain ⟨r', H'⟩ := p
    rw [hr] at h
    have e : r' = r := by simpa using h
    subst e
    exact ⟨n, r', H', hr, hq H' hr⟩
end Go.Proofs.Ytieapebabncliaa.Iv

namespace Go.Proofs.Ytieapebabncliaa.Iv
open Go
theorem wCall_ev {K : Cfg} {H : Heap} {d f n : Nat} {args : List V} {out : Out} {Q : Out → Prop} (h : evCall (run K n) K.pol H d f args = some out) (q : Q out) : wCall K.pol (CallR K) H d f args Q := by
  rw [evCall_eq] at h
  unfold wCall
  cases hp : callPre K.pol H f args with
  | none => rw [hp] at h; cases h
  | some p =>
    rw [hp] at h
    simp only at h ⊢
    cases hr : run K n f p.as p.Hin with
    | none => rw [hr] at h; cases h
    | some x =>
      obtain ⟨r, H'⟩ := x
      rw [hr] at h
      simp only at h
      refine ⟨n, r, H', hr, ?_⟩
      show outW (callPost K.pol H d f p r H') Q
      rw [h]
      exact q
theorem callW_ev {K : Cfg} {H : Heap} {d f n : Nat} {args : List V} {out : Out} {Q : V → Heap → Prop} (h : evCall (run K n) K.pol H d f args = some out) (q : Q out.v (H.sets out.ups)) : callW K.pol (CallR K) H d f args Q := wCall_ev h q
theorem gyc {K : Cfg} {H : Heap} {d f n : Nat} {args : List V} {out : Out} {Q : V → Heap → Prop} {b : Bool} (h : evCall (run K n) K.pol H d f args = some out) (q : Q out.v (H.sets out.ups)) : guardW (.bool b) b H (wCall K.pol (CallR K) H d f args) Q := by
  have e : guardW (.bool b) b H (wCall K.pol (CallR K) H d f args) Q = wCall K.pol (CallR K) H d f args (fun o => Q o.v (H.sets o.ups)) := by cases b <;> rfl
  rw [e]; exact wCall_ev h q
theorem CallR.body' {K : Cfg} {f : Nat} {fn : Func} {c : Code} {args : List V} {H : Heap} {Q : V → Heap → Prop} {env : List V} {rs : List ResultVar} (hx : K.ext f = none) (hg : K.good.contains f = true) (hf : K.P.funcs[f]? = some fn) (hb : fn.body = some c)
    (hl : Nat.ble args.length fn.ntmps = true) (he : args ++ List.replicate (fn.ntmps - args.length) .und = env) (hr : fn.results.toList = rs) (h : wC K.P K.pol (CallR K) (LoopR K) c env H (wRes K.P rs Q)) : CallR K f args H Q := by
  subst he; subst hr
  exact CallR.body hx hg hf hb (Nat.le_of_ble_eq_true hl) h
end Go.Proofs.Ytieapebabncliaa.Iv

namespace Go.Proofs.Ytieapebabncliaa.Iv
open Go
/-- an environment, by its places -/
def E (n : Nat) (g : Nat → V) : List V := (List.range n).map g
def u (g : Nat → V) (i : Nat) (v : V) : Nat → V := fun j => cond (Nat.beq j i) v (g j)
theorem u_self {g : Nat → V} {i : Nat} {v : V} (h : g i = v) : u g i v = g := by
  funext j
  unfold u
  cases e : Nat.beq j i with
  | false => rfl
  | true => rw [Nat.eq_of_beq_eq_true e]; exact h.symm
end Go.Proofs.Ytieapebabncliaa.Iv
