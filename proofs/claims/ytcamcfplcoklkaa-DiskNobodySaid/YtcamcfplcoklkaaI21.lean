import Derived.Test.YtcamcfplcoklkaaI20
namespace Go.Proofs.Ytcamcfplcoklkaa.Iv
open Go
set_option linter.unusedVariables false
set_option linter.unusedSimpArgs false
section
variable {P : Program} {K B : Nat → Prop} {w : World} {S : Nat → Prop} {m : Map} {H : Heap}

theorem renIf_eq {acc : List Id} (f : Id → Nat → Option (Id × Nat)) {as : List V} (h : acc = [] → refsL as = []) : renIf acc f as = as.map (ren f) := by
  cases acc with
  | nil => simp only [renIf]; rw [← renL_map, renL_norefs _ _ (h rfl)]
  | cons a r => simp only [renIf]; exact renL_map f as
theorem renIfV_eq {acc : List Id} (f : Id → Nat → Option (Id × Nat)) {r : V} (h : acc = [] → refs r = []) : renIfV acc f r = ren f r := by
  cases acc with
  | nil => simp only [renIfV]; rw [ren_norefs _ _ (h rfl)]
  | cons a q => rfl

theorem call_sound {call : Nat → List V → Heap → Option (V × Heap)} {pol : Nat → Pol} (hrun : RunOK P call) (h : SR w S K m H) (hB : ∀ rb, B rb → K rb) {d f : Nat} {args : List V} {out : Out}
    (he : evCall call pol H d f args = some out) {vs : List Value} (hx : All2 (VR w S B m) args vs) :
    Enters P f ∧ Calls P f vs.toArray w fun e w' => ∃ x S' m', e = .returned x ∧ Step K w S m w' S' m' ∧ SR w' S' K m' (H.sets out.ups) ∧ VR w' S' B m' out.v x := by
  unfold evCall at he
  split at he
  · rename_i as fz rd hargs
    obtain ⟨S1, st1, sr1, hF1, hv1⟩ := argsIn_sound (FrzOf.refl H) h hargs hx
    have hfz := argsIn_frz hargs
    simp only at sr1 hF1 hv1 hfz
    simp only at he
    split at he
    · rename_i acc hcol
      obtain ⟨_, c2, c3, c4⟩ := collect_spec _ _ _ _ hcol
      have hnd := c2 List.nodup_nil
      have hex := c3 (fun i hi => by cases hi)
      split at he
      · cases he
      · rename_i hheld
        -- what is lent is not handed over
        have hnot : ∀ i ∈ acc, i ∈ rd → ∃ b, (H.sets fz) i = some b ∧ b.frz = true := by
          intro i hi hr
          refine sets_frz H fz hfz i ?_
          refine Classical.byContradiction fun hn => hheld ?_
          rw [List.any_eq_true]
          refine ⟨i, hi, ?_⟩
          simp only [Bool.and_eq_true, List.contains_iff_mem, hr, true_and, Bool.not_eq_true', List.any_eq_false, beq_iff_eq]
          exact fun x hx e => hn (e ▸ List.mem_map_of_mem hx)
        have hB0 : ∀ rb, Lend B m rd rb → KIn w m (H.sets fz) acc rb := by
          rintro rb (hb | ⟨i, hi, im, hm, rfl⟩)
          · exact ⟨sr1.kin rb (hB rb hb), fun ⟨k, hk, bk, km, e1, e2, e3, e4⟩ => sr1.own k bk km e1 e2 e3 (e4 ▸ hB rb hb)⟩
          · obtain ⟨b, hb, ok⟩ := sr1.of_map hm
            refine ⟨ok.lt, fun ⟨k, hk, bk, km, e1, e2, e3, e4⟩ => ?_⟩
            by_cases hki : k = i
            · subst hki
              obtain ⟨b', e5, e6⟩ := hnot k hk hi
              rw [e1] at e5; cases e5
              rw [e2] at e6; cases e6
            · exact sr1.inj k i bk km im e1 e2 e3 hm hki e4
        have sr0 := enter_sound sr1 hnd
        have hargs' : All2 (VR w S1 (Lend B m rd) (mapIn m acc)) (renIf acc (intoRen (H.sets fz) acc) as) vs := by
          rw [renIf_eq _ (fun e => ?_)]
          · exact hv1.map _ (fun c x r => r.ren (into_ok sr1))
          · subst e
            cases hr : refsL as with
            | nil => rfl
            | cons p r => have := c4 p (by rw [hr]; simp); cases this
        split at he
        · rename_i r H' hcall
          have hen := hrun.good _ _ _ _ hcall
          have hc := hrun.ok _ _ _ _ _ hcall w S1 _ _ _ vs sr0 hB0 hargs'
          refine ⟨hen, hc.mono ?_⟩
          rintro e w' ⟨x, S2, m2, rfl, st2, sr2, hv2⟩
          split at he
          · rename_i r' us hret
            obtain ⟨S3, st3, sr3, hv3⟩ := retIn_sound sr2 hret hv2
            have st23 := st2.trans st3
            split at he
            · rename_i acc' hcol2
              obtain ⟨_, d2, d3, d4⟩ := collect_spec _ _ _ _ hcol2
              have hnd' := d2 List.nodup_nil
              obtain ⟨a1, a2⟩ := argIds_spec (H'.sets us) acc.length (refs r')
              split at he
              · rename_i ups hups
                split at he
                · rename_i hfin
                  simp only [Bool.and_eq_true] at hfin
                  cases he
                  have hv3' : ∃ B0 : Nat → Prop, VR w' S3 B0 m2 r' x ∧ ((∀ rb, B0 rb → False) ∨ B0 = B) := by
                    rcases Bool.or_eq_true _ _ ▸ hfin.1 with q | q
                    · exact ⟨no, outKept_no q hv3, .inl (fun _ f => f)⟩
                    · have : rd = [] := by simpa using q
                      subst this
                      have e : Lend B m [] = B := by funext rb; simp [Lend]
                      rw [e] at hv3
                      exact ⟨B, hv3, .inr rfl⟩
                  obtain ⟨hren, stF, srF⟩ := back_sound sr1 hnd hex st23 sr3 hnd' (fun j b hj hb => d4 _ (a2 j b hj hb)) hfin.2 hups
                  refine ⟨x, S3, _, rfl, st1.trans stF, ?_, ?_⟩
                  · simp only [sets_app]; exact srF
                  · simp only
                    rw [renIfV_eq _ (fun e => ?_)]
                    · obtain ⟨B0, q1, q2⟩ := hv3'
                      rcases q2 with q2 | q2
                      · have : B0 = no := by funext rb; exact propext ⟨fun h => q2 rb h, fun h => h.elim⟩
                        subst this
                        exact (q1.ren hren).lend
                      · subst q2; exact q1.ren hren
                    · subst e
                      cases hr : refs r' with
                      | nil => rfl
                      | cons p q => have := d4 p (a1 p (by rw [hr]; simp)); cases this
                · cases he
              · cases he
            · cases he
          · cases he
        · cases he
    · cases he
  · cases he

/-! ### one operation -/
/-- The post of one operation. -/
def Goes (P : Program) (K B : Nat → Prop) (w : World) (S : Nat → Prop) (m : Map) (H : Heap) (out : Out) (o : Oper) (a : Act) : Prop :=
  ∀ (next : Act → World → Prop) (Q : Exit → Act → World → Prop), (∀ x w' S' m', Step K w S m w' S' m' → SR w' S' K m' (H.sets out.ups) → VR w' S' B m' out.v x → next (a.put o.dst x) w') → o.wp P a w next Q

theorem Goes.of {out : Out} {o : Oper} {a : Act} {s : Sem Value} (hs : Sound P K B w S m H out s) (ho : execOp a.eval o = (do pure (.value (← s)))) : Goes P K B w S m H out o a := by
  intro next Q hn
  obtain ⟨x, w', S', m', hr, st, sr, hv⟩ := hs
  unfold Oper.wp
  rw [ho]
  simp only [Sem.run_bind, hr, Result.andThen_ok, Sem.run_pure, Oper.upon]
  exact hn x w' S' m' st sr hv

theorem parts_R {ρ : Operand → V} {ρ' : Operand → Value} (hρ : ∀ x, VR w S B m (ρ x) (ρ' x)) (ps : Array (Nat × Operand)) :
    PartsR (VR w S B m) (ps.toList.map fun p => (p.1, ρ p.2)) (ps.map fun (i, x) => (i, ρ' x)).toList := by
  refine ⟨by simp, fun j p q h1 h2 => ?_⟩
  simp only [Array.toList_map, List.getElem?_map] at h1 h2
  cases e : ps.toList[j]? with
  | none => rw [e] at h1; cases h1
  | some p0 =>
    rw [e] at h1 h2
    simp only [Option.map_some, Option.some.injEq] at h1 h2
    subst h1 h2
    exact ⟨rfl, hρ _⟩
theorem args_R {ρ : Operand → V} {ρ' : Operand → Value} (hρ : ∀ x, VR w S B m (ρ x) (ρ' x)) : ∀ (l : List Operand), All2 (VR w S B m) (l.map ρ) (l.map ρ')
  | [] => trivial
  | x :: r => ⟨hρ x, args_R hρ r⟩
theorem opt_R {ρ : Operand → V} {ρ' : Operand → Value} (hρ : ∀ x, VR w S B m (ρ x) (ρ' x)) (o : Option Operand) : OptR (VR w S B m) (o.map ρ) (o.map ρ') := by
  cases o with
  | none => trivial
  | some x => exact hρ x
end
end Go.Proofs.Ytcamcfplcoklkaa.Iv
