import Derived.Test.YtcamcfplcoklkaaI23
namespace Go.Proofs.Ytcamcfplcoklkaa.Iv
open Go
set_option linter.unusedVariables false
set_option linter.unusedSimpArgs false
section
variable {P : Program} {K B : Nat → Prop} {w : World} {S : Nat → Prop} {m : Map} {H : Heap}

theorem result_sound {env : List V} {a : Act} (h : Fit K B env a w S m H) {r : ResultVar} {v : V} (he : evResult P H env r = some v) :
    ∃ x, ((match r with | .tmp t => pure (a.tmps.getD t undef) | .cell ad t => do loadVar t (← asAddr (a.tmps.getD ad undef))) : Sem Value).run P w = .ok x w ∧ VR w S B m v x := by
  cases r with
  | tmp t => simp only [evResult, Option.some.injEq] at he; subst he; exact ⟨_, rfl, h.tr t⟩
  | cell ad t =>
    simp only [evResult] at he
    cases hl : evLoad P H t (env.getD ad .und) with
    | none => rw [hl] at he; cases he
    | some out =>
      rw [hl] at he
      simp only [Option.map_some, Option.some.injEq] at he
      subst he
      obtain ⟨_, y, hr, hy⟩ := load_val (P := P) h.sr hl (h.tr ad)
      refine ⟨y, ?_, hy⟩
      have hp : ∃ q, a.tmps.getD ad undef = .pointer (some q) := by
        have hx := h.tr ad
        unfold evLoad at hl
        split at hl
        · rename_i e; rw [e] at hx; exact hx.ptr_shape
        · rename_i e; rw [e] at hx; obtain ⟨rb, o, vals, e1, _⟩ := hx.fptr_inv; exact ⟨_, e1⟩
        · cases hl
      obtain ⟨q, hq⟩ := hp
      rw [hq] at hr
      simp only [hq]
      simpa [Instr.loadAt, Instr.sureAddr, asAddr] using hr

theorem results_list {env : List V} {a : Act} (h : Fit K B env a w S m H) : ∀ {rs : List ResultVar} {vs : List V}, evResults P H env rs = some vs →
    ∃ xs : List Value, (rs.mapM (fun r => ((match r with | .tmp t => pure (a.tmps.getD t undef) | .cell ad t => do loadVar t (← asAddr (a.tmps.getD ad undef))) : Sem Value))).run P w = .ok xs w ∧ All2 (VR w S B m) vs xs
  | [], vs, he => by simp [evResults] at he; subst he; exact ⟨[], by simp, trivial⟩
  | r :: rs, vs, he => by
    simp only [evResults] at he
    split at he
    · rename_i v vs' h1 h2
      cases he
      obtain ⟨x, hr, hx⟩ := result_sound h h1
      obtain ⟨xs, hrs, hxs⟩ := results_list h h2
      exact ⟨x :: xs, by simp only [List.mapM_cons, Sem.run_bind, hr, Result.andThen_ok, hrs, Sem.run_pure], ⟨hx, hxs⟩⟩
    · cases he

/-- the code of a function is one whose drawn regions are known to be sound -/
def GoodC (C : Cfg) (c : Code) : Prop := ∀ call, RunOK C.P call → ∀ p ∈ drawn c, DrawOK C.P call C.pol p.1 p.2
structure CfgOK (C : Cfg) : Prop where
  seq : SeqOK C.P C.pol
  name : ∀ f ∈ C.good, ∀ fn, C.P.funcs[f]? = some fn → (fn.name == "runtime.NumGoroutine") = false
  ext : RunOK C.P C.extern
  code : ∀ f ∈ C.good, ∀ fn c, C.P.funcs[f]? = some fn → fn.body = some c → GoodC C c

theorem body_sound {C : Cfg} (hC : CfgOK C) {call : Nat → List V → Heap → Option (V × Heap)} (hrun : RunOK C.P call) {again : Code → List V → Heap → Res}
    (hag : ∀ c' env H ex env' H', GoodC C c' → again (.loop c') env H = some (ex, env', H') → LoopOK C.P c' env H ex env' H') :
    RunOK C.P (evBody C call again) := by
  refine ⟨fun f args H r he => ?_, fun f args H r H' he w S K B m vs h hB hx => ?_⟩
  · unfold evBody at he
    split at he
    · rename_i hg
      split at he
      · rename_i fn hf
        split at he
        · rename_i c hc
          exact ⟨fn, hf, by rw [hc]; rfl, hC.name f (by simpa using hg) fn hf⟩
        · cases he
      · cases he
    · cases he
  · unfold evBody at he
    split at he
    · rename_i hg
      split at he
      · rename_i fn hf
        split at he
        · rename_i c hc
          split at he
          · rename_i hlen
            have hgc := hC.code f (by simpa using hg) fn c hf hc
            have hxl := hx.len
            have fit0 : Fit K B (args ++ List.replicate (fn.ntmps - args.length) .und) { tmps := vs.toArray ++ Array.replicate (fn.ntmps - vs.toArray.size) undef, defers := [] } w S m H := by
              refine ⟨h, by simp [hxl], fun t => ?_⟩
              rcases Nat.lt_or_ge t args.length with q | q
              · have h1 : (args ++ List.replicate (fn.ntmps - args.length) V.und).getD t .und = args[t] := by simp [List.getD, List.getElem?_append_left q, q]
                obtain ⟨x, e1, e2⟩ := hx.get (List.getElem?_eq_getElem q)
                have h2 : (vs.toArray ++ Array.replicate (fn.ntmps - vs.toArray.size) undef).getD t undef = x := by
                  rw [Array.getD_eq_getD_getElem?, Array.getElem?_append_left (by simpa [hxl] using q)]
                  simp [e1]
                rw [h1]; simp only; rw [h2]; exact e2
              · have h1 : (args ++ List.replicate (fn.ntmps - args.length) V.und).getD t .und = .und := by
                  simp only [List.getD, List.getElem?_append_right q, List.getElem?_replicate]
                  split <;> rfl
                rw [h1]; exact .und _
            split at he
            · cases he
            · rename_i ex env1 H1 hnex hev
              have CO := (evC_sound hrun hC.seq c _ _ (hgc call hrun) (fun c' env H ex env' H' hp hh => hag c' env H ex env' H' (fun call hr p hq => hgc call hr p (hp p hq)) hh) hev).1
              have hres : ∃ vs1, evResults C.P H1 env1 fn.results.toList = some vs1 ∧ H' = H1 ∧ r = (match vs1 with | [v] => v | vs => .tup vs) := by
                split at he
                · rename_i v hv; cases he; exact ⟨_, hv, rfl, rfl⟩
                · rename_i vs1 hne hv
                  cases he
                  refine ⟨_, hv, rfl, ?_⟩
                  split
                  · exact absurd rfl (hne _)
                  · rfl
                · cases he
              obtain ⟨vs1, hv1, rfl, hr⟩ := hres
              refine (callsIn_fw (r := none) (n := 0)).1 (callsIn_of_wp_marks hf hc trivial (CO K B hB none 0 (.inl rfl) _ w S m fit0 _ (fun e a' w' S' m' hex st fit' hmk => ?_)))
              obtain ⟨ms, hd, hnd, hms⟩ := hmk
              simp only [List.append_nil] at hd
              have fin : LeavesInM (Fw none) 0 C.P fn a'.tmps (fun e w' => ∃ x S' m', e = .returned x ∧ Step K w S m w' S' m' ∧ SR w' S' K m' H' ∧ VR w' S' B m' r x) a'.defers .returning w' := by
                rw [hd]
                clear hd
                revert w'
                induction ms with
                | nil =>
                  intro w' st fit' hms
                  obtain ⟨xs, hxs, h2⟩ := results_list fit' hv1
                  have hval : ∃ x, (results fn a'.tmps).run C.P w' = .ok x w' ∧ VR w' S' B m' r x := by
                    have hmap : (results fn a'.tmps).run C.P w' = .ok (if h : xs.toArray.size = 1 then xs.toArray[0] else .tuple xs.toArray) w' := by
                      unfold results
                      rw [Array.mapM_eq_mapM_toList]
                      simp only [Sem.run_bind, Sem.run_map]
                      generalize hq : Sem.run C.P (List.mapM _ fn.results.toList) w' = rr
                      have hrr : rr = .ok xs w' := hq.symm.trans hxs
                      rw [hrr]
                      rfl
                    refine ⟨_, hmap, ?_⟩
                    rw [hr]
                    cases vs1 with
                    | nil =>
                      cases xs with
                      | nil => exact VR.tup_mk h2
                      | cons => exact h2.elim
                    | cons v vr =>
                      cases xs with
                      | nil => exact h2.elim
                      | cons x xr =>
                        cases vr with
                        | nil =>
                          cases xr with
                          | nil => exact h2.1
                          | cons => exact h2.2.elim
                        | cons v2 vr2 =>
                          cases xr with
                          | nil => exact h2.2.elim
                          | cons x2 xr2 =>
                            rw [dif_neg (by simp)]
                            exact VR.tup_mk h2
                  obtain ⟨x, hrx, hvx⟩ := hval
                  exact ⟨x, hrx, x, S', m', rfl, st, fit'.sr, hvx⟩
                | cons D ms ih =>
                  intro w' st fit' hms
                  obtain ⟨hD, hDd⟩ := hms D (by simp)
                  have hgr : w'.grownBy (w'.putObj D (.deferred none)) (some D) := grownBy_putObj' ..
                  have hrow : ∀ q, some D = some q → ∃ o : Obj, w'.heap[q]? = some o ∧ o.isCells = false := fun q e => by cases e; exact ⟨_, hDd, rfl⟩
                  have hnk : ¬ K D := fun q => by have := h.kin D q; omega
                  refine ⟨by simp, .inl ⟨D, _, rfl, run_takeDeferred hDd, ?_⟩⟩
                  refine ih (List.nodup_cons.1 hnd).2 _ (st.grown h hgr (fun q e => by cases e; exact hD)) ⟨fit'.sr.grown hgr hrow, fit'.len, fun t => VR.grown fit'.sr hB hgr (fun q e => ⟨hrow q e, by cases e; exact hnk⟩) (fit'.tr t)⟩ (fun D' hD' => ?_)
                  have hne : D' ≠ D := fun e => by subst e; exact (List.nodup_cons.1 hnd).1 hD'
                  exact ⟨(hms D' (by simp [hD'])).1, (World.putObj_heap_other hne).trans (hms D' (by simp [hD'])).2⟩
              cases ex with
              | exit i => exact absurd rfl (hnex i)
              | nrm => cases e <;> first | exact hex.elim | exact fin
              | ret => cases e <;> first | exact hex.elim | exact fin
            · cases he
          · cases he
        · cases he
      · cases he
    · cases he

theorem fun_sound {C : Cfg} (hC : CfgOK C) {call : Nat → List V → Heap → Option (V × Heap)} (hrun : RunOK C.P call) {again : Code → List V → Heap → Res}
    (hag : ∀ c' env H ex env' H', GoodC C c' → again (.loop c') env H = some (ex, env', H') → LoopOK C.P c' env H ex env' H') :
    RunOK C.P (evFun C call again) := by
  have hb := body_sound hC hrun hag
  refine ⟨fun f args H r he => ?_, fun f args H r H' he => ?_⟩ <;> unfold evFun at he <;> split at he
  · exact hC.ext.good f args H r he
  · exact hb.good f args H r he
  · exact hC.ext.ok f args H r H' he
  · exact hb.ok f args H r H' he

theorem run_sound {C : Cfg} (hC : CfgOK C) : ∀ n, RunOK C.P (run C n) ∧
    ∀ c' env H ex env' H', GoodC C c' → again C n (.loop c') env H = some (ex, env', H') → LoopOK C.P c' env H ex env' H'
  | 0 => ⟨⟨fun f args H r he => by simp [run] at he, fun f args H r H' he => by simp [run] at he⟩, fun c env H ex env' H' _ he => by simp [again] at he⟩
  | n + 1 => by
    obtain ⟨hr, ha⟩ := run_sound hC n
    refine ⟨?_, fun c env H ex env' H' hg he => ?_⟩
    · have : run C (n + 1) = evFun C (run C n) (again C n) := by funext f args H; rfl
      rw [this]
      exact fun_sound hC hr ha
    · have he' : evC C.P (run C n) C.pol (again C n) (.loop c) env H = some (ex, env', H') := he
      exact (evC_sound hr hC.seq (.loop c) env H (fun p hp => hg _ hr p (by simpa [drawn] using hp)) (fun c' env H ex env' H' hp hh => ha c' env H ex env' H' (fun call hcr p hq => hg call hcr p (by simpa [drawn] using hp p hq)) hh) he').2 c rfl
end
end Go.Proofs.Ytcamcfplcoklkaa.Iv
