import Derived.Test.YtcamcfplcoklkaaM6
import Derived.Still
namespace Go.Proofs.Ytcamcfplcoklkaa.Iv
open Go
set_option linter.unusedVariables false
set_option linter.unusedSimpArgs false
section
variable {P : Program} {K B : Nat → Prop} {w : World} {S : Nat → Prop} {m : Map} {H : Heap}

theorem result_sound {env : List V} {a : Act} (h : Fit K B env a w S m H) {r : ResultVar} {v : V} (he : evResult P H env r = some v) :
    ∃ x, ((match r with | .tmp t => pure (a.tmps.getD t undef) | .cell ad t => do loadVar t (← asAddr (a.tmps.getD ad undef))) : Sem Value).run P w = .ok x w ∧ VR w S B m v x := by
  cases r with
  | tmp t => simp only [evResult, Option.some.injEq] at he; subst he; exact ⟨_, rfl, h.tr t⟩
  | cell ad t =>
    simp only [evResult] at he
    cases hl : evLoad P H t (env.getD ad .und) with
    | none => rw [hl] at he; cases he
    | some out =>
      rw [hl] at he
      simp only [Option.map_some, Option.some.injEq] at he
      subst he
      obtain ⟨_, y, hr, hy⟩ := load_val (P := P) h.sr hl (h.tr ad)
      refine ⟨y, ?_, hy⟩
      have hp : ∃ q, a.tmps.getD ad undef = .pointer (some q) := by
        have hx := h.tr ad
        unfold evLoad at hl
        split at hl
        · rename_i e; rw [e] at hx; exact hx.ptr_shape
        · rename_i e; rw [e] at hx; obtain ⟨rb, o, vals, e1, _⟩ := hx.fptr_inv; exact ⟨_, e1⟩
        · cases hl
      obtain ⟨q, hq⟩ := hp
      rw [hq] at hr
      simp only [hq]
      simpa [Instr.loadAt, Instr.sureAddr, asAddr] using hr

theorem results_list {env : List V} {a : Act} (h : Fit K B env a w S m H) : ∀ {rs : List ResultVar} {vs : List V}, evResults P H env rs = some vs →
    ∃ xs : List Value, (rs.mapM (fun r => ((match r with | .tmp t => pure (a.tmps.getD t undef) | .cell ad t => do loadVar t (← asAddr (a.tmps.getD ad undef))) : Sem Value))).run P w = .ok xs w ∧ All2 (VR w S B m) vs xs
  | [], vs, he => by simp [evResults] at he; subst he; exact ⟨[], by simp, trivial⟩
  | r :: rs, vs, he => by
    simp only [evResults] at he
    split at he
    · rename_i v vs' h1 h2
      cases he
      obtain ⟨x, hr, hx⟩ := result_sound h h1
      obtain ⟨xs, hrs, hxs⟩ := results_list h h2
      exact ⟨x :: xs, by simp only [List.mapM_cons, Sem.run_bind, hr, Result.andThen_ok, hrs, Sem.run_pure], ⟨hx, hxs⟩⟩
    · cases he

/-- the code of a function is one whose drawn regions are known to be sound -/
def GoodC (C : Cfg) (c : Code) : Prop := ∀ call, RunOK C.P call → ∀ p ∈ drawn c, DrawOK C.P call C.pol p.1 p.2
structure CfgOK (C : Cfg) : Prop where
  seq : SeqOK C.P C.pol
  name : ∀ f ∈ C.good, ∀ fn, C.P.funcs[f]? = some fn → (fn.name == "runtime.NumGoroutine") = false
  ext : RunOK C.P C.extern
  code : ∀ f ∈ C.good, ∀ fn c, C.P.funcs[f]? = some fn → fn.body = some c → GoodC C c

theorem body_sound {C : Cfg} (hC : CfgOK C) {call : Nat → List V → Heap → Option (V × Heap)} (hrun : RunOK C.P call) {again : Code → List V → Heap → Res}
    (hag : ∀ c' env H ex env' H', GoodC C c' → again (.loop c') env H = some (ex, env', H') → LoopOK C.P c' env H ex env' H') :
    RunOK C.P (evBody C call again) := by
  refine ⟨fun f args H r he => ?_, fun f args H r H' he w S K B m vs h hB hx => ?_⟩
  · unfold evBody at he
    split at he
    · rename_i hg
      split at he
      · rename_i fn hf
        split at he
        · rename_i c hc
          exact ⟨fn, hf, by rw [hc]; rfl, hC.name f (by simpa using hg) fn hf⟩
        · cases he
      · cases he
    · cases he
  · unfold evBody at he
    split at he
    · rename_i hg
      split at he
      · rename_i fn hf
        split at he
        · rename_i c hc
          split at he
          · rename_i hlen
            have hgc := hC.code f (by simpa using hg) fn c hf hc
            have hxl := hx.len
            have fit0 : Fit K B (args ++ List.replicate (fn.ntmps - args.length) .und) { tmps := vs.toArray ++ Array.replicate (fn.ntmps - vs.toArray.size) undef, defers := [] } w S m H := by
              refine ⟨h, by simp [hxl], fun t => ?_⟩
              rcases Nat.lt_or_ge t args.length with q | q
              · have h1 : (args ++ List.replicate (fn.ntmps - args.length) V.und).getD t .und = args[t] := by simp [List.getD, List.getElem?_append_left q, q]
                obtain ⟨x, e1, e2⟩ := hx.get (List.getElem?_eq_getElem q)
                have h2 : (vs.toArray ++ Array.replicate (fn.ntmps - vs.toArray.size) undef).getD t undef = x := by
                  rw [Array.getD_eq_getD_getElem?, Array.getElem?_append_left (by simpa [hxl] using q)]
                  simp [e1]
                rw [h1]; simp only; rw [h2]; exact e2
              · have h1 : (args ++ List.replicate (fn.ntmps - args.length) V.und).getD t .und = .und := by
                  simp only [List.getD, List.getElem?_append_right q, List.getElem?_replicate]
                  split <;> rfl
                rw [h1]; exact .und _
            split at he
            · cases he
            · rename_i ex env1 H1 hnex hev
              have CO := (evC_sound hrun hC.seq c _ _ (hgc call hrun) (fun c' env H ex env' H' hp hh => hag c' env H ex env' H' (fun call hr p hq => hgc call hr p (hp p hq)) hh) hev).1
              have hres : ∃ vs1, evResults C.P H1 env1 fn.results.toList = some vs1 ∧ H' = H1 ∧ r = (match vs1 with | [v] => v | vs => .tup vs) := by
                split at he
                · rename_i v hv; cases he; exact ⟨_, hv, rfl, rfl⟩
                · rename_i vs1 hne hv
                  cases he
                  refine ⟨_, hv, rfl, ?_⟩
                  split
                  · exact absurd rfl (hne _)
                  · rfl
                · cases he
              obtain ⟨vs1, hv1, rfl, hr⟩ := hres
              refine (callsIn_fw (r := none) (n := 0)).1 (callsIn_of_wp_marks hf hc trivial (CO K B hB none 0 (.inl rfl) _ w S m fit0 _ (fun e a' w' S' m' hex st fit' hmk => ?_)))
              obtain ⟨ms, hd, hnd, hms⟩ := hmk
              simp only [List.append_nil] at hd
              have fin : LeavesInM (Fw none) 0 C.P fn a'.tmps (fun e w' => ∃ x S' m', e = .returned x ∧ Step K w S m w' S' m' ∧ SR w' S' K m' H' ∧ VR w' S' B m' r x) a'.defers .returning w' := by
                rw [hd]
                clear hd
                revert w'
                induction ms with
                | nil =>
                  intro w' st fit' hms
                  obtain ⟨xs, hxs, h2⟩ := results_list fit' hv1
                  have hval : ∃ x, (results fn a'.tmps).run C.P w' = .ok x w' ∧ VR w' S' B m' r x := by
                    have hmap : (results fn a'.tmps).run C.P w' = .ok (if h : xs.toArray.size = 1 then xs.toArray[0] else .tuple xs.toArray) w' := by
                      unfold results
                      rw [Array.mapM_eq_mapM_toList]
                      simp only [Sem.run_bind, Sem.run_map]
                      generalize hq : Sem.run C.P (List.mapM _ fn.results.toList) w' = rr
                      have hrr : rr = .ok xs w' := hq.symm.trans hxs
                      rw [hrr]
                      rfl
                    refine ⟨_, hmap, ?_⟩
                    rw [hr]
                    cases vs1 with
                    | nil =>
                      cases xs with
                      | nil => exact VR.tup_mk h2
                      | cons => exact h2.elim
                    | cons v vr =>
                      cases xs with
                      | nil => exact h2.elim
                      | cons x xr =>
                        cases vr with
                        | nil =>
                          cases xr with
                          | nil => exact h2.1
                          | cons => exact h2.2.elim
                        | cons v2 vr2 =>
                          cases xr with
                          | nil => exact h2.2.elim
                          | cons x2 xr2 =>
                            rw [dif_neg (by simp)]
                            exact VR.tup_mk h2
                  obtain ⟨x, hrx, hvx⟩ := hval
                  exact ⟨x, hrx, x, S', m', rfl, st, fit'.sr, hvx⟩
                | cons D ms ih =>
                  intro w' st fit' hms
                  obtain ⟨hD, hDd⟩ := hms D (by simp)
                  have hgr : w'.grownBy (w'.putObj D (.deferred none)) (some D) := grownBy_putObj' ..
                  have hrow : ∀ q, some D = some q → ∃ o : Obj, w'.heap[q]? = some o ∧ o.isCells = false := fun q e => by cases e; exact ⟨_, hDd, rfl⟩
                  have hnk : ¬ K D := fun q => by have := h.kin D q; omega
                  refine ⟨by simp, .inl ⟨D, _, rfl, run_takeDeferred hDd, ?_⟩⟩
                  refine ih (List.nodup_cons.1 hnd).2 _ (st.grown h hgr (fun q e => by cases e; exact hD)) ⟨fit'.sr.grown hgr hrow, fit'.len, fun t => VR.grown fit'.sr hB hgr (fun q e => ⟨hrow q e, by cases e; exact hnk⟩) (fit'.tr t)⟩ (fun D' hD' => ?_)
                  have hne : D' ≠ D := fun e => by subst e; exact (List.nodup_cons.1 hnd).1 hD'
                  exact ⟨(hms D' (by simp [hD'])).1, (World.putObj_heap_other hne).trans (hms D' (by simp [hD'])).2⟩
              cases ex with
              | exit i => exact absurd rfl (hnex i)
              | nrm => cases e <;> first | exact hex.elim | exact fin
              | ret => cases e <;> first | exact hex.elim | exact fin
            · cases he
          · cases he
        · cases he
      · cases he
    · cases he

theorem fun_sound {C : Cfg} (hC : CfgOK C) {call : Nat → List V → Heap → Option (V × Heap)} (hrun : RunOK C.P call) {again : Code → List V → Heap → Res}
    (hag : ∀ c' env H ex env' H', GoodC C c' → again (.loop c') env H = some (ex, env', H') → LoopOK C.P c' env H ex env' H') :
    RunOK C.P (evFun C call again) := by
  have hb := body_sound hC hrun hag
  refine ⟨fun f args H r he => ?_, fun f args H r H' he => ?_⟩ <;> unfold evFun at he <;> split at he
  · exact hC.ext.good f args H r he
  · exact hb.good f args H r he
  · exact hC.ext.ok f args H r H' he
  · exact hb.ok f args H r H' he

theorem run_sound {C : Cfg} (hC : CfgOK C) : ∀ n, RunOK C.P (run C n) ∧
    ∀ c' env H ex env' H', GoodC C c' → again C n (.loop c') env H = some (ex, env', H') → LoopOK C.P c' env H ex env' H'
  | 0 => ⟨⟨fun f args H r he => by simp [run] at he, fun f args H r H' he => by simp [run] at he⟩, fun c env H ex env' H' _ he => by simp [again] at he⟩
  | n + 1 => by
    obtain ⟨hr, ha⟩ := run_sound hC n
    refine ⟨?_, fun c env H ex env' H' hg he => ?_⟩
    · have : run C (n + 1) = evFun C (run C n) (again C n) := by funext f args H; rfl
      rw [this]
      exact fun_sound hC hr ha
    · have he' : evC C.P (run C n) C.pol (again C n) (.loop c) env H = some (ex, env', H') := he
      exact (evC_sound hr hC.seq (.loop c) env H (fun p hp => hg _ hr p (by simpa [drawn] using hp)) (fun c' env H ex env' H' hp hh => ha c' env H ex env' H' (fun call hcr p hq => hg call hcr p (by simpa [drawn] using hp p hq)) hh) he').2 c rfl
end
end Go.Proofs.Ytcamcfplcoklkaa.Iv

namespace Go.Proofs.Ytcamcfplcoklkaa.Iv
open Go
set_option linter.unusedVariables false
set_option linter.unusedSimpArgs false

/-! ### what an operation reads of the heap is what it says that it reads -/
theorem live_same {H H' : Heap} {i : Id} (h : H' i = H i) (g : Nat) : live H' i g = live H i g := by unfold live; rw [h]
theorem next_same {H H' : Heap} {i : Id} (h : H' i = H i) : nextGen H' i = nextGen H i := by unfold nextGen; rw [h]

section
variable {P : Program} {H H' : Heap}

theorem load_loc {t : Nat} {a : V} {out : Out} (he : evLoad P H t a = some out) (hl : ∀ i ∈ out.rd, H' i = H i) : evLoad P H' t a = some out := by
  unfold evLoad at he ⊢
  split at he
  · split at he
    · split at he
      · split at he
        · cases he
          simp only [*, live_same (hl _ (List.mem_singleton_self _))]
        · cases he
      · cases he
    · cases he
  · exact he
  · cases he
theorem store_loc {t : Nat} {a v : V} {out : Out} (he : evStore P H t a v = some out) (hl : ∀ i ∈ out.rd, H' i = H i) : evStore P H' t a v = some out := by
  unfold evStore at he ⊢
  split at he
  · split at he
    · split at he
      · cases he
        rename_i hc
        simp only [*, live_same (hl _ (List.mem_singleton_self _))]
        simp
      · cases he
    · cases he
  · cases he
theorem box_loc {d : Nat} {cs : List V} {out : Out} (he : evBox H d cs = some out) (hl : ∀ i ∈ out.rd, H' i = H i) : evBox H' d cs = some out := by
  unfold evBox at he ⊢
  split at he
  · cases he
    rename_i hc
    rw [if_pos hc, next_same (hl _ (List.mem_singleton_self _))]
  · cases he
theorem boxO_loc {d : Nat} {v : V} {out : Out} (he : boxO H d v = some out) (hl : ∀ i ∈ out.rd, H' i = H i) : boxO H' d v = some out := by
  unfold boxO at he ⊢
  split at he
  · exact he
  · exact box_loc he hl
theorem keep1_loc {v : V} {out : Out} (he : keep1 H v = some out) (hl : ∀ i ∈ out.rd, H' i = H i) : keep1 H' v = some out := by
  unfold keep1 at he ⊢
  split at he
  · split at he
    · split at he
      · split at he
        · cases he
          rename_i hc
          simp only [*, live_same (hl _ (List.mem_singleton_self _))]
          simp
        · cases he
      · cases he
    · cases he
  all_goals exact he
theorem keepL_loc : ∀ {cs : List V} {out : List V × List (Id × Blk) × List Id}, keepL H cs = some out → (∀ i ∈ out.2.2, H' i = H i) → keepL H' cs = some out
  | [], out, he, _ => he
  | v :: r, out, he, hl => by
    simp only [keepL] at he ⊢
    split at he
    · rename_i v' u d hv
      split at he
      · rename_i vs us ds hr
        cases he
        rw [keep1_loc hv (fun i hi => hl i (by simp only [List.mem_append]; exact .inl hi)), keepL_loc hr (fun i hi => hl i (by simp only [List.mem_append]; exact .inr hi))]
      · cases he
    · cases he
theorem keepV_loc {v : V} {out : Out} (he : keepV H v = some out) (hl : ∀ i ∈ out.rd, H' i = H i) : keepV H' v = some out := by
  unfold keepV at he ⊢
  split at he
  · split at he
    · rename_i hk
      cases he
      simp only [keepL_loc hk hl]
    · cases he
  · exact keep1_loc he hl
theorem keepParts_loc : ∀ {ps : List (Nat × V)} {out : List (Nat × List V) × List (Id × Blk) × List Id}, keepParts H ps = some out → (∀ i ∈ out.2.2, H' i = H i) → keepParts H' ps = some out
  | [], out, he, _ => he
  | (i, v) :: r, out, he, hl => by
    simp only [keepParts] at he ⊢
    split at he
    · rename_i v' u d hv
      split at he
      · rename_i vs us ds hr
        cases he
        rw [keepV_loc hv (fun i hi => hl i (by simp only [List.mem_append]; exact .inl hi)), keepParts_loc hr (fun i hi => hl i (by simp only [List.mem_append]; exact .inr hi))]
      · cases he
    · cases he
theorem buildSlice_loc {d t len : Nat} {ps : List (Nat × V)} {out : Out} (he : evBuildSlice P H d t len ps = some out) (hl : ∀ i ∈ out.rd, H' i = H i) : evBuildSlice P H' d t len ps = some out := by
  unfold evBuildSlice at he ⊢
  split at he
  · split at he
    · split at he
      · rename_i hc
        split at he
        · rename_i hk
          split at he
          · split at he
            · rename_i hk2
              cases he
              have e1 := keepParts_loc hk (fun i hi => hl i (List.mem_cons_of_mem _ hi))
              have e2 := next_same (hl _ List.mem_cons_self)
              simp only [*]
              simp
            · cases he
          · cases he
        · cases he
      · cases he
    · cases he
  · cases he
theorem makeSlice_loc {d t : Nat} {l c : V} {out : Out} (he : evMakeSlice P H d t l c = some out) (hl : ∀ i ∈ out.rd, H' i = H i) : evMakeSlice P H' d t l c = some out := by
  unfold evMakeSlice at he ⊢
  split at he
  · split at he
    · split at he
      · rename_i hc
        cases he
        rename_i h1 h2 h3 _
        rw [next_same (hl _ (List.mem_singleton_self _))]
        simp [*]
      · cases he
    · cases he
  · cases he
theorem src_loc {sz : Nat} {v : V} {out : List V × Nat × Bool × List Id} (he : src H sz v = some out) (hl : ∀ i ∈ out.2.2.2, H' i = H i) : src H' sz v = some out := by
  unfold src at he ⊢
  split at he
  · split at he
    · split at he
      · split at he
        · cases he
          rename_i hc
          subst hc
          simp only [*, live_same (hl _ (List.mem_singleton_self _))]
          simp
        · cases he
      · cases he
    · cases he
  all_goals exact he

theorem mem_c {α : Type} {a b : α} {l : List α} (h : a ∈ l) : a ∈ b :: l := List.mem_cons_of_mem _ h

theorem appSrc_loc {sz : Nat} {z : List V} {xT : Nat} {b : V} {r : List V × Nat × Bool × List Id} (hr : appSrc P H sz z xT b = some r) (hl : ∀ i ∈ r.2.2.2, H' i = H i) : appSrc P H' sz z xT b = some r := by
  unfold appSrc at hr ⊢
  split at hr
  · exact hr
  · exact hr
  · exact src_loc hr hl
  · cases hr
theorem append_loc {d sT xT : Nat} {a b : V} {out : Out} (he : evAppend P H d sT xT a b = some out) (hl : ∀ i ∈ out.rd, H' i = H i) : evAppend P H' d sT xT a b = some out := by
  unfold evAppend at he ⊢
  split at he
  · split at he
    · rename_i sz by_ z hs hb hz
      split at he
      · rename_i cs k fl rd hsrc
        have hsrc' := fun h => appSrc_loc (H' := H') hsrc h
        split at he
        · rename_i hq
          split at he
          · split at he
            · cases he
              have e1 := hsrc' hl
              simp only [e1]
              simp [*]
            · split at he
              · cases he
                have e1 := hsrc' (fun i hi => hl i (mem_c hi))
                have e2 := next_same (hl _ List.mem_cons_self)
                simp only [e1, e2]
                simp [*]
              · cases he
          · split at he
            · cases he
              have e1 := hsrc' hl
              simp only [e1]
              simp [*]
            · split at he
              · cases he
                have e1 := hsrc' (fun i hi => hl i (mem_c hi))
                have e2 := next_same (hl _ List.mem_cons_self)
                simp only [e1, e2]
                simp [*]
              · cases he
          · split at he
            · cases he
              have e1 := hsrc' hl
              simp only [e1]
              simp [*]
            · cases he
          · split at he
            · rename_i bb hbb
              split at he
              · rename_i hc
                split at he
                · split at he
                  · cases he
                    have e1 := hsrc' (fun i hi => hl i (mem_c hi))
                    have e2 := live_same (hl _ List.mem_cons_self)
                    simp only [e1, e2, hbb]
                    rw [if_pos hq, if_pos hc]
                    simp [*]
                  · split at he
                    · cases he
                      have e1 := hsrc' (fun i hi => hl i (mem_c hi))
                      have e2 := live_same (hl _ List.mem_cons_self)
                      simp only [e1, e2, hbb]
                      rw [if_pos hq, if_pos hc]
                      simp [*]
                    · cases he
                · split at he
                  · split at he
                    · cases he
                      have e1 := hsrc' (fun i hi => hl i (mem_c hi))
                      have e2 := live_same (hl _ List.mem_cons_self)
                      simp only [e1, e2, hbb]
                      rw [if_pos hq, if_pos hc]
                      simp [*]
                    · cases he
                  · split at he
                    · cases he
                      have e1 := hsrc' (fun i hi => hl i (mem_c (mem_c hi)))
                      have e2 := live_same (hl _ List.mem_cons_self)
                      have e3 := next_same (hl _ (mem_c List.mem_cons_self))
                      simp only [e1, e2, hbb, e3]
                      rw [if_pos hq, if_pos hc]
                      simp [*]
                    · cases he
              · cases he
            · cases he
          · cases he
        · cases he
      · cases he
    · cases he
  · cases he
end
end Go.Proofs.Ytcamcfplcoklkaa.Iv

namespace Go.Proofs.Ytcamcfplcoklkaa.Iv
open Go
set_option linter.unusedVariables false
set_option linter.unusedSimpArgs false
section
variable {P : Program} {H H' : Heap}

theorem copy_loc {dT : Nat} {a b : V} {out : Out} (he : evCopy P H dT a b = some out) (hl : ∀ i ∈ out.rd, H' i = H i) : evCopy P H' dT a b = some out := by
  unfold evCopy at he ⊢
  split at he
  · split at he
    · split at he
      · rename_i hsrc
        split at he
        · cases he; have e1 := src_loc (H' := H') hsrc hl; simp only [*]
        · cases he; have e1 := src_loc (H' := H') hsrc hl; simp only [*]
        · cases he; have e1 := src_loc (H' := H') hsrc hl; simp only [*]
        · split at he
          · rename_i hb
            split at he
            · rename_i hc
              cases he
              have e1 := src_loc (H' := H') hsrc (fun i hi => hl i (mem_c hi))
              have e2 := live_same (hl _ List.mem_cons_self)
              simp only [e1, e2, hb]
              rw [if_pos hc]
            · cases he
          · cases he
        · cases he
      · cases he
    · cases he
  · cases he
theorem clear_loc {t : Nat} {a : V} {out : Out} (he : evClear P H t a = some out) (hl : ∀ i ∈ out.rd, H' i = H i) : evClear P H' t a = some out := by
  unfold evClear at he ⊢
  split at he
  · split at he
    · split at he
      · exact he
      · exact he
      · exact he
      · split at he
        · rename_i hb
          split at he
          · rename_i hc
            cases he
            have e2 := live_same (hl _ List.mem_cons_self)
            simp only [e2, hb]
            rw [if_pos hc]
          · cases he
        · cases he
      · cases he
    · cases he
  · cases he
theorem convert_loc {s t : Nat} {a : V} {out : Out} (he : evConvert P H s t a = some out) (hl : ∀ i ∈ out.rd, H' i = H i) : evConvert P H' s t a = some out := by
  unfold evConvert at he ⊢
  split at he
  · split at he
    · split at he
      · rename_i hsrc
        split at he
        · cases he
          have e1 : srcS H' a = srcS H a := by
            rw [hsrc]
            unfold srcS at hsrc ⊢
            split at hsrc
            · cases hsrc
            · exact src_loc hsrc hl
          simp only [e1, hsrc]
          simp only [*]
        · cases he
      · cases he
    · cases he
  all_goals exact he
theorem slice_loc {t : Nat} {a : V} {lo hi mx : Option V} {out : Out} (he : evSlice P H t a lo hi mx = some out) (hl : ∀ i ∈ out.rd, H' i = H i) : evSlice P H' t a lo hi mx = some out := by
  unfold evSlice at he ⊢
  split at he
  · exact he
  · split at he
    · split at he
      · cases he
      · rename_i hz
        rw [if_neg hz]
        split at he
        · exact he
        · exact he
        · exact he
        · split at he
          · rename_i hs
            rw [if_pos hs]
            split at he
            · split at he
              · split at he
                · rename_i h1
                  rw [if_pos h1]
                  split at he
                  · rename_i h2; rw [if_pos h2]; exact he
                  · rename_i h2
                    rw [if_neg h2]
                    split at he
                    · rename_i hb
                      split at he
                      · rename_i hc
                        cases he
                        have e2 := live_same (hl _ List.mem_cons_self)
                        simp only [e2, hb]
                        rw [if_pos hc]
                      · cases he
                    · cases he
                · cases he
              · cases he
            · exact he
          · cases he
        · cases he
    · cases he
  · split at he
    · split at he
      · cases he
      · rename_i hz
        rw [if_neg hz]
        split at he
        · split at he
          · rename_i h1
            rw [if_pos h1]
            split at he
            · split at he
              · rename_i hb
                split at he
                · rename_i hc
                  cases he
                  have e2 := live_same (hl _ List.mem_cons_self)
                  simp only [e2, hb]
                  rw [if_pos hc]
                · cases he
              · cases he
            · cases he
          · cases he
        · cases he
    · cases he
  · cases he

theorem builtin_loc {d : Nat} {b : Builtin} {ts : List Nat} {args : List V} {out : Out} (he : evBuiltin P H d b ts args = some out) (hl : ∀ i ∈ out.rd, H' i = H i) : evBuiltin P H' d b ts args = some out := by
  unfold evBuiltin at he ⊢
  split at he
  · exact append_loc he hl
  · exact he
  · exact he
  · exact copy_loc he hl
  · exact clear_loc he hl
  · exact he
  · exact he
  · cases he

theorem viewC_loc {c : V} {o : V × List Id} (he : viewC H c = some o) (hl : ∀ i ∈ o.2, H' i = H i) : viewC H' c = some o := by
  unfold viewC at he ⊢
  split at he
  · split at he
    · split at he
      · split at he
        · cases he
          have e2 := live_same (hl _ (List.mem_singleton_self _))
          simp only [e2, *]
          simp
        · cases he
      · cases he
    · cases he
  · exact he
theorem viewL_loc : ∀ {cs : List V} {o : List V × List Id}, viewL H cs = some o → (∀ i ∈ o.2, H' i = H i) → viewL H' cs = some o
  | [], o, he, _ => he
  | c :: r, o, he, hl => by
    simp only [viewL] at he ⊢
    split at he
    · rename_i c' d hc
      split at he
      · rename_i cs ds hr
        cases he
        rw [viewC_loc hc (fun i hi => hl i (by simp only [List.mem_append]; exact .inl hi)), viewL_loc hr (fun i hi => hl i (by simp only [List.mem_append]; exact .inr hi))]
      · cases he
    · cases he
theorem view1_loc {v : V} {o : Out} (he : view1 H v = some o) (hl : ∀ i ∈ o.rd, H' i = H i) : view1 H' v = some o := by
  unfold view1 at he ⊢
  split at he
  · split at he
    · rename_i b hb
      split at he
      · rename_i cs d hv
        cases he
        have e2 := live_same (hl _ (List.mem_cons_self ..))
        simp only [e2, hb, viewL_loc hv (fun i hi => hl i (by simp [hi]))]
      · cases he
    · cases he
  · exact he
  · exact he
  · cases he
theorem argIn_loc0 {md : Mode} (hn : md ≠ .lentN) {v : V} {out : Out} (he : argIn H md v = some out) (hl : ∀ i ∈ out.rd, H' i = H i) : argIn H' md v = some out := by
  cases md with
  | keep => exact keepV_loc he hl
  | lentN => exact absurd rfl hn
  | byref => exact he
  | view => exact view1_loc he hl
  | lent =>
    simp only [argIn] at he ⊢
    unfold lent1 at he ⊢
    split at he
    · split at he
      · split at he
        · split at he
          · cases he
            have e2 := live_same (hl _ (List.mem_singleton_self _))
            simp only [e2, *]
            simp
          · cases he
        · cases he
      · cases he
    · exact he
    · exact he
    · exact he
    · exact keepV_loc he hl
theorem argIn_loc {md : Mode} {v : V} {out : Out} (he : argIn H md v = some out) (hl : ∀ i ∈ out.rd, H' i = H i) : argIn H' md v = some out := by
  by_cases hn : md = .lentN
  · subst hn
    simp only [argIn] at he ⊢
    split at he
    · exact he
    · exact he
    · have := argIn_loc0 (md := .lent) (H := H) (H' := H') (by simp) (by simpa [argIn] using he) hl
      simpa [argIn] using this
  · exact argIn_loc0 hn he hl
theorem argsIn_loc : ∀ {ms : List Mode} {vs : List V} {out : List V × List (Id × Blk) × List Id}, argsIn H ms vs = some out → (∀ i ∈ out.2.2, H' i = H i) → argsIn H' ms vs = some out
  | ms, [], out, he, _ => by cases ms <;> exact he
  | ms, v :: r, out, he, hl => by
    simp only [argsIn] at he ⊢
    split at he
    · rename_i v' u d hv
      split at he
      · rename_i vs us ds hr
        cases he
        rw [argIn_loc hv (fun i hi => hl i (by simp only [List.mem_append]; exact .inl hi)), argsIn_loc hr (fun i hi => hl i (by simp only [List.mem_append]; exact .inr hi))]
      · cases he
    · cases he

theorem sets_same : ∀ (ups : List (Id × Blk)) {H H' : Heap} {i : Id}, H' i = H i → (H'.sets ups) i = (H.sets ups) i
  | [], _, _, _, h => h
  | (j, b) :: r, H, H', i, h => by
    simp only [Heap.sets]
    refine sets_same r ?_
    unfold Heap.set
    split
    · rfl
    · exact h
theorem collect_loc : ∀ (n : Nat) (todo : List (Id × Nat)) (acc : List Id) {acc' : List Id}, collect H n todo acc = some acc' → (∀ i ∈ acc', H' i = H i) → collect H' n todo acc = some acc'
  | _, [], acc, acc', h, _ => by cases ‹Nat› <;> (simp [collect] at h ⊢; exact h)
  | 0, _ :: _, _, _, h, _ => by simp [collect] at h
  | n + 1, (i, g) :: todo, acc, acc', h, hl => by
    simp only [collect] at h ⊢
    split at h
    · rename_i hi; rw [if_pos hi]; exact collect_loc n todo acc h hl
    · rename_i hi
      rw [if_neg hi]
      split at h
      · rename_i b hb
        have hmem : i ∈ acc' := (collect_spec n _ _ _ h).1 i (by simp)
        rw [live_same (hl i hmem), hb]
        exact collect_loc n _ _ h hl
      · cases h
theorem into_loc {acc : List Id} (hl : ∀ i ∈ acc, H' i = H i) : intoRen H' acc = intoRen H acc := by
  funext i g
  unfold intoRen
  cases hp : pos i acc 0 with
  | none => rfl
  | some j =>
    simp only
    have : i ∈ acc := List.mem_of_getElem? (pos_spec hp).2
    rw [live_same (hl i this)]
theorem enter_loc {acc : List Id} (hl : ∀ i ∈ acc, H' i = H i) : enterH H' acc = enterH H acc := by
  funext i
  cases i with
  | arg j =>
    rw [enterH_arg, enterH_arg, into_loc hl]
    cases hj : acc[j]? with
    | none => rfl
    | some i0 => simp only; rw [hl i0 (List.mem_of_getElem? hj)]
  | own t => rw [enterH_other _ _ _ (by simp), enterH_other _ _ _ (by simp)]
  | sub t i => rw [enterH_other _ _ _ (by simp), enterH_other _ _ _ (by simp)]
theorem name_loc {d : Nat} {acc : List Id} (hl : ∀ i ∈ acc, H' i = H i) {i : Id} (hs : H' (newName d acc i) = H (newName d acc i)) : backName H' d acc i = backName H d acc i := by
  cases i with
  | arg j =>
    simp only [backName]
    cases hj : acc[j]? with
    | none => rfl
    | some i0 => simp only; rw [hl i0 (List.mem_of_getElem? hj)]
  | own t => simp only [backName]; rw [next_same hs]
  | sub t i => simp only [backName]; rw [next_same hs]
theorem backRen_loc {d : Nat} {acc acc' : List Id} (hl : ∀ i ∈ acc, H' i = H i) (hs : ∀ i ∈ acc', H' (newName d acc i) = H (newName d acc i)) : backRen H' d acc acc' = backRen H d acc acc' := by
  funext i g
  unfold backRen
  by_cases hi : i ∈ acc'
  · rw [if_pos hi, if_pos hi, name_loc hl (hs i hi)]
  · rw [if_neg hi, if_neg hi]
theorem backUps_loc {H2 : Heap} {d : Nat} {acc acc' : List Id} (hl : ∀ i ∈ acc, H' i = H i) (hs : ∀ i ∈ acc', H' (newName d acc i) = H (newName d acc i)) : ∀ (l : List Id), (∀ i ∈ l, i ∈ acc') → backUps H' H2 d acc acc' l = backUps H H2 d acc acc' l
  | [], _ => rfl
  | i :: r, hsub => by
    simp only [backUps]
    rw [backUps_loc hl hs r (fun i hi => hsub i (by simp [hi])), name_loc hl (hs i (hsub i (by simp))), backRen_loc hl hs]

theorem call_loc {call : Nat → List V → Heap → Option (V × Heap)} {pol : Nat → Pol} {d f : Nat} {args : List V} {out : Out} (he : evCall call pol H d f args = some out) (hl : ∀ i ∈ out.rd, H' i = H i) :
    evCall call pol H' d f args = some out := by
  unfold evCall at he ⊢
  split at he
  · rename_i as fz rd hargs
    simp only at he
    split at he
    · rename_i acc hcol
      split at he
      · cases he
      · rename_i hheld
        split at he
        · rename_i r H2 hcall
          split at he
          · rename_i r' us hret
            split at he
            · rename_i acc' hcol2
              split at he
              · rename_i ups hups
                split at he
                · rename_i hfin
                  cases he
                  have la : ∀ i ∈ rd, H' i = H i := fun i hi => hl i (by simp [hi])
                  have lb : ∀ i ∈ acc, (H'.sets fz) i = (H.sets fz) i := fun i hi => sets_same fz (hl i (by simp [hi]))
                  have lc : ∀ i ∈ acc', (H'.sets fz) (newName d acc i) = (H.sets fz) (newName d acc i) := fun i hi => sets_same fz (hl _ (by simp only [List.mem_append, List.mem_map]; exact .inr ⟨i, hi, rfl⟩))
                  have e1 := argsIn_loc (H' := H') hargs la
                  have e2 := collect_loc _ _ _ hcol lb
                  simp only [e1, e2]
                  rw [if_neg hheld, into_loc lb, enter_loc lb, hcall]
                  simp only [hret, hcol2]
                  rw [backUps_loc lb lc _ (fun i hi => hi), hups]
                  simp only
                  rw [if_pos hfin, backRen_loc lb lc]
                · cases he
              · cases he
            · cases he
          · cases he
        · cases he
    · cases he
  · cases he

theorem evOp_loc {call : Nat → List V → Heap → Option (V × Heap)} {pol : Nat → Pol} {ρ : Operand → V} {d : Nat} {op : Op} {out : Out} (he : evOp P call pol H ρ d op = some out) (hl : ∀ i ∈ out.rd, H' i = H i) :
    evOp P call pol H' ρ d op = some out := by
  unfold evOp at he ⊢
  split at he <;> first
    | exact he
    | exact boxO_loc he hl
    | exact box_loc he hl
    | exact buildSlice_loc he hl
    | exact load_loc he hl
    | exact store_loc he hl
    | exact convert_loc he hl
    | exact makeSlice_loc he hl
    | exact slice_loc he hl
    | exact builtin_loc he hl
    | skip
  · split at he
    · exact box_loc he hl
    · cases he
  · split at he
    · exact call_loc he hl
    · cases he

theorem map_same {ρ ρ' : Operand → V} {l : List Operand} (h : ∀ x ∈ l, ρ' x = ρ x) : l.map ρ' = l.map ρ := List.map_congr_left h

theorem evOp_env {call : Nat → List V → Heap → Option (V × Heap)} {pol : Nat → Pol} {ρ ρ' : Operand → V} {d : Nat} {op : Op} (h : ∀ x ∈ op.operands, ρ' x = ρ x) : evOp P call pol H ρ' d op = evOp P call pol H ρ d op := by
  cases op with
  | move x => simp only [evOp]; rw [h x (by simp [Op.operands])]
  | assign x => simp only [evOp]; rw [h x (by simp [Op.operands])]
  | pick c a b => simp only [evOp]; rw [h c (by simp [Op.operands]), h a (by simp [Op.operands]), h b (by simp [Op.operands])]
  | alloc e => rfl
  | box e x => simp only [evOp]; rw [h x (by simp [Op.operands])]
  | build t ps =>
    simp only [evOp]
    have : (ps.toList.map fun p => (p.1, ρ' p.2)) = ps.toList.map fun p => (p.1, ρ p.2) := List.map_congr_left (fun p hp => by
      rw [h p.2 (by simp only [Op.operands, List.mem_toArray, List.mem_map]; exact ⟨p, hp, rfl⟩)])
    rw [this]
  | buildSlice t len ps =>
    simp only [evOp]
    have : (ps.toList.map fun p => (p.1, ρ' p.2)) = ps.toList.map fun p => (p.1, ρ p.2) := List.map_congr_left (fun p hp => by
      rw [h p.2 (by simp only [Op.operands, List.mem_toArray, List.mem_map]; exact ⟨p, hp, rfl⟩)])
    rw [this]
  | load t x => simp only [evOp]; rw [h x (by simp [Op.operands])]
  | store t a x => simp only [evOp]; rw [h a (by simp [Op.operands]), h x (by simp [Op.operands])]
  | nilCheck x => simp only [evOp]; rw [h x (by simp [Op.operands])]
  | binOp o t x y yt => simp only [evOp]; rw [h x (by simp [Op.operands]), h y (by simp [Op.operands])]
  | unOp o t x => simp only [evOp]; rw [h x (by simp [Op.operands])]
  | convert s t x => simp only [evOp]; rw [h x (by simp [Op.operands])]
  | makeFunc fn first cap =>
    cases fn with
    | func f =>
      simp only [evOp]
      have : cap.toList.map ρ' = cap.toList.map ρ := map_same (fun x hx => h x (by simp only [Op.operands, Array.mem_append]; exact .inr (by simpa using hx)))
      rw [this]
    | _ => rfl
  | makeSlice t l c => simp only [evOp]; rw [h l (by simp [Op.operands]), h c (by simp [Op.operands])]
  | slice t x lo hi mx =>
    simp only [evOp]
    have e1 : lo.map ρ' = lo.map ρ := by cases lo with | none => rfl | some y => simp only [Option.map_some]; rw [h y (by simp [Op.operands])]
    have e2 : hi.map ρ' = hi.map ρ := by cases hi with | none => rfl | some y => simp only [Option.map_some]; rw [h y (by simp [Op.operands])]
    have e3 : mx.map ρ' = mx.map ρ := by cases mx with | none => rfl | some y => simp only [Option.map_some]; rw [h y (by simp [Op.operands])]
    rw [h x (by simp [Op.operands]), e1, e2, e3]
  | fieldAddr t x f => simp only [evOp]; rw [h x (by simp [Op.operands])]
  | field t x f => simp only [evOp]; rw [h x (by simp [Op.operands])]
  | indexAddr t x i => simp only [evOp]; rw [h x (by simp [Op.operands]), h i (by simp [Op.operands])]
  | index t x i => simp only [evOp]; rw [h x (by simp [Op.operands]), h i (by simp [Op.operands])]
  | extract t i => simp only [evOp]; rw [h t (by simp [Op.operands])]
  | call c =>
    obtain ⟨callee, args, ts⟩ := c
    have ea : args.toList.map ρ' = args.toList.map ρ := map_same (fun x hx => h x (by simp only [Op.operands, Call.operands, Array.mem_append]; exact .inr (by simpa using hx)))
    cases callee with
    | builtin b => simp only [evOp]; rw [ea]
    | value f => simp only [evOp]; rw [ea, h f (by simp [Op.operands, Call.operands])]
    | invoke r mm => rfl
  | _ => rfl
end
end Go.Proofs.Ytcamcfplcoklkaa.Iv

namespace Go.Proofs.Ytcamcfplcoklkaa.Iv
open Go
set_option linter.unusedVariables false
set_option linter.unusedSimpArgs false

/-! ### regions that draw their order: whatever order, the same comes out -/
theorem evOper_env {P : Program} {call : Nat → List V → Heap → Option (V × Heap)} {pol : Nat → Pol} {ops : Array Oper} {k : Nat} {o : Oper} {env env' : List V} {H : Heap}
    (h : ∀ t ∈ o.looksAt ops, env'.getD t .und = env.getD t .und) : evOper P call pol ops k o env' H = evOper P call pol ops k o env H := by
  have hw : wantV ops env' o.guard = wantV ops env o.guard := by
    cases hg : o.guard with
    | none => rfl
    | some p =>
      obtain ⟨j, b⟩ := p
      simp only [wantV]
      cases ht : (ops[j]?).bind (·.dst) with
      | none => rfl
      | some t =>
        simp only
        rw [h t (by simp only [Oper.looksAt, hg, ht, List.mem_append]; exact .inr (by simp))]
  have ho : evOp P call pol H (evOperand env') (o.dst.getD (1000 + k)) o.op = evOp P call pol H (evOperand env) (o.dst.getD (1000 + k)) o.op := evOp_env (fun x hx => by
    cases x with
    | tmp t => exact h t (by simp only [Oper.looksAt, List.mem_append, List.mem_filterMap]; exact .inl ⟨.tmp t, by simpa using hx, rfl⟩)
    | _ => rfl)
  unfold evOper
  rw [hw, ho]
theorem evOper_loc {P : Program} {call : Nat → List V → Heap → Option (V × Heap)} {pol : Nat → Pol} {ops : Array Oper} {k : Nat} {o : Oper} {env : List V} {H H' : Heap} {out : Out}
    (he : evOper P call pol ops k o env H = some out) (hl : ∀ i ∈ out.rd, H' i = H i) : evOper P call pol ops k o env H' = some out := by
  unfold evOper at he ⊢
  split at he
  · exact evOp_loc he hl
  · exact he
  · cases he

theorem setV_get {env env' : List V} {d : Option Nat} {v : V} (h : setV env d v = some env') {t : Nat} (ht : ∀ q, d = some q → q ≠ t) : env'.getD t .und = env.getD t .und := by
  cases d with
  | none => simp only [setV, Option.some.injEq] at h; subst h; rfl
  | some q =>
    simp only [setV] at h
    split at h
    · cases h; simp [List.getD, List.getElem?_set_ne (ht q rfl)]
    · cases h
theorem setV_len {env env' : List V} {d : Option Nat} {v : V} (h : setV env d v = some env') : env'.length = env.length := by
  cases d with
  | none => simp only [setV, Option.some.injEq] at h; subst h; rfl
  | some q =>
    simp only [setV] at h
    split at h
    · cases h; simp
    · cases h
theorem setV_swap {env e1 e12 : List V} {d1 d2 : Option Nat} {v1 v2 : V} (h1 : setV env d1 v1 = some e1) (h2 : setV e1 d2 v2 = some e12) (hne : ∀ d, d1 = some d → d2 ≠ some d) :
    ∃ e2, setV env d2 v2 = some e2 ∧ setV e2 d1 v1 = some e12 := by
  cases d1 with
  | none =>
    simp only [setV, Option.some.injEq] at h1; subst h1
    exact ⟨e12, h2, rfl⟩
  | some a =>
    cases d2 with
    | none =>
      simp only [setV, Option.some.injEq] at h2; subst h2
      exact ⟨env, rfl, h1⟩
    | some b =>
      have hab : a ≠ b := fun e => hne a rfl (by rw [e])
      simp only [setV] at h1 h2 ⊢
      split at h1
      · rename_i ha
        cases h1
        split at h2
        · rename_i hb
          cases h2
          simp only [List.length_set] at hb
          refine ⟨env.set b v2, by rw [if_pos hb], ?_⟩
          simp only [List.length_set]
          rw [if_pos ha, List.set_comm _ _ hab]
        · cases h2
      · cases h1

theorem set_swap {H : Heap} {i j : Id} {a b : Blk} (h : i ≠ j) : (H.set i a).set j b = (H.set j b).set i a := by
  funext k
  unfold Heap.set
  by_cases h1 : k = i
  · subst h1
    simp [h]
  · simp [h1]
theorem sets_set {H : Heap} {i : Id} {a : Blk} : ∀ (r : List (Id × Blk)), i ∉ r.map (·.1) → (H.set i a).sets r = (H.sets r).set i a
  | [], _ => rfl
  | (j, b) :: r, h => by
    simp only [List.map_cons, List.mem_cons, not_or] at h
    simp only [Heap.sets]
    rw [set_swap h.1]
    exact sets_set r h.2
theorem sets_swap : ∀ (a b : List (Id × Blk)) {H : Heap}, (∀ x ∈ a.map (·.1), x ∉ b.map (·.1)) → (H.sets a).sets b = (H.sets b).sets a
  | [], b, H, _ => rfl
  | (i, x) :: r, b, H, h => by
    simp only [Heap.sets]
    rw [sets_swap r b (fun y hy => h y (by simp [hy])), sets_set b (h i (by simp))]

/-- Two outcomes that do not meet. -/
def Indep (a b : Out) : Prop := (∀ x ∈ a.ups.map (·.1), x ∉ b.rd ∧ x ∉ b.ups.map (·.1)) ∧ (∀ x ∈ b.ups.map (·.1), x ∉ a.rd)

section
variable (P : Program) (call : Nat → List V → Heap → Option (V × Heap)) (pol : Nat → Pol) (ops : Array Oper) (L : Nat → Out)

/-- From here on whatever is ready may come next, and it comes to what L says. -/
def AnyA (Qf : List V → Heap → Prop) : Nat → Array Bool → List V → Heap → Prop
  | 0, listed, env, H => Region.ready .any ops listed = [] ∧ Qf env H
  | fuel + 1, listed, env, H => (Region.ready .any ops listed = [] → Qf env H) ∧
    ∀ i ∈ Region.ready .any ops listed, ∃ o env', ops[i]? = some o ∧ evOper P call pol ops i o env H = some (L i) ∧ setV env o.dst (L i).v = some env' ∧
      AnyA Qf fuel (listed.setIfInBounds i true) env' (H.sets (L i).ups)

/-- closed: whatever something that is listed waits for is listed -/
def Closed (listed : Array Bool) : Prop := ∀ j oj, ops[j]? = some oj → listed.getD j false = true → ∀ e ∈ oj.after, Region.binds .any e = true → listed.getD e.on false = true
/-- j may come before i -/
def May (j i : Nat) : Prop := ∃ listed, Closed ops listed ∧ listed.getD i true = false ∧ j ∈ Region.ready .any ops listed

variable {P call pol ops L}
theorem Closed.set {listed : Array Bool} (h : Closed ops listed) {i : Nat} (hi : i ∈ Region.ready .any ops listed) : Closed ops (listed.setIfInBounds i true) := by
  obtain ⟨_, oi, hoi, hall⟩ := mem_ready.1 hi
  intro j oj hj hl e he hb
  by_cases hij : i = j
  · subst hij
    rw [hoi] at hj; cases hj
    exact getD_set_true (hall e he hb)
  · rw [getD_set_ne false hij] at hl
    exact getD_set_true (h j oj hj hl e he hb)

theorem first_any {Qf : List V → Heap → Prop} {i : Nat} {oi : Oper} (hi : ops[i]? = some oi) (U : Nat → Prop)
    (hfree : ∀ j oj, ops[j]? = some oj → j ≠ i → U j → May ops j i → oi.apart ops oj = true ∧ Indep (L i) (L j)) :
    ∀ (fuel : Nat) (listed : Array Bool) (env env1 : List V) (H : Heap), (∀ j, listed.getD j true = false → U j) → Closed ops listed → i ∈ Region.ready .any ops listed → evOper P call pol ops i oi env H = some (L i) →
      setV env oi.dst (L i).v = some env1 → AnyA P call pol ops L Qf fuel (listed.setIfInBounds i true) env1 (H.sets (L i).ups) → AnyA P call pol ops L Qf (fuel + 1) listed env H := by
  intro fuel
  induction fuel with
  | zero =>
    intro listed env env1 H hU hc hr he hs A
    refine ⟨fun h => (by rw [h] at hr; cases hr), fun j hj => ?_⟩
    by_cases hji : j = i
    · subst hji; exact ⟨oi, env1, hi, he, hs, A⟩
    · have := ready_mono hj hji
      rw [A.1] at this; cases this
  | succ fuel ih =>
    intro listed env env1 H hU hc hr he hs A
    refine ⟨fun h => (by rw [h] at hr; cases hr), fun j hj => ?_⟩
    by_cases hji : j = i
    · subst hji; exact ⟨oi, env1, hi, he, hs, A⟩
    · obtain ⟨oj, env12, hoj, hej, hsj, A2⟩ := A.2 j (ready_mono hj hji)
      have hun := (mem_ready.1 hr).1
      obtain ⟨hap, hin⟩ := hfree j oj hoj hji (hU j (mem_ready.1 hj).1) ⟨listed, hc, hun, hj⟩
      obtain ⟨a1, a2, a3⟩ := Oper.apart_spec hap
      obtain ⟨env2, hs2, hs12⟩ := setV_swap hs hsj a2
      have hej' : evOper P call pol ops j oj env H = some (L j) := by
        have h1 : evOper P call pol ops j oj env (H.sets (L i).ups) = some (L j) := by
          rw [← hej]
          exact (evOper_env (fun t ht => setV_get hs (fun q hq e => a1 q hq (e ▸ ht)))).symm
        refine evOper_loc h1 (fun x hx => ?_)
        exact (sets_out H _ x (fun hm => (hin.1 x hm).1 hx)).symm
      have hei' : evOper P call pol ops i oi env2 (H.sets (L j).ups) = some (L i) := by
        have h1 : evOper P call pol ops i oi env2 H = some (L i) := by
          rw [← he]
          exact evOper_env (fun t ht => setV_get hs2 (fun q hq e => a3 q hq (e ▸ ht)))
        exact evOper_loc h1 (fun x hx => sets_out H _ x (fun hm => hin.2 x hm hx))
      refine ⟨oj, env2, hoj, hej', hs2, ?_⟩
      refine ih (listed.setIfInBounds j true) env2 env12 _ (fun q hq => hU q (by
        by_cases e : j = q
        · subst e
          exact (mem_ready.1 hj).1
        · rw [getD_set_ne true e] at hq; exact hq)) (hc.set hj) (ready_mono hr (Ne.symm hji)) hei' hs12 ?_
      rw [← sets_swap _ _ (fun x hx => (hin.1 x hx).2), Array.setIfInBounds_comm _ _ hji]
      exact A2

/-- the machine's own walk through such a region -/
theorem any_sound (hrun : RunOK P call) {K B : Nat → Prop} (hB : ∀ rb, B rb → K rb) {Qf : List V → Heap → Prop} {r : Option Nat} {n : Nat} {Q : Exit → Act → World → Prop} :
    ∀ (fuel : Nat) (listed : Array Bool) (env : List V) (H : Heap) (a : Act) (w : World) (S : Nat → Prop) (m : Map), AnyA P call pol ops L Qf fuel listed env H → Fit K B env a w S m H →
      (∀ a' w' S' m' env' H', Qf env' H' → Step K w S m w' S' m' → Fit K B env' a' w' S' m' H' → a'.defers = a.defers → Q .normal a' w') → wpAnyIn (Fw r) n P .any ops Q fuel listed a w
  | 0, listed, env, H, a, w, S, m, A, h, hq => ⟨A.1, hq a w S m env H A.2 (Step.refl ..) h rfl⟩
  | fuel + 1, listed, env, H, a, w, S, m, A, h, hq => by
    refine ⟨fun h0 => hq a w S m env H (A.1 h0) (Step.refl ..) h rfl, fun i hi => ?_⟩
    obtain ⟨o, env1, ho, he, hs, A2⟩ := A.2 i hi
    refine oper_sound hrun hB h he hs ho (fun a1 w1 S1 m1 st1 h1 hd1 => ?_)
    exact any_sound hrun hB fuel _ env1 _ a1 w1 S1 m1 A2 h1 (fun a' w' S' m' env' H' hQ st' h' hd' => hq a' w' S' m' env' H' hQ (st1.trans st') h' (hd'.trans hd1))
end
end Go.Proofs.Ytcamcfplcoklkaa.Iv
