import Derived.Test.YtcamcfplcoklkaaI26
import Derived.Still
namespace Go.Proofs.Ytcamcfplcoklkaa.Iv
open Go
set_option linter.unusedVariables false
set_option linter.unusedSimpArgs false

/-! ### regions that draw their order: whatever order, the same comes out -/
theorem evOper_env {P : Program} {call : Nat → List V → Heap → Option (V × Heap)} {pol : Nat → Pol} {ops : Array Oper} {k : Nat} {o : Oper} {env env' : List V} {H : Heap}
    (h : ∀ t ∈ o.looksAt ops, env'.getD t .und = env.getD t .und) : evOper P call pol ops k o env' H = evOper P call pol ops k o env H := by
  have hw : wantV ops env' o.guard = wantV ops env o.guard := by
    cases hg : o.guard with
    | none => rfl
    | some p =>
      obtain ⟨j, b⟩ := p
      simp only [wantV]
      cases ht : (ops[j]?).bind (·.dst) with
      | none => rfl
      | some t =>
        simp only
        rw [h t (by simp only [Oper.looksAt, hg, ht, List.mem_append]; exact .inr (by simp))]
  have ho : evOp P call pol H (evOperand env') (o.dst.getD (1000 + k)) o.op = evOp P call pol H (evOperand env) (o.dst.getD (1000 + k)) o.op := evOp_env (fun x hx => by
    cases x with
    | tmp t => exact h t (by simp only [Oper.looksAt, List.mem_append, List.mem_filterMap]; exact .inl ⟨.tmp t, by simpa using hx, rfl⟩)
    | _ => rfl)
  unfold evOper
  rw [hw, ho]
theorem evOper_loc {P : Program} {call : Nat → List V → Heap → Option (V × Heap)} {pol : Nat → Pol} {ops : Array Oper} {k : Nat} {o : Oper} {env : List V} {H H' : Heap} {out : Out}
    (he : evOper P call pol ops k o env H = some out) (hl : ∀ i ∈ out.rd, H' i = H i) : evOper P call pol ops k o env H' = some out := by
  unfold evOper at he ⊢
  split at he
  · exact evOp_loc he hl
  · exact he
  · cases he

theorem setV_get {env env' : List V} {d : Option Nat} {v : V} (h : setV env d v = some env') {t : Nat} (ht : ∀ q, d = some q → q ≠ t) : env'.getD t .und = env.getD t .und := by
  cases d with
  | none => simp only [setV, Option.some.injEq] at h; subst h; rfl
  | some q =>
    simp only [setV] at h
    split at h
    · cases h; simp [List.getD, List.getElem?_set_ne (ht q rfl)]
    · cases h
theorem setV_len {env env' : List V} {d : Option Nat} {v : V} (h : setV env d v = some env') : env'.length = env.length := by
  cases d with
  | none => simp only [setV, Option.some.injEq] at h; subst h; rfl
  | some q =>
    simp only [setV] at h
    split at h
    · cases h; simp
    · cases h
theorem setV_swap {env e1 e12 : List V} {d1 d2 : Option Nat} {v1 v2 : V} (h1 : setV env d1 v1 = some e1) (h2 : setV e1 d2 v2 = some e12) (hne : ∀ d, d1 = some d → d2 ≠ some d) :
    ∃ e2, setV env d2 v2 = some e2 ∧ setV e2 d1 v1 = some e12 := by
  cases d1 with
  | none =>
    simp only [setV, Option.some.injEq] at h1; subst h1
    exact ⟨e12, h2, rfl⟩
  | some a =>
    cases d2 with
    | none =>
      simp only [setV, Option.some.injEq] at h2; subst h2
      exact ⟨env, rfl, h1⟩
    | some b =>
      have hab : a ≠ b := fun e => hne a rfl (by rw [e])
      simp only [setV] at h1 h2 ⊢
      split at h1
      · rename_i ha
        cases h1
        split at h2
        · rename_i hb
          cases h2
          simp only [List.length_set] at hb
          refine ⟨env.set b v2, by rw [if_pos hb], ?_⟩
          simp only [List.length_set]
          rw [if_pos ha, List.set_comm _ _ hab]
        · cases h2
      · cases h1

theorem set_swap {H : Heap} {i j : Id} {a b : Blk} (h : i ≠ j) : (H.set i a).set j b = (H.set j b).set i a := by
  funext k
  unfold Heap.set
  by_cases h1 : k = i
  · subst h1
    simp [h]
  · simp [h1]
theorem sets_set {H : Heap} {i : Id} {a : Blk} : ∀ (r : List (Id × Blk)), i ∉ r.map (·.1) → (H.set i a).sets r = (H.sets r).set i a
  | [], _ => rfl
  | (j, b) :: r, h => by
    simp only [List.map_cons, List.mem_cons, not_or] at h
    simp only [Heap.sets]
    rw [set_swap h.1]
    exact sets_set r h.2
theorem sets_swap : ∀ (a b : List (Id × Blk)) {H : Heap}, (∀ x ∈ a.map (·.1), x ∉ b.map (·.1)) → (H.sets a).sets b = (H.sets b).sets a
  | [], b, H, _ => rfl
  | (i, x) :: r, b, H, h => by
    simp only [Heap.sets]
    rw [sets_swap r b (fun y hy => h y (by simp [hy])), sets_set b (h i (by simp))]

/-- Two outcomes that do not meet. -/
def Indep (a b : Out) : Prop := (∀ x ∈ a.ups.map (·.1), x ∉ b.rd ∧ x ∉ b.ups.map (·.1)) ∧ (∀ x ∈ b.ups.map (·.1), x ∉ a.rd)

section
variable (P : Program) (call : Nat → List V → Heap → Option (V × Heap)) (pol : Nat → Pol) (ops : Array Oper) (L : Nat → Out)

/-- From here on whatever is ready may come next, and it comes to what L says. -/
def AnyA (Qf : List V → Heap → Prop) : Nat → Array Bool → List V → Heap → Prop
  | 0, listed, env, H => Region.ready .any ops listed = [] ∧ Qf env H
  | fuel + 1, listed, env, H => (Region.ready .any ops listed = [] → Qf env H) ∧
    ∀ i ∈ Region.ready .any ops listed, ∃ o env', ops[i]? = some o ∧ evOper P call pol ops i o env H = some (L i) ∧ setV env o.dst (L i).v = some env' ∧
      AnyA Qf fuel (listed.setIfInBounds i true) env' (H.sets (L i).ups)

/-- closed: whatever something that is listed waits for is listed -/
def Closed (listed : Array Bool) : Prop := ∀ j oj, ops[j]? = some oj → listed.getD j false = true → ∀ e ∈ oj.after, Region.binds .any e = true → listed.getD e.on false = true
/-- j may come before i -/
def May (j i : Nat) : Prop := ∃ listed, Closed ops listed ∧ listed.getD i true = false ∧ j ∈ Region.ready .any ops listed

variable {P call pol ops L}
theorem Closed.set {listed : Array Bool} (h : Closed ops listed) {i : Nat} (hi : i ∈ Region.ready .any ops listed) : Closed ops (listed.setIfInBounds i true) := by
  obtain ⟨_, oi, hoi, hall⟩ := mem_ready.1 hi
  intro j oj hj hl e he hb
  by_cases hij : i = j
  · subst hij
    rw [hoi] at hj; cases hj
    exact getD_set_true (hall e he hb)
  · rw [getD_set_ne false hij] at hl
    exact getD_set_true (h j oj hj hl e he hb)

theorem first_any {Qf : List V → Heap → Prop} {i : Nat} {oi : Oper} (hi : ops[i]? = some oi) (U : Nat → Prop)
    (hfree : ∀ j oj, ops[j]? = some oj → j ≠ i → U j → May ops j i → oi.apart ops oj = true ∧ Indep (L i) (L j)) :
    ∀ (fuel : Nat) (listed : Array Bool) (env env1 : List V) (H : Heap), (∀ j, listed.getD j true = false → U j) → Closed ops listed → i ∈ Region.ready .any ops listed → evOper P call pol ops i oi env H = some (L i) →
      setV env oi.dst (L i).v = some env1 → AnyA P call pol ops L Qf fuel (listed.setIfInBounds i true) env1 (H.sets (L i).ups) → AnyA P call pol ops L Qf (fuel + 1) listed env H := by
  intro fuel
  induction fuel with
  | zero =>
    intro listed env env1 H hU hc hr he hs A
    refine ⟨fun h => (by rw [h] at hr; cases hr), fun j hj => ?_⟩
    by_cases hji : j = i
    · subst hji; exact ⟨oi, env1, hi, he, hs, A⟩
    · have := ready_mono hj hji
      rw [A.1] at this; cases this
  | succ fuel ih =>
    intro listed env env1 H hU hc hr he hs A
    refine ⟨fun h => (by rw [h] at hr; cases hr), fun j hj => ?_⟩
    by_cases hji : j = i
    · subst hji; exact ⟨oi, env1, hi, he, hs, A⟩
    · obtain ⟨oj, env12, hoj, hej, hsj, A2⟩ := A.2 j (ready_mono hj hji)
      have hun := (mem_ready.1 hr).1
      obtain ⟨hap, hin⟩ := hfree j oj hoj hji (hU j (mem_ready.1 hj).1) ⟨listed, hc, hun, hj⟩
      obtain ⟨a1, a2, a3⟩ := Oper.apart_spec hap
      obtain ⟨env2, hs2, hs12⟩ := setV_swap hs hsj a2
      have hej' : evOper P call pol ops j oj env H = some (L j) := by
        have h1 : evOper P call pol ops j oj env (H.sets (L i).ups) = some (L j) := by
          rw [← hej]
          exact (evOper_env (fun t ht => setV_get hs (fun q hq e => a1 q hq (e ▸ ht)))).symm
        refine evOper_loc h1 (fun x hx => ?_)
        exact (sets_out H _ x (fun hm => (hin.1 x hm).1 hx)).symm
      have hei' : evOper P call pol ops i oi env2 (H.sets (L j).ups) = some (L i) := by
        have h1 : evOper P call pol ops i oi env2 H = some (L i) := by
          rw [← he]
          exact evOper_env (fun t ht => setV_get hs2 (fun q hq e => a3 q hq (e ▸ ht)))
        exact evOper_loc h1 (fun x hx => sets_out H _ x (fun hm => hin.2 x hm hx))
      refine ⟨oj, env2, hoj, hej', hs2, ?_⟩
      refine ih (listed.setIfInBounds j true) env2 env12 _ (fun q hq => hU q (by
        by_cases e : j = q
        · subst e
          exact (mem_ready.1 hj).1
        · rw [getD_set_ne true e] at hq; exact hq)) (hc.set hj) (ready_mono hr (Ne.symm hji)) hei' hs12 ?_
      rw [← sets_swap _ _ (fun x hx => (hin.1 x hx).2), Array.setIfInBounds_comm _ _ hji]
      exact A2

/-- the machine's own walk through such a region -/
theorem any_sound (hrun : RunOK P call) {K B : Nat → Prop} (hB : ∀ rb, B rb → K rb) {Qf : List V → Heap → Prop} {r : Option Nat} {n : Nat} {Q : Exit → Act → World → Prop} :
    ∀ (fuel : Nat) (listed : Array Bool) (env : List V) (H : Heap) (a : Act) (w : World) (S : Nat → Prop) (m : Map), AnyA P call pol ops L Qf fuel listed env H → Fit K B env a w S m H →
      (∀ a' w' S' m' env' H', Qf env' H' → Step K w S m w' S' m' → Fit K B env' a' w' S' m' H' → a'.defers = a.defers → Q .normal a' w') → wpAnyIn (Fw r) n P .any ops Q fuel listed a w
  | 0, listed, env, H, a, w, S, m, A, h, hq => ⟨A.1, hq a w S m env H A.2 (Step.refl ..) h rfl⟩
  | fuel + 1, listed, env, H, a, w, S, m, A, h, hq => by
    refine ⟨fun h0 => hq a w S m env H (A.1 h0) (Step.refl ..) h rfl, fun i hi => ?_⟩
    obtain ⟨o, env1, ho, he, hs, A2⟩ := A.2 i hi
    refine oper_sound hrun hB h he hs ho (fun a1 w1 S1 m1 st1 h1 hd1 => ?_)
    exact any_sound hrun hB fuel _ env1 _ a1 w1 S1 m1 A2 h1 (fun a' w' S' m' env' H' hQ st' h' hd' => hq a' w' S' m' env' H' hQ (st1.trans st') h' (hd'.trans hd1))
end
end Go.Proofs.Ytcamcfplcoklkaa.Iv
