import Derived.Test.YtcamcfplcoklkaaJ1
namespace Go.Proofs.Ytcamcfplcoklkaa.Iv
open Go
set_option linter.unusedVariables false
set_option linter.unusedSimpArgs false

/-! ### what holds behind a piece of code, told from its end -/
abbrev KQ := Ex → List V → Heap → Prop
abbrev CallW := Nat → List V → Heap → (V → Heap → Prop) → Prop
abbrev LoopW := Code → List V → Heap → KQ → Prop

def isVCall : Op → Bool
  | .call { callee := .value _, .. } => true
  | _ => false

section
variable (P : Program) (pol : Nat → Pol) (cl : CallW) (lp : LoopW)

def outW (o : Option Out) (Q : Out → Prop) : Prop :=
  match o with
  | some o => Q o
  | none => False
def wCall (H : Heap) (d f : Nat) (args : List V) (Q : Out → Prop) : Prop :=
  match callPre pol H f args with
  | some p => cl f p.as p.Hin fun r H' => outW (callPost pol H d f p r H') Q
  | none => False
def wOp (H : Heap) (ρ : Operand → V) (d : Nat) (op : Op) (Q : Out → Prop) : Prop :=
  match op with
  | .call { callee := .value f, args, .. } => match ρ f with
    | .fn f cap => wCall pol cl H d f (args.toList.map ρ ++ cap) Q
    | _ => False
  | op => outW (evOp P (fun _ _ _ => none) pol H ρ d op) Q
def gate (w : Option Bool) (run : (Out → Prop) → Prop) (Q : Out → Prop) : Prop :=
  match w with
  | some true => run Q
  | some false => Q ⟨.und, [], []⟩
  | none => False
def wOper (ops : Array Oper) (k : Nat) (o : Oper) (env : List V) (H : Heap) (Q : Out → Prop) : Prop :=
  gate (wantV ops env o.guard) (wOp P pol cl H (evOperand env) (o.dst.getD (1000 + k)) o.op) Q
def setW (env : List V) (d : Option Nat) (v : V) (Q : List V → Prop) : Prop :=
  match setV env d v with
  | some env => Q env
  | none => False
def wOps (ops : Array Oper) : List Oper → Nat → List V → Heap → (List V → Heap → Prop) → Prop
  | [], _, env, H, Q => Q env H
  | o :: r, k, env, H, Q => wOper P pol cl ops k o env H fun out => setW env o.dst out.v fun env => wOps ops r (k + 1) env (H.sets out.ups) Q
def wOpsL (ops : Array Oper) : List Oper → Nat → List V → Heap → Log → (List V → Heap → Log → Prop) → Prop
  | [], _, env, H, lg, Q => Q env H lg
  | o :: r, k, env, H, lg, Q => wOper P pol cl ops k o env H fun out => setW env o.dst out.v fun env => wOpsL ops r (k + 1) env (H.sets out.ups) ((k, out.rd, out.ups.map (·.1)) :: lg) Q

def wItems (env : List V) (round : List V → Heap → KQ → Prop) : List (List V) → Heap → KQ → Prop
  | [], H, Q => Q .nrm env H
  | x :: r, H, Q => round x H fun ex _ H => match ex with
    | .nrm => wItems env round r H Q
    | .exit i => Q (.exit i) env H
    | .ret => Q .ret env H
def twoW (ps : List Nat) (env : List V) (as body : List V → Heap → KQ → Prop) (x : List V) (H : Heap) (Q : KQ) : Prop :=
  match putAll ps x env with
  | some e => as e H fun ex e H => match ex with
    | .nrm => body e H Q
    | _ => False
  | none => False
def wC : Code → List V → Heap → KQ → Prop
  | .skip, env, H, Q => Q .nrm env H
  | .label _, env, H, Q => Q .nrm env H
  | .ret, env, H, Q => Q .ret env H
  | .exit id, env, H, Q => Q (.exit id) env H
  | .seq a b, env, H, Q => wC a env H fun ex env H => match ex with
    | .nrm => wC b env H Q
    | .exit i => Q (.exit i) env H
    | .ret => Q .ret env H
  | .cond c a b, env, H, Q => match evOperand env c with
    | .bool true => wC a env H Q
    | .bool false => wC b env H Q
    | _ => False
  | .block id c, env, H, Q => wC c env H fun ex env H => match ex with
    | .exit j => if j = id then Q .nrm env H else Q (.exit j) env H
    | .nrm => Q .nrm env H
    | .ret => Q .ret env H
  | .scope c, env, H, Q => wC c env H Q
  | .loop c, env, H, Q => lp c env H Q
  | .region _ ops false, env, H, Q => wOps P pol cl ops ops.toList 0 env H (Q .nrm)
  | .region _ ops true, env, H, Q => wOpsL P pol cl ops ops.toList 0 env H [] fun env H lg => logOk ops lg = true ∧ Q .nrm env H
  | .rangeFunc g ps assign body, env, H, Q => match evOperand env g with
    | .fn k cap => match seqOf pol k cap with
      | some items => if flatC assign && flatC body then wItems env (twoW ps.toList env (wC assign) (wC body)) items H Q else False
      | none => False
    | _ => False
  | _, _, _, _ => False
end

/-- A call goes so. -/
def CallR (K : Cfg) : CallW := fun f args H Q => ∃ n r H', run K n f args H = some (r, H') ∧ Q r H'
/-- A loop goes so. -/
def LoopR (K : Cfg) : LoopW := fun c env H Q => ∃ n ex env' H', again K n (.loop c) env H = some (ex, env', H') ∧ Q ex env' H'

theorem outW_some {o : Option Out} {Q : Out → Prop} (h : outW o Q) : ∃ x, o = some x ∧ Q x := by
  cases o with
  | none => exact h.elim
  | some x => exact ⟨x, rfl, h⟩
theorem setW_some {env : List V} {d : Option Nat} {v : V} {Q : List V → Prop} (h : setW env d v Q) : ∃ e, setV env d v = some e ∧ Q e := by
  unfold setW at h
  cases hs : setV env d v with
  | none => rw [hs] at h; exact h.elim
  | some e => rw [hs] at h; exact ⟨e, rfl, h⟩

variable {K : Cfg}
theorem wCall_sound {H : Heap} {d f : Nat} {args : List V} {Q : Out → Prop} (h : wCall K.pol (CallR K) H d f args Q) : ∃ n o, evCall (run K n) K.pol H d f args = some o ∧ Q o := by
  unfold wCall at h
  cases hp : callPre K.pol H f args with
  | none => rw [hp] at h; exact h.elim
  | some p =>
    rw [hp] at h
    obtain ⟨n, r, H', hr, hq⟩ := h
    obtain ⟨o, ho, hq⟩ := outW_some hq
    exact ⟨n, o, by rw [evCall_eq, hp]; simp only; rw [hr]; exact ho, hq⟩
theorem none_le (c : CallF) : LeC (fun _ _ _ => none) c := fun f a H r he => by cases he
theorem wOp_sound {H : Heap} {ρ : Operand → V} {d : Nat} {op : Op} {Q : Out → Prop} (h : wOp K.P K.pol (CallR K) H ρ d op Q) : ∃ n o, evOp K.P (run K n) K.pol H ρ d op = some o ∧ Q o := by
  unfold wOp at h
  split at h
  · rename_i f args ts
    split at h
    · rename_i g cap hf
      obtain ⟨n, o, ho, hq⟩ := wCall_sound h
      exact ⟨n, o, by simp only [evOp, hf]; exact ho, hq⟩
    · exact h.elim
  · obtain ⟨o, ho, hq⟩ := outW_some h
    exact ⟨0, o, evOp_mono (none_le _) ho, hq⟩
theorem wOper_sound {ops : Array Oper} {k : Nat} {o : Oper} {env : List V} {H : Heap} {Q : Out → Prop} (h : wOper K.P K.pol (CallR K) ops k o env H Q) :
    ∃ n out, evOper K.P (run K n) K.pol ops k o env H = some out ∧ Q out := by
  unfold wOper gate at h
  split at h
  · rename_i hw
    obtain ⟨n, out, ho, hq⟩ := wOp_sound h
    exact ⟨n, out, by unfold evOper; rw [hw]; exact ho, hq⟩
  · rename_i hw
    exact ⟨0, _, by unfold evOper; rw [hw], h⟩
  · exact h.elim
theorem evOper_mono {P : Program} {c c' : CallF} (h : LeC c c') {pol : Nat → Pol} {ops : Array Oper} {k : Nat} {o : Oper} {env : List V} {H : Heap} {out : Out} (he : evOper P c pol ops k o env H = some out) :
    evOper P c' pol ops k o env H = some out := by
  unfold evOper at he ⊢
  split at he
  · exact evOp_mono h he
  · exact he
  · cases he
theorem wOpsL_sound {ops : Array Oper} : ∀ {l : List Oper} {k : Nat} {env : List V} {H : Heap} {lg : Log} {Q : List V → Heap → Log → Prop}, wOpsL K.P K.pol (CallR K) ops l k env H lg Q →
    ∃ n env' H' lg', evOps K.P (run K n) K.pol ops l k env H lg = some (env', H', lg') ∧ Q env' H' lg'
  | [], k, env, H, lg, Q, h => ⟨0, env, H, lg, rfl, h⟩
  | o :: l, k, env, H, lg, Q, h => by
    obtain ⟨n, out, ho, h⟩ := wOper_sound h
    obtain ⟨e, hs, h⟩ := setW_some h
    obtain ⟨n', env', H', lg', hr, hq⟩ := wOpsL_sound h
    refine ⟨max n n', env', H', lg', ?_, hq⟩
    simp only [evOps]
    rw [evOper_mono (run_mono K (Nat.le_max_left n n')) ho]
    simp only
    rw [hs]
    exact evOps_mono (run_mono K (Nat.le_max_right n n')) hr
theorem wOps_log {cl : CallW} {P : Program} {pol : Nat → Pol} (hm : ∀ f a H Q Q', (∀ r H', Q r H' → Q' r H') → cl f a H Q → cl f a H Q') {ops : Array Oper} : ∀ {l : List Oper} {k : Nat} {env : List V} {H : Heap} {Q : List V → Heap → Prop} (lg : Log), wOps P pol cl ops l k env H Q → wOpsL P pol cl ops l k env H lg fun e h _ => Q e h
  | [], k, env, H, Q, lg, h => h
  | o :: l, k, env, H, Q, lg, h => by
    have key : ∀ {q q' : Out → Prop}, (∀ x, q x → q' x) → wOper P pol cl ops k o env H q → wOper P pol cl ops k o env H q' := by
      intro q q' hq hh
      unfold wOper gate at hh ⊢
      split at hh
      · unfold wOp at hh ⊢
        split at hh
        · split at hh
          · unfold wCall at hh ⊢
            cases hp : callPre pol H _ _ with
            | none => rw [hp] at hh; exact hh
            | some p =>
              rw [hp] at hh
              refine hm _ _ _ _ _ (fun r H' h1 => ?_) hh
              obtain ⟨x, hx, h2⟩ := outW_some h1
              rw [hx]; exact hq _ h2
          · exact hh
        · obtain ⟨x, hx, h2⟩ := outW_some hh
          rw [hx]; exact hq _ h2
      · exact hq _ hh
      · exact hh
    refine key (fun x hx => ?_) h
    obtain ⟨e, hs, h2⟩ := setW_some hx
    unfold setW
    rw [hs]
    exact wOps_log hm _ h2
theorem CallR.mono {f : Nat} {args : List V} {H : Heap} {Q Q' : V → Heap → Prop} (h : CallR K f args H Q) (hq : ∀ r H', Q r H' → Q' r H') : CallR K f args H Q' :=
  let ⟨n, r, H', hr, q⟩ := h; ⟨n, r, H', hr, hq _ _ q⟩
theorem LoopR.mono {c : Code} {env : List V} {H : Heap} {Q Q' : KQ} (h : LoopR K c env H Q) (hq : ∀ ex e h, Q ex e h → Q' ex e h) : LoopR K c env H Q' :=
  let ⟨n, ex, e, H', hr, q⟩ := h; ⟨n, ex, e, H', hr, hq _ _ _ q⟩

theorem wItems_sound {as body : Code} {ps : List Nat} {env0 : List V}
    (ha : ∀ {env : List V} {H : Heap} {Q : KQ}, wC K.P K.pol (CallR K) (LoopR K) as env H Q → ∃ n ex env' H', evC K.P (run K n) K.pol (again K n) as env H = some (ex, env', H') ∧ Q ex env' H')
    (hb : ∀ {env : List V} {H : Heap} {Q : KQ}, wC K.P K.pol (CallR K) (LoopR K) body env H Q → ∃ n ex env' H', evC K.P (run K n) K.pol (again K n) body env H = some (ex, env', H') ∧ Q ex env' H') :
    ∀ {l : List (List V)} {H : Heap} {Q : KQ}, wItems env0 (twoW ps env0 (wC K.P K.pol (CallR K) (LoopR K) as) (wC K.P K.pol (CallR K) (LoopR K) body)) l H Q →
      ∃ n ex env' H', evItems env0 (twoC ps env0 (evC K.P (run K n) K.pol (again K n) as) (evC K.P (run K n) K.pol (again K n) body)) l H = some (ex, env', H') ∧ Q ex env' H'
  | [], H, Q, h => ⟨0, _, _, _, rfl, h⟩
  | x :: l, H, Q, h => by
    simp only [wItems] at h
    unfold twoW at h
    cases hp : putAll ps x env0 with
    | none => rw [hp] at h; exact h.elim
    | some e =>
      rw [hp] at h
      obtain ⟨n1, ex1, e1, H1, h1, h2⟩ := ha h
      cases ex1 with
      | exit i => exact h2.elim
      | ret => exact h2.elim
      | nrm =>
        obtain ⟨n2, ex2, e2, H2, h3, h4⟩ := hb h2
        have key : ∀ n, n1 ≤ n → n2 ≤ n → twoC ps env0 (evC K.P (run K n) K.pol (again K n) as) (evC K.P (run K n) K.pol (again K n) body) x H = some (ex2, e2, H2) := fun n q1 q2 => by
          unfold twoC
          rw [hp]
          simp only
          rw [evC_mono (run_mono K q1) (again_mono K q1) h1]
          exact evC_mono (run_mono K q2) (again_mono K q2) h3
        cases ex2 with
        | nrm =>
          obtain ⟨n3, ex3, e3, H3, h5, h6⟩ := wItems_sound ha hb (show wItems env0 _ l H2 Q from h4)
          refine ⟨max (max n1 n2) n3, ex3, e3, H3, ?_, h6⟩
          simp only [evItems]
          rw [key _ (by omega) (by omega)]
          have q3 : n3 ≤ max (max n1 n2) n3 := Nat.le_max_right _ _
          exact evItems_mono (fun x H r h => twoC_mono (fun h => evC_mono (run_mono K q3) (again_mono K q3) h) (fun h => evC_mono (run_mono K q3) (again_mono K q3) h) h) h5
        | exit i =>
          refine ⟨max n1 n2, _, env0, H2, ?_, h4⟩
          simp only [evItems]
          rw [key _ (by omega) (by omega)]
        | ret =>
          refine ⟨max n1 n2, _, env0, H2, ?_, h4⟩
          simp only [evItems]
          rw [key _ (by omega) (by omega)]
theorem wC_sound : ∀ {c : Code} {env : List V} {H : Heap} {Q : KQ}, wC K.P K.pol (CallR K) (LoopR K) c env H Q →
    ∃ n ex env' H', evC K.P (run K n) K.pol (again K n) c env H = some (ex, env', H') ∧ Q ex env' H' := by
  intro c
  induction c with
  | skip => intro env H Q h; exact ⟨0, _, _, _, rfl, h⟩
  | label => intro env H Q h; exact ⟨0, _, _, _, rfl, h⟩
  | ret => intro env H Q h; exact ⟨0, _, _, _, rfl, h⟩
  | exit => intro env H Q h; exact ⟨0, _, _, _, rfl, h⟩
  | goto => intro env H Q h; exact h.elim
  | refuse => intro env H Q h; exact h.elim
  | rangeFunc g ps as body iha ihb =>
    intro env H Q h
    simp only [wC] at h
    split at h
    · rename_i k cap hv
      split at h
      · rename_i items hi
        split at h
        · rename_i hf
          obtain ⟨n, ex, e, H', h1, h2⟩ := wItems_sound (K := K) (as := as) (body := body) (fun h => iha h) (fun h => ihb h) h
          exact ⟨n, ex, e, H', by simp only [evC]; rw [hv]; simp only; rw [hi]; simp only; rw [if_pos hf]; exact h1, h2⟩
        · exact h.elim
      · exact h.elim
    · exact h.elim
  | seq a b iha ihb =>
    intro env H Q h
    obtain ⟨n, ex, e, H1, h1, h2⟩ := iha (show wC K.P K.pol (CallR K) (LoopR K) a env H _ from h)
    cases ex with
    | nrm =>
      obtain ⟨n', ex', e', H', h3, h4⟩ := ihb h2
      refine ⟨max n n', ex', e', H', ?_, h4⟩
      simp only [evC]
      rw [evC_mono (run_mono K (Nat.le_max_left n n')) (again_mono K (Nat.le_max_left n n')) h1]
      exact evC_mono (run_mono K (Nat.le_max_right n n')) (again_mono K (Nat.le_max_right n n')) h3
    | exit i => exact ⟨n, _, e, H1, by simp only [evC]; rw [h1], h2⟩
    | ret => exact ⟨n, _, e, H1, by simp only [evC]; rw [h1], h2⟩
  | cond t a b iha ihb =>
    intro env H Q h
    simp only [wC] at h
    split at h
    · rename_i ht
      obtain ⟨n, ex, e, H1, h1, h2⟩ := iha h
      exact ⟨n, ex, e, H1, by simp only [evC]; rw [ht]; exact h1, h2⟩
    · rename_i ht
      obtain ⟨n, ex, e, H1, h1, h2⟩ := ihb h
      exact ⟨n, ex, e, H1, by simp only [evC]; rw [ht]; exact h1, h2⟩
    · exact h.elim
  | block id a ih =>
    intro env H Q h
    obtain ⟨n, ex, e, H1, h1, h2⟩ := ih (show wC K.P K.pol (CallR K) (LoopR K) a env H _ from h)
    cases ex with
    | nrm => exact ⟨n, _, e, H1, by simp only [evC]; rw [h1], h2⟩
    | ret => exact ⟨n, _, e, H1, by simp only [evC]; rw [h1], h2⟩
    | exit j =>
      simp only at h2
      by_cases hj : j = id
      · rw [if_pos hj] at h2
        exact ⟨n, _, e, H1, by simp only [evC]; rw [h1]; simp only; rw [if_pos hj], h2⟩
      · rw [if_neg hj] at h2
        exact ⟨n, _, e, H1, by simp only [evC]; rw [h1]; simp only; rw [if_neg hj], h2⟩
  | scope a ih => intro env H Q h; exact ih h
  | loop a ih =>
    intro env H Q h
    obtain ⟨n, ex, e, H1, h1, h2⟩ := (show LoopR K a env H Q from h)
    cases n with
    | zero => simp [again] at h1
    | succ n => exact ⟨n, ex, e, H1, h1, h2⟩
  | region id ops draw =>
    intro env H Q h
    cases draw with
    | false =>
      have h0 : wOps K.P K.pol (CallR K) ops ops.toList 0 env H (Q .nrm) := h
      have h1 := wOps_log (cl := CallR K) (fun f a H Q Q' hq (hh : CallR K f a H Q) => hh.mono hq) [] h0
      obtain ⟨n, e, H1, lg, h1, h2⟩ := wOpsL_sound h1
      exact ⟨n, _, e, H1, by simp only [evC]; rw [h1]; simp, h2⟩
    | true =>
      obtain ⟨n, e, H1, lg, h1, h2⟩ := wOpsL_sound (show wOpsL K.P K.pol (CallR K) ops ops.toList 0 env H [] (fun env H lg => logOk ops lg = true ∧ Q .nrm env H) from h)
      exact ⟨n, _, e, H1, by simp only [evC]; rw [h1]; simp [h2.1], h2.2⟩

/-- A round of a loop, and the rest. -/
theorem LoopR.step {c : Code} {env : List V} {H : Heap} {Q : KQ}
    (h : wC K.P K.pol (CallR K) (LoopR K) c env H fun ex e h => match ex with | .nrm => LoopR K c e h Q | .exit i => Q (.exit i) e h | .ret => Q .ret e h) : LoopR K c env H Q := by
  obtain ⟨n, ex, e, H1, h1, h2⟩ := wC_sound h
  cases ex with
  | nrm =>
    obtain ⟨n', ex', e', H', h3, h4⟩ := (show LoopR K c e H1 Q from h2)
    refine ⟨max n n' + 1, ex', e', H', ?_, h4⟩
    show evC K.P (run K (max n n')) K.pol (again K (max n n')) (.loop c) env H = _
    simp only [evC]
    rw [evC_mono (run_mono K (Nat.le_max_left n n')) (again_mono K (Nat.le_max_left n n')) h1]
    exact again_mono K (Nat.le_max_right n n') _ _ _ _ h3
  | exit i =>
    refine ⟨n + 1, _, e, H1, ?_, h2⟩
    show evC K.P (run K n) K.pol (again K n) (.loop c) env H = _
    simp only [evC]; rw [h1]
  | ret =>
    refine ⟨n + 1, _, e, H1, ?_, h2⟩
    show evC K.P (run K n) K.pol (again K n) (.loop c) env H = _
    simp only [evC]; rw [h1]

/-- what a function comes to behind its code -/
def wRes (P : Program) (rs : List ResultVar) (Q : V → Heap → Prop) : KQ := fun ex env H =>
  match ex with
  | .exit _ => False
  | _ => match evResults P H env rs with
    | some [v] => Q v H
    | some vs => Q (.tup vs) H
    | none => False

theorem CallR.body {f : Nat} {fn : Func} {c : Code} {args : List V} {H : Heap} {Q : V → Heap → Prop} (hx : K.ext f = none) (hg : K.good.contains f = true) (hf : K.P.funcs[f]? = some fn) (hb : fn.body = some c)
    (hl : args.length ≤ fn.ntmps) (h : wC K.P K.pol (CallR K) (LoopR K) c (args ++ List.replicate (fn.ntmps - args.length) .und) H (wRes K.P fn.results.toList Q)) : CallR K f args H Q := by
  obtain ⟨n, ex, e, H1, h1, h2⟩ := wC_sound h
  have key : ∀ r, (ex = .nrm ∨ ex = .ret) → (match evResults K.P H1 e fn.results.toList with | some [v] => some (v, H1) | some vs => some (.tup vs, H1) | none => none) = some (r, H1) → run K (n + 1) f args H = some (r, H1) := by
    intro r hex hr
    show evFun K (run K n) (again K n) f args H = _
    unfold evFun
    rw [if_neg (by simp [hx])]
    unfold evBody
    rw [if_pos hg, hf]
    simp only [hb]
    rw [if_pos hl, h1]
    rcases hex with rfl | rfl <;> exact hr
  unfold wRes at h2
  cases ex with
  | exit i => exact h2.elim
  | _ =>
    simp only at h2
    split at h2
    · rename_i v hv; exact ⟨n + 1, v, H1, key v (by simp) (by rw [hv]), h2⟩
    · rename_i vs hne hv
      refine ⟨n + 1, .tup vs, H1, key _ (by simp) ?_, h2⟩
      rw [hv]
      split
      · rename_i v e; cases e; exact absurd rfl (hne _)
      · rename_i e; cases e; rfl
      · rename_i e; cases e
    · exact h2.elim
end Go.Proofs.Ytcamcfplcoklkaa.Iv
