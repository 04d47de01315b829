import Derived.Test.YtcamcfplcoklkaaI22b
import Derived.LoopN
import Derived.Scope
namespace Go.Proofs.Ytcamcfplcoklkaa.Iv
open Go
set_option linter.unusedVariables false
set_option linter.unusedSimpArgs false
section
variable {P : Program} {K B : Nat → Prop} {w : World} {S : Nat → Prop} {m : Map} {H : Heap}

/-- The slots read as they say. -/
structure Fit (K B : Nat → Prop) (env : List V) (a : Act) (w : World) (S : Nat → Prop) (m : Map) (H : Heap) : Prop where
  sr : SR w S K m H
  len : a.tmps.size = env.length
  tr : ∀ t, VR w S B m (env.getD t .und) (a.tmps.getD t undef)

theorem Fit.eval {env : List V} {a : Act} (h : Fit K B env a w S m H) (x : Operand) : VR w S B m (evOperand env x) (a.eval x) := by
  cases x with
  | tmp t => exact h.tr t
  | const v => exact ofVal_VR v
  | func f => exact VR.fn_mk (f := f) (cs := []) (xs := []) trivial
  | global g => exact .und _

theorem Fit.put {env env' : List V} {a : Act} (h : Fit K B env a w S m H) (hB : ∀ rb, B rb → K rb) {dst : Option Tmp} {v : V} (he : setV env dst v = some env') {x : Value} {w' : World} {S' : Nat → Prop} {m' : Map} {H' : Heap}
    (st : Step K w S m w' S' m') (sr : SR w' S' K m' H') (hv : VR w' S' B m' v x) : Fit K B env' (a.put dst x) w' S' m' H' := by
  cases dst with
  | none =>
    simp only [setV, Option.some.injEq] at he; subst he
    exact ⟨sr, h.len, fun t => (h.tr t).mono st hB⟩
  | some d =>
    simp only [setV] at he
    split at he
    · rename_i hd
      cases he
      refine ⟨sr, by simp [Act.put, h.len], fun t => ?_⟩
      have hl := h.len
      by_cases e : t = d
      · subst e
        have h1 : (env.set t v).getD t .und = v := by simp [List.getD, hd]
        have h2 : (a.put (some t) x).tmps.getD t undef = x := by simp [Act.put, Array.getElem?_setIfInBounds, hl, hd]
        rw [h1, h2]; exact hv
      · have h1 : (env.set d v).getD t .und = env.getD t .und := by simp [List.getD, List.getElem?_set_ne (Ne.symm e)]
        have h2 : (a.put (some d) x).tmps.getD t undef = a.tmps.getD t undef := by simp [Act.put, Array.getElem?_setIfInBounds, Ne.symm e]
        rw [h1, h2]; exact (h.tr t).mono st hB
    · cases he

theorem wanted_of {ops : Array Oper} {env : List V} {a : Act} (h : Fit K B env a w S m H) {o : Oper} {b : Bool} (he : wantV ops env o.guard = some b) : Region.wanted o (yielded ops a.tmps) = b := by
  unfold Region.wanted
  unfold wantV at he
  cases hg : o.guard with
  | none => rw [hg] at he; simp at he; subst he; rfl
  | some p =>
    obtain ⟨j, want⟩ := p
    rw [hg] at he
    simp only at he ⊢
    split at he
    · rename_i t ht
      split at he
      · rename_i c hc
        cases he
        have hx := h.tr t
        rw [hc] at hx
        have hx := hx.bool_inv
        have hlt : t < a.tmps.size := by
          rw [h.len]
          rcases Nat.lt_or_ge t env.length with q | q
          · exact q
          · simp [List.getD, List.getElem?_eq_none q] at hc
        have : a.tmps[t]? = some (.bool c) := by
          simp [Array.getD_eq_getD_getElem?, hlt] at hx ⊢
          exact hx
        simp [yielded, ht, this]
      · cases he
    · cases he

/-- One operation of a region, whatever comes behind. -/
theorem oper_sound {call : Nat → List V → Heap → Option (V × Heap)} {pol : Nat → Pol} (hrun : RunOK P call) (hB : ∀ rb, B rb → K rb) {ops : Array Oper} {k : Nat} {o : Oper} {env env' : List V} {a : Act}
    (h : Fit K B env a w S m H) {out : Out} (he : evOper P call pol ops k o env H = some out) (hs : setV env o.dst out.v = some env') (hk : ops[k]? = some o) {r : Option Nat} {n : Nat} {Q : Exit → Act → World → Prop} {next : Act → World → Prop}
    (hn : ∀ a' w' S' m', Step K w S m w' S' m' → Fit K B env' a' w' S' m' (H.sets out.ups) → a'.defers = a.defers → next a' w') : wpOpIn (Fw r) n P ops Q k next a w := by
  have put_defers : ∀ x, (a.put o.dst x).defers = a.defers := fun x => by cases o.dst <;> rfl
  unfold wpOpIn
  simp only [hk]
  unfold evOper at he
  split at he
  · rename_i hw
    rw [if_pos (wanted_of h hw)]
    refine oper_fw (fun c hc => ?_) (evOp_sound hrun h.sr hB h.eval he rfl next Q (fun x w' S' m' st sr hv => hn _ _ _ _ st (h.put hB hs st sr hv) (put_defers x)))
    rw [hc] at he
    simp [evOp] at he
  · rename_i hw
    cases he
    rw [if_neg (by rw [wanted_of h hw]; simp)]
    exact ⟨fun _ _ => trivial, hn _ _ _ _ (Step.refl ..) (h.put hB hs (Step.refl ..) h.sr (.und _)) (put_defers _)⟩
  · cases he

theorem ops_sound {call : Nat → List V → Heap → Option (V × Heap)} {pol : Nat → Pol} (hrun : RunOK P call) (hB : ∀ rb, B rb → K rb) {ops : Array Oper} {r : Option Nat} {n : Nat} {Q : Exit → Act → World → Prop} :
    ∀ (l : List Oper) (k : Nat) (env : List V) (H : Heap) (lg : Log) {env' : List V} {H' : Heap} {lg' : Log} (a : Act) (w : World) (S : Nat → Prop) (m : Map),
      (∀ j, l[j]? = ops[k + j]?) → evOps P call pol ops l k env H lg = some (env', H', lg') → Fit K B env a w S m H →
      (∀ a' w' S' m', Step K w S m w' S' m' → Fit K B env' a' w' S' m' H' → a'.defers = a.defers → Q .normal a' w') → wpOpsIn (Fw r) n P ops Q (List.range' k l.length) a w
  | [], k, env, H, lg, env', H', lg', a, w, S, m, _, he, h, hq => by
    simp only [evOps, Option.some.injEq, Prod.mk.injEq] at he
    obtain ⟨rfl, rfl, rfl⟩ := he
    simpa [wpOpsIn] using hq a w S m (Step.refl ..) h rfl
  | o :: q, k, env, H, lg, env', H', lg', a, w, S, m, hl, he, h, hq => by
    simp only [evOps] at he
    split at he
    · rename_i v us rd ho
      split at he
      · rename_i env1 hs
        have hk : ops[k]? = some o := by simpa using (hl 0).symm
        simp only [List.length_cons, List.range'_succ]
        rw [wpOpsIn_cons]
        refine oper_sound hrun hB h ho hs hk (fun a1 w1 S1 m1 st1 h1 hd1 => ?_)
        exact ops_sound hrun hB q (k + 1) env1 _ _ a1 w1 S1 m1 (fun j => by have := hl (j + 1); simpa [Nat.add_assoc, Nat.add_comm 1 j] using this) he h1
          (fun a' w' S' m' st' h' hd' => hq a' w' S' m' (st1.trans st') h' (hd'.trans hd1))
      · cases he
    · cases he

def ExR : Ex → Exit → Prop
  | .nrm, .normal => True
  | .exit i, .exit j => i = j
  | .ret, .ret => True
  | _, _ => False

/-- What is to be done when the function returns: the marks of ranges over functions, whose rounds have deferred nothing. -/
def Marks (a : Act) (w : World) (a' : Act) (w' : World) : Prop :=
  ∃ ms : List Nat, a'.defers = ms.map mark ++ a.defers ∧ ms.Nodup ∧ ∀ D ∈ ms, w.heap.size ≤ D ∧ w'.heap[D]? = some (.deferred (some []))
theorem Marks.of_eq {a a' : Act} {w w' : World} (h : a'.defers = a.defers) : Marks a w a' w' := ⟨[], by simpa using h, List.nodup_nil, fun _ h => by cases h⟩
theorem Marks.trans {a a1 a2 : Act} {w w1 w2 : World} (h : Marks a w a1 w1) (k : Marks a1 w1 a2 w2) (hk : KeepsOthers w1 w2) (hs : w.heap.size ≤ w1.heap.size) : Marks a w a2 w2 := by
  obtain ⟨ms, h1, h2, h3⟩ := h
  obtain ⟨ns, k1, k2, k3⟩ := k
  refine ⟨ns ++ ms, by rw [k1, h1]; simp, List.nodup_append.2 ⟨k2, h2, fun x hx y hy e => ?_⟩, fun D hD => ?_⟩
  · subst e
    have := (k3 x hx).1
    have := (Array.getElem?_eq_some_iff.1 (h3 x hy).2).1
    omega
  · rcases List.mem_append.1 hD with q | q
    · exact ⟨Nat.le_trans hs (k3 D q).1, (k3 D q).2⟩
    · exact ⟨(h3 D q).1, hk.same D _ (h3 D q).2 rfl⟩

/-- What the ideal machine says of a piece of code is so. -/
def CodeOK (P : Program) (c : Code) (env : List V) (H : Heap) (ex : Ex) (env' : List V) (H' : Heap) : Prop :=
  ∀ (K B : Nat → Prop), (∀ rb, B rb → K rb) → ∀ (r : Option Nat) (n : Nat), (r = none ∨ flatC c = true) → ∀ (a : Act) (w : World) (S : Nat → Prop) (m : Map), Fit K B env a w S m H → ∀ Q : Exit → Act → World → Prop,
    (∀ e a' w' S' m', ExR ex e → Step K w S m w' S' m' → Fit K B env' a' w' S' m' H' → Marks a w a' w' → Q e a' w') → c.wpIn (Fw r) n P Q a w
/-- the same of a loop, whose rounds are counted -/
def LoopOK (P : Program) (c : Code) (env : List V) (H : Heap) (ex : Ex) (env' : List V) (H' : Heap) : Prop :=
  ∃ j, ∀ (K B : Nat → Prop), (∀ rb, B rb → K rb) → ∀ (r : Option Nat) (n : Nat), (r = none ∨ flatC c = true) → ∀ (a : Act) (w : World) (S : Nat → Prop) (m : Map), Fit K B env a w S m H → ∀ Q : Exit → Act → World → Prop,
    (∀ e a' w' S' m', ExR ex e → Step K w S m w' S' m' → Fit K B env' a' w' S' m' H' → Marks a w a' w' → Q e a' w') → roundsW r n P c Q j a w
/-- What the ideal machine says of a region that draws its order is so. -/
def DrawOK (P : Program) (call : Nat → List V → Heap → Option (V × Heap)) (pol : Nat → Pol) (id : Nat) (ops : Array Oper) : Prop :=
  ∀ (env : List V) (H : Heap) (env' : List V) (H' : Heap) (lg : Log), evOps P call pol ops ops.toList 0 env H [] = some (env', H', lg) → logOk ops lg = true →
    CodeOK P (.region id ops true) env H .nrm env' H'

/-- the regions of a piece of code that draw -/
def drawn : Code → List (Nat × Array Oper)
  | .region id ops true => [(id, ops)]
  | .seq a b => drawn a ++ drawn b
  | .cond _ a b => drawn a ++ drawn b
  | .block _ c => drawn c
  | .scope c => drawn c
  | .loop c => drawn c
  | .rangeFunc _ _ a b => drawn a ++ drawn b
  | _ => []

/-- What hands on its elements one by one does so. -/
def SeqOK (P : Program) (pol : Nat → Pol) : Prop :=
  ∀ (g : Nat) (cap : List V) (items : List (List V)), seqOf pol g cap = some items → Enters P g ∧ ∀ (w : World) (S B : Nat → Prop) (m : Map) (lb : List Value), (∀ rb, S rb → ∃ o : Obj, w.heap[rb]? = some o ∧ o.isCells = true) → (∀ rb, B rb → rb < w.heap.size) → All2 (VR w S B m) cap lb →
    SeqRun P g lb.toArray items.length (fun k W x => ∃ it x0, items[k]? = some it ∧ x = x0.toArray ∧ All2 (VR W S B m) it x0) (fun rb => S rb ∨ B rb) w

/-- the jump that is left behind -/
def jumpOf : Ex → Code
  | .ret => .ret
  | .exit i => .exit i
  | .nrm => .skip

theorem enters_run {P : Program} {f : Nat} (h : Enters P f) (args : Array Value) (w : World) : (callFunc f args).run P w = .ok (.enter f args) w := by
  obtain ⟨fn, f1, f2, f3⟩ := h
  have hnone : fn.body.isNone = false := by cases hb : fn.body <;> simp_all
  have f3' : ¬ (fn.name = "runtime.NumGoroutine") := by simpa using f3
  simp only [callFunc, run_program, f1, Sem.run_bind, Result.andThen_ok]
  simp [f3', hnone]

theorem put_all : ∀ {ps : List Nat} {it env e : List V} {x : List Value} {t : Array Value}, putAll ps it env = some e → All2 (VR w S B m) it x → t.size = env.length → (∀ q, VR w S B m (env.getD q .und) (t.getD q undef)) →
    x.length = ps.length ∧ e.length = env.length ∧ ((ps.zip x).foldl (fun t (p, v) => t.setIfInBounds p v) t).size = e.length ∧ ∀ q, VR w S B m (e.getD q .und) (((ps.zip x).foldl (fun t (p, v) => t.setIfInBounds p v) t).getD q undef)
  | [], [], env, e, [], t, he, _, hl, ht => by simp only [putAll, Option.some.injEq] at he; subst he; exact ⟨rfl, rfl, hl, ht⟩
  | [], [], _, _, _ :: _, _, _, hx, _, _ => hx.elim
  | [], _ :: _, _, _, _, _, he, _, _, _ => by simp [putAll] at he
  | _ :: _, [], _, _, _, _, he, _, _, _ => by simp [putAll] at he
  | _ :: _, _ :: _, _, _, [], _, _, hx, _, _ => hx.elim
  | p :: ps, i :: it, env, e, v :: x, t, he, hx, hl, ht => by
    simp only [putAll] at he
    obtain ⟨q1, q2, q3, q4⟩ := put_all (t := t.setIfInBounds p v) he hx.2 (by simp [hl]) (fun q => by
      by_cases e1 : q = p
      · subst e1
        by_cases hlt : q < env.length
        · have h1 : (env.set q i).getD q .und = i := by simp [List.getD, hlt]
          have h2 : (t.setIfInBounds q v).getD q undef = v := by simp [Array.getElem?_setIfInBounds, hl, hlt]
          rw [h1, h2]; exact hx.1
        · have h1 : (env.set q i).getD q .und = .und := by simp [List.getD, hlt]
          rw [h1]; exact .und _
      · have h1 : (env.set p i).getD q .und = env.getD q .und := by simp [List.getD, List.getElem?_set_ne (Ne.symm e1)]
        have h2 : (t.setIfInBounds p v).getD q undef = t.getD q undef := by simp [Array.getElem?_setIfInBounds, Ne.symm e1]
        rw [h1, h2]; exact ht q)
    exact ⟨by simp [q1], by simpa using q2, q3, q4⟩

theorem stepR_scope {b : Frame} {k : List Item} {cs : List Frame} {a : Act} {c : Code} : step P (lone (b.atR a (.code (.scope c) :: k)) cs w) = .next (lone (b.atR a (.code c :: .inScope c :: k)) cs w) :=
  step_lone_go (by simp [stepG, stepG.exec, Frame.atR])
theorem stepR_inScope {b : Frame} {k : List Item} {cs : List Frame} {a : Act} {c : Code} : step P (lone (b.atR a (.inScope c :: k)) cs w) = .next (lone (b.atR a k) cs w) :=
  step_lone_go (by simp [stepG, stepG.exec, Frame.atR])
theorem wpIn_scope {F : Fence} {n : Nat} {Q : Exit → Act → World → Prop} {a : Act} {c : Code} (h : c.wpIn F n P (Exit.noGoto Q) a w) : (Code.scope c).wpIn F n P Q a w := by
  intro b k cs hro hb hr
  have h0 : (lone (b.atR a (.code (.scope c) :: k)) cs w).fenced P F := fenced_calm hb hr rfl
  obtain ⟨e, a₁, w₁, hq, harr⟩ := h b (.inScope c :: k) cs hro hb hr
  cases e with
  | normal => exact ⟨.normal, a₁, w₁, hq, .head h0 stepR_scope (StepsIn.trans harr (.one (fenced_calm hb hr rfl) stepR_inScope))⟩
  | exit id =>
    have hx : exitTo id (.inScope c :: k) = exitTo id k := by simp [exitTo]
    exact ⟨_, a₁, w₁, hq, fun k' hk => .head h0 stepR_scope (harr.1 k' (by rw [hx]; exact hk)), fun hr' hk => let ⟨k₁, h1, h2⟩ := harr.2 hr' (by rw [hx]; exact hk); ⟨k₁, h1, .head h0 stepR_scope h2⟩⟩
  | goto l => exact hq.elim
  | ret => exact ⟨_, a₁, w₁, hq, .of_steps (.one h0 stepR_scope) harr⟩
  | panic ch => exact ⟨_, a₁, w₁, hq, .of_steps (.one h0 stepR_scope) harr⟩
  | outgrown => exact ⟨_, a₁, w₁, hq, .of_steps (.one h0 stepR_scope) harr⟩

theorem evC_sound {call : Nat → List V → Heap → Option (V × Heap)} {pol : Nat → Pol} (hrun : RunOK P call) (hseq : SeqOK P pol) {again : Code → List V → Heap → Res} :
    ∀ (c : Code) (env : List V) (H : Heap) {ex : Ex} {env' : List V} {H' : Heap}, (∀ p ∈ drawn c, DrawOK P call pol p.1 p.2) →
      (∀ c' env H ex env' H', (∀ p ∈ drawn c', p ∈ drawn c) → again (.loop c') env H = some (ex, env', H') → LoopOK P c' env H ex env' H') →
      evC P call pol again c env H = some (ex, env', H') → CodeOK P c env H ex env' H' ∧ ∀ x, c = .loop x → LoopOK P x env H ex env' H' := by
  intro c
  induction c with
  | skip =>
    intro env H ex env' H' _ _ he
    simp only [evC, Option.some.injEq, Prod.mk.injEq] at he
    obtain ⟨rfl, rfl, rfl⟩ := he
    exact ⟨fun K B hB r n hr a w S m h Q hq => wpIn_skip (hq _ a w S m trivial (Step.refl ..) h (.of_eq rfl)), fun x e => by cases e⟩
  | label l =>
    intro env H ex env' H' _ _ he
    simp only [evC, Option.some.injEq, Prod.mk.injEq] at he
    obtain ⟨rfl, rfl, rfl⟩ := he
    exact ⟨fun K B hB r n hr a w S m h Q hq => wpIn_label (hq _ a w S m trivial (Step.refl ..) h (.of_eq rfl)), fun x e => by cases e⟩
  | ret =>
    intro env H ex env' H' _ _ he
    simp only [evC, Option.some.injEq, Prod.mk.injEq] at he
    obtain ⟨rfl, rfl, rfl⟩ := he
    exact ⟨fun K B hB r n hr a w S m h Q hq => wpIn_ret (hq _ a w S m trivial (Step.refl ..) h (.of_eq rfl)), fun x e => by cases e⟩
  | exit id =>
    intro env H ex env' H' _ _ he
    simp only [evC, Option.some.injEq, Prod.mk.injEq] at he
    obtain ⟨rfl, rfl, rfl⟩ := he
    exact ⟨fun K B hB r n hr a w S m h Q hq => wpIn_exit (hq _ a w S m rfl (Step.refl ..) h (.of_eq rfl)), fun x e => by cases e⟩
  | goto l => intro env H ex env' H' _ _ he; simp [evC] at he
  | refuse why => intro env H ex env' H' _ _ he; simp [evC] at he
  | rangeFunc g ps as body iha ihb =>
    intro env H ex env' H' hd hag he
    refine ⟨?_, fun x e => by cases e⟩
    simp only [evC] at he
    have dx : ∀ p ∈ drawn as, p ∈ drawn (.rangeFunc g ps as body) := fun p hp => by simp [drawn, hp]
    have dy : ∀ p ∈ drawn body, p ∈ drawn (.rangeFunc g ps as body) := fun p hp => by simp [drawn, hp]
    split at he
    · rename_i gf cap hgv
      split at he
      · rename_i items hit
        split at he
        · rename_i hfl
          simp only [Bool.and_eq_true] at hfl
          intro K B hB r n hr a w S m h Q hq
          have hrn : r = none := hr.elim id (fun q => by simp [flatC] at q)
          subst hrn
          have hx := h.eval g
          rw [hgv] at hx
          obtain ⟨lb, hge, hlb⟩ := hx.fn_inv
          obtain ⟨hent, hsq⟩ := hseq gf cap items hit
          have hlt : ∀ rb, S rb ∨ B rb → rb < w.heap.size := fun rb q => q.elim (h.sr.sub rb) (fun q => h.sr.kin rb (hB rb q))
          obtain ⟨rnd, hrnd⟩ : ∃ rnd : List V → Heap → Res, rnd = twoC ps.toList env (evC P call pol again as) (evC P call pol again body) := ⟨_, rfl⟩
          rw [← hrnd] at he
          -- the elements
          have same2 : ∀ (o1 o2 : Obj) (rb : Nat), rb < w.heap.size → ((w.alloc o1).alloc o2).heap[rb]? = w.heap[rb]? := fun o1 o2 rb q => by
            rw [RowKit.Below.heap_alloc _ _ _ (by simp; omega), RowKit.Below.heap_alloc _ _ _ q]
          have hrun' : ∀ o1 o2 : Obj, SeqRun P gf lb.toArray items.length (fun k W x => ∃ it x0, items[k]? = some it ∧ x = x0.toArray ∧ All2 (VR W S B m) it x0) (fun rb => S rb ∨ B rb) ((w.alloc o1).alloc o2) := fun o1 o2 =>
            hsq _ S B m lb (fun rb q => by rw [same2 o1 o2 rb (hlt rb (.inl q))]; exact h.sr.scel rb q) (fun rb q => by have := hlt rb (.inr q); simp; omega)
              (hlb.imp' (fun c x _ r => r.mono0 (fun rb q => same2 o1 o2 rb (hlt rb q)) (fun _ q => q) (fun i im q => ⟨im, q, Nat.le_refl _, fun _ => rfl⟩)))
          refine range_fw (gf := gf) (lb := lb.toArray) hge (enters_run hent) (N := items.length) (T := fun rb => S rb ∨ B rb) hlt
            (fun o1 o2 _ _ => hrun' o1 o2)
            (fun k W => ∃ Hk S' m', evItems env rnd (items.drop k) Hk = some (ex, env', H') ∧ Step K w S m W S' m' ∧ SR W S' K m' Hk)
            (fun c W => ∃ S' m', env' = env ∧ ex ≠ .nrm ∧ jumpOf ex = c ∧ Step K w S m W S' m' ∧ SR W S' K m' H')
            (fun k A A' row q hgr hrow => ?_) (fun c A A' row q hgr hrow => ?_) ⟨H, S, m, he, Step.refl .., h.sr⟩ ?_ ?_ ?_
          · obtain ⟨Hk, S', m', q1, q2, q3⟩ := q
            exact ⟨Hk, S', m', q1, q2.grown h.sr hgr (fun r e => (hrow r e).1), q3.grown hgr (fun r e => (hrow r e).2)⟩
          · obtain ⟨S', m', q1, q2, q3, q4, q5⟩ := q
            exact ⟨S', m', q1, q2, q3, q4.grown h.sr hgr (fun r e => (hrow r e).1), q5.grown hgr (fun r e => (hrow r e).2)⟩
          · rintro n' l k x W hk ⟨it0, x0, hit0, rfl, hv0⟩ ⟨Hk, S', m', hev, st, sr⟩ hll ⟨ol, hol, holc⟩
            · rw [List.getElem?_eq_getElem hk] at hit0
              rw [List.drop_eq_getElem_cons hk] at hev
              generalize items[k] = it at hev hit0
              cases hit0
              simp only [evItems] at hev
              obtain ⟨exb, eb, H2, hr2, hev⟩ : ∃ exb eb H2, rnd it0 Hk = some (exb, eb, H2) ∧ (match (some (exb, eb, H2) : Res) with | some (.nrm, _, H) => evItems env rnd (items.drop (k + 1)) H | some (ex, _, H) => some (ex, env, H) | none => none) = some (ex, env', H') := by
                cases hq2 : rnd it0 Hk with
                | none => rw [hq2] at hev; cases hev
                | some t => obtain ⟨exb, eb, H2⟩ := t; rw [hq2] at hev; exact ⟨exb, eb, H2, rfl, hev⟩
              rw [hrnd] at hr2
              unfold twoC at hr2
              split at hr2
              · rename_i e hpe
                split at hr2
                · rename_i e1 H1 hva
                  have hvals : All2 (VR W S' B m') it0 x0 := hv0.imp' (fun c x _ r => r.mono0 (fun _ _ => rfl) st.sub st.ext)
                  obtain ⟨p1, p2, p3, p4⟩ := put_all (t := a.tmps) hpe hvals h.len (fun q => (h.tr q).mono st hB)
                  have hfold : (ps.zip x0.toArray).foldl (fun t (p, v) => t.setIfInBounds p v) a.tmps = (ps.toList.zip x0).foldl (fun t (p, v) => t.setIfInBounds p v) a.tmps := by
                    rw [← Array.foldl_toList, Array.toList_zip]
                  refine ⟨by simpa using p1, ?_⟩
                  rw [hfold]
                  have fitA : Fit K B e { tmps := (ps.toList.zip x0).foldl (fun t (p, v) => t.setIfInBounds p v) a.tmps, defers := [] } W S' m' Hk := ⟨sr, p3, p4⟩
                  refine (iha e Hk (fun p hp => hd p (dx p hp)) (fun c' e h ex e' h' hp hh => hag c' e h ex e' h' (fun p hq => dx p (hp p hq)) hh) hva).1 K B hB (some l) n' (.inr hfl.1) _ W S' m' fitA _ (fun ex2 a1 Wa S2 m2 hex st2 fit2 mk => ?_)
                  cases ex2 <;> first | exact hex.elim | skip
                  have hTS : ∀ rb, S rb ∨ B rb → S' rb ∨ K rb := fun rb q => q.imp (st.sub rb) (hB rb)
                  refine ⟨st2.oth, fun rb q => st2.pres rb (hTS rb q), fun Wb hgb => ?_⟩
                  have hla := st2.oth.same l ol hol holc
                  have hnk : ¬ K l := fun q => by have := h.sr.kin l q; omega
                  have srB : SR Wb S2 K m2 H1 := fit2.sr.grown hgb (fun q e => by cases e; exact ⟨ol, hla, holc⟩)
                  have fitB : Fit K B e1 a1 Wb S2 m2 H1 := ⟨srB, fit2.len, fun t => VR.grown fit2.sr hB hgb (fun q e => by cases e; exact ⟨⟨ol, hla, holc⟩, hnk⟩) (fit2.tr t)⟩
                  refine (ihb e1 H1 (fun p hp => hd p (dy p hp)) (fun c' e h ex e' h' hp hh => hag c' e h ex e' h' (fun p hq => dy p (hp p hq)) hh) hr2).1 K B hB (some l) n' (.inr hfl.2) a1 Wb S2 m2 fitB _ (fun ex3 a3 W3 S3 m3 hex3 st3 fit3 mk3 => ?_)
                  have stAll : Step K w S m W3 S3 m3 := ((st.trans st2).grown h.sr hgb (fun q e => by cases e; exact hll)).trans st3
                  cases exb with
                  | nrm =>
                    cases ex3 <;> first | exact hex3.elim | skip
                    exact ⟨st3.oth, fun rb q => st3.pres rb ((hTS rb q).imp (st2.sub rb) id), H2, S3, m3, hev, stAll, fit3.sr⟩
                  | exit i =>
                    cases ex3 <;> first | exact hex3.elim | skip
                    simp only [Option.some.injEq, Prod.mk.injEq] at hev
                    obtain ⟨rfl, rfl, rfl⟩ := hev
                    have : i = _ := hex3
                    subst this
                    exact ⟨st3.oth, S3, m3, rfl, by simp, rfl, stAll, fit3.sr⟩
                  | ret =>
                    cases ex3 <;> first | exact hex3.elim | skip
                    simp only [Option.some.injEq, Prod.mk.injEq] at hev
                    obtain ⟨rfl, rfl, rfl⟩ := hev
                    exact ⟨st3.oth, S3, m3, rfl, by simp, rfl, stAll, fit3.sr⟩
                · cases hr2
              · cases hr2
          · rintro D W hD ⟨Hk, S', m', hev, st, sr⟩ hK
            rw [List.drop_of_length_le (Nat.le_refl _)] at hev
            simp only [evItems, Option.some.injEq, Prod.mk.injEq] at hev
            obtain ⟨rfl, rfl, rfl⟩ := hev
            exact hq .normal _ W S' m' trivial st ⟨sr, h.len, fun t => (h.tr t).mono st hB⟩ ⟨[D], rfl, by simp, fun D' hD' => by simp at hD'; subst hD'; exact ⟨hD, hK⟩⟩
          · rintro D c W hD ⟨S', m', rfl, hne, rfl, st, sr⟩ hK
            have mk : Marks a w { a with defers := mark D :: a.defers } W := ⟨[D], rfl, by simp, fun D' hD' => by simp at hD'; subst hD'; exact ⟨hD, hK⟩⟩
            cases ex with
            | nrm => exact absurd rfl hne
            | exit i => exact wpIn_exit (hq (.exit i) _ W S' m' rfl st ⟨sr, h.len, fun t => (h.tr t).mono st hB⟩ mk)
            | ret => exact wpIn_ret (hq .ret _ W S' m' trivial st ⟨sr, h.len, fun t => (h.tr t).mono st hB⟩ mk)
        · cases he
      · cases he
    · cases he
  | region id ops draw =>
    intro env H ex env' H' hd _ he
    refine ⟨?_, fun x e => by cases e⟩
    simp only [evC] at he
    split at he
    · rename_i env1 H1 lg ho
      split at he
      · cases he
      · rename_i hlg
        cases he
        cases draw with
        | true =>
          have : logOk ops lg = true := by simpa using hlg
          exact hd (id, ops) (by simp [drawn]) env H _ _ lg ho this
        | false =>
          intro K B hB r n hr a w S m h Q hq
          refine wpIn_region ?_
          have := ops_sound hrun hB ops.toList 0 env H [] a w S m (fun j => by simp) ho h (r := r) (n := n) (Q := Q) (fun a' w' S' m' st h' hdf => hq .normal a' w' S' m' trivial st h' (.of_eq hdf))
          rw [List.range_eq_range']
          simpa using this
    · cases he
  | seq x y ihx ihy =>
    intro env H ex env' H' hd hag he
    refine ⟨?_, fun x e => by cases e⟩
    simp only [evC] at he
    have dx : ∀ p ∈ drawn x, p ∈ drawn (.seq x y) := fun p hp => by simp [drawn, hp]
    have dy : ∀ p ∈ drawn y, p ∈ drawn (.seq x y) := fun p hp => by simp [drawn, hp]
    split at he
    · rename_i env1 H1 h1
      have a1 := ihx env H (fun p hp => hd p (dx p hp)) (fun c' e h ex e' h' hp hh => hag c' e h ex e' h' (fun p hq => dx p (hp p hq)) hh) h1 |>.1
      have a2 := ihy env1 H1 (fun p hp => hd p (dy p hp)) (fun c' e h ex e' h' hp hh => hag c' e h ex e' h' (fun p hq => dy p (hp p hq)) hh) he |>.1
      intro K B hB r n hr a w S m h Q hq
      refine wpIn_seq (a1 K B hB r n (hr.imp id (fun q => by simp only [flatC, Bool.and_eq_true] at q; exact q.1)) a w S m h _ (fun e a' w' S' m' hex st h' hdf => ?_))
      cases e <;> first | exact hex.elim | skip
      exact a2 K B hB r n (hr.imp id (fun q => by simp only [flatC, Bool.and_eq_true] at q; exact q.2)) a' w' S' m' h' Q (fun e a'' w'' S'' m'' hex' st' h'' hdf' => hq e a'' w'' S'' m'' hex' (st.trans st') h'' (hdf.trans hdf' st'.oth st.size))
    · rename_i hne
      have a1 := ihx env H (fun p hp => hd p (dx p hp)) (fun c' e h ex e' h' hp hh => hag c' e h ex e' h' (fun p hq => dx p (hp p hq)) hh) he |>.1
      intro K B hB r n hr a w S m h Q hq
      refine wpIn_seq (a1 K B hB r n (hr.imp id (fun q => by simp only [flatC, Bool.and_eq_true] at q; exact q.1)) a w S m h _ (fun e a' w' S' m' hex st h' hdf => ?_))
      cases e with
      | normal =>
        cases ex with
        | nrm => exact absurd he (hne _ _)
        | exit => exact hex.elim
        | ret => exact hex.elim
      | _ => exact hq _ a' w' S' m' hex st h' hdf
  | cond c x y ihx ihy =>
    intro env H ex env' H' hd hag he
    refine ⟨?_, fun x e => by cases e⟩
    simp only [evC] at he
    have dx : ∀ p ∈ drawn x, p ∈ drawn (.cond c x y) := fun p hp => by simp [drawn, hp]
    have dy : ∀ p ∈ drawn y, p ∈ drawn (.cond c x y) := fun p hp => by simp [drawn, hp]
    split at he
    · rename_i hc
      have a1 := ihx env H (fun p hp => hd p (dx p hp)) (fun c' e h ex e' h' hp hh => hag c' e h ex e' h' (fun p hq => dx p (hp p hq)) hh) he |>.1
      intro K B hB r n hr a w S m h Q hq
      have hx := h.eval c
      rw [hc] at hx
      exact wpIn_cond_true hx.bool_inv (a1 K B hB r n (hr.imp id (fun q => by simp only [flatC, Bool.and_eq_true] at q; exact q.1)) a w S m h Q hq)
    · rename_i hc
      have a1 := ihy env H (fun p hp => hd p (dy p hp)) (fun c' e h ex e' h' hp hh => hag c' e h ex e' h' (fun p hq => dy p (hp p hq)) hh) he |>.1
      intro K B hB r n hr a w S m h Q hq
      have hx := h.eval c
      rw [hc] at hx
      exact wpIn_cond_false hx.bool_inv (a1 K B hB r n (hr.imp id (fun q => by simp only [flatC, Bool.and_eq_true] at q; exact q.2)) a w S m h Q hq)
    · cases he
  | block id x ih =>
    intro env H ex env' H' hd hag he
    refine ⟨?_, fun x e => by cases e⟩
    simp only [evC] at he
    have dx : ∀ p ∈ drawn x, p ∈ drawn (.block id x) := fun p hp => by simpa [drawn] using hp
    split at he
    · rename_i j env1 H1 h1
      have a1 := ih env H (fun p hp => hd p (dx p hp)) (fun c' e h ex e' h' hp hh => hag c' e h ex e' h' (fun p hq => dx p (hp p hq)) hh) h1 |>.1
      intro K B hB r n hr a w S m h Q hq
      refine wpIn_block (a1 K B hB r n hr a w S m h _ (fun e a' w' S' m' hex st h' hdf => ?_))
      cases e <;> first | exact hex.elim | skip
      rename_i j'
      have : j = j' := hex
      subst this
      simp only [Exit.inBlock]
      split at he
      · rename_i hj
        cases he
        rw [if_pos hj]
        exact hq .normal a' w' S' m' trivial st h' hdf
      · rename_i hj
        cases he
        rw [if_neg hj]
        exact hq (.exit j) a' w' S' m' rfl st h' hdf
    · rename_i hne
      have a1 := ih env H (fun p hp => hd p (dx p hp)) (fun c' e h ex e' h' hp hh => hag c' e h ex e' h' (fun p hq => dx p (hp p hq)) hh) he |>.1
      intro K B hB r n hr a w S m h Q hq
      refine wpIn_block (a1 K B hB r n hr a w S m h _ (fun e a' w' S' m' hex st h' hdf => ?_))
      cases e with
      | exit j =>
        cases ex with
        | exit i => exact absurd he (hne _ _ _)
        | nrm => exact hex.elim
        | ret => exact hex.elim
      | _ => exact hq _ a' w' S' m' hex st h' hdf
  | scope x ih =>
    intro env H ex env' H' hd hag he
    refine ⟨?_, fun x e => by cases e⟩
    simp only [evC] at he
    have dx : ∀ p ∈ drawn x, p ∈ drawn (.scope x) := fun p hp => by simpa [drawn] using hp
    have a1 := (ih env H (fun p hp => hd p (dx p hp)) (fun c' e h ex e' h' hp hh => hag c' e h ex e' h' (fun p hq => dx p (hp p hq)) hh) he).1
    intro K B hB r n hr a w S m h Q hq
    refine wpIn_scope (a1 K B hB r n hr a w S m h _ (fun e a' w' S' m' hex st h' hdf => ?_))
    cases e with
    | goto l => cases ex <;> exact hex.elim
    | _ => exact hq _ a' w' S' m' hex st h' hdf
  | loop x ih =>
    intro env H ex env' H' hd hag he
    simp only [evC] at he
    have dx : ∀ p ∈ drawn x, p ∈ drawn (.loop x) := fun p hp => by simpa [drawn] using hp
    have L : LoopOK P x env H ex env' H' := by
      split at he
      · rename_i env1 H1 h1
        have a1 := (ih env H (fun p hp => hd p (dx p hp)) (fun c' e h ex e' h' hp hh => hag c' e h ex e' h' (fun p hq => dx p (hp p hq)) hh) h1).1
        obtain ⟨j, hn⟩ := hag x env1 H1 ex env' H' (fun p hp => dx p hp) he
        refine ⟨j + 1, fun K B hB r n hr a w S m h Q hq => ?_⟩
        refine a1 K B hB r n hr a w S m h _ (fun e a' w' S' m' hex st h' hdf => ?_)
        cases e <;> first | exact hex.elim | skip
        exact hn K B hB r n hr a' w' S' m' h' Q (fun e a'' w'' S'' m'' hex' st' h'' hdf' => hq e a'' w'' S'' m'' hex' (st.trans st') h'' (hdf.trans hdf' st'.oth st.size))
      · rename_i hne
        have a1 := (ih env H (fun p hp => hd p (dx p hp)) (fun c' e h ex e' h' hp hh => hag c' e h ex e' h' (fun p hq => dx p (hp p hq)) hh) he).1
        refine ⟨1, fun K B hB r n hr a w S m h Q hq => ?_⟩
        refine a1 K B hB r n hr a w S m h _ (fun e a' w' S' m' hex st h' hdf => ?_)
        cases e with
        | normal =>
          cases ex with
          | nrm => exact absurd he (hne _ _)
          | exit => exact hex.elim
          | ret => exact hex.elim
        | _ => exact hq _ a' w' S' m' hex st h' hdf
    refine ⟨fun K B hB r n hr a w S m h Q hq => ?_, fun y e => by cases e; exact L⟩
    obtain ⟨j, hn⟩ := L
    exact loop_fw j (hn K B hB r n hr a w S m h Q hq)
end
end Go.Proofs.Ytcamcfplcoklkaa.Iv
