import Derived.Test.YtcamcfplcoklkaaI27
namespace Go.Proofs.Ytcamcfplcoklkaa.Iv
open Go
set_option linter.unusedVariables false
set_option linter.unusedSimpArgs false

/-! ### from the order of the text to any order -/
section
variable {P : Program} {call : Nat → List V → Heap → Option (V × Heap)} {pol : Nat → Pol} {ops : Array Oper}

/-- the walk in the text's order, with what each operation came to -/
def Runs (P : Program) (call : Nat → List V → Heap → Option (V × Heap)) (pol : Nat → Pol) (ops : Array Oper) : List Oper → Nat → List V → Heap → List Out → List V → Heap → Prop
  | [], _, env, H, outs, env', H' => outs = [] ∧ env' = env ∧ H' = H
  | o :: r, k, env, H, outs, env', H' => ∃ out outs' env1, outs = out :: outs' ∧ evOper P call pol ops k o env H = some out ∧ setV env o.dst out.v = some env1 ∧
      Runs P call pol ops r (k + 1) env1 (H.sets out.ups) outs' env' H'
def logOf : Nat → List Out → Log
  | _, [] => []
  | k, o :: r => (k, o.rd, o.ups.map (·.1)) :: logOf (k + 1) r

theorem runs_of : ∀ {l : List Oper} {k : Nat} {env : List V} {H : Heap} {lg : Log} {env' : List V} {H' : Heap} {lg' : Log}, evOps P call pol ops l k env H lg = some (env', H', lg') →
    ∃ outs, outs.length = l.length ∧ Runs P call pol ops l k env H outs env' H' ∧ lg' = (logOf k outs).reverse ++ lg
  | [], k, env, H, lg, env', H', lg', h => by
    simp only [evOps, Option.some.injEq, Prod.mk.injEq] at h
    obtain ⟨rfl, rfl, rfl⟩ := h
    exact ⟨[], rfl, ⟨rfl, rfl, rfl⟩, rfl⟩
  | o :: r, k, env, H, lg, env', H', lg', h => by
    simp only [evOps] at h
    split at h
    · rename_i v us rd ho
      split at h
      · rename_i env1 hs
        obtain ⟨outs, hl, hr, hlg⟩ := runs_of h
        refine ⟨⟨v, us, rd⟩ :: outs, by simp [hl], ⟨_, _, env1, rfl, ho, hs, hr⟩, ?_⟩
        rw [hlg]
        simp [logOf]
      · cases h
    · cases h

theorem logOf_get : ∀ (outs : List Out) (k j : Nat) (o : Out), outs[j]? = some o → (logOf k outs)[j]? = some (k + j, o.rd, o.ups.map (·.1))
  | [], k, j, o, h => by simp at h
  | x :: r, k, 0, o, h => by simp at h; subst h; simp [logOf]
  | x :: r, k, j + 1, o, h => by
    have := logOf_get r (k + 1) j o (by simpa using h)
    simp only [logOf, List.getElem?_cons_succ, this]
    congr 2; omega

theorem logOk_pair {y : Nat × List Id × List Id} : ∀ {lg : Log}, logOk ops lg = true → ∀ (a b : Nat) (x y : Nat × List Id × List Id), lg[a]? = some y → lg[b]? = some x → a < b → pairOk ops x y = true
  | [], _, a, b, x, y, h, _, _ => by simp at h
  | z :: r, h, 0, b + 1, x, y, h1, h2, _ => by
    simp only [logOk, Bool.and_eq_true] at h
    simp at h1; subst h1
    exact List.all_eq_true.1 h.1 x (List.mem_of_getElem? (by simpa using h2))
  | z :: r, h, a + 1, b + 1, x, y, h1, h2, hab => by
    simp only [logOk, Bool.and_eq_true] at h
    exact logOk_pair (y := y) h.2 a b x y (by simpa using h1) (by simpa using h2) (by omega)
  | z :: r, h, a, 0, x, y, h1, h2, hab => by omega

theorem pairs_of {outs : List Out} (h : logOk ops ((logOf 0 outs).reverse ++ []) = true) {i j : Nat} {a b : Out} (hi : outs[i]? = some a) (hj : outs[j]? = some b) (hij : i < j) :
    pairOk ops (i, a.rd, a.ups.map (·.1)) (j, b.rd, b.ups.map (·.1)) = true := by
  rw [List.append_nil] at h
  have l1 := logOf_get outs 0 i a hi
  have l2 := logOf_get outs 0 j b hj
  simp only [Nat.zero_add] at l1 l2
  have n1 := (List.getElem?_eq_some_iff.1 l1).1
  have n2 := (List.getElem?_eq_some_iff.1 l2).1
  refine logOk_pair (y := (j, b.rd, b.ups.map (·.1))) h ((logOf 0 outs).length - 1 - j) ((logOf 0 outs).length - 1 - i) _ _ ?_ ?_ (by omega)
  · rw [List.getElem?_reverse (by omega), show (logOf 0 outs).length - 1 - ((logOf 0 outs).length - 1 - j) = j by omega]; exact l2
  · rw [List.getElem?_reverse (by omega), show (logOf 0 outs).length - 1 - ((logOf 0 outs).length - 1 - i) = i by omega]; exact l1

/-! what comes before what -/
theorem fold_bit (acc : Array Nat) (i : Nat) : ∀ (es : List Edge) (s : Nat), (es.foldl (fun s e => if Region.binds .any e then s ||| 2 ^ e.on ||| acc.getD e.on 0 else s) s).testBit i = true →
    s.testBit i = true ∨ ∃ e ∈ es, Region.binds .any e = true ∧ (e.on = i ∨ (acc.getD e.on 0).testBit i = true)
  | [], s, h => .inl h
  | e :: es, s, h => by
    simp only [List.foldl_cons] at h
    rcases fold_bit acc i es _ h with h1 | ⟨e', he', q⟩
    · by_cases hb : Region.binds .any e = true
      · rw [if_pos hb, Nat.testBit_or, Nat.testBit_or, Bool.or_eq_true, Bool.or_eq_true] at h1
        rcases h1 with (h1 | h1) | h1
        · exact .inl h1
        · rw [Nat.testBit_two_pow] at h1
          exact .inr ⟨e, by simp, hb, .inl (by simpa using h1)⟩
        · exact .inr ⟨e, by simp, hb, .inr h1⟩
      · rw [if_neg hb] at h1; exact .inl h1
    · exact .inr ⟨e', by simp [he'], q⟩

theorem before_spec : ∀ (l : List Oper) (acc : Array Nat) (pre : List Oper), acc.size = pre.length →
    (∀ j i, (acc.getD j 0).testBit i = true → ∃ oj, pre[j]? = some oj ∧ ∃ e ∈ oj.after, Region.binds .any e = true ∧ (e.on = i ∨ (e.on < j ∧ (acc.getD e.on 0).testBit i = true))) →
    ∀ j i, ((l.foldl (fun acc o => acc.push (o.after.foldl (fun s e => if Region.binds .any e then s ||| 2 ^ e.on ||| acc.getD e.on 0 else s) 0)) acc).getD j 0).testBit i = true →
      ∃ oj, (pre ++ l)[j]? = some oj ∧ ∃ e ∈ oj.after, Region.binds .any e = true ∧ (e.on = i ∨ (e.on < j ∧ ((l.foldl (fun acc o => acc.push (o.after.foldl (fun s e => if Region.binds .any e then s ||| 2 ^ e.on ||| acc.getD e.on 0 else s) 0)) acc).getD e.on 0).testBit i = true))
  | [], acc, pre, hs, hI, j, i, h => by simpa using hI j i h
  | o :: l, acc, pre, hs, hI, j, i, h => by
    simp only [List.foldl_cons] at h ⊢
    have hgd : ∀ (v q : Nat), q < acc.size → (acc.push v).getD q 0 = acc.getD q 0 := fun v q hq => by
      simp [Array.getD_eq_getD_getElem?, Array.getElem?_push, Nat.ne_of_lt hq]
    have hz : ∀ q, acc.size ≤ q → acc.getD q 0 = 0 := fun q hq => by simp [Array.getD_eq_getD_getElem?, Array.getElem?_eq_none hq]
    have := before_spec l (acc.push (o.after.foldl (fun s e => if Region.binds .any e then s ||| 2 ^ e.on ||| acc.getD e.on 0 else s) 0)) (pre ++ [o]) (by simp [hs]) (fun j i h => by
      rcases Nat.lt_or_ge j acc.size with q | q
      · rw [hgd _ _ q] at h
        obtain ⟨oj, h1, e, h2, h3, h4⟩ := hI j i h
        refine ⟨oj, by rw [List.getElem?_append_left (by omega)]; exact h1, e, h2, h3, h4.imp id (fun ⟨a, b⟩ => ⟨a, by rw [hgd _ _ (by omega)]; exact b⟩)⟩
      · by_cases e : j = acc.size
        · subst e
          have hp : (acc.push (o.after.foldl (fun s e => if Region.binds .any e then s ||| 2 ^ e.on ||| acc.getD e.on 0 else s) 0)).getD acc.size 0 = o.after.foldl (fun s e => if Region.binds .any e then s ||| 2 ^ e.on ||| acc.getD e.on 0 else s) 0 := by
            simp [Array.getD_eq_getD_getElem?]
          rw [hp, ← Array.foldl_toList] at h
          rcases fold_bit acc i _ _ h with h1 | ⟨e, he, hb, hq⟩
          · simp at h1
          · refine ⟨o, by rw [hs, List.getElem?_append_right (Nat.le_refl _)]; simp, e, by simpa using he, hb, hq.imp id (fun hq => ?_)⟩
            rcases Nat.lt_or_ge e.on acc.size with q2 | q2
            · exact ⟨q2, by rw [hgd _ _ q2]; exact hq⟩
            · rw [hz _ q2] at hq; simp at hq
        · have : (acc.push (o.after.foldl (fun s e => if Region.binds .any e then s ||| 2 ^ e.on ||| acc.getD e.on 0 else s) 0)).getD j 0 = 0 := by
            have hj : (acc.push (o.after.foldl (fun s e => if Region.binds .any e then s ||| 2 ^ e.on ||| acc.getD e.on 0 else s) 0)).size ≤ j := by simp; omega
            rw [Array.getD_eq_getD_getElem?, Array.getElem?_eq_none hj]; rfl
          rw [this] at h; simp at h) j i h
    simpa using this

theorem may_not {j i : Nat} (hm : May ops j i) : ((Region.before ops).getD j 0).testBit i = false := by
  obtain ⟨listed, hc, hun, hr⟩ := hm
  cases hb : ((Region.before ops).getD j 0).testBit i with
  | false => rfl
  | true =>
    exfalso
    have spec : ∀ j i, ((Region.before ops).getD j 0).testBit i = true → ∃ oj, ops[j]? = some oj ∧ ∃ e ∈ oj.after, Region.binds .any e = true ∧ (e.on = i ∨ (e.on < j ∧ ((Region.before ops).getD e.on 0).testBit i = true)) := by
      intro j i h
      unfold Region.before at h ⊢
      rw [← Array.foldl_toList] at h ⊢
      have := before_spec ops.toList #[] [] rfl (fun j i h => by simp [Array.getD_eq_getD_getElem?] at h) j i h
      simpa using this
    have unl : listed.getD i false = false := by
      rcases Nat.lt_or_ge i listed.size with h' | h'
      · simp [h'] at hun ⊢; exact hun
      · simp [Array.getElem?_eq_none h']
    -- whatever is listed does not come behind i
    have key : ∀ n k, k = n → listed.getD k false = true → ((Region.before ops).getD k 0).testBit i = true → False := by
      intro n
      induction n using Nat.strongRecOn with
      | _ n ih =>
        intro k hk hl hbit
        obtain ⟨ok, ho, e, he, hbd, hq⟩ := spec k i hbit
        have hle := hc k ok ho hl e he hbd
        rcases hq with hq | ⟨hlt, hq⟩
        · rw [hq, unl] at hle; cases hle
        · exact ih e.on (by omega) e.on rfl hle hq
    obtain ⟨_, oj, hoj, hall⟩ := mem_ready.1 hr
    obtain ⟨oj', ho, e, he, hbd, hq⟩ := spec j i hb
    rw [hoj] at ho; cases ho
    have hle := hall e he hbd
    rcases hq with hq | ⟨hlt, hq⟩
    · rw [hq, unl] at hle; cases hle
    · exact key _ e.on rfl hle hq

theorem not_meets {a b : List Id} (h : meets a b = false) : ∀ x ∈ a, x ∉ b := fun x hx hb => by
  unfold meets at h
  rw [List.any_eq_false] at h
  exact h x hx (by simpa using hb)

theorem lex_any {outs : List Out} (hlen : outs.length = ops.size) (hlg : logOk ops ((logOf 0 outs).reverse ++ []) = true) {Qf : List V → Heap → Prop} {env' : List V} {H' : Heap} (hq : Qf env' H') :
    ∀ (l : List Oper) (k : Nat) (listed : Array Bool) (env : List V) (H : Heap) (os : List Out), (∀ j, l[j]? = ops[k + j]?) → (∀ j, os[j]? = outs[k + j]?) →
      Region.lexFrom .any ops l.length k listed = true → Closed ops listed → (∀ j, j < k → listed.getD j true = true) → Runs P call pol ops l k env H os env' H' →
      AnyA P call pol ops (fun i => outs.getD i ⟨.und, [], []⟩) Qf l.length listed env H
  | [], k, listed, env, H, os, _, _, hB, _, _, hr => by
    obtain ⟨_, rfl, rfl⟩ := hr
    exact ⟨by simpa [Region.lexFrom] using hB, hq⟩
  | o :: l, k, listed, env, H, os, hl, hos, hB, hc, hpre, hr => by
    obtain ⟨out, os', env1, rfl, he, hs, hr'⟩ := hr
    have h0 : ops[k]? = some o := by simpa using (hl 0).symm
    have ho0 : outs[k]? = some out := by simpa using (hos 0).symm
    simp only [List.length_cons, Region.lexFrom, Bool.and_eq_true] at hB
    obtain ⟨⟨hrd, hf⟩, hB'⟩ := hB
    have hrd' : k ∈ Region.ready .any ops listed := by simpa using hrd
    have hLk : outs.getD k ⟨.und, [], []⟩ = out := by simp [List.getD, ho0]
    have hlt : k < listed.size := by
      have := (mem_ready.1 hrd').1
      rcases Nat.lt_or_ge k listed.size with q | q
      · exact q
      · simp [Array.getElem?_eq_none q] at this
    have rest := lex_any hlen hlg hq l (k + 1) (listed.setIfInBounds k true) env1 (H.sets out.ups) os' (fun j => by have := hl (j + 1); simpa [Nat.add_assoc, Nat.add_comm 1 j] using this)
      (fun j => by have := hos (j + 1); simpa [Nat.add_assoc, Nat.add_comm 1 j] using this) hB' (hc.set hrd') (fun j hj => by
        by_cases e : j = k
        · subst e; simp [hlt]
        · rw [getD_set_ne true (Ne.symm e)]; exact hpre j (by omega)) hr'
    refine first_any (L := fun i => outs.getD i ⟨.und, [], []⟩) h0 (fun j => listed.getD j true = false) (fun j oj hj hne hU hmay => ?_) l.length listed env env1 H (fun j hj => hj) hc hrd' (by rw [hLk]; exact he) (by rw [hLk]; exact hs) (by rw [hLk]; exact rest)
    have hjk : k < j := by
      rcases Nat.lt_trichotomy j k with q | q | q
      · rw [hpre j q] at hU; cases hU
      · exact absurd q hne
      · exact q
    refine ⟨Region.free_spec h0 hf j oj hj hne hU (fun e he hb heq => ?_), ?_⟩
    · obtain ⟨l', _, hun, hr2⟩ := hmay
      obtain ⟨_, oj', ho', hall⟩ := mem_ready.1 hr2
      rw [hj] at ho'; cases ho'
      have h1 := hall e he hb
      rw [heq] at h1
      rcases Nat.lt_or_ge k l'.size with h' | h'
      · simp [h'] at hun h1; rw [hun] at h1; cases h1
      · simp [Array.getElem?_eq_none h'] at h1
    · have hjs : j < ops.size := (Array.getElem?_eq_some_iff.1 hj).1
      have hoj : outs[j]? = some (outs[j]'(by omega)) := List.getElem?_eq_getElem _
      have hp := pairs_of hlg ho0 hoj hjk
      have hLj : outs.getD j ⟨.und, [], []⟩ = outs[j]'(by omega) := by simp [List.getD, hoj]
      rw [hLk, hLj]
      unfold pairOk at hp
      simp only [may_not hmay, Bool.or_false, Bool.not_eq_true', Bool.or_eq_false_iff] at hp
      obtain ⟨⟨p1, p2⟩, p3⟩ := hp
      exact ⟨fun x hx => ⟨not_meets p1 x hx, not_meets p2 x hx⟩, not_meets p3⟩

theorem draw_sound (hm : P.follows .mixedOrders = true) (hrun : RunOK P call) {id : Nat} (hlex : Region.lexB .any ops = true) : DrawOK P call pol id ops := by
  intro env H env' H' lg he hlg K B hB r n _ a w S m h Q hq
  simp only [Region.lexB, Bool.and_eq_true] at hlex
  obtain ⟨outs, hl, hr, rfl⟩ := runs_of he
  have hol : outs.length = ops.size := by simpa using hl
  refine wpIn_region_any hm ?_
  have A := lex_any (Qf := fun e h => e = env' ∧ h = H') hol hlg ⟨rfl, rfl⟩ ops.toList 0 (Array.replicate ops.size false) env H outs (by simp) (by simp) (by simpa using hlex.2)
    (fun j oj hj hl => by
      rcases Nat.lt_or_ge j ops.size with q | q
      · simp [q] at hl
      · simp [Array.getElem?_eq_none (show (Array.replicate ops.size false).size ≤ j by simpa using q), q] at hl) (fun j hj => by omega) hr
  have hd : Fit K B env a w.drew S m H := ⟨h.sr.drew, h.len, fun t => (h.tr t).mono (Step.drew K w S m) hB⟩
  have := any_sound hrun hB (r := r) (n := n) (Q := Q) _ _ env H a w.drew S m A hd (fun a' w' S' m' e2 h2 hQ st' h' hd' => by
    obtain ⟨rfl, rfl⟩ := hQ
    exact hq .normal a' w' S' m' trivial ((Step.drew K w S m).trans st') h' (.of_eq hd'))
  simpa using this

/-- the check of a function's code: each region that draws is one that may be walked in any order -/
def lexAll (c : Code) : Bool := (drawn c).all fun p => Region.lexB .any p.2
def cfgB (C : Cfg) : Bool := C.good.all fun f => match C.P.funcs[f]? with
  | some fn => !(fn.name == "runtime.NumGoroutine") && (match fn.body with | some c => lexAll c | none => true)
  | none => true
theorem seq_none {P : Program} {pol : Nat → Pol} (h : ∀ g, (pol g).seq = none) : SeqOK P pol := fun g cap items he => by simp [seqOf, h] at he
theorem ext_none {C : Cfg} (h : ∀ f, C.ext f = none) : RunOK C.P C.extern :=
  ⟨fun f args H r he => by simp [Cfg.extern, h] at he, fun f args H r H' he => by simp [Cfg.extern, h] at he⟩
theorem cfg_ok {C : Cfg} (hm : C.P.follows .mixedOrders = true) (hq : SeqOK C.P C.pol) (hE : RunOK C.P C.extern) (h : cfgB C = true) : CfgOK C := by
  unfold cfgB at h
  refine ⟨hq, fun f hf fn he => ?_, hE, fun f hf fn c he hb => ?_⟩
  · have := List.all_eq_true.1 h f hf
    simp only [he, Bool.and_eq_true] at this
    simpa using this.1
  · have := List.all_eq_true.1 h f hf
    simp only [he, hb, Bool.and_eq_true] at this
    exact fun call hr p hp => draw_sound hm hr (List.all_eq_true.1 this.2 p hp)

/-- WHAT THE IDEAL MACHINE COMES TO, THE MODEL's COMES TO: of a call without references. -/
theorem calls_of_run {C : Cfg} (hm : C.P.follows .mixedOrders = true) (hq : SeqOK C.P C.pol) (hE : RunOK C.P C.extern) (h : cfgB C = true) {n f : Nat} {args : List V} {r : V} {H' : Heap} (he : run C n f args (fun _ => none) = some (r, H')) {w : World} {S : Nat → Prop} (hS : ∀ rb, S rb → ∃ o : Obj, w.heap[rb]? = some o ∧ o.isCells = true)
    {vs : List Value} (hx : All2 (VR w S no (fun _ => none)) args vs) :
    Calls C.P f vs.toArray w fun e w' => ∃ x S' m', e = .returned x ∧ RowKit.Below w.heap.size w w' ∧ (∀ rb, S rb → S' rb) ∧ VR w' S' no m' r x := by
  have sr : SR w S (fun rb => rb < w.heap.size) (fun _ => none) (fun _ => none) :=
    ⟨fun rb hb => (hS rb hb).elim fun o h => (Array.getElem?_eq_some_iff.1 h.1).1, fun rb h => h, (fun i b h => by cases h), fun _ _ => rfl, (fun i j bi im jm h => by cases h), (fun i b im h => by cases h), hS⟩
  refine ((run_sound (cfg_ok hm hq hE h) n).1.ok f args _ r H' he w S _ no _ vs sr (fun _ f => f.elim) hx).mono ?_
  rintro e w' ⟨x, S', m', rfl, st, sr', hv⟩
  exact ⟨x, S', m', rfl, ⟨st.os, st.tape, st.output, st.size, fun k hk => st.pres k (.inr hk)⟩, st.sub, hv⟩
end
end Go.Proofs.Ytcamcfplcoklkaa.Iv
