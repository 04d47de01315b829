import Derived.Test.YtaiegfeppgaedaaM3
namespace Go.Proofs.Ytaiegfeppgaedaa.Iv
open Go
set_option linter.unusedVariables false
set_option linter.unusedSimpArgs false
/-! ### functions that hand on the elements of a list -/
section
variable {P : Program} {K B : Nat → Prop} {w : World} {S : Nat → Prop} {m : Map} {H : Heap}

/-- an operation that stands at a place -/
structure At (ops : Array Oper) (k : Nat) (op : Op) (d : Nat) : Prop where
  ex : ∃ o, ops[k]? = some o ∧ o.op = op ∧ o.guard = none ∧ o.dst = some d

theorem noCall_ok : RunOK P noCall := ⟨fun _ _ _ _ h => by simp [noCall] at h, fun _ _ _ _ _ h => by simp [noCall] at h⟩

/-- an operation that leaves the world as it is -/
def SoundW (P : Program) (B : Nat → Prop) (w : World) (S : Nat → Prop) (m : Map) (out : Out) (s : Sem Value) : Prop := ∃ x, s.run P w = .ok x w ∧ VR w S B m out.v x
theorem SoundW.pure (h : SR w S K m H) {v : V} {rd : List Id} {s : Sem Value} {x : Value} (hr : s.run P w = .ok x w) (hv : VR w S B m v x) : SoundW P B w S m ⟨v, [], rd⟩ s := ⟨x, hr, hv⟩
theorem indexAddr_w (h : SR w S K m H) {t : Nat} {a i : V} {out : Out} (he : evIndexAddr P t a i = some out) {x y : Value} (hx : VR w S B m a x) (hy : VR w S B m i y) :
    SoundW P B w S m out (Instr.indexAt t x y) := by
  unfold evIndexAddr at he
  split at he
  · rename_i k n
    have := hy.int_inv; subst this
    split at he
    · rename_i h0
      split at he
      · rename_i e hu
        split at he
        · rename_i sz hs
          split at he
          · rename_i b g o n' s2 lim
            split at he
            · rename_i hc
              obtain ⟨rfl, hlt⟩ := hc
              cases he
              have hb : 0 ≤ n ∧ n < (n' : Int) := ⟨h0, by omega⟩
              cases hx with
              | fr h => cases h
              | sl _ _ _ _ _ im a cap hm ha h1 h2 h3 h4 h5 =>
                have ha' := ha (by omega)
                subst ha'
                refine SoundW.pure h (x := .pointer (some ⟨im.rb, im.dl + (o + n.toNat * s2), none⟩)) ?_ (VR.ptr b _ im hm)
                simp [Instr.indexAt, asIntOf, run_underlying hu, run_sizeOf' hs, hb, add_eq, Nat.add_assoc]
              | slD _ _ _ _ _ _ im a cap hm hg =>
                refine SoundW.pure h (x := .pointer (some (a.add (n.toNat * s2)))) ?_ (VR.ptrD b _ _ im _ hm hg)
                simp [Instr.indexAt, asIntOf, run_underlying hu, run_sizeOf' hs, hb]
            · cases he
          · rename_i xs l
            split at he
            · rename_i cs hcs
              split at he
              · rename_i hc
                obtain ⟨hlen, hpos⟩ := hc
                cases he
                obtain ⟨sz', cap, a, vals, rfl, h1, h2, h3, h4⟩ := hx.list_inv
                have hi : n.toNat < xs.length := (List.getElem?_eq_some_iff.1 hcs).1
                have hz : sz' = sz := by rw [← hlen]; exact (h2 cs (List.mem_of_getElem? hcs)).symm
                subst hz
                obtain ⟨rb, o, rfl, hS, hcell⟩ := h3 (fun e => by subst e; simp at hi)
                have hb : 0 ≤ n ∧ n < (xs.length : Int) := ⟨h0, by omega⟩
                refine SoundW.pure h (x := .pointer (some ⟨rb, o + n.toNat * sz', none⟩)) ?_ (VR.fptr_mk rb _ (fun j => vals (n.toNat * sz' + j)) hS (fun j hj => ?_) (fun j c hj => ?_))
                · simp [Instr.indexAt, asIntOf, run_underlying hu, run_sizeOf' hs, hb, add_eq]
                · have := flatten_get sz' xs h2 _ j cs _ hcs (List.getElem?_eq_getElem hj)
                  rw [Nat.add_assoc]
                  exact hcell _ (List.getElem?_eq_some_iff.1 this).1
                · exact CRl.of (h4 _ _ (flatten_get sz' xs h2 _ j cs _ hcs hj))
              · cases he
            · cases he
          · cases he
        · cases he
      · rename_i n' e hu
        split at he
        · rename_i sz hs
          split at he
          · rename_i hlt
            have hb : 0 ≤ n ∧ n < (n' : Int) := ⟨h0, by omega⟩
            split at he
            · rename_i b g o
              cases he
              cases hx with
              | fr h => cases h
              | ptr _ _ im hm =>
                refine SoundW.pure h (x := .pointer (some ⟨im.rb, im.dl + (o + n.toNat * sz), none⟩)) ?_ (VR.ptr b _ im hm)
                simp [Instr.indexAt, Instr.sureAddr, asIntOf, run_underlying hu, run_sizeOf' hs, hb, add_eq, Nat.add_assoc]
              | ptrD _ _ _ im a hm hg =>
                refine SoundW.pure h (x := .pointer (some (a.add (n.toNat * sz)))) ?_ (VR.ptrD b _ _ im _ hm hg)
                simp [Instr.indexAt, Instr.sureAddr, asIntOf, run_underlying hu, run_sizeOf' hs, hb]
            · rename_i cs l
              split at he
              · rename_i hle
                cases he
                obtain ⟨rb, o, vals, rfl, h1, h2, h3⟩ := hx.fptr_inv
                refine SoundW.pure h (x := .pointer (some ⟨rb, o + n.toNat * sz, none⟩)) ?_ (VR.fptr_mk rb _ (fun j => vals (n.toNat * sz + j)) h1 (fun j hj => ?_) (fun j c hj => ?_))
                · simp [Instr.indexAt, Instr.sureAddr, asIntOf, run_underlying hu, run_sizeOf' hs, hb, add_eq]
                · rw [Nat.add_assoc]; exact h2 _ (by simp at hj; omega)
                · rw [List.getElem?_drop] at hj; exact h3 _ _ hj
              · cases he
            · cases he
          · cases he
        · cases he
      · cases he
    · cases he
  · cases he

theorem len_w (h : SR w S K m H) {t ty : Nat} {a : V} {out : Out} (he : evLen P t a = some out) {x : Value} (hx : VR w S B m a x) (ts : Array TypeId) (hts : ts[0]? = some t) :
    SoundW P B w S m out (Builtin.len_ ts ty #[x]) := by
  unfold evLen at he
  split at he
  · rename_i s hu
    cases he
    have := hx.str_inv; subst this
    exact SoundW.pure h (x := .int .i64 s.length) (by simp [Builtin.len_, hts, run_underlying hu, goInt] <;> rfl) .i
  · rename_i hu
    cases he
    obtain ⟨a, cap, rfl, _, _⟩ := hx.sl_shape
    exact SoundW.pure h (x := .int .i64 _) (by simp [Builtin.len_, hts, run_underlying hu, goInt]) .i
  · rename_i hu
    cases he
    obtain ⟨_, cap, a, vals, rfl, _⟩ := hx.list_inv
    exact SoundW.pure h (x := .int .i64 _) (by simp [Builtin.len_, hts, run_underlying hu, goInt]) .i
  · rename_i hu
    cases he
    have := hx.nils_inv; subst this
    exact SoundW.pure h (x := .int .i64 0) (by simp [Builtin.len_, hts, run_underlying hu, goInt]) .i
  · rename_i hu
    cases he
    obtain ⟨a0, rfl⟩ := hx.emp_inv
    exact SoundW.pure h (x := .int .i64 0) (by simp [Builtin.len_, hts, run_underlying hu, goInt]) .i
  · rename_i n e hu
    cases he
    exact SoundW.pure h (x := .int .i64 n) (by simp [Builtin.len_, hts, run_underlying hu, goInt]) .i
  · cases he
inductive PureOp : Op → Prop
  | move (x : Operand) : PureOp (.move x)
  | assign (x : Operand) : PureOp (.assign x)
  | load (t : Nat) (x : Operand) : PureOp (.load t x)
  | bin (b : BinOp) (t : Nat) (x y : Operand) (u : Nat) : PureOp (.binOp b t x y u)
  | un (b : UnOp) (t : Nat) (x : Operand) : PureOp (.unOp b t x)
  | ix (t : Nat) (x y : Operand) : PureOp (.indexAddr t x y)
  | len (x : Operand) (t : Nat) : PureOp (.call { callee := .builtin .len, args := #[x], argTypes := #[t] })
theorem pure_run {ρ : Operand → V} {a : Act} (h : SR w S K m H) (hρ : ∀ x, VR w S B m (ρ x) (a.eval x)) {d : Nat} {op : Op} {out : Out} (he : evOp P noCall noPol H ρ d op = some out) (hp : PureOp op) {o : Oper} (ho : o.op = op) :
    ∃ x, (execOp a.eval o).run P w = .ok (.value x) w ∧ VR w S B m out.v x := by
  cases hp
  case move x =>
    simp only [evOp, Option.some.injEq] at he; subst he
    exact ⟨_, by unfold execOp; rw [ho]; rfl, hρ x⟩
  case assign x =>
    simp only [evOp, Option.some.injEq] at he; subst he
    exact ⟨_, by unfold execOp; rw [ho]; rfl, hρ x⟩
  case load t x =>
    simp only [evOp] at he
    obtain ⟨_, y, hr, hy⟩ := load_val (P := P) h he (hρ x)
    exact ⟨y, by unfold execOp; rw [ho]; simp [hr], hy⟩
  case bin b t x y u =>
    simp only [evOp] at he
    cases hv : evBin P t b (ρ x) (ρ y) with
    | none => rw [hv] at he; cases he
    | some v =>
      rw [hv] at he; simp only [liftO, Option.some.injEq] at he; subst he
      obtain ⟨z, hr, hz⟩ := bin_sound (P := P) hv (hρ x) (hρ y) x y
      refine ⟨z, ?_, hz⟩
      unfold execOp; rw [ho]
      simp only [Sem.run_bind] at hr ⊢
      rw [hr]; rfl
  case un b t x =>
    simp only [evOp] at he
    cases hv : evUn b (ρ x) with
    | none => rw [hv] at he; cases he
    | some v =>
      rw [hv] at he; simp only [liftO, Option.some.injEq] at he; subst he
      obtain ⟨z, hr, hz⟩ := un_sound (P := P) hv (hρ x)
      exact ⟨z, by unfold execOp; rw [ho]; simp [hr], hz⟩
  case ix t x y =>
    simp only [evOp] at he
    obtain ⟨z, hr, hz⟩ := indexAddr_w (P := P) h he (hρ x) (hρ y)
    exact ⟨z, by unfold execOp; rw [ho]; simp [hr], hz⟩
  case len x t =>
    simp only [evOp, evBuiltin, List.map_cons, List.map_nil] at he
    obtain ⟨z, hr, hz⟩ := len_w (P := P) (ty := o.type) h he (hρ x) #[t] (by simp)
    refine ⟨z, ?_, hz⟩
    unfold execOp; rw [ho]
    simp [resolve, invoke, builtin, hr]

theorem pure_at (hB : ∀ rb, B rb → K rb) {ops : Array Oper} {k d : Nat} {op : Op} (hk : At ops k op d) {env : List V} {a : Act} (h : Fit K B env a w S m H) {v : V} {rd : List Id}
    (he : evOp P noCall noPol H (evOperand env) d op = some ⟨v, [], rd⟩) (hd : d < env.length) (hp : PureOp op) {r : Option Nat} {n : Nat} {Q : Exit → Act → World → Prop} {next : Act → World → Prop}
    (hn : ∀ x, Fit K B (env.set d v) (a.put (some d) x) w S m H → next (a.put (some d) x) w) : wpOpIn (Fw r) n P ops Q k next a w := by
  obtain ⟨o, h1, h2, h3, h4⟩ := hk.ex
  obtain ⟨x, hr, hx⟩ := pure_run h.sr h.eval he hp h2
  unfold wpOpIn
  simp only [h1, Region.wanted, h3, if_true]
  refine oper_fw (fun c hc => by rw [h2] at hc; subst hc; cases hp) ?_
  unfold Oper.wp
  rw [hr]
  simp only [Oper.upon]
  rw [h4]
  exact hn x (h.put (dst := some d) (v := v) hB (by simp [setV, hd]) (Step.refl ..) h.sr hx)

theorem put_get {a : Act} {d t : Nat} {x : Value} (h : t ≠ d) : (a.put (some d) x).tmps.getD t undef = a.tmps.getD t undef := by
  simp [Act.put, Array.getElem?_setIfInBounds, Ne.symm h]

/-- less is said -/
theorem Fit.forget {env env' : List V} {a : Act} (h : Fit K B env a w S m H) (hl : env'.length = env.length) (he : ∀ t, env'.getD t .und = env.getD t .und ∨ env'.getD t .und = .und) : Fit K B env' a w S m H :=
  ⟨h.sr, by rw [h.len, hl], fun t => by
    rcases he t with e | e
    · rw [e]; exact h.tr t
    · rw [e]; exact .und _⟩

/-- a call of yield -/
theorem yield_at {ops : Array Oper} {k d y : Nat} {args : Array Operand} {ts : Array TypeId} (hk : At ops k (.call { callee := .value (.tmp y), args := args, argTypes := ts }) d) {a : Act} {l : Nat}
    (hy : a.tmps.getD y undef = .func (.yield l) #[] #[]) {n : Nat} {R : Ending → World → Prop} (hR : YieldAt Fence.wide (n - 1) P l (args.map a.eval) w R) {Q : Exit → Act → World → Prop} {next : Act → World → Prop}
    (hn : ∀ e w', R e w' → ∃ v, e = .returned v ∧ next (a.put (some d) v) w') : wpOpIn Fence.wide n P ops Q k next a w := by
  obtain ⟨o, h1, h2, h3, h4⟩ := hk.ex
  obtain ⟨fn, tmps, assign, body, hy1, hr⟩ := hR
  unfold wpOpIn
  simp only [h1, Region.wanted, h3, if_true]
  refine ⟨fun _ _ => trivial, ?_⟩
  have hex : (o.semAt Fence.wide.round a.eval).run P w = .ok (.round l fn tmps assign body) w := by
    show (o.semAt none a.eval).run P w = _
    rw [Oper.semAt_none]
    unfold execOp
    rw [h2]
    have e1 : a.eval (.tmp y) = .func (.yield l) #[] #[] := hy
    simp only [resolve, e1, Deferred.ofValue, Sem.run_bind, Sem.run_pure, Result.andThen_ok, invoke]
    simpa using hy1
  rw [hex]
  simp only [Oper.uponIn]
  refine ⟨fun q => by simp [Fence.wide] at q, hr.mono (fun e w' q => ?_)⟩
  obtain ⟨v, rfl, q2⟩ := hn e w' q
  rw [h4]; exact q2

/-- the code of what slices.Backward answers -/
structure BackCode (P : Program) (g tS tE sz : Nat) (ag : Bool) : Prop where
  ex : ∃ (fn : Func) (r0 r1 r2 r3 : Array Oper) (i0 i1 i2 i3 b0 b1 : Nat) (tS' : Array TypeId), P.funcs[g]? = some fn ∧ (fn.name == "runtime.NumGoroutine") = false ∧ fn.ntmps = 19 ∧ fn.results = #[] ∧
    fn.body = some (.seq (.region i0 r0 false) (.block b0 (.loop (.seq (.seq (.region i1 r1 false) (.cond (.tmp 8) .skip (.exit b0))) (.seq (.block b1 (.seq (.region i3 r3 false) (.cond (.tmp 18) .ret .skip))) (.region i2 r2 false)))))) ∧
    (r0.size = 4 ∧ At r0 0 (.load tS (.tmp 1)) 4 ∧ At r0 1 (.call { callee := .builtin .len, args := #[.tmp 4], argTypes := #[tS] }) 5 ∧ (∃ u, At r0 2 (.binOp .sub u (.tmp 5) (.const (.int .i64 1)) u) 6) ∧ At r0 3 (.assign (.tmp 6)) 3) ∧
    (r1.size = 2 ∧ At r1 0 (.move (.tmp 3)) 7 ∧ ∃ u, At r1 1 (.binOp .geq u (.tmp 7) (.const (.int .i64 0)) u) 8) ∧
    (r2.size = 3 ∧ At r2 0 (.move (.tmp 3)) 9 ∧ (∃ u, At r2 1 (.binOp .sub u (.tmp 9) (.const (.int .i64 1)) u) 10) ∧ At r2 2 (.assign (.tmp 10)) 3) ∧
    (r3.size = 8 ∧ At r3 0 (.move (.tmp 0)) 11 ∧ At r3 1 (.move (.tmp 3)) 12 ∧ At r3 2 (.load tS (.tmp 1)) 13 ∧ At r3 3 (.move (.tmp 3)) 14 ∧ At r3 4 (.indexAddr tS (.tmp 13) (.tmp 14)) 15 ∧ At r3 5 (.load tE (.tmp 15)) 16 ∧
      At r3 6 (.call { callee := .value (.tmp 11), args := #[.tmp 12, .tmp 16], argTypes := tS' }) 17 ∧ ∃ u, At r3 7 (.unOp .not u (.tmp 17)) 18)
  s1 : szOf P tS = some 1
  s2 : agOf P tS = some false
  s3 : P.underlying tS = some (.slice tE)
  e1 : szOf P tE = some sz
  e2 : agOf P tE = some ag
  pos : 0 < sz

theorem move_at (hB : ∀ rb, B rb → K rb) {ops : Array Oper} {k d : Nat} {y : Operand} (hk : At ops k (.move y) d) {env : List V} {a : Act} (h : Fit K B env a w S m H) (hd : d < env.length)
    {r : Option Nat} {n : Nat} {Q : Exit → Act → World → Prop} {next : Act → World → Prop}
    (hn : Fit K B (env.set d (evOperand env y)) (a.put (some d) (a.eval y)) w S m H → next (a.put (some d) (a.eval y)) w) : wpOpIn (Fw r) n P ops Q k next a w := by
  obtain ⟨o, h1, h2, h3, h4⟩ := hk.ex
  unfold wpOpIn
  simp only [h1, Region.wanted, h3, if_true]
  refine oper_fw (fun c hc => by rw [h2] at hc; cases hc) ?_
  have hr : (execOp a.eval o).run P w = .ok (.value (a.eval y)) w := by unfold execOp; rw [h2]; rfl
  unfold Oper.wp
  rw [hr]
  simp only [Oper.upon]
  rw [h4]
  exact hn (h.put (dst := some d) (v := evOperand env y) hB (by simp [setV, hd]) (Step.refl ..) h.sr (h.eval y))

theorem not_at {ops : Array Oper} {k d y u : Nat} (hk : At ops k (.unOp .not u (.tmp y)) d) {a : Act} {b : Bool} (hy : a.tmps.getD y undef = .bool b)
    {r : Option Nat} {n : Nat} {Q : Exit → Act → World → Prop} {next : Act → World → Prop}
    (hn : next (a.put (some d) (.bool !b)) w) : wpOpIn (Fw r) n P ops Q k next a w := by
  obtain ⟨o, h1, h2, h3, h4⟩ := hk.ex
  unfold wpOpIn
  simp only [h1, Region.wanted, h3, if_true]
  refine oper_fw (fun c hc => by rw [h2] at hc; cases hc) ?_
  have e1 : a.eval (.tmp y) = .bool b := hy
  have hr : (execOp a.eval o).run P w = .ok (.value (.bool !b)) w := by unfold execOp; rw [h2]; simp only [e1]; rfl
  unfold Oper.wp
  rw [hr]
  simp only [Oper.upon]
  rw [h4]
  exact hn

/-- nothing of the heap's, but what is read -/
theorem sr0 (hS : ∀ rb, S rb → ∃ o : Obj, w.heap[rb]? = some o ∧ o.isCells = true) (hB : ∀ rb, B rb → rb < w.heap.size) : SR w S B (fun _ => none) (fun _ => none) :=
  ⟨fun rb hb => (hS rb hb).elim fun o h => (Array.getElem?_eq_some_iff.1 h.1).1, hB, (fun i b h => by cases h), fun _ _ => rfl, (fun i j bi im jm h => by cases h), (fun i b im h => by cases h), hS⟩
theorem Fit.move {env : List V} {a : Act} {w' : World} (h : Fit B B env a w S (fun _ => none) (fun _ => none)) (hp : ∀ rb, S rb ∨ B rb → w'.heap[rb]? = w.heap[rb]?) : Fit B B env a w' S (fun _ => none) (fun _ => none) := by
  refine ⟨sr0 (fun rb q => by rw [hp rb (.inl q)]; exact h.sr.scel rb q) (fun rb q => ?_), h.len, fun t => (h.tr t).mono0 hp (fun _ q => q) (fun i im q => by cases q)⟩
  have h1 := h.sr.kin rb q
  have h2 := hp rb (.inr q)
  rw [Array.getElem?_eq_getElem h1] at h2
  exact (Array.getElem?_eq_some_iff.1 h2).1
theorem fptr_m {cs : List V} {l : Bool} {x : Value} {m' : Map} (h : VR w S B m (.fptr cs l) x) : VR w S B m' (.fptr cs l) x := by
  cases h with
  | fr h => exact .fr h
  | lfptr _ rb o vals h hc hv => exact .lfptr _ rb o vals h hc hv

theorem wrap_small {z : Int} (h1 : -9223372036854775808 ≤ z) (h2 : z ≤ 9223372036854775807) : IntKind.i64.wrap z = z := by
  have e : IntKind.i64.wrap z = (if z % 18446744073709551616 ≥ 9223372036854775808 then z % 18446744073709551616 - 18446744073709551616 else z % 18446744073709551616) := by
    have e1 : (2 : Int) ^ 64 = 18446744073709551616 := by decide
    have e2 : (2 : Int) ^ (64 - 1) = 9223372036854775808 := by decide
    simp only [IntKind.wrap, IntKind.bits, IntKind.signed, Bool.true_and, e1, e2, decide_eq_true_eq]
  rw [e]
  split <;> omega

theorem backItems_get {ag : Bool} {sz : Nat} {xs : List (List V)} : ∀ {n : Nat} {items : List (List V)}, backItems ag sz xs n = some items → items.length = n ∧
    ∀ j, j < n → ∃ cs v, xs[j]? = some cs ∧ cs.length = sz ∧ mkv ag cs = some v ∧ items[n - 1 - j]? = some [.int .i64 j, v]
  | 0, items, h => by simp only [backItems, Option.some.injEq] at h; subst h; exact ⟨rfl, fun j h => by omega⟩
  | n + 1, items, h => by
    simp only [backItems] at h
    split at h
    · rename_i cs hcs
      split at h
      · rename_i hsz
        split at h
        · rename_i v r hv hr
          cases h
          obtain ⟨h1, h2⟩ := backItems_get hr
          refine ⟨by simp [h1], fun j hj => ?_⟩
          by_cases e : j = n
          · subst e; exact ⟨cs, v, hcs, hsz, hv, by simp⟩
          · obtain ⟨cs', v', q1, q2, q3, q4⟩ := h2 j (by omega)
            refine ⟨cs', v', q1, q2, q3, ?_⟩
            rw [show n + 1 - 1 - j = (n - 1 - j) + 1 by omega]
            simpa using q4
        · cases h
      · cases h
    · cases h

/-- the slots of the function that slices.Backward answers -/
def backEnv (C : V) (i : Int) : List V := [.und, C, .und, .int .i64 i, .und, .und, .und, .und, .und, .und, .und, .und, .und, .und, .und, .und, .und, .und, .und]

theorem mapsTo2 {a : Act} {x y : Operand} : (#[x, y] : Array Operand).map a.eval = [a.eval x, a.eval y].toArray := by simp

set_option maxHeartbeats 4000000 in
theorem back_seq {g tS tE sz : Nat} {ag : Bool} (hc : BackCode P g tS tE sz ag) {xs : List (List V)} {l l2 : Bool} {items : List (List V)} (hit : seqItems (.backward ag sz) [.fptr [.list xs l] l2] = some items)
    {w : World} {S B : Nat → Prop} {m : Map} {lb : List Value} (hS : ∀ rb, S rb → ∃ o : Obj, w.heap[rb]? = some o ∧ o.isCells = true) (hB : ∀ rb, B rb → rb < w.heap.size) (hv : All2 (VR w S B m) [.fptr [.list xs l] l2] lb) :
    SeqRun P g lb.toArray items.length (fun k W x => ∃ it x0, items[k]? = some it ∧ x = x0.toArray ∧ All2 (VR W S B m) it x0) (fun rb => S rb ∨ B rb) w := by
  simp only [seqItems] at hit
  split at hit
  · rename_i hlen
    obtain ⟨hil, hget⟩ := backItems_get hit
    obtain ⟨fn, r0, r1, r2, r3, i0, i1, i2, i3, b0, b1, ts', hf, hnm, hnt, hres, hbody, ⟨z0, a00, a01, ⟨u2, a02⟩, a03⟩, ⟨z1, a10, u11, a11⟩, ⟨z2, a20, ⟨u21, a21⟩, a22⟩, ⟨z3, a30, a31, a32, a33, a34, a35, a36, u37, a37⟩⟩ := hc.ex
    have s1 := hc.s1
    have s2 := hc.s2
    have s3 := hc.s3
    have e1 := hc.e1
    have e2 := hc.e2
    have hpos := hc.pos
    match lb, hv with
    | [p], hv =>
    have hp : VR w S B (fun _ => none) (.fptr [.list xs l] l2) p := fptr_m hv.1
    obtain ⟨C, hC⟩ : ∃ C, C = V.fptr [.list xs l] l2 := ⟨_, rfl⟩
    rw [← hC] at hp
    intro n l0 J Jx hJ hJx hY h0
    have hld : ∀ d : Nat, evLoad P (fun _ => none) tS C = some ⟨.list xs l, [], []⟩ := fun _ => by
      subst hC
      simp [evLoad, s1, s2, cut, mkv]
    refine callsIn_of_wp_marks hf hbody trivial ?_
    have done : ∀ (a : Act) (W : World), a.defers = [] → (J items.length W ∨ Jx W) → bodyPostM Fence.wide n P fn (fun e W' => (∃ v, e = .returned v) ∧ (J items.length W' ∨ Jx W')) .normal a W := fun a W hd hj => by
      simp only [bodyPostM, hd, LeavesInM, LeavesIn]
      refine ⟨.tuple #[], by simp [results, hres], ⟨_, rfl⟩, hj⟩
    have doneR : ∀ (a : Act) (W : World), a.defers = [] → (J items.length W ∨ Jx W) → bodyPostM Fence.wide n P fn (fun e W' => (∃ v, e = .returned v) ∧ (J items.length W' ∨ Jx W')) .ret a W := done
    generalize bodyPostM Fence.wide n P fn (fun e W' => (∃ v, e = .returned v) ∧ (J items.length W' ∨ Jx W')) = Qf at done doneR ⊢
    have hj0 : Fit B B ([.und, C, .und, .und, .und, .und, .und, .und, .und, .und, .und, .und, .und, .und, .und, .und, .und, .und, .und] : List V)
        { tmps := #[Value.func (.yield l0) #[] #[]] ++ [p].toArray ++ Array.replicate (fn.ntmps - (#[Value.func (.yield l0) #[] #[]] ++ [p].toArray).size) undef, defers := [] } w S (fun _ => none) (fun _ => none) := by
      refine ⟨sr0 hS hB, by simp [hnt], fun t => ?_⟩
      match t with
      | 0 => exact .und _
      | 1 =>
        have h1 : ({ tmps := #[Value.func (.yield l0) #[] #[]] ++ [p].toArray ++ Array.replicate (fn.ntmps - (#[Value.func (.yield l0) #[] #[]] ++ [p].toArray).size) undef, defers := [] } : Act).tmps.getD 1 undef = p := by
          simp [hnt, Array.getElem?_append]
        rw [h1]; exact hp
      | t + 2 =>
        have : ([.und, C, .und, .und, .und, .und, .und, .und, .und, .und, .und, .und, .und, .und, .und, .und, .und, .und, .und] : List V).getD (t + 2) .und = .und := by
          rcases t with _ | _ | _ | _ | _ | _ | _ | _ | _ | _ | _ | _ | _ | _ | _ | _ | _ | t <;> rfl
        rw [this]; exact .und _
    have hy0 : ({ tmps := #[Value.func (.yield l0) #[] #[]] ++ [p].toArray ++ Array.replicate (fn.ntmps - (#[Value.func (.yield l0) #[] #[]] ++ [p].toArray).size) undef, defers := [] } : Act).tmps.getD 0 undef = .func (.yield l0) #[] #[] := by
      simp [hnt, Array.getElem?_append]
    generalize ha0 : ({ tmps := #[Value.func (.yield l0) #[] #[]] ++ [p].toArray ++ Array.replicate (fn.ntmps - (#[Value.func (.yield l0) #[] #[]] ++ [p].toArray).size) undef, defers := [] } : Act) = a0 at hj0 hy0 ⊢
    have hd0 : a0.defers = [] := by rw [← ha0]
    clear ha0
    -- the loop
    have loop : ∀ (j : Nat), j ≤ xs.length → ∀ (a : Act) (W : World), J (xs.length - j) W → (∀ rb, S rb ∨ B rb → W.heap[rb]? = w.heap[rb]?) → Fit B B (backEnv C ((j : Int) - 1)) a W S (fun _ => none) (fun _ => none) →
        a.tmps.getD 0 undef = .func (.yield l0) #[] #[] → a.defers = [] →
        roundsW none n P (.seq (.seq (.region i1 r1 false) (.cond (.tmp 8) .skip (.exit b0))) (.seq (.block b1 (.seq (.region i3 r3 false) (.cond (.tmp 18) .ret .skip))) (.region i2 r2 false))) (Exit.inBlock b0 Qf) (j + 1) a W := by
      intro j
      induction j with
      | zero =>
        intro hj a W hJ0 hT hfit hy hd
        show Code.wpIn (Fw none) n P _ _ a W
        refine wpIn_seq (wpIn_seq (wpIn_region ?_))
        rw [z1]
        show wpOpsIn (Fw none) n P r1 _ [0, 1] a W
        rw [wpOpsIn_cons]
        refine pure_at (fun _ q => q) a10 hfit (v := .int .i64 (-1)) (rd := []) (by simp [evOp, evOperand, backEnv]) (by simp [backEnv]) (.move ..) (fun x1 f1 => ?_)
        rw [wpOpsIn_cons]
        refine pure_at (fun _ q => q) a11 f1 (v := .bool false) (rd := []) (by simp [evOp, evOperand, backEnv, evBin, evInt, liftO, ofVal, sc]) (by simp [backEnv]) (.bin ..) (fun x2 f2 => ?_)
        have hb := f2.eval (.tmp 8)
        have hb' : evOperand ((List.set (List.set (backEnv C ((0 : Nat) - 1)) 7 (.int .i64 (-1))) 8 (.bool false))) (.tmp 8) = .bool false := by simp [evOperand, backEnv]
        rw [hb'] at hb
        refine wpIn_cond_false hb.bool_inv (wpIn_exit ?_)
        simp only [Exit.then, Exit.inBlock, if_true]
        exact done _ _ hd (.inl (by rw [hil]; simpa using hJ0))
      | succ j ih =>
        intro hj a W hJ0 hT hfit hy hd
        have hjj : ((j + 1 : Nat) : Int) - 1 = (j : Int) := by omega
        rw [hjj] at hfit
        show Code.wpIn (Fw none) n P _ _ a W
        refine wpIn_seq (wpIn_seq (wpIn_region ?_))
        rw [z1]
        show wpOpsIn (Fw none) n P r1 _ [0, 1] a W
        rw [wpOpsIn_cons]
        refine pure_at (fun _ q => q) a10 hfit (v := .int .i64 j) (rd := []) (by simp [evOp, evOperand, backEnv]) (by simp [backEnv]) (.move ..) (fun x1 f1 => ?_)
        rw [wpOpsIn_cons]
        refine pure_at (fun _ q => q) a11 f1 (v := .bool true) (rd := []) (by simp [evOp, evOperand, backEnv, evBin, evInt, liftO, ofVal, sc]) (by simp [backEnv]) (.bin ..) (fun x2 f2 => ?_)
        have hb := f2.eval (.tmp 8)
        have hb' : evOperand ((List.set (List.set (backEnv C j) 7 (.int .i64 j)) 8 (.bool true))) (.tmp 8) = .bool true := by simp [evOperand, backEnv]
        rw [hb'] at hb
        refine wpIn_cond_true hb.bool_inv (wpIn_skip ?_)
        show Code.wpIn (Fw none) n P _ _ _ W
        have f3 : Fit B B (backEnv C j) ((a.put (some 7) x1).put (some 8) x2) W S (fun _ => none) (fun _ => none) := f2.forget (by simp [backEnv]) (fun t => by
          rcases t with _ | _ | _ | _ | _ | _ | _ | _ | _ | _ | _ | _ | _ | _ | _ | _ | _ | _ | _ | t <;> first | exact .inl rfl | exact .inr rfl)
        have hy3 : ((a.put (some 7) x1).put (some 8) x2).tmps.getD 0 undef = .func (.yield l0) #[] #[] := by rw [put_get (by omega), put_get (by omega)]; exact hy
        have hd3 : ((a.put (some 7) x1).put (some 8) x2).defers = [] := hd
        generalize (a.put (some 7) x1).put (some 8) x2 = a3 at f3 hy3 hd3 ⊢
        obtain ⟨cs, v, q1, q2, q3, q4⟩ := hget j (by omega)
        refine wpIn_seq (wpIn_block (wpIn_seq (wpIn_region ?_)))
        rw [z3]
        show wpOpsIn (Fw none) n P r3 _ [0, 1, 2, 3, 4, 5, 6, 7] a3 W
        rw [wpOpsIn_cons]
        refine move_at (fun _ q => q) a30 f3 (by simp [backEnv]) (fun g0 => ?_)
        have hy11 : (a3.put (some 11) (a3.eval (.tmp 0))).tmps.getD 11 undef = .func (.yield l0) #[] #[] := by
          have hsz : 11 < a3.tmps.size := by rw [f3.len]; simp [backEnv]
          have : a3.eval (.tmp 0) = .func (.yield l0) #[] #[] := hy3
          rw [this]
          simp [Act.put, Array.getElem?_setIfInBounds, hsz]
        have hy00 : (a3.put (some 11) (a3.eval (.tmp 0))).tmps.getD 0 undef = .func (.yield l0) #[] #[] := by rw [put_get (by omega)]; exact hy3
        have hd00 : (a3.put (some 11) (a3.eval (.tmp 0))).defers = [] := hd3
        generalize a3.put (some 11) (a3.eval (.tmp 0)) = a4 at g0 hy11 hy00 hd00 ⊢
        rw [wpOpsIn_cons]
        refine pure_at (fun _ q => q) a31 g0 (v := .int .i64 j) (rd := []) (by simp [evOp, evOperand, backEnv]) (by simp [backEnv]) (.move ..) (fun x12 g1 => ?_)
        rw [wpOpsIn_cons]
        refine pure_at (fun _ q => q) a32 g1 (v := .list xs l) (rd := []) (by simp only [evOp]; exact hld 0) (by simp [backEnv]) (.load ..) (fun x13 g2 => ?_)
        rw [wpOpsIn_cons]
        refine pure_at (fun _ q => q) a33 g2 (v := .int .i64 j) (rd := []) (by simp [evOp, evOperand, backEnv]) (by simp [backEnv]) (.move ..) (fun x14 g3 => ?_)
        rw [wpOpsIn_cons]
        refine pure_at (fun _ q => q) a34 g3 (v := .fptr cs l) (rd := []) (by simp [evOp, evOperand, backEnv, evIndexAddr, s3, e1, q1, q2, hpos]) (by simp [backEnv]) (.ix ..) (fun x15 g4 => ?_)
        rw [wpOpsIn_cons]
        refine pure_at (fun _ q => q) a35 g4 (v := v) (rd := []) (by simp [evOp, evOperand, backEnv, evLoad, e1, e2, cut, ← q2, q3]) (by simp [backEnv]) (.load ..) (fun x16 g5 => ?_)
        rw [wpOpsIn_cons]
        have f6 : Fit B B ((backEnv C j).set 12 (.int .i64 j) |>.set 16 v) (((((a4.put (some 12) x12).put (some 13) x13).put (some 14) x14).put (some 15) x15).put (some 16) x16) W S (fun _ => none) (fun _ => none) := g5.forget (by simp [backEnv]) (fun t => by
          rcases t with _ | _ | _ | _ | _ | _ | _ | _ | _ | _ | _ | _ | _ | _ | _ | _ | _ | _ | _ | t <;> first | exact .inl rfl | exact .inr rfl)
        have hy6 : (((((a4.put (some 12) x12).put (some 13) x13).put (some 14) x14).put (some 15) x15).put (some 16) x16).tmps.getD 11 undef = .func (.yield l0) #[] #[] := by
          rw [put_get (by omega), put_get (by omega), put_get (by omega), put_get (by omega), put_get (by omega)]; exact hy11
        have hy60 : (((((a4.put (some 12) x12).put (some 13) x13).put (some 14) x14).put (some 15) x15).put (some 16) x16).tmps.getD 0 undef = .func (.yield l0) #[] #[] := by
          rw [put_get (by omega), put_get (by omega), put_get (by omega), put_get (by omega), put_get (by omega)]; exact hy00
        have hd6 : (((((a4.put (some 12) x12).put (some 13) x13).put (some 14) x14).put (some 15) x15).put (some 16) x16).defers = [] := hd00
        clear g5 g4 g3 g2 g1 g0
        generalize ((((a4.put (some 12) x12).put (some 13) x13).put (some 14) x14).put (some 15) x15).put (some 16) x16 = a6 at f6 hy6 hy60 hd6 ⊢
        have hk : items.length - 1 - j = xs.length - (j + 1) := by omega
        have hR := hY (xs.length - (j + 1)) ((#[.tmp 12, .tmp 16] : Array Operand).map a6.eval) W (by omega) ⟨[.int .i64 j, v], [a6.eval (.tmp 12), a6.eval (.tmp 16)], by rw [← hk, hil]; exact q4, mapsTo2,
          ⟨(by have := f6.eval (.tmp 12); have e : evOperand ((backEnv C j).set 12 (.int .i64 j) |>.set 16 v) (.tmp 12) = .int .i64 j := by simp [evOperand, backEnv]
               rw [e] at this; exact this.mono0 (fun _ _ => rfl) (fun _ q => q) (fun i im q => by cases q)),
           (by have := f6.eval (.tmp 16); have e : evOperand ((backEnv C j).set 12 (.int .i64 j) |>.set 16 v) (.tmp 16) = v := by simp [evOperand, backEnv]
               rw [e] at this; exact this.mono0 (fun _ _ => rfl) (fun _ q => q) (fun i im q => by cases q)), trivial⟩⟩ hJ0
        refine yield_at a36 hy6 hR (fun e W' hq => ?_)
        have tail : ∀ (b : Bool) (W2 : World), Fit B B ((backEnv C j).set 12 (.int .i64 j) |>.set 16 v) a6 W2 S (fun _ => none) (fun _ => none) →
            ∀ (Q : Exit → Act → World → Prop), (∀ x17 x18, Fit B B ((backEnv C j).set 18 (.bool !b)) ((a6.put (some 17) x17).put (some 18) x18) W2 S (fun _ => none) (fun _ => none) → Q .normal ((a6.put (some 17) x17).put (some 18) x18) W2) →
            wpOpsIn (Fw none) n P r3 Q [7] (a6.put (some 17) (.bool b)) W2 := by
          intro b W2 h6 Q hQ
          have h7 := h6.put (env' := ((backEnv C j).set 12 (.int .i64 j) |>.set 16 v).set 17 (.bool b)) (dst := some 17) (v := .bool b) (x := .bool b) (fun _ q => q) (by simp [setV, backEnv]) (Step.refl ..) h6.sr (.fr (.bool b))
          rw [wpOpsIn_cons]
          refine pure_at (fun _ q => q) a37 h7 (v := .bool !b) (rd := []) (by simp [evOp, evOperand, backEnv, evUn, liftO]) (by simp [backEnv]) (.un ..) (fun x18 g8 => ?_)
          refine hQ _ _ (g8.forget (by simp [backEnv]) (fun t => ?_))
          rcases t with _ | _ | _ | _ | _ | _ | _ | _ | _ | _ | _ | _ | _ | _ | _ | _ | _ | _ | _ | t <;> first | exact .inl rfl | exact .inr rfl
        have c18 : ∀ (b : Bool) {a' : Act} {W2 : World}, Fit B B ((backEnv C j).set 18 (.bool b)) a' W2 S (fun _ => none) (fun _ => none) → a'.eval (.tmp 18) = .bool b := fun b a' W2 h => by
          have := h.eval (.tmp 18)
          have e : evOperand ((backEnv C j).set 18 (.bool b)) (.tmp 18) = .bool b := by simp [evOperand, backEnv]
          rw [e] at this
          exact this.bool_inv
        rcases hq with ⟨rfl, hJ1, hK⟩ | ⟨rfl, hX⟩
        · refine ⟨_, rfl, tail true W' (f6.move hK) _ (fun x17 x18 h8 => ?_)⟩
          refine wpIn_cond_false (c18 false h8) (wpIn_skip ?_)
          show Code.wpIn (Fw none) n P _ _ _ W'
          have h9 : Fit B B (backEnv C j) ((a6.put (some 17) x17).put (some 18) x18) W' S (fun _ => none) (fun _ => none) := h8.forget (by simp [backEnv]) (fun t => by
            rcases t with _ | _ | _ | _ | _ | _ | _ | _ | _ | _ | _ | _ | _ | _ | _ | _ | _ | _ | _ | t <;> first | exact .inl rfl | exact .inr rfl)
          refine wpIn_region ?_
          rw [z2]
          show wpOpsIn (Fw none) n P r2 _ [0, 1, 2] _ W'
          rw [wpOpsIn_cons]
          refine pure_at (fun _ q => q) a20 h9 (v := .int .i64 j) (rd := []) (by simp [evOp, evOperand, backEnv]) (by simp [backEnv]) (.move ..) (fun x9 k1 => ?_)
          rw [wpOpsIn_cons]
          refine pure_at (fun _ q => q) a21 k1 (v := .int .i64 ((j : Int) - 1)) (rd := []) (by
            simp [evOp, evOperand, backEnv, evBin, evInt, liftO, ofVal, sc, wrap_small (z := (j : Int) - 1) (by omega) (by omega)]) (by simp [backEnv]) (.bin ..) (fun x10 k2 => ?_)
          rw [wpOpsIn_cons]
          refine pure_at (fun _ q => q) a22 k2 (v := .int .i64 ((j : Int) - 1)) (rd := []) (by simp [evOp, evOperand, backEnv]) (by simp [backEnv]) (.assign ..) (fun x3 k3 => ?_)
          show roundsW none n P _ _ (j + 1) _ W'
          refine ih (by omega) _ W' (by rw [show xs.length - j = xs.length - (j + 1) + 1 by omega]; exact hJ1) (fun rb q => (hK rb q).trans (hT rb q)) (k3.forget (by simp [backEnv]) (fun t => ?_))
            (by rw [put_get (by omega), put_get (by omega), put_get (by omega), put_get (by omega), put_get (by omega)]; exact hy60) hd6
          rcases t with _ | _ | _ | _ | _ | _ | _ | _ | _ | _ | _ | _ | _ | _ | _ | _ | _ | _ | _ | t <;> first | exact .inl rfl | exact .inr rfl
        · refine ⟨_, rfl, ?_⟩
          have hs6 : a6.tmps.size = 19 := by rw [f6.len]; simp [backEnv]
          rw [wpOpsIn_cons]
          refine not_at (b := false) a37 (by simp [Act.put, Array.getElem?_setIfInBounds, hs6]) ?_
          refine wpIn_cond_true (by simp [Act.eval, Act.put, Array.getElem?_setIfInBounds, hs6]) (wpIn_ret ?_)
          exact doneR _ _ hd6 (.inr hX)
    refine wpIn_seq (wpIn_region ?_)
    rw [z0]
    show wpOpsIn (Fw none) n P r0 _ [0, 1, 2, 3] a0 w
    rw [wpOpsIn_cons]
    refine pure_at (fun _ q => q) a00 hj0 (v := .list xs l) (rd := []) (by simp only [evOp, evOperand]; exact hld 0) (by simp) (.load ..) (fun x1 f1 => ?_)
    rw [wpOpsIn_cons]
    refine pure_at (fun _ q => q) a01 f1 (v := .int .i64 xs.length) (rd := []) (by simp [evOp, evOperand, evBuiltin, evLen, s3]) (by simp) (.len ..) (fun x2 f2 => ?_)
    rw [wpOpsIn_cons]
    refine pure_at (fun _ q => q) a02 f2 (v := .int .i64 ((xs.length : Int) - 1)) (rd := []) (by
      simp [evOp, evOperand, evBin, evInt, liftO, ofVal, sc, wrap_small (z := (xs.length : Int) - 1) (by omega) (by omega)]) (by simp) (.bin ..) (fun x3 f3 => ?_)
    rw [wpOpsIn_cons]
    refine pure_at (fun _ q => q) a03 f3 (v := .int .i64 ((xs.length : Int) - 1)) (rd := []) (by simp [evOp, evOperand]) (by simp) (.assign ..) (fun x4 f4 => ?_)
    show Code.wpIn Fence.wide n P _ Qf _ w
    refine wpIn_block (loop_fw (r := none) (xs.length + 1) (loop xs.length (Nat.le_refl _) _ w (by rw [Nat.sub_self]; exact h0) (fun _ _ => rfl) (f4.forget (by rfl) (fun t => ?_)) (by rw [put_get (by omega), put_get (by omega), put_get (by omega), put_get (by omega)]; exact hy0) hd0))
    rcases t with _ | _ | _ | _ | _ | _ | _ | _ | _ | _ | _ | _ | _ | _ | _ | _ | _ | _ | _ | t <;> first | exact .inl rfl | exact .inr rfl
  · cases hit
end
end Go.Proofs.Ytaiegfeppgaedaa.Iv

namespace Go.Proofs.Ytaiegfeppgaedaa.Iv
open Go
set_option linter.unusedVariables false
set_option linter.unusedSimpArgs false
/-! ### functions that hand on elements, of any code that leaves everything as it is -/
section
variable {P : Program} {K B : Nat → Prop} {w : World} {S : Nat → Prop} {m : Map} {H : Heap}

theorem slice_w (h : SR w S K m H) {t : Nat} {a : V} {lo hi mx : Option V} {out : Out} (he : evSlice P H t a lo hi mx = some out) {x : Value} {lo' hi' mx' : Option Value}
    (hx : VR w S B m a x) (rl : OptR (VR w S B m) lo lo') (rh : OptR (VR w S B m) hi hi') (rm : OptR (VR w S B m) mx mx') :
    SoundW P B w S m out (Instr.sliceAt t x lo' hi' mx') := by
  unfold evSlice at he
  split at he
  · rename_i hu
    split at he
    · rename_i s
      have := hx.str_inv; subst this
      cases mx' with
      | some => exact rm.elim
      | none =>
      split at he
      · rename_i l hh el eh
        split at he
        · rename_i hc
          cases he
          refine SoundW.pure h (x := .string ⟨((s.take hh).drop l).toArray⟩) ?_ (.fr (.str _))
          have hb := run_bounds2 (P := P) (isS := false) (cap := s.length) rl rh el eh hc.1 hc.2
          have hsz : (⟨s.toArray⟩ : ByteArray).size = s.length := by simp [ByteArray.size]
          have hex : (⟨s.toArray⟩ : ByteArray).extract l hh = ⟨((s.take hh).drop l).toArray⟩ := by
            apply ByteArray.ext
            apply Array.ext'
            simp [ByteArray.data_extract, List.extract_eq_take_drop, List.drop_take]
          simp only [Instr.sliceAt, Instr.slice, Sem.run_bind, run_underlying hu, Result.andThen_ok, hsz, hb, Option.isSome_none, Bool.false_eq_true, if_false, hex]
          rfl
        · cases he
      · cases he
    · cases he
  · rename_i e hu
    split at he
    · rename_i sz hs
      split at he
      · cases he
      · rename_i hz
        split at he
        · -- nils
          have := hx.nils_inv; subst this
          split at he
          · rename_i e1 e2 e3
            split at he
            · cases he
            · rename_i hq
              cases he
              refine SoundW.pure h (x := .slice none 0 0) ?_ (.fr .nils)
              cases mx with
              | none => cases mx' with
                | some => exact rm.elim
                | none =>
                  rw [slice_slice hu hs (run_bounds2 (P := P) (isS := true) rl rh e1 e2 (Nat.le_refl _) (Nat.le_refl _))]
                  simp
              | some mv => cases mx' with
                | none => exact rm.elim
                | some mv' =>
                  have his : hi.isSome = true := by cases hi <;> simp_all
                  rw [slice_slice hu hs (run_bounds3 (P := P) (len := 0) (cap := 0) rl rh rm e1 e2 e3 his (Nat.le_refl _) (Nat.le_refl _) (Nat.le_refl _))]
                  simp
          · cases he
        · -- emp
          obtain ⟨a0, rfl⟩ := hx.emp_inv
          split at he
          · rename_i e1 e2 e3
            split at he
            · cases he
            · rename_i hq
              cases he
              refine SoundW.pure h (x := .slice a0 0 0) ?_ (.fr (.emp _))
              cases mx with
              | none => cases mx' with
                | some => exact rm.elim
                | none =>
                  rw [slice_slice hu hs (run_bounds2 (P := P) (isS := true) rl rh e1 e2 (Nat.le_refl _) (Nat.le_refl _))]
                  simp
              | some mv => cases mx' with
                | none => exact rm.elim
                | some mv' =>
                  have his : hi.isSome = true := by cases hi <;> simp_all
                  rw [slice_slice hu hs (run_bounds3 (P := P) (len := 0) (cap := 0) rl rh rm e1 e2 e3 his (Nat.le_refl _) (Nat.le_refl _) (Nat.le_refl _))]
                  simp
          · cases he
        · -- list
          rename_i xs lent
          obtain ⟨sz', cap, a, vals, rfl, h1, h2, h3, h4⟩ := hx.list_inv
          split at he
          · cases mx' with
            | some => exact rm.elim
            | none =>
            split at he
            · rename_i l hh el eh
              split at he
              · rename_i hc
                obtain ⟨hc1, hc2, hc3⟩ := hc
                cases he
                have hz' : ∀ x ∈ xs, x.length = sz := fun x hx => by simpa using List.all_eq_true.1 hc3 x hx
                have hfl : ((xs.take hh).drop l).flatten = (xs.flatten.take (hh * sz)).drop (l * sz) := by
                  rw [flatten_drop sz _ _ (fun x hx => hz' x (List.mem_of_mem_take hx)), flatten_take sz _ _ hz']
                have hlen : ((xs.take hh).drop l).length = hh - l := by simp; omega
                have hr := slice_slice (P := P) (w := w) hu hs (a := a) (run_bounds2 (P := P) (isS := true) (cap := cap) rl rh el eh hc1 (by omega))
                rw [← hlen] at hr
                refine SoundW.pure h hr (VR.list_mk sz _ _ (fun j => vals (l * sz + j)) (by omega) (fun x hx => hz' x (List.mem_of_mem_take (List.mem_of_mem_drop hx))) (fun hne => ?_) (fun j c hj => ?_))
                · have hlt : l < hh := by
                    rcases Nat.lt_or_ge l hh with q | q
                    · exact q
                    · exact absurd (List.length_eq_zero_iff.1 (by omega)) hne
                  obtain ⟨rb, o, rfl, hS, hcell⟩ := h3 (fun e => by subst e; simp at hc2; omega)
                  refine ⟨rb, o + l * sz, ?_, hS, fun j hj => ?_⟩
                  · rw [if_neg (by omega)]; simp [add_eq]
                  · rw [hfl] at hj
                    rw [Nat.add_assoc]
                    exact hcell _ (by simp only [List.length_drop, List.length_take] at hj; omega)
                · rw [hfl, List.getElem?_drop] at hj
                  have hlt : l * sz + j < hh * sz := by
                    rcases Nat.lt_or_ge (l * sz + j) (hh * sz) with q | q
                    · exact q
                    · rw [List.getElem?_take, if_neg (by omega)] at hj; cases hj
                  rw [List.getElem?_take_of_lt hlt] at hj
                  exact h4 _ _ hj
              · cases he
            · cases he
          · rename_i mv
            cases mx' with
            | none => exact rm.elim
            | some mv' =>
            split at he
            · rename_i l hh mm el eh em
              split at he
              · rename_i hc
                obtain ⟨hc0, rfl, rfl, hc3⟩ := hc
                cases he
                have hr := slice_slice (P := P) (w := w) hu hs (a := a) (run_bounds3 (P := P) (len := xs.length) (cap := cap) rl rh rm el eh em hc0 (Nat.le_refl _) (Nat.le_refl _) (by omega))
                simp only [if_true, Nat.sub_self] at hr
                exact SoundW.pure h hr (.fr (.emp _))
              · split at he
                · rename_i hc
                  obtain ⟨hc0, hc1, hc2, hc4, hc3⟩ := hc
                  cases he
                  have hz' : ∀ x ∈ xs, x.length = sz := fun x hx => by simpa using List.all_eq_true.1 hc3 x hx
                  have hfl : ((xs.take hh).drop l).flatten = (xs.flatten.take (hh * sz)).drop (l * sz) := by
                    rw [flatten_drop sz _ _ (fun x hx => hz' x (List.mem_of_mem_take hx)), flatten_take sz _ _ hz']
                  have hlen : ((xs.take hh).drop l).length = hh - l := by simp; omega
                  have hr := slice_slice (P := P) (w := w) hu hs (a := a) (run_bounds3 (P := P) (len := xs.length) (cap := cap) rl rh rm el eh em hc0 (by omega) hc2 (by omega))
                  rw [← hlen] at hr
                  refine SoundW.pure h hr (VR.list_mk sz _ _ (fun j => vals (l * sz + j)) (by omega) (fun x hx => hz' x (List.mem_of_mem_take (List.mem_of_mem_drop hx))) (fun hne => ?_) (fun j c hj => ?_))
                  · have hlt : l < hh := by
                      rcases Nat.lt_or_ge l hh with q | q
                      · exact q
                      · exact absurd (List.length_eq_zero_iff.1 (by omega)) hne
                    obtain ⟨rb, o, rfl, hS, hcell⟩ := h3 (fun e => by subst e; simp at hc4; omega)
                    refine ⟨rb, o + l * sz, ?_, hS, fun j hj => ?_⟩
                    · rw [if_neg (by omega)]; simp [add_eq]
                    · rw [hfl] at hj
                      rw [Nat.add_assoc]
                      exact hcell _ (by simp only [List.length_drop, List.length_take] at hj; omega)
                  · rw [hfl, List.getElem?_drop] at hj
                    have hlt : l * sz + j < hh * sz := by
                      rcases Nat.lt_or_ge (l * sz + j) (hh * sz) with q | q
                      · exact q
                      · rw [List.getElem?_take, if_neg (by omega)] at hj; cases hj
                    rw [List.getElem?_take_of_lt hlt] at hj
                    exact h4 _ _ hj
                · cases he
            · cases he
        · -- sl
          rename_i i g o n s2 lim
          split at he
          · rename_i hs2
            subst hs2
            split at he
            · cases mx' with
              | some => exact rm.elim
              | none =>
              split at he
              · rename_i l hh el eh
                split at he
                · rename_i hlh
                  split at he
                  · rename_i hhn
                    cases he
                    cases hx with
                    | fr h => cases h
                    | sl _ _ _ _ _ im a cap hm ha h1 h2 h3 h4 h5 =>
                      have hr := slice_slice (P := P) (w := w) hu hs (a := some a) (run_bounds2 (P := P) (isS := true) (cap := cap) rl rh el eh hlh (by omega))
                      rw [show (if cap = l then some a else Option.map (fun x => x.add (l * s2)) (some a)) = some (if cap = l then a else a.add (l * s2)) by split <;> rfl] at hr
                      have hls : l * s2 + (hh - l) * s2 = hh * s2 := by rw [← Nat.add_mul]; congr 1; omega
                      have hns : hh * s2 ≤ n * s2 := Nat.mul_le_mul_right _ hhn
                      have hcs : l * s2 + (cap - l) * s2 = cap * s2 := by rw [← Nat.add_mul]; congr 1; omega
                      refine SoundW.pure h hr (VR.sl i _ _ _ _ im _ _ hm (fun hp => ?_) (by omega) (by omega) (by omega) (fun e => ?_) (fun c e => ?_))
                      · rw [if_neg (by omega), ha (by omega), add_eq, Nat.add_assoc]
                      · have := h4 (by cases lim <;> simp_all); omega
                      · cases lim with
                        | none => simp at e
                        | some c' => simp at e; have := h5 c' rfl; omega
                    | slD _ _ _ _ _ _ im a cap hm hg h1 h5 =>
                      have hr := slice_slice (P := P) (w := w) hu hs (a := some a) (run_bounds2 (P := P) (isS := true) (cap := cap) rl rh el eh hlh (by omega))
                      rw [show (if cap = l then some a else Option.map (fun x => x.add (l * s2)) (some a)) = some (if cap = l then a else a.add (l * s2)) by split <;> rfl] at hr
                      refine SoundW.pure h hr (VR.slD i _ _ _ _ _ im _ _ hm hg (by omega) (fun c e => ?_))
                      cases lim with
                      | none => simp at e
                      | some c' => simp at e; have := h5 c' rfl; omega
                  · split at he
                    · rename_i b hb
                      split at he
                      · rename_i hc
                        obtain ⟨hc1, hc2⟩ := hc
                        cases he
                        obtain ⟨im, a, cap, hm, ok, rfl, hi, rfl, ha, h1, h2, h3, h4, h5⟩ := VR.sl_live h hx hb
                        have hn := ok.n
                        have hhc : hh ≤ cap := by
                          cases lim with
                          | none =>
                            have := h4 rfl
                            have : hh * s2 ≤ cap * s2 := by omega
                            exact Nat.le_of_mul_le_mul_right this (by omega)
                          | some c => have := h5 c rfl; have := hc2 c rfl; omega
                        have hr := slice_slice (P := P) (w := w) hu hs (a := some a) (run_bounds2 (P := P) (isS := true) (cap := cap) rl rh el eh hlh hhc)
                        rw [show (if cap = l then some a else Option.map (fun x => x.add (l * s2)) (some a)) = some (if cap = l then a else a.add (l * s2)) by split <;> rfl] at hr
                        have hls : l * s2 + (hh - l) * s2 = hh * s2 := by rw [← Nat.add_mul]; congr 1; omega
                        have hcs : l * s2 + (cap - l) * s2 = cap * s2 := by rw [← Nat.add_mul]; congr 1; omega
                        refine SoundW.pure h hr (VR.sl i _ _ _ _ im _ _ hm (fun hp => ?_) (by omega) (by omega) (by omega) (fun e => ?_) (fun c e => ?_))
                        · rw [if_neg (by omega), ha (by omega), add_eq, Nat.add_assoc]
                        · have := h4 (by cases lim <;> simp_all); omega
                        · cases lim with
                          | none => simp at e
                          | some c' => simp at e; have := h5 c' rfl; omega
                      · cases he
                    · cases he
                · cases he
              · cases he
            · rename_i mv
              cases mx' with
              | none => exact rm.elim
              | some mv' =>
              split at he
              · rename_i l hh mm el eh em
                split at he
                · rename_i hc
                  obtain ⟨hc0, hc1, hc2, hc3⟩ := hc
                  cases he
                  cases hx with
                  | fr h => cases h
                  | sl _ _ _ _ _ im a cap hm ha h1 h2 h3 h4 h5 =>
                    have hr := slice_slice (P := P) (w := w) hu hs (a := some a) (run_bounds3 (P := P) (len := n) (cap := cap) rl rh rm el eh em hc0 hc1 hc2 (by omega))
                    rw [show (if mm = l then some a else Option.map (fun x => x.add (l * s2)) (some a)) = some (if mm = l then a else a.add (l * s2)) by split <;> rfl] at hr
                    have hls : l * s2 + (hh - l) * s2 = hh * s2 := by rw [← Nat.add_mul]; congr 1; omega
                    have hns : hh * s2 ≤ n * s2 := Nat.mul_le_mul_right _ (by omega)
                    have hms : l * s2 + (mm - l) * s2 = mm * s2 := by rw [← Nat.add_mul]; congr 1; omega
                    have hmc : mm * s2 ≤ cap * s2 := Nat.mul_le_mul_right _ (by omega)
                    refine SoundW.pure h hr (VR.sl i _ _ _ _ im _ _ hm (fun hp => ?_) (by omega) (by omega) (by omega) (fun e => by cases e) (fun c e => by cases e; rfl))
                    rw [if_neg (by omega), ha (by omega), add_eq, Nat.add_assoc]
                  | slD _ _ _ _ _ _ im a cap hm hg h1 h5 =>
                    have hr := slice_slice (P := P) (w := w) hu hs (a := some a) (run_bounds3 (P := P) (len := n) (cap := cap) rl rh rm el eh em hc0 hc1 hc2 (by omega))
                    rw [show (if mm = l then some a else Option.map (fun x => x.add (l * s2)) (some a)) = some (if mm = l then a else a.add (l * s2)) by split <;> rfl] at hr
                    exact SoundW.pure h hr (VR.slD i _ _ _ _ _ im _ _ hm hg (by omega) (fun c e => by cases e; rfl))
                · cases he
              · cases he
          · cases he
        · cases he
    · cases he
  · rename_i n e hu
    split at he
    · rename_i sz hs
      split at he
      · cases he
      · rename_i hz
        split at he
        · rename_i l hh el eh
          cases mx' with
          | some => exact rm.elim
          | none =>
          split at he
          · rename_i hc
            split at he
            · rename_i i g o
              split at he
              · rename_i b hb
                split at he
                · rename_i hle
                  cases he
                  obtain ⟨im, hm, ok, rfl, hi, rfl⟩ := VR.ptr_live h hx hb
                  have hn := ok.n
                  have hf := ok.fit
                  have hr : (Instr.sliceAt t (.pointer (some ⟨im.rb, im.dl + o, none⟩)) lo' hi' none).run P w = .ok (.slice (some (if n = l then ⟨im.rb, im.dl + o, none⟩ else ⟨im.rb, im.dl + o + l * sz, none⟩)) (hh - l) (n - l)) w := by
                    simp [Instr.sliceAt, Instr.sureAddr, run_underlying hu, run_bounds2 (P := P) (isS := false) rl rh el eh hc.1 hc.2, run_sizeOf' hs, add_eq]
                  have hls : l * sz + (hh - l) * sz = hh * sz := by rw [← Nat.add_mul]; congr 1; omega
                  have hns : hh * sz ≤ n * sz := Nat.mul_le_mul_right _ hc.2
                  have hcs : l * sz + (n - l) * sz = n * sz := by rw [← Nat.add_mul]; congr 1; omega
                  refine SoundW.pure h hr (VR.sl i _ _ _ _ im _ _ hm (fun hp => ?_) (by omega) (by omega) (by omega) (fun e => by cases e) (fun c e => by cases e; rfl))
                  rw [if_neg (by omega), Nat.add_assoc]
                · cases he
              · cases he
            · cases he
          · cases he
        · cases he
    · cases he
  · cases he

theorem optR_map {ρ : Operand → V} {ρ' : Operand → Value} (hρ : ∀ x, VR w S B m (ρ x) (ρ' x)) (o : Option Operand) : OptR (VR w S B m) (o.map ρ) (o.map ρ') := by
  cases o with
  | none => trivial
  | some x => exact hρ x
theorem len_ups {t : Nat} {x : V} {out : Out} (he : evLen P t x = some out) : out.ups = [] := by
  unfold evLen at he
  split at he <;> first | (cases he; rfl) | cases he
theorem ix_ups {t : Nat} {x y : V} {out : Out} (he : evIndexAddr P t x y = some out) : out.ups = [] := by
  unfold evIndexAddr at he
  repeat' split at he
  all_goals first | (cases he; rfl) | cases he
theorem slice_ups {t : Nat} {x : V} {a b c : Option V} {out : Out} (he : evSlice P H t x a b c = some out) : out.ups = [] := by
  unfold evSlice at he
  repeat' split at he
  all_goals first | (cases he; rfl) | cases he
theorem lift_ups {o : Option V} {out : Out} (he : liftO o = some out) : out.ups = [] ∧ o = some out.v := by
  cases o with
  | none => cases he
  | some v => cases he; exact ⟨rfl, rfl⟩

/-- an operation that leaves the world as it is -/
theorem still_run {ρ : Operand → V} {a : Act} (h : SR w S K m H) (hρ : ∀ x, VR w S B m (ρ x) (a.eval x)) {d : Nat} {op : Op} {out : Out} (he : evOp P noCall noPol H ρ d op = some out) (hp : stillOp op = true) {o : Oper} (ho : o.op = op) :
    out.ups = [] ∧ ∃ x, (execOp a.eval o).run P w = .ok (.value x) w ∧ VR w S B m out.v x := by
  cases op with
  | move x =>
    simp only [evOp, Option.some.injEq] at he; subst he
    exact ⟨rfl, _, by unfold execOp; rw [ho]; rfl, hρ x⟩
  | assign x =>
    simp only [evOp, Option.some.injEq] at he; subst he
    exact ⟨rfl, _, by unfold execOp; rw [ho]; rfl, hρ x⟩
  | load t x =>
    simp only [evOp] at he
    obtain ⟨e, y, hr, hy⟩ := load_val (P := P) h he (hρ x)
    exact ⟨e, y, by unfold execOp; rw [ho]; simp [hr], hy⟩
  | binOp b t x y u =>
    simp only [evOp] at he
    obtain ⟨e1, e2⟩ := lift_ups he
    obtain ⟨z, hr, hz⟩ := bin_sound (P := P) e2 (hρ x) (hρ y) x y
    refine ⟨e1, z, ?_, hz⟩
    unfold execOp; rw [ho]
    simp only [Sem.run_bind] at hr ⊢
    rw [hr]; rfl
  | unOp b t x =>
    simp only [evOp] at he
    obtain ⟨e1, e2⟩ := lift_ups he
    obtain ⟨z, hr, hz⟩ := un_sound (P := P) e2 (hρ x)
    exact ⟨e1, z, by unfold execOp; rw [ho]; simp [hr], hz⟩
  | indexAddr t x y =>
    simp only [evOp] at he
    obtain ⟨z, hr, hz⟩ := indexAddr_w (P := P) h he (hρ x) (hρ y)
    exact ⟨ix_ups he, z, by unfold execOp; rw [ho]; simp [hr], hz⟩
  | slice t x lo hi mx =>
    simp only [evOp] at he
    obtain ⟨z, hr, hz⟩ := slice_w (P := P) h he (hρ x) (optR_map hρ lo) (optR_map hρ hi) (optR_map hρ mx)
    exact ⟨slice_ups he, z, by unfold execOp; rw [ho]; simp [hr], hz⟩
  | call c =>
    obtain ⟨callee, args, ts⟩ := c
    cases callee with
    | builtin b =>
      cases b <;> simp [stillOp] at hp
      · obtain ⟨h1, h2⟩ := hp
        obtain ⟨x, rfl⟩ : ∃ x, args = #[x] := by
          rcases args with ⟨l⟩
          rcases l with _ | ⟨x, _ | ⟨y, l⟩⟩ <;> simp at h1
          exact ⟨x, rfl⟩
        obtain ⟨t, rfl⟩ : ∃ t, ts = #[t] := by
          rcases ts with ⟨l⟩
          rcases l with _ | ⟨x, _ | ⟨y, l⟩⟩ <;> simp at h2
          exact ⟨x, rfl⟩
        simp only [evOp, evBuiltin, List.map_cons, List.map_nil] at he
        obtain ⟨z, hr, hz⟩ := len_w (P := P) (ty := o.type) h he (hρ x) #[t] (by simp)
        refine ⟨len_ups he, z, ?_, hz⟩
        unfold execOp; rw [ho]
        simp [resolve, invoke, builtin, hr]
      · obtain ⟨x, y, rfl⟩ : ∃ x y, args = #[x, y] := by
          rcases args with ⟨l⟩
          rcases l with _ | ⟨x, _ | ⟨y, _ | ⟨z, l⟩⟩⟩ <;> simp at hp
          exact ⟨x, y, rfl⟩
        simp only [evOp, evBuiltin, List.map_cons, List.map_nil] at he
        obtain ⟨e1, e2⟩ := lift_ups he
        obtain ⟨z, hr, hz⟩ := foldO_sound (P := P) (fun e r1 r2 => min2_sound e r1 r2) e2 (hρ x) (xs := [a.eval y]) ⟨hρ y, trivial⟩
        refine ⟨e1, z, ?_, hz⟩
        unfold execOp; rw [ho]
        simp [resolve, invoke, builtin, Builtin.min_]
        simp at hr
        simp [hr]
    | _ => simp [stillOp] at hp
  | _ => simp [stillOp] at hp

theorem Act.put_other {a : Act} {d : Option Tmp} {t : Nat} {x : Value} (h : ∀ q, d = some q → q ≠ t) : (a.put d x).tmps.getD t undef = a.tmps.getD t undef := by
  cases d with
  | none => rfl
  | some q => simp [Act.put, Array.getElem?_setIfInBounds, h q rfl]
theorem still_ne {ys : List Nat} {o : Oper} (h : stillOper ys o = true) : stillOp o.op = true ∧ ∀ t ∈ ys, ∀ q, o.dst = some q → q ≠ t := by
  simp only [stillOper, Bool.and_eq_true] at h
  refine ⟨h.1, fun t ht q hq e => ?_⟩
  have h2 := h.2
  rw [hq] at h2
  subst e
  simp [ht] at h2

theorem still_oper (hB : ∀ rb, B rb → K rb) {ops : Array Oper} {k : Nat} {o : Oper} {env env' : List V} {a : Act} {ys : List Nat}
    (h : Fit K B env a w S m H) {out : Out} (he : evOper P noCall noPol ops k o env H = some out) (hs : setV env o.dst out.v = some env') (hk : ops[k]? = some o) (hst : stillOper ys o = true) {r : Option Nat} {n : Nat} {Q : Exit → Act → World → Prop} {next : Act → World → Prop}
    (hn : ∀ a', Fit K B env' a' w S m H → a'.defers = a.defers → (∀ t ∈ ys, a'.tmps.getD t undef = a.tmps.getD t undef) → next a' w) : out.ups = [] ∧ wpOpIn (Fw r) n P ops Q k next a w := by
  obtain ⟨s1, s2⟩ := still_ne hst
  have put_defers : ∀ x, (a.put o.dst x).defers = a.defers := fun x => by cases o.dst <;> rfl
  unfold wpOpIn
  simp only [hk]
  unfold evOper at he
  split at he
  · rename_i hw
    rw [if_pos (wanted_of h hw)]
    obtain ⟨e, x, hr, hx⟩ := still_run h.sr h.eval he s1 rfl
    refine ⟨e, oper_fw (fun c hc => by rw [hc] at s1; simp [stillOp] at s1) ?_⟩
    unfold Oper.wp
    rw [hr]
    simp only [Oper.upon]
    exact hn _ (h.put hB hs (Step.refl ..) h.sr hx) (put_defers x) (fun t ht => Act.put_other (s2 t ht))
  · rename_i hw
    cases he
    rw [if_neg (by rw [wanted_of h hw]; simp)]
    exact ⟨rfl, fun _ _ => trivial, hn _ (h.put hB hs (Step.refl ..) h.sr (.tup [] #[] rfl (fun j c x hj => by simp at hj))) (put_defers _) (fun t ht => Act.put_other (s2 t ht))⟩
  · cases he

theorem still_ops (hB : ∀ rb, B rb → K rb) {ops : Array Oper} {ys : List Nat} {r : Option Nat} {n : Nat} {Q : Exit → Act → World → Prop} {rest : List Nat} :
    ∀ (l : List Oper) (k : Nat) (env : List V) (lg : Log) {env' : List V} {H' : Heap} {lg' : Log} (a : Act),
      (∀ j, j < l.length → l[j]? = ops[k + j]?) → evOps P noCall noPol ops l k env H lg = some (env', H', lg') → l.all (stillOper ys) = true → Fit K B env a w S m H →
      (∀ a', Fit K B env' a' w S m H → a'.defers = a.defers → (∀ t ∈ ys, a'.tmps.getD t undef = a.tmps.getD t undef) → wpOpsIn (Fw r) n P ops Q rest a' w) → wpOpsIn (Fw r) n P ops Q (List.range' k l.length ++ rest) a w
  | [], k, env, lg, env', H', lg', a, _, he, _, h, hq => by
    simp only [evOps, Option.some.injEq, Prod.mk.injEq] at he
    obtain ⟨rfl, rfl, rfl⟩ := he
    simpa using hq a h rfl (fun _ _ => rfl)
  | o :: q, k, env, lg, env', H', lg', a, hl, he, hall, h, hq => by
    simp only [evOps] at he
    simp only [List.all_cons, Bool.and_eq_true] at hall
    split at he
    · rename_i v us rd ho
      split at he
      · rename_i env1 hs
        have hk : ops[k]? = some o := by simpa using (hl 0 (by simp)).symm
        simp only [List.length_cons, List.range'_succ, List.cons_append]
        rw [wpOpsIn_cons]
        have hu : us = [] := (still_oper (n := n) (r := r) (Q := Q) (next := fun _ _ => True) hB h ho hs hk hall.1 (fun _ _ _ _ => trivial)).1
        subst hu
        refine (still_oper hB h ho hs hk hall.1 (fun a1 h1 hd1 ht1 => ?_)).2
        exact still_ops hB q (k + 1) env1 _ a1 (fun j hj => by have := hl (j + 1) (by simp; omega); simpa [Nat.add_assoc, Nat.add_comm 1 j] using this) he hall.2 h1
          (fun a' h' hd' ht' => hq a' h' (hd'.trans hd1) (fun t ht => (ht' t ht).trans (ht1 t ht)))
      · cases he
    · cases he

theorem still_any (hB : ∀ rb, B rb → K rb) {ops : Array Oper} {L : Nat → Out} {ys : List Nat} (hall : ∀ (i : Nat) (o : Oper), ops[i]? = some o → stillOper ys o = true) {Qf : List V → Heap → Prop} {r : Option Nat} {n : Nat} {Q : Exit → Act → World → Prop} :
    ∀ (fuel : Nat) (listed : Array Bool) (env : List V) (a : Act), AnyA P noCall noPol ops L Qf fuel listed env H → Fit K B env a w S m H →
      (∀ a' env', Qf env' H → Fit K B env' a' w S m H → a'.defers = a.defers → (∀ t ∈ ys, a'.tmps.getD t undef = a.tmps.getD t undef) → Q .normal a' w) → wpAnyIn (Fw r) n P .any ops Q fuel listed a w
  | 0, listed, env, a, A, h, hq => ⟨A.1, hq a env A.2 h rfl (fun _ _ => rfl)⟩
  | fuel + 1, listed, env, a, A, h, hq => by
    refine ⟨fun h0 => hq a env (A.1 h0) h rfl (fun _ _ => rfl), fun i hi => ?_⟩
    obtain ⟨o, env1, ho, he, hs, A2⟩ := A.2 i hi
    have hu : (L i).ups = [] := (still_oper (n := n) (r := r) (Q := Q) (next := fun _ _ => True) hB h he hs ho (hall i o ho) (fun _ _ _ _ => trivial)).1
    rw [hu] at A2
    refine (still_oper hB h he hs ho (hall i o ho) (fun a1 h1 hd1 ht1 => ?_)).2
    exact still_any hB hall fuel _ env1 a1 A2 h1 (fun a' env' hQ h' hd' ht' => hq a' env' hQ h' (hd'.trans hd1) (fun t ht => (ht' t ht).trans (ht1 t ht)))

/-- a region that leaves the world as it is -/
theorem still_region (hm : P.follows .mixedOrders = true) (hB : ∀ rb, B rb → K rb) {id : Nat} {ops : Array Oper} {draw : Bool} {ys : List Nat} (hlex : draw = true → Region.lexB .any ops = true) {env env' : List V} {H' : Heap} {lg : Log}
    (he : evOps P noCall noPol ops ops.toList 0 env H [] = some (env', H', lg)) (hlg : draw = true → logOk ops lg = true) (hall : ops.toList.all (stillOper ys) = true) {a : Act} (h : Fit K B env a w S m H) {r : Option Nat} {n : Nat} {Q : Exit → Act → World → Prop}
    (hq : ∀ a' w', (w' = w ∨ w' = w.drew) → Fit K B env' a' w' S m H → a'.defers = a.defers → (∀ t ∈ ys, a'.tmps.getD t undef = a.tmps.getD t undef) → Q .normal a' w') : (Code.region id ops draw).wpIn (Fw r) n P Q a w := by
  have hget : ∀ (i : Nat) (o : Oper), ops[i]? = some o → stillOper ys o = true := fun i o hi => List.all_eq_true.1 hall o (by
    have := Array.mem_of_getElem? hi
    simpa using this)
  cases draw with
  | false =>
    refine wpIn_region ?_
    have := still_ops (r := r) (n := n) (Q := Q) (rest := []) hB ops.toList 0 env [] a (fun j _ => by simp) he hall h (fun a' h' hd' ht' => by
      simpa [wpOpsIn] using hq a' w (.inl rfl) h' hd' ht')
    rw [List.range_eq_range']
    simpa using this
  | true =>
    have hlex := hlex rfl
    simp only [Region.lexB, Bool.and_eq_true] at hlex
    obtain ⟨outs, hl, hr, rfl⟩ := runs_of he
    have hol : outs.length = ops.size := by simpa using hl
    refine wpIn_region_any hm ?_
    have A := lex_any (Qf := fun e h => e = env') hol (hlg rfl) rfl ops.toList 0 (Array.replicate ops.size false) env H outs (by simp) (by simp) (by simpa using hlex.2)
      (fun j oj hj hl => by
        rcases Nat.lt_or_ge j ops.size with q | q
        · simp [q] at hl
        · simp [Array.getElem?_eq_none (show (Array.replicate ops.size false).size ≤ j by simpa using q), q] at hl) (fun j hj => by omega) hr
    have hd : Fit K B env a w.drew S m H := ⟨h.sr.drew, h.len, fun t => (h.tr t).mono (Step.drew K w S m) hB⟩
    have := still_any (r := r) (n := n) (Q := Q) hB hget _ _ env a A hd (fun a' e2 hQ h' hd' ht' => by
      subst hQ
      exact hq a' w.drew (.inr rfl) h' hd' ht')
    simpa using this

/-! ### the functions' code -/
structure GI (J : Nat → World → Prop) (S B : Nat → Prop) (w : World) (l0 : Nat) (k : Nat) (env : List V) (a : Act) (W : World) : Prop where
  j : J k W
  t : ∀ rb, S rb ∨ B rb → W.heap[rb]? = w.heap[rb]?
  fit : Fit B B env a W S (fun _ => none) (fun _ => none)
  y : a.tmps.getD 0 undef = .func (.yield l0) #[] #[]
  d : a.defers = []
def GenW (J : Nat → World → Prop) (Jx : World → Prop) (S B : Nat → Prop) (w : World) (l0 : Nat) (items : List (List V)) (env : List V) (ex : Ex) (env' : List V) (its : List (List V)) (X : (Exit → Act → World → Prop) → Act → World → Prop) : Prop :=
  ∀ (k : Nat) (rest : List (List V)) (a : Act) (W : World) (Q : Exit → Act → World → Prop), items.drop k = its ++ rest → GI J S B w l0 k env a W →
    (∀ e a' W', ExR ex e → GI J S B w l0 (k + its.length) env' a' W' → Q e a' W') → (∀ a' W', a'.defers = [] → Jx W' → Q .ret a' W') → X Q a W

/-- a call of yield -/
theorem yield_c {ops : Array Oper} {k d y : Nat} {c : Call} (hk : At ops k (.call c) d) (hc : c.callee = .value (.tmp y)) {a : Act} {l : Nat}
    (hy : a.tmps.getD y undef = .func (.yield l) #[] #[]) {n : Nat} {R : Ending → World → Prop} (hR : YieldAt Fence.wide (n - 1) P l (c.args.map a.eval) w R) {Q : Exit → Act → World → Prop} {next : Act → World → Prop}
    (hn : ∀ e w', R e w' → ∃ v, e = .returned v ∧ next (a.put (some d) v) w') : wpOpIn Fence.wide n P ops Q k next a w := by
  obtain ⟨callee, args, ts⟩ := c
  simp only at hc
  subst hc
  exact yield_at hk hy hR hn

theorem isYield_spec {a b : Code} {L : List Oper} {f : Nat} {pre : List Oper} {args : List Operand} {d t : Nat} (h : isYield a b = some (L, f, pre, args, d, t)) :
    ∃ id ops, a = .region id ops false ∧ b = .cond (.tmp t) .ret .skip ∧ ops.toList = L ∧ f ≠ 0 ∧ d ≠ 0 ∧ t ≠ 0 ∧
      ∃ (mv y nt : Oper) (c : Call) (u : Nat), L = mv :: (pre ++ [y, nt]) ∧ (mv.op = .move (.tmp 0) ∧ mv.guard = none ∧ mv.dst = some f) ∧ (y.op = .call c ∧ c.callee = .value (.tmp f) ∧ c.args.toList = args ∧ y.guard = none ∧ y.dst = some d) ∧
        (nt.op = .unOp .not u (.tmp d) ∧ nt.guard = none ∧ nt.dst = some t) := by
  unfold isYield at h
  split at h
  · rename_i id ops t'
    split at h
    · rename_i f' pre' args' d' t2 hy
      split at h
      · rename_i ht
        cases h
        subst ht
        unfold yieldOf at hy
        split at hy
        · rename_i f0 r hL
          split at hy
          · rename_i t0 u d0 d1 f1 args0 ts0 q hrev
            split at hy
            · rename_i hc
              simp only [Bool.and_eq_true, beq_iff_eq, bne_iff_ne, ne_eq, decide_eq_true_eq] at hc
              cases hy
              have hr : ∀ {r q : List Oper} {x y : Oper}, r.reverse = x :: y :: q → r = q.reverse ++ [y, x] := fun {r q x y} e => by
                have := congrArg List.reverse e
                simpa using this
              have hr' := hr hrev
              have hL' := hL
              rw [hr'] at hL'
              obtain ⟨⟨⟨⟨c1, c2⟩, c3⟩, c4⟩, c5⟩ := hc
              subst c1 c2
              exact ⟨id, ops, rfl, rfl, rfl, c3, c4, c5, _, _, _, _, _, hL', ⟨rfl, rfl, rfl⟩, ⟨rfl, rfl, rfl, rfl, rfl⟩, rfl, rfl, rfl⟩
            · cases hy
          · cases hy
        · cases hy
      · cases h
    · cases h
  · cases h
end
end Go.Proofs.Ytaiegfeppgaedaa.Iv

namespace Go.Proofs.Ytaiegfeppgaedaa.Iv
open Go
set_option linter.unusedVariables false
set_option linter.unusedSimpArgs false
section
variable {P : Program} {S B : Nat → Prop} {w : World}

theorem range_two (n : Nat) : List.range' (0 + 1) (n + 2) = List.range' 1 n ++ [n + 1, n + 2] := by
  rw [show n + 2 = (n + 1) + 1 from rfl, List.range'_concat, List.range'_concat]
  simp [Nat.add_comm]
theorem lex_seq {a b : Code} (h : lexAll (.seq a b) = true) : lexAll a = true ∧ lexAll b = true := by
  simpa [lexAll, drawn, List.all_append] using h
theorem lex_cond {x : Operand} {a b : Code} (h : lexAll (.cond x a b) = true) : lexAll a = true ∧ lexAll b = true := by
  simpa [lexAll, drawn, List.all_append] using h

theorem evG_sound (hm : P.follows .mixedOrders = true) {J : Nat → World → Prop} {Jx : World → Prop} {n l0 : Nat} {items : List (List V)}
    (hJ : ∀ k W, J k W → J k W.drew)
    (hY : ∀ k x W1, k < items.length → (∃ it x0, items[k]? = some it ∧ x = x0.toArray ∧ All2 (VR W1 S B (fun _ => none)) it x0) → J k W1 → YieldAt Fence.wide (n - 1) P l0 x W1 fun e W' =>
      (e = .returned (.bool true) ∧ J (k + 1) W' ∧ ∀ rb, S rb ∨ B rb → W'.heap[rb]? = W1.heap[rb]?) ∨ (e = .returned (.bool false) ∧ Jx W')) :
    ∀ (fuel : Nat) (c : Code) (env : List V) {ex : Ex} {env' : List V} {its : List (List V)}, lexAll c = true → evG P fuel c env = some (ex, env', its) →
      GenW J Jx S B w l0 items env ex env' its (fun Q a W => c.wpIn (Fw none) n P Q a W) ∧
      ∀ x, c = .loop x → ∃ j, GenW J Jx S B w l0 items env ex env' its (fun Q a W => roundsW none n P x Q j a W) := by
  intro fuel
  induction fuel with
  | zero => intro c env ex env' its _ he; simp [evG] at he
  | succ fuel ih =>
    intro c env ex env' its hl he
    cases c with
    | skip =>
      simp only [evG, Option.some.injEq, Prod.mk.injEq] at he
      obtain ⟨rfl, rfl, rfl⟩ := he
      exact ⟨fun k rest a W Q hi g hq _ => wpIn_skip (hq _ a W trivial (by simpa using g)), fun x e => by cases e⟩
    | ret =>
      simp only [evG, Option.some.injEq, Prod.mk.injEq] at he
      obtain ⟨rfl, rfl, rfl⟩ := he
      exact ⟨fun k rest a W Q hi g hq _ => wpIn_ret (hq _ a W trivial (by simpa using g)), fun x e => by cases e⟩
    | exit i =>
      simp only [evG, Option.some.injEq, Prod.mk.injEq] at he
      obtain ⟨rfl, rfl, rfl⟩ := he
      exact ⟨fun k rest a W Q hi g hq _ => wpIn_exit (hq _ a W rfl (by simpa using g)), fun x e => by cases e⟩
    | label l => simp [evG] at he
    | goto l => simp [evG] at he
    | refuse y => simp [evG] at he
    | rangeFunc g ps as body => simp [evG] at he
    | scope c => simp [evG] at he
    | cond x p q =>
      refine ⟨?_, fun x e => by cases e⟩
      obtain ⟨l1, l2⟩ := lex_cond hl
      simp only [evG] at he
      split at he
      · rename_i hx
        intro k rest a W Q hi g hq hr
        have hb := g.fit.eval x
        rw [hx] at hb
        exact wpIn_cond_true hb.bool_inv ((ih p env l1 he).1 k rest a W Q hi g hq hr)
      · rename_i hx
        intro k rest a W Q hi g hq hr
        have hb := g.fit.eval x
        rw [hx] at hb
        exact wpIn_cond_false hb.bool_inv ((ih q env l2 he).1 k rest a W Q hi g hq hr)
      · cases he
    | block id c =>
      refine ⟨?_, fun x e => by cases e⟩
      have l1 : lexAll c = true := hl
      simp only [evG] at he
      split at he
      · rename_i j env1 its1 h1
        intro k rest a W Q hi g hq hr
        have hits : its1 = its := by split at he <;> (cases he; rfl)
        have henv : env1 = env' := by split at he <;> (cases he; rfl)
        subst hits henv
        refine wpIn_block ((ih c env l1 h1).1 k rest a W _ hi g (fun e a' W' hex g' => ?_) (fun a' W' hd hj => ?_))
        · cases e <;> first | exact hex.elim | skip
          have hjj : j = _ := hex
          subst hjj
          simp only [Exit.inBlock]
          split at he
          · rename_i hid
            cases he
            subst hid
            simp only [if_true]
            exact hq _ a' W' trivial g'
          · rename_i hid
            cases he
            rw [if_neg (by first | exact hid | exact Ne.symm hid)]
            exact hq _ a' W' rfl g'
        · exact hr a' W' hd hj
      · rename_i r hne
        intro k rest a W Q hi g hq hr
        refine wpIn_block ((ih c env l1 he).1 k rest a W _ hi g (fun e a' W' hex g' => ?_) (fun a' W' hd hj => hr a' W' hd hj))
        cases ex with
        | nrm => cases e <;> first | exact hex.elim | exact hq _ a' W' trivial g'
        | ret => cases e <;> first | exact hex.elim | exact hq _ a' W' trivial g'
        | exit j => exact absurd he (hne j env' its)
    | loop c =>
      have l1 : lexAll c = true := hl
      have key : ∃ j, GenW J Jx S B w l0 items env ex env' its (fun Q a W => roundsW none n P c Q j a W) := by
        simp only [evG] at he
        split at he
        · rename_i env1 its1 h1
          split at he
          · rename_i ex2 env2 its2 h2
            cases he
            obtain ⟨j, hj⟩ := (ih (.loop c) env1 hl h2).2 c rfl
            refine ⟨j + 1, fun k rest a W Q hi g hq hr => ?_⟩
            show Code.wpIn (Fw none) n P c (Exit.then (roundsW none n P c Q j) Q) a W
            refine (ih c env l1 h1).1 k (its2 ++ rest) a W _ (by rw [hi]; simp) g (fun e a' W' hex g' => ?_) (fun a' W' hd hx => hr a' W' hd hx)
            cases e <;> first | exact hex.elim | skip
            show roundsW none n P c Q j a' W'
            refine hj (k + its1.length) rest a' W' Q ?_ g' (fun e a2 W2 hex2 g2 => hq e a2 W2 hex2 (by simpa [Nat.add_assoc] using g2)) hr
            rw [← List.drop_drop, hi]
            simp
          · cases he
        · rename_i r hne
          refine ⟨1, fun k rest a W Q hi g hq hr => ?_⟩
          show Code.wpIn (Fw none) n P c (Exit.then (roundsW none n P c Q 0) Q) a W
          refine (ih c env l1 he).1 k rest a W _ hi g (fun e a' W' hex g' => ?_) (fun a' W' hd hx => hr a' W' hd hx)
          cases ex with
          | nrm => exact absurd he (hne env' its)
          | ret => cases e <;> first | exact hex.elim | exact hq _ a' W' trivial g'
          | exit j => cases e <;> first | exact hex.elim | exact hq _ a' W' hex g'
      refine ⟨?_, fun x e => by cases e; exact key⟩
      obtain ⟨j, hj⟩ := key
      exact fun k rest a W Q hi g hq hr => loop_fw j (hj k rest a W Q hi g hq hr)
    | region id ops draw =>
      refine ⟨?_, fun x e => by cases e⟩
      simp only [evG] at he
      split at he
      · rename_i hall
        split at he
        · rename_i env1 H1 lg ho
          split at he
          · cases he
          · rename_i hlg
            cases he
            intro k rest a W Q hi g hq hr
            refine still_region hm (fun _ q => q) (fun hd => ?_) ho (fun hd => by subst hd; simpa using hlg) hall g.fit (fun a' W' hw hf hdf hy => hq .normal a' W' trivial ⟨?_, fun rb q => ?_, hf, ?_, hdf.trans g.d⟩)
            · subst hd
              simpa [lexAll, drawn] using hl
            · rcases hw with rfl | rfl
              · exact g.j
              · exact hJ _ _ g.j
            · rcases hw with rfl | rfl
              · exact g.t rb q
              · exact g.t rb q
            · rw [hy 0 (by simp)]; exact g.y
        · cases he
      · cases he
    | seq p q =>
      refine ⟨?_, fun x e => by cases e⟩
      obtain ⟨l1, l2⟩ := lex_seq hl
      simp only [evG] at he
      split at he
      · rename_i L f pre args d t hpat
        obtain ⟨id, ops, rfl, rfl, hops, f0, d0, t0, mv, y, nt, cl, u, hL, ⟨m1, m2, m3⟩, ⟨y1, y2, y3, y4, y5⟩, ⟨n1, n2, n3⟩⟩ := isYield_spec hpat
        split at he
        · rename_i hc
          obtain ⟨hall, hf, hd, ht⟩ := hc
          split at he
          · rename_i env2 H2 lg ho
            cases he
            intro k rest a W Q hi g hq hr
            have hopsA : ops = L.toArray := by rw [← hops]
            have at0 : At ops 0 (.move (.tmp 0)) f := ⟨mv, by rw [hopsA, hL]; rfl, m1, m2, m3⟩
            have hlen : L.length = pre.length + 3 := by rw [hL]; simp
            have aty : At ops (pre.length + 1) (.call cl) d := ⟨y, by rw [hopsA, hL]; simp, y1, y4, y5⟩
            have atn : At ops (pre.length + 2) (.unOp .not u (.tmp d)) t := ⟨nt, by rw [hopsA, hL]; simp, n1, n2, n3⟩
            refine wpIn_seq (wpIn_region ?_)
            have hrange : List.range ops.size = 0 :: (List.range' 1 pre.length ++ [pre.length + 1, pre.length + 2]) := by
              have : ops.size = pre.length + 3 := by rw [hopsA]; simpa using hlen
              rw [this, List.range_eq_range', List.range'_succ]
              congr 1
              exact range_two _
            rw [hrange, wpOpsIn_cons]
            refine move_at (fun _ q => q) at0 g.fit hf (fun g0 => ?_)
            have hsz : a.tmps.size = env.length := g.fit.len
            have hyf : (a.put (some f) (a.eval (.tmp 0))).tmps.getD f undef = .func (.yield l0) #[] #[] := by
              have : a.eval (.tmp 0) = .func (.yield l0) #[] #[] := g.y
              rw [this]
              simp [Act.put, Array.getElem?_setIfInBounds, hsz, hf]
            have hy0 : (a.put (some f) (a.eval (.tmp 0))).tmps.getD 0 undef = .func (.yield l0) #[] #[] := by rw [put_get (Ne.symm f0)]; exact g.y
            have hd1 : (a.put (some f) (a.eval (.tmp 0))).defers = [] := g.d
            generalize a.put (some f) (a.eval (.tmp 0)) = a1 at g0 hyf hy0 hd1 ⊢
            refine still_ops (ys := [0, f]) (fun _ q => q) pre 1 _ [] a1 (fun j hj => ?_) (by rw [hopsA]; exact ho) hall g0 (fun a2 g2 hd2 hy2 => ?_)
            · rw [hopsA, hL]
              simp only [List.getElem?_toArray]
              rw [Nat.add_comm, List.getElem?_cons_succ, List.getElem?_append_left hj]
            have hy2f : a2.tmps.getD f undef = .func (.yield l0) #[] #[] := by rw [hy2 f (by simp)]; exact hyf
            have hy20 : a2.tmps.getD 0 undef = .func (.yield l0) #[] #[] := by rw [hy2 0 (by simp)]; exact hy0
            have hd20 : a2.defers = [] := hd2.trans hd1
            have hel2 : env2.length = env.length := by
              have e1 := g2.len
              have hh : ∀ (l : List Oper) (k : Nat) (e : List V) (h : Heap) (lg : Log) {e' : List V} {h' : Heap} {lg' : Log}, evOps P noCall noPol L.toArray l k e h lg = some (e', h', lg') → e'.length = e.length := by
                intro l
                induction l with
                | nil => intro k e h lg e' h' lg' q; simp only [evOps, Option.some.injEq, Prod.mk.injEq] at q; rw [q.1]
                | cons o l ihl =>
                  intro k e h lg e' h' lg' q
                  simp only [evOps] at q
                  split at q
                  · split at q
                    · rename_i e1 hs
                      rw [ihl _ _ _ _ q, setV_len hs]
                    · cases q
                  · cases q
              rw [hh _ _ _ _ _ ho]; simp
            rw [wpOpsIn_cons]
            have hk : items[k]? = some (args.map (evOperand env2)) := by
              have := congrArg (fun l => l[0]?) hi
              simpa [List.getElem?_drop] using this
            have hklt : k < items.length := (List.getElem?_eq_some_iff.1 hk).1
            have hall2 : All2 (VR W S B (fun _ => none)) (args.map (evOperand env2)) (args.map a2.eval) := args_R (ρ := evOperand env2) (ρ' := a2.eval) g2.eval args
            have hR := hY k (cl.args.map a2.eval) W hklt ⟨_, args.map a2.eval, hk, by rw [← y3, ← Array.toList_map], hall2⟩ g.j
            refine yield_c aty y2 hy2f hR (fun e W' hq2 => ?_)
            have hs2 : a2.tmps.size = env.length := by rw [g2.len]; exact hel2
            rcases hq2 with ⟨rfl, hJ1, hK⟩ | ⟨rfl, hX⟩
            · refine ⟨_, rfl, ?_⟩
              rw [wpOpsIn_cons]
              refine not_at (b := true) atn (by simp [Act.put, Array.getElem?_setIfInBounds, hs2, hd]) ?_
              have g3 : Fit B B env2 a2 W' S (fun _ => none) (fun _ => none) := g2.move hK
              have g4 := g3.put (env' := env2.set d (.bool true)) (dst := some d) (v := .bool true) (x := .bool true) (fun _ q => q) (by simp [setV, hel2, hd]) (Step.refl ..) g3.sr (.fr (.bool true))
              have g5 := g4.put (env' := (env2.set d (.bool true)).set t (.bool false)) (dst := some t) (v := .bool false) (x := .bool false) (fun _ q => q) (by simp [setV, hel2, ht]) (Step.refl ..) g4.sr (.fr (.bool false))
              have ht5 := g5.eval (.tmp t)
              have e5 : evOperand ((env2.set d (.bool true)).set t (.bool false)) (.tmp t) = .bool false := by simp [evOperand, List.getD, hel2, ht]
              rw [e5] at ht5
              refine wpIn_cond_false ht5.bool_inv (wpIn_skip ?_)
              refine hq .normal _ W' trivial ⟨by simpa using hJ1, fun rb q => (hK rb q).trans (g.t rb q), g5, ?_, hd20⟩
              rw [put_get (Ne.symm t0), put_get (Ne.symm d0)]; exact hy20
            · refine ⟨_, rfl, ?_⟩
              rw [wpOpsIn_cons]
              refine not_at (b := false) atn (by simp [Act.put, Array.getElem?_setIfInBounds, hs2, hd]) ?_
              refine wpIn_cond_true (by simp [Act.eval, Act.put, Array.getElem?_setIfInBounds, hs2, ht]) (wpIn_ret ?_)
              exact hr _ W' hd20 hX
          · cases he
        · cases he
      · split at he
        · rename_i env1 its1 h1
          split at he
          · rename_i ex2 env2 its2 h2
            cases he
            intro k rest a W Q hi g hq hr
            refine wpIn_seq ((ih p env l1 h1).1 k (its2 ++ rest) a W _ (by rw [hi]; simp) g (fun e a' W' hex g' => ?_) (fun a' W' hd hx => hr a' W' hd hx))
            cases e <;> first | exact hex.elim | skip
            refine (ih q env1 l2 h2).1 (k + its1.length) rest a' W' Q ?_ g' (fun e a2 W2 hex2 g2 => hq e a2 W2 hex2 (by simpa [Nat.add_assoc] using g2)) hr
            rw [← List.drop_drop, hi]
            simp
          · cases he
        · rename_i r hne
          intro k rest a W Q hi g hq hr
          refine wpIn_seq ((ih p env l1 he).1 k rest a W _ hi g (fun e a' W' hex g' => ?_) (fun a' W' hd hx => hr a' W' hd hx))
          cases ex with
          | nrm => exact absurd he (hne env' its)
          | ret => cases e <;> first | exact hex.elim | exact hq _ a' W' trivial g'
          | exit j => cases e <;> first | exact hex.elim | exact hq _ a' W' hex g'

theorem lift_none {m : Map} {v : V} {x : Value} {w : World} (h : VR w S B (fun _ => none) v x) : VR w S B m v x := h.mono0 (fun _ _ => rfl) (fun _ q => q) (fun i im q => by cases q)

/-- WHAT SUCH A FUNCTION HANDS ON, it hands on. -/
theorem gen_seq (hm : P.follows .mixedOrders = true) {g n0 : Nat} {cap : List V} {items : List (List V)} (hit : genItems P n0 g cap = some items)
    (hlex : ∀ (fn : Func) (c : Code), P.funcs[g]? = some fn → fn.body = some c → lexAll c = true) :
    Enters P g ∧ ∀ (w : World) (S B : Nat → Prop) (m : Map) (lb : List Value), (∀ rb, S rb → ∃ o : Obj, w.heap[rb]? = some o ∧ o.isCells = true) → (∀ rb, B rb → rb < w.heap.size) → All2 (VR w S B m) cap lb →
      SeqRun P g lb.toArray items.length (fun k W x => ∃ it x0, items[k]? = some it ∧ x = x0.toArray ∧ All2 (VR W S B m) it x0) (fun rb => S rb ∨ B rb) w := by
  unfold genItems at hit
  split at hit
  rotate_left
  · cases hit
  rename_i hfp
  split at hit
  rotate_left
  · cases hit
  rename_i fn hf
  split at hit
  rotate_left
  · cases hit
  rename_i c hbody
  split at hit
  rotate_left
  · cases hit
  rename_i hc
  simp only [Bool.and_eq_true, Bool.not_eq_true'] at hc
  obtain ⟨⟨c1, c2⟩, c3⟩ := hc
  have c3 := Nat.le_of_ble_eq_true c3
  refine ⟨⟨fn, hf, by rw [hbody]; rfl, c2⟩, fun w S B m lb hS hB hv => ?_⟩
  intro n l0 J Jx hJ hJx hY h0
  have hlb : lb.length = cap.length := hv.len
  obtain ⟨ex, env', its, hev, hex, rfl⟩ : ∃ ex env' its, evG P n0 c (V.und :: cap ++ List.replicate (fn.ntmps - (cap.length + 1)) V.und) = some (ex, env', its) ∧ (∀ j, ex ≠ .exit j) ∧ its = items := by
    split at hit
    · cases hit
    · rename_i ex env' its hne hev
      cases hit
      exact ⟨ex, env', _, hev, fun j e => hne j e, rfl⟩
    · cases hit
  refine callsIn_of_wp_marks hf hbody trivial ?_
  have hres : fn.results = #[] := by simpa using c1
  have done : ∀ (a : Act) (W : World), a.defers = [] → (J its.length W ∨ Jx W) → bodyPostM Fence.wide n P fn (fun e W' => (∃ v, e = .returned v) ∧ (J its.length W' ∨ Jx W')) .normal a W := fun a W hd hj => by
    simp only [bodyPostM, hd, LeavesInM, LeavesIn]
    refine ⟨.tuple #[], by simp [results, hres], ⟨_, rfl⟩, hj⟩
  have doneR : ∀ (a : Act) (W : World), a.defers = [] → (J its.length W ∨ Jx W) → bodyPostM Fence.wide n P fn (fun e W' => (∃ v, e = .returned v) ∧ (J its.length W' ∨ Jx W')) .ret a W := done
  generalize bodyPostM Fence.wide n P fn (fun e W' => (∃ v, e = .returned v) ∧ (J its.length W' ∨ Jx W')) = Qf at done doneR ⊢
  have hsz : (#[Value.func (.yield l0) #[] #[]] ++ lb.toArray).size = cap.length + 1 := by simp [hlb, Nat.add_comm]
  have hj0 : Fit B B (V.und :: cap ++ List.replicate (fn.ntmps - (cap.length + 1)) V.und)
      { tmps := #[Value.func (.yield l0) #[] #[]] ++ lb.toArray ++ Array.replicate (fn.ntmps - (#[Value.func (.yield l0) #[] #[]] ++ lb.toArray).size) undef, defers := [] } w S (fun _ => none) (fun _ => none) := by
    refine ⟨sr0 hS hB, by simp [hsz, hlb]; omega, fun t => ?_⟩
    match t with
    | 0 => exact .und _
    | t + 1 =>
      by_cases ht : t < cap.length
      · have e1 : (V.und :: cap ++ List.replicate (fn.ntmps - (cap.length + 1)) V.und).getD (t + 1) .und = cap[t] := by
          simp [List.getD, List.getElem?_append, ht]
        obtain ⟨x, hx, r⟩ := hv.get (List.getElem?_eq_getElem ht)
        have e2 : ({ tmps := #[Value.func (.yield l0) #[] #[]] ++ lb.toArray ++ Array.replicate (fn.ntmps - (#[Value.func (.yield l0) #[] #[]] ++ lb.toArray).size) undef, defers := [] } : Act).tmps.getD (t + 1) undef = x := by
          have hlt : t < lb.length := by omega
          have : lb[t] = x := by rw [List.getElem?_eq_getElem hlt] at hx; exact Option.some.inj hx
          simp [Array.getElem?_append, Nat.add_comm 1, hlt, this, Array.getD_eq_getD_getElem?]
        rw [e1, e2]
        have hfpt := List.all_eq_true.1 hfp cap[t] (List.getElem_mem ht)
        generalize cap[t] = v at hfpt r
        cases v <;> simp [isFptr] at hfpt
        exact fptr_m r
      · have e1 : (V.und :: cap ++ List.replicate (fn.ntmps - (cap.length + 1)) V.und).getD (t + 1) .und = .und := by
          simp only [List.getD, List.cons_append, List.getElem?_cons_succ]
          rw [List.getElem?_append_right (by omega), List.getElem?_replicate]
          split <;> rfl
        rw [e1]; exact .und _
  have hy0 : ({ tmps := #[Value.func (.yield l0) #[] #[]] ++ lb.toArray ++ Array.replicate (fn.ntmps - (#[Value.func (.yield l0) #[] #[]] ++ lb.toArray).size) undef, defers := [] } : Act).tmps.getD 0 undef = .func (.yield l0) #[] #[] := by
    simp [Array.getElem?_append]
  generalize ha0 : ({ tmps := #[Value.func (.yield l0) #[] #[]] ++ lb.toArray ++ Array.replicate (fn.ntmps - (#[Value.func (.yield l0) #[] #[]] ++ lb.toArray).size) undef, defers := [] } : Act) = a0 at hj0 hy0 ⊢
  have hd0 : a0.defers = [] := by rw [← ha0]
  clear ha0
  have hYn : ∀ k x W1, k < its.length → (∃ it x0, its[k]? = some it ∧ x = x0.toArray ∧ All2 (VR W1 S B (fun _ => none)) it x0) → J k W1 → YieldAt Fence.wide (n - 1) P l0 x W1 fun e W' =>
      (e = .returned (.bool true) ∧ J (k + 1) W' ∧ ∀ rb, S rb ∨ B rb → W'.heap[rb]? = W1.heap[rb]?) ∨ (e = .returned (.bool false) ∧ Jx W') :=
    fun k x W1 hk ⟨it, x0, h1, h2, h3⟩ hj => hY k x W1 hk ⟨it, x0, h1, h2, h3.imp (fun c x r => lift_none r)⟩ hj
  refine (evG_sound hm (fun k W h => hJ k W W.drew none h ⟨rfl, rfl, rfl, Nat.le_refl _, fun _ _ _ => rfl⟩ (fun r e => by cases e)) hYn n0 c _ (hlex fn c hf hbody) hev).1 0 [] a0 w Qf (by simp) ⟨h0, fun _ _ => rfl, hj0, hy0, hd0⟩ (fun e a' W' hex2 g => ?_) (fun a' W' hd hx => doneR a' W' hd (.inr hx))
  rw [Nat.zero_add] at g
  cases ex with
  | nrm => cases e <;> first | exact hex2.elim | exact done a' W' g.d (.inl g.j)
  | ret => cases e <;> first | exact hex2.elim | exact doneR a' W' g.d (.inl g.j)
  | exit j => exact absurd rfl (hex j)

/-- functions that hand on elements are all of that kind -/
theorem seq_gens (hm : P.follows .mixedOrders = true) {pol : Nat → Pol}
    (h : ∀ g k, (pol g).seq = some k → (∃ n, k = .gen n) ∧ ∀ (fn : Func) (c : Code), P.funcs[g]? = some fn → fn.body = some c → lexAll c = true) : SeqOK P pol := by
  intro g cap items hit
  unfold seqOf at hit
  split at hit
  rotate_left
  · cases hit
  cases hk : (pol g).seq with
  | none => rw [hk] at hit; cases hit
  | some k =>
    obtain ⟨⟨n, rfl⟩, hl⟩ := h g k hk
    rw [hk] at hit
    exact gen_seq hm hit hl
end
end Go.Proofs.Ytaiegfeppgaedaa.Iv
