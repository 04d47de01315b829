import Derived.Test.YtcamcfplcoklkaaM8
import Derived.Test.YtcamcfplcoklkaaProg
namespace Go.Proofs.Ytcamcfplcoklkaa.Iv
open Go
set_option linter.unusedVariables false
set_option linter.unusedSimpArgs false
/-! ### functions that hand on the elements of a list -/
section
variable {P : Program} {K B : Nat → Prop} {w : World} {S : Nat → Prop} {m : Map} {H : Heap}

/-- an operation that stands at a place -/
structure At (ops : Array Oper) (k : Nat) (op : Op) (d : Nat) : Prop where
  ex : ∃ o, ops[k]? = some o ∧ o.op = op ∧ o.guard = none ∧ o.dst = some d

def noCall : Nat → List V → Heap → Option (V × Heap) := fun _ _ _ => none
def noPol : Nat → Pol := fun _ => ⟨false, [], none⟩
theorem noCall_ok : RunOK P noCall := ⟨fun _ _ _ _ h => by simp [noCall] at h, fun _ _ _ _ _ h => by simp [noCall] at h⟩

/-- an operation that leaves the world as it is -/
def SoundW (P : Program) (B : Nat → Prop) (w : World) (S : Nat → Prop) (m : Map) (out : Out) (s : Sem Value) : Prop := ∃ x, s.run P w = .ok x w ∧ VR w S B m out.v x
theorem SoundW.pure (h : SR w S K m H) {v : V} {rd : List Id} {s : Sem Value} {x : Value} (hr : s.run P w = .ok x w) (hv : VR w S B m v x) : SoundW P B w S m ⟨v, [], rd⟩ s := ⟨x, hr, hv⟩
theorem indexAddr_w (h : SR w S K m H) {t : Nat} {a i : V} {out : Out} (he : evIndexAddr P t a i = some out) {x y : Value} (hx : VR w S B m a x) (hy : VR w S B m i y) :
    SoundW P B w S m out (Instr.indexAt t x y) := by
  unfold evIndexAddr at he
  split at he
  · rename_i k n
    have := hy.int_inv; subst this
    split at he
    · rename_i h0
      split at he
      · rename_i e hu
        split at he
        · rename_i sz hs
          split at he
          · rename_i b g o n' s2 lim
            split at he
            · rename_i hc
              obtain ⟨rfl, hlt⟩ := hc
              cases he
              have hb : 0 ≤ n ∧ n < (n' : Int) := ⟨h0, by omega⟩
              cases hx with
              | fr h => cases h
              | sl _ _ _ _ _ im a cap hm ha h1 h2 h3 h4 h5 =>
                have ha' := ha (by omega)
                subst ha'
                refine SoundW.pure h (x := .pointer (some ⟨im.rb, im.dl + (o + n.toNat * s2), none⟩)) ?_ (VR.ptr b _ im hm)
                simp [Instr.indexAt, asIntOf, run_underlying hu, run_sizeOf' hs, hb, add_eq, Nat.add_assoc]
              | slD _ _ _ _ _ _ im a cap hm hg =>
                refine SoundW.pure h (x := .pointer (some (a.add (n.toNat * s2)))) ?_ (VR.ptrD b _ _ im _ hm hg)
                simp [Instr.indexAt, asIntOf, run_underlying hu, run_sizeOf' hs, hb]
            · cases he
          · rename_i xs l
            split at he
            · rename_i cs hcs
              split at he
              · rename_i hc
                obtain ⟨hlen, hpos⟩ := hc
                cases he
                obtain ⟨sz', cap, a, vals, rfl, h1, h2, h3, h4⟩ := hx.list_inv
                have hi : n.toNat < xs.length := (List.getElem?_eq_some_iff.1 hcs).1
                have hz : sz' = sz := by rw [← hlen]; exact (h2 cs (List.mem_of_getElem? hcs)).symm
                subst hz
                obtain ⟨rb, o, rfl, hS, hcell⟩ := h3 (fun e => by subst e; simp at hi)
                have hb : 0 ≤ n ∧ n < (xs.length : Int) := ⟨h0, by omega⟩
                refine SoundW.pure h (x := .pointer (some ⟨rb, o + n.toNat * sz', none⟩)) ?_ (VR.fptr_mk rb _ (fun j => vals (n.toNat * sz' + j)) hS (fun j hj => ?_) (fun j c hj => ?_))
                · simp [Instr.indexAt, asIntOf, run_underlying hu, run_sizeOf' hs, hb, add_eq]
                · have := flatten_get sz' xs h2 _ j cs _ hcs (List.getElem?_eq_getElem hj)
                  rw [Nat.add_assoc]
                  exact hcell _ (List.getElem?_eq_some_iff.1 this).1
                · exact CRl.of (h4 _ _ (flatten_get sz' xs h2 _ j cs _ hcs hj))
              · cases he
            · cases he
          · cases he
        · cases he
      · rename_i n' e hu
        split at he
        · rename_i sz hs
          split at he
          · rename_i hlt
            have hb : 0 ≤ n ∧ n < (n' : Int) := ⟨h0, by omega⟩
            split at he
            · rename_i b g o
              cases he
              cases hx with
              | fr h => cases h
              | ptr _ _ im hm =>
                refine SoundW.pure h (x := .pointer (some ⟨im.rb, im.dl + (o + n.toNat * sz), none⟩)) ?_ (VR.ptr b _ im hm)
                simp [Instr.indexAt, Instr.sureAddr, asIntOf, run_underlying hu, run_sizeOf' hs, hb, add_eq, Nat.add_assoc]
              | ptrD _ _ _ im a hm hg =>
                refine SoundW.pure h (x := .pointer (some (a.add (n.toNat * sz)))) ?_ (VR.ptrD b _ _ im _ hm hg)
                simp [Instr.indexAt, Instr.sureAddr, asIntOf, run_underlying hu, run_sizeOf' hs, hb]
            · rename_i cs l
              split at he
              · rename_i hle
                cases he
                obtain ⟨rb, o, vals, rfl, h1, h2, h3⟩ := hx.fptr_inv
                refine SoundW.pure h (x := .pointer (some ⟨rb, o + n.toNat * sz, none⟩)) ?_ (VR.fptr_mk rb _ (fun j => vals (n.toNat * sz + j)) h1 (fun j hj => ?_) (fun j c hj => ?_))
                · simp [Instr.indexAt, Instr.sureAddr, asIntOf, run_underlying hu, run_sizeOf' hs, hb, add_eq]
                · rw [Nat.add_assoc]; exact h2 _ (by simp at hj; omega)
                · rw [List.getElem?_drop] at hj; exact h3 _ _ hj
              · cases he
            · cases he
          · cases he
        · cases he
      · cases he
    · cases he
  · cases he

theorem len_w (h : SR w S K m H) {t ty : Nat} {a : V} {out : Out} (he : evLen P t a = some out) {x : Value} (hx : VR w S B m a x) (ts : Array TypeId) (hts : ts[0]? = some t) :
    SoundW P B w S m out (Builtin.len_ ts ty #[x]) := by
  unfold evLen at he
  split at he
  · rename_i s hu
    cases he
    have := hx.str_inv; subst this
    exact SoundW.pure h (x := .int .i64 s.length) (by simp [Builtin.len_, hts, run_underlying hu, goInt] <;> rfl) .i
  · rename_i hu
    cases he
    obtain ⟨a, cap, rfl, _, _⟩ := hx.sl_shape
    exact SoundW.pure h (x := .int .i64 _) (by simp [Builtin.len_, hts, run_underlying hu, goInt]) .i
  · rename_i hu
    cases he
    obtain ⟨_, cap, a, vals, rfl, _⟩ := hx.list_inv
    exact SoundW.pure h (x := .int .i64 _) (by simp [Builtin.len_, hts, run_underlying hu, goInt]) .i
  · rename_i hu
    cases he
    have := hx.nils_inv; subst this
    exact SoundW.pure h (x := .int .i64 0) (by simp [Builtin.len_, hts, run_underlying hu, goInt]) .i
  · rename_i hu
    cases he
    obtain ⟨a0, rfl⟩ := hx.emp_inv
    exact SoundW.pure h (x := .int .i64 0) (by simp [Builtin.len_, hts, run_underlying hu, goInt]) .i
  · rename_i n e hu
    cases he
    exact SoundW.pure h (x := .int .i64 n) (by simp [Builtin.len_, hts, run_underlying hu, goInt]) .i
  · cases he
inductive PureOp : Op → Prop
  | move (x : Operand) : PureOp (.move x)
  | assign (x : Operand) : PureOp (.assign x)
  | load (t : Nat) (x : Operand) : PureOp (.load t x)
  | bin (b : BinOp) (t : Nat) (x y : Operand) (u : Nat) : PureOp (.binOp b t x y u)
  | un (b : UnOp) (t : Nat) (x : Operand) : PureOp (.unOp b t x)
  | ix (t : Nat) (x y : Operand) : PureOp (.indexAddr t x y)
  | len (x : Operand) (t : Nat) : PureOp (.call { callee := .builtin .len, args := #[x], argTypes := #[t] })
theorem pure_run {ρ : Operand → V} {a : Act} (h : SR w S K m H) (hρ : ∀ x, VR w S B m (ρ x) (a.eval x)) {d : Nat} {op : Op} {out : Out} (he : evOp P noCall noPol H ρ d op = some out) (hp : PureOp op) {o : Oper} (ho : o.op = op) :
    ∃ x, (execOp a.eval o).run P w = .ok (.value x) w ∧ VR w S B m out.v x := by
  cases hp
  case move x =>
    simp only [evOp, Option.some.injEq] at he; subst he
    exact ⟨_, by unfold execOp; rw [ho]; rfl, hρ x⟩
  case assign x =>
    simp only [evOp, Option.some.injEq] at he; subst he
    exact ⟨_, by unfold execOp; rw [ho]; rfl, hρ x⟩
  case load t x =>
    simp only [evOp] at he
    obtain ⟨_, y, hr, hy⟩ := load_val (P := P) h he (hρ x)
    exact ⟨y, by unfold execOp; rw [ho]; simp [hr], hy⟩
  case bin b t x y u =>
    simp only [evOp] at he
    cases hv : evBin P t b (ρ x) (ρ y) with
    | none => rw [hv] at he; cases he
    | some v =>
      rw [hv] at he; simp only [liftO, Option.some.injEq] at he; subst he
      obtain ⟨z, hr, hz⟩ := bin_sound (P := P) hv (hρ x) (hρ y) x y
      refine ⟨z, ?_, hz⟩
      unfold execOp; rw [ho]
      simp only [Sem.run_bind] at hr ⊢
      rw [hr]; rfl
  case un b t x =>
    simp only [evOp] at he
    cases hv : evUn b (ρ x) with
    | none => rw [hv] at he; cases he
    | some v =>
      rw [hv] at he; simp only [liftO, Option.some.injEq] at he; subst he
      obtain ⟨z, hr, hz⟩ := un_sound (P := P) hv (hρ x)
      exact ⟨z, by unfold execOp; rw [ho]; simp [hr], hz⟩
  case ix t x y =>
    simp only [evOp] at he
    obtain ⟨z, hr, hz⟩ := indexAddr_w (P := P) h he (hρ x) (hρ y)
    exact ⟨z, by unfold execOp; rw [ho]; simp [hr], hz⟩
  case len x t =>
    simp only [evOp, evBuiltin, List.map_cons, List.map_nil] at he
    obtain ⟨z, hr, hz⟩ := len_w (P := P) (ty := o.type) h he (hρ x) #[t] (by simp)
    refine ⟨z, ?_, hz⟩
    unfold execOp; rw [ho]
    simp [resolve, invoke, builtin, hr]

theorem pure_at (hB : ∀ rb, B rb → K rb) {ops : Array Oper} {k d : Nat} {op : Op} (hk : At ops k op d) {env : List V} {a : Act} (h : Fit K B env a w S m H) {v : V} {rd : List Id}
    (he : evOp P noCall noPol H (evOperand env) d op = some ⟨v, [], rd⟩) (hd : d < env.length) (hp : PureOp op) {r : Option Nat} {n : Nat} {Q : Exit → Act → World → Prop} {next : Act → World → Prop}
    (hn : ∀ x, Fit K B (env.set d v) (a.put (some d) x) w S m H → next (a.put (some d) x) w) : wpOpIn (Fw r) n P ops Q k next a w := by
  obtain ⟨o, h1, h2, h3, h4⟩ := hk.ex
  obtain ⟨x, hr, hx⟩ := pure_run h.sr h.eval he hp h2
  unfold wpOpIn
  simp only [h1, Region.wanted, h3, if_true]
  refine oper_fw (fun c hc => by rw [h2] at hc; subst hc; cases hp) ?_
  unfold Oper.wp
  rw [hr]
  simp only [Oper.upon]
  rw [h4]
  exact hn x (h.put (dst := some d) (v := v) hB (by simp [setV, hd]) (Step.refl ..) h.sr hx)

theorem put_get {a : Act} {d t : Nat} {x : Value} (h : t ≠ d) : (a.put (some d) x).tmps.getD t undef = a.tmps.getD t undef := by
  simp [Act.put, Array.getElem?_setIfInBounds, Ne.symm h]

/-- less is said -/
theorem Fit.forget {env env' : List V} {a : Act} (h : Fit K B env a w S m H) (hl : env'.length = env.length) (he : ∀ t, env'.getD t .und = env.getD t .und ∨ env'.getD t .und = .und) : Fit K B env' a w S m H :=
  ⟨h.sr, by rw [h.len, hl], fun t => by
    rcases he t with e | e
    · rw [e]; exact h.tr t
    · rw [e]; exact .und _⟩

/-- a call of yield -/
theorem yield_at {ops : Array Oper} {k d y : Nat} {args : Array Operand} {ts : Array TypeId} (hk : At ops k (.call { callee := .value (.tmp y), args := args, argTypes := ts }) d) {a : Act} {l : Nat}
    (hy : a.tmps.getD y undef = .func (.yield l) #[] #[]) {n : Nat} {R : Ending → World → Prop} (hR : YieldAt Fence.wide (n - 1) P l (args.map a.eval) w R) {Q : Exit → Act → World → Prop} {next : Act → World → Prop}
    (hn : ∀ e w', R e w' → ∃ v, e = .returned v ∧ next (a.put (some d) v) w') : wpOpIn Fence.wide n P ops Q k next a w := by
  obtain ⟨o, h1, h2, h3, h4⟩ := hk.ex
  obtain ⟨fn, tmps, assign, body, hy1, hr⟩ := hR
  unfold wpOpIn
  simp only [h1, Region.wanted, h3, if_true]
  refine ⟨fun _ _ => trivial, ?_⟩
  have hex : (o.semAt Fence.wide.round a.eval).run P w = .ok (.round l fn tmps assign body) w := by
    show (o.semAt none a.eval).run P w = _
    rw [Oper.semAt_none]
    unfold execOp
    rw [h2]
    have e1 : a.eval (.tmp y) = .func (.yield l) #[] #[] := hy
    simp only [resolve, e1, Deferred.ofValue, Sem.run_bind, Sem.run_pure, Result.andThen_ok, invoke]
    simpa using hy1
  rw [hex]
  simp only [Oper.uponIn]
  refine ⟨fun q => by simp [Fence.wide] at q, hr.mono (fun e w' q => ?_)⟩
  obtain ⟨v, rfl, q2⟩ := hn e w' q
  rw [h4]; exact q2

/-- the code of what slices.Backward answers -/
structure BackCode (P : Program) (g tS tE sz : Nat) (ag : Bool) : Prop where
  ex : ∃ (fn : Func) (r0 r1 r2 r3 : Array Oper) (i0 i1 i2 i3 b0 b1 : Nat) (tS' : Array TypeId), P.funcs[g]? = some fn ∧ (fn.name == "runtime.NumGoroutine") = false ∧ fn.ntmps = 19 ∧ fn.results = #[] ∧
    fn.body = some (.seq (.region i0 r0 false) (.block b0 (.loop (.seq (.seq (.region i1 r1 false) (.cond (.tmp 8) .skip (.exit b0))) (.seq (.block b1 (.seq (.region i3 r3 false) (.cond (.tmp 18) .ret .skip))) (.region i2 r2 false)))))) ∧
    (r0.size = 4 ∧ At r0 0 (.load tS (.tmp 1)) 4 ∧ At r0 1 (.call { callee := .builtin .len, args := #[.tmp 4], argTypes := #[tS] }) 5 ∧ (∃ u, At r0 2 (.binOp .sub u (.tmp 5) (.const (.int .i64 1)) u) 6) ∧ At r0 3 (.assign (.tmp 6)) 3) ∧
    (r1.size = 2 ∧ At r1 0 (.move (.tmp 3)) 7 ∧ ∃ u, At r1 1 (.binOp .geq u (.tmp 7) (.const (.int .i64 0)) u) 8) ∧
    (r2.size = 3 ∧ At r2 0 (.move (.tmp 3)) 9 ∧ (∃ u, At r2 1 (.binOp .sub u (.tmp 9) (.const (.int .i64 1)) u) 10) ∧ At r2 2 (.assign (.tmp 10)) 3) ∧
    (r3.size = 8 ∧ At r3 0 (.move (.tmp 0)) 11 ∧ At r3 1 (.move (.tmp 3)) 12 ∧ At r3 2 (.load tS (.tmp 1)) 13 ∧ At r3 3 (.move (.tmp 3)) 14 ∧ At r3 4 (.indexAddr tS (.tmp 13) (.tmp 14)) 15 ∧ At r3 5 (.load tE (.tmp 15)) 16 ∧
      At r3 6 (.call { callee := .value (.tmp 11), args := #[.tmp 12, .tmp 16], argTypes := tS' }) 17 ∧ ∃ u, At r3 7 (.unOp .not u (.tmp 17)) 18)
  s1 : szOf P tS = some 1
  s2 : agOf P tS = some false
  s3 : P.underlying tS = some (.slice tE)
  e1 : szOf P tE = some sz
  e2 : agOf P tE = some ag
  pos : 0 < sz

theorem move_at (hB : ∀ rb, B rb → K rb) {ops : Array Oper} {k d : Nat} {y : Operand} (hk : At ops k (.move y) d) {env : List V} {a : Act} (h : Fit K B env a w S m H) (hd : d < env.length)
    {r : Option Nat} {n : Nat} {Q : Exit → Act → World → Prop} {next : Act → World → Prop}
    (hn : Fit K B (env.set d (evOperand env y)) (a.put (some d) (a.eval y)) w S m H → next (a.put (some d) (a.eval y)) w) : wpOpIn (Fw r) n P ops Q k next a w := by
  obtain ⟨o, h1, h2, h3, h4⟩ := hk.ex
  unfold wpOpIn
  simp only [h1, Region.wanted, h3, if_true]
  refine oper_fw (fun c hc => by rw [h2] at hc; cases hc) ?_
  have hr : (execOp a.eval o).run P w = .ok (.value (a.eval y)) w := by unfold execOp; rw [h2]; rfl
  unfold Oper.wp
  rw [hr]
  simp only [Oper.upon]
  rw [h4]
  exact hn (h.put (dst := some d) (v := evOperand env y) hB (by simp [setV, hd]) (Step.refl ..) h.sr (h.eval y))

theorem not_at {ops : Array Oper} {k d y u : Nat} (hk : At ops k (.unOp .not u (.tmp y)) d) {a : Act} {b : Bool} (hy : a.tmps.getD y undef = .bool b)
    {r : Option Nat} {n : Nat} {Q : Exit → Act → World → Prop} {next : Act → World → Prop}
    (hn : next (a.put (some d) (.bool !b)) w) : wpOpIn (Fw r) n P ops Q k next a w := by
  obtain ⟨o, h1, h2, h3, h4⟩ := hk.ex
  unfold wpOpIn
  simp only [h1, Region.wanted, h3, if_true]
  refine oper_fw (fun c hc => by rw [h2] at hc; cases hc) ?_
  have e1 : a.eval (.tmp y) = .bool b := hy
  have hr : (execOp a.eval o).run P w = .ok (.value (.bool !b)) w := by unfold execOp; rw [h2]; simp only [e1]; rfl
  unfold Oper.wp
  rw [hr]
  simp only [Oper.upon]
  rw [h4]
  exact hn

/-- nothing of the heap's, but what is read -/
theorem sr0 (hS : ∀ rb, S rb → ∃ o : Obj, w.heap[rb]? = some o ∧ o.isCells = true) (hB : ∀ rb, B rb → rb < w.heap.size) : SR w S B (fun _ => none) (fun _ => none) :=
  ⟨fun rb hb => (hS rb hb).elim fun o h => (Array.getElem?_eq_some_iff.1 h.1).1, hB, (fun i b h => by cases h), fun _ _ => rfl, (fun i j bi im jm h => by cases h), (fun i b im h => by cases h), hS⟩
theorem Fit.move {env : List V} {a : Act} {w' : World} (h : Fit B B env a w S (fun _ => none) (fun _ => none)) (hp : ∀ rb, S rb ∨ B rb → w'.heap[rb]? = w.heap[rb]?) : Fit B B env a w' S (fun _ => none) (fun _ => none) := by
  refine ⟨sr0 (fun rb q => by rw [hp rb (.inl q)]; exact h.sr.scel rb q) (fun rb q => ?_), h.len, fun t => (h.tr t).mono0 hp (fun _ q => q) (fun i im q => by cases q)⟩
  have h1 := h.sr.kin rb q
  have h2 := hp rb (.inr q)
  rw [Array.getElem?_eq_getElem h1] at h2
  exact (Array.getElem?_eq_some_iff.1 h2).1
theorem fptr_m {cs : List V} {l : Bool} {x : Value} {m' : Map} (h : VR w S B m (.fptr cs l) x) : VR w S B m' (.fptr cs l) x := by
  cases h with
  | fr h => exact .fr h
  | lfptr _ rb o vals h hc hv => exact .lfptr _ rb o vals h hc hv

theorem wrap_small {z : Int} (h1 : -9223372036854775808 ≤ z) (h2 : z ≤ 9223372036854775807) : IntKind.i64.wrap z = z := by
  have e : IntKind.i64.wrap z = (if z % 18446744073709551616 ≥ 9223372036854775808 then z % 18446744073709551616 - 18446744073709551616 else z % 18446744073709551616) := by
    have e1 : (2 : Int) ^ 64 = 18446744073709551616 := by decide
    have e2 : (2 : Int) ^ (64 - 1) = 9223372036854775808 := by decide
    simp only [IntKind.wrap, IntKind.bits, IntKind.signed, Bool.true_and, e1, e2, decide_eq_true_eq]
  rw [e]
  split <;> omega

theorem backItems_get {ag : Bool} {sz : Nat} {xs : List (List V)} : ∀ {n : Nat} {items : List (List V)}, backItems ag sz xs n = some items → items.length = n ∧
    ∀ j, j < n → ∃ cs v, xs[j]? = some cs ∧ cs.length = sz ∧ mkv ag cs = some v ∧ items[n - 1 - j]? = some [.int .i64 j, v]
  | 0, items, h => by simp only [backItems, Option.some.injEq] at h; subst h; exact ⟨rfl, fun j h => by omega⟩
  | n + 1, items, h => by
    simp only [backItems] at h
    split at h
    · rename_i cs hcs
      split at h
      · rename_i hsz
        split at h
        · rename_i v r hv hr
          cases h
          obtain ⟨h1, h2⟩ := backItems_get hr
          refine ⟨by simp [h1], fun j hj => ?_⟩
          by_cases e : j = n
          · subst e; exact ⟨cs, v, hcs, hsz, hv, by simp⟩
          · obtain ⟨cs', v', q1, q2, q3, q4⟩ := h2 j (by omega)
            refine ⟨cs', v', q1, q2, q3, ?_⟩
            rw [show n + 1 - 1 - j = (n - 1 - j) + 1 by omega]
            simpa using q4
        · cases h
      · cases h
    · cases h

/-- the slots of the function that slices.Backward answers -/
def backEnv (C : V) (i : Int) : List V := [.und, C, .und, .int .i64 i, .und, .und, .und, .und, .und, .und, .und, .und, .und, .und, .und, .und, .und, .und, .und]

theorem mapsTo2 {a : Act} {x y : Operand} : (#[x, y] : Array Operand).map a.eval = [a.eval x, a.eval y].toArray := by simp

set_option maxHeartbeats 4000000 in
theorem back_seq {g tS tE sz : Nat} {ag : Bool} (hc : BackCode P g tS tE sz ag) {xs : List (List V)} {l l2 : Bool} {items : List (List V)} (hit : seqItems (.backward ag sz) [.fptr [.list xs l] l2] = some items)
    {w : World} {S B : Nat → Prop} {m : Map} {lb : List Value} (hS : ∀ rb, S rb → ∃ o : Obj, w.heap[rb]? = some o ∧ o.isCells = true) (hB : ∀ rb, B rb → rb < w.heap.size) (hv : All2 (VR w S B m) [.fptr [.list xs l] l2] lb) :
    SeqRun P g lb.toArray items.length (fun k W x => ∃ it x0, items[k]? = some it ∧ x = x0.toArray ∧ All2 (VR W S B m) it x0) (fun rb => S rb ∨ B rb) w := by
  simp only [seqItems] at hit
  split at hit
  · rename_i hlen
    obtain ⟨hil, hget⟩ := backItems_get hit
    obtain ⟨fn, r0, r1, r2, r3, i0, i1, i2, i3, b0, b1, ts', hf, hnm, hnt, hres, hbody, ⟨z0, a00, a01, ⟨u2, a02⟩, a03⟩, ⟨z1, a10, u11, a11⟩, ⟨z2, a20, ⟨u21, a21⟩, a22⟩, ⟨z3, a30, a31, a32, a33, a34, a35, a36, u37, a37⟩⟩ := hc.ex
    have s1 := hc.s1
    have s2 := hc.s2
    have s3 := hc.s3
    have e1 := hc.e1
    have e2 := hc.e2
    have hpos := hc.pos
    match lb, hv with
    | [p], hv =>
    have hp : VR w S B (fun _ => none) (.fptr [.list xs l] l2) p := fptr_m hv.1
    obtain ⟨C, hC⟩ : ∃ C, C = V.fptr [.list xs l] l2 := ⟨_, rfl⟩
    rw [← hC] at hp
    intro n l0 J Jx hJ hJx hY h0
    have hld : ∀ d : Nat, evLoad P (fun _ => none) tS C = some ⟨.list xs l, [], []⟩ := fun _ => by
      subst hC
      simp [evLoad, s1, s2, cut, mkv]
    refine callsIn_of_wp_marks hf hbody trivial ?_
    have done : ∀ (a : Act) (W : World), a.defers = [] → (J items.length W ∨ Jx W) → bodyPostM Fence.wide n P fn (fun e W' => (∃ v, e = .returned v) ∧ (J items.length W' ∨ Jx W')) .normal a W := fun a W hd hj => by
      simp only [bodyPostM, hd, LeavesInM, LeavesIn]
      refine ⟨.tuple #[], by simp [results, hres], ⟨_, rfl⟩, hj⟩
    have doneR : ∀ (a : Act) (W : World), a.defers = [] → (J items.length W ∨ Jx W) → bodyPostM Fence.wide n P fn (fun e W' => (∃ v, e = .returned v) ∧ (J items.length W' ∨ Jx W')) .ret a W := done
    generalize bodyPostM Fence.wide n P fn (fun e W' => (∃ v, e = .returned v) ∧ (J items.length W' ∨ Jx W')) = Qf at done doneR ⊢
    have hj0 : Fit B B ([.und, C, .und, .und, .und, .und, .und, .und, .und, .und, .und, .und, .und, .und, .und, .und, .und, .und, .und] : List V)
        { tmps := #[Value.func (.yield l0) #[] #[]] ++ [p].toArray ++ Array.replicate (fn.ntmps - (#[Value.func (.yield l0) #[] #[]] ++ [p].toArray).size) undef, defers := [] } w S (fun _ => none) (fun _ => none) := by
      refine ⟨sr0 hS hB, by simp [hnt], fun t => ?_⟩
      match t with
      | 0 => exact .und _
      | 1 =>
        have h1 : ({ tmps := #[Value.func (.yield l0) #[] #[]] ++ [p].toArray ++ Array.replicate (fn.ntmps - (#[Value.func (.yield l0) #[] #[]] ++ [p].toArray).size) undef, defers := [] } : Act).tmps.getD 1 undef = p := by
          simp [hnt, Array.getElem?_append]
        rw [h1]; exact hp
      | t + 2 =>
        have : ([.und, C, .und, .und, .und, .und, .und, .und, .und, .und, .und, .und, .und, .und, .und, .und, .und, .und, .und] : List V).getD (t + 2) .und = .und := by
          rcases t with _ | _ | _ | _ | _ | _ | _ | _ | _ | _ | _ | _ | _ | _ | _ | _ | _ | t <;> rfl
        rw [this]; exact .und _
    have hy0 : ({ tmps := #[Value.func (.yield l0) #[] #[]] ++ [p].toArray ++ Array.replicate (fn.ntmps - (#[Value.func (.yield l0) #[] #[]] ++ [p].toArray).size) undef, defers := [] } : Act).tmps.getD 0 undef = .func (.yield l0) #[] #[] := by
      simp [hnt, Array.getElem?_append]
    generalize ha0 : ({ tmps := #[Value.func (.yield l0) #[] #[]] ++ [p].toArray ++ Array.replicate (fn.ntmps - (#[Value.func (.yield l0) #[] #[]] ++ [p].toArray).size) undef, defers := [] } : Act) = a0 at hj0 hy0 ⊢
    have hd0 : a0.defers = [] := by rw [← ha0]
    clear ha0
    -- the loop
    have loop : ∀ (j : Nat), j ≤ xs.length → ∀ (a : Act) (W : World), J (xs.length - j) W → (∀ rb, S rb ∨ B rb → W.heap[rb]? = w.heap[rb]?) → Fit B B (backEnv C ((j : Int) - 1)) a W S (fun _ => none) (fun _ => none) →
        a.tmps.getD 0 undef = .func (.yield l0) #[] #[] → a.defers = [] →
        roundsW none n P (.seq (.seq (.region i1 r1 false) (.cond (.tmp 8) .skip (.exit b0))) (.seq (.block b1 (.seq (.region i3 r3 false) (.cond (.tmp 18) .ret .skip))) (.region i2 r2 false))) (Exit.inBlock b0 Qf) (j + 1) a W := by
      intro j
      induction j with
      | zero =>
        intro hj a W hJ0 hT hfit hy hd
        show Code.wpIn (Fw none) n P _ _ a W
        refine wpIn_seq (wpIn_seq (wpIn_region ?_))
        rw [z1]
        show wpOpsIn (Fw none) n P r1 _ [0, 1] a W
        rw [wpOpsIn_cons]
        refine pure_at (fun _ q => q) a10 hfit (v := .int .i64 (-1)) (rd := []) (by simp [evOp, evOperand, backEnv]) (by simp [backEnv]) (.move ..) (fun x1 f1 => ?_)
        rw [wpOpsIn_cons]
        refine pure_at (fun _ q => q) a11 f1 (v := .bool false) (rd := []) (by simp [evOp, evOperand, backEnv, evBin, evInt, liftO, ofVal, sc]) (by simp [backEnv]) (.bin ..) (fun x2 f2 => ?_)
        have hb := f2.eval (.tmp 8)
        have hb' : evOperand ((List.set (List.set (backEnv C ((0 : Nat) - 1)) 7 (.int .i64 (-1))) 8 (.bool false))) (.tmp 8) = .bool false := by simp [evOperand, backEnv]
        rw [hb'] at hb
        refine wpIn_cond_false hb.bool_inv (wpIn_exit ?_)
        simp only [Exit.then, Exit.inBlock, if_true]
        exact done _ _ hd (.inl (by rw [hil]; simpa using hJ0))
      | succ j ih =>
        intro hj a W hJ0 hT hfit hy hd
        have hjj : ((j + 1 : Nat) : Int) - 1 = (j : Int) := by omega
        rw [hjj] at hfit
        show Code.wpIn (Fw none) n P _ _ a W
        refine wpIn_seq (wpIn_seq (wpIn_region ?_))
        rw [z1]
        show wpOpsIn (Fw none) n P r1 _ [0, 1] a W
        rw [wpOpsIn_cons]
        refine pure_at (fun _ q => q) a10 hfit (v := .int .i64 j) (rd := []) (by simp [evOp, evOperand, backEnv]) (by simp [backEnv]) (.move ..) (fun x1 f1 => ?_)
        rw [wpOpsIn_cons]
        refine pure_at (fun _ q => q) a11 f1 (v := .bool true) (rd := []) (by simp [evOp, evOperand, backEnv, evBin, evInt, liftO, ofVal, sc]) (by simp [backEnv]) (.bin ..) (fun x2 f2 => ?_)
        have hb := f2.eval (.tmp 8)
        have hb' : evOperand ((List.set (List.set (backEnv C j) 7 (.int .i64 j)) 8 (.bool true))) (.tmp 8) = .bool true := by simp [evOperand, backEnv]
        rw [hb'] at hb
        refine wpIn_cond_true hb.bool_inv (wpIn_skip ?_)
        show Code.wpIn (Fw none) n P _ _ _ W
        have f3 : Fit B B (backEnv C j) ((a.put (some 7) x1).put (some 8) x2) W S (fun _ => none) (fun _ => none) := f2.forget (by simp [backEnv]) (fun t => by
          rcases t with _ | _ | _ | _ | _ | _ | _ | _ | _ | _ | _ | _ | _ | _ | _ | _ | _ | _ | _ | t <;> first | exact .inl rfl | exact .inr rfl)
        have hy3 : ((a.put (some 7) x1).put (some 8) x2).tmps.getD 0 undef = .func (.yield l0) #[] #[] := by rw [put_get (by omega), put_get (by omega)]; exact hy
        have hd3 : ((a.put (some 7) x1).put (some 8) x2).defers = [] := hd
        generalize (a.put (some 7) x1).put (some 8) x2 = a3 at f3 hy3 hd3 ⊢
        obtain ⟨cs, v, q1, q2, q3, q4⟩ := hget j (by omega)
        refine wpIn_seq (wpIn_block (wpIn_seq (wpIn_region ?_)))
        rw [z3]
        show wpOpsIn (Fw none) n P r3 _ [0, 1, 2, 3, 4, 5, 6, 7] a3 W
        rw [wpOpsIn_cons]
        refine move_at (fun _ q => q) a30 f3 (by simp [backEnv]) (fun g0 => ?_)
        have hy11 : (a3.put (some 11) (a3.eval (.tmp 0))).tmps.getD 11 undef = .func (.yield l0) #[] #[] := by
          have hsz : 11 < a3.tmps.size := by rw [f3.len]; simp [backEnv]
          have : a3.eval (.tmp 0) = .func (.yield l0) #[] #[] := hy3
          rw [this]
          simp [Act.put, Array.getElem?_setIfInBounds, hsz]
        have hy00 : (a3.put (some 11) (a3.eval (.tmp 0))).tmps.getD 0 undef = .func (.yield l0) #[] #[] := by rw [put_get (by omega)]; exact hy3
        have hd00 : (a3.put (some 11) (a3.eval (.tmp 0))).defers = [] := hd3
        generalize a3.put (some 11) (a3.eval (.tmp 0)) = a4 at g0 hy11 hy00 hd00 ⊢
        rw [wpOpsIn_cons]
        refine pure_at (fun _ q => q) a31 g0 (v := .int .i64 j) (rd := []) (by simp [evOp, evOperand, backEnv]) (by simp [backEnv]) (.move ..) (fun x12 g1 => ?_)
        rw [wpOpsIn_cons]
        refine pure_at (fun _ q => q) a32 g1 (v := .list xs l) (rd := []) (by simp only [evOp]; exact hld 0) (by simp [backEnv]) (.load ..) (fun x13 g2 => ?_)
        rw [wpOpsIn_cons]
        refine pure_at (fun _ q => q) a33 g2 (v := .int .i64 j) (rd := []) (by simp [evOp, evOperand, backEnv]) (by simp [backEnv]) (.move ..) (fun x14 g3 => ?_)
        rw [wpOpsIn_cons]
        refine pure_at (fun _ q => q) a34 g3 (v := .fptr cs l) (rd := []) (by simp [evOp, evOperand, backEnv, evIndexAddr, s3, e1, q1, q2, hpos]) (by simp [backEnv]) (.ix ..) (fun x15 g4 => ?_)
        rw [wpOpsIn_cons]
        refine pure_at (fun _ q => q) a35 g4 (v := v) (rd := []) (by simp [evOp, evOperand, backEnv, evLoad, e1, e2, cut, ← q2, q3]) (by simp [backEnv]) (.load ..) (fun x16 g5 => ?_)
        rw [wpOpsIn_cons]
        have f6 : Fit B B ((backEnv C j).set 12 (.int .i64 j) |>.set 16 v) (((((a4.put (some 12) x12).put (some 13) x13).put (some 14) x14).put (some 15) x15).put (some 16) x16) W S (fun _ => none) (fun _ => none) := g5.forget (by simp [backEnv]) (fun t => by
          rcases t with _ | _ | _ | _ | _ | _ | _ | _ | _ | _ | _ | _ | _ | _ | _ | _ | _ | _ | _ | t <;> first | exact .inl rfl | exact .inr rfl)
        have hy6 : (((((a4.put (some 12) x12).put (some 13) x13).put (some 14) x14).put (some 15) x15).put (some 16) x16).tmps.getD 11 undef = .func (.yield l0) #[] #[] := by
          rw [put_get (by omega), put_get (by omega), put_get (by omega), put_get (by omega), put_get (by omega)]; exact hy11
        have hy60 : (((((a4.put (some 12) x12).put (some 13) x13).put (some 14) x14).put (some 15) x15).put (some 16) x16).tmps.getD 0 undef = .func (.yield l0) #[] #[] := by
          rw [put_get (by omega), put_get (by omega), put_get (by omega), put_get (by omega), put_get (by omega)]; exact hy00
        have hd6 : (((((a4.put (some 12) x12).put (some 13) x13).put (some 14) x14).put (some 15) x15).put (some 16) x16).defers = [] := hd00
        clear g5 g4 g3 g2 g1 g0
        generalize ((((a4.put (some 12) x12).put (some 13) x13).put (some 14) x14).put (some 15) x15).put (some 16) x16 = a6 at f6 hy6 hy60 hd6 ⊢
        have hk : items.length - 1 - j = xs.length - (j + 1) := by omega
        have hR := hY (xs.length - (j + 1)) ((#[.tmp 12, .tmp 16] : Array Operand).map a6.eval) W (by omega) ⟨[.int .i64 j, v], [a6.eval (.tmp 12), a6.eval (.tmp 16)], by rw [← hk, hil]; exact q4, mapsTo2,
          ⟨(by have := f6.eval (.tmp 12); have e : evOperand ((backEnv C j).set 12 (.int .i64 j) |>.set 16 v) (.tmp 12) = .int .i64 j := by simp [evOperand, backEnv]
               rw [e] at this; exact this.mono0 (fun _ _ => rfl) (fun _ q => q) (fun i im q => by cases q)),
           (by have := f6.eval (.tmp 16); have e : evOperand ((backEnv C j).set 12 (.int .i64 j) |>.set 16 v) (.tmp 16) = v := by simp [evOperand, backEnv]
               rw [e] at this; exact this.mono0 (fun _ _ => rfl) (fun _ q => q) (fun i im q => by cases q)), trivial⟩⟩ hJ0
        refine yield_at a36 hy6 hR (fun e W' hq => ?_)
        have tail : ∀ (b : Bool) (W2 : World), Fit B B ((backEnv C j).set 12 (.int .i64 j) |>.set 16 v) a6 W2 S (fun _ => none) (fun _ => none) →
            ∀ (Q : Exit → Act → World → Prop), (∀ x17 x18, Fit B B ((backEnv C j).set 18 (.bool !b)) ((a6.put (some 17) x17).put (some 18) x18) W2 S (fun _ => none) (fun _ => none) → Q .normal ((a6.put (some 17) x17).put (some 18) x18) W2) →
            wpOpsIn (Fw none) n P r3 Q [7] (a6.put (some 17) (.bool b)) W2 := by
          intro b W2 h6 Q hQ
          have h7 := h6.put (env' := ((backEnv C j).set 12 (.int .i64 j) |>.set 16 v).set 17 (.bool b)) (dst := some 17) (v := .bool b) (x := .bool b) (fun _ q => q) (by simp [setV, backEnv]) (Step.refl ..) h6.sr (.fr (.bool b))
          rw [wpOpsIn_cons]
          refine pure_at (fun _ q => q) a37 h7 (v := .bool !b) (rd := []) (by simp [evOp, evOperand, backEnv, evUn, liftO]) (by simp [backEnv]) (.un ..) (fun x18 g8 => ?_)
          refine hQ _ _ (g8.forget (by simp [backEnv]) (fun t => ?_))
          rcases t with _ | _ | _ | _ | _ | _ | _ | _ | _ | _ | _ | _ | _ | _ | _ | _ | _ | _ | _ | t <;> first | exact .inl rfl | exact .inr rfl
        have c18 : ∀ (b : Bool) {a' : Act} {W2 : World}, Fit B B ((backEnv C j).set 18 (.bool b)) a' W2 S (fun _ => none) (fun _ => none) → a'.eval (.tmp 18) = .bool b := fun b a' W2 h => by
          have := h.eval (.tmp 18)
          have e : evOperand ((backEnv C j).set 18 (.bool b)) (.tmp 18) = .bool b := by simp [evOperand, backEnv]
          rw [e] at this
          exact this.bool_inv
        rcases hq with ⟨rfl, hJ1, hK⟩ | ⟨rfl, hX⟩
        · refine ⟨_, rfl, tail true W' (f6.move hK) _ (fun x17 x18 h8 => ?_)⟩
          refine wpIn_cond_false (c18 false h8) (wpIn_skip ?_)
          show Code.wpIn (Fw none) n P _ _ _ W'
          have h9 : Fit B B (backEnv C j) ((a6.put (some 17) x17).put (some 18) x18) W' S (fun _ => none) (fun _ => none) := h8.forget (by simp [backEnv]) (fun t => by
            rcases t with _ | _ | _ | _ | _ | _ | _ | _ | _ | _ | _ | _ | _ | _ | _ | _ | _ | _ | _ | t <;> first | exact .inl rfl | exact .inr rfl)
          refine wpIn_region ?_
          rw [z2]
          show wpOpsIn (Fw none) n P r2 _ [0, 1, 2] _ W'
          rw [wpOpsIn_cons]
          refine pure_at (fun _ q => q) a20 h9 (v := .int .i64 j) (rd := []) (by simp [evOp, evOperand, backEnv]) (by simp [backEnv]) (.move ..) (fun x9 k1 => ?_)
          rw [wpOpsIn_cons]
          refine pure_at (fun _ q => q) a21 k1 (v := .int .i64 ((j : Int) - 1)) (rd := []) (by
            simp [evOp, evOperand, backEnv, evBin, evInt, liftO, ofVal, sc, wrap_small (z := (j : Int) - 1) (by omega) (by omega)]) (by simp [backEnv]) (.bin ..) (fun x10 k2 => ?_)
          rw [wpOpsIn_cons]
          refine pure_at (fun _ q => q) a22 k2 (v := .int .i64 ((j : Int) - 1)) (rd := []) (by simp [evOp, evOperand, backEnv]) (by simp [backEnv]) (.assign ..) (fun x3 k3 => ?_)
          show roundsW none n P _ _ (j + 1) _ W'
          refine ih (by omega) _ W' (by rw [show xs.length - j = xs.length - (j + 1) + 1 by omega]; exact hJ1) (fun rb q => (hK rb q).trans (hT rb q)) (k3.forget (by simp [backEnv]) (fun t => ?_))
            (by rw [put_get (by omega), put_get (by omega), put_get (by omega), put_get (by omega), put_get (by omega)]; exact hy60) hd6
          rcases t with _ | _ | _ | _ | _ | _ | _ | _ | _ | _ | _ | _ | _ | _ | _ | _ | _ | _ | _ | t <;> first | exact .inl rfl | exact .inr rfl
        · refine ⟨_, rfl, ?_⟩
          have hs6 : a6.tmps.size = 19 := by rw [f6.len]; simp [backEnv]
          rw [wpOpsIn_cons]
          refine not_at (b := false) a37 (by simp [Act.put, Array.getElem?_setIfInBounds, hs6]) ?_
          refine wpIn_cond_true (by simp [Act.eval, Act.put, Array.getElem?_setIfInBounds, hs6]) (wpIn_ret ?_)
          exact doneR _ _ hd6 (.inr hX)
    refine wpIn_seq (wpIn_region ?_)
    rw [z0]
    show wpOpsIn (Fw none) n P r0 _ [0, 1, 2, 3] a0 w
    rw [wpOpsIn_cons]
    refine pure_at (fun _ q => q) a00 hj0 (v := .list xs l) (rd := []) (by simp only [evOp, evOperand]; exact hld 0) (by simp) (.load ..) (fun x1 f1 => ?_)
    rw [wpOpsIn_cons]
    refine pure_at (fun _ q => q) a01 f1 (v := .int .i64 xs.length) (rd := []) (by simp [evOp, evOperand, evBuiltin, evLen, s3]) (by simp) (.len ..) (fun x2 f2 => ?_)
    rw [wpOpsIn_cons]
    refine pure_at (fun _ q => q) a02 f2 (v := .int .i64 ((xs.length : Int) - 1)) (rd := []) (by
      simp [evOp, evOperand, evBin, evInt, liftO, ofVal, sc, wrap_small (z := (xs.length : Int) - 1) (by omega) (by omega)]) (by simp) (.bin ..) (fun x3 f3 => ?_)
    rw [wpOpsIn_cons]
    refine pure_at (fun _ q => q) a03 f3 (v := .int .i64 ((xs.length : Int) - 1)) (rd := []) (by simp [evOp, evOperand]) (by simp) (.assign ..) (fun x4 f4 => ?_)
    show Code.wpIn Fence.wide n P _ Qf _ w
    refine wpIn_block (loop_fw (r := none) (xs.length + 1) (loop xs.length (Nat.le_refl _) _ w (by rw [Nat.sub_self]; exact h0) (fun _ _ => rfl) (f4.forget (by rfl) (fun t => ?_)) (by rw [put_get (by omega), put_get (by omega), put_get (by omega), put_get (by omega)]; exact hy0) hd0))
    rcases t with _ | _ | _ | _ | _ | _ | _ | _ | _ | _ | _ | _ | _ | _ | _ | _ | _ | _ | _ | t <;> first | exact .inl rfl | exact .inr rfl
  · cases hit
end
end Go.Proofs.Ytcamcfplcoklkaa.Iv

namespace Go.Proofs.Ytcamcfplcoklkaa.Iv
open Go
def dtbl : List (Nat × Pol) := [(9, ⟨false, [.view], none⟩), (14, ⟨false, [.view], none⟩), (15, ⟨false, [.view], none⟩), (16, ⟨true, [.view], none⟩), (18, ⟨true, [.view], none⟩), (22, ⟨true, [.view], none⟩), (34, ⟨false, [.view], none⟩),
  (19, ⟨false, [.byref], none⟩), (21, ⟨false, [.byref], none⟩), (24, ⟨false, [.byref], none⟩), (25, ⟨false, [.byref], none⟩), (32, ⟨false, [.byref], none⟩), (33, ⟨false, [.byref, .byref], none⟩), (36, ⟨true, [.byref], none⟩),
  (20, ⟨false, [.byref, .keep, .lent], none⟩), (31, ⟨true, [.lentN], none⟩), (12, ⟨false, [.byref], none⟩), (13, ⟨false, [.byref], none⟩), (23, ⟨true, [], none⟩), (27, ⟨false, [.view], none⟩), (37, ⟨false, [.view], none⟩), (17, ⟨false, [.view], none⟩),
  (28, ⟨false, [.byref, .keep, .lent], none⟩), (29, ⟨false, [.byref], none⟩), (30, ⟨false, [.byref], none⟩), (38, ⟨false, [.byref], none⟩), (39, ⟨false, [.byref], none⟩), (35, ⟨true, [.lent], none⟩), (40, ⟨false, [], some (.backward true 2)⟩)]
def polOf (l : List (Nat × Pol)) (f : Nat) : Pol := match l with
  | [] => ⟨false, [], none⟩
  | (g, p) :: r => if g = f then p else polOf r f
noncomputable def dcfg : Cfg := { P := Try.prog, pol := polOf dtbl, good := [3,4,5,6,7,8,9,10,11,12,13,14,15,16,17,18,19,20,21,22,23,24,25,26,27,28,29,30,31,32,33,34,35,36,37,38,39] }
def isT : Option (V × Heap) → Nat
  | some (.bool true, _) => 1
  | some (.bool false, _) => 2
  | some _ => 3
  | none => 0
set_option maxRecDepth 100000
theorem t1 : isT (run dcfg 400 8 [] (fun _ => none)) = 1 := by kernel_rfl
end Go.Proofs.Ytcamcfplcoklkaa.Iv

namespace Go.Proofs.Ytcamcfplcoklkaa.Iv
open Go
set_option linter.unusedVariables false
set_option linter.unusedSimpArgs false
set_option maxRecDepth 100000
theorem At.of {ops : Array Oper} {k d : Nat} {op : Op} (h : (ops[k]?).map (fun o => (o.op, o.guard, o.dst)) = some (op, none, some d)) : At ops k op d := by
  cases ho : ops[k]? with
  | none => rw [ho] at h; cases h
  | some o =>
    rw [ho] at h
    simp only [Option.map_some, Option.some.injEq, Prod.mk.injEq] at h
    exact ⟨o, ho, h.1, h.2.1, h.2.2⟩
noncomputable def b40_0 : Array Oper := opsOf (cAt [0] (bodyOf Try.f40))
noncomputable def b40_1 : Array Oper := opsOf (cAt [1, 0, 0, 0, 0] (bodyOf Try.f40))
noncomputable def b40_3 : Array Oper := opsOf (cAt [1, 0, 0, 1, 0, 0, 0] (bodyOf Try.f40))
noncomputable def b40_2 : Array Oper := opsOf (cAt [1, 0, 0, 1, 1] (bodyOf Try.f40))
theorem back40 : BackCode Try.prog 40 47 65 2 true := by
  refine ⟨⟨Try.f40, b40_0, b40_1, b40_2, b40_3, 0, 1, 2, 3, 0, 1, #[3, 65], by kernel_rfl, by kernel_rfl, by kernel_rfl, by kernel_rfl, by kernel_rfl, ⟨by kernel_rfl, .of (by kernel_rfl), .of (by kernel_rfl), ⟨3, .of (by kernel_rfl)⟩, .of (by kernel_rfl)⟩,
    ⟨by kernel_rfl, .of (by kernel_rfl), 3, .of (by kernel_rfl)⟩, ⟨by kernel_rfl, .of (by kernel_rfl), ⟨3, .of (by kernel_rfl)⟩, .of (by kernel_rfl)⟩,
    ⟨by kernel_rfl, .of (by kernel_rfl), .of (by kernel_rfl), .of (by kernel_rfl), .of (by kernel_rfl), .of (by kernel_rfl), .of (by kernel_rfl), .of (by kernel_rfl), 4, .of (by kernel_rfl)⟩⟩,
    by kernel_rfl, by kernel_rfl, by kernel_rfl, by kernel_rfl, by kernel_rfl, by decide⟩
theorem seq_at {g : Nat} {k : SeqK} : ∀ {l : List (Nat × Pol)}, (polOf l g).seq = some k → ∃ p, (g, p) ∈ l ∧ p.seq = some k
  | [], h => by simp [polOf] at h
  | (f, p) :: r, h => by
    unfold polOf at h
    split at h
    · rename_i e; subst e; exact ⟨p, by simp, h⟩
    · obtain ⟨p', h1, h2⟩ := seq_at h; exact ⟨p', by simp [h1], h2⟩
theorem seq40 : SeqOK Try.prog dcfg.pol := by
  intro g cap items h
  unfold seqOf at h
  cases hk : (dcfg.pol g).seq with
  | none => rw [hk] at h; cases h
  | some k =>
    rw [hk] at h
    simp only at h
    obtain ⟨p, hp, hs⟩ := seq_at (l := dtbl) hk
    have hg : g = 40 ∧ k = .backward true 2 := by
      have hall : (dtbl.all fun x => match x.2.seq with | none => true | some k => x.1 == 40 && k == .backward true 2) = true := by kernel_rfl
      have := List.all_eq_true.1 hall _ hp
      simp only [hs, Bool.and_eq_true, beq_iff_eq] at this
      exact this
    obtain ⟨rfl, rfl⟩ := hg
    have hcap : ∃ xs l l2, cap = [.fptr [.list xs l] l2] := by
      unfold seqItems at h
      split at h
      · exact ⟨_, _, _, rfl⟩
      · rename_i e; cases e
      · cases h
    obtain ⟨xs, l, l2, rfl⟩ := hcap
    exact ⟨⟨Try.f40, by kernel_rfl, by kernel_rfl, by kernel_rfl⟩, fun w S B m lb hS hB hv => back_seq back40 h hS hB hv⟩
theorem cfg_good : cfgB dcfg = true := by kernel_rfl
theorem mixed : Try.prog.follows .mixedOrders = true := by kernel_rfl
end Go.Proofs.Ytcamcfplcoklkaa.Iv

namespace Go.Proofs.Ytcamcfplcoklkaa.Iv
open Go
set_option linter.unusedVariables false
set_option linter.unusedSimpArgs false
set_option maxRecDepth 100000
/-! ### the disk's functions on a disk that is only looked at -/
/-- a disk as it is looked at: kept bytes, the queue as a list (or none) -/
def vD (l : Int) (g : Bool) (b : Int) (K : List (List V)) (q : V) : V := .fptr [.int .i64 l, .bool g, .int .i64 b, .list K true, q] true
def secs (K : List (List V)) : Int := IntKind.i64.wrap ((K.length : Int).tdiv 64)
theorem r_sectors (l : Int) (g : Bool) (b : Int) (K : List (List V)) (q : V) : (run dcfg 40 9 [vD l g b K q] (fun _ => none)).map (·.1) = some (.int .i64 (secs K)) := by kernel_rfl
theorem r_pending (l : Int) (g : Bool) (b : Int) (K : List (List V)) (xs : List (List V)) : (run dcfg 40 14 [vD l g b K (.list xs true)] (fun _ => none)).map (·.1) = some (.int .i64 xs.length) := by kernel_rfl
theorem r_pending0 (l : Int) (g : Bool) (b : Int) (K : List (List V)) : (run dcfg 40 14 [vD l g b K .nils] (fun _ => none)).map (·.1) = some (.int .i64 0) := by kernel_rfl
theorem r_dark (l : Int) (g : Bool) (b : Int) (K : List (List V)) (q : V) : (run dcfg 40 15 [vD l g b K q] (fun _ => none)).map (·.1) = some (.bool g) := by kernel_rfl
theorem r_has (l : Int) (g : Bool) (b : Int) (K : List (List V)) (q : V) (n : Nat) : (run dcfg 40 34 [vD l g b K q, .int .i64 (Int.ofNat n)] (fun _ => none)).map (·.1) = some (.bool (decide (Int.ofNat n < secs K))) := by kernel_rfl
theorem r_has0 (l : Int) (g : Bool) (b : Int) (K : List (List V)) (q : V) (n : Nat) : (run dcfg 40 34 [vD l g b K q, .int .i64 (Int.negSucc n)] (fun _ => none)).map (·.1) = some (.bool false) := by kernel_rfl
/-! ### power -/
def pblk (l : Int) (g : Bool) (b : Int) (k q : V) : Blk := ⟨0, [.int .i64 l, .bool g, .int .i64 b, k, q], false, false⟩
def PH (l : Int) (g : Bool) (b : Int) (k q : V) (H : Heap) : Heap := fun i => if i = .arg 0 then some (pblk l g b k q) else H i
def left' (l : Int) : Int := if (-1 : Int) > IntKind.i64.wrap (l - 1) then -1 else IntKind.i64.wrap (l - 1)
theorem r_goesF (l : Int) (b : Int) (k q : V) (H : Heap) : (run dcfg 40 32 [.ptr (.arg 0) 0 0] (PH l false b k q H)).map (fun p => (p.1, p.2 (.arg 0))) = some (.bool (!(l == 0)), some (pblk (left' l) (l == 0) b k q)) := by kernel_rfl
theorem r_goesT (l : Int) (b : Int) (k q : V) (H : Heap) : (run dcfg 40 32 [.ptr (.arg 0) 0 0] (PH l true b k q H)).map (fun p => (p.1, p.2 (.arg 0))) = some (.bool false, some (pblk (left' l) true b k q)) := by kernel_rfl
end Go.Proofs.Ytcamcfplcoklkaa.Iv

namespace Go.Proofs.Ytcamcfplcoklkaa.Iv
open Go
set_option linter.unusedVariables false
set_option linter.unusedSimpArgs false
set_option maxRecDepth 100000
/-! ### a disk in the heap, looked at -/
structure DskH (H : Heap) (D : Id) (gd : Nat) (l : Int) (g : Bool) (b : Int) (Kid : Id) (kc : List V) (q qv : V) (rq : List Id) : Prop where
  hd : ∃ gk lim bk, H D = some ⟨gd, [.int .i64 l, .bool g, .int .i64 b, .sl Kid gk 0 kc.length 1 lim, q], false, false⟩ ∧ H Kid = some bk ∧ bk.gen = gk ∧ bk.cells = kc ∧ bk.flat = true
  hq : viewC H q = some (qv, rq)
theorem cut_all (cs : List V) : cut cs 0 cs.length = some cs := by simp [cut]
theorem view_d {H : Heap} {D Kid : Id} {gd : Nat} {l b : Int} {g : Bool} {kc : List V} {q qv : V} {rq : List Id} (h : DskH H D gd l g b Kid kc q qv rq) :
    view1 H (.ptr D gd 0) = some ⟨vD l g b (chunk 1 kc.length kc) qv, [], D :: Kid :: rq⟩ := by
  obtain ⟨gk, lim, bk, h1, h2, h3, h4, h5⟩ := h.hd
  have e1 : live H D gd = some ⟨gd, [.int .i64 l, .bool g, .int .i64 b, .sl Kid gk 0 kc.length 1 lim, q], false, false⟩ := by simp [live, h1]
  have e2 : viewC H (.sl Kid gk 0 kc.length 1 lim) = some (.list (chunk 1 kc.length kc) true, [Kid]) := by
    simp [viewC, live, h2, h3, h4, h5, cut_all]
  have e3 : viewL H [q] = some ([qv], rq) := by simp [viewL, h.hq]
  have e4 : viewL H [.sl Kid gk 0 kc.length 1 lim, q] = some ([.list (chunk 1 kc.length kc) true, qv], Kid :: rq) := by
    rw [viewL, e2]; simp only; rw [e3]; rfl
  simp only [view1, e1, List.drop_zero]
  have e5 : viewL H [.int .i64 l, .bool g, .int .i64 b, .sl Kid gk 0 kc.length 1 lim, q] = some ([.int .i64 l, .bool g, .int .i64 b, .list (chunk 1 kc.length kc) true, qv], Kid :: rq) := by
    rw [viewL]
    simp only [viewC, V.plain, if_true]
    rw [viewL]
    simp only [viewC, V.plain, if_true]
    rw [viewL]
    simp only [viewC, V.plain, if_true]
    rw [e4]
    rfl
  rw [e5]
  rfl
/-- a call of a function that only looks at the disk -/
theorem call_view {H : Heap} {D Kid : Id} {gd : Nat} {l b : Int} {g : Bool} {kc : List V} {q qv : V} {rq : List Id} (h : DskH H D gd l g b Kid kc q qv rq) {dd f : Nat} {r : V} (hm : (dcfg.pol f).modes = [.view]) (ho : (dcfg.pol f).own = false)
    (hr : (run dcfg 40 f [vD l g b (chunk 1 kc.length kc) qv] (fun _ => none)).map (·.1) = some r) (hpl : ∃ x, r = .bool x ∨ ∃ k n, r = .int k n) {Q : Out → Prop} (hQ : Q ⟨r, [], D :: Kid :: rq⟩) : wCall dcfg.pol (CallR dcfg) H dd f [.ptr D gd 0] Q := by
  have e1 : callPre dcfg.pol H f [.ptr D gd 0] = some ⟨[vD l g b (chunk 1 kc.length kc) qv], fun _ => none, [], [], D :: Kid :: rq⟩ := by
    unfold callPre
    rw [hm]
    simp only [argsIn, List.headD, argIn, view_d h, List.tail, List.append_nil, List.nil_append]
    rfl
  unfold wCall
  rw [e1]
  refine CallR.of_run r hr (fun H' _ => ?_)
  have e2 : callPost dcfg.pol H dd f ⟨[vD l g b (chunk 1 kc.length kc) qv], fun _ => none, [], [], D :: Kid :: rq⟩ r H' = some ⟨r, [], D :: Kid :: rq⟩ := by
    unfold callPost
    rw [ho]
    obtain ⟨x, rfl | ⟨k, n, rfl⟩⟩ := hpl
    · simp [retIn, keepV, keep1, collect, argIds, refs, backUps, outKept, V.keptR, V.kept, V.kept0, freshSubs, renIfV, pureO]
    · simp [retIn, keepV, keep1, collect, argIds, refs, backUps, outKept, V.keptR, V.kept, V.kept0, freshSubs, renIfV, pureO]
  show outW (callPost dcfg.pol H dd f ⟨[vD l g b (chunk 1 kc.length kc) qv], fun _ => none, [], [], D :: Kid :: rq⟩ r H') Q
  rw [e2]
  exact hQ
end Go.Proofs.Ytcamcfplcoklkaa.Iv
