import Derived.Test.YtcamcfplcoklkaaM5
import Derived.RangeFuncNested
import Derived.OrdersIn
import Derived.TacticsIn
import Derived.LoopN
import Derived.Scope
namespace Go.Proofs.Ytcamcfplcoklkaa.Iv
open Go
set_option linter.unusedVariables false
set_option linter.unusedSimpArgs false
section
variable {P : Program} {K B : Nat → Prop} {w : World} {S : Nat → Prop} {m : Map} {H : Heap}

theorem Goes.val {v : V} {rd : List Id} {o : Oper} {a : Act} (h : SR w S K m H) {x : Value} (hx : VR w S B m v x) (hr : (execOp a.eval o).run P w = .ok (.value x) w) : Goes P K B w S m H ⟨v, [], rd⟩ o a := by
  intro next Q hn
  unfold Oper.wp
  rw [hr]
  exact hn x w S m (Step.refl ..) h hx

theorem Goes.lift {ov : Option V} {out : Out} {o : Oper} {a : Act} (h : SR w S K m H) (he : liftO ov = some out) {s : Sem Value} (hs : ∀ v, ov = some v → SoundV P B w S m v s) (ho : execOp a.eval o = (do pure (.value (← s)))) : Goes P K B w S m H out o a :=
  Goes.of (SoundV.lift h he hs) ho

theorem Goes.of' {out : Out} {o : Oper} {a : Act} {s : Sem Value} (hs : Sound P K B w S m H out s) (ho : (execOp a.eval o).run P w = ((do pure (.value (← s))) : Sem Next).run P w) : Goes P K B w S m H out o a := by
  intro next Q hn
  obtain ⟨x, w', S', m', hr, st, sr, hv⟩ := hs
  unfold Oper.wp
  rw [ho]
  simp only [Sem.run_bind, hr, Result.andThen_ok, Sem.run_pure, Oper.upon]
  exact hn x w' S' m' st sr hv
theorem Goes.lift' {ov : Option V} {out : Out} {o : Oper} {a : Act} (h : SR w S K m H) (he : liftO ov = some out) {s : Sem Value} (hs : ∀ v, ov = some v → SoundV P B w S m v s) (ho : (execOp a.eval o).run P w = ((do pure (.value (← s))) : Sem Next).run P w) : Goes P K B w S m H out o a :=
  Goes.of' (SoundV.lift h he hs) ho

theorem builtin_goes (h : SR w S K m H) {ρ : Operand → V} {a : Act} (hρ : ∀ x, VR w S B m (ρ x) (a.eval x)) {d : Nat} {b : Builtin} {ts : Array TypeId} {args : Array Operand} {out : Out} {o : Oper}
    (ho : o.op = .call { callee := .builtin b, args := args, argTypes := ts }) (he : evBuiltin P H d b ts.toList (args.toList.map ρ) = some out) : Goes P K B w S m H out o a := by
  have hres : ∀ {s : Sem Value}, (∀ cs, builtin b ts o.type cs (args.map a.eval) = (do pure (.value (← s)))) → (execOp a.eval o).run P w = ((do pure (.value (← s))) : Sem Next).run P w := by
    intro s hs
    unfold execOp
    rw [ho]
    simp only [resolve, Sem.run_bind, Sem.run_pure, Result.andThen_ok, invoke]
    rw [hs]
    simp only [Sem.run_bind, Sem.run_pure]
  obtain ⟨args⟩ := args
  obtain ⟨ts⟩ := ts
  simp only at he
  unfold evBuiltin at he
  split at he
  · rename_i s x r p q hargs
    match args, hargs with
    | [o1, o2], hargs =>
      simp only [List.map_cons, List.map_nil, List.cons.injEq, and_true] at hargs
      obtain ⟨rfl, rfl⟩ := hargs
      exact Goes.of' (append_sound (P := P) (ty := o.type) (ts := (s :: x :: r).toArray) h d (by simp) (by simp) he (hρ o1) (hρ o2)) (hres (fun cs => by simp [builtin]))
  · rename_i s r p hargs
    match args, hargs with
    | [o1], hargs =>
      simp only [List.map_cons, List.map_nil, List.cons.injEq, and_true] at hargs
      subst hargs
      exact Goes.of' (len_sound (P := P) (ty := o.type) h he (hρ o1) (s :: r).toArray (by simp)) (hres (fun cs => by simp [builtin]))
  · rename_i s r p hargs
    match args, hargs with
    | [o1], hargs =>
      simp only [List.map_cons, List.map_nil, List.cons.injEq, and_true] at hargs
      subst hargs
      exact Goes.of' (cap_sound (P := P) (ty := o.type) h he (hρ o1) (s :: r).toArray (by simp)) (hres (fun cs => by simp [builtin]))
  · rename_i s r p q hargs
    match args, hargs with
    | [o1, o2], hargs =>
      simp only [List.map_cons, List.map_nil, List.cons.injEq, and_true] at hargs
      obtain ⟨rfl, rfl⟩ := hargs
      exact Goes.of' (copy_sound (P := P) (ty := o.type) (ts := (s :: r).toArray) h (by simp) he (hρ o1) (hρ o2)) (hres (fun cs => by simp [builtin]))
  · rename_i s r p hargs
    match args, hargs with
    | [o1], hargs =>
      simp only [List.map_cons, List.map_nil, List.cons.injEq, and_true] at hargs
      subst hargs
      exact Goes.of' (clear_sound (P := P) (ty := o.type) (ts := (s :: r).toArray) h (by simp) he (hρ o1)) (hres (fun cs => by simp [builtin]))
  · rename_i p r hargs
    match args, hargs with
    | o1 :: os, hargs =>
      simp only [List.map_cons, List.cons.injEq] at hargs
      obtain ⟨rfl, rfl⟩ := hargs
      exact Goes.lift' h he (fun v hv => foldO_sound (P := P) (fun e r1 r2 => max2_sound e r1 r2) hv (hρ o1) (args_R hρ os)) (hres (fun cs => by simp [builtin, Builtin.max_]))
  · rename_i p r hargs
    match args, hargs with
    | o1 :: os, hargs =>
      simp only [List.map_cons, List.cons.injEq] at hargs
      obtain ⟨rfl, rfl⟩ := hargs
      exact Goes.lift' h he (fun v hv => foldO_sound (P := P) (fun e r1 r2 => min2_sound e r1 r2) hv (hρ o1) (args_R hρ os)) (hres (fun cs => by simp [builtin, Builtin.min_]))
  · cases he

theorem evOp_sound {call : Nat → List V → Heap → Option (V × Heap)} {pol : Nat → Pol} (hrun : RunOK P call) (h : SR w S K m H) (hB : ∀ rb, B rb → K rb) {ρ : Operand → V} {a : Act} (hρ : ∀ x, VR w S B m (ρ x) (a.eval x))
    {d : Nat} {op : Op} {out : Out} (he : evOp P call pol H ρ d op = some out) {o : Oper} (ho : o.op = op) : Goes P K B w S m H out o a := by
  subst ho
  unfold evOp at he
  split at he
  · rename_i x e; cases he
    exact Goes.val h (hρ x) (by unfold execOp; rw [e]; rfl)
  · rename_i x e; cases he
    exact Goes.val h (hρ x) (by unfold execOp; rw [e]; rfl)
  · rename_i c p q e
    split at he
    · rename_i t ht
      cases he
      have := hρ c
      rw [ht] at this
      have := this.bool_inv
      refine Goes.val (x := if t then a.eval p else a.eval q) h ?_ (by unfold execOp; rw [e]; cases t <;> simp [this, asBool])
      cases t
      · exact hρ q
      · exact hρ p
    · cases he
  · rename_i el e
    split at he
    · rename_i z hz
      exact Goes.of (alloc_sound (P := P) h d hz he) (by unfold execOp; rw [e])
    · cases he
  · rename_i el x e
    exact Goes.of (boxO_sound (P := P) h hB d he (hρ x) el) (by unfold execOp; rw [e])
  · rename_i t ps e
    exact Goes.lift h he (fun v hv => build_sound (P := P) hv (parts_R hρ ps)) (by unfold execOp; rw [e])
  · rename_i t len ps e
    exact Goes.of (buildSlice_sound (P := P) h d he (parts_R hρ ps)) (by unfold execOp; rw [e])
  · rename_i t x e
    exact Goes.of (load_sound (P := P) h he (hρ x)) (by unfold execOp; rw [e])
  · rename_i t x y e
    obtain ⟨e1, w', S', m', hr, st, sr⟩ := store_sound (P := P) h he (hρ x) (hρ y)
    intro next Q hn
    have : (execOp a.eval o).run P w = .ok .skip w' := by
      unfold execOp; rw [e]; simp [hr]
    unfold Oper.wp
    rw [this]
    exact hn undef w' S' m' st sr (by rw [e1]; exact .und _)
  · rename_i x e
    split at he
    · rename_i i g o' hv
      cases he
      have hx := hρ x
      rw [hv] at hx
      obtain ⟨ad, e1⟩ := hx.ptr_shape
      exact Goes.val h hx (by unfold execOp; rw [e]; simp [e1])
    · rename_i cs l hv
      cases he
      have hx := hρ x
      rw [hv] at hx
      obtain ⟨rb, o', vals, e1, _⟩ := hx.fptr_inv
      exact Goes.val h hx (by unfold execOp; rw [e]; simp [e1])
    · rename_i f c hv
      cases he
      have hx := hρ x
      rw [hv] at hx
      obtain ⟨xs, e1, _⟩ := hx.fn_inv
      exact Goes.val h hx (by unfold execOp; rw [e]; simp [e1])
    · cases he
  · rename_i op t x y yt e
    exact Goes.lift h he (fun v hv => bin_sound (P := P) hv (hρ x) (hρ y) x y) (by unfold execOp; rw [e])
  · rename_i op t x e
    exact Goes.lift h he (fun v hv => un_sound (P := P) hv (hρ x)) (by unfold execOp; rw [e])
  · rename_i s t x e
    exact Goes.of (convert_sound (P := P) h he (hρ x)) (by unfold execOp; rw [e])
  · rename_i f first cap e
    split at he
    · rename_i hf
      cases he
      have hfe : first = #[] := by simpa using hf
      subst hfe
      have h2 := args_R hρ cap.toList
      refine Goes.val (x := .func (.func f) #[] (cap.map a.eval)) h ?_ (by unfold execOp; rw [e]; simp [Instr.makeFunc])
      have := VR.fn_mk (f := f) h2
      have e2 : cap.map a.eval = (cap.toList.map a.eval).toArray := by apply Array.ext'; simp
      rw [e2]
      exact this
    · cases he
  · rename_i t l c e
    exact Goes.of (makeSlice_sound (P := P) h d he (hρ l) (hρ c)) (by unfold execOp; rw [e])
  · rename_i t x lo hi mx e
    exact Goes.of (slice_sound (P := P) h he (hρ x) (opt_R hρ lo) (opt_R hρ hi) (opt_R hρ mx)) (by unfold execOp; rw [e])
  · rename_i t x f e
    exact Goes.of (fieldAddr_sound (P := P) h he (hρ x)) (by unfold execOp; rw [e])
  · rename_i t x f e
    exact Goes.lift h he (fun v hv => field_sound (P := P) hv (hρ x)) (by unfold execOp; rw [e])
  · rename_i t x i e
    exact Goes.of (indexAddr_sound (P := P) h he (hρ x) (hρ i)) (by unfold execOp; rw [e])
  · rename_i t x i e
    exact Goes.lift h he (fun v hv => index_sound (P := P) hv (hρ x) (hρ i)) (by unfold execOp; rw [e])
  · rename_i t i e
    split at he
    · rename_i vs hv
      have hx := hρ t
      rw [hv] at hx
      exact Goes.lift h he (fun v hq => extract_sound (P := P) hq hx) (by unfold execOp; rw [e])
    · cases he
  · rename_i b args ts e
    exact builtin_goes h hρ e he
  · rename_i fo args ts e
    split at he
    · rename_i f cap hv
      have hx := hρ fo
      rw [hv] at hx
      obtain ⟨xs, e1, h2⟩ := hx.fn_inv
      obtain ⟨⟨fn, f1, f2, f3⟩, hc⟩ := call_sound hrun h hB he ((args_R hρ args.toList).app h2)
      intro next Q hn
      have hr : (execOp a.eval o).run P w = .ok (.enter f (args.toList.map a.eval ++ xs).toArray) w := by
        unfold execOp
        rw [e]
        have hnone : fn.body.isNone = false := by cases hb : fn.body <;> simp_all
        have e3 : args.map a.eval ++ xs.toArray = (args.toList.map a.eval ++ xs).toArray := by apply Array.ext'; simp
        have f3' : ¬ (fn.name = "runtime.NumGoroutine") := by simpa using f3
        simp only [resolve, e1, Deferred.ofValue, Sem.run_bind, Sem.run_pure, Result.andThen_ok, invoke, callFunc, run_program, f1]
        rw [← e3]
        simp [f3', hnone]
      unfold Oper.wp
      rw [hr]
      simp only [Oper.upon]
      refine hc.mono ?_
      rintro e' w' ⟨x, S', m', rfl, st, sr, hvx⟩
      exact hn x w' S' m' st sr hvx
    · cases he
  · cases he
end
end Go.Proofs.Ytcamcfplcoklkaa.Iv

namespace Go.Proofs.Ytcamcfplcoklkaa.Iv
open Go
set_option linter.unusedVariables false
set_option linter.unusedSimpArgs false

/-! ### the fence that lets all in, within a round or not -/
def Fw (r : Option Nat) : Fence := { Fence.wide with round := r }
theorem fenced_fw (P : Program) (r : Option Nat) (m : Machine) : m.fenced P (Fw r) := fenced_wide P m
theorem room_fw (r : Option Nat) (n : Nat) : (Fw r).room n := room_wide n
theorem callsIn_fw {r : Option Nat} {n : Nat} {P : Program} {f : FuncId} {args : Array Value} {w : World} {R : Ending → World → Prop} : CallsIn (Fw r) n P f args w R ↔ Calls P f args w R :=
  callsIn_wide
theorem rowsIn_fw {r : Option Nat} {n : Nat} {P : Program} {row : String} {args : Array Value} {w : World} {R : Value → World → Prop} (h : Rows P row args w R) : RowsIn (Fw r) n P row args w R :=
  fun c cs _ => let ⟨v, w', q, s⟩ := h c cs; ⟨v, w', q, stepsIn_wide.2 s⟩
theorem oper_fw {r : Option Nat} {n : Nat} {P : Program} {o : Oper} {a : Act} {w : World} {K : Act → World → Prop} {Q : Exit → Act → World → Prop} (hd : ∀ c, o.op ≠ .defer c) (h : o.wp P a w K Q) : o.wpIn (Fw r) n P a w K Q := by
  refine ⟨fun _ _ => trivial, ?_⟩
  have e : o.semAt (Fw r).round a.eval = execOp a.eval o := by
    cases r with
    | none => exact Oper.semAt_none ..
    | some l => exact Oper.semAt_some l _ o hd
  rw [e]
  unfold Oper.wp at h
  generalize (execOp a.eval o).run P w = q at *
  cases q with
  | ok x w' =>
    cases x <;> simp only [Oper.upon, Oper.uponIn] at h ⊢ <;>
      first
        | exact h
        | exact ⟨fun q => by simp [Fw, Fence.wide] at q, callsIn_fw.2 h⟩
        | exact ⟨fun q => by simp [Fw, Fence.wide] at q, rowsIn_fw h⟩
        | exact h.elim
  | halt x w' => cases x <;> simp only [Oper.upon, Oper.uponIn] at h ⊢ <;> exact h

/-! ### loops, by the number of their rounds -/
def roundsW (r : Option Nat) (n : Nat) (P : Program) (c : Code) (Q : Exit → Act → World → Prop) : Nat → Act → World → Prop
  | 0, _, _ => False
  | j + 1, a, w => c.wpIn (Fw r) n P (Exit.then (roundsW r n P c Q j) Q) a w
theorem least_of {p : Nat → Prop} : ∀ n, p n → ∃ j, p j ∧ ∀ k, p k → j ≤ k := by
  intro n
  induction n using Nat.strongRecOn with
  | _ n ih =>
    intro hn
    by_cases h : ∃ k, k < n ∧ p k
    · obtain ⟨k, hk, hp⟩ := h; exact ih k hk hp
    · exact ⟨n, hn, fun k hp => Nat.le_of_not_lt fun q => h ⟨k, q, hp⟩⟩
theorem loop_fw {r : Option Nat} {n : Nat} {P : Program} {c : Code} {Q : Exit → Act → World → Prop} {a : Act} {w : World} (j : Nat) (h : roundsW r n P c Q j a w) : (Code.loop c).wpIn (Fw r) n P Q a w := by
  classical
  obtain ⟨mu, hmu⟩ : ∃ mu : Act → World → Nat, ∀ a w, (∃ j, roundsW r n P c Q j a w) → roundsW r n P c Q (mu a w) a w ∧ ∀ k, roundsW r n P c Q k a w → mu a w ≤ k := by
    refine ⟨fun a w => if h : ∃ j, roundsW r n P c Q j a w then (least_of (p := fun j => roundsW r n P c Q j a w) h.choose h.choose_spec).choose else 0, fun a w h => ?_⟩
    simp only [h, dif_pos]
    exact (least_of (p := fun j => roundsW r n P c Q j a w) h.choose h.choose_spec).choose_spec
  refine wpIn_loop (fun a w => ∃ j, roundsW r n P c Q j a w) mu ⟨j, h⟩ (fun a w hI => ?_)
  obtain ⟨h1, h2⟩ := hmu a w hI
  cases hj : mu a w with
  | zero => rw [hj] at h1; exact h1.elim
  | succ k =>
    rw [hj] at h1
    refine wpIn_mono (show c.wpIn (Fw r) n P (Exit.then (roundsW r n P c Q k) Q) a w from h1) (fun e a' w' q => ?_)
    cases e <;> first | exact q | skip
    have q' : roundsW r n P c Q k a' w' := q
    exact ⟨⟨k, q'⟩, by have := (hmu a' w' ⟨k, q'⟩).2 k q'; omega⟩

/-! ### what is no cells may turn -/
theorem grown_same {w w' : World} {row : Option Nat} (hg : w.grownBy w' row) (hr : ∀ q, row = some q → ∃ o : Obj, w.heap[q]? = some o ∧ o.isCells = false) {rb : Nat} {o : Obj} (h : w.heap[rb]? = some o) (hc : o.isCells = true) : w'.heap[rb]? = w.heap[rb]? := by
  refine hg.block rb (Array.getElem?_eq_some_iff.1 h).1 (fun e => ?_)
  obtain ⟨o', h1, h2⟩ := hr rb e.symm
  rw [h] at h1; cases h1; rw [hc] at h2; cases h2
section
variable {P : Program} {K B : Nat → Prop} {w : World} {S : Nat → Prop} {m : Map} {H : Heap}
theorem SR.grown (h : SR w S K m H) {w' : World} {row : Option Nat} (hg : w.grownBy w' row) (hr : ∀ q, row = some q → ∃ o : Obj, w.heap[q]? = some o ∧ o.isCells = false) : SR w' S K m H := by
  have hs : ∀ rb, S rb → w'.heap[rb]? = w.heap[rb]? := fun rb hb => by
    obtain ⟨o, h1, h2⟩ := h.scel rb hb
    exact grown_same hg hr h1 h2
  refine ⟨fun rb hb => Nat.lt_of_lt_of_le (h.sub rb hb) hg.size, fun rb hb => Nat.lt_of_lt_of_le (h.kin rb hb) hg.size, fun i b hi => ?_, h.non, h.inj, h.own, fun rb hb => by rw [hs rb hb]; exact h.scel rb hb⟩
  obtain ⟨im, hm, ok⟩ := h.blk i b hi
  obtain ⟨arr, ty, hrow, _⟩ := ok.row
  exact ⟨im, hm, ok.mono0 hs (fun _ h => h) (fun i im h => ⟨im, h, Nat.le_refl _, fun _ => rfl⟩) (grown_same hg hr hrow rfl) ok.thaw⟩
theorem VR.grown (h : SR w S K m H) (hB : ∀ rb, B rb → K rb) {w' : World} {row : Option Nat} (hg : w.grownBy w' row) (hr : ∀ q, row = some q → (∃ o : Obj, w.heap[q]? = some o ∧ o.isCells = false) ∧ ¬ K q) {v : V} {x : Value} (hv : VR w S B m v x) : VR w' S B m v x := by
  refine hv.mono0 (fun rb hb => ?_) (fun _ h => h) (fun i im h => ⟨im, h, Nat.le_refl _, fun _ => rfl⟩)
  rcases hb with hb | hb
  · obtain ⟨o, h1, h2⟩ := h.scel rb hb
    exact grown_same hg (fun q e => (hr q e).1) h1 h2
  · exact hg.block rb (h.kin rb (hB rb hb)) (fun e => (hr rb e.symm).2 (hB rb hb))
/-- what lies beyond may turn -/
theorem Step.grown {w1 : World} {S1 : Nat → Prop} {m1 : Map} (h : SR w S K m H) (st : Step K w S m w1 S1 m1) {w' : World} {row : Option Nat} (hg : w1.grownBy w' row) (hr : ∀ q, row = some q → w.heap.size ≤ q) : Step K w S m w' S1 m1 := by
  refine ⟨hg.os.trans st.os, hg.tape.trans st.tape, hg.output.trans st.output, Nat.le_trans st.size hg.size, st.sub, st.fresh, fun rb hb => ?_, st.ext, ⟨Nat.le_trans st.size hg.size, fun k o hk ho => ?_⟩⟩
  · have hlt : rb < w.heap.size := hb.elim (h.sub rb) (h.kin rb)
    rw [hg.block rb (Nat.lt_of_lt_of_le hlt st.size) (fun e => by have := hr rb e.symm; omega)]
    exact st.pres rb hb
  · have hlt : k < w.heap.size := (Array.getElem?_eq_some_iff.1 hk).1
    rw [hg.block k (Nat.lt_of_lt_of_le hlt st.size) (fun e => by have := hr k e.symm; omega)]
    exact st.oth.same k o hk ho
end

/-! ### a range over a function whose elements are known -/
/-- What a function hands on, one by one: N times, the k-th time what R says, as long as it is let go on; T stays from round to round. -/
def SeqRun (P : Program) (g : Nat) (lb : Array Value) (N : Nat) (R : Nat → World → Array Value → Prop) (T : Nat → Prop) (w : World) : Prop :=
  ∀ (n l : Nat) (J : Nat → World → Prop) (Jx : World → Prop),
    (∀ k W W' row, J k W → W.grownBy W' row → (∀ r, row = some r → w.heap.size ≤ r ∧ ∃ o : Obj, W.heap[r]? = some o ∧ o.isWalk = true) → J k W') →
    (∀ W W' row, Jx W → W.grownBy W' row → (∀ r, row = some r → w.heap.size ≤ r ∧ ∃ o : Obj, W.heap[r]? = some o ∧ o.isWalk = true) → Jx W') →
    (∀ k x W1, k < N → R k W1 x → J k W1 → YieldAt Fence.wide (n - 1) P l x W1 fun e W' =>
      (e = .returned (.bool true) ∧ J (k + 1) W' ∧ ∀ rb, T rb → W'.heap[rb]? = W1.heap[rb]?) ∨ (e = .returned (.bool false) ∧ Jx W')) →
    J 0 w → CallsIn Fence.wide n P g (#[.func (.yield l) #[] #[]] ++ lb) w fun e W' => (∃ v, e = .returned v) ∧ (J N W' ∨ Jx W')

/-- how a round may be left -/
def rpost (T : Nat → Prop) (I : World → Prop) (Ix : Code → World → Prop) (W : World) : Exit → Act → World → Prop
  | .normal, _, W' => KeepsOthers W W' ∧ (∀ rb, T rb → W'.heap[rb]? = W.heap[rb]?) ∧ I W'
  | .ret, _, W' => KeepsOthers W W' ∧ Ix .ret W'
  | .exit id, _, W' => KeepsOthers W W' ∧ Ix (.exit id) W'
  | _, _, _ => False
abbrev mark (D : Nat) : Deferred := { target := .collected D, args := #[] }

theorem range_fw {P : Program} {n : Nat} {g : Operand} {ps : Array Tmp} {assign body : Code} {Q : Exit → Act → World → Prop} {a : Act} {w : World} {gf : Nat} {lb : Array Value}
    (hg : a.eval g = .func (.func gf) #[] lb) (eg : ∀ args w, (callFunc gf args).run P w = .ok (.enter gf args) w)
    {N : Nat} {R : Nat → World → Array Value → Prop} {T : Nat → Prop} (hT : ∀ rb, T rb → rb < w.heap.size)
    (hseq : ∀ o1 o2 : Obj, o1.isCells = false → o2.isCells = false → SeqRun P gf lb N R T ((w.alloc o1).alloc o2))
    (I : Nat → World → Prop) (Ix : Code → World → Prop)
    (hI : ∀ k W W' row, I k W → W.grownBy W' row → (∀ r, row = some r → w.heap.size ≤ r ∧ ∃ o : Obj, W.heap[r]? = some o ∧ o.isCells = false) → I k W')
    (hIx : ∀ c W W' row, Ix c W → W.grownBy W' row → (∀ r, row = some r → w.heap.size ≤ r ∧ ∃ o : Obj, W.heap[r]? = some o ∧ o.isCells = false) → Ix c W')
    (h0 : I 0 w)
    (hround : ∀ (n l k : Nat) (x : Array Value) (W : World), k < N → R k W x → I k W → w.heap.size ≤ l → (∃ o : Obj, W.heap[l]? = some o ∧ o.isCells = false) →
      x.size = ps.size ∧ assign.wpIn (Fw (some l)) n P (Exit.then (fun a1 Wa => KeepsOthers W Wa ∧ (∀ rb, T rb → Wa.heap[rb]? = W.heap[rb]?) ∧
        ∀ Wb, Wa.grownBy Wb (some l) → body.wpIn (Fw (some l)) n P (rpost T (I (k + 1)) Ix Wb) a1 Wb) (fun _ _ _ => False))
        { tmps := (ps.zip x).foldl (fun t (p, v) => t.setIfInBounds p v) a.tmps, defers := [] } W)
    (hdone : ∀ (D : Nat) (W : World), w.heap.size ≤ D → I N W → W.heap[D]? = some (.deferred (some [])) → Q .normal { a with defers := mark D :: a.defers } W)
    (hstop : ∀ (D : Nat) (c : Code) (W : World), w.heap.size ≤ D → Ix c W → W.heap[D]? = some (.deferred (some [])) → c.wpIn Fence.wide n P Q { a with defers := mark D :: a.defers } W) :
    (Code.rangeFunc g ps assign body).wpIn Fence.wide n P Q a w := by
  refine wpIn_rangeFunc ?_
  intro fn hfn
  obtain ⟨rec, hrec⟩ : ∃ rec : LoopState → Option Code → Loop, rec = fun st pe => { state := st, pending := pe, fn, tmps := a.tmps, params := ps, assign, body, defers := w.heap.size } := ⟨_, rfl⟩
  obtain ⟨W1, hW1⟩ : ∃ W1, (w.alloc (.deferred (some []))).alloc (.loop (rec .ready none)) = W1 := ⟨_, rfl⟩
  have hL1 : W1.heap[w.heap.size + 1]? = some (.loop (rec .ready none)) := by
    rw [← hW1]; have := World.alloc_heap_new (w.alloc (.deferred (some []))) (.loop (rec .ready none)); rwa [World.size_alloc] at this
  have hK1 : W1.heap[w.heap.size]? = some (.deferred (some [])) := by
    rw [← hW1]; exact (RowKit.Below.heap_alloc _ _ _ (by simp)).trans (World.alloc_heap_new w _)
  have hsz : W1.heap.size = w.heap.size + 2 := by rw [← hW1]; simp
  have hI1 : I 0 W1 := by
    rw [← hW1]
    exact hI 0 _ _ none (hI 0 _ _ none h0 (World.grownBy_alloc w _ none) (fun r e => by cases e)) (World.grownBy_alloc _ _ none) (fun r e => by cases e)
  refine ⟨w.heap.size + 1, [mark w.heap.size], W1, { target := .fn (.func gf) lb, args := #[.func (.yield (w.heap.size + 1)) #[] #[]] }, W1, gf,
    #[.func (.yield (w.heap.size + 1)) #[] #[]] ++ lb, W1, ?_, ?_, fun _ _ => trivial, ?_, fun q => by simp [Fence.wide] at q, ?_⟩
  · rw [← hW1, hrec]; exact run_enterLoop_outer _ _ _ _ _
  · simp only [resolve, hg]
    simp [go_sem]
  · simp [invoke, go_sem, eg]
  · have hs := hseq (.deferred (some [])) (.loop (rec .ready none)) rfl rfl
    rw [hW1] at hs
    have hwk : ∀ {A B : World} {row : Option Nat}, (∀ r, row = some r → W1.heap.size ≤ r ∧ ∃ o : Obj, A.heap[r]? = some o ∧ o.isWalk = true) → (∀ r, row = some r → w.heap.size ≤ r ∧ ∃ o : Obj, A.heap[r]? = some o ∧ o.isCells = false) :=
      fun hr r e => by obtain ⟨q, o, ho, hw⟩ := hr r e; exact ⟨by omega, o, ho, Obj.not_cells_of_walk hw⟩
    have keep : ∀ {A B : World} {row : Option Nat} {k : Nat} {o : Obj}, A.grownBy B row → (∀ r, row = some r → W1.heap.size ≤ r ∧ ∃ o : Obj, A.heap[r]? = some o ∧ o.isWalk = true) → k < W1.heap.size → A.heap[k]? = some o → B.heap[k]? = some o :=
      fun hgr hr hk h => (hgr.block _ (Array.getElem?_eq_some_iff.1 h).1 (fun e => by have := (hr _ e.symm).1; omega)).trans h
    refine (hs _ (w.heap.size + 1) (fun k W => I k W ∧ W.heap[w.heap.size + 1]? = some (.loop (rec .ready none)) ∧ W.heap[w.heap.size]? = some (.deferred (some [])))
      (fun W => ∃ c, Ix c W ∧ W.heap[w.heap.size + 1]? = some (.loop (rec .done (some c))) ∧ W.heap[w.heap.size]? = some (.deferred (some [])))
      (fun k A B row h hgr hr => ⟨hI k A B row h.1 hgr (hwk (B := B) hr), keep hgr hr (by omega) h.2.1, keep hgr hr (by omega) h.2.2⟩)
      (fun A B row h hgr hr => let ⟨c, h1, h2, h3⟩ := h; ⟨c, hIx c A B row h1 hgr (hwk (B := B) hr), keep hgr hr (by omega) h2, keep hgr hr (by omega) h3⟩)
      ?_ ⟨hI1, hL1, hK1⟩).mono ?_
    · rintro k x W hkN hx ⟨hi, hl, hk⟩
      have hy := run_yield (P := P) (args := x) hl (by rw [hrec]; exact (hround 0 (w.heap.size + 1) k x W hkN hx hi (by omega) ⟨_, hl, rfl⟩).1)
      rw [hrec] at hy
      refine ⟨fn, _, assign, body, hy, roundIn_of_wpIn hfn (wpIn_mono (hround _ (w.heap.size + 1) k x W hkN hx hi (by omega) ⟨_, hl, rfl⟩).2 (fun e a1 Wa q => ?_))⟩
      cases e <;> first | exact q | skip
      obtain ⟨k1, t1, hb⟩ := q
      have hla := k1.same _ _ hl rfl
      have hka := k1.same _ _ hk rfl
      refine ⟨_, run_beginRound hla (by rw [hrec]), ?_⟩
      have hlt : w.heap.size + 1 < Wa.heap.size := (Array.getElem?_eq_some_iff.1 hla).1
      obtain ⟨Wb, hWb⟩ : ∃ Wb, Wa.putObj (w.heap.size + 1) (.loop { rec .ready none with state := .busy }) = Wb := ⟨_, rfl⟩
      have hlb : Wb.heap[w.heap.size + 1]? = some (.loop { rec .ready none with state := .busy }) := by rw [← hWb]; exact World.putObj_heap_same hlt
      have hkb : Wb.heap[w.heap.size]? = some (.deferred (some [])) := by rw [← hWb]; exact (World.putObj_heap_other (by omega)).trans hka
      have hgb : Wa.grownBy Wb (some (w.heap.size + 1)) := by rw [← hWb]; exact grownBy_putObj' ..
      rw [hWb]
      refine wpIn_mono (hb Wb hgb) (fun e a3 W3 hp => ?_)
      have fin : ∀ jump, KeepsOthers Wb W3 →
          (Instr.endRound (w.heap.size + 1) jump).run P W3 = .ok (.bool jump.isNone) (W3.putObj (w.heap.size + 1) (.loop (rec (if jump.isNone then .ready else .done) jump))) ∧
          W3.grownBy (W3.putObj (w.heap.size + 1) (.loop (rec (if jump.isNone then .ready else .done) jump))) (some (w.heap.size + 1)) ∧
          W3.heap[w.heap.size + 1]? = some (.loop { rec .ready none with state := .busy }) ∧
          (W3.putObj (w.heap.size + 1) (.loop (rec (if jump.isNone then .ready else .done) jump))).heap[w.heap.size + 1]? = some (.loop (rec (if jump.isNone then .ready else .done) jump)) ∧
          (W3.putObj (w.heap.size + 1) (.loop (rec (if jump.isNone then .ready else .done) jump))).heap[w.heap.size]? = some (.deferred (some [])) := fun jump hk3 => by
        have hl3 := hk3.same _ _ hlb rfl
        have := run_endRound (P := P) jump hl3
        rw [hrec] at this ⊢
        exact ⟨this, grownBy_putObj' .., by rw [hrec] at hl3; exact hl3, World.putObj_heap_same (Array.getElem?_eq_some_iff.1 hl3).1, (World.putObj_heap_other (by omega)).trans (hk3.same _ _ hkb rfl)⟩
      have rowOK : ∀ {A : World} {o : Obj}, A.heap[w.heap.size + 1]? = some o → o.isCells = false → ∀ r, some (w.heap.size + 1) = some r → w.heap.size ≤ r ∧ ∃ o : Obj, A.heap[r]? = some o ∧ o.isCells = false :=
        fun h hc r e => by cases e; exact ⟨by omega, _, h, hc⟩
      cases e with
      | normal =>
        obtain ⟨hk3, ht3, hi3⟩ := hp
        obtain ⟨hr, hg3, hl3, hl4, hk4⟩ := fin none hk3
        refine ⟨_, _, hr, .inl ⟨rfl, ⟨hI _ _ _ _ hi3 hg3 (rowOK hl3 rfl), hl4, hk4⟩, fun rb q => ?_⟩⟩
        have := hT rb q
        rw [World.putObj_heap_other (by omega), ht3 rb q, ← hWb, World.putObj_heap_other (by omega), t1 rb q]
      | ret =>
        obtain ⟨hk3, hi3⟩ := hp
        obtain ⟨hr, hg3, hl3, hl4, hk4⟩ := fin (some .ret) hk3
        exact ⟨_, _, hr, .inr ⟨rfl, .ret, hIx _ _ _ _ hi3 hg3 (rowOK hl3 rfl), hl4, hk4⟩⟩
      | exit id =>
        obtain ⟨hk3, hi3⟩ := hp
        obtain ⟨hr, hg3, hl3, hl4, hk4⟩ := fin (some (.exit id)) hk3
        exact ⟨_, _, hr, .inr ⟨rfl, .exit id, hIx _ _ _ _ hi3 hg3 (rowOK hl3 rfl), hl4, hk4⟩⟩
      | goto t => exact hp.elim
      | panic ch => exact hp.elim
      | outgrown => exact hp.elim
    · rintro e W2 ⟨⟨v, rfl⟩, (⟨hi, hl, hk⟩ | ⟨c, hi, hl, hk⟩)⟩
      · exact ⟨none, _, by have := run_endLoop (P := P) hl (by rw [hrec]; simp); rw [hrec] at this; exact this, hdone _ _ (Nat.le_refl _) (hI _ _ _ _ hi (grownBy_putObj' ..) (fun r e => by cases e; exact ⟨by omega, _, hl, rfl⟩)) ((World.putObj_heap_other (by omega)).trans hk)⟩
      · exact ⟨some c, _, by have := run_endLoop (P := P) hl (by rw [hrec]; simp); rw [hrec] at this; exact this, hstop _ c _ (Nat.le_refl _) (hIx _ _ _ _ hi (grownBy_putObj' ..) (fun r e => by cases e; exact ⟨by omega, _, hl, rfl⟩)) ((World.putObj_heap_other (by omega)).trans hk)⟩
end Go.Proofs.Ytcamcfplcoklkaa.Iv

namespace Go.Proofs.Ytcamcfplcoklkaa.Iv
open Go
set_option linter.unusedVariables false
set_option linter.unusedSimpArgs false
section
variable {P : Program} {K B : Nat → Prop} {w : World} {S : Nat → Prop} {m : Map} {H : Heap}

/-- The slots read as they say. -/
structure Fit (K B : Nat → Prop) (env : List V) (a : Act) (w : World) (S : Nat → Prop) (m : Map) (H : Heap) : Prop where
  sr : SR w S K m H
  len : a.tmps.size = env.length
  tr : ∀ t, VR w S B m (env.getD t .und) (a.tmps.getD t undef)

theorem Fit.eval {env : List V} {a : Act} (h : Fit K B env a w S m H) (x : Operand) : VR w S B m (evOperand env x) (a.eval x) := by
  cases x with
  | tmp t => exact h.tr t
  | const v => exact ofVal_VR v
  | func f => exact VR.fn_mk (f := f) (cs := []) (xs := []) trivial
  | global g => exact .und _

theorem Fit.put {env env' : List V} {a : Act} (h : Fit K B env a w S m H) (hB : ∀ rb, B rb → K rb) {dst : Option Tmp} {v : V} (he : setV env dst v = some env') {x : Value} {w' : World} {S' : Nat → Prop} {m' : Map} {H' : Heap}
    (st : Step K w S m w' S' m') (sr : SR w' S' K m' H') (hv : VR w' S' B m' v x) : Fit K B env' (a.put dst x) w' S' m' H' := by
  cases dst with
  | none =>
    simp only [setV, Option.some.injEq] at he; subst he
    exact ⟨sr, h.len, fun t => (h.tr t).mono st hB⟩
  | some d =>
    simp only [setV] at he
    split at he
    · rename_i hd
      cases he
      refine ⟨sr, by simp [Act.put, h.len], fun t => ?_⟩
      have hl := h.len
      by_cases e : t = d
      · subst e
        have h1 : (env.set t v).getD t .und = v := by simp [List.getD, hd]
        have h2 : (a.put (some t) x).tmps.getD t undef = x := by simp [Act.put, Array.getElem?_setIfInBounds, hl, hd]
        rw [h1, h2]; exact hv
      · have h1 : (env.set d v).getD t .und = env.getD t .und := by simp [List.getD, List.getElem?_set_ne (Ne.symm e)]
        have h2 : (a.put (some d) x).tmps.getD t undef = a.tmps.getD t undef := by simp [Act.put, Array.getElem?_setIfInBounds, Ne.symm e]
        rw [h1, h2]; exact (h.tr t).mono st hB
    · cases he

theorem VR.tup0 {w : World} {S B : Nat → Prop} {m : Map} {x : Value} (h : VR w S B m (.tup []) x) : ∃ vs, x = .tuple vs := by
  obtain ⟨xs, e, _⟩ := h.tup_inv
  exact ⟨_, e⟩
theorem wanted_of {ops : Array Oper} {env : List V} {a : Act} (h : Fit K B env a w S m H) {o : Oper} {b : Bool} (he : wantV ops env o.guard = some b) : Region.wanted o (yielded ops a.tmps) = b := by
  unfold Region.wanted
  unfold wantV at he
  cases hg : o.guard with
  | none => rw [hg] at he; simp at he; subst he; rfl
  | some p =>
    obtain ⟨j, want⟩ := p
    rw [hg] at he
    simp only at he ⊢
    split at he
    · rename_i t ht
      split at he
      · rename_i c hc
        cases he
        have hx := h.tr t
        rw [hc] at hx
        have hx := hx.bool_inv
        have hlt : t < a.tmps.size := by
          rw [h.len]
          rcases Nat.lt_or_ge t env.length with q | q
          · exact q
          · simp [List.getD, List.getElem?_eq_none q] at hc
        have : a.tmps[t]? = some (.bool c) := by
          simp [Array.getD_eq_getD_getElem?, hlt] at hx ⊢
          exact hx
        simp [yielded, ht, this]
      · rename_i hc
        cases he
        have hx := h.tr t
        rw [hc] at hx
        obtain ⟨vs, hv⟩ := hx.tup0
        have : yielded ops a.tmps j = none := by
          cases hq : a.tmps[t]? with
          | none => simp [yielded, ht, hq]
          | some x =>
            have : a.tmps.getD t undef = x := by
              rw [Array.getD_eq_getD_getElem?, hq]; rfl
            rw [this] at hv
            subst hv
            simp [yielded, ht, hq]
        rw [this]; rfl
      · cases he
    · cases he

/-- One operation of a region, whatever comes behind. -/
theorem oper_sound {call : Nat → List V → Heap → Option (V × Heap)} {pol : Nat → Pol} (hrun : RunOK P call) (hB : ∀ rb, B rb → K rb) {ops : Array Oper} {k : Nat} {o : Oper} {env env' : List V} {a : Act}
    (h : Fit K B env a w S m H) {out : Out} (he : evOper P call pol ops k o env H = some out) (hs : setV env o.dst out.v = some env') (hk : ops[k]? = some o) {r : Option Nat} {n : Nat} {Q : Exit → Act → World → Prop} {next : Act → World → Prop}
    (hn : ∀ a' w' S' m', Step K w S m w' S' m' → Fit K B env' a' w' S' m' (H.sets out.ups) → a'.defers = a.defers → next a' w') : wpOpIn (Fw r) n P ops Q k next a w := by
  have put_defers : ∀ x, (a.put o.dst x).defers = a.defers := fun x => by cases o.dst <;> rfl
  unfold wpOpIn
  simp only [hk]
  unfold evOper at he
  split at he
  · rename_i hw
    rw [if_pos (wanted_of h hw)]
    refine oper_fw (fun c hc => ?_) (evOp_sound hrun h.sr hB h.eval he rfl next Q (fun x w' S' m' st sr hv => hn _ _ _ _ st (h.put hB hs st sr hv) (put_defers x)))
    rw [hc] at he
    simp [evOp] at he
  · rename_i hw
    cases he
    rw [if_neg (by rw [wanted_of h hw]; simp)]
    exact ⟨fun _ _ => trivial, hn _ _ _ _ (Step.refl ..) (h.put hB hs (Step.refl ..) h.sr (.tup [] #[] rfl (fun j c x hj => by simp at hj))) (put_defers _)⟩
  · cases he

theorem ops_sound {call : Nat → List V → Heap → Option (V × Heap)} {pol : Nat → Pol} (hrun : RunOK P call) (hB : ∀ rb, B rb → K rb) {ops : Array Oper} {r : Option Nat} {n : Nat} {Q : Exit → Act → World → Prop} :
    ∀ (l : List Oper) (k : Nat) (env : List V) (H : Heap) (lg : Log) {env' : List V} {H' : Heap} {lg' : Log} (a : Act) (w : World) (S : Nat → Prop) (m : Map),
      (∀ j, l[j]? = ops[k + j]?) → evOps P call pol ops l k env H lg = some (env', H', lg') → Fit K B env a w S m H →
      (∀ a' w' S' m', Step K w S m w' S' m' → Fit K B env' a' w' S' m' H' → a'.defers = a.defers → Q .normal a' w') → wpOpsIn (Fw r) n P ops Q (List.range' k l.length) a w
  | [], k, env, H, lg, env', H', lg', a, w, S, m, _, he, h, hq => by
    simp only [evOps, Option.some.injEq, Prod.mk.injEq] at he
    obtain ⟨rfl, rfl, rfl⟩ := he
    simpa [wpOpsIn] using hq a w S m (Step.refl ..) h rfl
  | o :: q, k, env, H, lg, env', H', lg', a, w, S, m, hl, he, h, hq => by
    simp only [evOps] at he
    split at he
    · rename_i v us rd ho
      split at he
      · rename_i env1 hs
        have hk : ops[k]? = some o := by simpa using (hl 0).symm
        simp only [List.length_cons, List.range'_succ]
        rw [wpOpsIn_cons]
        refine oper_sound hrun hB h ho hs hk (fun a1 w1 S1 m1 st1 h1 hd1 => ?_)
        exact ops_sound hrun hB q (k + 1) env1 _ _ a1 w1 S1 m1 (fun j => by have := hl (j + 1); simpa [Nat.add_assoc, Nat.add_comm 1 j] using this) he h1
          (fun a' w' S' m' st' h' hd' => hq a' w' S' m' (st1.trans st') h' (hd'.trans hd1))
      · cases he
    · cases he

def ExR : Ex → Exit → Prop
  | .nrm, .normal => True
  | .exit i, .exit j => i = j
  | .ret, .ret => True
  | _, _ => False

/-- What is to be done when the function returns: the marks of ranges over functions, whose rounds have deferred nothing. -/
def Marks (a : Act) (w : World) (a' : Act) (w' : World) : Prop :=
  ∃ ms : List Nat, a'.defers = ms.map mark ++ a.defers ∧ ms.Nodup ∧ ∀ D ∈ ms, w.heap.size ≤ D ∧ w'.heap[D]? = some (.deferred (some []))
theorem Marks.of_eq {a a' : Act} {w w' : World} (h : a'.defers = a.defers) : Marks a w a' w' := ⟨[], by simpa using h, List.nodup_nil, fun _ h => by cases h⟩
theorem Marks.trans {a a1 a2 : Act} {w w1 w2 : World} (h : Marks a w a1 w1) (k : Marks a1 w1 a2 w2) (hk : KeepsOthers w1 w2) (hs : w.heap.size ≤ w1.heap.size) : Marks a w a2 w2 := by
  obtain ⟨ms, h1, h2, h3⟩ := h
  obtain ⟨ns, k1, k2, k3⟩ := k
  refine ⟨ns ++ ms, by rw [k1, h1]; simp, List.nodup_append.2 ⟨k2, h2, fun x hx y hy e => ?_⟩, fun D hD => ?_⟩
  · subst e
    have := (k3 x hx).1
    have := (Array.getElem?_eq_some_iff.1 (h3 x hy).2).1
    omega
  · rcases List.mem_append.1 hD with q | q
    · exact ⟨Nat.le_trans hs (k3 D q).1, (k3 D q).2⟩
    · exact ⟨(h3 D q).1, hk.same D _ (h3 D q).2 rfl⟩

/-- What the ideal machine says of a piece of code is so. -/
def CodeOK (P : Program) (c : Code) (env : List V) (H : Heap) (ex : Ex) (env' : List V) (H' : Heap) : Prop :=
  ∀ (K B : Nat → Prop), (∀ rb, B rb → K rb) → ∀ (r : Option Nat) (n : Nat), (r = none ∨ flatC c = true) → ∀ (a : Act) (w : World) (S : Nat → Prop) (m : Map), Fit K B env a w S m H → ∀ Q : Exit → Act → World → Prop,
    (∀ e a' w' S' m', ExR ex e → Step K w S m w' S' m' → Fit K B env' a' w' S' m' H' → Marks a w a' w' → Q e a' w') → c.wpIn (Fw r) n P Q a w
/-- the same of a loop, whose rounds are counted -/
def LoopOK (P : Program) (c : Code) (env : List V) (H : Heap) (ex : Ex) (env' : List V) (H' : Heap) : Prop :=
  ∃ j, ∀ (K B : Nat → Prop), (∀ rb, B rb → K rb) → ∀ (r : Option Nat) (n : Nat), (r = none ∨ flatC c = true) → ∀ (a : Act) (w : World) (S : Nat → Prop) (m : Map), Fit K B env a w S m H → ∀ Q : Exit → Act → World → Prop,
    (∀ e a' w' S' m', ExR ex e → Step K w S m w' S' m' → Fit K B env' a' w' S' m' H' → Marks a w a' w' → Q e a' w') → roundsW r n P c Q j a w
/-- What the ideal machine says of a region that draws its order is so. -/
def DrawOK (P : Program) (call : Nat → List V → Heap → Option (V × Heap)) (pol : Nat → Pol) (id : Nat) (ops : Array Oper) : Prop :=
  ∀ (env : List V) (H : Heap) (env' : List V) (H' : Heap) (lg : Log), evOps P call pol ops ops.toList 0 env H [] = some (env', H', lg) → logOk ops lg = true →
    CodeOK P (.region id ops true) env H .nrm env' H'

/-- the regions of a piece of code that draw -/
def drawn : Code → List (Nat × Array Oper)
  | .region id ops true => [(id, ops)]
  | .seq a b => drawn a ++ drawn b
  | .cond _ a b => drawn a ++ drawn b
  | .block _ c => drawn c
  | .scope c => drawn c
  | .loop c => drawn c
  | .rangeFunc _ _ a b => drawn a ++ drawn b
  | _ => []

/-- What hands on its elements one by one does so. -/
def SeqOK (P : Program) (pol : Nat → Pol) : Prop :=
  ∀ (g : Nat) (cap : List V) (items : List (List V)), seqOf pol g cap = some items → Enters P g ∧ ∀ (w : World) (S B : Nat → Prop) (m : Map) (lb : List Value), (∀ rb, S rb → ∃ o : Obj, w.heap[rb]? = some o ∧ o.isCells = true) → (∀ rb, B rb → rb < w.heap.size) → All2 (VR w S B m) cap lb →
    SeqRun P g lb.toArray items.length (fun k W x => ∃ it x0, items[k]? = some it ∧ x = x0.toArray ∧ All2 (VR W S B m) it x0) (fun rb => S rb ∨ B rb) w

/-- the jump that is left behind -/
def jumpOf : Ex → Code
  | .ret => .ret
  | .exit i => .exit i
  | .nrm => .skip

theorem enters_run {P : Program} {f : Nat} (h : Enters P f) (args : Array Value) (w : World) : (callFunc f args).run P w = .ok (.enter f args) w := by
  obtain ⟨fn, f1, f2, f3⟩ := h
  have hnone : fn.body.isNone = false := by cases hb : fn.body <;> simp_all
  have f3' : ¬ (fn.name = "runtime.NumGoroutine") := by simpa using f3
  simp only [callFunc, run_program, f1, Sem.run_bind, Result.andThen_ok]
  simp [f3', hnone]

theorem put_all : ∀ {ps : List Nat} {it env e : List V} {x : List Value} {t : Array Value}, putAll ps it env = some e → All2 (VR w S B m) it x → t.size = env.length → (∀ q, VR w S B m (env.getD q .und) (t.getD q undef)) →
    x.length = ps.length ∧ e.length = env.length ∧ ((ps.zip x).foldl (fun t (p, v) => t.setIfInBounds p v) t).size = e.length ∧ ∀ q, VR w S B m (e.getD q .und) (((ps.zip x).foldl (fun t (p, v) => t.setIfInBounds p v) t).getD q undef)
  | [], [], env, e, [], t, he, _, hl, ht => by simp only [putAll, Option.some.injEq] at he; subst he; exact ⟨rfl, rfl, hl, ht⟩
  | [], [], _, _, _ :: _, _, _, hx, _, _ => hx.elim
  | [], _ :: _, _, _, _, _, he, _, _, _ => by simp [putAll] at he
  | _ :: _, [], _, _, _, _, he, _, _, _ => by simp [putAll] at he
  | _ :: _, _ :: _, _, _, [], _, _, hx, _, _ => hx.elim
  | p :: ps, i :: it, env, e, v :: x, t, he, hx, hl, ht => by
    simp only [putAll] at he
    obtain ⟨q1, q2, q3, q4⟩ := put_all (t := t.setIfInBounds p v) he hx.2 (by simp [hl]) (fun q => by
      by_cases e1 : q = p
      · subst e1
        by_cases hlt : q < env.length
        · have h1 : (env.set q i).getD q .und = i := by simp [List.getD, hlt]
          have h2 : (t.setIfInBounds q v).getD q undef = v := by simp [Array.getElem?_setIfInBounds, hl, hlt]
          rw [h1, h2]; exact hx.1
        · have h1 : (env.set q i).getD q .und = .und := by simp [List.getD, hlt]
          rw [h1]; exact .und _
      · have h1 : (env.set p i).getD q .und = env.getD q .und := by simp [List.getD, List.getElem?_set_ne (Ne.symm e1)]
        have h2 : (t.setIfInBounds p v).getD q undef = t.getD q undef := by simp [Array.getElem?_setIfInBounds, Ne.symm e1]
        rw [h1, h2]; exact ht q)
    exact ⟨by simp [q1], by simpa using q2, q3, q4⟩

theorem stepR_scope {b : Frame} {k : List Item} {cs : List Frame} {a : Act} {c : Code} : step P (lone (b.atR a (.code (.scope c) :: k)) cs w) = .next (lone (b.atR a (.code c :: .inScope c :: k)) cs w) :=
  step_lone_go (by simp [stepG, stepG.exec, Frame.atR])
theorem stepR_inScope {b : Frame} {k : List Item} {cs : List Frame} {a : Act} {c : Code} : step P (lone (b.atR a (.inScope c :: k)) cs w) = .next (lone (b.atR a k) cs w) :=
  step_lone_go (by simp [stepG, stepG.exec, Frame.atR])
theorem wpIn_scope {F : Fence} {n : Nat} {Q : Exit → Act → World → Prop} {a : Act} {c : Code} (h : c.wpIn F n P (Exit.noGoto Q) a w) : (Code.scope c).wpIn F n P Q a w := by
  intro b k cs hro hb hr
  have h0 : (lone (b.atR a (.code (.scope c) :: k)) cs w).fenced P F := fenced_calm hb hr rfl
  obtain ⟨e, a₁, w₁, hq, harr⟩ := h b (.inScope c :: k) cs hro hb hr
  cases e with
  | normal => exact ⟨.normal, a₁, w₁, hq, .head h0 stepR_scope (StepsIn.trans harr (.one (fenced_calm hb hr rfl) stepR_inScope))⟩
  | exit id =>
    have hx : exitTo id (.inScope c :: k) = exitTo id k := by simp [exitTo]
    exact ⟨_, a₁, w₁, hq, fun k' hk => .head h0 stepR_scope (harr.1 k' (by rw [hx]; exact hk)), fun hr' hk => let ⟨k₁, h1, h2⟩ := harr.2 hr' (by rw [hx]; exact hk); ⟨k₁, h1, .head h0 stepR_scope h2⟩⟩
  | goto l => exact hq.elim
  | ret => exact ⟨_, a₁, w₁, hq, .of_steps (.one h0 stepR_scope) harr⟩
  | panic ch => exact ⟨_, a₁, w₁, hq, .of_steps (.one h0 stepR_scope) harr⟩
  | outgrown => exact ⟨_, a₁, w₁, hq, .of_steps (.one h0 stepR_scope) harr⟩

theorem evC_sound {call : Nat → List V → Heap → Option (V × Heap)} {pol : Nat → Pol} (hrun : RunOK P call) (hseq : SeqOK P pol) {again : Code → List V → Heap → Res} :
    ∀ (c : Code) (env : List V) (H : Heap) {ex : Ex} {env' : List V} {H' : Heap}, (∀ p ∈ drawn c, DrawOK P call pol p.1 p.2) →
      (∀ c' env H ex env' H', (∀ p ∈ drawn c', p ∈ drawn c) → again (.loop c') env H = some (ex, env', H') → LoopOK P c' env H ex env' H') →
      evC P call pol again c env H = some (ex, env', H') → CodeOK P c env H ex env' H' ∧ ∀ x, c = .loop x → LoopOK P x env H ex env' H' := by
  intro c
  induction c with
  | skip =>
    intro env H ex env' H' _ _ he
    simp only [evC, Option.some.injEq, Prod.mk.injEq] at he
    obtain ⟨rfl, rfl, rfl⟩ := he
    exact ⟨fun K B hB r n hr a w S m h Q hq => wpIn_skip (hq _ a w S m trivial (Step.refl ..) h (.of_eq rfl)), fun x e => by cases e⟩
  | label l =>
    intro env H ex env' H' _ _ he
    simp only [evC, Option.some.injEq, Prod.mk.injEq] at he
    obtain ⟨rfl, rfl, rfl⟩ := he
    exact ⟨fun K B hB r n hr a w S m h Q hq => wpIn_label (hq _ a w S m trivial (Step.refl ..) h (.of_eq rfl)), fun x e => by cases e⟩
  | ret =>
    intro env H ex env' H' _ _ he
    simp only [evC, Option.some.injEq, Prod.mk.injEq] at he
    obtain ⟨rfl, rfl, rfl⟩ := he
    exact ⟨fun K B hB r n hr a w S m h Q hq => wpIn_ret (hq _ a w S m trivial (Step.refl ..) h (.of_eq rfl)), fun x e => by cases e⟩
  | exit id =>
    intro env H ex env' H' _ _ he
    simp only [evC, Option.some.injEq, Prod.mk.injEq] at he
    obtain ⟨rfl, rfl, rfl⟩ := he
    exact ⟨fun K B hB r n hr a w S m h Q hq => wpIn_exit (hq _ a w S m rfl (Step.refl ..) h (.of_eq rfl)), fun x e => by cases e⟩
  | goto l => intro env H ex env' H' _ _ he; simp [evC] at he
  | refuse why => intro env H ex env' H' _ _ he; simp [evC] at he
  | rangeFunc g ps as body iha ihb =>
    intro env H ex env' H' hd hag he
    refine ⟨?_, fun x e => by cases e⟩
    simp only [evC] at he
    have dx : ∀ p ∈ drawn as, p ∈ drawn (.rangeFunc g ps as body) := fun p hp => by simp [drawn, hp]
    have dy : ∀ p ∈ drawn body, p ∈ drawn (.rangeFunc g ps as body) := fun p hp => by simp [drawn, hp]
    split at he
    · rename_i gf cap hgv
      split at he
      · rename_i items hit
        split at he
        · rename_i hfl
          simp only [Bool.and_eq_true] at hfl
          intro K B hB r n hr a w S m h Q hq
          have hrn : r = none := hr.elim id (fun q => by simp [flatC] at q)
          subst hrn
          have hx := h.eval g
          rw [hgv] at hx
          obtain ⟨lb, hge, hlb⟩ := hx.fn_inv
          obtain ⟨hent, hsq⟩ := hseq gf cap items hit
          have hlt : ∀ rb, S rb ∨ B rb → rb < w.heap.size := fun rb q => q.elim (h.sr.sub rb) (fun q => h.sr.kin rb (hB rb q))
          obtain ⟨rnd, hrnd⟩ : ∃ rnd : List V → Heap → Res, rnd = twoC ps.toList env (evC P call pol again as) (evC P call pol again body) := ⟨_, rfl⟩
          rw [← hrnd] at he
          -- the elements
          have same2 : ∀ (o1 o2 : Obj) (rb : Nat), rb < w.heap.size → ((w.alloc o1).alloc o2).heap[rb]? = w.heap[rb]? := fun o1 o2 rb q => by
            rw [RowKit.Below.heap_alloc _ _ _ (by simp; omega), RowKit.Below.heap_alloc _ _ _ q]
          have hrun' : ∀ o1 o2 : Obj, SeqRun P gf lb.toArray items.length (fun k W x => ∃ it x0, items[k]? = some it ∧ x = x0.toArray ∧ All2 (VR W S B m) it x0) (fun rb => S rb ∨ B rb) ((w.alloc o1).alloc o2) := fun o1 o2 =>
            hsq _ S B m lb (fun rb q => by rw [same2 o1 o2 rb (hlt rb (.inl q))]; exact h.sr.scel rb q) (fun rb q => by have := hlt rb (.inr q); simp; omega)
              (hlb.imp' (fun c x _ r => r.mono0 (fun rb q => same2 o1 o2 rb (hlt rb q)) (fun _ q => q) (fun i im q => ⟨im, q, Nat.le_refl _, fun _ => rfl⟩)))
          refine range_fw (gf := gf) (lb := lb.toArray) hge (enters_run hent) (N := items.length) (T := fun rb => S rb ∨ B rb) hlt
            (fun o1 o2 _ _ => hrun' o1 o2)
            (fun k W => ∃ Hk S' m', evItems env rnd (items.drop k) Hk = some (ex, env', H') ∧ Step K w S m W S' m' ∧ SR W S' K m' Hk)
            (fun c W => ∃ S' m', env' = env ∧ ex ≠ .nrm ∧ jumpOf ex = c ∧ Step K w S m W S' m' ∧ SR W S' K m' H')
            (fun k A A' row q hgr hrow => ?_) (fun c A A' row q hgr hrow => ?_) ⟨H, S, m, he, Step.refl .., h.sr⟩ ?_ ?_ ?_
          · obtain ⟨Hk, S', m', q1, q2, q3⟩ := q
            exact ⟨Hk, S', m', q1, q2.grown h.sr hgr (fun r e => (hrow r e).1), q3.grown hgr (fun r e => (hrow r e).2)⟩
          · obtain ⟨S', m', q1, q2, q3, q4, q5⟩ := q
            exact ⟨S', m', q1, q2, q3, q4.grown h.sr hgr (fun r e => (hrow r e).1), q5.grown hgr (fun r e => (hrow r e).2)⟩
          · rintro n' l k x W hk ⟨it0, x0, hit0, rfl, hv0⟩ ⟨Hk, S', m', hev, st, sr⟩ hll ⟨ol, hol, holc⟩
            · rw [List.getElem?_eq_getElem hk] at hit0
              rw [List.drop_eq_getElem_cons hk] at hev
              generalize items[k] = it at hev hit0
              cases hit0
              simp only [evItems] at hev
              obtain ⟨exb, eb, H2, hr2, hev⟩ : ∃ exb eb H2, rnd it0 Hk = some (exb, eb, H2) ∧ (match (some (exb, eb, H2) : Res) with | some (.nrm, _, H) => evItems env rnd (items.drop (k + 1)) H | some (ex, _, H) => some (ex, env, H) | none => none) = some (ex, env', H') := by
                cases hq2 : rnd it0 Hk with
                | none => rw [hq2] at hev; cases hev
                | some t => obtain ⟨exb, eb, H2⟩ := t; rw [hq2] at hev; exact ⟨exb, eb, H2, rfl, hev⟩
              rw [hrnd] at hr2
              unfold twoC at hr2
              split at hr2
              · rename_i e hpe
                split at hr2
                · rename_i e1 H1 hva
                  have hvals : All2 (VR W S' B m') it0 x0 := hv0.imp' (fun c x _ r => r.mono0 (fun _ _ => rfl) st.sub st.ext)
                  obtain ⟨p1, p2, p3, p4⟩ := put_all (t := a.tmps) hpe hvals h.len (fun q => (h.tr q).mono st hB)
                  have hfold : (ps.zip x0.toArray).foldl (fun t (p, v) => t.setIfInBounds p v) a.tmps = (ps.toList.zip x0).foldl (fun t (p, v) => t.setIfInBounds p v) a.tmps := by
                    rw [← Array.foldl_toList, Array.toList_zip]
                  refine ⟨by simpa using p1, ?_⟩
                  rw [hfold]
                  have fitA : Fit K B e { tmps := (ps.toList.zip x0).foldl (fun t (p, v) => t.setIfInBounds p v) a.tmps, defers := [] } W S' m' Hk := ⟨sr, p3, p4⟩
                  refine (iha e Hk (fun p hp => hd p (dx p hp)) (fun c' e h ex e' h' hp hh => hag c' e h ex e' h' (fun p hq => dx p (hp p hq)) hh) hva).1 K B hB (some l) n' (.inr hfl.1) _ W S' m' fitA _ (fun ex2 a1 Wa S2 m2 hex st2 fit2 mk => ?_)
                  cases ex2 <;> first | exact hex.elim | skip
                  have hTS : ∀ rb, S rb ∨ B rb → S' rb ∨ K rb := fun rb q => q.imp (st.sub rb) (hB rb)
                  refine ⟨st2.oth, fun rb q => st2.pres rb (hTS rb q), fun Wb hgb => ?_⟩
                  have hla := st2.oth.same l ol hol holc
                  have hnk : ¬ K l := fun q => by have := h.sr.kin l q; omega
                  have srB : SR Wb S2 K m2 H1 := fit2.sr.grown hgb (fun q e => by cases e; exact ⟨ol, hla, holc⟩)
                  have fitB : Fit K B e1 a1 Wb S2 m2 H1 := ⟨srB, fit2.len, fun t => VR.grown fit2.sr hB hgb (fun q e => by cases e; exact ⟨⟨ol, hla, holc⟩, hnk⟩) (fit2.tr t)⟩
                  refine (ihb e1 H1 (fun p hp => hd p (dy p hp)) (fun c' e h ex e' h' hp hh => hag c' e h ex e' h' (fun p hq => dy p (hp p hq)) hh) hr2).1 K B hB (some l) n' (.inr hfl.2) a1 Wb S2 m2 fitB _ (fun ex3 a3 W3 S3 m3 hex3 st3 fit3 mk3 => ?_)
                  have stAll : Step K w S m W3 S3 m3 := ((st.trans st2).grown h.sr hgb (fun q e => by cases e; exact hll)).trans st3
                  cases exb with
                  | nrm =>
                    cases ex3 <;> first | exact hex3.elim | skip
                    exact ⟨st3.oth, fun rb q => st3.pres rb ((hTS rb q).imp (st2.sub rb) id), H2, S3, m3, hev, stAll, fit3.sr⟩
                  | exit i =>
                    cases ex3 <;> first | exact hex3.elim | skip
                    simp only [Option.some.injEq, Prod.mk.injEq] at hev
                    obtain ⟨rfl, rfl, rfl⟩ := hev
                    have : i = _ := hex3
                    subst this
                    exact ⟨st3.oth, S3, m3, rfl, by simp, rfl, stAll, fit3.sr⟩
                  | ret =>
                    cases ex3 <;> first | exact hex3.elim | skip
                    simp only [Option.some.injEq, Prod.mk.injEq] at hev
                    obtain ⟨rfl, rfl, rfl⟩ := hev
                    exact ⟨st3.oth, S3, m3, rfl, by simp, rfl, stAll, fit3.sr⟩
                · cases hr2
              · cases hr2
          · rintro D W hD ⟨Hk, S', m', hev, st, sr⟩ hK
            rw [List.drop_of_length_le (Nat.le_refl _)] at hev
            simp only [evItems, Option.some.injEq, Prod.mk.injEq] at hev
            obtain ⟨rfl, rfl, rfl⟩ := hev
            exact hq .normal _ W S' m' trivial st ⟨sr, h.len, fun t => (h.tr t).mono st hB⟩ ⟨[D], rfl, by simp, fun D' hD' => by simp at hD'; subst hD'; exact ⟨hD, hK⟩⟩
          · rintro D c W hD ⟨S', m', rfl, hne, rfl, st, sr⟩ hK
            have mk : Marks a w { a with defers := mark D :: a.defers } W := ⟨[D], rfl, by simp, fun D' hD' => by simp at hD'; subst hD'; exact ⟨hD, hK⟩⟩
            cases ex with
            | nrm => exact absurd rfl hne
            | exit i => exact wpIn_exit (hq (.exit i) _ W S' m' rfl st ⟨sr, h.len, fun t => (h.tr t).mono st hB⟩ mk)
            | ret => exact wpIn_ret (hq .ret _ W S' m' trivial st ⟨sr, h.len, fun t => (h.tr t).mono st hB⟩ mk)
        · cases he
      · cases he
    · cases he
  | region id ops draw =>
    intro env H ex env' H' hd _ he
    refine ⟨?_, fun x e => by cases e⟩
    simp only [evC] at he
    split at he
    · rename_i env1 H1 lg ho
      split at he
      · cases he
      · rename_i hlg
        cases he
        cases draw with
        | true =>
          have : logOk ops lg = true := by simpa using hlg
          exact hd (id, ops) (by simp [drawn]) env H _ _ lg ho this
        | false =>
          intro K B hB r n hr a w S m h Q hq
          refine wpIn_region ?_
          have := ops_sound hrun hB ops.toList 0 env H [] a w S m (fun j => by simp) ho h (r := r) (n := n) (Q := Q) (fun a' w' S' m' st h' hdf => hq .normal a' w' S' m' trivial st h' (.of_eq hdf))
          rw [List.range_eq_range']
          simpa using this
    · cases he
  | seq x y ihx ihy =>
    intro env H ex env' H' hd hag he
    refine ⟨?_, fun x e => by cases e⟩
    simp only [evC] at he
    have dx : ∀ p ∈ drawn x, p ∈ drawn (.seq x y) := fun p hp => by simp [drawn, hp]
    have dy : ∀ p ∈ drawn y, p ∈ drawn (.seq x y) := fun p hp => by simp [drawn, hp]
    split at he
    · rename_i env1 H1 h1
      have a1 := ihx env H (fun p hp => hd p (dx p hp)) (fun c' e h ex e' h' hp hh => hag c' e h ex e' h' (fun p hq => dx p (hp p hq)) hh) h1 |>.1
      have a2 := ihy env1 H1 (fun p hp => hd p (dy p hp)) (fun c' e h ex e' h' hp hh => hag c' e h ex e' h' (fun p hq => dy p (hp p hq)) hh) he |>.1
      intro K B hB r n hr a w S m h Q hq
      refine wpIn_seq (a1 K B hB r n (hr.imp id (fun q => by simp only [flatC, Bool.and_eq_true] at q; exact q.1)) a w S m h _ (fun e a' w' S' m' hex st h' hdf => ?_))
      cases e <;> first | exact hex.elim | skip
      exact a2 K B hB r n (hr.imp id (fun q => by simp only [flatC, Bool.and_eq_true] at q; exact q.2)) a' w' S' m' h' Q (fun e a'' w'' S'' m'' hex' st' h'' hdf' => hq e a'' w'' S'' m'' hex' (st.trans st') h'' (hdf.trans hdf' st'.oth st.size))
    · rename_i hne
      have a1 := ihx env H (fun p hp => hd p (dx p hp)) (fun c' e h ex e' h' hp hh => hag c' e h ex e' h' (fun p hq => dx p (hp p hq)) hh) he |>.1
      intro K B hB r n hr a w S m h Q hq
      refine wpIn_seq (a1 K B hB r n (hr.imp id (fun q => by simp only [flatC, Bool.and_eq_true] at q; exact q.1)) a w S m h _ (fun e a' w' S' m' hex st h' hdf => ?_))
      cases e with
      | normal =>
        cases ex with
        | nrm => exact absurd he (hne _ _)
        | exit => exact hex.elim
        | ret => exact hex.elim
      | _ => exact hq _ a' w' S' m' hex st h' hdf
  | cond c x y ihx ihy =>
    intro env H ex env' H' hd hag he
    refine ⟨?_, fun x e => by cases e⟩
    simp only [evC] at he
    have dx : ∀ p ∈ drawn x, p ∈ drawn (.cond c x y) := fun p hp => by simp [drawn, hp]
    have dy : ∀ p ∈ drawn y, p ∈ drawn (.cond c x y) := fun p hp => by simp [drawn, hp]
    split at he
    · rename_i hc
      have a1 := ihx env H (fun p hp => hd p (dx p hp)) (fun c' e h ex e' h' hp hh => hag c' e h ex e' h' (fun p hq => dx p (hp p hq)) hh) he |>.1
      intro K B hB r n hr a w S m h Q hq
      have hx := h.eval c
      rw [hc] at hx
      exact wpIn_cond_true hx.bool_inv (a1 K B hB r n (hr.imp id (fun q => by simp only [flatC, Bool.and_eq_true] at q; exact q.1)) a w S m h Q hq)
    · rename_i hc
      have a1 := ihy env H (fun p hp => hd p (dy p hp)) (fun c' e h ex e' h' hp hh => hag c' e h ex e' h' (fun p hq => dy p (hp p hq)) hh) he |>.1
      intro K B hB r n hr a w S m h Q hq
      have hx := h.eval c
      rw [hc] at hx
      exact wpIn_cond_false hx.bool_inv (a1 K B hB r n (hr.imp id (fun q => by simp only [flatC, Bool.and_eq_true] at q; exact q.2)) a w S m h Q hq)
    · cases he
  | block id x ih =>
    intro env H ex env' H' hd hag he
    refine ⟨?_, fun x e => by cases e⟩
    simp only [evC] at he
    have dx : ∀ p ∈ drawn x, p ∈ drawn (.block id x) := fun p hp => by simpa [drawn] using hp
    split at he
    · rename_i j env1 H1 h1
      have a1 := ih env H (fun p hp => hd p (dx p hp)) (fun c' e h ex e' h' hp hh => hag c' e h ex e' h' (fun p hq => dx p (hp p hq)) hh) h1 |>.1
      intro K B hB r n hr a w S m h Q hq
      refine wpIn_block (a1 K B hB r n hr a w S m h _ (fun e a' w' S' m' hex st h' hdf => ?_))
      cases e <;> first | exact hex.elim | skip
      rename_i j'
      have : j = j' := hex
      subst this
      simp only [Exit.inBlock]
      split at he
      · rename_i hj
        cases he
        rw [if_pos hj]
        exact hq .normal a' w' S' m' trivial st h' hdf
      · rename_i hj
        cases he
        rw [if_neg hj]
        exact hq (.exit j) a' w' S' m' rfl st h' hdf
    · rename_i hne
      have a1 := ih env H (fun p hp => hd p (dx p hp)) (fun c' e h ex e' h' hp hh => hag c' e h ex e' h' (fun p hq => dx p (hp p hq)) hh) he |>.1
      intro K B hB r n hr a w S m h Q hq
      refine wpIn_block (a1 K B hB r n hr a w S m h _ (fun e a' w' S' m' hex st h' hdf => ?_))
      cases e with
      | exit j =>
        cases ex with
        | exit i => exact absurd he (hne _ _ _)
        | nrm => exact hex.elim
        | ret => exact hex.elim
      | _ => exact hq _ a' w' S' m' hex st h' hdf
  | scope x ih =>
    intro env H ex env' H' hd hag he
    refine ⟨?_, fun x e => by cases e⟩
    simp only [evC] at he
    have dx : ∀ p ∈ drawn x, p ∈ drawn (.scope x) := fun p hp => by simpa [drawn] using hp
    have a1 := (ih env H (fun p hp => hd p (dx p hp)) (fun c' e h ex e' h' hp hh => hag c' e h ex e' h' (fun p hq => dx p (hp p hq)) hh) he).1
    intro K B hB r n hr a w S m h Q hq
    refine wpIn_scope (a1 K B hB r n hr a w S m h _ (fun e a' w' S' m' hex st h' hdf => ?_))
    cases e with
    | goto l => cases ex <;> exact hex.elim
    | _ => exact hq _ a' w' S' m' hex st h' hdf
  | loop x ih =>
    intro env H ex env' H' hd hag he
    simp only [evC] at he
    have dx : ∀ p ∈ drawn x, p ∈ drawn (.loop x) := fun p hp => by simpa [drawn] using hp
    have L : LoopOK P x env H ex env' H' := by
      split at he
      · rename_i env1 H1 h1
        have a1 := (ih env H (fun p hp => hd p (dx p hp)) (fun c' e h ex e' h' hp hh => hag c' e h ex e' h' (fun p hq => dx p (hp p hq)) hh) h1).1
        obtain ⟨j, hn⟩ := hag x env1 H1 ex env' H' (fun p hp => dx p hp) he
        refine ⟨j + 1, fun K B hB r n hr a w S m h Q hq => ?_⟩
        refine a1 K B hB r n hr a w S m h _ (fun e a' w' S' m' hex st h' hdf => ?_)
        cases e <;> first | exact hex.elim | skip
        exact hn K B hB r n hr a' w' S' m' h' Q (fun e a'' w'' S'' m'' hex' st' h'' hdf' => hq e a'' w'' S'' m'' hex' (st.trans st') h'' (hdf.trans hdf' st'.oth st.size))
      · rename_i hne
        have a1 := (ih env H (fun p hp => hd p (dx p hp)) (fun c' e h ex e' h' hp hh => hag c' e h ex e' h' (fun p hq => dx p (hp p hq)) hh) he).1
        refine ⟨1, fun K B hB r n hr a w S m h Q hq => ?_⟩
        refine a1 K B hB r n hr a w S m h _ (fun e a' w' S' m' hex st h' hdf => ?_)
        cases e with
        | normal =>
          cases ex with
          | nrm => exact absurd he (hne _ _)
          | exit => exact hex.elim
          | ret => exact hex.elim
        | _ => exact hq _ a' w' S' m' hex st h' hdf
    refine ⟨fun K B hB r n hr a w S m h Q hq => ?_, fun y e => by cases e; exact L⟩
    obtain ⟨j, hn⟩ := L
    exact loop_fw j (hn K B hB r n hr a w S m h Q hq)
end
end Go.Proofs.Ytcamcfplcoklkaa.Iv
