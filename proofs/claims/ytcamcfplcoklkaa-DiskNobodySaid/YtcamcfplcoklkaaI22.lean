import Derived.Test.YtcamcfplcoklkaaI21
namespace Go.Proofs.Ytcamcfplcoklkaa.Iv
open Go
set_option linter.unusedVariables false
set_option linter.unusedSimpArgs false
section
variable {P : Program} {K B : Nat → Prop} {w : World} {S : Nat → Prop} {m : Map} {H : Heap}

theorem Goes.val {v : V} {rd : List Id} {o : Oper} {a : Act} (h : SR w S K m H) {x : Value} (hx : VR w S B m v x) (hr : (execOp a.eval o).run P w = .ok (.value x) w) : Goes P K B w S m H ⟨v, [], rd⟩ o a := by
  intro next Q hn
  unfold Oper.wp
  rw [hr]
  exact hn x w S m (Step.refl ..) h hx

theorem Goes.lift {ov : Option V} {out : Out} {o : Oper} {a : Act} (h : SR w S K m H) (he : liftO ov = some out) {s : Sem Value} (hs : ∀ v, ov = some v → SoundV P B w S m v s) (ho : execOp a.eval o = (do pure (.value (← s)))) : Goes P K B w S m H out o a :=
  Goes.of (SoundV.lift h he hs) ho

theorem Goes.of' {out : Out} {o : Oper} {a : Act} {s : Sem Value} (hs : Sound P K B w S m H out s) (ho : (execOp a.eval o).run P w = ((do pure (.value (← s))) : Sem Next).run P w) : Goes P K B w S m H out o a := by
  intro next Q hn
  obtain ⟨x, w', S', m', hr, st, sr, hv⟩ := hs
  unfold Oper.wp
  rw [ho]
  simp only [Sem.run_bind, hr, Result.andThen_ok, Sem.run_pure, Oper.upon]
  exact hn x w' S' m' st sr hv
theorem Goes.lift' {ov : Option V} {out : Out} {o : Oper} {a : Act} (h : SR w S K m H) (he : liftO ov = some out) {s : Sem Value} (hs : ∀ v, ov = some v → SoundV P B w S m v s) (ho : (execOp a.eval o).run P w = ((do pure (.value (← s))) : Sem Next).run P w) : Goes P K B w S m H out o a :=
  Goes.of' (SoundV.lift h he hs) ho

theorem builtin_goes (h : SR w S K m H) {ρ : Operand → V} {a : Act} (hρ : ∀ x, VR w S B m (ρ x) (a.eval x)) {d : Nat} {b : Builtin} {ts : Array TypeId} {args : Array Operand} {out : Out} {o : Oper}
    (ho : o.op = .call { callee := .builtin b, args := args, argTypes := ts }) (he : evBuiltin P H d b ts.toList (args.toList.map ρ) = some out) : Goes P K B w S m H out o a := by
  have hres : ∀ {s : Sem Value}, (∀ cs, builtin b ts o.type cs (args.map a.eval) = (do pure (.value (← s)))) → (execOp a.eval o).run P w = ((do pure (.value (← s))) : Sem Next).run P w := by
    intro s hs
    unfold execOp
    rw [ho]
    simp only [resolve, Sem.run_bind, Sem.run_pure, Result.andThen_ok, invoke]
    rw [hs]
    simp only [Sem.run_bind, Sem.run_pure]
  obtain ⟨args⟩ := args
  obtain ⟨ts⟩ := ts
  simp only at he
  unfold evBuiltin at he
  split at he
  · rename_i s x r p q hargs
    match args, hargs with
    | [o1, o2], hargs =>
      simp only [List.map_cons, List.map_nil, List.cons.injEq, and_true] at hargs
      obtain ⟨rfl, rfl⟩ := hargs
      exact Goes.of' (append_sound (P := P) (ty := o.type) (ts := (s :: x :: r).toArray) h d (by simp) (by simp) he (hρ o1) (hρ o2)) (hres (fun cs => by simp [builtin]))
  · rename_i s r p hargs
    match args, hargs with
    | [o1], hargs =>
      simp only [List.map_cons, List.map_nil, List.cons.injEq, and_true] at hargs
      subst hargs
      exact Goes.of' (len_sound (P := P) (ty := o.type) h he (hρ o1) (s :: r).toArray (by simp)) (hres (fun cs => by simp [builtin]))
  · rename_i s r p hargs
    match args, hargs with
    | [o1], hargs =>
      simp only [List.map_cons, List.map_nil, List.cons.injEq, and_true] at hargs
      subst hargs
      exact Goes.of' (cap_sound (P := P) (ty := o.type) h he (hρ o1) (s :: r).toArray (by simp)) (hres (fun cs => by simp [builtin]))
  · rename_i s r p q hargs
    match args, hargs with
    | [o1, o2], hargs =>
      simp only [List.map_cons, List.map_nil, List.cons.injEq, and_true] at hargs
      obtain ⟨rfl, rfl⟩ := hargs
      exact Goes.of' (copy_sound (P := P) (ty := o.type) (ts := (s :: r).toArray) h (by simp) he (hρ o1) (hρ o2)) (hres (fun cs => by simp [builtin]))
  · rename_i s r p hargs
    match args, hargs with
    | [o1], hargs =>
      simp only [List.map_cons, List.map_nil, List.cons.injEq, and_true] at hargs
      subst hargs
      exact Goes.of' (clear_sound (P := P) (ty := o.type) (ts := (s :: r).toArray) h (by simp) he (hρ o1)) (hres (fun cs => by simp [builtin]))
  · rename_i p r hargs
    match args, hargs with
    | o1 :: os, hargs =>
      simp only [List.map_cons, List.cons.injEq] at hargs
      obtain ⟨rfl, rfl⟩ := hargs
      exact Goes.lift' h he (fun v hv => foldO_sound (P := P) (fun e r1 r2 => max2_sound e r1 r2) hv (hρ o1) (args_R hρ os)) (hres (fun cs => by simp [builtin, Builtin.max_]))
  · rename_i p r hargs
    match args, hargs with
    | o1 :: os, hargs =>
      simp only [List.map_cons, List.cons.injEq] at hargs
      obtain ⟨rfl, rfl⟩ := hargs
      exact Goes.lift' h he (fun v hv => foldO_sound (P := P) (fun e r1 r2 => min2_sound e r1 r2) hv (hρ o1) (args_R hρ os)) (hres (fun cs => by simp [builtin, Builtin.min_]))
  · cases he

theorem evOp_sound {call : Nat → List V → Heap → Option (V × Heap)} {pol : Nat → Pol} (hrun : RunOK P call) (h : SR w S K m H) (hB : ∀ rb, B rb → K rb) {ρ : Operand → V} {a : Act} (hρ : ∀ x, VR w S B m (ρ x) (a.eval x))
    {d : Nat} {op : Op} {out : Out} (he : evOp P call pol H ρ d op = some out) {o : Oper} (ho : o.op = op) : Goes P K B w S m H out o a := by
  subst ho
  unfold evOp at he
  split at he
  · rename_i x e; cases he
    exact Goes.val h (hρ x) (by unfold execOp; rw [e]; rfl)
  · rename_i x e; cases he
    exact Goes.val h (hρ x) (by unfold execOp; rw [e]; rfl)
  · rename_i c p q e
    split at he
    · rename_i t ht
      cases he
      have := hρ c
      rw [ht] at this
      have := this.bool_inv
      refine Goes.val (x := if t then a.eval p else a.eval q) h ?_ (by unfold execOp; rw [e]; cases t <;> simp [this, asBool])
      cases t
      · exact hρ q
      · exact hρ p
    · cases he
  · rename_i el e
    split at he
    · rename_i z hz
      exact Goes.of (alloc_sound (P := P) h d hz he) (by unfold execOp; rw [e])
    · cases he
  · rename_i el x e
    exact Goes.of (boxO_sound (P := P) h hB d he (hρ x) el) (by unfold execOp; rw [e])
  · rename_i t ps e
    exact Goes.lift h he (fun v hv => build_sound (P := P) hv (parts_R hρ ps)) (by unfold execOp; rw [e])
  · rename_i t len ps e
    exact Goes.of (buildSlice_sound (P := P) h d he (parts_R hρ ps)) (by unfold execOp; rw [e])
  · rename_i t x e
    exact Goes.of (load_sound (P := P) h he (hρ x)) (by unfold execOp; rw [e])
  · rename_i t x y e
    obtain ⟨e1, w', S', m', hr, st, sr⟩ := store_sound (P := P) h he (hρ x) (hρ y)
    intro next Q hn
    have : (execOp a.eval o).run P w = .ok .skip w' := by
      unfold execOp; rw [e]; simp [hr]
    unfold Oper.wp
    rw [this]
    exact hn undef w' S' m' st sr (by rw [e1]; exact .und _)
  · rename_i x e
    split at he
    · rename_i i g o' hv
      cases he
      have hx := hρ x
      rw [hv] at hx
      obtain ⟨ad, e1⟩ := hx.ptr_shape
      exact Goes.val h hx (by unfold execOp; rw [e]; simp [e1])
    · rename_i cs l hv
      cases he
      have hx := hρ x
      rw [hv] at hx
      obtain ⟨rb, o', vals, e1, _⟩ := hx.fptr_inv
      exact Goes.val h hx (by unfold execOp; rw [e]; simp [e1])
    · rename_i f c hv
      cases he
      have hx := hρ x
      rw [hv] at hx
      obtain ⟨xs, e1, _⟩ := hx.fn_inv
      exact Goes.val h hx (by unfold execOp; rw [e]; simp [e1])
    · cases he
  · rename_i op t x y yt e
    exact Goes.lift h he (fun v hv => bin_sound (P := P) hv (hρ x) (hρ y) x y) (by unfold execOp; rw [e])
  · rename_i op t x e
    exact Goes.lift h he (fun v hv => un_sound (P := P) hv (hρ x)) (by unfold execOp; rw [e])
  · rename_i s t x e
    exact Goes.of (convert_sound (P := P) h he (hρ x)) (by unfold execOp; rw [e])
  · rename_i f first cap e
    split at he
    · rename_i hf
      cases he
      have hfe : first = #[] := by simpa using hf
      subst hfe
      have h2 := args_R hρ cap.toList
      refine Goes.val (x := .func (.func f) #[] (cap.map a.eval)) h ?_ (by unfold execOp; rw [e]; simp [Instr.makeFunc])
      have := VR.fn_mk (f := f) h2
      have e2 : cap.map a.eval = (cap.toList.map a.eval).toArray := by apply Array.ext'; simp
      rw [e2]
      exact this
    · cases he
  · rename_i t l c e
    exact Goes.of (makeSlice_sound (P := P) h d he (hρ l) (hρ c)) (by unfold execOp; rw [e])
  · rename_i t x lo hi mx e
    exact Goes.of (slice_sound (P := P) h he (hρ x) (opt_R hρ lo) (opt_R hρ hi) (opt_R hρ mx)) (by unfold execOp; rw [e])
  · rename_i t x f e
    exact Goes.of (fieldAddr_sound (P := P) h he (hρ x)) (by unfold execOp; rw [e])
  · rename_i t x f e
    exact Goes.lift h he (fun v hv => field_sound (P := P) hv (hρ x)) (by unfold execOp; rw [e])
  · rename_i t x i e
    exact Goes.of (indexAddr_sound (P := P) h he (hρ x) (hρ i)) (by unfold execOp; rw [e])
  · rename_i t x i e
    exact Goes.lift h he (fun v hv => index_sound (P := P) hv (hρ x) (hρ i)) (by unfold execOp; rw [e])
  · rename_i t i e
    split at he
    · rename_i vs hv
      have hx := hρ t
      rw [hv] at hx
      exact Goes.lift h he (fun v hq => extract_sound (P := P) hq hx) (by unfold execOp; rw [e])
    · cases he
  · rename_i b args ts e
    exact builtin_goes h hρ e he
  · rename_i fo args ts e
    split at he
    · rename_i f cap hv
      have hx := hρ fo
      rw [hv] at hx
      obtain ⟨xs, e1, h2⟩ := hx.fn_inv
      obtain ⟨⟨fn, f1, f2, f3⟩, hc⟩ := call_sound hrun h hB he ((args_R hρ args.toList).app h2)
      intro next Q hn
      have hr : (execOp a.eval o).run P w = .ok (.enter f (args.toList.map a.eval ++ xs).toArray) w := by
        unfold execOp
        rw [e]
        have hnone : fn.body.isNone = false := by cases hb : fn.body <;> simp_all
        have e3 : args.map a.eval ++ xs.toArray = (args.toList.map a.eval ++ xs).toArray := by apply Array.ext'; simp
        have f3' : ¬ (fn.name = "runtime.NumGoroutine") := by simpa using f3
        simp only [resolve, e1, Deferred.ofValue, Sem.run_bind, Sem.run_pure, Result.andThen_ok, invoke, callFunc, run_program, f1]
        rw [← e3]
        simp [f3', hnone]
      unfold Oper.wp
      rw [hr]
      simp only [Oper.upon]
      refine hc.mono ?_
      rintro e' w' ⟨x, S', m', rfl, st, sr, hvx⟩
      exact hn x w' S' m' st sr hvx
    · cases he
  · cases he
end
end Go.Proofs.Ytcamcfplcoklkaa.Iv
