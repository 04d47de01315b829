import Derived.Test.YtcamcfplcoklkaaJ4
namespace Go.Proofs.Ytcamcfplcoklkaa.Iv
open Go
theorem wCall_ev {K : Cfg} {H : Heap} {d f n : Nat} {args : List V} {out : Out} {Q : Out → Prop} (h : evCall (run K n) K.pol H d f args = some out) (q : Q out) : wCall K.pol (CallR K) H d f args Q := by
  rw [evCall_eq] at h
  unfold wCall
  cases hp : callPre K.pol H f args with
  | none => rw [hp] at h; cases h
  | some p =>
    rw [hp] at h
    simp only at h ⊢
    cases hr : run K n f p.as p.Hin with
    | none => rw [hr] at h; cases h
    | some x =>
      obtain ⟨r, H'⟩ := x
      rw [hr] at h
      simp only at h
      refine ⟨n, r, H', hr, ?_⟩
      show outW (callPost K.pol H d f p r H') Q
      rw [h]
      exact q
theorem callW_ev {K : Cfg} {H : Heap} {d f n : Nat} {args : List V} {out : Out} {Q : V → Heap → Prop} (h : evCall (run K n) K.pol H d f args = some out) (q : Q out.v (H.sets out.ups)) : callW K.pol (CallR K) H d f args Q := wCall_ev h q
theorem gyc {K : Cfg} {H : Heap} {d f n : Nat} {args : List V} {out : Out} {Q : V → Heap → Prop} {b : Bool} (h : evCall (run K n) K.pol H d f args = some out) (q : Q out.v (H.sets out.ups)) : guardW (.bool b) b H (wCall K.pol (CallR K) H d f args) Q := by
  have e : guardW (.bool b) b H (wCall K.pol (CallR K) H d f args) Q = wCall K.pol (CallR K) H d f args (fun o => Q o.v (H.sets o.ups)) := by cases b <;> rfl
  rw [e]; exact wCall_ev h q
theorem CallR.body' {K : Cfg} {f : Nat} {fn : Func} {c : Code} {args : List V} {H : Heap} {Q : V → Heap → Prop} {env : List V} {rs : List ResultVar} (hx : K.ext f = none) (hg : K.good.contains f = true) (hf : K.P.funcs[f]? = some fn) (hb : fn.body = some c)
    (hl : Nat.ble args.length fn.ntmps = true) (he : args ++ List.replicate (fn.ntmps - args.length) .und = env) (hr : fn.results.toList = rs) (h : wC K.P K.pol (CallR K) (LoopR K) c env H (wRes K.P rs Q)) : CallR K f args H Q := by
  subst he; subst hr
  exact CallR.body hx hg hf hb (Nat.le_of_ble_eq_true hl) h
end Go.Proofs.Ytcamcfplcoklkaa.Iv
