import Derived.Test.YtcamcfplcoklkaaD7
namespace Go.Proofs.Ytcamcfplcoklkaa.Iv
open Go
set_option linter.unusedVariables false
set_option linter.unusedSimpArgs false
set_option maxRecDepth 100000
theorem isT_spec {o : Option (V × Heap)} (h : isT o = 1) : ∃ H', o = some (.bool true, H') := by
  unfold isT at h
  split at h
  · exact ⟨_, rfl⟩
  · cases h
  · cases h
  · cases h
theorem awake_run : ∃ H', run dcfg 400 8 [] (fun _ => none) = some (.bool true, H') := isT_spec t1
theorem awake_call {H : Heap} {d : Nat} {Q : Out → Prop} (q : Q ⟨.bool true, [], []⟩) : wCall dcfg.pol (CallR dcfg) H d 8 [] Q := by
  obtain ⟨H', h⟩ := awake_run
  have e1 : callPre dcfg.pol H 8 [] = some ⟨[], fun _ => none, [], [], []⟩ := by kernel_rfl
  have e2 : callPost dcfg.pol H d 8 ⟨[], fun _ => none, [], [], []⟩ (.bool true) H' = some ⟨.bool true, [], []⟩ := by kernel_rfl
  unfold wCall
  rw [e1]
  refine ⟨400, .bool true, H', h, ?_⟩
  show outW (callPost dcfg.pol H d 8 ⟨[], fun _ => none, [], [], []⟩ (.bool true) H') Q
  rw [e2]
  exact q
theorem awake_callW {H : Heap} {d : Nat} {Q : V → Heap → Prop} (q : Q (.bool true) H) : callW dcfg.pol (CallR dcfg) H d 8 [] Q := awake_call (Q := fun o => Q o.v (H.sets o.ups)) q

/-- long tells, and if it is not so the acts are few and short -/
theorem long_ok {l : List Act4} (hlen : l.length ≤ 9223372036854775807) {H : Heap} {Q : V → Heap → Prop} (hq : ∀ b, (b = false → l.length ≤ 200 ∧ ∀ (j : Nat) a, l[j]? = some a → a.b.length ≤ 200) → Q (.bool b) H) : CallR dcfg 10 [actsV l] H Q := by
  refine CallR.body (K := dcfg) (f := 10) (fn := Try.f10) (c := c10_0) rfl (by kernel_rfl) (by kernel_rfl) (by kernel_rfl) (show 1 ≤ 24 by decide) ?_
  show wC Try.prog dcfg.pol (CallR dcfg) (LoopR dcfg) c10_0 [actsV l, .und, .und, .und, .und, .und, .und, .und, .und, .und, .und, .und, .und, .und, .und, .und, .und, .und, .und, .und, .und, .und, .und, .und] H (wRes Try.prog [.tmp 2] Q)
  simp only [w10_0, w10_1, w10_1_0, w10_2, w10_3, w10_4, w10_4_0, w10_5, w10_6, seqK]
  refine long_loop hlen (fun i t4 t5 t6 t7 t8 t9 t10 t11 t12 t13 t14 t15 t16 t17 t18 t19 t20 t21 t22 t23 hall => ?_) (fun i t4 t5 t6 t7 t8 t9 t10 t11 t12 t13 t14 t15 t16 t17 t18 t19 t20 t21 t22 t23 => ?_) l.length 0 (by omega) (fun j a h => by omega) .und .und .und .und .und .und .und .und .und .und .und .und .und .und .und .und .und .und .und .und
  · simp only [blockK, if_true, seqK, w10_23, w10_24, w10_24_0, w10_25, len22]
    refine mk0 _ (by simp only [actsV, lenS]; rfl) ?_
    refine mk0 _ (bin_gtr ..) ?_
    refine hq _ (fun h => ?_)
    have h2 : l.length ≤ 200 := by
      have := of_decide_eq_false h
      simp at this
      omega
    exact ⟨h2, hall h2⟩
  · exact hq true (fun h => by cases h)
theorem long_callW {l : List Act4} (hlen : l.length ≤ 9223372036854775807) {H : Heap} {d : Nat} {Q : V → Heap → Prop} (hq : ∀ b, (b = false → l.length ≤ 200 ∧ ∀ (j : Nat) a, l[j]? = some a → a.b.length ≤ 200) → Q (.bool b) H) : callW dcfg.pol (CallR dcfg) H d 10 [actsV l] Q := by
  have e1 : callPre dcfg.pol H 10 [actsV l] = some ⟨[actsV l], fun _ => none, [], [], []⟩ := by kernel_rfl
  show wCall dcfg.pol (CallR dcfg) H d 10 [actsV l] (fun o => Q o.v (H.sets o.ups))
  unfold wCall
  rw [e1]
  refine long_ok hlen (fun b hb => ?_)
  show outW (callPost dcfg.pol H d 10 ⟨[actsV l], fun _ => none, [], [], []⟩ (.bool b) (fun _ => none)) _
  have e2 : callPost dcfg.pol H d 10 ⟨[actsV l], fun _ => none, [], [], []⟩ (.bool b) (fun _ => none) = some ⟨.bool b, [], []⟩ := by kernel_rfl
  rw [e2]
  exact hq b hb
end Go.Proofs.Ytcamcfplcoklkaa.Iv
