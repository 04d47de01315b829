import Derived.Test.YtcamcfplcoklkaaD2
namespace Go.Proofs.Ytcamcfplcoklkaa.Iv
open Go
set_option linter.unusedVariables false
theorem len22 {x} : evLen Try.prog 22 x = lenS x := by cases x <;> kernel_rfl
theorem len34 {x} : evLen Try.prog 34 x = lenS x := by cases x <;> kernel_rfl
theorem ia22 {x i} : evIndexAddr Try.prog 22 x i = iaR 4 x i := by kernel_rfl
theorem fa36_0 {x} : evFieldAddr Try.prog 36 x 0 = faR 0 x := by kernel_rfl
theorem fa36_3 {x} : evFieldAddr Try.prog 36 x 3 = faR 3 x := by kernel_rfl
theorem ld34 {H x} : evLoad Try.prog H 34 x = ldR 1 false H x := by kernel_rfl
theorem ld3 {H x} : evLoad Try.prog H 3 x = ldR 1 false H x := by kernel_rfl
theorem ld36 {H x} : evLoad Try.prog H 36 x = ldR 4 true H x := by kernel_rfl
theorem ld23 {H x} : evLoad Try.prog H 23 x = ldR 1 false H x := by kernel_rfl
structure Act4 where
  d : Int
  n : Int
  m : Int
  b : List Int
def bytesV (b : List Int) : V := .list (b.map fun u => [.int .u8 u]) false
def actV (a : Act4) : List V := [.int .i64 a.d, .int .i64 a.n, .int .i64 a.m, bytesV a.b]
def actsV (l : List Act4) : V := .list (l.map actV) false

/-- long: a loop over the acts -/
theorem long_loop {l : List Act4} (hlen : l.length ≤ 9223372036854775807) {Q : KQ} {H : Heap} {t1 : V}
    (hx : ∀ (i : Nat) t4 t5 t6 t7 t8 t9 t10 t11 t12 t13 t14 t15 t16 t17 t18 t19 t20 t21 t22 t23, (l.length ≤ 200 → ∀ (j : Nat) a, l[j]? = some a → a.b.length ≤ 200) →
      Q (.exit 0) [actsV l, t1, .bool false, .int .i64 i, t4, t5, t6, t7, t8, t9, t10, t11, t12, t13, t14, t15, t16, t17, t18, t19, t20, t21, t22, t23] H)
    (hr : ∀ (i : Nat) t4 t5 t6 t7 t8 t9 t10 t11 t12 t13 t14 t15 t16 t17 t18 t19 t20 t21 t22 t23,
      Q .ret [actsV l, t1, .bool true, .int .i64 i, t4, t5, t6, t7, t8, t9, t10, t11, t12, t13, t14, t15, t16, t17, t18, t19, t20, t21, t22, t23] H) :
    ∀ (k i : Nat), i + k = l.length → (∀ (j : Nat) a, j < i → l[j]? = some a → a.b.length ≤ 200) → ∀ t4 t5 t6 t7 t8 t9 t10 t11 t12 t13 t14 t15 t16 t17 t18 t19 t20 t21 t22 t23,
      LoopR dcfg c10_7 [actsV l, t1, .bool false, .int .i64 i, t4, t5, t6, t7, t8, t9, t10, t11, t12, t13, t14, t15, t16, t17, t18, t19, t20, t21, t22, t23] H Q := by
  intro k
  induction k with
  | zero =>
    intro i hi hall t4 t5 t6 t7 t8 t9 t10 t11 t12 t13 t14 t15 t16 t17 t18 t19 t20 t21 t22 t23
    refine LoopR.step ?_
    show wC Try.prog dcfg.pol (CallR dcfg) (LoopR dcfg) c10_7 _ H _
    have h1 : decide (((i : Nat) : Int) < (((l.map actV).length : Nat) : Int)) = false := by simp; omega
    simp only [w10_7, w10_8, w10_9, w10_9_0, w10_10, w10_12, seqK, len22]
    refine mk0 _ (by simp only [actsV, lenS]; rfl) ?_
    refine mk0 _ (by rw [bin_lss, h1]) ?_
    refine gnf (gnf (mk0 (.bool false) (by rfl) ?_))
    exact condF (hx i _ _ _ _ _ _ _ _ _ _ _ _ _ _ _ _ _ _ _ _ (fun _ j a h => hall j a (by have := (List.getElem?_eq_some_iff.1 h).1; omega) h))
  | succ k ih =>
    intro i hi hall t4 t5 t6 t7 t8 t9 t10 t11 t12 t13 t14 t15 t16 t17 t18 t19 t20 t21 t22 t23
    refine LoopR.step ?_
    show wC Try.prog dcfg.pol (CallR dcfg) (LoopR dcfg) c10_7 _ H _
    have h1 : decide (((i : Nat) : Int) < (((l.map actV).length : Nat) : Int)) = true := by simp; omega
    simp only [w10_7, w10_8, w10_9, w10_9_0, w10_10, w10_11, w10_12, seqK, len22]
    refine mk0 _ (by simp only [actsV, lenS]; rfl) ?_
    refine mk0 _ (by rw [bin_lss, h1]) ?_
    refine gp (gy0 _ (bin_leq ..) (mk0 (.bool (decide ((i : Int) ≤ 200))) (by rfl) ?_))
    by_cases h2 : (i : Int) ≤ 200
    · rw [decide_eq_true h2]
      refine condT ?_
      simp only [w10_13, w10_14, w10_15, w10_16, w10_16_0, w10_17, w10_18, w10_19, w10_19_0, w10_20, w10_21, w10_22, w10_22_0, seqK, blockK, ia22, fa36_3, ld34, len34]
      have hlt : i < l.length := by omega
      have hg : (l.map actV)[i]? = some (actV l[i]) := by simp [hlt]
      refine mk0 _ (ia_list hg (by rfl) (by decide)) ?_
      refine mk0 (.fptr [bytesV l[i].b] false) (by rfl) (mk0 (bytesV l[i].b) (by rfl) (mk0 _ (by simp only [bytesV, lenS]; rfl) (mk0 _ (bin_gtr ..) ?_)))
      by_cases h3 : (((l[i].b.map fun u => [V.int .u8 u]).length : Nat) : Int) > 200
      · rw [decide_eq_true h3]
        exact condT (hr ..)
      · rw [decide_eq_false h3]
        refine condF (mk0 _ (bin_add (by omega) (by omega)) ?_)
        have := ih (i + 1) (by omega) (fun j a hj ha => by
          by_cases e : j = i
          · subst e
            rw [List.getElem?_eq_getElem hlt] at ha; cases ha
            simp at h3; omega
          · exact hall j a (by omega) ha)
        exact this ..
    · rw [decide_eq_false h2]
      exact condF (hx i _ _ _ _ _ _ _ _ _ _ _ _ _ _ _ _ _ _ _ _ (fun h => by omega))
end Go.Proofs.Ytcamcfplcoklkaa.Iv
