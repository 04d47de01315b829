import Derived.Test.YtcamcfplcoklkaaD5
import Derived.Test.YtcamcfplcoklkaaJ5
namespace Go.Proofs.Ytcamcfplcoklkaa.Iv
open Go
set_option linter.unusedVariables false
set_option linter.unusedSimpArgs false
set_option maxRecDepth 100000
theorem len50 {x} : evLen Try.prog 50 x = lenS x := by cases x <;> kernel_rfl
theorem ia50 {x i} : evIndexAddr Try.prog 50 x i = iaR 1 x i := by kernel_rfl
theorem sets_nil {H : Heap} : H.sets [] = H := rfl
def allV : V := .sl (.own 16) 0 0 2 1 (some 2)
/-- a disk that is none, to which nothing can be done -/
structure Nob (d : V) : Prop where
  did : ∀ a : Act4, a.b.length ≤ 200 → ∃ us rd, evCall (run dcfg 40) dcfg.pol HL 39 12 [d, .agg (actV a)] = some ⟨.tup [.str [], .int .i64 (errOf a.d)], us, rd⟩ ∧ HL.sets us = HL
  sec : ∃ rd, evCall (run dcfg 40) dcfg.pol HL 65 9 [d] = some ⟨.int .i64 0, [], rd⟩
  pen : ∃ rd, evCall (run dcfg 40) dcfg.pol HL 69 14 [d] = some ⟨.int .i64 0, [], rd⟩
  drk : ∃ rd, evCall (run dcfg 40) dcfg.pol HL 74 15 [d] = some ⟨.bool false, [], rd⟩
  img : ∃ v rd, evCall (run dcfg 40) dcfg.pol HL 78 16 [d] = some ⟨v, [], rd⟩ ∧ lenS v = pureO (.int .i64 0)
theorem nob_nil : Nob .nilp := ⟨fun a h => ⟨_, _, did_nil HL a h, rfl⟩, ⟨[], by kernel_rfl⟩, ⟨[], by kernel_rfl⟩, ⟨[], by kernel_rfl⟩, ⟨.nils, [], by kernel_rfl, rfl⟩⟩
theorem nob_ptr : Nob (.ptr (.own 15) 0 0) := ⟨fun a h => ⟨_, _, did_ptr a h, HL_back⟩, ⟨[.own 15], by kernel_rfl⟩, ⟨[.own 15], by kernel_rfl⟩, ⟨[.own 15], by kernel_rfl⟩, ⟨.nils, [.own 15], by kernel_rfl, rfl⟩⟩

set_option maxHeartbeats 4000000 in
theorem inner {l : List Act4} (hlen : l.length ≤ 200) (hb : ∀ (j : Nat) a, l[j]? = some a → a.b.length ≤ 200) {d : V} (hd : Nob d) {t1 t2 t3 kk : V} {Q : KQ}
    (hx : ∀ (i : Nat) t8 t9 t10 t11 t12 t13 t14 t15 t16 t17 t18 t19 t20 t21 t22 t23 t24 t25 t26 t27 t28 t29 t30 t31 t32 t33 t34 t35 t36 t37 t38 t39 t40 t41 t42 t43 t44 t45 t46 t47 t48 t49 t50 t51 t52 t53 t54 t55 t56 t57 t58 t59 t60 t61 t62 t63 t64 t65 t66 t67 t68 t69 t70 t71 t72 t73 t74 t75 t76 t77 t78 t79 t80 t81 t82, Q (.exit 2) [actsV l, t1, t2, t3, allV, kk, d, .int .i64 i, t8, t9, t10, t11, t12, t13, t14, t15, t16, t17, t18, t19, t20, t21, t22, t23, t24, t25, t26, t27, t28, t29, t30, t31, t32, t33, t34, t35, t36, t37, t38, t39, t40, t41, t42, t43, t44, t45, t46, t47, t48, t49, t50, t51, t52, t53, t54, t55, t56, t57, t58, t59, t60, t61, t62, t63, t64, t65, t66, t67, t68, t69, t70, t71, t72, t73, t74, t75, t76, t77, t78, t79, t80, t81, t82] HL) :
    ∀ (k i : Nat), i + k = l.length → ∀ t8 t9 t10 t11 t12 t13 t14 t15 t16 t17 t18 t19 t20 t21 t22 t23 t24 t25 t26 t27 t28 t29 t30 t31 t32 t33 t34 t35 t36 t37 t38 t39 t40 t41 t42 t43 t44 t45 t46 t47 t48 t49 t50 t51 t52 t53 t54 t55 t56 t57 t58 t59 t60 t61 t62 t63 t64 t65 t66 t67 t68 t69 t70 t71 t72 t73 t74 t75 t76 t77 t78 t79 t80 t81 t82, LoopR dcfg c4_34 [actsV l, t1, t2, t3, allV, kk, d, .int .i64 i, t8, t9, t10, t11, t12, t13, t14, t15, t16, t17, t18, t19, t20, t21, t22, t23, t24, t25, t26, t27, t28, t29, t30, t31, t32, t33, t34, t35, t36, t37, t38, t39, t40, t41, t42, t43, t44, t45, t46, t47, t48, t49, t50, t51, t52, t53, t54, t55, t56, t57, t58, t59, t60, t61, t62, t63, t64, t65, t66, t67, t68, t69, t70, t71, t72, t73, t74, t75, t76, t77, t78, t79, t80, t81, t82] HL Q := by
  intro k
  induction k with
  | zero =>
    intro i hi t8 t9 t10 t11 t12 t13 t14 t15 t16 t17 t18 t19 t20 t21 t22 t23 t24 t25 t26 t27 t28 t29 t30 t31 t32 t33 t34 t35 t36 t37 t38 t39 t40 t41 t42 t43 t44 t45 t46 t47 t48 t49 t50 t51 t52 t53 t54 t55 t56 t57 t58 t59 t60 t61 t62 t63 t64 t65 t66 t67 t68 t69 t70 t71 t72 t73 t74 t75 t76 t77 t78 t79 t80 t81 t82
    refine LoopR.step ?_
    show wC Try.prog dcfg.pol (CallR dcfg) (LoopR dcfg) c4_34 _ HL _
    have h1 : decide (((i : Nat) : Int) < (((l.map actV).length : Nat) : Int)) = false := by simp; omega
    simp only [w4_34, w4_35, w4_36, w4_36_0, w4_37, w4_39, seqK, len22]
    refine mk0 _ (by simp only [actsV, lenS]; rfl) ?_
    refine mk0 _ (by rw [bin_lss, h1]) ?_
    exact condF (hx i ..)
  | succ k ih =>
    intro i hi t8 t9 t10 t11 t12 t13 t14 t15 t16 t17 t18 t19 t20 t21 t22 t23 t24 t25 t26 t27 t28 t29 t30 t31 t32 t33 t34 t35 t36 t37 t38 t39 t40 t41 t42 t43 t44 t45 t46 t47 t48 t49 t50 t51 t52 t53 t54 t55 t56 t57 t58 t59 t60 t61 t62 t63 t64 t65 t66 t67 t68 t69 t70 t71 t72 t73 t74 t75 t76 t77 t78 t79 t80 t81 t82
    refine LoopR.step ?_
    show wC Try.prog dcfg.pol (CallR dcfg) (LoopR dcfg) c4_34 _ HL _
    have h1 : decide (((i : Nat) : Int) < (((l.map actV).length : Nat) : Int)) = true := by simp; omega
    simp only [w4_34, w4_35, w4_36, w4_36_0, w4_37, w4_38, seqK, len22]
    refine mk0 _ (by simp only [actsV, lenS]; rfl) ?_
    refine mk0 _ (by rw [bin_lss, h1]) ?_
    refine condT ?_
    have hlt : i < l.length := by omega
    have hg : (l.map actV)[i]? = some (actV l[i]) := by simp [hlt]
    obtain ⟨us, rd, he, hH⟩ := hd.did l[i] (hb i _ (by simp [hlt]))
    simp only [w4_40, w4_41, w4_42, w4_43, w4_43_0, seqK, blockK, ia22, ld36]
    refine mk0 _ (ia_list hg (by rfl) (by decide)) ?_
    refine mk0 (.agg (actV l[i])) (by rfl) ?_
    refine callW_ev he ?_
    refine mk0 (.str []) (by rfl) (mk0 (.int .i64 (errOf l[i].d)) (by rfl) ?_)
    simp only [hH]
    simp only [w4_44, w4_45, w4_45_0c, w4_45_0, seqK, blockK, ia22, fa36_0, ld3]
    refine mk0 (.bool false) (by rfl) ?_
    refine gp (gp ?_)
    refine gy0 _ (ia_list hg (by rfl) (by decide)) ?_
    refine gy0 (.fptr (actV l[i]) false) (by rfl) (gy0 (.int .i64 l[i].d) (by rfl) (gy0 _ (bin_geq ..) (gp ?_)))
    have fin : ∀ (v63 : V) t8 t9 t10 t11 t12 t13 t14 t15 t16 t17 t18 t19 t20 t21 t22 t23 t24 t25 t26 t27 t28 t29 t30 t31 t32 t33 t34 t35 t36 t37 t38 t39 t40 t41 t42 t43 t44 t45 t46 t47 t48 t49 t50 t51 t52 t53 t54 t55 t56 t57 t58 t59 t60 t61 t62 t64 t65 t66 t67 t68 t69 t70 t71 t72 t73 t74 t75 t76 t77 t78 t79 t80 t81 t82, v63 = .bool false → wC Try.prog dcfg.pol (CallR dcfg) (LoopR dcfg) c4_46 [actsV l, t1, t2, t3, allV, kk, d, .int .i64 i, t8, t9, t10, t11, t12, t13, t14, t15, t16, t17, t18, t19, t20, t21, t22, t23, t24, t25, t26, t27, t28, t29, t30, t31, t32, t33, t34, t35, t36, t37, t38, t39, t40, t41, t42, t43, t44, t45, t46, t47, t48, t49, t50, t51, t52, t53, t54, t55, t56, t57, t58, t59, t60, t61, t62, v63, t64, t65, t66, t67, t68, t69, t70, t71, t72, t73, t74, t75, t76, t77, t78, t79, t80, t81, t82] HL (blockK 3 (seqK Try.prog dcfg.pol (CallR dcfg) (LoopR dcfg) c4_51 (fun ex e h => match ex with | .nrm => LoopR dcfg c4_34 e h Q | .exit i => Q (.exit i) e h | .ret => Q .ret e h))) := by
      intro v63 t8 t9 t10 t11 t12 t13 t14 t15 t16 t17 t18 t19 t20 t21 t22 t23 t24 t25 t26 t27 t28 t29 t30 t31 t32 t33 t34 t35 t36 t37 t38 t39 t40 t41 t42 t43 t44 t45 t46 t47 t48 t49 t50 t51 t52 t53 t54 t55 t56 t57 t58 t59 t60 t61 t62 t64 t65 t66 t67 t68 t69 t70 t71 t72 t73 t74 t75 t76 t77 t78 t79 t80 t81 t82 hv
      subst hv
      simp only [w4_46, w4_50, w4_51, w4_51_0, seqK, blockK]
      refine condF (mk0 _ (bin_add (by omega) (by omega)) ?_)
      exact ih (i + 1) (by omega) ..
    by_cases h2 : l[i].d ≥ 0
    · rw [decide_eq_true h2]
      refine gp (gp ?_)
      simp only [w4_45_12, ia22, fa36_0, ld3]
      refine gy0 _ (ia_list hg (by rfl) (by decide)) ?_
      refine gy0 (.fptr (actV l[i]) false) (by rfl) (gy0 (.int .i64 l[i].d) (by rfl) (gy0 _ (bin_leq ..) ?_))
      by_cases h3 : l[i].d ≤ 2
      · rw [decide_eq_true h3]
        have he1 : errOf l[i].d = 1 := by unfold errOf; rw [if_pos ⟨h2, h3⟩]
        rw [he1]
        refine gy0 (.bool true) (by rfl) ?_
        refine gp ?_
        refine gp ?_
        refine gy0 (.bool false) (by rfl) ?_
        refine gy0 (.bool false) (by rfl) ?_
        refine mk0 (.bool false) (by rfl) ?_
        dsimp only [sets_nil, seqK]
        refine fin _ _ _ _ _ _ _ _ _ _ _ _ _ _ _ _ _ _ _ _ _ _ _ _ _ _ _ _ _ _ _ _ _ _ _ _ _ _ _ _ _ _ _ _ _ _ _ _ _ _ _ _ _ _ _ _ _ _ _ _ _ _ _ _ _ _ _ _ _ _ _ _ _ _ _ ?_
        rfl
      · rw [decide_eq_false h3]
        refine gy0 (.bool false) (by rfl) ?_
        refine gp ?_
        dsimp only [sets_nil]
        refine gnf ?_
        refine gnf ?_
        refine gy0 (.bool false) (by rfl) ?_
        refine mk0 (.bool false) (by rfl) ?_
        dsimp only [sets_nil, seqK]
        refine fin _ _ _ _ _ _ _ _ _ _ _ _ _ _ _ _ _ _ _ _ _ _ _ _ _ _ _ _ _ _ _ _ _ _ _ _ _ _ _ _ _ _ _ _ _ _ _ _ _ _ _ _ _ _ _ _ _ _ _ _ _ _ _ _ _ _ _ _ _ _ _ _ _ _ _ ?_
        rfl
    · rw [decide_eq_false h2]
      dsimp only [sets_nil]
      refine gnf ?_
      refine gnf ?_
      simp only [w4_45_12, ia22, fa36_0, ld3]
      refine gnf ?_
      refine gnf ?_
      refine gnf ?_
      refine gnf ?_
      refine gy0 (.bool false) (by rfl) ?_
      refine gp ?_
      dsimp only [sets_nil]
      refine gnf ?_
      refine gnf ?_
      refine gy0 (.bool false) (by rfl) ?_
      refine mk0 (.bool false) (by rfl) ?_
      dsimp only [sets_nil, seqK]
      refine fin _ _ _ _ _ _ _ _ _ _ _ _ _ _ _ _ _ _ _ _ _ _ _ _ _ _ _ _ _ _ _ _ _ _ _ _ _ _ _ _ _ _ _ _ _ _ _ _ _ _ _ _ _ _ _ _ _ _ _ _ _ _ _ _ _ _ _ _ _ _ _ _ _ _ _ ?_
      rfl
end Go.Proofs.Ytcamcfplcoklkaa.Iv
