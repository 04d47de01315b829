import Derived.Test.YtcamcfplcoklkaaD6
namespace Go.Proofs.Ytcamcfplcoklkaa.Iv
open Go
set_option linter.unusedVariables false
set_option linter.unusedSimpArgs false
set_option maxRecDepth 100000
set_option maxHeartbeats 4000000 in
/-- a round over the two disks -/
theorem round {l : List Act4} (hlen : l.length ≤ 200) (hb : ∀ (j : Nat) a, l[j]? = some a → a.b.length ≤ 200) {d : V} (hd : Nob d) {t1 t3 : V} {kk : Int} (hk0 : 0 ≤ kk) (hk : kk < 2) {p : V} {rd : List Id} (hp : iaR 1 allV (.int .i64 kk) = pureO p) (hl : ldR 1 false HL p = some ⟨d, [], rd⟩) {Q : KQ}
    (next : ∀ t6 t7 t8 t9 t10 t11 t12 t13 t14 t15 t16 t17 t18 t19 t20 t21 t22 t23 t24 t25 t26 t27 t28 t29 t30 t31 t32 t33 t34 t35 t36 t37 t38 t39 t40 t41 t42 t43 t44 t45 t46 t47 t48 t49 t50 t51 t52 t53 t54 t55 t56 t57 t58 t59 t60 t61 t62 t63 t64 t65 t66 t67 t68 t69 t70 t71 t72 t73 t74 t75 t76 t77 t78 t79 t80 t81 t82, LoopR dcfg c4_19 [actsV l, t1, .bool false, t3, allV, .int .i64 (kk + 1), t6, t7, t8, t9, t10, t11, t12, t13, t14, t15, t16, t17, t18, t19, t20, t21, t22, t23, t24, t25, t26, t27, t28, t29, t30, t31, t32, t33, t34, t35, t36, t37, t38, t39, t40, t41, t42, t43, t44, t45, t46, t47, t48, t49, t50, t51, t52, t53, t54, t55, t56, t57, t58, t59, t60, t61, t62, t63, t64, t65, t66, t67, t68, t69, t70, t71, t72, t73, t74, t75, t76, t77, t78, t79, t80, t81, t82] HL Q) : ∀ t6 t7 t8 t9 t10 t11 t12 t13 t14 t15 t16 t17 t18 t19 t20 t21 t22 t23 t24 t25 t26 t27 t28 t29 t30 t31 t32 t33 t34 t35 t36 t37 t38 t39 t40 t41 t42 t43 t44 t45 t46 t47 t48 t49 t50 t51 t52 t53 t54 t55 t56 t57 t58 t59 t60 t61 t62 t63 t64 t65 t66 t67 t68 t69 t70 t71 t72 t73 t74 t75 t76 t77 t78 t79 t80 t81 t82, LoopR dcfg c4_19 [actsV l, t1, .bool false, t3, allV, .int .i64 kk, t6, t7, t8, t9, t10, t11, t12, t13, t14, t15, t16, t17, t18, t19, t20, t21, t22, t23, t24, t25, t26, t27, t28, t29, t30, t31, t32, t33, t34, t35, t36, t37, t38, t39, t40, t41, t42, t43, t44, t45, t46, t47, t48, t49, t50, t51, t52, t53, t54, t55, t56, t57, t58, t59, t60, t61, t62, t63, t64, t65, t66, t67, t68, t69, t70, t71, t72, t73, t74, t75, t76, t77, t78, t79, t80, t81, t82] HL Q := by
  intro t6 t7 t8 t9 t10 t11 t12 t13 t14 t15 t16 t17 t18 t19 t20 t21 t22 t23 t24 t25 t26 t27 t28 t29 t30 t31 t32 t33 t34 t35 t36 t37 t38 t39 t40 t41 t42 t43 t44 t45 t46 t47 t48 t49 t50 t51 t52 t53 t54 t55 t56 t57 t58 t59 t60 t61 t62 t63 t64 t65 t66 t67 t68 t69 t70 t71 t72 t73 t74 t75 t76 t77 t78 t79 t80 t81 t82
  refine LoopR.step ?_
  show wC Try.prog dcfg.pol (CallR dcfg) (LoopR dcfg) c4_19 _ HL _
  simp only [w4_19, w4_20, w4_21, w4_21_0, w4_22, w4_23, w4_25, w4_26, w4_27, w4_28, w4_28_0, w4_29, w4_30, w4_31, w4_31_0, w4_32, w4_33, seqK, blockK, len50, ia50, ld23]
  refine mk0 (.int .i64 2) (by rfl) ?_
  refine mk0 _ (bin_lss ..) ?_
  rw [decide_eq_true hk]
  refine condT ?_
  refine mk0 _ hp ?_
  refine mk _ _ _ hl ?_
  refine inner hlen hb hd (fun i t8 t9 t10 t11 t12 t13 t14 t15 t16 t17 t18 t19 t20 t21 t22 t23 t24 t25 t26 t27 t28 t29 t30 t31 t32 t33 t34 t35 t36 t37 t38 t39 t40 t41 t42 t43 t44 t45 t46 t47 t48 t49 t50 t51 t52 t53 t54 t55 t56 t57 t58 t59 t60 t61 t62 t63 t64 t65 t66 t67 t68 t69 t70 t71 t72 t73 t74 t75 t76 t77 t78 t79 t80 t81 t82 => ?_) l.length 0 (by omega) _ _ _ _ _ _ _ _ _ _ _ _ _ _ _ _ _ _ _ _ _ _ _ _ _ _ _ _ _ _ _ _ _ _ _ _ _ _ _ _ _ _ _ _ _ _ _ _ _ _ _ _ _ _ _ _ _ _ _ _ _ _ _ _ _ _ _ _ _ _ _ _ _ _ _ 
  simp only [w4_52, w4_53, w4_53_0c, w4_53_0, w4_53_12, w4_54, w4_58, w4_59, w4_59_0, seqK, blockK, if_true, len34]
  obtain ⟨rd1, h1⟩ := hd.sec
  obtain ⟨rd2, h2⟩ := hd.pen
  obtain ⟨rd3, h3⟩ := hd.drk
  obtain ⟨v4, rd4, h4, h5⟩ := hd.img
  refine callW_ev h1 ?_
  refine mk0 (.bool false) (by rfl) ?_
  refine gp ?_
  refine gyc h2 ?_
  refine gy0 (.bool false) (by rfl) ?_
  refine mk0 (.bool false) (by rfl) ?_
  refine gp ?_
  refine gyc h3 ?_
  refine mk0 (.bool false) (by rfl) ?_
  refine gp ?_
  refine gyc h4 ?_
  refine gy0 (.int .i64 0) h5 ?_
  refine gy0 (.bool false) (by rfl) ?_
  refine mk0 (.bool false) (by rfl) ?_
  refine condF ?_
  refine mk0 _ (bin_add (by omega) (by omega)) ?_
  exact next ..
end Go.Proofs.Ytcamcfplcoklkaa.Iv
