import Derived.Test.YtcamcfplcoklkaaD8
namespace Go.Proofs.Ytcamcfplcoklkaa.Iv
open Go
set_option linter.unusedVariables false
set_option linter.unusedSimpArgs false
set_option maxRecDepth 100000
set_option maxHeartbeats 400000 in
/-- DiskNobody answers true -/
theorem nobody {l : List Act4} (hlen : l.length ≤ 9223372036854775807) : CallR dcfg 4 [actsV l] (fun _ => none) (fun r _ => r = .bool true) := by
  refine CallR.body' (K := dcfg) (f := 4) (fn := Try.f4) (c := c4_0) (env := ([actsV l, .und, .und, .und, .und, .und, .und, .und, .und, .und, .und, .und, .und, .und, .und, .und, .und, .und, .und, .und, .und, .und, .und, .und, .und, .und, .und, .und, .und, .und, .und, .und, .und, .und, .und, .und, .und, .und, .und, .und, .und, .und, .und, .und, .und, .und, .und, .und, .und, .und, .und, .und, .und, .und, .und, .und, .und, .und, .und, .und, .und, .und, .und, .und, .und, .und, .und, .und, .und, .und, .und, .und, .und, .und, .und, .und, .und, .und, .und, .und, .und, .und, .und] : List V)) (rs := [.tmp 2]) rfl (by kernel_rfl) (by kernel_rfl) (by kernel_rfl) (by kernel_rfl) (by kernel_rfl) (by kernel_rfl) ?_
  show wC Try.prog dcfg.pol (CallR dcfg) (LoopR dcfg) c4_0 _ _ _
  simp only [w4_0, w4_1, w4_1_0, w4_2, w4_3, w4_4, w4_4_0, w4_5, w4_6, w4_7, w4_7_0, w4_8, w4_9, seqK]
  refine long_callW hlen (fun b hb => ?_)
  cases b with
  | true =>
    refine condT ?_
    refine awake_callW ?_
    rfl
  | false =>
    obtain ⟨h1, h2⟩ := hb rfl
    refine condF ?_
    simp only [w4_10, w4_11, w4_11_0, w4_12, w4_13, w4_13_0, w4_14, w4_15, w4_16, w4_16_0, w4_17, w4_18, seqK]
    refine mk0 (.agg [.int .i64 0, .bool false, .int .i64 0, .nils, .nils]) (by kernel_rfl) ?_
    refine mk (.ptr (.own 15) 0 0) [(.own 15, zblk)] [.own 15] (by kernel_rfl) ?_
    refine mk allV [(.own 16, ablk)] [.own 16] (by kernel_rfl) ?_
    have fin : ∀ t6 t7 t8 t9 t10 t11 t12 t13 t14 t15 t16 t17 t18 t19 t20 t21 t22 t23 t24 t25 t26 t27 t28 t29 t30 t31 t32 t33 t34 t35 t36 t37 t38 t39 t40 t41 t42 t43 t44 t45 t46 t47 t48 t49 t50 t51 t52 t53 t54 t55 t56 t57 t58 t59 t60 t61 t62 t63 t64 t65 t66 t67 t68 t69 t70 t71 t72 t73 t74 t75 t76 t77 t78 t79 t80 t81 t82, LoopR dcfg c4_19 [actsV l, .und, .bool false, .nilp, allV, .int .i64 2, t6, t7, t8, t9, t10, t11, t12, t13, t14, t15, t16, t17, t18, t19, t20, t21, t22, t23, t24, t25, t26, t27, t28, t29, t30, t31, t32, t33, t34, t35, t36, t37, t38, t39, t40, t41, t42, t43, t44, t45, t46, t47, t48, t49, t50, t51, t52, t53, t54, t55, t56, t57, t58, t59, t60, t61, t62, t63, t64, t65, t66, t67, t68, t69, t70, t71, t72, t73, t74, t75, t76, t77, t78, t79, t80, t81, t82] HL (blockK 0 (seqK Try.prog dcfg.pol (CallR dcfg) (LoopR dcfg) c4_60 (wRes Try.prog [.tmp 2] fun r _ => r = .bool true))) := by
      intro t6 t7 t8 t9 t10 t11 t12 t13 t14 t15 t16 t17 t18 t19 t20 t21 t22 t23 t24 t25 t26 t27 t28 t29 t30 t31 t32 t33 t34 t35 t36 t37 t38 t39 t40 t41 t42 t43 t44 t45 t46 t47 t48 t49 t50 t51 t52 t53 t54 t55 t56 t57 t58 t59 t60 t61 t62 t63 t64 t65 t66 t67 t68 t69 t70 t71 t72 t73 t74 t75 t76 t77 t78 t79 t80 t81 t82
      refine LoopR.step ?_
      show wC Try.prog dcfg.pol (CallR dcfg) (LoopR dcfg) c4_19 _ HL _
      simp only [w4_19, w4_20, w4_21, w4_21_0, w4_22, w4_24, seqK, blockK, len50]
      refine mk0 (.int .i64 2) (by rfl) ?_
      refine mk0 (.bool false) (by rfl) ?_
      refine condF ?_
      simp only [if_true, w4_60, w4_61, w4_61_0, w4_62, seqK]
      refine awake_callW ?_
      rfl
    refine round h1 h2 nob_nil (kk := 0) (p := .ptr (.own 16) 0 0) (rd := [.own 16]) (by decide) (by decide) (by rfl) (by rfl) ?_ _ _ _ _ _ _ _ _ _ _ _ _ _ _ _ _ _ _ _ _ _ _ _ _ _ _ _ _ _ _ _ _ _ _ _ _ _ _ _ _ _ _ _ _ _ _ _ _ _ _ _ _ _ _ _ _ _ _ _ _ _ _ _ _ _ _ _ _ _ _ _ _ _ _ _ _ _ 
    intro t6 t7 t8 t9 t10 t11 t12 t13 t14 t15 t16 t17 t18 t19 t20 t21 t22 t23 t24 t25 t26 t27 t28 t29 t30 t31 t32 t33 t34 t35 t36 t37 t38 t39 t40 t41 t42 t43 t44 t45 t46 t47 t48 t49 t50 t51 t52 t53 t54 t55 t56 t57 t58 t59 t60 t61 t62 t63 t64 t65 t66 t67 t68 t69 t70 t71 t72 t73 t74 t75 t76 t77 t78 t79 t80 t81 t82
    refine round h1 h2 nob_ptr (kk := 1) (p := .ptr (.own 16) 0 1) (rd := [.own 16]) (by decide) (by decide) (by rfl) (by rfl) ?_ _ _ _ _ _ _ _ _ _ _ _ _ _ _ _ _ _ _ _ _ _ _ _ _ _ _ _ _ _ _ _ _ _ _ _ _ _ _ _ _ _ _ _ _ _ _ _ _ _ _ _ _ _ _ _ _ _ _ _ _ _ _ _ _ _ _ _ _ _ _ _ _ _ _ _ _ _ 
    intro t6 t7 t8 t9 t10 t11 t12 t13 t14 t15 t16 t17 t18 t19 t20 t21 t22 t23 t24 t25 t26 t27 t28 t29 t30 t31 t32 t33 t34 t35 t36 t37 t38 t39 t40 t41 t42 t43 t44 t45 t46 t47 t48 t49 t50 t51 t52 t53 t54 t55 t56 t57 t58 t59 t60 t61 t62 t63 t64 t65 t66 t67 t68 t69 t70 t71 t72 t73 t74 t75 t76 t77 t78 t79 t80 t81 t82
    exact fin ..
end Go.Proofs.Ytcamcfplcoklkaa.Iv
