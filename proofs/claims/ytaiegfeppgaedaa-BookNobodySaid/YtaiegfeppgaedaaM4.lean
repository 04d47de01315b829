import Derived.Test.YtaiegfeppgaedaaM3
import Derived.Test.YtaiegfeppgaedaaProg
namespace Go.Proofs.Ytaiegfeppgaedaa.Iv
open Go
set_option linter.unusedVariables false
-- incipit/incipitlaw28.awake
noncomputable def c7_0 : Code := cAt [] (bodyOf Try.f7)
noncomputable def c7_1 : Code := cAt [0] (bodyOf Try.f7)
noncomputable def o7_1 : Array Oper := opsOf c7_1
noncomputable def d7_1_0 : List Oper := o7_1.toList
noncomputable def c7_2 : Code := cAt [1] (bodyOf Try.f7)
noncomputable def c7_3 : Code := cAt [1, 0] (bodyOf Try.f7)
noncomputable def o7_3 : Array Oper := opsOf c7_3
noncomputable def d7_3_0 : List Oper := o7_3.toList
noncomputable def c7_4 : Code := cAt [1, 1] (bodyOf Try.f7)
noncomputable def c7_5 : Code := cAt [1, 1, 0] (bodyOf Try.f7)
noncomputable def c7_6 : Code := cAt [1, 1, 0, 0] (bodyOf Try.f7)
noncomputable def o7_6 : Array Oper := opsOf c7_6
noncomputable def d7_6_0 : List Oper := o7_6.toList
noncomputable def c7_7 : Code := cAt [1, 1, 0, 1] (bodyOf Try.f7)
noncomputable def c7_8 : Code := cAt [1, 1, 0, 1, 0] (bodyOf Try.f7)
noncomputable def c7_9 : Code := cAt [1, 1, 0, 1, 0, 0] (bodyOf Try.f7)
noncomputable def o7_9 : Array Oper := opsOf c7_9
noncomputable def d7_9_0 : List Oper := o7_9.toList
noncomputable def c7_10 : Code := cAt [1, 1, 0, 1, 0, 1] (bodyOf Try.f7)
noncomputable def c7_11 : Code := cAt [1, 1, 0, 1, 1] (bodyOf Try.f7)
noncomputable def c7_12 : Code := cAt [1, 1, 1] (bodyOf Try.f7)
noncomputable def c7_13 : Code := cAt [1, 1, 1, 0] (bodyOf Try.f7)
noncomputable def o7_13 : Array Oper := opsOf c7_13
noncomputable def d7_13_0 : List Oper := o7_13.toList
noncomputable def c7_14 : Code := cAt [1, 1, 1, 1] (bodyOf Try.f7)
noncomputable def c7_15 : Code := cAt [1, 1, 1, 1, 0] (bodyOf Try.f7)
noncomputable def c7_16 : Code := cAt [1, 1, 1, 1, 0, 0] (bodyOf Try.f7)
noncomputable def o7_16 : Array Oper := opsOf c7_16
noncomputable def d7_16_0 : List Oper := o7_16.toList
noncomputable def p7_16_0 : List Oper := d7_16_0.take 12
noncomputable def d7_16_12 : List Oper := d7_16_0.drop 12
noncomputable def p7_16_12 : List Oper := d7_16_12.take 12
noncomputable def d7_16_24 : List Oper := d7_16_12.drop 12
noncomputable def c7_17 : Code := cAt [1, 1, 1, 1, 0, 1] (bodyOf Try.f7)
noncomputable def c7_18 : Code := cAt [1, 1, 1, 1, 0, 1, 0] (bodyOf Try.f7)
noncomputable def c7_19 : Code := cAt [1, 1, 1, 1, 0, 1, 0, 0] (bodyOf Try.f7)
noncomputable def o7_19 : Array Oper := opsOf c7_19
noncomputable def d7_19_0 : List Oper := o7_19.toList
noncomputable def c7_20 : Code := cAt [1, 1, 1, 1, 0, 1, 0, 1] (bodyOf Try.f7)
noncomputable def c7_21 : Code := cAt [1, 1, 1, 1, 0, 1, 1] (bodyOf Try.f7)
noncomputable def c7_22 : Code := cAt [1, 1, 1, 1, 1] (bodyOf Try.f7)
noncomputable def c7_23 : Code := cAt [1, 1, 1, 1, 1, 0] (bodyOf Try.f7)
noncomputable def o7_23 : Array Oper := opsOf c7_23
noncomputable def d7_23_0 : List Oper := o7_23.toList
noncomputable def p7_23_0 : List Oper := d7_23_0.take 12
noncomputable def d7_23_12 : List Oper := d7_23_0.drop 12
noncomputable def c7_24 : Code := cAt [1, 1, 1, 1, 1, 1] (bodyOf Try.f7)
theorem w7_0 {pol : Nat → Pol} {cl : CallW} {lp : LoopW} {env : List V} {H : Heap} {Q : KQ} : wC Try.prog pol cl lp c7_0 env H Q = wC Try.prog pol cl lp c7_1 env H (seqK Try.prog pol cl lp c7_2 Q) := wC_seq (by kernel_rfl)
theorem w7_1 {pol : Nat → Pol} {cl : CallW} {lp : LoopW} {env : List V} {H : Heap} {Q : KQ} : wC Try.prog pol cl lp c7_1 env H Q = wOps Try.prog pol cl o7_1 d7_1_0 0 env H (Q .nrm) := wC_reg (i := 0) (by kernel_rfl) rfl
theorem w7_1_0 {pol : Nat → Pol} {cl : CallW} {t0 t1 t2 t3 t4 t5 t6 t7 t8 t9 t10 t11 t12 t13 t14 t15 t16 t17 t18 t19 t20 t21 t22 t23 t24 t25 t26 t27 t28 t29 t30 t31 t32 t33 t34 t35 t36 t37 t38 t39 t40 t41 t42 t43 t44 t45 t46 t47 t48 t49 t50 t51 t52 t53 t54 t55 t56 t57 t58 t59 t60 t61 t62 t63 t64 t65 t66 t67 t68 t69 t70 t71 t72 t73 t74 t75 t76 t77 t78 t79 : V} {H : Heap} {Q : List V → Heap → Prop} : wOps Try.prog pol cl o7_1 d7_1_0 0 [t0, t1, t2, t3, t4, t5, t6, t7, t8, t9, t10, t11, t12, t13, t14, t15, t16, t17, t18, t19, t20, t21, t22, t23, t24, t25, t26, t27, t28, t29, t30, t31, t32, t33, t34, t35, t36, t37, t38, t39, t40, t41, t42, t43, t44, t45, t46, t47, t48, t49, t50, t51, t52, t53, t54, t55, t56, t57, t58, t59, t60, t61, t62, t63, t64, t65, t66, t67, t68, t69, t70, t71, t72, t73, t74, t75, t76, t77, t78, t79] H Q = (
  Q [(.bool false), t1, t2, t3, t4, t5, t6, t7, t8, t9, t10, t11, t12, t13, t14, t15, t16, t17, t18, t19, t20, t21, t22, t23, t24, t25, t26, t27, t28, t29, t30, t31, t32, t33, t34, t35, t36, t37, t38, t39, t40, t41, t42, t43, t44, t45, t46, t47, t48, t49, t50, t51, t52, t53, t54, t55, t56, t57, t58, t59, t60, t61, t62, t63, t64, t65, t66, t67, t68, t69, t70, t71, t72, t73, t74, t75, t76, t77, t78, t79] H) := by kernel_rfl
theorem w7_2 {pol : Nat → Pol} {cl : CallW} {lp : LoopW} {env : List V} {H : Heap} {Q : KQ} : wC Try.prog pol cl lp c7_2 env H Q = wC Try.prog pol cl lp c7_3 env H (seqK Try.prog pol cl lp c7_4 Q) := wC_seq (by kernel_rfl)
theorem w7_3 {pol : Nat → Pol} {cl : CallW} {lp : LoopW} {env : List V} {H : Heap} {Q : KQ} : wC Try.prog pol cl lp c7_3 env H Q = wOps Try.prog pol cl o7_3 d7_3_0 0 env H (Q .nrm) := wC_reg (i := 1) (by kernel_rfl) rfl
theorem w7_3_0 {pol : Nat → Pol} {cl : CallW} {t0 t1 t2 t3 t4 t5 t6 t7 t8 t9 t10 t11 t12 t13 t14 t15 t16 t17 t18 t19 t20 t21 t22 t23 t24 t25 t26 t27 t28 t29 t30 t31 t32 t33 t34 t35 t36 t37 t38 t39 t40 t41 t42 t43 t44 t45 t46 t47 t48 t49 t50 t51 t52 t53 t54 t55 t56 t57 t58 t59 t60 t61 t62 t63 t64 t65 t66 t67 t68 t69 t70 t71 t72 t73 t74 t75 t76 t77 t78 t79 : V} {H : Heap} {Q : List V → Heap → Prop} : wOps Try.prog pol cl o7_3 d7_3_0 0 [t0, t1, t2, t3, t4, t5, t6, t7, t8, t9, t10, t11, t12, t13, t14, t15, t16, t17, t18, t19, t20, t21, t22, t23, t24, t25, t26, t27, t28, t29, t30, t31, t32, t33, t34, t35, t36, t37, t38, t39, t40, t41, t42, t43, t44, t45, t46, t47, t48, t49, t50, t51, t52, t53, t54, t55, t56, t57, t58, t59, t60, t61, t62, t63, t64, t65, t66, t67, t68, t69, t70, t71, t72, t73, t74, t75, t76, t77, t78, t79] H Q = (
  callW pol cl H 7 16 [(.int .i64 9)] fun v1 H1 =>
  stepW (extractO v1 0) H1 fun v2 H2 =>
  stepW (extractO v1 1) H2 fun v3 H3 =>
  Q [t0, v2, v3, t3, t4, t5, v1, v1, v2, v3, t10, t11, t12, t13, t14, t15, t16, t17, t18, t19, t20, t21, t22, t23, t24, t25, t26, t27, t28, t29, t30, t31, t32, t33, t34, t35, t36, t37, t38, t39, t40, t41, t42, t43, t44, t45, t46, t47, t48, t49, t50, t51, t52, t53, t54, t55, t56, t57, t58, t59, t60, t61, t62, t63, t64, t65, t66, t67, t68, t69, t70, t71, t72, t73, t74, t75, t76, t77, t78, t79] H3) := by kernel_rfl
theorem w7_4 {pol : Nat → Pol} {cl : CallW} {lp : LoopW} {env : List V} {H : Heap} {Q : KQ} : wC Try.prog pol cl lp c7_4 env H Q = wC Try.prog pol cl lp c7_5 env H (seqK Try.prog pol cl lp c7_12 Q) := wC_seq (by kernel_rfl)
theorem w7_5 {pol : Nat → Pol} {cl : CallW} {lp : LoopW} {env : List V} {H : Heap} {Q : KQ} : wC Try.prog pol cl lp c7_5 env H Q = wC Try.prog pol cl lp c7_6 env H (seqK Try.prog pol cl lp c7_7 Q) := wC_seq (by kernel_rfl)
theorem w7_6 {pol : Nat → Pol} {cl : CallW} {lp : LoopW} {env : List V} {H : Heap} {Q : KQ} : wC Try.prog pol cl lp c7_6 env H Q = wOps Try.prog pol cl o7_6 d7_6_0 0 env H (Q .nrm) := wC_reg (i := 2) (by kernel_rfl) rfl
theorem w7_6_0 {pol : Nat → Pol} {cl : CallW} {t0 t1 t2 t3 t4 t5 t6 t7 t8 t9 t10 t11 t12 t13 t14 t15 t16 t17 t18 t19 t20 t21 t22 t23 t24 t25 t26 t27 t28 t29 t30 t31 t32 t33 t34 t35 t36 t37 t38 t39 t40 t41 t42 t43 t44 t45 t46 t47 t48 t49 t50 t51 t52 t53 t54 t55 t56 t57 t58 t59 t60 t61 t62 t63 t64 t65 t66 t67 t68 t69 t70 t71 t72 t73 t74 t75 t76 t77 t78 t79 : V} {H : Heap} {Q : List V → Heap → Prop} : wOps Try.prog pol cl o7_6 d7_6_0 0 [t0, t1, t2, t3, t4, t5, t6, t7, t8, t9, t10, t11, t12, t13, t14, t15, t16, t17, t18, t19, t20, t21, t22, t23, t24, t25, t26, t27, t28, t29, t30, t31, t32, t33, t34, t35, t36, t37, t38, t39, t40, t41, t42, t43, t44, t45, t46, t47, t48, t49, t50, t51, t52, t53, t54, t55, t56, t57, t58, t59, t60, t61, t62, t63, t64, t65, t66, t67, t68, t69, t70, t71, t72, t73, t74, t75, t76, t77, t78, t79] H Q = (
  stepW (liftO (evBin Try.prog 33 .neq t2 (.int .i64 0))) H fun v1 H1 =>
  guardW v1 false H1 (fun q => q ⟨t1, [], []⟩) fun v2 H2 =>
  guardW v1 false H2 (wCall pol cl H2 14 14 [v2, (.int .i64 7)]) fun v3 H3 =>
  guardW v1 false H3 (outW (liftO (evBin Try.prog 33 .neq v3 (.int .i64 1)))) fun v4 H4 =>
  stepW (pickO v1 (.bool true) v4) H4 fun v5 H5 =>
  guardW v5 false H5 (fun q => q ⟨t1, [], []⟩) fun v6 H6 =>
  guardW v5 false H6 (wCall pol cl H6 19 14 [v6, (.int .i64 0)]) fun v7 H7 =>
  guardW v5 false H7 (outW (liftO (evBin Try.prog 33 .neq v7 (.int .i64 1)))) fun v8 H8 =>
  stepW (pickO v5 (.bool true) v8) H8 fun v9 H9 =>
  Q [t0, t1, t2, t3, t4, t5, t6, t7, t8, t9, t2, v1, v1, v2, v3, v4, v5, v5, v6, v7, v8, v9, t22, t23, t24, t25, t26, t27, t28, t29, t30, t31, t32, t33, t34, t35, t36, t37, t38, t39, t40, t41, t42, t43, t44, t45, t46, t47, t48, t49, t50, t51, t52, t53, t54, t55, t56, t57, t58, t59, t60, t61, t62, t63, t64, t65, t66, t67, t68, t69, t70, t71, t72, t73, t74, t75, t76, t77, t78, t79] H9) := by kernel_rfl
theorem w7_7 {pol : Nat → Pol} {cl : CallW} {lp : LoopW} {env : List V} {H : Heap} {Q : KQ} : wC Try.prog pol cl lp c7_7 env H Q = condW (evOperand env (Operand.tmp 21)) (wC Try.prog pol cl lp c7_8 env H Q) (wC Try.prog pol cl lp c7_11 env H Q) := wC_cond (by kernel_rfl)
theorem w7_8 {pol : Nat → Pol} {cl : CallW} {lp : LoopW} {env : List V} {H : Heap} {Q : KQ} : wC Try.prog pol cl lp c7_8 env H Q = wC Try.prog pol cl lp c7_9 env H (seqK Try.prog pol cl lp c7_10 Q) := wC_seq (by kernel_rfl)
theorem w7_9 {pol : Nat → Pol} {cl : CallW} {lp : LoopW} {env : List V} {H : Heap} {Q : KQ} : wC Try.prog pol cl lp c7_9 env H Q = wOps Try.prog pol cl o7_9 d7_9_0 0 env H (Q .nrm) := wC_reg (i := 3) (by kernel_rfl) rfl
theorem w7_9_0 {pol : Nat → Pol} {cl : CallW} {t0 t1 t2 t3 t4 t5 t6 t7 t8 t9 t10 t11 t12 t13 t14 t15 t16 t17 t18 t19 t20 t21 t22 t23 t24 t25 t26 t27 t28 t29 t30 t31 t32 t33 t34 t35 t36 t37 t38 t39 t40 t41 t42 t43 t44 t45 t46 t47 t48 t49 t50 t51 t52 t53 t54 t55 t56 t57 t58 t59 t60 t61 t62 t63 t64 t65 t66 t67 t68 t69 t70 t71 t72 t73 t74 t75 t76 t77 t78 t79 : V} {H : Heap} {Q : List V → Heap → Prop} : wOps Try.prog pol cl o7_9 d7_9_0 0 [t0, t1, t2, t3, t4, t5, t6, t7, t8, t9, t10, t11, t12, t13, t14, t15, t16, t17, t18, t19, t20, t21, t22, t23, t24, t25, t26, t27, t28, t29, t30, t31, t32, t33, t34, t35, t36, t37, t38, t39, t40, t41, t42, t43, t44, t45, t46, t47, t48, t49, t50, t51, t52, t53, t54, t55, t56, t57, t58, t59, t60, t61, t62, t63, t64, t65, t66, t67, t68, t69, t70, t71, t72, t73, t74, t75, t76, t77, t78, t79] H Q = (
  Q [(.bool false), t1, t2, t3, t4, t5, t6, t7, t8, t9, t10, t11, t12, t13, t14, t15, t16, t17, t18, t19, t20, t21, t22, t23, t24, t25, t26, t27, t28, t29, t30, t31, t32, t33, t34, t35, t36, t37, t38, t39, t40, t41, t42, t43, t44, t45, t46, t47, t48, t49, t50, t51, t52, t53, t54, t55, t56, t57, t58, t59, t60, t61, t62, t63, t64, t65, t66, t67, t68, t69, t70, t71, t72, t73, t74, t75, t76, t77, t78, t79] H) := by kernel_rfl
theorem w7_10 {pol : Nat → Pol} {cl : CallW} {lp : LoopW} {env : List V} {H : Heap} {Q : KQ} : wC Try.prog pol cl lp c7_10 env H Q = Q .ret env H := wC_ret (by kernel_rfl)
theorem w7_11 {pol : Nat → Pol} {cl : CallW} {lp : LoopW} {env : List V} {H : Heap} {Q : KQ} : wC Try.prog pol cl lp c7_11 env H Q = Q .nrm env H := wC_skip (by kernel_rfl)
theorem w7_12 {pol : Nat → Pol} {cl : CallW} {lp : LoopW} {env : List V} {H : Heap} {Q : KQ} : wC Try.prog pol cl lp c7_12 env H Q = wC Try.prog pol cl lp c7_13 env H (seqK Try.prog pol cl lp c7_14 Q) := wC_seq (by kernel_rfl)
theorem w7_13 {pol : Nat → Pol} {cl : CallW} {lp : LoopW} {env : List V} {H : Heap} {Q : KQ} : wC Try.prog pol cl lp c7_13 env H Q = wOps Try.prog pol cl o7_13 d7_13_0 0 env H (Q .nrm) := wC_reg (i := 4) (by kernel_rfl) rfl
theorem w7_13_0 {pol : Nat → Pol} {cl : CallW} {t0 t1 t2 t3 t4 t5 t6 t7 t8 t9 t10 t11 t12 t13 t14 t15 t16 t17 t18 t19 t20 t21 t22 t23 t24 t25 t26 t27 t28 t29 t30 t31 t32 t33 t34 t35 t36 t37 t38 t39 t40 t41 t42 t43 t44 t45 t46 t47 t48 t49 t50 t51 t52 t53 t54 t55 t56 t57 t58 t59 t60 t61 t62 t63 t64 t65 t66 t67 t68 t69 t70 t71 t72 t73 t74 t75 t76 t77 t78 t79 : V} {H : Heap} {Q : List V → Heap → Prop} : wOps Try.prog pol cl o7_13 d7_13_0 0 [t0, t1, t2, t3, t4, t5, t6, t7, t8, t9, t10, t11, t12, t13, t14, t15, t16, t17, t18, t19, t20, t21, t22, t23, t24, t25, t26, t27, t28, t29, t30, t31, t32, t33, t34, t35, t36, t37, t38, t39, t40, t41, t42, t43, t44, t45, t46, t47, t48, t49, t50, t51, t52, t53, t54, t55, t56, t57, t58, t59, t60, t61, t62, t63, t64, t65, t66, t67, t68, t69, t70, t71, t72, t73, t74, t75, t76, t77, t78, t79] H Q = (
  callW pol cl H 23 18 [(.int .i64 9), (.int .i64 4)] fun v1 H1 =>
  stepW (extractO v1 0) H1 fun v2 H2 =>
  stepW (extractO v1 1) H2 fun v3 H3 =>
  stepW (extractO v1 2) H3 fun v4 H4 =>
  Q [t0, t1, t2, v2, v3, v4, t6, t7, t8, t9, t10, t11, t12, t13, t14, t15, t16, t17, t18, t19, t20, t21, v1, v1, v2, v3, v4, t27, t28, t29, t30, t31, t32, t33, t34, t35, t36, t37, t38, t39, t40, t41, t42, t43, t44, t45, t46, t47, t48, t49, t50, t51, t52, t53, t54, t55, t56, t57, t58, t59, t60, t61, t62, t63, t64, t65, t66, t67, t68, t69, t70, t71, t72, t73, t74, t75, t76, t77, t78, t79] H4) := by kernel_rfl
theorem w7_14 {pol : Nat → Pol} {cl : CallW} {lp : LoopW} {env : List V} {H : Heap} {Q : KQ} : wC Try.prog pol cl lp c7_14 env H Q = wC Try.prog pol cl lp c7_15 env H (seqK Try.prog pol cl lp c7_22 Q) := wC_seq (by kernel_rfl)
theorem w7_15 {pol : Nat → Pol} {cl : CallW} {lp : LoopW} {env : List V} {H : Heap} {Q : KQ} : wC Try.prog pol cl lp c7_15 env H Q = wC Try.prog pol cl lp c7_16 env H (seqK Try.prog pol cl lp c7_17 Q) := wC_seq (by kernel_rfl)
theorem w7_16 {pol : Nat → Pol} {cl : CallW} {lp : LoopW} {env : List V} {H : Heap} {Q : KQ} : wC Try.prog pol cl lp c7_16 env H Q = wOps Try.prog pol cl o7_16 d7_16_0 0 env H (Q .nrm) := wC_reg (i := 5) (by kernel_rfl) rfl
theorem w7_16_0c {pol : Nat → Pol} {cl : CallW} {env : List V} {H : Heap} {Q : List V → Heap → Prop} : wOps Try.prog pol cl o7_16 d7_16_0 0 env H Q = wOps Try.prog pol cl o7_16 p7_16_0 0 env H (fun env H => wOps Try.prog pol cl o7_16 d7_16_12 12 env H Q) := wOps_cut (by kernel_rfl) (by kernel_rfl)
theorem w7_16_0 {pol : Nat → Pol} {cl : CallW} {t0 t1 t2 t3 t4 t5 t6 t7 t8 t9 t10 t11 t12 t13 t14 t15 t16 t17 t18 t19 t20 t21 t22 t23 t24 t25 t26 t27 t28 t29 t30 t31 t32 t33 t34 t35 t36 t37 t38 t39 t40 t41 t42 t43 t44 t45 t46 t47 t48 t49 t50 t51 t52 t53 t54 t55 t56 t57 t58 t59 t60 t61 t62 t63 t64 t65 t66 t67 t68 t69 t70 t71 t72 t73 t74 t75 t76 t77 t78 t79 : V} {H : Heap} {Q : List V → Heap → Prop} : wOps Try.prog pol cl o7_16 p7_16_0 0 [t0, t1, t2, t3, t4, t5, t6, t7, t8, t9, t10, t11, t12, t13, t14, t15, t16, t17, t18, t19, t20, t21, t22, t23, t24, t25, t26, t27, t28, t29, t30, t31, t32, t33, t34, t35, t36, t37, t38, t39, t40, t41, t42, t43, t44, t45, t46, t47, t48, t49, t50, t51, t52, t53, t54, t55, t56, t57, t58, t59, t60, t61, t62, t63, t64, t65, t66, t67, t68, t69, t70, t71, t72, t73, t74, t75, t76, t77, t78, t79] H Q = (
  stepW (liftO (evUn .not t5)) H fun v1 H1 =>
  guardW v1 false H1 (fun q => q ⟨t4, [], []⟩) fun v2 H2 =>
  guardW v1 false H2 (wCall pol cl H2 31 10 [v2]) fun v3 H3 =>
  guardW v1 false H3 (outW (liftO (evBin Try.prog 3 .neq v3 (.int .i64 0)))) fun v4 H4 =>
  stepW (pickO v1 (.bool true) v4) H4 fun v5 H5 =>
  guardW v5 false H5 (fun q => q ⟨t4, [], []⟩) fun v6 H6 =>
  guardW v5 false H6 (wCall pol cl H6 36 12 [v6, (.int .i64 4), (.int .i64 3)]) fun v7 H7 =>
  guardW v5 false H7 (outW (liftO (evUn .not v7))) fun v8 H8 =>
  stepW (pickO v5 (.bool true) v8) H8 fun v9 H9 =>
  Q [t0, t1, t2, t3, t4, t5, t6, t7, t8, t9, t10, t11, t12, t13, t14, t15, t16, t17, t18, t19, t20, t21, t22, t23, t24, t25, t26, t5, v1, v1, v2, v3, v4, v5, v5, v6, v7, v8, v9, t39, t40, t41, t42, t43, t44, t45, t46, t47, t48, t49, t50, t51, t52, t53, t54, t55, t56, t57, t58, t59, t60, t61, t62, t63, t64, t65, t66, t67, t68, t69, t70, t71, t72, t73, t74, t75, t76, t77, t78, t79] H9) := by kernel_rfl
theorem w7_16_12c {pol : Nat → Pol} {cl : CallW} {env : List V} {H : Heap} {Q : List V → Heap → Prop} : wOps Try.prog pol cl o7_16 d7_16_12 12 env H Q = wOps Try.prog pol cl o7_16 p7_16_12 12 env H (fun env H => wOps Try.prog pol cl o7_16 d7_16_24 24 env H Q) := wOps_cut (by kernel_rfl) (by kernel_rfl)
theorem w7_16_12 {pol : Nat → Pol} {cl : CallW} {t0 t1 t2 t3 t4 t5 t6 t7 t8 t9 t10 t11 t12 t13 t14 t15 t16 t17 t18 t19 t20 t21 t22 t23 t24 t25 t26 t27 t28 t29 t30 t31 t32 t33 t34 t35 t36 t37 t38 t39 t40 t41 t42 t43 t44 t45 t46 t47 t48 t49 t50 t51 t52 t53 t54 t55 t56 t57 t58 t59 t60 t61 t62 t63 t64 t65 t66 t67 t68 t69 t70 t71 t72 t73 t74 t75 t76 t77 t78 t79 : V} {H : Heap} {Q : List V → Heap → Prop} : wOps Try.prog pol cl o7_16 p7_16_12 12 [t0, t1, t2, t3, t4, t5, t6, t7, t8, t9, t10, t11, t12, t13, t14, t15, t16, t17, t18, t19, t20, t21, t22, t23, t24, t25, t26, t27, t28, t29, t30, t31, t32, t33, t34, t35, t36, t37, t38, t39, t40, t41, t42, t43, t44, t45, t46, t47, t48, t49, t50, t51, t52, t53, t54, t55, t56, t57, t58, t59, t60, t61, t62, t63, t64, t65, t66, t67, t68, t69, t70, t71, t72, t73, t74, t75, t76, t77, t78, t79] H Q = (
  guardW t38 false H (fun q => q ⟨t4, [], []⟩) fun v1 H1 =>
  guardW t38 false H1 (outW (evBuildSlice Try.prog H1 41 22 1 [(0, (.int .u8 97))])) fun v2 H2 =>
  guardW t38 false H2 (outW (evConvert Try.prog H2 22 22 v2)) fun v3 H3 =>
  guardW t38 false H3 (wCall pol cl H3 43 8 [v1, v3]) fun v4 H4 =>
  guardW t38 false H4 (outW (liftO (evBin Try.prog 33 .neq v4 (.int .i64 0)))) fun v5 H5 =>
  stepW (pickO t38 (.bool true) v5) H5 fun v6 H6 =>
  guardW v6 false H6 (fun q => q ⟨t4, [], []⟩) fun v7 H7 =>
  guardW v6 false H7 (outW (evMakeSlice Try.prog H7 48 22 (.int .i64 70) (.int .i64 70))) fun v8 H8 =>
  guardW v6 false H8 (wCall pol cl H8 49 8 [v7, v8]) fun v9 H9 =>
  guardW v6 false H9 (outW (liftO (evBin Try.prog 33 .neq v9 (.int .i64 0)))) fun v10 H10 =>
  Q [t0, t1, t2, t3, t4, t5, t6, t7, t8, t9, t10, t11, t12, t13, t14, t15, t16, t17, t18, t19, t20, t21, t22, t23, t24, t25, t26, t27, t28, t29, t30, t31, t32, t33, t34, t35, t36, t37, t38, t38, v1, v2, v3, v4, v5, v6, v6, v7, v8, v9, v10, t51, t52, t53, t54, t55, t56, t57, t58, t59, t60, t61, t62, t63, t64, t65, t66, t67, t68, t69, t70, t71, t72, t73, t74, t75, t76, t77, t78, t79] H10) := by kernel_rfl
theorem w7_16_24 {pol : Nat → Pol} {cl : CallW} {t0 t1 t2 t3 t4 t5 t6 t7 t8 t9 t10 t11 t12 t13 t14 t15 t16 t17 t18 t19 t20 t21 t22 t23 t24 t25 t26 t27 t28 t29 t30 t31 t32 t33 t34 t35 t36 t37 t38 t39 t40 t41 t42 t43 t44 t45 t46 t47 t48 t49 t50 t51 t52 t53 t54 t55 t56 t57 t58 t59 t60 t61 t62 t63 t64 t65 t66 t67 t68 t69 t70 t71 t72 t73 t74 t75 t76 t77 t78 t79 : V} {H : Heap} {Q : List V → Heap → Prop} : wOps Try.prog pol cl o7_16 d7_16_24 24 [t0, t1, t2, t3, t4, t5, t6, t7, t8, t9, t10, t11, t12, t13, t14, t15, t16, t17, t18, t19, t20, t21, t22, t23, t24, t25, t26, t27, t28, t29, t30, t31, t32, t33, t34, t35, t36, t37, t38, t39, t40, t41, t42, t43, t44, t45, t46, t47, t48, t49, t50, t51, t52, t53, t54, t55, t56, t57, t58, t59, t60, t61, t62, t63, t64, t65, t66, t67, t68, t69, t70, t71, t72, t73, t74, t75, t76, t77, t78, t79] H Q = (
  stepW (pickO t46 (.bool true) t50) H fun v1 H1 =>
  guardW v1 false H1 (fun q => q ⟨t4, [], []⟩) fun v2 H2 =>
  guardW v1 false H2 (wCall pol cl H2 54 12 [v2, (.int .i64 1), (.int .i64 3)]) fun v3 H3 =>
  guardW v1 false H3 (outW (liftO (evUn .not v3))) fun v4 H4 =>
  stepW (pickO v1 (.bool true) v4) H4 fun v5 H5 =>
  Q [t0, t1, t2, t3, t4, t5, t6, t7, t8, t9, t10, t11, t12, t13, t14, t15, t16, t17, t18, t19, t20, t21, t22, t23, t24, t25, t26, t27, t28, t29, t30, t31, t32, t33, t34, t35, t36, t37, t38, t39, t40, t41, t42, t43, t44, t45, t46, t47, t48, t49, t50, v1, v1, v2, v3, v4, v5, t57, t58, t59, t60, t61, t62, t63, t64, t65, t66, t67, t68, t69, t70, t71, t72, t73, t74, t75, t76, t77, t78, t79] H5) := by kernel_rfl
theorem w7_17 {pol : Nat → Pol} {cl : CallW} {lp : LoopW} {env : List V} {H : Heap} {Q : KQ} : wC Try.prog pol cl lp c7_17 env H Q = condW (evOperand env (Operand.tmp 56)) (wC Try.prog pol cl lp c7_18 env H Q) (wC Try.prog pol cl lp c7_21 env H Q) := wC_cond (by kernel_rfl)
theorem w7_18 {pol : Nat → Pol} {cl : CallW} {lp : LoopW} {env : List V} {H : Heap} {Q : KQ} : wC Try.prog pol cl lp c7_18 env H Q = wC Try.prog pol cl lp c7_19 env H (seqK Try.prog pol cl lp c7_20 Q) := wC_seq (by kernel_rfl)
theorem w7_19 {pol : Nat → Pol} {cl : CallW} {lp : LoopW} {env : List V} {H : Heap} {Q : KQ} : wC Try.prog pol cl lp c7_19 env H Q = wOps Try.prog pol cl o7_19 d7_19_0 0 env H (Q .nrm) := wC_reg (i := 6) (by kernel_rfl) rfl
theorem w7_19_0 {pol : Nat → Pol} {cl : CallW} {t0 t1 t2 t3 t4 t5 t6 t7 t8 t9 t10 t11 t12 t13 t14 t15 t16 t17 t18 t19 t20 t21 t22 t23 t24 t25 t26 t27 t28 t29 t30 t31 t32 t33 t34 t35 t36 t37 t38 t39 t40 t41 t42 t43 t44 t45 t46 t47 t48 t49 t50 t51 t52 t53 t54 t55 t56 t57 t58 t59 t60 t61 t62 t63 t64 t65 t66 t67 t68 t69 t70 t71 t72 t73 t74 t75 t76 t77 t78 t79 : V} {H : Heap} {Q : List V → Heap → Prop} : wOps Try.prog pol cl o7_19 d7_19_0 0 [t0, t1, t2, t3, t4, t5, t6, t7, t8, t9, t10, t11, t12, t13, t14, t15, t16, t17, t18, t19, t20, t21, t22, t23, t24, t25, t26, t27, t28, t29, t30, t31, t32, t33, t34, t35, t36, t37, t38, t39, t40, t41, t42, t43, t44, t45, t46, t47, t48, t49, t50, t51, t52, t53, t54, t55, t56, t57, t58, t59, t60, t61, t62, t63, t64, t65, t66, t67, t68, t69, t70, t71, t72, t73, t74, t75, t76, t77, t78, t79] H Q = (
  Q [(.bool false), t1, t2, t3, t4, t5, t6, t7, t8, t9, t10, t11, t12, t13, t14, t15, t16, t17, t18, t19, t20, t21, t22, t23, t24, t25, t26, t27, t28, t29, t30, t31, t32, t33, t34, t35, t36, t37, t38, t39, t40, t41, t42, t43, t44, t45, t46, t47, t48, t49, t50, t51, t52, t53, t54, t55, t56, t57, t58, t59, t60, t61, t62, t63, t64, t65, t66, t67, t68, t69, t70, t71, t72, t73, t74, t75, t76, t77, t78, t79] H) := by kernel_rfl
theorem w7_20 {pol : Nat → Pol} {cl : CallW} {lp : LoopW} {env : List V} {H : Heap} {Q : KQ} : wC Try.prog pol cl lp c7_20 env H Q = Q .ret env H := wC_ret (by kernel_rfl)
theorem w7_21 {pol : Nat → Pol} {cl : CallW} {lp : LoopW} {env : List V} {H : Heap} {Q : KQ} : wC Try.prog pol cl lp c7_21 env H Q = Q .nrm env H := wC_skip (by kernel_rfl)
theorem w7_22 {pol : Nat → Pol} {cl : CallW} {lp : LoopW} {env : List V} {H : Heap} {Q : KQ} : wC Try.prog pol cl lp c7_22 env H Q = wC Try.prog pol cl lp c7_23 env H (seqK Try.prog pol cl lp c7_24 Q) := wC_seq (by kernel_rfl)
theorem w7_23 {pol : Nat → Pol} {cl : CallW} {lp : LoopW} {env : List V} {H : Heap} {Q : KQ} : wC Try.prog pol cl lp c7_23 env H Q = wOps Try.prog pol cl o7_23 d7_23_0 0 env H (Q .nrm) := wC_reg (i := 7) (by kernel_rfl) rfl
theorem w7_23_0c {pol : Nat → Pol} {cl : CallW} {env : List V} {H : Heap} {Q : List V → Heap → Prop} : wOps Try.prog pol cl o7_23 d7_23_0 0 env H Q = wOps Try.prog pol cl o7_23 p7_23_0 0 env H (fun env H => wOps Try.prog pol cl o7_23 d7_23_12 12 env H Q) := wOps_cut (by kernel_rfl) (by kernel_rfl)
theorem w7_23_0 {pol : Nat → Pol} {cl : CallW} {t0 t1 t2 t3 t4 t5 t6 t7 t8 t9 t10 t11 t12 t13 t14 t15 t16 t17 t18 t19 t20 t21 t22 t23 t24 t25 t26 t27 t28 t29 t30 t31 t32 t33 t34 t35 t36 t37 t38 t39 t40 t41 t42 t43 t44 t45 t46 t47 t48 t49 t50 t51 t52 t53 t54 t55 t56 t57 t58 t59 t60 t61 t62 t63 t64 t65 t66 t67 t68 t69 t70 t71 t72 t73 t74 t75 t76 t77 t78 t79 : V} {H : Heap} {Q : List V → Heap → Prop} : wOps Try.prog pol cl o7_23 p7_23_0 0 [t0, t1, t2, t3, t4, t5, t6, t7, t8, t9, t10, t11, t12, t13, t14, t15, t16, t17, t18, t19, t20, t21, t22, t23, t24, t25, t26, t27, t28, t29, t30, t31, t32, t33, t34, t35, t36, t37, t38, t39, t40, t41, t42, t43, t44, t45, t46, t47, t48, t49, t50, t51, t52, t53, t54, t55, t56, t57, t58, t59, t60, t61, t62, t63, t64, t65, t66, t67, t68, t69, t70, t71, t72, t73, t74, t75, t76, t77, t78, t79] H Q = (
  callW pol cl H 58 9 [t4] fun v1 H1 =>
  stepW (liftO (evBin Try.prog 33 .eql v1 (.int .i64 0))) H1 fun v2 H2 =>
  guardW v2 true H2 (fun q => q ⟨t4, [], []⟩) fun v3 H3 =>
  guardW v2 true H3 (wCall pol cl H3 62 11 [v3]) fun v4 H4 =>
  guardW v2 true H4 (outW (liftO (evBin Try.prog 3 .eql v4 (.int .i64 2)))) fun v5 H5 =>
  stepW (pickO v2 v5 (.bool false)) H5 fun v6 H6 =>
  guardW v6 true H6 (fun q => q ⟨t4, [], []⟩) fun v7 H7 =>
  guardW v6 true H7 (wCall pol cl H7 67 12 [v7, (.int .i64 4), (.int .i64 1)]) fun v8 H8 =>
  stepW (pickO v6 v8 (.bool false)) H8 fun v9 H9 =>
  Q [t0, t1, t2, t3, t4, t5, t6, t7, t8, t9, t10, t11, t12, t13, t14, t15, t16, t17, t18, t19, t20, t21, t22, t23, t24, t25, t26, t27, t28, t29, t30, t31, t32, t33, t34, t35, t36, t37, t38, t39, t40, t41, t42, t43, t44, t45, t46, t47, t48, t49, t50, t51, t52, t53, t54, t55, t56, t4, v1, v2, v2, v3, v4, v5, v6, v6, v7, v8, v9, t69, t70, t71, t72, t73, t74, t75, t76, t77, t78, t79] H9) := by kernel_rfl
theorem w7_23_12 {pol : Nat → Pol} {cl : CallW} {t0 t1 t2 t3 t4 t5 t6 t7 t8 t9 t10 t11 t12 t13 t14 t15 t16 t17 t18 t19 t20 t21 t22 t23 t24 t25 t26 t27 t28 t29 t30 t31 t32 t33 t34 t35 t36 t37 t38 t39 t40 t41 t42 t43 t44 t45 t46 t47 t48 t49 t50 t51 t52 t53 t54 t55 t56 t57 t58 t59 t60 t61 t62 t63 t64 t65 t66 t67 t68 t69 t70 t71 t72 t73 t74 t75 t76 t77 t78 t79 : V} {H : Heap} {Q : List V → Heap → Prop} : wOps Try.prog pol cl o7_23 d7_23_12 12 [t0, t1, t2, t3, t4, t5, t6, t7, t8, t9, t10, t11, t12, t13, t14, t15, t16, t17, t18, t19, t20, t21, t22, t23, t24, t25, t26, t27, t28, t29, t30, t31, t32, t33, t34, t35, t36, t37, t38, t39, t40, t41, t42, t43, t44, t45, t46, t47, t48, t49, t50, t51, t52, t53, t54, t55, t56, t57, t58, t59, t60, t61, t62, t63, t64, t65, t66, t67, t68, t69, t70, t71, t72, t73, t74, t75, t76, t77, t78, t79] H Q = (
  guardW t68 true H (fun q => q ⟨t4, [], []⟩) fun v1 H1 =>
  guardW t68 true H1 (outW (evMakeSlice Try.prog H1 71 22 (.int .i64 230) (.int .i64 230))) fun v2 H2 =>
  guardW t68 true H2 (wCall pol cl H2 72 8 [v1, v2]) fun v3 H3 =>
  guardW t68 true H3 (outW (liftO (evBin Try.prog 33 .eql v3 (.int .i64 7)))) fun v4 H4 =>
  stepW (pickO t68 v4 (.bool false)) H4 fun v5 H5 =>
  guardW v5 true H5 (fun q => q ⟨t4, [], []⟩) fun v6 H6 =>
  guardW v5 true H6 (wCall pol cl H6 77 10 [v6]) fun v7 H7 =>
  guardW v5 true H7 (outW (liftO (evBin Try.prog 3 .eql v7 (.int .i64 2)))) fun v8 H8 =>
  stepW (pickO v5 v8 (.bool false)) H8 fun v9 H9 =>
  Q [v9, t1, t2, t3, t4, t5, t6, t7, t8, t9, t10, t11, t12, t13, t14, t15, t16, t17, t18, t19, t20, t21, t22, t23, t24, t25, t26, t27, t28, t29, t30, t31, t32, t33, t34, t35, t36, t37, t38, t39, t40, t41, t42, t43, t44, t45, t46, t47, t48, t49, t50, t51, t52, t53, t54, t55, t56, t57, t58, t59, t60, t61, t62, t63, t64, t65, t66, t67, t68, t68, v1, v2, v3, v4, v5, v5, v6, v7, v8, v9] H9) := by kernel_rfl
theorem w7_24 {pol : Nat → Pol} {cl : CallW} {lp : LoopW} {env : List V} {H : Heap} {Q : KQ} : wC Try.prog pol cl lp c7_24 env H Q = Q .ret env H := wC_ret (by kernel_rfl)
-- incipit/incipitlaw28.BookNobody
noncomputable def c3_0 : Code := cAt [] (bodyOf Try.f3)
noncomputable def c3_1 : Code := cAt [0] (bodyOf Try.f3)
noncomputable def o3_1 : Array Oper := opsOf c3_1
noncomputable def d3_1_0 : List Oper := o3_1.toList
noncomputable def c3_2 : Code := cAt [1] (bodyOf Try.f3)
noncomputable def c3_3 : Code := cAt [1, 0] (bodyOf Try.f3)
noncomputable def c3_4 : Code := cAt [1, 0, 0] (bodyOf Try.f3)
noncomputable def o3_4 : Array Oper := opsOf c3_4
noncomputable def d3_4_0 : List Oper := o3_4.toList
noncomputable def c3_5 : Code := cAt [1, 0, 1] (bodyOf Try.f3)
noncomputable def c3_6 : Code := cAt [1, 0, 1, 0] (bodyOf Try.f3)
noncomputable def c3_7 : Code := cAt [1, 0, 1, 0, 0] (bodyOf Try.f3)
noncomputable def o3_7 : Array Oper := opsOf c3_7
noncomputable def d3_7_0 : List Oper := o3_7.toList
noncomputable def c3_8 : Code := cAt [1, 0, 1, 0, 1] (bodyOf Try.f3)
noncomputable def c3_9 : Code := cAt [1, 0, 1, 1] (bodyOf Try.f3)
noncomputable def c3_10 : Code := cAt [1, 1] (bodyOf Try.f3)
noncomputable def c3_11 : Code := cAt [1, 1, 0] (bodyOf Try.f3)
noncomputable def o3_11 : Array Oper := opsOf c3_11
noncomputable def d3_11_0 : List Oper := o3_11.toList
noncomputable def c3_12 : Code := cAt [1, 1, 1] (bodyOf Try.f3)
noncomputable def c3_13 : Code := cAt [1, 1, 1, 0] (bodyOf Try.f3)
noncomputable def o3_13 : Array Oper := opsOf c3_13
noncomputable def d3_13_0 : List Oper := o3_13.toList
noncomputable def c3_14 : Code := cAt [1, 1, 1, 1] (bodyOf Try.f3)
noncomputable def c3_15 : Code := cAt [1, 1, 1, 1, 0] (bodyOf Try.f3)
noncomputable def c3_16 : Code := cAt [1, 1, 1, 1, 0, 0] (bodyOf Try.f3)
noncomputable def o3_16 : Array Oper := opsOf c3_16
noncomputable def d3_16_0 : List Oper := o3_16.toList
noncomputable def c3_17 : Code := cAt [1, 1, 1, 1, 0, 1] (bodyOf Try.f3)
noncomputable def c3_18 : Code := cAt [1, 1, 1, 1, 0, 1, 0] (bodyOf Try.f3)
noncomputable def c3_19 : Code := cAt [1, 1, 1, 1, 0, 1, 0, 0] (bodyOf Try.f3)
noncomputable def c3_20 : Code := cAt [1, 1, 1, 1, 0, 1, 0, 0, 0] (bodyOf Try.f3)
noncomputable def c3_21 : Code := cAt [1, 1, 1, 1, 0, 1, 0, 0, 0, 0] (bodyOf Try.f3)
noncomputable def o3_21 : Array Oper := opsOf c3_21
noncomputable def d3_21_0 : List Oper := o3_21.toList
noncomputable def c3_22 : Code := cAt [1, 1, 1, 1, 0, 1, 0, 0, 0, 1] (bodyOf Try.f3)
noncomputable def c3_23 : Code := cAt [1, 1, 1, 1, 0, 1, 0, 0, 0, 1, 0] (bodyOf Try.f3)
noncomputable def c3_24 : Code := cAt [1, 1, 1, 1, 0, 1, 0, 0, 0, 1, 1] (bodyOf Try.f3)
noncomputable def c3_25 : Code := cAt [1, 1, 1, 1, 0, 1, 0, 0, 1] (bodyOf Try.f3)
noncomputable def c3_26 : Code := cAt [1, 1, 1, 1, 0, 1, 0, 0, 1, 0] (bodyOf Try.f3)
noncomputable def c3_27 : Code := cAt [1, 1, 1, 1, 0, 1, 0, 0, 1, 0, 0] (bodyOf Try.f3)
noncomputable def c3_28 : Code := cAt [1, 1, 1, 1, 0, 1, 0, 0, 1, 0, 0, 0] (bodyOf Try.f3)
noncomputable def o3_28 : Array Oper := opsOf c3_28
noncomputable def d3_28_0 : List Oper := o3_28.toList
noncomputable def c3_29 : Code := cAt [1, 1, 1, 1, 0, 1, 0, 0, 1, 0, 0, 1] (bodyOf Try.f3)
noncomputable def c3_30 : Code := cAt [1, 1, 1, 1, 0, 1, 0, 0, 1, 0, 0, 1, 0] (bodyOf Try.f3)
noncomputable def o3_30 : Array Oper := opsOf c3_30
noncomputable def d3_30_0 : List Oper := o3_30.toList
noncomputable def p3_30_0 : List Oper := d3_30_0.take 12
noncomputable def d3_30_12 : List Oper := d3_30_0.drop 12
noncomputable def c3_31 : Code := cAt [1, 1, 1, 1, 0, 1, 0, 0, 1, 0, 0, 1, 1] (bodyOf Try.f3)
noncomputable def c3_32 : Code := cAt [1, 1, 1, 1, 0, 1, 0, 0, 1, 0, 0, 1, 1, 0] (bodyOf Try.f3)
noncomputable def c3_33 : Code := cAt [1, 1, 1, 1, 0, 1, 0, 0, 1, 0, 0, 1, 1, 0, 0] (bodyOf Try.f3)
noncomputable def o3_33 : Array Oper := opsOf c3_33
noncomputable def d3_33_0 : List Oper := o3_33.toList
noncomputable def c3_34 : Code := cAt [1, 1, 1, 1, 0, 1, 0, 0, 1, 0, 0, 1, 1, 0, 1] (bodyOf Try.f3)
noncomputable def c3_35 : Code := cAt [1, 1, 1, 1, 0, 1, 0, 0, 1, 0, 0, 1, 1, 1] (bodyOf Try.f3)
noncomputable def c3_36 : Code := cAt [1, 1, 1, 1, 0, 1, 0, 0, 1, 1] (bodyOf Try.f3)
noncomputable def o3_36 : Array Oper := opsOf c3_36
noncomputable def d3_36_0 : List Oper := o3_36.toList
noncomputable def c3_37 : Code := cAt [1, 1, 1, 1, 1] (bodyOf Try.f3)
noncomputable def c3_38 : Code := cAt [1, 1, 1, 1, 1, 0] (bodyOf Try.f3)
noncomputable def o3_38 : Array Oper := opsOf c3_38
noncomputable def d3_38_0 : List Oper := o3_38.toList
noncomputable def c3_39 : Code := cAt [1, 1, 1, 1, 1, 1] (bodyOf Try.f3)
noncomputable def c3_40 : Code := cAt [1, 1, 1, 1, 1, 1, 0] (bodyOf Try.f3)
noncomputable def o3_40 : Array Oper := opsOf c3_40
noncomputable def d3_40_0 : List Oper := o3_40.toList
noncomputable def p3_40_0 : List Oper := d3_40_0.take 12
noncomputable def d3_40_12 : List Oper := d3_40_0.drop 12
noncomputable def c3_41 : Code := cAt [1, 1, 1, 1, 1, 1, 1] (bodyOf Try.f3)
theorem w3_0 {pol : Nat → Pol} {cl : CallW} {lp : LoopW} {env : List V} {H : Heap} {Q : KQ} : wC Try.prog pol cl lp c3_0 env H Q = wC Try.prog pol cl lp c3_1 env H (seqK Try.prog pol cl lp c3_2 Q) := wC_seq (by kernel_rfl)
theorem w3_1 {pol : Nat → Pol} {cl : CallW} {lp : LoopW} {env : List V} {H : Heap} {Q : KQ} : wC Try.prog pol cl lp c3_1 env H Q = wOps Try.prog pol cl o3_1 d3_1_0 0 env H (Q .nrm) := wC_reg (i := 0) (by kernel_rfl) rfl
theorem w3_1_0 {pol : Nat → Pol} {cl : CallW} {t0 t1 t2 t3 t4 t5 t6 t7 t8 t9 t10 t11 t12 t13 t14 t15 t16 t17 t18 t19 t20 t21 t22 t23 t24 t25 t26 t27 t28 t29 t30 t31 t32 t33 t34 t35 t36 t37 t38 t39 t40 t41 t42 t43 t44 t45 t46 t47 t48 t49 t50 t51 t52 t53 t54 t55 t56 t57 t58 t59 t60 t61 t62 t63 t64 t65 t66 t67 t68 t69 t70 t71 t72 t73 t74 t75 t76 t77 : V} {H : Heap} {Q : List V → Heap → Prop} : wOps Try.prog pol cl o3_1 d3_1_0 0 [t0, t1, t2, t3, t4, t5, t6, t7, t8, t9, t10, t11, t12, t13, t14, t15, t16, t17, t18, t19, t20, t21, t22, t23, t24, t25, t26, t27, t28, t29, t30, t31, t32, t33, t34, t35, t36, t37, t38, t39, t40, t41, t42, t43, t44, t45, t46, t47, t48, t49, t50, t51, t52, t53, t54, t55, t56, t57, t58, t59, t60, t61, t62, t63, t64, t65, t66, t67, t68, t69, t70, t71, t72, t73, t74, t75, t76, t77] H Q = (
  Q [t0, t1, t2, t3, (.bool false), t5, t6, t7, t8, t9, t10, t11, t12, t13, t14, t15, t16, t17, t18, t19, t20, t21, t22, t23, t24, t25, t26, t27, t28, t29, t30, t31, t32, t33, t34, t35, t36, t37, t38, t39, t40, t41, t42, t43, t44, t45, t46, t47, t48, t49, t50, t51, t52, t53, t54, t55, t56, t57, t58, t59, t60, t61, t62, t63, t64, t65, t66, t67, t68, t69, t70, t71, t72, t73, t74, t75, t76, t77] H) := by kernel_rfl
theorem w3_2 {pol : Nat → Pol} {cl : CallW} {lp : LoopW} {env : List V} {H : Heap} {Q : KQ} : wC Try.prog pol cl lp c3_2 env H Q = wC Try.prog pol cl lp c3_3 env H (seqK Try.prog pol cl lp c3_10 Q) := wC_seq (by kernel_rfl)
theorem w3_3 {pol : Nat → Pol} {cl : CallW} {lp : LoopW} {env : List V} {H : Heap} {Q : KQ} : wC Try.prog pol cl lp c3_3 env H Q = wC Try.prog pol cl lp c3_4 env H (seqK Try.prog pol cl lp c3_5 Q) := wC_seq (by kernel_rfl)
theorem w3_4 {pol : Nat → Pol} {cl : CallW} {lp : LoopW} {env : List V} {H : Heap} {Q : KQ} : wC Try.prog pol cl lp c3_4 env H Q = wOps Try.prog pol cl o3_4 d3_4_0 0 env H (Q .nrm) := wC_reg (i := 1) (by kernel_rfl) rfl
theorem w3_4_0 {pol : Nat → Pol} {cl : CallW} {t0 t1 t2 t3 t4 t5 t6 t7 t8 t9 t10 t11 t12 t13 t14 t15 t16 t17 t18 t19 t20 t21 t22 t23 t24 t25 t26 t27 t28 t29 t30 t31 t32 t33 t34 t35 t36 t37 t38 t39 t40 t41 t42 t43 t44 t45 t46 t47 t48 t49 t50 t51 t52 t53 t54 t55 t56 t57 t58 t59 t60 t61 t62 t63 t64 t65 t66 t67 t68 t69 t70 t71 t72 t73 t74 t75 t76 t77 : V} {H : Heap} {Q : List V → Heap → Prop} : wOps Try.prog pol cl o3_4 d3_4_0 0 [t0, t1, t2, t3, t4, t5, t6, t7, t8, t9, t10, t11, t12, t13, t14, t15, t16, t17, t18, t19, t20, t21, t22, t23, t24, t25, t26, t27, t28, t29, t30, t31, t32, t33, t34, t35, t36, t37, t38, t39, t40, t41, t42, t43, t44, t45, t46, t47, t48, t49, t50, t51, t52, t53, t54, t55, t56, t57, t58, t59, t60, t61, t62, t63, t64, t65, t66, t67, t68, t69, t70, t71, t72, t73, t74, t75, t76, t77] H Q = (
  stepW (evLen Try.prog 22 t0) H fun v1 H1 =>
  stepW (liftO (evBin Try.prog 3 .gtr v1 (.int .i64 3000))) H1 fun v2 H2 =>
  Q [t0, t1, t2, t3, t4, t5, t6, t7, t8, t9, t10, t11, t0, v1, v2, t15, t16, t17, t18, t19, t20, t21, t22, t23, t24, t25, t26, t27, t28, t29, t30, t31, t32, t33, t34, t35, t36, t37, t38, t39, t40, t41, t42, t43, t44, t45, t46, t47, t48, t49, t50, t51, t52, t53, t54, t55, t56, t57, t58, t59, t60, t61, t62, t63, t64, t65, t66, t67, t68, t69, t70, t71, t72, t73, t74, t75, t76, t77] H2) := by kernel_rfl
theorem w3_5 {pol : Nat → Pol} {cl : CallW} {lp : LoopW} {env : List V} {H : Heap} {Q : KQ} : wC Try.prog pol cl lp c3_5 env H Q = condW (evOperand env (Operand.tmp 14)) (wC Try.prog pol cl lp c3_6 env H Q) (wC Try.prog pol cl lp c3_9 env H Q) := wC_cond (by kernel_rfl)
theorem w3_6 {pol : Nat → Pol} {cl : CallW} {lp : LoopW} {env : List V} {H : Heap} {Q : KQ} : wC Try.prog pol cl lp c3_6 env H Q = wC Try.prog pol cl lp c3_7 env H (seqK Try.prog pol cl lp c3_8 Q) := wC_seq (by kernel_rfl)
theorem w3_7 {pol : Nat → Pol} {cl : CallW} {lp : LoopW} {env : List V} {H : Heap} {Q : KQ} : wC Try.prog pol cl lp c3_7 env H Q = wOps Try.prog pol cl o3_7 d3_7_0 0 env H (Q .nrm) := wC_reg (i := 2) (by kernel_rfl) rfl
theorem w3_7_0 {pol : Nat → Pol} {cl : CallW} {t0 t1 t2 t3 t4 t5 t6 t7 t8 t9 t10 t11 t12 t13 t14 t15 t16 t17 t18 t19 t20 t21 t22 t23 t24 t25 t26 t27 t28 t29 t30 t31 t32 t33 t34 t35 t36 t37 t38 t39 t40 t41 t42 t43 t44 t45 t46 t47 t48 t49 t50 t51 t52 t53 t54 t55 t56 t57 t58 t59 t60 t61 t62 t63 t64 t65 t66 t67 t68 t69 t70 t71 t72 t73 t74 t75 t76 t77 : V} {H : Heap} {Q : List V → Heap → Prop} : wOps Try.prog pol cl o3_7 d3_7_0 0 [t0, t1, t2, t3, t4, t5, t6, t7, t8, t9, t10, t11, t12, t13, t14, t15, t16, t17, t18, t19, t20, t21, t22, t23, t24, t25, t26, t27, t28, t29, t30, t31, t32, t33, t34, t35, t36, t37, t38, t39, t40, t41, t42, t43, t44, t45, t46, t47, t48, t49, t50, t51, t52, t53, t54, t55, t56, t57, t58, t59, t60, t61, t62, t63, t64, t65, t66, t67, t68, t69, t70, t71, t72, t73, t74, t75, t76, t77] H Q = (
  callW pol cl H 15 7 [] fun v1 H1 =>
  Q [t0, t1, t2, t3, v1, t5, t6, t7, t8, t9, t10, t11, t12, t13, t14, v1, t16, t17, t18, t19, t20, t21, t22, t23, t24, t25, t26, t27, t28, t29, t30, t31, t32, t33, t34, t35, t36, t37, t38, t39, t40, t41, t42, t43, t44, t45, t46, t47, t48, t49, t50, t51, t52, t53, t54, t55, t56, t57, t58, t59, t60, t61, t62, t63, t64, t65, t66, t67, t68, t69, t70, t71, t72, t73, t74, t75, t76, t77] H1) := by kernel_rfl
theorem w3_8 {pol : Nat → Pol} {cl : CallW} {lp : LoopW} {env : List V} {H : Heap} {Q : KQ} : wC Try.prog pol cl lp c3_8 env H Q = Q .ret env H := wC_ret (by kernel_rfl)
theorem w3_9 {pol : Nat → Pol} {cl : CallW} {lp : LoopW} {env : List V} {H : Heap} {Q : KQ} : wC Try.prog pol cl lp c3_9 env H Q = Q .nrm env H := wC_skip (by kernel_rfl)
theorem w3_10 {pol : Nat → Pol} {cl : CallW} {lp : LoopW} {env : List V} {H : Heap} {Q : KQ} : wC Try.prog pol cl lp c3_10 env H Q = wC Try.prog pol cl lp c3_11 env H (seqK Try.prog pol cl lp c3_12 Q) := wC_seq (by kernel_rfl)
theorem w3_11 {pol : Nat → Pol} {cl : CallW} {lp : LoopW} {env : List V} {H : Heap} {Q : KQ} : wC Try.prog pol cl lp c3_11 env H Q = wOps Try.prog pol cl o3_11 d3_11_0 0 env H (Q .nrm) := wC_reg (i := 3) (by kernel_rfl) rfl
theorem w3_11_0 {pol : Nat → Pol} {cl : CallW} {t0 t1 t2 t3 t4 t5 t6 t7 t8 t9 t10 t11 t12 t13 t14 t15 t16 t17 t18 t19 t20 t21 t22 t23 t24 t25 t26 t27 t28 t29 t30 t31 t32 t33 t34 t35 t36 t37 t38 t39 t40 t41 t42 t43 t44 t45 t46 t47 t48 t49 t50 t51 t52 t53 t54 t55 t56 t57 t58 t59 t60 t61 t62 t63 t64 t65 t66 t67 t68 t69 t70 t71 t72 t73 t74 t75 t76 t77 : V} {H : Heap} {Q : List V → Heap → Prop} : wOps Try.prog pol cl o3_11 d3_11_0 0 [t0, t1, t2, t3, t4, t5, t6, t7, t8, t9, t10, t11, t12, t13, t14, t15, t16, t17, t18, t19, t20, t21, t22, t23, t24, t25, t26, t27, t28, t29, t30, t31, t32, t33, t34, t35, t36, t37, t38, t39, t40, t41, t42, t43, t44, t45, t46, t47, t48, t49, t50, t51, t52, t53, t54, t55, t56, t57, t58, t59, t60, t61, t62, t63, t64, t65, t66, t67, t68, t69, t70, t71, t72, t73, t74, t75, t76, t77] H Q = (
  Q [t0, t1, t2, t3, t4, .nilp, t6, t7, t8, t9, t10, t11, t12, t13, t14, t15, t16, t17, t18, t19, t20, t21, t22, t23, t24, t25, t26, t27, t28, t29, t30, t31, t32, t33, t34, t35, t36, t37, t38, t39, t40, t41, t42, t43, t44, t45, t46, t47, t48, t49, t50, t51, t52, t53, t54, t55, t56, t57, t58, t59, t60, t61, t62, t63, t64, t65, t66, t67, t68, t69, t70, t71, t72, t73, t74, t75, t76, t77] H) := by kernel_rfl
theorem w3_12 {pol : Nat → Pol} {cl : CallW} {lp : LoopW} {env : List V} {H : Heap} {Q : KQ} : wC Try.prog pol cl lp c3_12 env H Q = wC Try.prog pol cl lp c3_13 env H (seqK Try.prog pol cl lp c3_14 Q) := wC_seq (by kernel_rfl)
theorem w3_13 {pol : Nat → Pol} {cl : CallW} {lp : LoopW} {env : List V} {H : Heap} {Q : KQ} : wC Try.prog pol cl lp c3_13 env H Q = wOps Try.prog pol cl o3_13 d3_13_0 0 env H (Q .nrm) := wC_reg (i := 4) (by kernel_rfl) rfl
theorem w3_13_0 {pol : Nat → Pol} {cl : CallW} {t0 t1 t2 t3 t4 t5 t6 t7 t8 t9 t10 t11 t12 t13 t14 t15 t16 t17 t18 t19 t20 t21 t22 t23 t24 t25 t26 t27 t28 t29 t30 t31 t32 t33 t34 t35 t36 t37 t38 t39 t40 t41 t42 t43 t44 t45 t46 t47 t48 t49 t50 t51 t52 t53 t54 t55 t56 t57 t58 t59 t60 t61 t62 t63 t64 t65 t66 t67 t68 t69 t70 t71 t72 t73 t74 t75 t76 t77 : V} {H : Heap} {Q : List V → Heap → Prop} : wOps Try.prog pol cl o3_13 d3_13_0 0 [t0, t1, t2, t3, t4, t5, t6, t7, t8, t9, t10, t11, t12, t13, t14, t15, t16, t17, t18, t19, t20, t21, t22, t23, t24, t25, t26, t27, t28, t29, t30, t31, t32, t33, t34, t35, t36, t37, t38, t39, t40, t41, t42, t43, t44, t45, t46, t47, t48, t49, t50, t51, t52, t53, t54, t55, t56, t57, t58, t59, t60, t61, t62, t63, t64, t65, t66, t67, t68, t69, t70, t71, t72, t73, t74, t75, t76, t77] H Q = (
  stepW (liftO (evBuild Try.prog 31 [])) H fun v1 H1 =>
  stepW (boxT Try.prog H1 18 31 v1) H1 fun v2 H2 =>
  stepW (evBuildSlice Try.prog H2 19 32 2 [(0, t5), (1, v2)]) H2 fun v3 H3 =>
  Q [t0, t1, t2, t3, t4, t5, v3, t7, t8, t9, t10, t11, t12, t13, t14, t15, t5, v1, v2, v3, t20, t21, t22, t23, t24, t25, t26, t27, t28, t29, t30, t31, t32, t33, t34, t35, t36, t37, t38, t39, t40, t41, t42, t43, t44, t45, t46, t47, t48, t49, t50, t51, t52, t53, t54, t55, t56, t57, t58, t59, t60, t61, t62, t63, t64, t65, t66, t67, t68, t69, t70, t71, t72, t73, t74, t75, t76, t77] H3) := by kernel_rfl
theorem w3_14 {pol : Nat → Pol} {cl : CallW} {lp : LoopW} {env : List V} {H : Heap} {Q : KQ} : wC Try.prog pol cl lp c3_14 env H Q = wC Try.prog pol cl lp c3_15 env H (seqK Try.prog pol cl lp c3_37 Q) := wC_seq (by kernel_rfl)
theorem w3_15 {pol : Nat → Pol} {cl : CallW} {lp : LoopW} {env : List V} {H : Heap} {Q : KQ} : wC Try.prog pol cl lp c3_15 env H Q = wC Try.prog pol cl lp c3_16 env H (seqK Try.prog pol cl lp c3_17 Q) := wC_seq (by kernel_rfl)
theorem w3_16 {pol : Nat → Pol} {cl : CallW} {lp : LoopW} {env : List V} {H : Heap} {Q : KQ} : wC Try.prog pol cl lp c3_16 env H Q = wOps Try.prog pol cl o3_16 d3_16_0 0 env H (Q .nrm) := wC_reg (i := 5) (by kernel_rfl) rfl
theorem w3_16_0 {pol : Nat → Pol} {cl : CallW} {t0 t1 t2 t3 t4 t5 t6 t7 t8 t9 t10 t11 t12 t13 t14 t15 t16 t17 t18 t19 t20 t21 t22 t23 t24 t25 t26 t27 t28 t29 t30 t31 t32 t33 t34 t35 t36 t37 t38 t39 t40 t41 t42 t43 t44 t45 t46 t47 t48 t49 t50 t51 t52 t53 t54 t55 t56 t57 t58 t59 t60 t61 t62 t63 t64 t65 t66 t67 t68 t69 t70 t71 t72 t73 t74 t75 t76 t77 : V} {H : Heap} {Q : List V → Heap → Prop} : wOps Try.prog pol cl o3_16 d3_16_0 0 [t0, t1, t2, t3, t4, t5, t6, t7, t8, t9, t10, t11, t12, t13, t14, t15, t16, t17, t18, t19, t20, t21, t22, t23, t24, t25, t26, t27, t28, t29, t30, t31, t32, t33, t34, t35, t36, t37, t38, t39, t40, t41, t42, t43, t44, t45, t46, t47, t48, t49, t50, t51, t52, t53, t54, t55, t56, t57, t58, t59, t60, t61, t62, t63, t64, t65, t66, t67, t68, t69, t70, t71, t72, t73, t74, t75, t76, t77] H Q = (
  Q [t0, t1, t2, t3, t4, t5, t6, (.int .i64 0), t8, t9, t10, t11, t12, t13, t14, t15, t16, t17, t18, t19, t20, t21, t22, t23, t24, t25, t26, t27, t28, t29, t30, t31, t32, t33, t34, t35, t36, t37, t38, t39, t40, t41, t42, t43, t44, t45, t46, t47, t48, t49, t50, t51, t52, t53, t54, t55, t56, t57, t58, t59, t60, t61, t62, t63, t64, t65, t66, t67, t68, t69, t70, t71, t72, t73, t74, t75, t76, t77] H) := by kernel_rfl
theorem w3_17 {pol : Nat → Pol} {cl : CallW} {lp : LoopW} {env : List V} {H : Heap} {Q : KQ} : wC Try.prog pol cl lp c3_17 env H Q = wC Try.prog pol cl lp c3_18 env H (blockK 0 Q) := wC_block (by kernel_rfl)
theorem w3_18 {pol : Nat → Pol} {cl : CallW} {lp : LoopW} {env : List V} {H : Heap} {Q : KQ} : wC Try.prog pol cl lp c3_18 env H Q = lp c3_19 env H Q := wC_loop (by kernel_rfl)
theorem w3_19 {pol : Nat → Pol} {cl : CallW} {lp : LoopW} {env : List V} {H : Heap} {Q : KQ} : wC Try.prog pol cl lp c3_19 env H Q = wC Try.prog pol cl lp c3_20 env H (seqK Try.prog pol cl lp c3_25 Q) := wC_seq (by kernel_rfl)
theorem w3_20 {pol : Nat → Pol} {cl : CallW} {lp : LoopW} {env : List V} {H : Heap} {Q : KQ} : wC Try.prog pol cl lp c3_20 env H Q = wC Try.prog pol cl lp c3_21 env H (seqK Try.prog pol cl lp c3_22 Q) := wC_seq (by kernel_rfl)
theorem w3_21 {pol : Nat → Pol} {cl : CallW} {lp : LoopW} {env : List V} {H : Heap} {Q : KQ} : wC Try.prog pol cl lp c3_21 env H Q = wOps Try.prog pol cl o3_21 d3_21_0 0 env H (Q .nrm) := wC_reg (i := 6) (by kernel_rfl) rfl
theorem w3_21_0 {pol : Nat → Pol} {cl : CallW} {t0 t1 t2 t3 t4 t5 t6 t7 t8 t9 t10 t11 t12 t13 t14 t15 t16 t17 t18 t19 t20 t21 t22 t23 t24 t25 t26 t27 t28 t29 t30 t31 t32 t33 t34 t35 t36 t37 t38 t39 t40 t41 t42 t43 t44 t45 t46 t47 t48 t49 t50 t51 t52 t53 t54 t55 t56 t57 t58 t59 t60 t61 t62 t63 t64 t65 t66 t67 t68 t69 t70 t71 t72 t73 t74 t75 t76 t77 : V} {H : Heap} {Q : List V → Heap → Prop} : wOps Try.prog pol cl o3_21 d3_21_0 0 [t0, t1, t2, t3, t4, t5, t6, t7, t8, t9, t10, t11, t12, t13, t14, t15, t16, t17, t18, t19, t20, t21, t22, t23, t24, t25, t26, t27, t28, t29, t30, t31, t32, t33, t34, t35, t36, t37, t38, t39, t40, t41, t42, t43, t44, t45, t46, t47, t48, t49, t50, t51, t52, t53, t54, t55, t56, t57, t58, t59, t60, t61, t62, t63, t64, t65, t66, t67, t68, t69, t70, t71, t72, t73, t74, t75, t76, t77] H Q = (
  stepW (evLen Try.prog 32 t6) H fun v1 H1 =>
  stepW (liftO (evBin Try.prog 3 .lss t7 v1)) H1 fun v2 H2 =>
  Q [t0, t1, t2, t3, t4, t5, t6, t7, t8, t9, t10, t11, t12, t13, t14, t15, t16, t17, t18, t19, t7, t6, v1, v2, t24, t25, t26, t27, t28, t29, t30, t31, t32, t33, t34, t35, t36, t37, t38, t39, t40, t41, t42, t43, t44, t45, t46, t47, t48, t49, t50, t51, t52, t53, t54, t55, t56, t57, t58, t59, t60, t61, t62, t63, t64, t65, t66, t67, t68, t69, t70, t71, t72, t73, t74, t75, t76, t77] H2) := by kernel_rfl
theorem w3_22 {pol : Nat → Pol} {cl : CallW} {lp : LoopW} {env : List V} {H : Heap} {Q : KQ} : wC Try.prog pol cl lp c3_22 env H Q = condW (evOperand env (Operand.tmp 23)) (wC Try.prog pol cl lp c3_23 env H Q) (wC Try.prog pol cl lp c3_24 env H Q) := wC_cond (by kernel_rfl)
theorem w3_23 {pol : Nat → Pol} {cl : CallW} {lp : LoopW} {env : List V} {H : Heap} {Q : KQ} : wC Try.prog pol cl lp c3_23 env H Q = Q .nrm env H := wC_skip (by kernel_rfl)
theorem w3_24 {pol : Nat → Pol} {cl : CallW} {lp : LoopW} {env : List V} {H : Heap} {Q : KQ} : wC Try.prog pol cl lp c3_24 env H Q = Q (.exit 0) env H := wC_exit (by kernel_rfl)
theorem w3_25 {pol : Nat → Pol} {cl : CallW} {lp : LoopW} {env : List V} {H : Heap} {Q : KQ} : wC Try.prog pol cl lp c3_25 env H Q = wC Try.prog pol cl lp c3_26 env H (seqK Try.prog pol cl lp c3_36 Q) := wC_seq (by kernel_rfl)
theorem w3_26 {pol : Nat → Pol} {cl : CallW} {lp : LoopW} {env : List V} {H : Heap} {Q : KQ} : wC Try.prog pol cl lp c3_26 env H Q = wC Try.prog pol cl lp c3_27 env H (blockK 1 Q) := wC_block (by kernel_rfl)
theorem w3_27 {pol : Nat → Pol} {cl : CallW} {lp : LoopW} {env : List V} {H : Heap} {Q : KQ} : wC Try.prog pol cl lp c3_27 env H Q = wC Try.prog pol cl lp c3_28 env H (seqK Try.prog pol cl lp c3_29 Q) := wC_seq (by kernel_rfl)
theorem w3_28 {pol : Nat → Pol} {cl : CallW} {lp : LoopW} {env : List V} {H : Heap} {Q : KQ} : wC Try.prog pol cl lp c3_28 env H Q = wOps Try.prog pol cl o3_28 d3_28_0 0 env H (Q .nrm) := wC_reg (i := 8) (by kernel_rfl) rfl
theorem w3_28_0 {pol : Nat → Pol} {cl : CallW} {t0 t1 t2 t3 t4 t5 t6 t7 t8 t9 t10 t11 t12 t13 t14 t15 t16 t17 t18 t19 t20 t21 t22 t23 t24 t25 t26 t27 t28 t29 t30 t31 t32 t33 t34 t35 t36 t37 t38 t39 t40 t41 t42 t43 t44 t45 t46 t47 t48 t49 t50 t51 t52 t53 t54 t55 t56 t57 t58 t59 t60 t61 t62 t63 t64 t65 t66 t67 t68 t69 t70 t71 t72 t73 t74 t75 t76 t77 : V} {H : Heap} {Q : List V → Heap → Prop} : wOps Try.prog pol cl o3_28 d3_28_0 0 [t0, t1, t2, t3, t4, t5, t6, t7, t8, t9, t10, t11, t12, t13, t14, t15, t16, t17, t18, t19, t20, t21, t22, t23, t24, t25, t26, t27, t28, t29, t30, t31, t32, t33, t34, t35, t36, t37, t38, t39, t40, t41, t42, t43, t44, t45, t46, t47, t48, t49, t50, t51, t52, t53, t54, t55, t56, t57, t58, t59, t60, t61, t62, t63, t64, t65, t66, t67, t68, t69, t70, t71, t72, t73, t74, t75, t76, t77] H Q = (
  stepW (evIndexAddr Try.prog 32 t6 t7) H fun v1 H1 =>
  stepW (evLoad Try.prog H1 24 v1) H1 fun v2 H2 =>
  Q [t0, t1, t2, t3, t4, t5, t6, t7, v2, t9, t10, t11, t12, t13, t14, t15, t16, t17, t18, t19, t20, t21, t22, t23, t24, t25, t6, t7, v1, v2, t30, t31, t32, t33, t34, t35, t36, t37, t38, t39, t40, t41, t42, t43, t44, t45, t46, t47, t48, t49, t50, t51, t52, t53, t54, t55, t56, t57, t58, t59, t60, t61, t62, t63, t64, t65, t66, t67, t68, t69, t70, t71, t72, t73, t74, t75, t76, t77] H2) := by kernel_rfl
theorem w3_29 {pol : Nat → Pol} {cl : CallW} {lp : LoopW} {env : List V} {H : Heap} {Q : KQ} : wC Try.prog pol cl lp c3_29 env H Q = wC Try.prog pol cl lp c3_30 env H (seqK Try.prog pol cl lp c3_31 Q) := wC_seq (by kernel_rfl)
theorem w3_30 {pol : Nat → Pol} {cl : CallW} {lp : LoopW} {env : List V} {H : Heap} {Q : KQ} : wC Try.prog pol cl lp c3_30 env H Q = wOps Try.prog pol cl o3_30 d3_30_0 0 env H (Q .nrm) := wC_reg (i := 9) (by kernel_rfl) rfl
theorem w3_30_0c {pol : Nat → Pol} {cl : CallW} {env : List V} {H : Heap} {Q : List V → Heap → Prop} : wOps Try.prog pol cl o3_30 d3_30_0 0 env H Q = wOps Try.prog pol cl o3_30 p3_30_0 0 env H (fun env H => wOps Try.prog pol cl o3_30 d3_30_12 12 env H Q) := wOps_cut (by kernel_rfl) (by kernel_rfl)
theorem w3_30_0 {pol : Nat → Pol} {cl : CallW} {t0 t1 t2 t3 t4 t5 t6 t7 t8 t9 t10 t11 t12 t13 t14 t15 t16 t17 t18 t19 t20 t21 t22 t23 t24 t25 t26 t27 t28 t29 t30 t31 t32 t33 t34 t35 t36 t37 t38 t39 t40 t41 t42 t43 t44 t45 t46 t47 t48 t49 t50 t51 t52 t53 t54 t55 t56 t57 t58 t59 t60 t61 t62 t63 t64 t65 t66 t67 t68 t69 t70 t71 t72 t73 t74 t75 t76 t77 : V} {H : Heap} {Q : List V → Heap → Prop} : wOps Try.prog pol cl o3_30 p3_30_0 0 [t0, t1, t2, t3, t4, t5, t6, t7, t8, t9, t10, t11, t12, t13, t14, t15, t16, t17, t18, t19, t20, t21, t22, t23, t24, t25, t26, t27, t28, t29, t30, t31, t32, t33, t34, t35, t36, t37, t38, t39, t40, t41, t42, t43, t44, t45, t46, t47, t48, t49, t50, t51, t52, t53, t54, t55, t56, t57, t58, t59, t60, t61, t62, t63, t64, t65, t66, t67, t68, t69, t70, t71, t72, t73, t74, t75, t76, t77] H Q = (
  callW pol cl H 32 8 [t8, t0] fun v1 H1 =>
  stepW (liftO (evBin Try.prog 33 .neq v1 (.int .i64 1))) H1 fun v2 H2 =>
  guardW v2 false H2 (fun q => q ⟨t8, [], []⟩) fun v3 H3 =>
  guardW v2 false H3 (wCall pol cl H3 36 9 [v3]) fun v4 H4 =>
  guardW v2 false H4 (outW (liftO (evBin Try.prog 33 .neq v4 (.int .i64 1)))) fun v5 H5 =>
  stepW (pickO v2 (.bool true) v5) H5 fun v6 H6 =>
  guardW v6 false H6 (fun q => q ⟨t8, [], []⟩) fun v7 H7 =>
  guardW v6 false H7 (wCall pol cl H7 41 10 [v7]) fun v8 H8 =>
  Q [t0, t1, t2, t3, t4, t5, t6, t7, t8, t9, t10, t11, t12, t13, t14, t15, t16, t17, t18, t19, t20, t21, t22, t23, t24, t25, t26, t27, t28, t29, t8, t0, v1, v2, v2, v3, v4, v5, v6, v6, v7, v8, t42, t43, t44, t45, t46, t47, t48, t49, t50, t51, t52, t53, t54, t55, t56, t57, t58, t59, t60, t61, t62, t63, t64, t65, t66, t67, t68, t69, t70, t71, t72, t73, t74, t75, t76, t77] H8) := by kernel_rfl
theorem w3_30_12 {pol : Nat → Pol} {cl : CallW} {t0 t1 t2 t3 t4 t5 t6 t7 t8 t9 t10 t11 t12 t13 t14 t15 t16 t17 t18 t19 t20 t21 t22 t23 t24 t25 t26 t27 t28 t29 t30 t31 t32 t33 t34 t35 t36 t37 t38 t39 t40 t41 t42 t43 t44 t45 t46 t47 t48 t49 t50 t51 t52 t53 t54 t55 t56 t57 t58 t59 t60 t61 t62 t63 t64 t65 t66 t67 t68 t69 t70 t71 t72 t73 t74 t75 t76 t77 : V} {H : Heap} {Q : List V → Heap → Prop} : wOps Try.prog pol cl o3_30 d3_30_12 12 [t0, t1, t2, t3, t4, t5, t6, t7, t8, t9, t10, t11, t12, t13, t14, t15, t16, t17, t18, t19, t20, t21, t22, t23, t24, t25, t26, t27, t28, t29, t30, t31, t32, t33, t34, t35, t36, t37, t38, t39, t40, t41, t42, t43, t44, t45, t46, t47, t48, t49, t50, t51, t52, t53, t54, t55, t56, t57, t58, t59, t60, t61, t62, t63, t64, t65, t66, t67, t68, t69, t70, t71, t72, t73, t74, t75, t76, t77] H Q = (
  guardW t39 false H (outW (liftO (evBin Try.prog 3 .neq t41 (.int .i64 0)))) fun v1 H1 =>
  stepW (pickO t39 (.bool true) v1) H1 fun v2 H2 =>
  guardW v2 false H2 (fun q => q ⟨t8, [], []⟩) fun v3 H3 =>
  guardW v2 false H3 (wCall pol cl H3 46 11 [v3]) fun v4 H4 =>
  guardW v2 false H4 (outW (liftO (evBin Try.prog 3 .neq v4 (.int .i64 0)))) fun v5 H5 =>
  stepW (pickO v2 (.bool true) v5) H5 fun v6 H6 =>
  guardW v6 false H6 (fun q => q ⟨t8, [], []⟩) fun v7 H7 =>
  guardW v6 false H7 (wCall pol cl H7 51 12 [v7, (.int .i64 0), (.int .i64 0)]) fun v8 H8 =>
  guardW v6 false H8 (outW (liftO (evUn .not v8))) fun v9 H9 =>
  stepW (pickO v6 (.bool true) v9) H9 fun v10 H10 =>
  Q [t0, t1, t2, t3, t4, t5, t6, t7, t8, t9, t10, t11, t12, t13, t14, t15, t16, t17, t18, t19, t20, t21, t22, t23, t24, t25, t26, t27, t28, t29, t30, t31, t32, t33, t34, t35, t36, t37, t38, t39, t40, t41, v1, v2, v2, v3, v4, v5, v6, v6, v7, v8, v9, v10, t54, t55, t56, t57, t58, t59, t60, t61, t62, t63, t64, t65, t66, t67, t68, t69, t70, t71, t72, t73, t74, t75, t76, t77] H10) := by kernel_rfl
theorem w3_31 {pol : Nat → Pol} {cl : CallW} {lp : LoopW} {env : List V} {H : Heap} {Q : KQ} : wC Try.prog pol cl lp c3_31 env H Q = condW (evOperand env (Operand.tmp 53)) (wC Try.prog pol cl lp c3_32 env H Q) (wC Try.prog pol cl lp c3_35 env H Q) := wC_cond (by kernel_rfl)
theorem w3_32 {pol : Nat → Pol} {cl : CallW} {lp : LoopW} {env : List V} {H : Heap} {Q : KQ} : wC Try.prog pol cl lp c3_32 env H Q = wC Try.prog pol cl lp c3_33 env H (seqK Try.prog pol cl lp c3_34 Q) := wC_seq (by kernel_rfl)
theorem w3_33 {pol : Nat → Pol} {cl : CallW} {lp : LoopW} {env : List V} {H : Heap} {Q : KQ} : wC Try.prog pol cl lp c3_33 env H Q = wOps Try.prog pol cl o3_33 d3_33_0 0 env H (Q .nrm) := wC_reg (i := 10) (by kernel_rfl) rfl
theorem w3_33_0 {pol : Nat → Pol} {cl : CallW} {t0 t1 t2 t3 t4 t5 t6 t7 t8 t9 t10 t11 t12 t13 t14 t15 t16 t17 t18 t19 t20 t21 t22 t23 t24 t25 t26 t27 t28 t29 t30 t31 t32 t33 t34 t35 t36 t37 t38 t39 t40 t41 t42 t43 t44 t45 t46 t47 t48 t49 t50 t51 t52 t53 t54 t55 t56 t57 t58 t59 t60 t61 t62 t63 t64 t65 t66 t67 t68 t69 t70 t71 t72 t73 t74 t75 t76 t77 : V} {H : Heap} {Q : List V → Heap → Prop} : wOps Try.prog pol cl o3_33 d3_33_0 0 [t0, t1, t2, t3, t4, t5, t6, t7, t8, t9, t10, t11, t12, t13, t14, t15, t16, t17, t18, t19, t20, t21, t22, t23, t24, t25, t26, t27, t28, t29, t30, t31, t32, t33, t34, t35, t36, t37, t38, t39, t40, t41, t42, t43, t44, t45, t46, t47, t48, t49, t50, t51, t52, t53, t54, t55, t56, t57, t58, t59, t60, t61, t62, t63, t64, t65, t66, t67, t68, t69, t70, t71, t72, t73, t74, t75, t76, t77] H Q = (
  Q [t0, t1, t2, t3, (.bool false), t5, t6, t7, t8, t9, t10, t11, t12, t13, t14, t15, t16, t17, t18, t19, t20, t21, t22, t23, t24, t25, t26, t27, t28, t29, t30, t31, t32, t33, t34, t35, t36, t37, t38, t39, t40, t41, t42, t43, t44, t45, t46, t47, t48, t49, t50, t51, t52, t53, t54, t55, t56, t57, t58, t59, t60, t61, t62, t63, t64, t65, t66, t67, t68, t69, t70, t71, t72, t73, t74, t75, t76, t77] H) := by kernel_rfl
theorem w3_34 {pol : Nat → Pol} {cl : CallW} {lp : LoopW} {env : List V} {H : Heap} {Q : KQ} : wC Try.prog pol cl lp c3_34 env H Q = Q .ret env H := wC_ret (by kernel_rfl)
theorem w3_35 {pol : Nat → Pol} {cl : CallW} {lp : LoopW} {env : List V} {H : Heap} {Q : KQ} : wC Try.prog pol cl lp c3_35 env H Q = Q .nrm env H := wC_skip (by kernel_rfl)
theorem w3_36 {pol : Nat → Pol} {cl : CallW} {lp : LoopW} {env : List V} {H : Heap} {Q : KQ} : wC Try.prog pol cl lp c3_36 env H Q = wOps Try.prog pol cl o3_36 d3_36_0 0 env H (Q .nrm) := wC_reg (i := 7) (by kernel_rfl) rfl
theorem w3_36_0 {pol : Nat → Pol} {cl : CallW} {t0 t1 t2 t3 t4 t5 t6 t7 t8 t9 t10 t11 t12 t13 t14 t15 t16 t17 t18 t19 t20 t21 t22 t23 t24 t25 t26 t27 t28 t29 t30 t31 t32 t33 t34 t35 t36 t37 t38 t39 t40 t41 t42 t43 t44 t45 t46 t47 t48 t49 t50 t51 t52 t53 t54 t55 t56 t57 t58 t59 t60 t61 t62 t63 t64 t65 t66 t67 t68 t69 t70 t71 t72 t73 t74 t75 t76 t77 : V} {H : Heap} {Q : List V → Heap → Prop} : wOps Try.prog pol cl o3_36 d3_36_0 0 [t0, t1, t2, t3, t4, t5, t6, t7, t8, t9, t10, t11, t12, t13, t14, t15, t16, t17, t18, t19, t20, t21, t22, t23, t24, t25, t26, t27, t28, t29, t30, t31, t32, t33, t34, t35, t36, t37, t38, t39, t40, t41, t42, t43, t44, t45, t46, t47, t48, t49, t50, t51, t52, t53, t54, t55, t56, t57, t58, t59, t60, t61, t62, t63, t64, t65, t66, t67, t68, t69, t70, t71, t72, t73, t74, t75, t76, t77] H Q = (
  stepW (liftO (evBin Try.prog 3 .add t7 (.int .i64 1))) H fun v1 H1 =>
  Q [t0, t1, t2, t3, t4, t5, t6, v1, t8, t9, t10, t11, t12, t13, t14, t15, t16, t17, t18, t19, t20, t21, t22, t23, t7, v1, t26, t27, t28, t29, t30, t31, t32, t33, t34, t35, t36, t37, t38, t39, t40, t41, t42, t43, t44, t45, t46, t47, t48, t49, t50, t51, t52, t53, t54, t55, t56, t57, t58, t59, t60, t61, t62, t63, t64, t65, t66, t67, t68, t69, t70, t71, t72, t73, t74, t75, t76, t77] H1) := by kernel_rfl
theorem w3_37 {pol : Nat → Pol} {cl : CallW} {lp : LoopW} {env : List V} {H : Heap} {Q : KQ} : wC Try.prog pol cl lp c3_37 env H Q = wC Try.prog pol cl lp c3_38 env H (seqK Try.prog pol cl lp c3_39 Q) := wC_seq (by kernel_rfl)
theorem w3_38 {pol : Nat → Pol} {cl : CallW} {lp : LoopW} {env : List V} {H : Heap} {Q : KQ} : wC Try.prog pol cl lp c3_38 env H Q = wOps Try.prog pol cl o3_38 d3_38_0 0 env H (Q .nrm) := wC_reg (i := 11) (by kernel_rfl) rfl
theorem w3_38_0 {pol : Nat → Pol} {cl : CallW} {t0 t1 t2 t3 t4 t5 t6 t7 t8 t9 t10 t11 t12 t13 t14 t15 t16 t17 t18 t19 t20 t21 t22 t23 t24 t25 t26 t27 t28 t29 t30 t31 t32 t33 t34 t35 t36 t37 t38 t39 t40 t41 t42 t43 t44 t45 t46 t47 t48 t49 t50 t51 t52 t53 t54 t55 t56 t57 t58 t59 t60 t61 t62 t63 t64 t65 t66 t67 t68 t69 t70 t71 t72 t73 t74 t75 t76 t77 : V} {H : Heap} {Q : List V → Heap → Prop} : wOps Try.prog pol cl o3_38 d3_38_0 0 [t0, t1, t2, t3, t4, t5, t6, t7, t8, t9, t10, t11, t12, t13, t14, t15, t16, t17, t18, t19, t20, t21, t22, t23, t24, t25, t26, t27, t28, t29, t30, t31, t32, t33, t34, t35, t36, t37, t38, t39, t40, t41, t42, t43, t44, t45, t46, t47, t48, t49, t50, t51, t52, t53, t54, t55, t56, t57, t58, t59, t60, t61, t62, t63, t64, t65, t66, t67, t68, t69, t70, t71, t72, t73, t74, t75, t76, t77] H Q = (
  callW pol cl H 55 13 [.nilp] fun v1 H1 =>
  stepW (extractO v1 0) H1 fun v2 H2 =>
  stepW (extractO v1 1) H2 fun v3 H3 =>
  stepW (extractO v1 2) H3 fun v4 H4 =>
  Q [t0, t1, t2, t3, t4, t5, t6, t7, t8, v2, v3, v4, t12, t13, t14, t15, t16, t17, t18, t19, t20, t21, t22, t23, t24, t25, t26, t27, t28, t29, t30, t31, t32, t33, t34, t35, t36, t37, t38, t39, t40, t41, t42, t43, t44, t45, t46, t47, t48, t49, t50, t51, t52, t53, v1, v1, v2, v3, v4, t59, t60, t61, t62, t63, t64, t65, t66, t67, t68, t69, t70, t71, t72, t73, t74, t75, t76, t77] H4) := by kernel_rfl
theorem w3_39 {pol : Nat → Pol} {cl : CallW} {lp : LoopW} {env : List V} {H : Heap} {Q : KQ} : wC Try.prog pol cl lp c3_39 env H Q = wC Try.prog pol cl lp c3_40 env H (seqK Try.prog pol cl lp c3_41 Q) := wC_seq (by kernel_rfl)
theorem w3_40 {pol : Nat → Pol} {cl : CallW} {lp : LoopW} {env : List V} {H : Heap} {Q : KQ} : wC Try.prog pol cl lp c3_40 env H Q = wOps Try.prog pol cl o3_40 d3_40_0 0 env H (Q .nrm) := wC_reg (i := 12) (by kernel_rfl) rfl
theorem w3_40_0c {pol : Nat → Pol} {cl : CallW} {env : List V} {H : Heap} {Q : List V → Heap → Prop} : wOps Try.prog pol cl o3_40 d3_40_0 0 env H Q = wOps Try.prog pol cl o3_40 p3_40_0 0 env H (fun env H => wOps Try.prog pol cl o3_40 d3_40_12 12 env H Q) := wOps_cut (by kernel_rfl) (by kernel_rfl)
theorem w3_40_0 {pol : Nat → Pol} {cl : CallW} {t0 t1 t2 t3 t4 t5 t6 t7 t8 t9 t10 t11 t12 t13 t14 t15 t16 t17 t18 t19 t20 t21 t22 t23 t24 t25 t26 t27 t28 t29 t30 t31 t32 t33 t34 t35 t36 t37 t38 t39 t40 t41 t42 t43 t44 t45 t46 t47 t48 t49 t50 t51 t52 t53 t54 t55 t56 t57 t58 t59 t60 t61 t62 t63 t64 t65 t66 t67 t68 t69 t70 t71 t72 t73 t74 t75 t76 t77 : V} {H : Heap} {Q : List V → Heap → Prop} : wOps Try.prog pol cl o3_40 p3_40_0 0 [t0, t1, t2, t3, t4, t5, t6, t7, t8, t9, t10, t11, t12, t13, t14, t15, t16, t17, t18, t19, t20, t21, t22, t23, t24, t25, t26, t27, t28, t29, t30, t31, t32, t33, t34, t35, t36, t37, t38, t39, t40, t41, t42, t43, t44, t45, t46, t47, t48, t49, t50, t51, t52, t53, t54, t55, t56, t57, t58, t59, t60, t61, t62, t63, t64, t65, t66, t67, t68, t69, t70, t71, t72, t73, t74, t75, t76, t77] H Q = (
  stepW (liftO (evBin Try.prog 24 .eql t9 .nilp)) H fun v1 H1 =>
  guardW v1 true H1 (fun q => q ⟨t10, [], []⟩) fun v2 H2 =>
  guardW v1 true H2 (outW (evLen Try.prog 29 v2)) fun v3 H3 =>
  guardW v1 true H3 (outW (liftO (evBin Try.prog 3 .eql v3 (.int .i64 0)))) fun v4 H4 =>
  stepW (pickO v1 v4 (.bool false)) H4 fun v5 H5 =>
  guardW v5 true H5 (fun q => q ⟨t11, [], []⟩) fun v6 H6 =>
  guardW v5 true H6 (outW (liftO (evBin Try.prog 33 .eql v6 (.int .i64 1)))) fun v7 H7 =>
  stepW (pickO v5 v7 (.bool false)) H7 fun v8 H8 =>
  Q [t0, t1, t2, t3, t4, t5, t6, t7, t8, t9, t10, t11, t12, t13, t14, t15, t16, t17, t18, t19, t20, t21, t22, t23, t24, t25, t26, t27, t28, t29, t30, t31, t32, t33, t34, t35, t36, t37, t38, t39, t40, t41, t42, t43, t44, t45, t46, t47, t48, t49, t50, t51, t52, t53, t54, t55, t56, t57, t58, t9, v1, v1, v2, v3, v4, v5, v5, v6, v7, v8, v8, t71, t72, t73, t74, t75, t76, t77] H8) := by kernel_rfl
theorem w3_40_12 {pol : Nat → Pol} {cl : CallW} {t0 t1 t2 t3 t4 t5 t6 t7 t8 t9 t10 t11 t12 t13 t14 t15 t16 t17 t18 t19 t20 t21 t22 t23 t24 t25 t26 t27 t28 t29 t30 t31 t32 t33 t34 t35 t36 t37 t38 t39 t40 t41 t42 t43 t44 t45 t46 t47 t48 t49 t50 t51 t52 t53 t54 t55 t56 t57 t58 t59 t60 t61 t62 t63 t64 t65 t66 t67 t68 t69 t70 t71 t72 t73 t74 t75 t76 t77 : V} {H : Heap} {Q : List V → Heap → Prop} : wOps Try.prog pol cl o3_40 d3_40_12 12 [t0, t1, t2, t3, t4, t5, t6, t7, t8, t9, t10, t11, t12, t13, t14, t15, t16, t17, t18, t19, t20, t21, t22, t23, t24, t25, t26, t27, t28, t29, t30, t31, t32, t33, t34, t35, t36, t37, t38, t39, t40, t41, t42, t43, t44, t45, t46, t47, t48, t49, t50, t51, t52, t53, t54, t55, t56, t57, t58, t59, t60, t61, t62, t63, t64, t65, t66, t67, t68, t69, t70, t71, t72, t73, t74, t75, t76, t77] H Q = (
  guardW t70 true H (fun q => q ⟨t1, [], []⟩) fun v1 H1 =>
  guardW t70 true H1 (wCall pol cl H1 72 14 [.nilp, v1]) fun v2 H2 =>
  guardW t70 true H2 (outW (liftO (evBin Try.prog 33 .eql v2 (.int .i64 1)))) fun v3 H3 =>
  stepW (pickO t70 v3 (.bool false)) H3 fun v4 H4 =>
  guardW v4 true H4 (wCall pol cl H4 76 7 []) fun v5 H5 =>
  stepW (pickO v4 v5 (.bool false)) H5 fun v6 H6 =>
  Q [t0, t1, t2, t3, v6, t5, t6, t7, t8, t9, t10, t11, t12, t13, t14, t15, t16, t17, t18, t19, t20, t21, t22, t23, t24, t25, t26, t27, t28, t29, t30, t31, t32, t33, t34, t35, t36, t37, t38, t39, t40, t41, t42, t43, t44, t45, t46, t47, t48, t49, t50, t51, t52, t53, t54, t55, t56, t57, t58, t59, t60, t61, t62, t63, t64, t65, t66, t67, t68, t69, t70, v1, v2, v3, v4, v4, v5, v6] H6) := by kernel_rfl
theorem w3_41 {pol : Nat → Pol} {cl : CallW} {lp : LoopW} {env : List V} {H : Heap} {Q : KQ} : wC Try.prog pol cl lp c3_41 env H Q = Q .ret env H := wC_ret (by kernel_rfl)
end Go.Proofs.Ytaiegfeppgaedaa.Iv
