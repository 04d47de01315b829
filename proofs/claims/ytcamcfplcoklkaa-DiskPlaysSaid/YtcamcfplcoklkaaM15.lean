import Derived.Test.YtcamcfplcoklkaaM8
import Derived.Test.YtcamcfplcoklkaaProg
import Derived.Test.YtcamcfplcoklkaaM9
namespace Go.Proofs.Ytcamcfplcoklkaa.Iv
open Go
set_option linter.unusedVariables false
-- incipit/incipitlaw27.did
noncomputable def c12_0 : Code := cAt [] (bodyOf Try.f12)
noncomputable def c12_1 : Code := cAt [0] (bodyOf Try.f12)
noncomputable def o12_1 : Array Oper := opsOf c12_1
noncomputable def d12_1_0 : List Oper := o12_1.toList
noncomputable def c12_2 : Code := cAt [1] (bodyOf Try.f12)
noncomputable def c12_3 : Code := cAt [1, 0] (bodyOf Try.f12)
noncomputable def c12_4 : Code := cAt [1, 0, 0] (bodyOf Try.f12)
noncomputable def o12_4 : Array Oper := opsOf c12_4
noncomputable def d12_4_0 : List Oper := o12_4.toList
noncomputable def c12_5 : Code := cAt [1, 0, 1] (bodyOf Try.f12)
noncomputable def c12_6 : Code := cAt [1, 0, 1, 0] (bodyOf Try.f12)
noncomputable def c12_7 : Code := cAt [1, 0, 1, 0, 0] (bodyOf Try.f12)
noncomputable def o12_7 : Array Oper := opsOf c12_7
noncomputable def d12_7_0 : List Oper := o12_7.toList
noncomputable def c12_8 : Code := cAt [1, 0, 1, 0, 1] (bodyOf Try.f12)
noncomputable def c12_9 : Code := cAt [1, 0, 1, 0, 1, 0] (bodyOf Try.f12)
noncomputable def c12_10 : Code := cAt [1, 0, 1, 0, 1, 0, 0] (bodyOf Try.f12)
noncomputable def o12_10 : Array Oper := opsOf c12_10
noncomputable def d12_10_0 : List Oper := o12_10.toList
noncomputable def c12_11 : Code := cAt [1, 0, 1, 0, 1, 0, 1] (bodyOf Try.f12)
noncomputable def c12_12 : Code := cAt [1, 0, 1, 0, 1, 0, 1, 0] (bodyOf Try.f12)
noncomputable def o12_12 : Array Oper := opsOf c12_12
noncomputable def d12_12_0 : List Oper := o12_12.toList
noncomputable def c12_13 : Code := cAt [1, 0, 1, 0, 1, 0, 1, 1] (bodyOf Try.f12)
noncomputable def c12_14 : Code := cAt [1, 0, 1, 0, 1, 0, 1, 1, 0] (bodyOf Try.f12)
noncomputable def o12_14 : Array Oper := opsOf c12_14
noncomputable def d12_14_0 : List Oper := o12_14.toList
noncomputable def c12_15 : Code := cAt [1, 0, 1, 0, 1, 0, 1, 1, 1] (bodyOf Try.f12)
noncomputable def c12_16 : Code := cAt [1, 0, 1, 0, 1, 0, 1, 1, 1, 0] (bodyOf Try.f12)
noncomputable def o12_16 : Array Oper := opsOf c12_16
noncomputable def d12_16_0 : List Oper := o12_16.toList
noncomputable def c12_17 : Code := cAt [1, 0, 1, 0, 1, 0, 1, 1, 1, 1] (bodyOf Try.f12)
noncomputable def c12_18 : Code := cAt [1, 0, 1, 0, 1, 1] (bodyOf Try.f12)
noncomputable def c12_19 : Code := cAt [1, 0, 1, 0, 1, 1, 0] (bodyOf Try.f12)
noncomputable def o12_19 : Array Oper := opsOf c12_19
noncomputable def d12_19_0 : List Oper := o12_19.toList
noncomputable def c12_20 : Code := cAt [1, 0, 1, 0, 1, 1, 1] (bodyOf Try.f12)
noncomputable def c12_21 : Code := cAt [1, 0, 1, 0, 1, 1, 1, 0] (bodyOf Try.f12)
noncomputable def c12_22 : Code := cAt [1, 0, 1, 0, 1, 1, 1, 0, 0] (bodyOf Try.f12)
noncomputable def o12_22 : Array Oper := opsOf c12_22
noncomputable def d12_22_0 : List Oper := o12_22.toList
noncomputable def c12_23 : Code := cAt [1, 0, 1, 0, 1, 1, 1, 0, 1] (bodyOf Try.f12)
noncomputable def c12_24 : Code := cAt [1, 0, 1, 0, 1, 1, 1, 0, 1, 0] (bodyOf Try.f12)
noncomputable def o12_24 : Array Oper := opsOf c12_24
noncomputable def d12_24_0 : List Oper := o12_24.toList
noncomputable def c12_25 : Code := cAt [1, 0, 1, 0, 1, 1, 1, 0, 1, 1] (bodyOf Try.f12)
noncomputable def c12_26 : Code := cAt [1, 0, 1, 0, 1, 1, 1, 0, 1, 1, 0] (bodyOf Try.f12)
noncomputable def o12_26 : Array Oper := opsOf c12_26
noncomputable def d12_26_0 : List Oper := o12_26.toList
noncomputable def c12_27 : Code := cAt [1, 0, 1, 0, 1, 1, 1, 0, 1, 1, 1] (bodyOf Try.f12)
noncomputable def c12_28 : Code := cAt [1, 0, 1, 0, 1, 1, 1, 0, 1, 1, 1, 0] (bodyOf Try.f12)
noncomputable def o12_28 : Array Oper := opsOf c12_28
noncomputable def d12_28_0 : List Oper := o12_28.toList
noncomputable def c12_29 : Code := cAt [1, 0, 1, 0, 1, 1, 1, 0, 1, 1, 1, 1] (bodyOf Try.f12)
noncomputable def c12_30 : Code := cAt [1, 0, 1, 0, 1, 1, 1, 1] (bodyOf Try.f12)
noncomputable def c12_31 : Code := cAt [1, 0, 1, 0, 1, 1, 1, 1, 0] (bodyOf Try.f12)
noncomputable def o12_31 : Array Oper := opsOf c12_31
noncomputable def d12_31_0 : List Oper := o12_31.toList
noncomputable def c12_32 : Code := cAt [1, 0, 1, 0, 1, 1, 1, 1, 1] (bodyOf Try.f12)
noncomputable def c12_33 : Code := cAt [1, 0, 1, 0, 1, 1, 1, 1, 1, 0] (bodyOf Try.f12)
noncomputable def c12_34 : Code := cAt [1, 0, 1, 0, 1, 1, 1, 1, 1, 0, 0] (bodyOf Try.f12)
noncomputable def o12_34 : Array Oper := opsOf c12_34
noncomputable def d12_34_0 : List Oper := o12_34.toList
noncomputable def c12_35 : Code := cAt [1, 0, 1, 0, 1, 1, 1, 1, 1, 0, 1] (bodyOf Try.f12)
noncomputable def c12_36 : Code := cAt [1, 0, 1, 0, 1, 1, 1, 1, 1, 1] (bodyOf Try.f12)
noncomputable def c12_37 : Code := cAt [1, 0, 1, 0, 1, 1, 1, 1, 1, 1, 0] (bodyOf Try.f12)
noncomputable def o12_37 : Array Oper := opsOf c12_37
noncomputable def d12_37_0 : List Oper := o12_37.toList
noncomputable def c12_38 : Code := cAt [1, 0, 1, 0, 1, 1, 1, 1, 1, 1, 1] (bodyOf Try.f12)
noncomputable def c12_39 : Code := cAt [1, 0, 1, 0, 1, 1, 1, 1, 1, 1, 1, 0] (bodyOf Try.f12)
noncomputable def o12_39 : Array Oper := opsOf c12_39
noncomputable def d12_39_0 : List Oper := o12_39.toList
noncomputable def c12_40 : Code := cAt [1, 0, 1, 0, 1, 1, 1, 1, 1, 1, 1, 1] (bodyOf Try.f12)
noncomputable def c12_41 : Code := cAt [1, 0, 1, 0, 1, 1, 1, 1, 1, 1, 1, 1, 0] (bodyOf Try.f12)
noncomputable def o12_41 : Array Oper := opsOf c12_41
noncomputable def d12_41_0 : List Oper := o12_41.toList
noncomputable def c12_42 : Code := cAt [1, 0, 1, 0, 1, 1, 1, 1, 1, 1, 1, 1, 1] (bodyOf Try.f12)
noncomputable def c12_43 : Code := cAt [1, 0, 1, 0, 1, 1, 1, 1, 1, 1, 1, 1, 1, 0] (bodyOf Try.f12)
noncomputable def o12_43 : Array Oper := opsOf c12_43
noncomputable def d12_43_0 : List Oper := o12_43.toList
noncomputable def c12_44 : Code := cAt [1, 0, 1, 0, 1, 1, 1, 1, 1, 1, 1, 1, 1, 1] (bodyOf Try.f12)
noncomputable def c12_45 : Code := cAt [1, 0, 1, 0, 1, 1, 1, 1, 1, 1, 1, 1, 1, 1, 0] (bodyOf Try.f12)
noncomputable def o12_45 : Array Oper := opsOf c12_45
noncomputable def d12_45_0 : List Oper := o12_45.toList
noncomputable def c12_46 : Code := cAt [1, 0, 1, 0, 1, 1, 1, 1, 1, 1, 1, 1, 1, 1, 1] (bodyOf Try.f12)
noncomputable def c12_47 : Code := cAt [1, 0, 1, 0, 1, 1, 1, 1, 1, 1, 1, 1, 1, 1, 1, 0] (bodyOf Try.f12)
noncomputable def o12_47 : Array Oper := opsOf c12_47
noncomputable def d12_47_0 : List Oper := o12_47.toList
noncomputable def c12_48 : Code := cAt [1, 0, 1, 0, 1, 1, 1, 1, 1, 1, 1, 1, 1, 1, 1, 1] (bodyOf Try.f12)
noncomputable def c12_49 : Code := cAt [1, 1] (bodyOf Try.f12)
noncomputable def c12_50 : Code := cAt [1, 1, 0] (bodyOf Try.f12)
noncomputable def o12_50 : Array Oper := opsOf c12_50
noncomputable def d12_50_0 : List Oper := o12_50.toList
noncomputable def c12_51 : Code := cAt [1, 1, 1] (bodyOf Try.f12)
theorem w12_0 {pol : Nat → Pol} {cl : CallW} {lp : LoopW} {env : List V} {H : Heap} {Q : KQ} : wC Try.prog pol cl lp c12_0 env H Q = wC Try.prog pol cl lp c12_1 env H (seqK Try.prog pol cl lp c12_2 Q) := wC_seq (by kernel_rfl)
theorem w12_1 {pol : Nat → Pol} {cl : CallW} {lp : LoopW} {env : List V} {H : Heap} {Q : KQ} : wC Try.prog pol cl lp c12_1 env H Q = wOps Try.prog pol cl o12_1 d12_1_0 0 env H (Q .nrm) := wC_reg (i := 0) (by kernel_rfl) rfl
theorem w12_1_0 {pol : Nat → Pol} {cl : CallW} {t0 t1 t2 t3 t4 t5 t6 t7 t8 t9 t10 t11 t12 t13 t14 t15 t16 t17 t18 t19 t20 t21 t22 t23 t24 t25 t26 t27 t28 t29 t30 t31 t32 t33 t34 t35 t36 t37 t38 t39 t40 t41 t42 t43 t44 t45 t46 t47 t48 t49 t50 t51 t52 t53 t54 t55 t56 t57 t58 t59 t60 t61 t62 t63 : V} {H : Heap} {Q : List V → Heap → Prop} : wOps Try.prog pol cl o12_1 d12_1_0 0 [t0, t1, t2, t3, t4, t5, t6, t7, t8, t9, t10, t11, t12, t13, t14, t15, t16, t17, t18, t19, t20, t21, t22, t23, t24, t25, t26, t27, t28, t29, t30, t31, t32, t33, t34, t35, t36, t37, t38, t39, t40, t41, t42, t43, t44, t45, t46, t47, t48, t49, t50, t51, t52, t53, t54, t55, t56, t57, t58, t59, t60, t61, t62, t63] H Q = (
  stepW (boxO H 3 t1) H fun v1 H1 =>
  Q [t0, t1, t2, v1, (ofVal ((Value.string { data := #[] }))), (.int .i64 0), t6, t7, t8, t9, t10, t11, t12, t13, t14, t15, t16, t17, t18, t19, t20, t21, t22, t23, t24, t25, t26, t27, t28, t29, t30, t31, t32, t33, t34, t35, t36, t37, t38, t39, t40, t41, t42, t43, t44, t45, t46, t47, t48, t49, t50, t51, t52, t53, t54, t55, t56, t57, t58, t59, t60, t61, t62, t63] H1) := by kernel_rfl
theorem w12_2 {pol : Nat → Pol} {cl : CallW} {lp : LoopW} {env : List V} {H : Heap} {Q : KQ} : wC Try.prog pol cl lp c12_2 env H Q = wC Try.prog pol cl lp c12_3 env H (seqK Try.prog pol cl lp c12_49 Q) := wC_seq (by kernel_rfl)
theorem w12_3 {pol : Nat → Pol} {cl : CallW} {lp : LoopW} {env : List V} {H : Heap} {Q : KQ} : wC Try.prog pol cl lp c12_3 env H Q = wC Try.prog pol cl lp c12_4 env H (seqK Try.prog pol cl lp c12_5 Q) := wC_seq (by kernel_rfl)
theorem w12_4 {pol : Nat → Pol} {cl : CallW} {lp : LoopW} {env : List V} {H : Heap} {Q : KQ} : wC Try.prog pol cl lp c12_4 env H Q = wOps Try.prog pol cl o12_4 d12_4_0 0 env H (Q .nrm) := wC_reg (i := 1) (by kernel_rfl) rfl
theorem w12_4_0 {pol : Nat → Pol} {cl : CallW} {t0 t1 t2 t3 t4 t5 t6 t7 t8 t9 t10 t11 t12 t13 t14 t15 t16 t17 t18 t19 t20 t21 t22 t23 t24 t25 t26 t27 t28 t29 t30 t31 t32 t33 t34 t35 t36 t37 t38 t39 t40 t41 t42 t43 t44 t45 t46 t47 t48 t49 t50 t51 t52 t53 t54 t55 t56 t57 t58 t59 t60 t61 t62 t63 : V} {H : Heap} {Q : List V → Heap → Prop} : wOps Try.prog pol cl o12_4 d12_4_0 0 [t0, t1, t2, t3, t4, t5, t6, t7, t8, t9, t10, t11, t12, t13, t14, t15, t16, t17, t18, t19, t20, t21, t22, t23, t24, t25, t26, t27, t28, t29, t30, t31, t32, t33, t34, t35, t36, t37, t38, t39, t40, t41, t42, t43, t44, t45, t46, t47, t48, t49, t50, t51, t52, t53, t54, t55, t56, t57, t58, t59, t60, t61, t62, t63] H Q = (
  stepW (evFieldAddr Try.prog 36 t3 0) H fun v1 H1 =>
  stepW (evLoad Try.prog H1 3 v1) H1 fun v2 H2 =>
  Q [t0, t1, t2, t3, t4, t5, t6, t7, t8, t9, t10, v1, v2, t13, t14, t15, t16, t17, t18, t19, t20, t21, t22, t23, t24, t25, t26, t27, t28, t29, t30, t31, t32, t33, t34, t35, t36, t37, t38, t39, t40, t41, t42, t43, t44, t45, t46, t47, t48, t49, t50, t51, t52, t53, t54, t55, t56, t57, t58, t59, t60, t61, t62, t63] H2) := by kernel_rfl
theorem w12_5 {pol : Nat → Pol} {cl : CallW} {lp : LoopW} {env : List V} {H : Heap} {Q : KQ} : wC Try.prog pol cl lp c12_5 env H Q = wC Try.prog pol cl lp c12_6 env H (blockK 0 Q) := wC_block (by kernel_rfl)
theorem w12_6 {pol : Nat → Pol} {cl : CallW} {lp : LoopW} {env : List V} {H : Heap} {Q : KQ} : wC Try.prog pol cl lp c12_6 env H Q = wC Try.prog pol cl lp c12_7 env H (seqK Try.prog pol cl lp c12_8 Q) := wC_seq (by kernel_rfl)
theorem w12_7 {pol : Nat → Pol} {cl : CallW} {lp : LoopW} {env : List V} {H : Heap} {Q : KQ} : wC Try.prog pol cl lp c12_7 env H Q = wOps Try.prog pol cl o12_7 d12_7_0 0 env H (Q .nrm) := wC_reg (i := 2) (by kernel_rfl) rfl
theorem w12_7_0 {pol : Nat → Pol} {cl : CallW} {t0 t1 t2 t3 t4 t5 t6 t7 t8 t9 t10 t11 t12 t13 t14 t15 t16 t17 t18 t19 t20 t21 t22 t23 t24 t25 t26 t27 t28 t29 t30 t31 t32 t33 t34 t35 t36 t37 t38 t39 t40 t41 t42 t43 t44 t45 t46 t47 t48 t49 t50 t51 t52 t53 t54 t55 t56 t57 t58 t59 t60 t61 t62 t63 : V} {H : Heap} {Q : List V → Heap → Prop} : wOps Try.prog pol cl o12_7 d12_7_0 0 [t0, t1, t2, t3, t4, t5, t6, t7, t8, t9, t10, t11, t12, t13, t14, t15, t16, t17, t18, t19, t20, t21, t22, t23, t24, t25, t26, t27, t28, t29, t30, t31, t32, t33, t34, t35, t36, t37, t38, t39, t40, t41, t42, t43, t44, t45, t46, t47, t48, t49, t50, t51, t52, t53, t54, t55, t56, t57, t58, t59, t60, t61, t62, t63] H Q = (
  stepW (liftO (evBin Try.prog 3 .eql t12 (.int .i64 0))) H fun v1 H1 =>
  Q [t0, t1, t2, t3, t4, t5, t6, t7, t8, t9, t10, t11, t12, v1, v1, t15, t16, t17, t18, t19, t20, t21, t22, t23, t24, t25, t26, t27, t28, t29, t30, t31, t32, t33, t34, t35, t36, t37, t38, t39, t40, t41, t42, t43, t44, t45, t46, t47, t48, t49, t50, t51, t52, t53, t54, t55, t56, t57, t58, t59, t60, t61, t62, t63] H1) := by kernel_rfl
theorem w12_8 {pol : Nat → Pol} {cl : CallW} {lp : LoopW} {env : List V} {H : Heap} {Q : KQ} : wC Try.prog pol cl lp c12_8 env H Q = condW (evOperand env (Operand.tmp 13)) (wC Try.prog pol cl lp c12_9 env H Q) (wC Try.prog pol cl lp c12_18 env H Q) := wC_cond (by kernel_rfl)
theorem w12_9 {pol : Nat → Pol} {cl : CallW} {lp : LoopW} {env : List V} {H : Heap} {Q : KQ} : wC Try.prog pol cl lp c12_9 env H Q = wC Try.prog pol cl lp c12_10 env H (seqK Try.prog pol cl lp c12_11 Q) := wC_seq (by kernel_rfl)
theorem w12_10 {pol : Nat → Pol} {cl : CallW} {lp : LoopW} {env : List V} {H : Heap} {Q : KQ} : wC Try.prog pol cl lp c12_10 env H Q = wOps Try.prog pol cl o12_10 d12_10_0 0 env H (Q .nrm) := wC_reg (i := 3) (by kernel_rfl) rfl
theorem w12_10_0 {pol : Nat → Pol} {cl : CallW} {t0 t1 t2 t3 t4 t5 t6 t7 t8 t9 t10 t11 t12 t13 t14 t15 t16 t17 t18 t19 t20 t21 t22 t23 t24 t25 t26 t27 t28 t29 t30 t31 t32 t33 t34 t35 t36 t37 t38 t39 t40 t41 t42 t43 t44 t45 t46 t47 t48 t49 t50 t51 t52 t53 t54 t55 t56 t57 t58 t59 t60 t61 t62 t63 : V} {H : Heap} {Q : List V → Heap → Prop} : wOps Try.prog pol cl o12_10 d12_10_0 0 [t0, t1, t2, t3, t4, t5, t6, t7, t8, t9, t10, t11, t12, t13, t14, t15, t16, t17, t18, t19, t20, t21, t22, t23, t24, t25, t26, t27, t28, t29, t30, t31, t32, t33, t34, t35, t36, t37, t38, t39, t40, t41, t42, t43, t44, t45, t46, t47, t48, t49, t50, t51, t52, t53, t54, t55, t56, t57, t58, t59, t60, t61, t62, t63] H Q = (
  stepW (evFieldAddr Try.prog 36 t3 1) H fun v1 H1 =>
  stepW (evLoad Try.prog H1 3 v1) H1 fun v2 H2 =>
  callW pol cl H2 19 22 [t0, v2] fun v3 H3 =>
  stepW (extractO v3 0) H3 fun v4 H4 =>
  stepW (extractO v3 1) H4 fun v5 H5 =>
  Q [t0, t1, t2, t3, t4, t5, v4, v5, t8, t9, t10, t11, t12, t13, t14, v3, t0, v1, v2, v3, v4, v5, t22, t23, t24, t25, t26, t27, t28, t29, t30, t31, t32, t33, t34, t35, t36, t37, t38, t39, t40, t41, t42, t43, t44, t45, t46, t47, t48, t49, t50, t51, t52, t53, t54, t55, t56, t57, t58, t59, t60, t61, t62, t63] H5) := by kernel_rfl
theorem w12_11 {pol : Nat → Pol} {cl : CallW} {lp : LoopW} {env : List V} {H : Heap} {Q : KQ} : wC Try.prog pol cl lp c12_11 env H Q = wC Try.prog pol cl lp c12_12 env H (seqK Try.prog pol cl lp c12_13 Q) := wC_seq (by kernel_rfl)
theorem w12_12 {pol : Nat → Pol} {cl : CallW} {lp : LoopW} {env : List V} {H : Heap} {Q : KQ} : wC Try.prog pol cl lp c12_12 env H Q = wOps Try.prog pol cl o12_12 d12_12_0 0 env H (Q .nrm) := wC_reg (i := 4) (by kernel_rfl) rfl
theorem w12_12_0 {pol : Nat → Pol} {cl : CallW} {t0 t1 t2 t3 t4 t5 t6 t7 t8 t9 t10 t11 t12 t13 t14 t15 t16 t17 t18 t19 t20 t21 t22 t23 t24 t25 t26 t27 t28 t29 t30 t31 t32 t33 t34 t35 t36 t37 t38 t39 t40 t41 t42 t43 t44 t45 t46 t47 t48 t49 t50 t51 t52 t53 t54 t55 t56 t57 t58 t59 t60 t61 t62 t63 : V} {H : Heap} {Q : List V → Heap → Prop} : wOps Try.prog pol cl o12_12 d12_12_0 0 [t0, t1, t2, t3, t4, t5, t6, t7, t8, t9, t10, t11, t12, t13, t14, t15, t16, t17, t18, t19, t20, t21, t22, t23, t24, t25, t26, t27, t28, t29, t30, t31, t32, t33, t34, t35, t36, t37, t38, t39, t40, t41, t42, t43, t44, t45, t46, t47, t48, t49, t50, t51, t52, t53, t54, t55, t56, t57, t58, t59, t60, t61, t62, t63] H Q = (
  stepW (evConvert Try.prog H 34 9 t6) H fun v1 H1 =>
  Q [t0, t1, t2, t3, t4, t5, t6, t7, v1, t9, t10, t11, t12, t13, t14, t15, t16, t17, t18, t19, t20, t21, t6, v1, t24, t25, t26, t27, t28, t29, t30, t31, t32, t33, t34, t35, t36, t37, t38, t39, t40, t41, t42, t43, t44, t45, t46, t47, t48, t49, t50, t51, t52, t53, t54, t55, t56, t57, t58, t59, t60, t61, t62, t63] H1) := by kernel_rfl
theorem w12_13 {pol : Nat → Pol} {cl : CallW} {lp : LoopW} {env : List V} {H : Heap} {Q : KQ} : wC Try.prog pol cl lp c12_13 env H Q = wC Try.prog pol cl lp c12_14 env H (seqK Try.prog pol cl lp c12_15 Q) := wC_seq (by kernel_rfl)
theorem w12_14 {pol : Nat → Pol} {cl : CallW} {lp : LoopW} {env : List V} {H : Heap} {Q : KQ} : wC Try.prog pol cl lp c12_14 env H Q = wOps Try.prog pol cl o12_14 d12_14_0 0 env H (Q .nrm) := wC_reg (i := 5) (by kernel_rfl) rfl
theorem w12_14_0 {pol : Nat → Pol} {cl : CallW} {t0 t1 t2 t3 t4 t5 t6 t7 t8 t9 t10 t11 t12 t13 t14 t15 t16 t17 t18 t19 t20 t21 t22 t23 t24 t25 t26 t27 t28 t29 t30 t31 t32 t33 t34 t35 t36 t37 t38 t39 t40 t41 t42 t43 t44 t45 t46 t47 t48 t49 t50 t51 t52 t53 t54 t55 t56 t57 t58 t59 t60 t61 t62 t63 : V} {H : Heap} {Q : List V → Heap → Prop} : wOps Try.prog pol cl o12_14 d12_14_0 0 [t0, t1, t2, t3, t4, t5, t6, t7, t8, t9, t10, t11, t12, t13, t14, t15, t16, t17, t18, t19, t20, t21, t22, t23, t24, t25, t26, t27, t28, t29, t30, t31, t32, t33, t34, t35, t36, t37, t38, t39, t40, t41, t42, t43, t44, t45, t46, t47, t48, t49, t50, t51, t52, t53, t54, t55, t56, t57, t58, t59, t60, t61, t62, t63] H Q = (
  stepW (evClear Try.prog H 34 t6) H fun v1 H1 =>
  Q [t0, t1, t2, t3, t4, t5, t6, t7, t8, t9, t10, t11, t12, t13, t14, t15, t16, t17, t18, t19, t20, t21, t22, t23, t6, t25, t26, t27, t28, t29, t30, t31, t32, t33, t34, t35, t36, t37, t38, t39, t40, t41, t42, t43, t44, t45, t46, t47, t48, t49, t50, t51, t52, t53, t54, t55, t56, t57, t58, t59, t60, t61, t62, t63] H1) := by kernel_rfl
theorem w12_15 {pol : Nat → Pol} {cl : CallW} {lp : LoopW} {env : List V} {H : Heap} {Q : KQ} : wC Try.prog pol cl lp c12_15 env H Q = wC Try.prog pol cl lp c12_16 env H (seqK Try.prog pol cl lp c12_17 Q) := wC_seq (by kernel_rfl)
theorem w12_16 {pol : Nat → Pol} {cl : CallW} {lp : LoopW} {env : List V} {H : Heap} {Q : KQ} : wC Try.prog pol cl lp c12_16 env H Q = wOps Try.prog pol cl o12_16 d12_16_0 0 env H (Q .nrm) := wC_reg (i := 6) (by kernel_rfl) rfl
theorem w12_16_0 {pol : Nat → Pol} {cl : CallW} {t0 t1 t2 t3 t4 t5 t6 t7 t8 t9 t10 t11 t12 t13 t14 t15 t16 t17 t18 t19 t20 t21 t22 t23 t24 t25 t26 t27 t28 t29 t30 t31 t32 t33 t34 t35 t36 t37 t38 t39 t40 t41 t42 t43 t44 t45 t46 t47 t48 t49 t50 t51 t52 t53 t54 t55 t56 t57 t58 t59 t60 t61 t62 t63 : V} {H : Heap} {Q : List V → Heap → Prop} : wOps Try.prog pol cl o12_16 d12_16_0 0 [t0, t1, t2, t3, t4, t5, t6, t7, t8, t9, t10, t11, t12, t13, t14, t15, t16, t17, t18, t19, t20, t21, t22, t23, t24, t25, t26, t27, t28, t29, t30, t31, t32, t33, t34, t35, t36, t37, t38, t39, t40, t41, t42, t43, t44, t45, t46, t47, t48, t49, t50, t51, t52, t53, t54, t55, t56, t57, t58, t59, t60, t61, t62, t63] H Q = (
  Q [t0, t1, t2, t3, t8, t7, t6, t7, t8, t9, t10, t11, t12, t13, t14, t15, t16, t17, t18, t19, t20, t21, t22, t23, t24, t8, t7, t27, t28, t29, t30, t31, t32, t33, t34, t35, t36, t37, t38, t39, t40, t41, t42, t43, t44, t45, t46, t47, t48, t49, t50, t51, t52, t53, t54, t55, t56, t57, t58, t59, t60, t61, t62, t63] H) := by kernel_rfl
theorem w12_17 {pol : Nat → Pol} {cl : CallW} {lp : LoopW} {env : List V} {H : Heap} {Q : KQ} : wC Try.prog pol cl lp c12_17 env H Q = Q .ret env H := wC_ret (by kernel_rfl)
theorem w12_18 {pol : Nat → Pol} {cl : CallW} {lp : LoopW} {env : List V} {H : Heap} {Q : KQ} : wC Try.prog pol cl lp c12_18 env H Q = wC Try.prog pol cl lp c12_19 env H (seqK Try.prog pol cl lp c12_20 Q) := wC_seq (by kernel_rfl)
theorem w12_19 {pol : Nat → Pol} {cl : CallW} {lp : LoopW} {env : List V} {H : Heap} {Q : KQ} : wC Try.prog pol cl lp c12_19 env H Q = wOps Try.prog pol cl o12_19 d12_19_0 0 env H (Q .nrm) := wC_reg (i := 7) (by kernel_rfl) rfl
theorem w12_19_0 {pol : Nat → Pol} {cl : CallW} {t0 t1 t2 t3 t4 t5 t6 t7 t8 t9 t10 t11 t12 t13 t14 t15 t16 t17 t18 t19 t20 t21 t22 t23 t24 t25 t26 t27 t28 t29 t30 t31 t32 t33 t34 t35 t36 t37 t38 t39 t40 t41 t42 t43 t44 t45 t46 t47 t48 t49 t50 t51 t52 t53 t54 t55 t56 t57 t58 t59 t60 t61 t62 t63 : V} {H : Heap} {Q : List V → Heap → Prop} : wOps Try.prog pol cl o12_19 d12_19_0 0 [t0, t1, t2, t3, t4, t5, t6, t7, t8, t9, t10, t11, t12, t13, t14, t15, t16, t17, t18, t19, t20, t21, t22, t23, t24, t25, t26, t27, t28, t29, t30, t31, t32, t33, t34, t35, t36, t37, t38, t39, t40, t41, t42, t43, t44, t45, t46, t47, t48, t49, t50, t51, t52, t53, t54, t55, t56, t57, t58, t59, t60, t61, t62, t63] H Q = (
  stepW (liftO (evBin Try.prog 3 .eql t12 (.int .i64 1))) H fun v1 H1 =>
  Q [t0, t1, t2, t3, t4, t5, t6, t7, t8, t9, t10, t11, t12, t13, t14, t15, t16, t17, t18, t19, t20, t21, t22, t23, t24, t25, t26, v1, v1, t29, t30, t31, t32, t33, t34, t35, t36, t37, t38, t39, t40, t41, t42, t43, t44, t45, t46, t47, t48, t49, t50, t51, t52, t53, t54, t55, t56, t57, t58, t59, t60, t61, t62, t63] H1) := by kernel_rfl
theorem w12_20 {pol : Nat → Pol} {cl : CallW} {lp : LoopW} {env : List V} {H : Heap} {Q : KQ} : wC Try.prog pol cl lp c12_20 env H Q = condW (evOperand env (Operand.tmp 27)) (wC Try.prog pol cl lp c12_21 env H Q) (wC Try.prog pol cl lp c12_30 env H Q) := wC_cond (by kernel_rfl)
theorem w12_21 {pol : Nat → Pol} {cl : CallW} {lp : LoopW} {env : List V} {H : Heap} {Q : KQ} : wC Try.prog pol cl lp c12_21 env H Q = wC Try.prog pol cl lp c12_22 env H (seqK Try.prog pol cl lp c12_23 Q) := wC_seq (by kernel_rfl)
theorem w12_22 {pol : Nat → Pol} {cl : CallW} {lp : LoopW} {env : List V} {H : Heap} {Q : KQ} : wC Try.prog pol cl lp c12_22 env H Q = wOps Try.prog pol cl o12_22 d12_22_0 0 env H (Q .nrm) := wC_reg (i := 8) (by kernel_rfl) rfl
theorem w12_22_0 {pol : Nat → Pol} {cl : CallW} {t0 t1 t2 t3 t4 t5 t6 t7 t8 t9 t10 t11 t12 t13 t14 t15 t16 t17 t18 t19 t20 t21 t22 t23 t24 t25 t26 t27 t28 t29 t30 t31 t32 t33 t34 t35 t36 t37 t38 t39 t40 t41 t42 t43 t44 t45 t46 t47 t48 t49 t50 t51 t52 t53 t54 t55 t56 t57 t58 t59 t60 t61 t62 t63 : V} {H : Heap} {Q : List V → Heap → Prop} : wOps Try.prog pol cl o12_22 d12_22_0 0 [t0, t1, t2, t3, t4, t5, t6, t7, t8, t9, t10, t11, t12, t13, t14, t15, t16, t17, t18, t19, t20, t21, t22, t23, t24, t25, t26, t27, t28, t29, t30, t31, t32, t33, t34, t35, t36, t37, t38, t39, t40, t41, t42, t43, t44, t45, t46, t47, t48, t49, t50, t51, t52, t53, t54, t55, t56, t57, t58, t59, t60, t61, t62, t63] H Q = (
  stepW (evBuildSlice Try.prog H 29 34 0 []) H fun v1 H1 =>
  stepW (evFieldAddr Try.prog 36 t3 3) H1 fun v2 H2 =>
  stepW (evLoad Try.prog H2 34 v2) H2 fun v3 H3 =>
  stepW (evAppend Try.prog H3 32 34 34 v1 v3) H3 fun v4 H4 =>
  Q [t0, t1, t2, t3, t4, t5, t6, t7, t8, v4, t10, t11, t12, t13, t14, t15, t16, t17, t18, t19, t20, t21, t22, t23, t24, t25, t26, t27, t28, v1, v2, v3, v4, t33, t34, t35, t36, t37, t38, t39, t40, t41, t42, t43, t44, t45, t46, t47, t48, t49, t50, t51, t52, t53, t54, t55, t56, t57, t58, t59, t60, t61, t62, t63] H4) := by kernel_rfl
theorem w12_23 {pol : Nat → Pol} {cl : CallW} {lp : LoopW} {env : List V} {H : Heap} {Q : KQ} : wC Try.prog pol cl lp c12_23 env H Q = wC Try.prog pol cl lp c12_24 env H (seqK Try.prog pol cl lp c12_25 Q) := wC_seq (by kernel_rfl)
theorem w12_24 {pol : Nat → Pol} {cl : CallW} {lp : LoopW} {env : List V} {H : Heap} {Q : KQ} : wC Try.prog pol cl lp c12_24 env H Q = wOps Try.prog pol cl o12_24 d12_24_0 0 env H (Q .nrm) := wC_reg (i := 9) (by kernel_rfl) rfl
theorem w12_24_0 {pol : Nat → Pol} {cl : CallW} {t0 t1 t2 t3 t4 t5 t6 t7 t8 t9 t10 t11 t12 t13 t14 t15 t16 t17 t18 t19 t20 t21 t22 t23 t24 t25 t26 t27 t28 t29 t30 t31 t32 t33 t34 t35 t36 t37 t38 t39 t40 t41 t42 t43 t44 t45 t46 t47 t48 t49 t50 t51 t52 t53 t54 t55 t56 t57 t58 t59 t60 t61 t62 t63 : V} {H : Heap} {Q : List V → Heap → Prop} : wOps Try.prog pol cl o12_24 d12_24_0 0 [t0, t1, t2, t3, t4, t5, t6, t7, t8, t9, t10, t11, t12, t13, t14, t15, t16, t17, t18, t19, t20, t21, t22, t23, t24, t25, t26, t27, t28, t29, t30, t31, t32, t33, t34, t35, t36, t37, t38, t39, t40, t41, t42, t43, t44, t45, t46, t47, t48, t49, t50, t51, t52, t53, t54, t55, t56, t57, t58, t59, t60, t61, t62, t63] H Q = (
  stepW (evFieldAddr Try.prog 36 t3 1) H fun v1 H1 =>
  stepW (evLoad Try.prog H1 3 v1) H1 fun v2 H2 =>
  callW pol cl H2 37 20 [t0, v2, t9] fun v3 H3 =>
  Q [t0, t1, t2, t3, t4, t5, t6, t7, t8, t9, v3, t11, t12, t13, t14, t15, t16, t17, t18, t19, t20, t21, t22, t23, t24, t25, t26, t27, t28, t29, t30, t31, t32, t0, v1, v2, t9, v3, t38, t39, t40, t41, t42, t43, t44, t45, t46, t47, t48, t49, t50, t51, t52, t53, t54, t55, t56, t57, t58, t59, t60, t61, t62, t63] H3) := by kernel_rfl
theorem w12_25 {pol : Nat → Pol} {cl : CallW} {lp : LoopW} {env : List V} {H : Heap} {Q : KQ} : wC Try.prog pol cl lp c12_25 env H Q = wC Try.prog pol cl lp c12_26 env H (seqK Try.prog pol cl lp c12_27 Q) := wC_seq (by kernel_rfl)
theorem w12_26 {pol : Nat → Pol} {cl : CallW} {lp : LoopW} {env : List V} {H : Heap} {Q : KQ} : wC Try.prog pol cl lp c12_26 env H Q = wOps Try.prog pol cl o12_26 d12_26_0 0 env H (Q .nrm) := wC_reg (i := 10) (by kernel_rfl) rfl
theorem w12_26_0 {pol : Nat → Pol} {cl : CallW} {t0 t1 t2 t3 t4 t5 t6 t7 t8 t9 t10 t11 t12 t13 t14 t15 t16 t17 t18 t19 t20 t21 t22 t23 t24 t25 t26 t27 t28 t29 t30 t31 t32 t33 t34 t35 t36 t37 t38 t39 t40 t41 t42 t43 t44 t45 t46 t47 t48 t49 t50 t51 t52 t53 t54 t55 t56 t57 t58 t59 t60 t61 t62 t63 : V} {H : Heap} {Q : List V → Heap → Prop} : wOps Try.prog pol cl o12_26 d12_26_0 0 [t0, t1, t2, t3, t4, t5, t6, t7, t8, t9, t10, t11, t12, t13, t14, t15, t16, t17, t18, t19, t20, t21, t22, t23, t24, t25, t26, t27, t28, t29, t30, t31, t32, t33, t34, t35, t36, t37, t38, t39, t40, t41, t42, t43, t44, t45, t46, t47, t48, t49, t50, t51, t52, t53, t54, t55, t56, t57, t58, t59, t60, t61, t62, t63] H Q = (
  stepW (evClear Try.prog H 34 t9) H fun v1 H1 =>
  Q [t0, t1, t2, t3, t4, t5, t6, t7, t8, t9, t10, t11, t12, t13, t14, t15, t16, t17, t18, t19, t20, t21, t22, t23, t24, t25, t26, t27, t28, t29, t30, t31, t32, t33, t34, t35, t36, t37, t9, t39, t40, t41, t42, t43, t44, t45, t46, t47, t48, t49, t50, t51, t52, t53, t54, t55, t56, t57, t58, t59, t60, t61, t62, t63] H1) := by kernel_rfl
theorem w12_27 {pol : Nat → Pol} {cl : CallW} {lp : LoopW} {env : List V} {H : Heap} {Q : KQ} : wC Try.prog pol cl lp c12_27 env H Q = wC Try.prog pol cl lp c12_28 env H (seqK Try.prog pol cl lp c12_29 Q) := wC_seq (by kernel_rfl)
theorem w12_28 {pol : Nat → Pol} {cl : CallW} {lp : LoopW} {env : List V} {H : Heap} {Q : KQ} : wC Try.prog pol cl lp c12_28 env H Q = wOps Try.prog pol cl o12_28 d12_28_0 0 env H (Q .nrm) := wC_reg (i := 11) (by kernel_rfl) rfl
theorem w12_28_0 {pol : Nat → Pol} {cl : CallW} {t0 t1 t2 t3 t4 t5 t6 t7 t8 t9 t10 t11 t12 t13 t14 t15 t16 t17 t18 t19 t20 t21 t22 t23 t24 t25 t26 t27 t28 t29 t30 t31 t32 t33 t34 t35 t36 t37 t38 t39 t40 t41 t42 t43 t44 t45 t46 t47 t48 t49 t50 t51 t52 t53 t54 t55 t56 t57 t58 t59 t60 t61 t62 t63 : V} {H : Heap} {Q : List V → Heap → Prop} : wOps Try.prog pol cl o12_28 d12_28_0 0 [t0, t1, t2, t3, t4, t5, t6, t7, t8, t9, t10, t11, t12, t13, t14, t15, t16, t17, t18, t19, t20, t21, t22, t23, t24, t25, t26, t27, t28, t29, t30, t31, t32, t33, t34, t35, t36, t37, t38, t39, t40, t41, t42, t43, t44, t45, t46, t47, t48, t49, t50, t51, t52, t53, t54, t55, t56, t57, t58, t59, t60, t61, t62, t63] H Q = (
  Q [t0, t1, t2, t3, (ofVal ((Value.string { data := #[] }))), t10, t6, t7, t8, t9, t10, t11, t12, t13, t14, t15, t16, t17, t18, t19, t20, t21, t22, t23, t24, t25, t26, t27, t28, t29, t30, t31, t32, t33, t34, t35, t36, t37, t38, t10, t40, t41, t42, t43, t44, t45, t46, t47, t48, t49, t50, t51, t52, t53, t54, t55, t56, t57, t58, t59, t60, t61, t62, t63] H) := by kernel_rfl
theorem w12_29 {pol : Nat → Pol} {cl : CallW} {lp : LoopW} {env : List V} {H : Heap} {Q : KQ} : wC Try.prog pol cl lp c12_29 env H Q = Q .ret env H := wC_ret (by kernel_rfl)
theorem w12_30 {pol : Nat → Pol} {cl : CallW} {lp : LoopW} {env : List V} {H : Heap} {Q : KQ} : wC Try.prog pol cl lp c12_30 env H Q = wC Try.prog pol cl lp c12_31 env H (seqK Try.prog pol cl lp c12_32 Q) := wC_seq (by kernel_rfl)
theorem w12_31 {pol : Nat → Pol} {cl : CallW} {lp : LoopW} {env : List V} {H : Heap} {Q : KQ} : wC Try.prog pol cl lp c12_31 env H Q = wOps Try.prog pol cl o12_31 d12_31_0 0 env H (Q .nrm) := wC_reg (i := 12) (by kernel_rfl) rfl
theorem w12_31_0 {pol : Nat → Pol} {cl : CallW} {t0 t1 t2 t3 t4 t5 t6 t7 t8 t9 t10 t11 t12 t13 t14 t15 t16 t17 t18 t19 t20 t21 t22 t23 t24 t25 t26 t27 t28 t29 t30 t31 t32 t33 t34 t35 t36 t37 t38 t39 t40 t41 t42 t43 t44 t45 t46 t47 t48 t49 t50 t51 t52 t53 t54 t55 t56 t57 t58 t59 t60 t61 t62 t63 : V} {H : Heap} {Q : List V → Heap → Prop} : wOps Try.prog pol cl o12_31 d12_31_0 0 [t0, t1, t2, t3, t4, t5, t6, t7, t8, t9, t10, t11, t12, t13, t14, t15, t16, t17, t18, t19, t20, t21, t22, t23, t24, t25, t26, t27, t28, t29, t30, t31, t32, t33, t34, t35, t36, t37, t38, t39, t40, t41, t42, t43, t44, t45, t46, t47, t48, t49, t50, t51, t52, t53, t54, t55, t56, t57, t58, t59, t60, t61, t62, t63] H Q = (
  stepW (liftO (evBin Try.prog 3 .eql t12 (.int .i64 2))) H fun v1 H1 =>
  Q [t0, t1, t2, t3, t4, t5, t6, t7, t8, t9, t10, t11, t12, t13, t14, t15, t16, t17, t18, t19, t20, t21, t22, t23, t24, t25, t26, t27, t28, t29, t30, t31, t32, t33, t34, t35, t36, t37, t38, t39, v1, v1, t42, t43, t44, t45, t46, t47, t48, t49, t50, t51, t52, t53, t54, t55, t56, t57, t58, t59, t60, t61, t62, t63] H1) := by kernel_rfl
theorem w12_32 {pol : Nat → Pol} {cl : CallW} {lp : LoopW} {env : List V} {H : Heap} {Q : KQ} : wC Try.prog pol cl lp c12_32 env H Q = condW (evOperand env (Operand.tmp 40)) (wC Try.prog pol cl lp c12_33 env H Q) (wC Try.prog pol cl lp c12_36 env H Q) := wC_cond (by kernel_rfl)
theorem w12_33 {pol : Nat → Pol} {cl : CallW} {lp : LoopW} {env : List V} {H : Heap} {Q : KQ} : wC Try.prog pol cl lp c12_33 env H Q = wC Try.prog pol cl lp c12_34 env H (seqK Try.prog pol cl lp c12_35 Q) := wC_seq (by kernel_rfl)
theorem w12_34 {pol : Nat → Pol} {cl : CallW} {lp : LoopW} {env : List V} {H : Heap} {Q : KQ} : wC Try.prog pol cl lp c12_34 env H Q = wOps Try.prog pol cl o12_34 d12_34_0 0 env H (Q .nrm) := wC_reg (i := 13) (by kernel_rfl) rfl
theorem w12_34_0 {pol : Nat → Pol} {cl : CallW} {t0 t1 t2 t3 t4 t5 t6 t7 t8 t9 t10 t11 t12 t13 t14 t15 t16 t17 t18 t19 t20 t21 t22 t23 t24 t25 t26 t27 t28 t29 t30 t31 t32 t33 t34 t35 t36 t37 t38 t39 t40 t41 t42 t43 t44 t45 t46 t47 t48 t49 t50 t51 t52 t53 t54 t55 t56 t57 t58 t59 t60 t61 t62 t63 : V} {H : Heap} {Q : List V → Heap → Prop} : wOps Try.prog pol cl o12_34 d12_34_0 0 [t0, t1, t2, t3, t4, t5, t6, t7, t8, t9, t10, t11, t12, t13, t14, t15, t16, t17, t18, t19, t20, t21, t22, t23, t24, t25, t26, t27, t28, t29, t30, t31, t32, t33, t34, t35, t36, t37, t38, t39, t40, t41, t42, t43, t44, t45, t46, t47, t48, t49, t50, t51, t52, t53, t54, t55, t56, t57, t58, t59, t60, t61, t62, t63] H Q = (
  callW pol cl H 43 19 [t0] fun v1 H1 =>
  Q [t0, t1, t2, t3, (ofVal ((Value.string { data := #[] }))), v1, t6, t7, t8, t9, t10, t11, t12, t13, t14, t15, t16, t17, t18, t19, t20, t21, t22, t23, t24, t25, t26, t27, t28, t29, t30, t31, t32, t33, t34, t35, t36, t37, t38, t39, t40, t41, t0, v1, t44, t45, t46, t47, t48, t49, t50, t51, t52, t53, t54, t55, t56, t57, t58, t59, t60, t61, t62, t63] H1) := by kernel_rfl
theorem w12_35 {pol : Nat → Pol} {cl : CallW} {lp : LoopW} {env : List V} {H : Heap} {Q : KQ} : wC Try.prog pol cl lp c12_35 env H Q = Q .ret env H := wC_ret (by kernel_rfl)
theorem w12_36 {pol : Nat → Pol} {cl : CallW} {lp : LoopW} {env : List V} {H : Heap} {Q : KQ} : wC Try.prog pol cl lp c12_36 env H Q = wC Try.prog pol cl lp c12_37 env H (seqK Try.prog pol cl lp c12_38 Q) := wC_seq (by kernel_rfl)
theorem w12_37 {pol : Nat → Pol} {cl : CallW} {lp : LoopW} {env : List V} {H : Heap} {Q : KQ} : wC Try.prog pol cl lp c12_37 env H Q = wOps Try.prog pol cl o12_37 d12_37_0 0 env H (Q .nrm) := wC_reg (i := 14) (by kernel_rfl) rfl
theorem w12_37_0 {pol : Nat → Pol} {cl : CallW} {t0 t1 t2 t3 t4 t5 t6 t7 t8 t9 t10 t11 t12 t13 t14 t15 t16 t17 t18 t19 t20 t21 t22 t23 t24 t25 t26 t27 t28 t29 t30 t31 t32 t33 t34 t35 t36 t37 t38 t39 t40 t41 t42 t43 t44 t45 t46 t47 t48 t49 t50 t51 t52 t53 t54 t55 t56 t57 t58 t59 t60 t61 t62 t63 : V} {H : Heap} {Q : List V → Heap → Prop} : wOps Try.prog pol cl o12_37 d12_37_0 0 [t0, t1, t2, t3, t4, t5, t6, t7, t8, t9, t10, t11, t12, t13, t14, t15, t16, t17, t18, t19, t20, t21, t22, t23, t24, t25, t26, t27, t28, t29, t30, t31, t32, t33, t34, t35, t36, t37, t38, t39, t40, t41, t42, t43, t44, t45, t46, t47, t48, t49, t50, t51, t52, t53, t54, t55, t56, t57, t58, t59, t60, t61, t62, t63] H Q = (
  stepW (liftO (evBin Try.prog 3 .eql t12 (.int .i64 3))) H fun v1 H1 =>
  Q [t0, t1, t2, t3, t4, t5, t6, t7, t8, t9, t10, t11, t12, t13, t14, t15, t16, t17, t18, t19, t20, t21, t22, t23, t24, t25, t26, t27, t28, t29, t30, t31, t32, t33, t34, t35, t36, t37, t38, t39, t40, t41, t42, t43, v1, v1, t46, t47, t48, t49, t50, t51, t52, t53, t54, t55, t56, t57, t58, t59, t60, t61, t62, t63] H1) := by kernel_rfl
theorem w12_38 {pol : Nat → Pol} {cl : CallW} {lp : LoopW} {env : List V} {H : Heap} {Q : KQ} : wC Try.prog pol cl lp c12_38 env H Q = condW (evOperand env (Operand.tmp 44)) (wC Try.prog pol cl lp c12_39 env H Q) (wC Try.prog pol cl lp c12_40 env H Q) := wC_cond (by kernel_rfl)
theorem w12_39 {pol : Nat → Pol} {cl : CallW} {lp : LoopW} {env : List V} {H : Heap} {Q : KQ} : wC Try.prog pol cl lp c12_39 env H Q = wOps Try.prog pol cl o12_39 d12_39_0 0 env H (Q .nrm) := wC_reg (i := 15) (by kernel_rfl) rfl
theorem w12_39_0 {pol : Nat → Pol} {cl : CallW} {t0 t1 t2 t3 t4 t5 t6 t7 t8 t9 t10 t11 t12 t13 t14 t15 t16 t17 t18 t19 t20 t21 t22 t23 t24 t25 t26 t27 t28 t29 t30 t31 t32 t33 t34 t35 t36 t37 t38 t39 t40 t41 t42 t43 t44 t45 t46 t47 t48 t49 t50 t51 t52 t53 t54 t55 t56 t57 t58 t59 t60 t61 t62 t63 : V} {H : Heap} {Q : List V → Heap → Prop} : wOps Try.prog pol cl o12_39 d12_39_0 0 [t0, t1, t2, t3, t4, t5, t6, t7, t8, t9, t10, t11, t12, t13, t14, t15, t16, t17, t18, t19, t20, t21, t22, t23, t24, t25, t26, t27, t28, t29, t30, t31, t32, t33, t34, t35, t36, t37, t38, t39, t40, t41, t42, t43, t44, t45, t46, t47, t48, t49, t50, t51, t52, t53, t54, t55, t56, t57, t58, t59, t60, t61, t62, t63] H Q = (
  stepW (evFieldAddr Try.prog 36 t3 1) H fun v1 H1 =>
  stepW (evLoad Try.prog H1 3 v1) H1 fun v2 H2 =>
  callW pol cl H2 49 24 [t0, v2] fun v3 H3 =>
  Q [t0, t1, t2, t3, t4, t5, t6, t7, t8, t9, t10, t11, t12, t13, t14, t15, t16, t17, t18, t19, t20, t21, t22, t23, t24, t25, t26, t27, t28, t29, t30, t31, t32, t33, t34, t35, t36, t37, t38, t39, t40, t41, t42, t43, t44, t45, t0, v1, v2, v3, t50, t51, t52, t53, t54, t55, t56, t57, t58, t59, t60, t61, t62, t63] H3) := by kernel_rfl
theorem w12_40 {pol : Nat → Pol} {cl : CallW} {lp : LoopW} {env : List V} {H : Heap} {Q : KQ} : wC Try.prog pol cl lp c12_40 env H Q = wC Try.prog pol cl lp c12_41 env H (seqK Try.prog pol cl lp c12_42 Q) := wC_seq (by kernel_rfl)
theorem w12_41 {pol : Nat → Pol} {cl : CallW} {lp : LoopW} {env : List V} {H : Heap} {Q : KQ} : wC Try.prog pol cl lp c12_41 env H Q = wOps Try.prog pol cl o12_41 d12_41_0 0 env H (Q .nrm) := wC_reg (i := 16) (by kernel_rfl) rfl
theorem w12_41_0 {pol : Nat → Pol} {cl : CallW} {t0 t1 t2 t3 t4 t5 t6 t7 t8 t9 t10 t11 t12 t13 t14 t15 t16 t17 t18 t19 t20 t21 t22 t23 t24 t25 t26 t27 t28 t29 t30 t31 t32 t33 t34 t35 t36 t37 t38 t39 t40 t41 t42 t43 t44 t45 t46 t47 t48 t49 t50 t51 t52 t53 t54 t55 t56 t57 t58 t59 t60 t61 t62 t63 : V} {H : Heap} {Q : List V → Heap → Prop} : wOps Try.prog pol cl o12_41 d12_41_0 0 [t0, t1, t2, t3, t4, t5, t6, t7, t8, t9, t10, t11, t12, t13, t14, t15, t16, t17, t18, t19, t20, t21, t22, t23, t24, t25, t26, t27, t28, t29, t30, t31, t32, t33, t34, t35, t36, t37, t38, t39, t40, t41, t42, t43, t44, t45, t46, t47, t48, t49, t50, t51, t52, t53, t54, t55, t56, t57, t58, t59, t60, t61, t62, t63] H Q = (
  stepW (liftO (evBin Try.prog 3 .eql t12 (.int .i64 4))) H fun v1 H1 =>
  Q [t0, t1, t2, t3, t4, t5, t6, t7, t8, t9, t10, t11, t12, t13, t14, t15, t16, t17, t18, t19, t20, t21, t22, t23, t24, t25, t26, t27, t28, t29, t30, t31, t32, t33, t34, t35, t36, t37, t38, t39, t40, t41, t42, t43, t44, t45, t46, t47, t48, t49, v1, v1, t52, t53, t54, t55, t56, t57, t58, t59, t60, t61, t62, t63] H1) := by kernel_rfl
theorem w12_42 {pol : Nat → Pol} {cl : CallW} {lp : LoopW} {env : List V} {H : Heap} {Q : KQ} : wC Try.prog pol cl lp c12_42 env H Q = condW (evOperand env (Operand.tmp 50)) (wC Try.prog pol cl lp c12_43 env H Q) (wC Try.prog pol cl lp c12_44 env H Q) := wC_cond (by kernel_rfl)
theorem w12_43 {pol : Nat → Pol} {cl : CallW} {lp : LoopW} {env : List V} {H : Heap} {Q : KQ} : wC Try.prog pol cl lp c12_43 env H Q = wOps Try.prog pol cl o12_43 d12_43_0 0 env H (Q .nrm) := wC_reg (i := 17) (by kernel_rfl) rfl
theorem w12_43_0 {pol : Nat → Pol} {cl : CallW} {t0 t1 t2 t3 t4 t5 t6 t7 t8 t9 t10 t11 t12 t13 t14 t15 t16 t17 t18 t19 t20 t21 t22 t23 t24 t25 t26 t27 t28 t29 t30 t31 t32 t33 t34 t35 t36 t37 t38 t39 t40 t41 t42 t43 t44 t45 t46 t47 t48 t49 t50 t51 t52 t53 t54 t55 t56 t57 t58 t59 t60 t61 t62 t63 : V} {H : Heap} {Q : List V → Heap → Prop} : wOps Try.prog pol cl o12_43 d12_43_0 0 [t0, t1, t2, t3, t4, t5, t6, t7, t8, t9, t10, t11, t12, t13, t14, t15, t16, t17, t18, t19, t20, t21, t22, t23, t24, t25, t26, t27, t28, t29, t30, t31, t32, t33, t34, t35, t36, t37, t38, t39, t40, t41, t42, t43, t44, t45, t46, t47, t48, t49, t50, t51, t52, t53, t54, t55, t56, t57, t58, t59, t60, t61, t62, t63] H Q = (
  stepW (evFieldAddr Try.prog 36 t3 1) H fun v1 H1 =>
  stepW (evLoad Try.prog H1 3 v1) H1 fun v2 H2 =>
  callW pol cl H2 55 25 [t0, v2] fun v3 H3 =>
  Q [t0, t1, t2, t3, t4, t5, t6, t7, t8, t9, t10, t11, t12, t13, t14, t15, t16, t17, t18, t19, t20, t21, t22, t23, t24, t25, t26, t27, t28, t29, t30, t31, t32, t33, t34, t35, t36, t37, t38, t39, t40, t41, t42, t43, t44, t45, t46, t47, t48, t49, t50, t51, t0, v1, v2, v3, t56, t57, t58, t59, t60, t61, t62, t63] H3) := by kernel_rfl
theorem w12_44 {pol : Nat → Pol} {cl : CallW} {lp : LoopW} {env : List V} {H : Heap} {Q : KQ} : wC Try.prog pol cl lp c12_44 env H Q = wC Try.prog pol cl lp c12_45 env H (seqK Try.prog pol cl lp c12_46 Q) := wC_seq (by kernel_rfl)
theorem w12_45 {pol : Nat → Pol} {cl : CallW} {lp : LoopW} {env : List V} {H : Heap} {Q : KQ} : wC Try.prog pol cl lp c12_45 env H Q = wOps Try.prog pol cl o12_45 d12_45_0 0 env H (Q .nrm) := wC_reg (i := 18) (by kernel_rfl) rfl
theorem w12_45_0 {pol : Nat → Pol} {cl : CallW} {t0 t1 t2 t3 t4 t5 t6 t7 t8 t9 t10 t11 t12 t13 t14 t15 t16 t17 t18 t19 t20 t21 t22 t23 t24 t25 t26 t27 t28 t29 t30 t31 t32 t33 t34 t35 t36 t37 t38 t39 t40 t41 t42 t43 t44 t45 t46 t47 t48 t49 t50 t51 t52 t53 t54 t55 t56 t57 t58 t59 t60 t61 t62 t63 : V} {H : Heap} {Q : List V → Heap → Prop} : wOps Try.prog pol cl o12_45 d12_45_0 0 [t0, t1, t2, t3, t4, t5, t6, t7, t8, t9, t10, t11, t12, t13, t14, t15, t16, t17, t18, t19, t20, t21, t22, t23, t24, t25, t26, t27, t28, t29, t30, t31, t32, t33, t34, t35, t36, t37, t38, t39, t40, t41, t42, t43, t44, t45, t46, t47, t48, t49, t50, t51, t52, t53, t54, t55, t56, t57, t58, t59, t60, t61, t62, t63] H Q = (
  stepW (liftO (evBin Try.prog 3 .eql t12 (.int .i64 5))) H fun v1 H1 =>
  Q [t0, t1, t2, t3, t4, t5, t6, t7, t8, t9, t10, t11, t12, t13, t14, t15, t16, t17, t18, t19, t20, t21, t22, t23, t24, t25, t26, t27, t28, t29, t30, t31, t32, t33, t34, t35, t36, t37, t38, t39, t40, t41, t42, t43, t44, t45, t46, t47, t48, t49, t50, t51, t52, t53, t54, t55, v1, v1, t58, t59, t60, t61, t62, t63] H1) := by kernel_rfl
theorem w12_46 {pol : Nat → Pol} {cl : CallW} {lp : LoopW} {env : List V} {H : Heap} {Q : KQ} : wC Try.prog pol cl lp c12_46 env H Q = condW (evOperand env (Operand.tmp 56)) (wC Try.prog pol cl lp c12_47 env H Q) (wC Try.prog pol cl lp c12_48 env H Q) := wC_cond (by kernel_rfl)
theorem w12_47 {pol : Nat → Pol} {cl : CallW} {lp : LoopW} {env : List V} {H : Heap} {Q : KQ} : wC Try.prog pol cl lp c12_47 env H Q = wOps Try.prog pol cl o12_47 d12_47_0 0 env H (Q .nrm) := wC_reg (i := 19) (by kernel_rfl) rfl
theorem w12_47_0 {pol : Nat → Pol} {cl : CallW} {t0 t1 t2 t3 t4 t5 t6 t7 t8 t9 t10 t11 t12 t13 t14 t15 t16 t17 t18 t19 t20 t21 t22 t23 t24 t25 t26 t27 t28 t29 t30 t31 t32 t33 t34 t35 t36 t37 t38 t39 t40 t41 t42 t43 t44 t45 t46 t47 t48 t49 t50 t51 t52 t53 t54 t55 t56 t57 t58 t59 t60 t61 t62 t63 : V} {H : Heap} {Q : List V → Heap → Prop} : wOps Try.prog pol cl o12_47 d12_47_0 0 [t0, t1, t2, t3, t4, t5, t6, t7, t8, t9, t10, t11, t12, t13, t14, t15, t16, t17, t18, t19, t20, t21, t22, t23, t24, t25, t26, t27, t28, t29, t30, t31, t32, t33, t34, t35, t36, t37, t38, t39, t40, t41, t42, t43, t44, t45, t46, t47, t48, t49, t50, t51, t52, t53, t54, t55, t56, t57, t58, t59, t60, t61, t62, t63] H Q = (
  stepW (evFieldAddr Try.prog 36 t3 1) H fun v1 H1 =>
  stepW (evLoad Try.prog H1 3 v1) H1 fun v2 H2 =>
  stepW (evFieldAddr Try.prog 36 t3 2) H2 fun v3 H3 =>
  stepW (evLoad Try.prog H3 3 v3) H3 fun v4 H4 =>
  callW pol cl H4 63 21 [t0, v2, v4] fun v5 H5 =>
  Q [t0, t1, t2, t3, t4, t5, t6, t7, t8, t9, t10, t11, t12, t13, t14, t15, t16, t17, t18, t19, t20, t21, t22, t23, t24, t25, t26, t27, t28, t29, t30, t31, t32, t33, t34, t35, t36, t37, t38, t39, t40, t41, t42, t43, t44, t45, t46, t47, t48, t49, t50, t51, t52, t53, t54, t55, t56, t57, t0, v1, v2, v3, v4, v5] H5) := by kernel_rfl
theorem w12_48 {pol : Nat → Pol} {cl : CallW} {lp : LoopW} {env : List V} {H : Heap} {Q : KQ} : wC Try.prog pol cl lp c12_48 env H Q = Q .nrm env H := wC_skip (by kernel_rfl)
theorem w12_49 {pol : Nat → Pol} {cl : CallW} {lp : LoopW} {env : List V} {H : Heap} {Q : KQ} : wC Try.prog pol cl lp c12_49 env H Q = wC Try.prog pol cl lp c12_50 env H (seqK Try.prog pol cl lp c12_51 Q) := wC_seq (by kernel_rfl)
theorem w12_50 {pol : Nat → Pol} {cl : CallW} {lp : LoopW} {env : List V} {H : Heap} {Q : KQ} : wC Try.prog pol cl lp c12_50 env H Q = wOps Try.prog pol cl o12_50 d12_50_0 0 env H (Q .nrm) := wC_reg (i := 20) (by kernel_rfl) rfl
theorem w12_50_0 {pol : Nat → Pol} {cl : CallW} {t0 t1 t2 t3 t4 t5 t6 t7 t8 t9 t10 t11 t12 t13 t14 t15 t16 t17 t18 t19 t20 t21 t22 t23 t24 t25 t26 t27 t28 t29 t30 t31 t32 t33 t34 t35 t36 t37 t38 t39 t40 t41 t42 t43 t44 t45 t46 t47 t48 t49 t50 t51 t52 t53 t54 t55 t56 t57 t58 t59 t60 t61 t62 t63 : V} {H : Heap} {Q : List V → Heap → Prop} : wOps Try.prog pol cl o12_50 d12_50_0 0 [t0, t1, t2, t3, t4, t5, t6, t7, t8, t9, t10, t11, t12, t13, t14, t15, t16, t17, t18, t19, t20, t21, t22, t23, t24, t25, t26, t27, t28, t29, t30, t31, t32, t33, t34, t35, t36, t37, t38, t39, t40, t41, t42, t43, t44, t45, t46, t47, t48, t49, t50, t51, t52, t53, t54, t55, t56, t57, t58, t59, t60, t61, t62, t63] H Q = (
  Q [t0, t1, t2, t3, (ofVal ((Value.string { data := #[] }))), (.int .i64 0), t6, t7, t8, t9, t10, t11, t12, t13, t14, t15, t16, t17, t18, t19, t20, t21, t22, t23, t24, t25, t26, t27, t28, t29, t30, t31, t32, t33, t34, t35, t36, t37, t38, t39, t40, t41, t42, t43, t44, t45, t46, t47, t48, t49, t50, t51, t52, t53, t54, t55, t56, t57, t58, t59, t60, t61, t62, t63] H) := by kernel_rfl
theorem w12_51 {pol : Nat → Pol} {cl : CallW} {lp : LoopW} {env : List V} {H : Heap} {Q : KQ} : wC Try.prog pol cl lp c12_51 env H Q = Q .ret env H := wC_ret (by kernel_rfl)
end Go.Proofs.Ytcamcfplcoklkaa.Iv

namespace Go.Proofs.Ytcamcfplcoklkaa.Iv
open Go
set_option linter.unusedVariables false
-- incipit/incipitlaw27.long
noncomputable def c10_0 : Code := cAt [] (bodyOf Try.f10)
noncomputable def c10_1 : Code := cAt [0] (bodyOf Try.f10)
noncomputable def o10_1 : Array Oper := opsOf c10_1
noncomputable def d10_1_0 : List Oper := o10_1.toList
noncomputable def c10_2 : Code := cAt [1] (bodyOf Try.f10)
noncomputable def c10_3 : Code := cAt [1, 0] (bodyOf Try.f10)
noncomputable def c10_4 : Code := cAt [1, 0, 0] (bodyOf Try.f10)
noncomputable def o10_4 : Array Oper := opsOf c10_4
noncomputable def d10_4_0 : List Oper := o10_4.toList
noncomputable def c10_5 : Code := cAt [1, 0, 1] (bodyOf Try.f10)
noncomputable def c10_6 : Code := cAt [1, 0, 1, 0] (bodyOf Try.f10)
noncomputable def c10_7 : Code := cAt [1, 0, 1, 0, 0] (bodyOf Try.f10)
noncomputable def c10_8 : Code := cAt [1, 0, 1, 0, 0, 0] (bodyOf Try.f10)
noncomputable def c10_9 : Code := cAt [1, 0, 1, 0, 0, 0, 0] (bodyOf Try.f10)
noncomputable def o10_9 : Array Oper := opsOf c10_9
noncomputable def d10_9_0 : List Oper := o10_9.toList
noncomputable def c10_10 : Code := cAt [1, 0, 1, 0, 0, 0, 1] (bodyOf Try.f10)
noncomputable def c10_11 : Code := cAt [1, 0, 1, 0, 0, 0, 1, 0] (bodyOf Try.f10)
noncomputable def c10_12 : Code := cAt [1, 0, 1, 0, 0, 0, 1, 1] (bodyOf Try.f10)
noncomputable def c10_13 : Code := cAt [1, 0, 1, 0, 0, 1] (bodyOf Try.f10)
noncomputable def c10_14 : Code := cAt [1, 0, 1, 0, 0, 1, 0] (bodyOf Try.f10)
noncomputable def c10_15 : Code := cAt [1, 0, 1, 0, 0, 1, 0, 0] (bodyOf Try.f10)
noncomputable def c10_16 : Code := cAt [1, 0, 1, 0, 0, 1, 0, 0, 0] (bodyOf Try.f10)
noncomputable def o10_16 : Array Oper := opsOf c10_16
noncomputable def d10_16_0 : List Oper := o10_16.toList
noncomputable def c10_17 : Code := cAt [1, 0, 1, 0, 0, 1, 0, 0, 1] (bodyOf Try.f10)
noncomputable def c10_18 : Code := cAt [1, 0, 1, 0, 0, 1, 0, 0, 1, 0] (bodyOf Try.f10)
noncomputable def c10_19 : Code := cAt [1, 0, 1, 0, 0, 1, 0, 0, 1, 0, 0] (bodyOf Try.f10)
noncomputable def o10_19 : Array Oper := opsOf c10_19
noncomputable def d10_19_0 : List Oper := o10_19.toList
noncomputable def c10_20 : Code := cAt [1, 0, 1, 0, 0, 1, 0, 0, 1, 0, 1] (bodyOf Try.f10)
noncomputable def c10_21 : Code := cAt [1, 0, 1, 0, 0, 1, 0, 0, 1, 1] (bodyOf Try.f10)
noncomputable def c10_22 : Code := cAt [1, 0, 1, 0, 0, 1, 1] (bodyOf Try.f10)
noncomputable def o10_22 : Array Oper := opsOf c10_22
noncomputable def d10_22_0 : List Oper := o10_22.toList
noncomputable def c10_23 : Code := cAt [1, 1] (bodyOf Try.f10)
noncomputable def c10_24 : Code := cAt [1, 1, 0] (bodyOf Try.f10)
noncomputable def o10_24 : Array Oper := opsOf c10_24
noncomputable def d10_24_0 : List Oper := o10_24.toList
noncomputable def c10_25 : Code := cAt [1, 1, 1] (bodyOf Try.f10)
theorem w10_0 {pol : Nat → Pol} {cl : CallW} {lp : LoopW} {env : List V} {H : Heap} {Q : KQ} : wC Try.prog pol cl lp c10_0 env H Q = wC Try.prog pol cl lp c10_1 env H (seqK Try.prog pol cl lp c10_2 Q) := wC_seq (by kernel_rfl)
theorem w10_1 {pol : Nat → Pol} {cl : CallW} {lp : LoopW} {env : List V} {H : Heap} {Q : KQ} : wC Try.prog pol cl lp c10_1 env H Q = wOps Try.prog pol cl o10_1 d10_1_0 0 env H (Q .nrm) := wC_reg (i := 0) (by kernel_rfl) rfl
theorem w10_1_0 {pol : Nat → Pol} {cl : CallW} {t0 t1 t2 t3 t4 t5 t6 t7 t8 t9 t10 t11 t12 t13 t14 t15 t16 t17 t18 t19 t20 t21 t22 t23 : V} {H : Heap} {Q : List V → Heap → Prop} : wOps Try.prog pol cl o10_1 d10_1_0 0 [t0, t1, t2, t3, t4, t5, t6, t7, t8, t9, t10, t11, t12, t13, t14, t15, t16, t17, t18, t19, t20, t21, t22, t23] H Q = (
  Q [t0, t1, (.bool false), t3, t4, t5, t6, t7, t8, t9, t10, t11, t12, t13, t14, t15, t16, t17, t18, t19, t20, t21, t22, t23] H) := by kernel_rfl
theorem w10_2 {pol : Nat → Pol} {cl : CallW} {lp : LoopW} {env : List V} {H : Heap} {Q : KQ} : wC Try.prog pol cl lp c10_2 env H Q = wC Try.prog pol cl lp c10_3 env H (seqK Try.prog pol cl lp c10_23 Q) := wC_seq (by kernel_rfl)
theorem w10_3 {pol : Nat → Pol} {cl : CallW} {lp : LoopW} {env : List V} {H : Heap} {Q : KQ} : wC Try.prog pol cl lp c10_3 env H Q = wC Try.prog pol cl lp c10_4 env H (seqK Try.prog pol cl lp c10_5 Q) := wC_seq (by kernel_rfl)
theorem w10_4 {pol : Nat → Pol} {cl : CallW} {lp : LoopW} {env : List V} {H : Heap} {Q : KQ} : wC Try.prog pol cl lp c10_4 env H Q = wOps Try.prog pol cl o10_4 d10_4_0 0 env H (Q .nrm) := wC_reg (i := 1) (by kernel_rfl) rfl
theorem w10_4_0 {pol : Nat → Pol} {cl : CallW} {t0 t1 t2 t3 t4 t5 t6 t7 t8 t9 t10 t11 t12 t13 t14 t15 t16 t17 t18 t19 t20 t21 t22 t23 : V} {H : Heap} {Q : List V → Heap → Prop} : wOps Try.prog pol cl o10_4 d10_4_0 0 [t0, t1, t2, t3, t4, t5, t6, t7, t8, t9, t10, t11, t12, t13, t14, t15, t16, t17, t18, t19, t20, t21, t22, t23] H Q = (
  Q [t0, t1, t2, (.int .i64 0), t4, t5, t6, t7, t8, t9, t10, t11, t12, t13, t14, t15, t16, t17, t18, t19, t20, t21, t22, t23] H) := by kernel_rfl
theorem w10_5 {pol : Nat → Pol} {cl : CallW} {lp : LoopW} {env : List V} {H : Heap} {Q : KQ} : wC Try.prog pol cl lp c10_5 env H Q = wC Try.prog pol cl lp c10_6 env H (blockK 0 Q) := wC_block (by kernel_rfl)
theorem w10_6 {pol : Nat → Pol} {cl : CallW} {lp : LoopW} {env : List V} {H : Heap} {Q : KQ} : wC Try.prog pol cl lp c10_6 env H Q = lp c10_7 env H Q := wC_loop (by kernel_rfl)
theorem w10_7 {pol : Nat → Pol} {cl : CallW} {lp : LoopW} {env : List V} {H : Heap} {Q : KQ} : wC Try.prog pol cl lp c10_7 env H Q = wC Try.prog pol cl lp c10_8 env H (seqK Try.prog pol cl lp c10_13 Q) := wC_seq (by kernel_rfl)
theorem w10_8 {pol : Nat → Pol} {cl : CallW} {lp : LoopW} {env : List V} {H : Heap} {Q : KQ} : wC Try.prog pol cl lp c10_8 env H Q = wC Try.prog pol cl lp c10_9 env H (seqK Try.prog pol cl lp c10_10 Q) := wC_seq (by kernel_rfl)
theorem w10_9 {pol : Nat → Pol} {cl : CallW} {lp : LoopW} {env : List V} {H : Heap} {Q : KQ} : wC Try.prog pol cl lp c10_9 env H Q = wOps Try.prog pol cl o10_9 d10_9_0 0 env H (Q .nrm) := wC_reg (i := 2) (by kernel_rfl) rfl
theorem w10_9_0 {pol : Nat → Pol} {cl : CallW} {t0 t1 t2 t3 t4 t5 t6 t7 t8 t9 t10 t11 t12 t13 t14 t15 t16 t17 t18 t19 t20 t21 t22 t23 : V} {H : Heap} {Q : List V → Heap → Prop} : wOps Try.prog pol cl o10_9 d10_9_0 0 [t0, t1, t2, t3, t4, t5, t6, t7, t8, t9, t10, t11, t12, t13, t14, t15, t16, t17, t18, t19, t20, t21, t22, t23] H Q = (
  stepW (evLen Try.prog 22 t0) H fun v1 H1 =>
  stepW (liftO (evBin Try.prog 3 .lss t3 v1)) H1 fun v2 H2 =>
  guardW v2 true H2 (fun q => q ⟨t3, [], []⟩) fun v3 H3 =>
  guardW v2 true H3 (outW (liftO (evBin Try.prog 3 .leq v3 (.int .i64 200)))) fun v4 H4 =>
  stepW (pickO v2 v4 (.bool false)) H4 fun v5 H5 =>
  Q [t0, t1, t2, t3, t3, t0, v1, v2, v2, v3, v4, v5, t12, t13, t14, t15, t16, t17, t18, t19, t20, t21, t22, t23] H5) := by kernel_rfl
theorem w10_10 {pol : Nat → Pol} {cl : CallW} {lp : LoopW} {env : List V} {H : Heap} {Q : KQ} : wC Try.prog pol cl lp c10_10 env H Q = condW (evOperand env (Operand.tmp 11)) (wC Try.prog pol cl lp c10_11 env H Q) (wC Try.prog pol cl lp c10_12 env H Q) := wC_cond (by kernel_rfl)
theorem w10_11 {pol : Nat → Pol} {cl : CallW} {lp : LoopW} {env : List V} {H : Heap} {Q : KQ} : wC Try.prog pol cl lp c10_11 env H Q = Q .nrm env H := wC_skip (by kernel_rfl)
theorem w10_12 {pol : Nat → Pol} {cl : CallW} {lp : LoopW} {env : List V} {H : Heap} {Q : KQ} : wC Try.prog pol cl lp c10_12 env H Q = Q (.exit 0) env H := wC_exit (by kernel_rfl)
theorem w10_13 {pol : Nat → Pol} {cl : CallW} {lp : LoopW} {env : List V} {H : Heap} {Q : KQ} : wC Try.prog pol cl lp c10_13 env H Q = wC Try.prog pol cl lp c10_14 env H (seqK Try.prog pol cl lp c10_22 Q) := wC_seq (by kernel_rfl)
theorem w10_14 {pol : Nat → Pol} {cl : CallW} {lp : LoopW} {env : List V} {H : Heap} {Q : KQ} : wC Try.prog pol cl lp c10_14 env H Q = wC Try.prog pol cl lp c10_15 env H (blockK 1 Q) := wC_block (by kernel_rfl)
theorem w10_15 {pol : Nat → Pol} {cl : CallW} {lp : LoopW} {env : List V} {H : Heap} {Q : KQ} : wC Try.prog pol cl lp c10_15 env H Q = wC Try.prog pol cl lp c10_16 env H (seqK Try.prog pol cl lp c10_17 Q) := wC_seq (by kernel_rfl)
theorem w10_16 {pol : Nat → Pol} {cl : CallW} {lp : LoopW} {env : List V} {H : Heap} {Q : KQ} : wC Try.prog pol cl lp c10_16 env H Q = wOps Try.prog pol cl o10_16 d10_16_0 0 env H (Q .nrm) := wC_reg (i := 4) (by kernel_rfl) rfl
theorem w10_16_0 {pol : Nat → Pol} {cl : CallW} {t0 t1 t2 t3 t4 t5 t6 t7 t8 t9 t10 t11 t12 t13 t14 t15 t16 t17 t18 t19 t20 t21 t22 t23 : V} {H : Heap} {Q : List V → Heap → Prop} : wOps Try.prog pol cl o10_16 d10_16_0 0 [t0, t1, t2, t3, t4, t5, t6, t7, t8, t9, t10, t11, t12, t13, t14, t15, t16, t17, t18, t19, t20, t21, t22, t23] H Q = (
  stepW (evIndexAddr Try.prog 22 t0 t3) H fun v1 H1 =>
  stepW (evFieldAddr Try.prog 36 v1 3) H1 fun v2 H2 =>
  stepW (evLoad Try.prog H2 34 v2) H2 fun v3 H3 =>
  stepW (evLen Try.prog 34 v3) H3 fun v4 H4 =>
  stepW (liftO (evBin Try.prog 3 .gtr v4 (.int .i64 200))) H4 fun v5 H5 =>
  Q [t0, t1, t2, t3, t4, t5, t6, t7, t8, t9, t10, t11, t12, t13, t0, t3, v1, v2, v3, v4, v5, t21, t22, t23] H5) := by kernel_rfl
theorem w10_17 {pol : Nat → Pol} {cl : CallW} {lp : LoopW} {env : List V} {H : Heap} {Q : KQ} : wC Try.prog pol cl lp c10_17 env H Q = condW (evOperand env (Operand.tmp 20)) (wC Try.prog pol cl lp c10_18 env H Q) (wC Try.prog pol cl lp c10_21 env H Q) := wC_cond (by kernel_rfl)
theorem w10_18 {pol : Nat → Pol} {cl : CallW} {lp : LoopW} {env : List V} {H : Heap} {Q : KQ} : wC Try.prog pol cl lp c10_18 env H Q = wC Try.prog pol cl lp c10_19 env H (seqK Try.prog pol cl lp c10_20 Q) := wC_seq (by kernel_rfl)
theorem w10_19 {pol : Nat → Pol} {cl : CallW} {lp : LoopW} {env : List V} {H : Heap} {Q : KQ} : wC Try.prog pol cl lp c10_19 env H Q = wOps Try.prog pol cl o10_19 d10_19_0 0 env H (Q .nrm) := wC_reg (i := 5) (by kernel_rfl) rfl
theorem w10_19_0 {pol : Nat → Pol} {cl : CallW} {t0 t1 t2 t3 t4 t5 t6 t7 t8 t9 t10 t11 t12 t13 t14 t15 t16 t17 t18 t19 t20 t21 t22 t23 : V} {H : Heap} {Q : List V → Heap → Prop} : wOps Try.prog pol cl o10_19 d10_19_0 0 [t0, t1, t2, t3, t4, t5, t6, t7, t8, t9, t10, t11, t12, t13, t14, t15, t16, t17, t18, t19, t20, t21, t22, t23] H Q = (
  Q [t0, t1, (.bool true), t3, t4, t5, t6, t7, t8, t9, t10, t11, t12, t13, t14, t15, t16, t17, t18, t19, t20, t21, t22, t23] H) := by kernel_rfl
theorem w10_20 {pol : Nat → Pol} {cl : CallW} {lp : LoopW} {env : List V} {H : Heap} {Q : KQ} : wC Try.prog pol cl lp c10_20 env H Q = Q .ret env H := wC_ret (by kernel_rfl)
theorem w10_21 {pol : Nat → Pol} {cl : CallW} {lp : LoopW} {env : List V} {H : Heap} {Q : KQ} : wC Try.prog pol cl lp c10_21 env H Q = Q .nrm env H := wC_skip (by kernel_rfl)
theorem w10_22 {pol : Nat → Pol} {cl : CallW} {lp : LoopW} {env : List V} {H : Heap} {Q : KQ} : wC Try.prog pol cl lp c10_22 env H Q = wOps Try.prog pol cl o10_22 d10_22_0 0 env H (Q .nrm) := wC_reg (i := 3) (by kernel_rfl) rfl
theorem w10_22_0 {pol : Nat → Pol} {cl : CallW} {t0 t1 t2 t3 t4 t5 t6 t7 t8 t9 t10 t11 t12 t13 t14 t15 t16 t17 t18 t19 t20 t21 t22 t23 : V} {H : Heap} {Q : List V → Heap → Prop} : wOps Try.prog pol cl o10_22 d10_22_0 0 [t0, t1, t2, t3, t4, t5, t6, t7, t8, t9, t10, t11, t12, t13, t14, t15, t16, t17, t18, t19, t20, t21, t22, t23] H Q = (
  stepW (liftO (evBin Try.prog 3 .add t3 (.int .i64 1))) H fun v1 H1 =>
  Q [t0, t1, t2, v1, t4, t5, t6, t7, t8, t9, t10, t11, t3, v1, t14, t15, t16, t17, t18, t19, t20, t21, t22, t23] H1) := by kernel_rfl
theorem w10_23 {pol : Nat → Pol} {cl : CallW} {lp : LoopW} {env : List V} {H : Heap} {Q : KQ} : wC Try.prog pol cl lp c10_23 env H Q = wC Try.prog pol cl lp c10_24 env H (seqK Try.prog pol cl lp c10_25 Q) := wC_seq (by kernel_rfl)
theorem w10_24 {pol : Nat → Pol} {cl : CallW} {lp : LoopW} {env : List V} {H : Heap} {Q : KQ} : wC Try.prog pol cl lp c10_24 env H Q = wOps Try.prog pol cl o10_24 d10_24_0 0 env H (Q .nrm) := wC_reg (i := 6) (by kernel_rfl) rfl
theorem w10_24_0 {pol : Nat → Pol} {cl : CallW} {t0 t1 t2 t3 t4 t5 t6 t7 t8 t9 t10 t11 t12 t13 t14 t15 t16 t17 t18 t19 t20 t21 t22 t23 : V} {H : Heap} {Q : List V → Heap → Prop} : wOps Try.prog pol cl o10_24 d10_24_0 0 [t0, t1, t2, t3, t4, t5, t6, t7, t8, t9, t10, t11, t12, t13, t14, t15, t16, t17, t18, t19, t20, t21, t22, t23] H Q = (
  stepW (evLen Try.prog 22 t0) H fun v1 H1 =>
  stepW (liftO (evBin Try.prog 3 .gtr v1 (.int .i64 200))) H1 fun v2 H2 =>
  Q [t0, t1, v2, t3, t4, t5, t6, t7, t8, t9, t10, t11, t12, t13, t14, t15, t16, t17, t18, t19, t20, t0, v1, v2] H2) := by kernel_rfl
theorem w10_25 {pol : Nat → Pol} {cl : CallW} {lp : LoopW} {env : List V} {H : Heap} {Q : KQ} : wC Try.prog pol cl lp c10_25 env H Q = Q .ret env H := wC_ret (by kernel_rfl)
end Go.Proofs.Ytcamcfplcoklkaa.Iv
