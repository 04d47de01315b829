import Derived.Test.YtcamcfplcoklkaaM8
import Derived.Test.YtcamcfplcoklkaaProg
namespace Go.Proofs.Ytcamcfplcoklkaa.Iv
open Go
set_option linter.unusedVariables false
-- (*incipit/incipitref27.Disk).Write
noncomputable def c28_0 : Code := cAt [] (bodyOf Try.f28)
noncomputable def c28_1 : Code := cAt [0] (bodyOf Try.f28)
noncomputable def o28_1 : Array Oper := opsOf c28_1
noncomputable def d28_1_0 : List Oper := o28_1.toList
noncomputable def c28_2 : Code := cAt [1] (bodyOf Try.f28)
noncomputable def c28_3 : Code := cAt [1, 0] (bodyOf Try.f28)
noncomputable def c28_4 : Code := cAt [1, 0, 0] (bodyOf Try.f28)
noncomputable def o28_4 : Array Oper := opsOf c28_4
noncomputable def d28_4_0 : List Oper := o28_4.toList
noncomputable def p28_4_0 : List Oper := d28_4_0.take 12
noncomputable def d28_4_12 : List Oper := d28_4_0.drop 12
noncomputable def c28_5 : Code := cAt [1, 0, 1] (bodyOf Try.f28)
noncomputable def c28_6 : Code := cAt [1, 0, 1, 0] (bodyOf Try.f28)
noncomputable def c28_7 : Code := cAt [1, 0, 1, 0, 0] (bodyOf Try.f28)
noncomputable def o28_7 : Array Oper := opsOf c28_7
noncomputable def d28_7_0 : List Oper := o28_7.toList
noncomputable def c28_8 : Code := cAt [1, 0, 1, 0, 1] (bodyOf Try.f28)
noncomputable def c28_9 : Code := cAt [1, 0, 1, 1] (bodyOf Try.f28)
noncomputable def c28_10 : Code := cAt [1, 1] (bodyOf Try.f28)
noncomputable def c28_11 : Code := cAt [1, 1, 0] (bodyOf Try.f28)
noncomputable def c28_12 : Code := cAt [1, 1, 0, 0] (bodyOf Try.f28)
noncomputable def o28_12 : Array Oper := opsOf c28_12
noncomputable def d28_12_0 : List Oper := o28_12.toList
noncomputable def c28_13 : Code := cAt [1, 1, 0, 1] (bodyOf Try.f28)
noncomputable def c28_14 : Code := cAt [1, 1, 0, 1, 0] (bodyOf Try.f28)
noncomputable def c28_15 : Code := cAt [1, 1, 0, 1, 0, 0] (bodyOf Try.f28)
noncomputable def o28_15 : Array Oper := opsOf c28_15
noncomputable def d28_15_0 : List Oper := o28_15.toList
noncomputable def c28_16 : Code := cAt [1, 1, 0, 1, 0, 1] (bodyOf Try.f28)
noncomputable def c28_17 : Code := cAt [1, 1, 0, 1, 1] (bodyOf Try.f28)
noncomputable def c28_18 : Code := cAt [1, 1, 1] (bodyOf Try.f28)
noncomputable def c28_19 : Code := cAt [1, 1, 1, 0] (bodyOf Try.f28)
noncomputable def c28_20 : Code := cAt [1, 1, 1, 0, 0] (bodyOf Try.f28)
noncomputable def o28_20 : Array Oper := opsOf c28_20
noncomputable def d28_20_0 : List Oper := o28_20.toList
noncomputable def p28_20_0 : List Oper := d28_20_0.take 12
noncomputable def d28_20_12 : List Oper := d28_20_0.drop 12
noncomputable def c28_21 : Code := cAt [1, 1, 1, 0, 1] (bodyOf Try.f28)
noncomputable def c28_22 : Code := cAt [1, 1, 1, 0, 1, 0] (bodyOf Try.f28)
noncomputable def c28_23 : Code := cAt [1, 1, 1, 0, 1, 0, 0] (bodyOf Try.f28)
noncomputable def o28_23 : Array Oper := opsOf c28_23
noncomputable def d28_23_0 : List Oper := o28_23.toList
noncomputable def c28_24 : Code := cAt [1, 1, 1, 0, 1, 0, 1] (bodyOf Try.f28)
noncomputable def c28_25 : Code := cAt [1, 1, 1, 0, 1, 1] (bodyOf Try.f28)
noncomputable def c28_26 : Code := cAt [1, 1, 1, 1] (bodyOf Try.f28)
noncomputable def c28_27 : Code := cAt [1, 1, 1, 1, 0] (bodyOf Try.f28)
noncomputable def o28_27 : Array Oper := opsOf c28_27
noncomputable def d28_27_0 : List Oper := o28_27.toList
noncomputable def p28_27_0 : List Oper := d28_27_0.take 12
noncomputable def d28_27_12 : List Oper := d28_27_0.drop 12
noncomputable def c28_28 : Code := cAt [1, 1, 1, 1, 1] (bodyOf Try.f28)
noncomputable def c28_29 : Code := cAt [1, 1, 1, 1, 1, 0] (bodyOf Try.f28)
noncomputable def o28_29 : Array Oper := opsOf c28_29
noncomputable def d28_29_0 : List Oper := o28_29.toList
noncomputable def c28_30 : Code := cAt [1, 1, 1, 1, 1, 1] (bodyOf Try.f28)
theorem w28_0 {pol : Nat → Pol} {cl : CallW} {lp : LoopW} {env : List V} {H : Heap} {Q : KQ} : wC Try.prog pol cl lp c28_0 env H Q = wC Try.prog pol cl lp c28_1 env H (seqK Try.prog pol cl lp c28_2 Q) := wC_seq (by kernel_rfl)
theorem w28_1 {pol : Nat → Pol} {cl : CallW} {lp : LoopW} {env : List V} {H : Heap} {Q : KQ} : wC Try.prog pol cl lp c28_1 env H Q = wOps Try.prog pol cl o28_1 d28_1_0 0 env H (Q .nrm) := wC_reg (i := 0) (by kernel_rfl) rfl
theorem w28_1_0 {pol : Nat → Pol} {cl : CallW} {t0 t1 t2 t3 t4 t5 t6 t7 t8 t9 t10 t11 t12 t13 t14 t15 t16 t17 t18 t19 t20 t21 t22 t23 t24 t25 t26 t27 t28 t29 t30 t31 t32 t33 t34 t35 t36 t37 t38 t39 t40 t41 t42 t43 t44 t45 t46 t47 t48 t49 t50 t51 t52 t53 : V} {H : Heap} {Q : List V → Heap → Prop} : wOps Try.prog pol cl o28_1 d28_1_0 0 [t0, t1, t2, t3, t4, t5, t6, t7, t8, t9, t10, t11, t12, t13, t14, t15, t16, t17, t18, t19, t20, t21, t22, t23, t24, t25, t26, t27, t28, t29, t30, t31, t32, t33, t34, t35, t36, t37, t38, t39, t40, t41, t42, t43, t44, t45, t46, t47, t48, t49, t50, t51, t52, t53] H Q = (
  Q [t0, t1, t2, t3, t4, t5, (.int .i64 0), t7, t8, t9, t10, t11, t12, t13, t14, t15, t16, t17, t18, t19, t20, t21, t22, t23, t24, t25, t26, t27, t28, t29, t30, t31, t32, t33, t34, t35, t36, t37, t38, t39, t40, t41, t42, t43, t44, t45, t46, t47, t48, t49, t50, t51, t52, t53] H) := by kernel_rfl
theorem w28_2 {pol : Nat → Pol} {cl : CallW} {lp : LoopW} {env : List V} {H : Heap} {Q : KQ} : wC Try.prog pol cl lp c28_2 env H Q = wC Try.prog pol cl lp c28_3 env H (seqK Try.prog pol cl lp c28_10 Q) := wC_seq (by kernel_rfl)
theorem w28_3 {pol : Nat → Pol} {cl : CallW} {lp : LoopW} {env : List V} {H : Heap} {Q : KQ} : wC Try.prog pol cl lp c28_3 env H Q = wC Try.prog pol cl lp c28_4 env H (seqK Try.prog pol cl lp c28_5 Q) := wC_seq (by kernel_rfl)
theorem w28_4 {pol : Nat → Pol} {cl : CallW} {lp : LoopW} {env : List V} {H : Heap} {Q : KQ} : wC Try.prog pol cl lp c28_4 env H Q = wOps Try.prog pol cl o28_4 d28_4_0 0 env H (Q .nrm) := wC_reg (i := 1) (by kernel_rfl) rfl
theorem w28_4_0c {pol : Nat → Pol} {cl : CallW} {env : List V} {H : Heap} {Q : List V → Heap → Prop} : wOps Try.prog pol cl o28_4 d28_4_0 0 env H Q = wOps Try.prog pol cl o28_4 p28_4_0 0 env H (fun env H => wOps Try.prog pol cl o28_4 d28_4_12 12 env H Q) := wOps_cut (by kernel_rfl) (by kernel_rfl)
theorem w28_4_0 {pol : Nat → Pol} {cl : CallW} {t0 t1 t2 t3 t4 t5 t6 t7 t8 t9 t10 t11 t12 t13 t14 t15 t16 t17 t18 t19 t20 t21 t22 t23 t24 t25 t26 t27 t28 t29 t30 t31 t32 t33 t34 t35 t36 t37 t38 t39 t40 t41 t42 t43 t44 t45 t46 t47 t48 t49 t50 t51 t52 t53 : V} {H : Heap} {Q : List V → Heap → Prop} : wOps Try.prog pol cl o28_4 p28_4_0 0 [t0, t1, t2, t3, t4, t5, t6, t7, t8, t9, t10, t11, t12, t13, t14, t15, t16, t17, t18, t19, t20, t21, t22, t23, t24, t25, t26, t27, t28, t29, t30, t31, t32, t33, t34, t35, t36, t37, t38, t39, t40, t41, t42, t43, t44, t45, t46, t47, t48, t49, t50, t51, t52, t53] H Q = (
  stepW (liftO (evBin Try.prog 3 .lss t1 (.int .i64 0))) H fun v1 H1 =>
  guardW v1 false H1 (fun q => q ⟨t1, [], []⟩) fun v2 H2 =>
  guardW v1 false H2 (fun q => q ⟨t0, [], []⟩) fun v3 H3 =>
  guardW v1 false H3 (outW (nilO v3)) fun v4 H4 =>
  guardW v1 false H4 (outW (evFieldAddr Try.prog 41 v4 0)) fun v5 H5 =>
  guardW v1 false H5 (outW (evLoad Try.prog H5 38 v5)) fun v6 H6 =>
  guardW v1 false H6 (outW (evLen Try.prog 38 v6)) fun v7 H7 =>
  guardW v1 false H7 (outW (liftO (evBin Try.prog 3 .geq v2 v7))) fun v8 H8 =>
  stepW (pickO v1 (.bool true) v8) H8 fun v9 H9 =>
  Q [t0, t1, t2, t3, t4, t5, t6, t1, v1, v1, v2, v3, v4, v5, v6, v7, v8, v9, v9, t19, t20, t21, t22, t23, t24, t25, t26, t27, t28, t29, t30, t31, t32, t33, t34, t35, t36, t37, t38, t39, t40, t41, t42, t43, t44, t45, t46, t47, t48, t49, t50, t51, t52, t53] H9) := by kernel_rfl
theorem w28_4_12 {pol : Nat → Pol} {cl : CallW} {t0 t1 t2 t3 t4 t5 t6 t7 t8 t9 t10 t11 t12 t13 t14 t15 t16 t17 t18 t19 t20 t21 t22 t23 t24 t25 t26 t27 t28 t29 t30 t31 t32 t33 t34 t35 t36 t37 t38 t39 t40 t41 t42 t43 t44 t45 t46 t47 t48 t49 t50 t51 t52 t53 : V} {H : Heap} {Q : List V → Heap → Prop} : wOps Try.prog pol cl o28_4 d28_4_12 12 [t0, t1, t2, t3, t4, t5, t6, t7, t8, t9, t10, t11, t12, t13, t14, t15, t16, t17, t18, t19, t20, t21, t22, t23, t24, t25, t26, t27, t28, t29, t30, t31, t32, t33, t34, t35, t36, t37, t38, t39, t40, t41, t42, t43, t44, t45, t46, t47, t48, t49, t50, t51, t52, t53] H Q = (
  guardW t18 false H (fun q => q ⟨t2, [], []⟩) fun v1 H1 =>
  guardW t18 false H1 (outW (evLen Try.prog 34 v1)) fun v2 H2 =>
  guardW t18 false H2 (outW (liftO (evBin Try.prog 3 .neq v2 (.int .i64 64)))) fun v3 H3 =>
  stepW (pickO t18 (.bool true) v3) H3 fun v4 H4 =>
  Q [t0, t1, t2, t3, t4, t5, t6, t7, t8, t9, t10, t11, t12, t13, t14, t15, t16, t17, t18, v1, v2, v3, v4, t23, t24, t25, t26, t27, t28, t29, t30, t31, t32, t33, t34, t35, t36, t37, t38, t39, t40, t41, t42, t43, t44, t45, t46, t47, t48, t49, t50, t51, t52, t53] H4) := by kernel_rfl
theorem w28_5 {pol : Nat → Pol} {cl : CallW} {lp : LoopW} {env : List V} {H : Heap} {Q : KQ} : wC Try.prog pol cl lp c28_5 env H Q = condW (evOperand env (Operand.tmp 22)) (wC Try.prog pol cl lp c28_6 env H Q) (wC Try.prog pol cl lp c28_9 env H Q) := wC_cond (by kernel_rfl)
theorem w28_6 {pol : Nat → Pol} {cl : CallW} {lp : LoopW} {env : List V} {H : Heap} {Q : KQ} : wC Try.prog pol cl lp c28_6 env H Q = wC Try.prog pol cl lp c28_7 env H (seqK Try.prog pol cl lp c28_8 Q) := wC_seq (by kernel_rfl)
theorem w28_7 {pol : Nat → Pol} {cl : CallW} {lp : LoopW} {env : List V} {H : Heap} {Q : KQ} : wC Try.prog pol cl lp c28_7 env H Q = wOps Try.prog pol cl o28_7 d28_7_0 0 env H (Q .nrm) := wC_reg (i := 2) (by kernel_rfl) rfl
theorem w28_7_0 {pol : Nat → Pol} {cl : CallW} {t0 t1 t2 t3 t4 t5 t6 t7 t8 t9 t10 t11 t12 t13 t14 t15 t16 t17 t18 t19 t20 t21 t22 t23 t24 t25 t26 t27 t28 t29 t30 t31 t32 t33 t34 t35 t36 t37 t38 t39 t40 t41 t42 t43 t44 t45 t46 t47 t48 t49 t50 t51 t52 t53 : V} {H : Heap} {Q : List V → Heap → Prop} : wOps Try.prog pol cl o28_7 d28_7_0 0 [t0, t1, t2, t3, t4, t5, t6, t7, t8, t9, t10, t11, t12, t13, t14, t15, t16, t17, t18, t19, t20, t21, t22, t23, t24, t25, t26, t27, t28, t29, t30, t31, t32, t33, t34, t35, t36, t37, t38, t39, t40, t41, t42, t43, t44, t45, t46, t47, t48, t49, t50, t51, t52, t53] H Q = (
  Q [t0, t1, t2, t3, t4, t5, (.int .i64 1), t7, t8, t9, t10, t11, t12, t13, t14, t15, t16, t17, t18, t19, t20, t21, t22, t23, t24, t25, t26, t27, t28, t29, t30, t31, t32, t33, t34, t35, t36, t37, t38, t39, t40, t41, t42, t43, t44, t45, t46, t47, t48, t49, t50, t51, t52, t53] H) := by kernel_rfl
theorem w28_8 {pol : Nat → Pol} {cl : CallW} {lp : LoopW} {env : List V} {H : Heap} {Q : KQ} : wC Try.prog pol cl lp c28_8 env H Q = Q .ret env H := wC_ret (by kernel_rfl)
theorem w28_9 {pol : Nat → Pol} {cl : CallW} {lp : LoopW} {env : List V} {H : Heap} {Q : KQ} : wC Try.prog pol cl lp c28_9 env H Q = Q .nrm env H := wC_skip (by kernel_rfl)
theorem w28_10 {pol : Nat → Pol} {cl : CallW} {lp : LoopW} {env : List V} {H : Heap} {Q : KQ} : wC Try.prog pol cl lp c28_10 env H Q = wC Try.prog pol cl lp c28_11 env H (seqK Try.prog pol cl lp c28_18 Q) := wC_seq (by kernel_rfl)
theorem w28_11 {pol : Nat → Pol} {cl : CallW} {lp : LoopW} {env : List V} {H : Heap} {Q : KQ} : wC Try.prog pol cl lp c28_11 env H Q = wC Try.prog pol cl lp c28_12 env H (seqK Try.prog pol cl lp c28_13 Q) := wC_seq (by kernel_rfl)
theorem w28_12 {pol : Nat → Pol} {cl : CallW} {lp : LoopW} {env : List V} {H : Heap} {Q : KQ} : wC Try.prog pol cl lp c28_12 env H Q = wOps Try.prog pol cl o28_12 d28_12_0 0 env H (Q .nrm) := wC_reg (i := 3) (by kernel_rfl) rfl
theorem w28_12_0 {pol : Nat → Pol} {cl : CallW} {t0 t1 t2 t3 t4 t5 t6 t7 t8 t9 t10 t11 t12 t13 t14 t15 t16 t17 t18 t19 t20 t21 t22 t23 t24 t25 t26 t27 t28 t29 t30 t31 t32 t33 t34 t35 t36 t37 t38 t39 t40 t41 t42 t43 t44 t45 t46 t47 t48 t49 t50 t51 t52 t53 : V} {H : Heap} {Q : List V → Heap → Prop} : wOps Try.prog pol cl o28_12 d28_12_0 0 [t0, t1, t2, t3, t4, t5, t6, t7, t8, t9, t10, t11, t12, t13, t14, t15, t16, t17, t18, t19, t20, t21, t22, t23, t24, t25, t26, t27, t28, t29, t30, t31, t32, t33, t34, t35, t36, t37, t38, t39, t40, t41, t42, t43, t44, t45, t46, t47, t48, t49, t50, t51, t52, t53] H Q = (
  callW pol cl H 24 38 [t0] fun v1 H1 =>
  stepW (liftO (evUn .not v1)) H1 fun v2 H2 =>
  Q [t0, t1, t2, t3, t4, t5, t6, t7, t8, t9, t10, t11, t12, t13, t14, t15, t16, t17, t18, t19, t20, t21, t22, t0, v1, v2, t26, t27, t28, t29, t30, t31, t32, t33, t34, t35, t36, t37, t38, t39, t40, t41, t42, t43, t44, t45, t46, t47, t48, t49, t50, t51, t52, t53] H2) := by kernel_rfl
theorem w28_13 {pol : Nat → Pol} {cl : CallW} {lp : LoopW} {env : List V} {H : Heap} {Q : KQ} : wC Try.prog pol cl lp c28_13 env H Q = condW (evOperand env (Operand.tmp 25)) (wC Try.prog pol cl lp c28_14 env H Q) (wC Try.prog pol cl lp c28_17 env H Q) := wC_cond (by kernel_rfl)
theorem w28_14 {pol : Nat → Pol} {cl : CallW} {lp : LoopW} {env : List V} {H : Heap} {Q : KQ} : wC Try.prog pol cl lp c28_14 env H Q = wC Try.prog pol cl lp c28_15 env H (seqK Try.prog pol cl lp c28_16 Q) := wC_seq (by kernel_rfl)
theorem w28_15 {pol : Nat → Pol} {cl : CallW} {lp : LoopW} {env : List V} {H : Heap} {Q : KQ} : wC Try.prog pol cl lp c28_15 env H Q = wOps Try.prog pol cl o28_15 d28_15_0 0 env H (Q .nrm) := wC_reg (i := 4) (by kernel_rfl) rfl
theorem w28_15_0 {pol : Nat → Pol} {cl : CallW} {t0 t1 t2 t3 t4 t5 t6 t7 t8 t9 t10 t11 t12 t13 t14 t15 t16 t17 t18 t19 t20 t21 t22 t23 t24 t25 t26 t27 t28 t29 t30 t31 t32 t33 t34 t35 t36 t37 t38 t39 t40 t41 t42 t43 t44 t45 t46 t47 t48 t49 t50 t51 t52 t53 : V} {H : Heap} {Q : List V → Heap → Prop} : wOps Try.prog pol cl o28_15 d28_15_0 0 [t0, t1, t2, t3, t4, t5, t6, t7, t8, t9, t10, t11, t12, t13, t14, t15, t16, t17, t18, t19, t20, t21, t22, t23, t24, t25, t26, t27, t28, t29, t30, t31, t32, t33, t34, t35, t36, t37, t38, t39, t40, t41, t42, t43, t44, t45, t46, t47, t48, t49, t50, t51, t52, t53] H Q = (
  Q [t0, t1, t2, t3, t4, t5, (.int .i64 11), t7, t8, t9, t10, t11, t12, t13, t14, t15, t16, t17, t18, t19, t20, t21, t22, t23, t24, t25, t26, t27, t28, t29, t30, t31, t32, t33, t34, t35, t36, t37, t38, t39, t40, t41, t42, t43, t44, t45, t46, t47, t48, t49, t50, t51, t52, t53] H) := by kernel_rfl
theorem w28_16 {pol : Nat → Pol} {cl : CallW} {lp : LoopW} {env : List V} {H : Heap} {Q : KQ} : wC Try.prog pol cl lp c28_16 env H Q = Q .ret env H := wC_ret (by kernel_rfl)
theorem w28_17 {pol : Nat → Pol} {cl : CallW} {lp : LoopW} {env : List V} {H : Heap} {Q : KQ} : wC Try.prog pol cl lp c28_17 env H Q = Q .nrm env H := wC_skip (by kernel_rfl)
theorem w28_18 {pol : Nat → Pol} {cl : CallW} {lp : LoopW} {env : List V} {H : Heap} {Q : KQ} : wC Try.prog pol cl lp c28_18 env H Q = wC Try.prog pol cl lp c28_19 env H (seqK Try.prog pol cl lp c28_26 Q) := wC_seq (by kernel_rfl)
theorem w28_19 {pol : Nat → Pol} {cl : CallW} {lp : LoopW} {env : List V} {H : Heap} {Q : KQ} : wC Try.prog pol cl lp c28_19 env H Q = wC Try.prog pol cl lp c28_20 env H (seqK Try.prog pol cl lp c28_21 Q) := wC_seq (by kernel_rfl)
theorem w28_20 {pol : Nat → Pol} {cl : CallW} {lp : LoopW} {env : List V} {H : Heap} {Q : KQ} : wC Try.prog pol cl lp c28_20 env H Q = wOps Try.prog pol cl o28_20 d28_20_0 0 env H (Q .nrm) := wC_reg (i := 5) (by kernel_rfl) rfl
theorem w28_20_0c {pol : Nat → Pol} {cl : CallW} {env : List V} {H : Heap} {Q : List V → Heap → Prop} : wOps Try.prog pol cl o28_20 d28_20_0 0 env H Q = wOps Try.prog pol cl o28_20 p28_20_0 0 env H (fun env H => wOps Try.prog pol cl o28_20 d28_20_12 12 env H Q) := wOps_cut (by kernel_rfl) (by kernel_rfl)
theorem w28_20_0 {pol : Nat → Pol} {cl : CallW} {t0 t1 t2 t3 t4 t5 t6 t7 t8 t9 t10 t11 t12 t13 t14 t15 t16 t17 t18 t19 t20 t21 t22 t23 t24 t25 t26 t27 t28 t29 t30 t31 t32 t33 t34 t35 t36 t37 t38 t39 t40 t41 t42 t43 t44 t45 t46 t47 t48 t49 t50 t51 t52 t53 : V} {H : Heap} {Q : List V → Heap → Prop} : wOps Try.prog pol cl o28_20 p28_20_0 0 [t0, t1, t2, t3, t4, t5, t6, t7, t8, t9, t10, t11, t12, t13, t14, t15, t16, t17, t18, t19, t20, t21, t22, t23, t24, t25, t26, t27, t28, t29, t30, t31, t32, t33, t34, t35, t36, t37, t38, t39, t40, t41, t42, t43, t44, t45, t46, t47, t48, t49, t50, t51, t52, t53] H Q = (
  stepW (nilO t0) H fun v1 H1 =>
  stepW (evFieldAddr Try.prog 41 v1 3) H1 fun v2 H2 =>
  stepW (evLoad Try.prog H2 3 v2) H2 fun v3 H3 =>
  stepW (liftO (evBin Try.prog 3 .geq v3 (.int .i64 0))) H3 fun v4 H4 =>
  guardW v4 true H4 (fun q => q ⟨t1, [], []⟩) fun v5 H5 =>
  guardW v4 true H5 (fun q => q ⟨t0, [], []⟩) fun v6 H6 =>
  guardW v4 true H6 (outW (nilO v6)) fun v7 H7 =>
  guardW v4 true H7 (outW (evFieldAddr Try.prog 41 v7 3)) fun v8 H8 =>
  guardW v4 true H8 (outW (evLoad Try.prog H8 3 v8)) fun v9 H9 =>
  guardW v4 true H9 (outW (liftO (evBin Try.prog 3 .geq v5 v9))) fun v10 H10 =>
  Q [t0, t1, t2, t3, t4, t5, t6, t7, t8, t9, t10, t11, t12, t13, t14, t15, t16, t17, t18, t19, t20, t21, t22, t23, t24, t25, t0, v1, v2, v3, v4, v4, v5, v6, v7, v8, v9, v10, t38, t39, t40, t41, t42, t43, t44, t45, t46, t47, t48, t49, t50, t51, t52, t53] H10) := by kernel_rfl
theorem w28_20_12 {pol : Nat → Pol} {cl : CallW} {t0 t1 t2 t3 t4 t5 t6 t7 t8 t9 t10 t11 t12 t13 t14 t15 t16 t17 t18 t19 t20 t21 t22 t23 t24 t25 t26 t27 t28 t29 t30 t31 t32 t33 t34 t35 t36 t37 t38 t39 t40 t41 t42 t43 t44 t45 t46 t47 t48 t49 t50 t51 t52 t53 : V} {H : Heap} {Q : List V → Heap → Prop} : wOps Try.prog pol cl o28_20 d28_20_12 12 [t0, t1, t2, t3, t4, t5, t6, t7, t8, t9, t10, t11, t12, t13, t14, t15, t16, t17, t18, t19, t20, t21, t22, t23, t24, t25, t26, t27, t28, t29, t30, t31, t32, t33, t34, t35, t36, t37, t38, t39, t40, t41, t42, t43, t44, t45, t46, t47, t48, t49, t50, t51, t52, t53] H Q = (
  stepW (pickO t31 t37 (.bool false)) H fun v1 H1 =>
  Q [t0, t1, t2, t3, t4, t5, t6, t7, t8, t9, t10, t11, t12, t13, t14, t15, t16, t17, t18, t19, t20, t21, t22, t23, t24, t25, t26, t27, t28, t29, t30, t31, t32, t33, t34, t35, t36, t37, v1, t39, t40, t41, t42, t43, t44, t45, t46, t47, t48, t49, t50, t51, t52, t53] H1) := by kernel_rfl
theorem w28_21 {pol : Nat → Pol} {cl : CallW} {lp : LoopW} {env : List V} {H : Heap} {Q : KQ} : wC Try.prog pol cl lp c28_21 env H Q = condW (evOperand env (Operand.tmp 38)) (wC Try.prog pol cl lp c28_22 env H Q) (wC Try.prog pol cl lp c28_25 env H Q) := wC_cond (by kernel_rfl)
theorem w28_22 {pol : Nat → Pol} {cl : CallW} {lp : LoopW} {env : List V} {H : Heap} {Q : KQ} : wC Try.prog pol cl lp c28_22 env H Q = wC Try.prog pol cl lp c28_23 env H (seqK Try.prog pol cl lp c28_24 Q) := wC_seq (by kernel_rfl)
theorem w28_23 {pol : Nat → Pol} {cl : CallW} {lp : LoopW} {env : List V} {H : Heap} {Q : KQ} : wC Try.prog pol cl lp c28_23 env H Q = wOps Try.prog pol cl o28_23 d28_23_0 0 env H (Q .nrm) := wC_reg (i := 6) (by kernel_rfl) rfl
theorem w28_23_0 {pol : Nat → Pol} {cl : CallW} {t0 t1 t2 t3 t4 t5 t6 t7 t8 t9 t10 t11 t12 t13 t14 t15 t16 t17 t18 t19 t20 t21 t22 t23 t24 t25 t26 t27 t28 t29 t30 t31 t32 t33 t34 t35 t36 t37 t38 t39 t40 t41 t42 t43 t44 t45 t46 t47 t48 t49 t50 t51 t52 t53 : V} {H : Heap} {Q : List V → Heap → Prop} : wOps Try.prog pol cl o28_23 d28_23_0 0 [t0, t1, t2, t3, t4, t5, t6, t7, t8, t9, t10, t11, t12, t13, t14, t15, t16, t17, t18, t19, t20, t21, t22, t23, t24, t25, t26, t27, t28, t29, t30, t31, t32, t33, t34, t35, t36, t37, t38, t39, t40, t41, t42, t43, t44, t45, t46, t47, t48, t49, t50, t51, t52, t53] H Q = (
  Q [t0, t1, t2, t3, t4, t5, (.int .i64 7), t7, t8, t9, t10, t11, t12, t13, t14, t15, t16, t17, t18, t19, t20, t21, t22, t23, t24, t25, t26, t27, t28, t29, t30, t31, t32, t33, t34, t35, t36, t37, t38, t39, t40, t41, t42, t43, t44, t45, t46, t47, t48, t49, t50, t51, t52, t53] H) := by kernel_rfl
theorem w28_24 {pol : Nat → Pol} {cl : CallW} {lp : LoopW} {env : List V} {H : Heap} {Q : KQ} : wC Try.prog pol cl lp c28_24 env H Q = Q .ret env H := wC_ret (by kernel_rfl)
theorem w28_25 {pol : Nat → Pol} {cl : CallW} {lp : LoopW} {env : List V} {H : Heap} {Q : KQ} : wC Try.prog pol cl lp c28_25 env H Q = Q .nrm env H := wC_skip (by kernel_rfl)
theorem w28_26 {pol : Nat → Pol} {cl : CallW} {lp : LoopW} {env : List V} {H : Heap} {Q : KQ} : wC Try.prog pol cl lp c28_26 env H Q = wC Try.prog pol cl lp c28_27 env H (seqK Try.prog pol cl lp c28_28 Q) := wC_seq (by kernel_rfl)
theorem w28_27 {pol : Nat → Pol} {cl : CallW} {lp : LoopW} {env : List V} {H : Heap} {Q : KQ} : wC Try.prog pol cl lp c28_27 env H Q = wOpsL Try.prog pol cl o28_27 d28_27_0 0 env H [] (fun env H lg => logOk o28_27 lg = true ∧ Q .nrm env H) := wC_regL (i := 7) (by kernel_rfl) rfl
theorem w28_27_0c {pol : Nat → Pol} {cl : CallW} {env : List V} {H : Heap} {lg : Log} {Q : List V → Heap → Log → Prop} : wOpsL Try.prog pol cl o28_27 d28_27_0 0 env H lg Q = wOpsL Try.prog pol cl o28_27 p28_27_0 0 env H lg (fun env H lg => wOpsL Try.prog pol cl o28_27 d28_27_12 12 env H lg Q) := wOpsL_cut (by kernel_rfl) (by kernel_rfl)
theorem w28_27_0 {pol : Nat → Pol} {cl : CallW} {t0 t1 t2 t3 t4 t5 t6 t7 t8 t9 t10 t11 t12 t13 t14 t15 t16 t17 t18 t19 t20 t21 t22 t23 t24 t25 t26 t27 t28 t29 t30 t31 t32 t33 t34 t35 t36 t37 t38 t39 t40 t41 t42 t43 t44 t45 t46 t47 t48 t49 t50 t51 t52 t53 : V} {H : Heap} {lg : Log} {Q : List V → Heap → Log → Prop} : wOpsL Try.prog pol cl o28_27 p28_27_0 0 [t0, t1, t2, t3, t4, t5, t6, t7, t8, t9, t10, t11, t12, t13, t14, t15, t16, t17, t18, t19, t20, t21, t22, t23, t24, t25, t26, t27, t28, t29, t30, t31, t32, t33, t34, t35, t36, t37, t38, t39, t40, t41, t42, t43, t44, t45, t46, t47, t48, t49, t50, t51, t52, t53] H lg Q = (
  stepL (pureO t0) H lg 0 fun v1 H1 g1 =>
  stepL (evBuildSlice Try.prog H1 40 39 0 []) H1 g1 1 fun v2 H2 g2 =>
  stepL (pureO t0) H2 g2 2 fun v3 H3 g3 =>
  stepL (nilO v3) H3 g3 3 fun v4 H4 g4 =>
  stepL (evFieldAddr Try.prog 41 v4 1) H4 g4 4 fun v5 H5 g5 =>
  stepL (evLoad Try.prog H5 39 v5) H5 g5 5 fun v6 H6 g6 =>
  stepL (evAppend Try.prog H6 45 39 39 v2 v6) H6 g6 6 fun v7 H7 g7 =>
  stepL (pureO t1) H7 g7 7 fun v8 H8 g8 =>
  stepL (pureO t2) H8 g8 8 fun v9 H9 g9 =>
  stepL (evConvert Try.prog H9 34 9 v9) H9 g9 9 fun v10 H10 g10 =>
  stepL (liftO (evBuild Try.prog 72 [(0, v8), (1, v10)])) H10 g10 10 fun v11 H11 g11 =>
  stepL (evBuildSlice Try.prog H11 50 39 1 [(0, v11)]) H11 g11 11 fun v12 H12 g12 =>
  Q [t0, t1, t2, t3, t4, t5, t6, t7, t8, t9, t10, t11, t12, t13, t14, t15, t16, t17, t18, t19, t20, t21, t22, t23, t24, t25, t26, t27, t28, t29, t30, t31, t32, t33, t34, t35, t36, t37, t38, v1, v2, v3, v4, v5, v6, v7, v8, v9, v10, v11, v12, t51, t52, t53] H12 g12) := by kernel_rfl
theorem w28_27_12 {pol : Nat → Pol} {cl : CallW} {t0 t1 t2 t3 t4 t5 t6 t7 t8 t9 t10 t11 t12 t13 t14 t15 t16 t17 t18 t19 t20 t21 t22 t23 t24 t25 t26 t27 t28 t29 t30 t31 t32 t33 t34 t35 t36 t37 t38 t39 t40 t41 t42 t43 t44 t45 t46 t47 t48 t49 t50 t51 t52 t53 : V} {H : Heap} {lg : Log} {Q : List V → Heap → Log → Prop} : wOpsL Try.prog pol cl o28_27 d28_27_12 12 [t0, t1, t2, t3, t4, t5, t6, t7, t8, t9, t10, t11, t12, t13, t14, t15, t16, t17, t18, t19, t20, t21, t22, t23, t24, t25, t26, t27, t28, t29, t30, t31, t32, t33, t34, t35, t36, t37, t38, t39, t40, t41, t42, t43, t44, t45, t46, t47, t48, t49, t50, t51, t52, t53] H lg Q = (
  stepL (evAppend Try.prog H 51 39 39 t45 t50) H lg 12 fun v1 H1 g1 =>
  stepL (nilO t39) H1 g1 13 fun v2 H2 g2 =>
  stepL (evFieldAddr Try.prog 41 v2 1) H2 g2 14 fun v3 H3 g3 =>
  stepL (evStore Try.prog H3 39 v3 v1) H3 g3 15 fun v4 H4 g4 =>
  Q [t0, t1, t2, t3, t4, t5, t6, t7, t8, t9, t10, t11, t12, t13, t14, t15, t16, t17, t18, t19, t20, t21, t22, t23, t24, t25, t26, t27, t28, t29, t30, t31, t32, t33, t34, t35, t36, t37, t38, t39, t40, t41, t42, t43, t44, t45, t46, t47, t48, t49, t50, v1, v2, v3] H4 g4) := by kernel_rfl
theorem w28_28 {pol : Nat → Pol} {cl : CallW} {lp : LoopW} {env : List V} {H : Heap} {Q : KQ} : wC Try.prog pol cl lp c28_28 env H Q = wC Try.prog pol cl lp c28_29 env H (seqK Try.prog pol cl lp c28_30 Q) := wC_seq (by kernel_rfl)
theorem w28_29 {pol : Nat → Pol} {cl : CallW} {lp : LoopW} {env : List V} {H : Heap} {Q : KQ} : wC Try.prog pol cl lp c28_29 env H Q = wOps Try.prog pol cl o28_29 d28_29_0 0 env H (Q .nrm) := wC_reg (i := 8) (by kernel_rfl) rfl
theorem w28_29_0 {pol : Nat → Pol} {cl : CallW} {t0 t1 t2 t3 t4 t5 t6 t7 t8 t9 t10 t11 t12 t13 t14 t15 t16 t17 t18 t19 t20 t21 t22 t23 t24 t25 t26 t27 t28 t29 t30 t31 t32 t33 t34 t35 t36 t37 t38 t39 t40 t41 t42 t43 t44 t45 t46 t47 t48 t49 t50 t51 t52 t53 : V} {H : Heap} {Q : List V → Heap → Prop} : wOps Try.prog pol cl o28_29 d28_29_0 0 [t0, t1, t2, t3, t4, t5, t6, t7, t8, t9, t10, t11, t12, t13, t14, t15, t16, t17, t18, t19, t20, t21, t22, t23, t24, t25, t26, t27, t28, t29, t30, t31, t32, t33, t34, t35, t36, t37, t38, t39, t40, t41, t42, t43, t44, t45, t46, t47, t48, t49, t50, t51, t52, t53] H Q = (
  Q [t0, t1, t2, t3, t4, t5, (.int .i64 0), t7, t8, t9, t10, t11, t12, t13, t14, t15, t16, t17, t18, t19, t20, t21, t22, t23, t24, t25, t26, t27, t28, t29, t30, t31, t32, t33, t34, t35, t36, t37, t38, t39, t40, t41, t42, t43, t44, t45, t46, t47, t48, t49, t50, t51, t52, t53] H) := by kernel_rfl
theorem w28_30 {pol : Nat → Pol} {cl : CallW} {lp : LoopW} {env : List V} {H : Heap} {Q : KQ} : wC Try.prog pol cl lp c28_30 env H Q = Q .ret env H := wC_ret (by kernel_rfl)
-- (*incipit/incipitref27.Disk).Sync
noncomputable def c29_0 : Code := cAt [] (bodyOf Try.f29)
noncomputable def c29_1 : Code := cAt [0] (bodyOf Try.f29)
noncomputable def o29_1 : Array Oper := opsOf c29_1
noncomputable def d29_1_0 : List Oper := o29_1.toList
noncomputable def c29_2 : Code := cAt [1] (bodyOf Try.f29)
noncomputable def c29_3 : Code := cAt [1, 0] (bodyOf Try.f29)
noncomputable def c29_4 : Code := cAt [1, 0, 0] (bodyOf Try.f29)
noncomputable def o29_4 : Array Oper := opsOf c29_4
noncomputable def d29_4_0 : List Oper := o29_4.toList
noncomputable def c29_5 : Code := cAt [1, 0, 1] (bodyOf Try.f29)
noncomputable def c29_6 : Code := cAt [1, 0, 1, 0] (bodyOf Try.f29)
noncomputable def c29_7 : Code := cAt [1, 0, 1, 0, 0] (bodyOf Try.f29)
noncomputable def o29_7 : Array Oper := opsOf c29_7
noncomputable def d29_7_0 : List Oper := o29_7.toList
noncomputable def c29_8 : Code := cAt [1, 0, 1, 0, 1] (bodyOf Try.f29)
noncomputable def c29_9 : Code := cAt [1, 0, 1, 1] (bodyOf Try.f29)
noncomputable def c29_10 : Code := cAt [1, 1] (bodyOf Try.f29)
noncomputable def c29_11 : Code := cAt [1, 1, 0] (bodyOf Try.f29)
noncomputable def o29_11 : Array Oper := opsOf c29_11
noncomputable def d29_11_0 : List Oper := o29_11.toList
noncomputable def c29_12 : Code := cAt [1, 1, 1] (bodyOf Try.f29)
noncomputable def c29_13 : Code := cAt [1, 1, 1, 0] (bodyOf Try.f29)
noncomputable def o29_13 : Array Oper := opsOf c29_13
noncomputable def d29_13_0 : List Oper := o29_13.toList
noncomputable def c29_14 : Code := cAt [1, 1, 1, 1] (bodyOf Try.f29)
noncomputable def c29_15 : Code := cAt [1, 1, 1, 1, 0] (bodyOf Try.f29)
noncomputable def o29_15 : Array Oper := opsOf c29_15
noncomputable def d29_15_0 : List Oper := o29_15.toList
noncomputable def c29_16 : Code := cAt [1, 1, 1, 1, 1] (bodyOf Try.f29)
theorem w29_0 {pol : Nat → Pol} {cl : CallW} {lp : LoopW} {env : List V} {H : Heap} {Q : KQ} : wC Try.prog pol cl lp c29_0 env H Q = wC Try.prog pol cl lp c29_1 env H (seqK Try.prog pol cl lp c29_2 Q) := wC_seq (by kernel_rfl)
theorem w29_1 {pol : Nat → Pol} {cl : CallW} {lp : LoopW} {env : List V} {H : Heap} {Q : KQ} : wC Try.prog pol cl lp c29_1 env H Q = wOps Try.prog pol cl o29_1 d29_1_0 0 env H (Q .nrm) := wC_reg (i := 0) (by kernel_rfl) rfl
theorem w29_1_0 {pol : Nat → Pol} {cl : CallW} {t0 t1 t2 t3 t4 t5 t6 t7 t8 t9 t10 t11 t12 t13 t14 t15 : V} {H : Heap} {Q : List V → Heap → Prop} : wOps Try.prog pol cl o29_1 d29_1_0 0 [t0, t1, t2, t3, t4, t5, t6, t7, t8, t9, t10, t11, t12, t13, t14, t15] H Q = (
  Q [t0, t1, (.int .i64 0), t3, t4, t5, t6, t7, t8, t9, t10, t11, t12, t13, t14, t15] H) := by kernel_rfl
theorem w29_2 {pol : Nat → Pol} {cl : CallW} {lp : LoopW} {env : List V} {H : Heap} {Q : KQ} : wC Try.prog pol cl lp c29_2 env H Q = wC Try.prog pol cl lp c29_3 env H (seqK Try.prog pol cl lp c29_10 Q) := wC_seq (by kernel_rfl)
theorem w29_3 {pol : Nat → Pol} {cl : CallW} {lp : LoopW} {env : List V} {H : Heap} {Q : KQ} : wC Try.prog pol cl lp c29_3 env H Q = wC Try.prog pol cl lp c29_4 env H (seqK Try.prog pol cl lp c29_5 Q) := wC_seq (by kernel_rfl)
theorem w29_4 {pol : Nat → Pol} {cl : CallW} {lp : LoopW} {env : List V} {H : Heap} {Q : KQ} : wC Try.prog pol cl lp c29_4 env H Q = wOps Try.prog pol cl o29_4 d29_4_0 0 env H (Q .nrm) := wC_reg (i := 1) (by kernel_rfl) rfl
theorem w29_4_0 {pol : Nat → Pol} {cl : CallW} {t0 t1 t2 t3 t4 t5 t6 t7 t8 t9 t10 t11 t12 t13 t14 t15 : V} {H : Heap} {Q : List V → Heap → Prop} : wOps Try.prog pol cl o29_4 d29_4_0 0 [t0, t1, t2, t3, t4, t5, t6, t7, t8, t9, t10, t11, t12, t13, t14, t15] H Q = (
  callW pol cl H 4 38 [t0] fun v1 H1 =>
  stepW (liftO (evUn .not v1)) H1 fun v2 H2 =>
  Q [t0, t1, t2, t0, v1, v2, t6, t7, t8, t9, t10, t11, t12, t13, t14, t15] H2) := by kernel_rfl
theorem w29_5 {pol : Nat → Pol} {cl : CallW} {lp : LoopW} {env : List V} {H : Heap} {Q : KQ} : wC Try.prog pol cl lp c29_5 env H Q = condW (evOperand env (Operand.tmp 5)) (wC Try.prog pol cl lp c29_6 env H Q) (wC Try.prog pol cl lp c29_9 env H Q) := wC_cond (by kernel_rfl)
theorem w29_6 {pol : Nat → Pol} {cl : CallW} {lp : LoopW} {env : List V} {H : Heap} {Q : KQ} : wC Try.prog pol cl lp c29_6 env H Q = wC Try.prog pol cl lp c29_7 env H (seqK Try.prog pol cl lp c29_8 Q) := wC_seq (by kernel_rfl)
theorem w29_7 {pol : Nat → Pol} {cl : CallW} {lp : LoopW} {env : List V} {H : Heap} {Q : KQ} : wC Try.prog pol cl lp c29_7 env H Q = wOps Try.prog pol cl o29_7 d29_7_0 0 env H (Q .nrm) := wC_reg (i := 2) (by kernel_rfl) rfl
theorem w29_7_0 {pol : Nat → Pol} {cl : CallW} {t0 t1 t2 t3 t4 t5 t6 t7 t8 t9 t10 t11 t12 t13 t14 t15 : V} {H : Heap} {Q : List V → Heap → Prop} : wOps Try.prog pol cl o29_7 d29_7_0 0 [t0, t1, t2, t3, t4, t5, t6, t7, t8, t9, t10, t11, t12, t13, t14, t15] H Q = (
  Q [t0, t1, (.int .i64 11), t3, t4, t5, t6, t7, t8, t9, t10, t11, t12, t13, t14, t15] H) := by kernel_rfl
theorem w29_8 {pol : Nat → Pol} {cl : CallW} {lp : LoopW} {env : List V} {H : Heap} {Q : KQ} : wC Try.prog pol cl lp c29_8 env H Q = Q .ret env H := wC_ret (by kernel_rfl)
theorem w29_9 {pol : Nat → Pol} {cl : CallW} {lp : LoopW} {env : List V} {H : Heap} {Q : KQ} : wC Try.prog pol cl lp c29_9 env H Q = Q .nrm env H := wC_skip (by kernel_rfl)
theorem w29_10 {pol : Nat → Pol} {cl : CallW} {lp : LoopW} {env : List V} {H : Heap} {Q : KQ} : wC Try.prog pol cl lp c29_10 env H Q = wC Try.prog pol cl lp c29_11 env H (seqK Try.prog pol cl lp c29_12 Q) := wC_seq (by kernel_rfl)
theorem w29_11 {pol : Nat → Pol} {cl : CallW} {lp : LoopW} {env : List V} {H : Heap} {Q : KQ} : wC Try.prog pol cl lp c29_11 env H Q = wOps Try.prog pol cl o29_11 d29_11_0 0 env H (Q .nrm) := wC_reg (i := 3) (by kernel_rfl) rfl
theorem w29_11_0 {pol : Nat → Pol} {cl : CallW} {t0 t1 t2 t3 t4 t5 t6 t7 t8 t9 t10 t11 t12 t13 t14 t15 : V} {H : Heap} {Q : List V → Heap → Prop} : wOps Try.prog pol cl o29_11 d29_11_0 0 [t0, t1, t2, t3, t4, t5, t6, t7, t8, t9, t10, t11, t12, t13, t14, t15] H Q = (
  stepW (nilO t0) H fun v1 H1 =>
  stepW (evFieldAddr Try.prog 41 v1 1) H1 fun v2 H2 =>
  stepW (evLoad Try.prog H2 39 v2) H2 fun v3 H3 =>
  stepW (evLen Try.prog 39 v3) H3 fun v4 H4 =>
  callW pol cl H4 12 39 [t0, v4] fun v5 H5 =>
  Q [t0, t1, t2, t3, t4, t5, t0, t0, v1, v2, v3, v4, v5, t13, t14, t15] H5) := by kernel_rfl
theorem w29_12 {pol : Nat → Pol} {cl : CallW} {lp : LoopW} {env : List V} {H : Heap} {Q : KQ} : wC Try.prog pol cl lp c29_12 env H Q = wC Try.prog pol cl lp c29_13 env H (seqK Try.prog pol cl lp c29_14 Q) := wC_seq (by kernel_rfl)
theorem w29_13 {pol : Nat → Pol} {cl : CallW} {lp : LoopW} {env : List V} {H : Heap} {Q : KQ} : wC Try.prog pol cl lp c29_13 env H Q = wOps Try.prog pol cl o29_13 d29_13_0 0 env H (Q .nrm) := wC_reg (i := 4) (by kernel_rfl) rfl
theorem w29_13_0 {pol : Nat → Pol} {cl : CallW} {t0 t1 t2 t3 t4 t5 t6 t7 t8 t9 t10 t11 t12 t13 t14 t15 : V} {H : Heap} {Q : List V → Heap → Prop} : wOps Try.prog pol cl o29_13 d29_13_0 0 [t0, t1, t2, t3, t4, t5, t6, t7, t8, t9, t10, t11, t12, t13, t14, t15] H Q = (
  stepW (nilO t0) H fun v1 H1 =>
  stepW (evFieldAddr Try.prog 41 v1 1) H1 fun v2 H2 =>
  stepW (evStore Try.prog H2 39 v2 .nils) H2 fun v3 H3 =>
  Q [t0, t1, t2, t3, t4, t5, t6, t7, t8, t9, t10, t11, t12, t0, v1, v2] H3) := by kernel_rfl
theorem w29_14 {pol : Nat → Pol} {cl : CallW} {lp : LoopW} {env : List V} {H : Heap} {Q : KQ} : wC Try.prog pol cl lp c29_14 env H Q = wC Try.prog pol cl lp c29_15 env H (seqK Try.prog pol cl lp c29_16 Q) := wC_seq (by kernel_rfl)
theorem w29_15 {pol : Nat → Pol} {cl : CallW} {lp : LoopW} {env : List V} {H : Heap} {Q : KQ} : wC Try.prog pol cl lp c29_15 env H Q = wOps Try.prog pol cl o29_15 d29_15_0 0 env H (Q .nrm) := wC_reg (i := 5) (by kernel_rfl) rfl
theorem w29_15_0 {pol : Nat → Pol} {cl : CallW} {t0 t1 t2 t3 t4 t5 t6 t7 t8 t9 t10 t11 t12 t13 t14 t15 : V} {H : Heap} {Q : List V → Heap → Prop} : wOps Try.prog pol cl o29_15 d29_15_0 0 [t0, t1, t2, t3, t4, t5, t6, t7, t8, t9, t10, t11, t12, t13, t14, t15] H Q = (
  Q [t0, t1, (.int .i64 0), t3, t4, t5, t6, t7, t8, t9, t10, t11, t12, t13, t14, t15] H) := by kernel_rfl
theorem w29_16 {pol : Nat → Pol} {cl : CallW} {lp : LoopW} {env : List V} {H : Heap} {Q : KQ} : wC Try.prog pol cl lp c29_16 env H Q = Q .ret env H := wC_ret (by kernel_rfl)
-- (*incipit/incipitref27.Disk).Crash
noncomputable def c30_0 : Code := cAt [] (bodyOf Try.f30)
noncomputable def c30_1 : Code := cAt [0] (bodyOf Try.f30)
noncomputable def o30_1 : Array Oper := opsOf c30_1
noncomputable def d30_1_0 : List Oper := o30_1.toList
noncomputable def c30_2 : Code := cAt [1] (bodyOf Try.f30)
noncomputable def c30_3 : Code := cAt [1, 0] (bodyOf Try.f30)
noncomputable def o30_3 : Array Oper := opsOf c30_3
noncomputable def d30_3_0 : List Oper := o30_3.toList
noncomputable def c30_4 : Code := cAt [1, 1] (bodyOf Try.f30)
noncomputable def c30_5 : Code := cAt [1, 1, 0] (bodyOf Try.f30)
noncomputable def c30_6 : Code := cAt [1, 1, 0, 0] (bodyOf Try.f30)
noncomputable def o30_6 : Array Oper := opsOf c30_6
noncomputable def d30_6_0 : List Oper := o30_6.toList
noncomputable def c30_7 : Code := cAt [1, 1, 0, 1] (bodyOf Try.f30)
noncomputable def c30_8 : Code := cAt [1, 1, 0, 1, 0] (bodyOf Try.f30)
noncomputable def c30_9 : Code := cAt [1, 1, 0, 1, 0, 0] (bodyOf Try.f30)
noncomputable def o30_9 : Array Oper := opsOf c30_9
noncomputable def d30_9_0 : List Oper := o30_9.toList
noncomputable def c30_10 : Code := cAt [1, 1, 0, 1, 0, 1] (bodyOf Try.f30)
noncomputable def c30_11 : Code := cAt [1, 1, 0, 1, 0, 1, 0] (bodyOf Try.f30)
noncomputable def o30_11 : Array Oper := opsOf c30_11
noncomputable def d30_11_0 : List Oper := o30_11.toList
noncomputable def c30_12 : Code := cAt [1, 1, 0, 1, 0, 1, 1] (bodyOf Try.f30)
noncomputable def o30_12 : Array Oper := opsOf c30_12
noncomputable def d30_12_0 : List Oper := o30_12.toList
noncomputable def p30_12_0 : List Oper := d30_12_0.take 12
noncomputable def d30_12_12 : List Oper := d30_12_0.drop 12
noncomputable def p30_12_12 : List Oper := d30_12_12.take 12
noncomputable def d30_12_24 : List Oper := d30_12_12.drop 12
noncomputable def c30_13 : Code := cAt [1, 1, 0, 1, 1] (bodyOf Try.f30)
noncomputable def c30_14 : Code := cAt [1, 1, 1] (bodyOf Try.f30)
noncomputable def c30_15 : Code := cAt [1, 1, 1, 0] (bodyOf Try.f30)
noncomputable def o30_15 : Array Oper := opsOf c30_15
noncomputable def d30_15_0 : List Oper := o30_15.toList
noncomputable def c30_16 : Code := cAt [1, 1, 1, 1] (bodyOf Try.f30)
noncomputable def c30_17 : Code := cAt [1, 1, 1, 1, 0] (bodyOf Try.f30)
noncomputable def o30_17 : Array Oper := opsOf c30_17
noncomputable def d30_17_0 : List Oper := o30_17.toList
noncomputable def c30_18 : Code := cAt [1, 1, 1, 1, 1] (bodyOf Try.f30)
noncomputable def o30_18 : Array Oper := opsOf c30_18
noncomputable def d30_18_0 : List Oper := o30_18.toList
theorem w30_0 {pol : Nat → Pol} {cl : CallW} {lp : LoopW} {env : List V} {H : Heap} {Q : KQ} : wC Try.prog pol cl lp c30_0 env H Q = wC Try.prog pol cl lp c30_1 env H (seqK Try.prog pol cl lp c30_2 Q) := wC_seq (by kernel_rfl)
theorem w30_1 {pol : Nat → Pol} {cl : CallW} {lp : LoopW} {env : List V} {H : Heap} {Q : KQ} : wC Try.prog pol cl lp c30_1 env H Q = wOps Try.prog pol cl o30_1 d30_1_0 0 env H (Q .nrm) := wC_reg (i := 0) (by kernel_rfl) rfl
theorem w30_1_0 {pol : Nat → Pol} {cl : CallW} {t0 t1 t2 t3 t4 t5 t6 t7 t8 t9 t10 t11 t12 t13 t14 t15 t16 t17 t18 t19 t20 t21 t22 t23 t24 t25 t26 t27 t28 t29 t30 t31 t32 t33 t34 t35 t36 t37 t38 t39 t40 t41 t42 t43 t44 t45 t46 t47 t48 t49 t50 t51 t52 t53 t54 t55 t56 t57 t58 t59 t60 t61 t62 t63 t64 t65 t66 t67 t68 t69 t70 t71 t72 : V} {H : Heap} {Q : List V → Heap → Prop} : wOps Try.prog pol cl o30_1 d30_1_0 0 [t0, t1, t2, t3, t4, t5, t6, t7, t8, t9, t10, t11, t12, t13, t14, t15, t16, t17, t18, t19, t20, t21, t22, t23, t24, t25, t26, t27, t28, t29, t30, t31, t32, t33, t34, t35, t36, t37, t38, t39, t40, t41, t42, t43, t44, t45, t46, t47, t48, t49, t50, t51, t52, t53, t54, t55, t56, t57, t58, t59, t60, t61, t62, t63, t64, t65, t66, t67, t68, t69, t70, t71, t72] H Q = (
  stepW (liftO (foldO max2 t1 [(.int .i64 0)])) H fun v1 H1 =>
  stepW (nilO t0) H1 fun v2 H2 =>
  stepW (evFieldAddr Try.prog 41 v2 1) H2 fun v3 H3 =>
  stepW (evLoad Try.prog H3 39 v3) H3 fun v4 H4 =>
  stepW (evLen Try.prog 39 v4) H4 fun v5 H5 =>
  stepW (liftO (foldO min2 v1 [v5])) H5 fun v6 H6 =>
  Q [t0, t1, t2, t3, t4, t5, v6, t7, t8, t1, v1, t0, v2, v3, v4, v5, v6, t17, t18, t19, t20, t21, t22, t23, t24, t25, t26, t27, t28, t29, t30, t31, t32, t33, t34, t35, t36, t37, t38, t39, t40, t41, t42, t43, t44, t45, t46, t47, t48, t49, t50, t51, t52, t53, t54, t55, t56, t57, t58, t59, t60, t61, t62, t63, t64, t65, t66, t67, t68, t69, t70, t71, t72] H6) := by kernel_rfl
theorem w30_2 {pol : Nat → Pol} {cl : CallW} {lp : LoopW} {env : List V} {H : Heap} {Q : KQ} : wC Try.prog pol cl lp c30_2 env H Q = wC Try.prog pol cl lp c30_3 env H (seqK Try.prog pol cl lp c30_4 Q) := wC_seq (by kernel_rfl)
theorem w30_3 {pol : Nat → Pol} {cl : CallW} {lp : LoopW} {env : List V} {H : Heap} {Q : KQ} : wC Try.prog pol cl lp c30_3 env H Q = wOps Try.prog pol cl o30_3 d30_3_0 0 env H (Q .nrm) := wC_reg (i := 1) (by kernel_rfl) rfl
theorem w30_3_0 {pol : Nat → Pol} {cl : CallW} {t0 t1 t2 t3 t4 t5 t6 t7 t8 t9 t10 t11 t12 t13 t14 t15 t16 t17 t18 t19 t20 t21 t22 t23 t24 t25 t26 t27 t28 t29 t30 t31 t32 t33 t34 t35 t36 t37 t38 t39 t40 t41 t42 t43 t44 t45 t46 t47 t48 t49 t50 t51 t52 t53 t54 t55 t56 t57 t58 t59 t60 t61 t62 t63 t64 t65 t66 t67 t68 t69 t70 t71 t72 : V} {H : Heap} {Q : List V → Heap → Prop} : wOps Try.prog pol cl o30_3 d30_3_0 0 [t0, t1, t2, t3, t4, t5, t6, t7, t8, t9, t10, t11, t12, t13, t14, t15, t16, t17, t18, t19, t20, t21, t22, t23, t24, t25, t26, t27, t28, t29, t30, t31, t32, t33, t34, t35, t36, t37, t38, t39, t40, t41, t42, t43, t44, t45, t46, t47, t48, t49, t50, t51, t52, t53, t54, t55, t56, t57, t58, t59, t60, t61, t62, t63, t64, t65, t66, t67, t68, t69, t70, t71, t72] H Q = (
  callW pol cl H 19 39 [t0, t6] fun v1 H1 =>
  Q [t0, t1, t2, t3, t4, t5, t6, t7, t8, t9, t10, t11, t12, t13, t14, t15, t16, t0, t6, v1, t20, t21, t22, t23, t24, t25, t26, t27, t28, t29, t30, t31, t32, t33, t34, t35, t36, t37, t38, t39, t40, t41, t42, t43, t44, t45, t46, t47, t48, t49, t50, t51, t52, t53, t54, t55, t56, t57, t58, t59, t60, t61, t62, t63, t64, t65, t66, t67, t68, t69, t70, t71, t72] H1) := by kernel_rfl
theorem w30_4 {pol : Nat → Pol} {cl : CallW} {lp : LoopW} {env : List V} {H : Heap} {Q : KQ} : wC Try.prog pol cl lp c30_4 env H Q = wC Try.prog pol cl lp c30_5 env H (seqK Try.prog pol cl lp c30_14 Q) := wC_seq (by kernel_rfl)
theorem w30_5 {pol : Nat → Pol} {cl : CallW} {lp : LoopW} {env : List V} {H : Heap} {Q : KQ} : wC Try.prog pol cl lp c30_5 env H Q = wC Try.prog pol cl lp c30_6 env H (seqK Try.prog pol cl lp c30_7 Q) := wC_seq (by kernel_rfl)
theorem w30_6 {pol : Nat → Pol} {cl : CallW} {lp : LoopW} {env : List V} {H : Heap} {Q : KQ} : wC Try.prog pol cl lp c30_6 env H Q = wOps Try.prog pol cl o30_6 d30_6_0 0 env H (Q .nrm) := wC_reg (i := 2) (by kernel_rfl) rfl
theorem w30_6_0 {pol : Nat → Pol} {cl : CallW} {t0 t1 t2 t3 t4 t5 t6 t7 t8 t9 t10 t11 t12 t13 t14 t15 t16 t17 t18 t19 t20 t21 t22 t23 t24 t25 t26 t27 t28 t29 t30 t31 t32 t33 t34 t35 t36 t37 t38 t39 t40 t41 t42 t43 t44 t45 t46 t47 t48 t49 t50 t51 t52 t53 t54 t55 t56 t57 t58 t59 t60 t61 t62 t63 t64 t65 t66 t67 t68 t69 t70 t71 t72 : V} {H : Heap} {Q : List V → Heap → Prop} : wOps Try.prog pol cl o30_6 d30_6_0 0 [t0, t1, t2, t3, t4, t5, t6, t7, t8, t9, t10, t11, t12, t13, t14, t15, t16, t17, t18, t19, t20, t21, t22, t23, t24, t25, t26, t27, t28, t29, t30, t31, t32, t33, t34, t35, t36, t37, t38, t39, t40, t41, t42, t43, t44, t45, t46, t47, t48, t49, t50, t51, t52, t53, t54, t55, t56, t57, t58, t59, t60, t61, t62, t63, t64, t65, t66, t67, t68, t69, t70, t71, t72] H Q = (
  stepW (nilO t0) H fun v1 H1 =>
  stepW (evFieldAddr Try.prog 41 v1 1) H1 fun v2 H2 =>
  stepW (evLoad Try.prog H2 39 v2) H2 fun v3 H3 =>
  stepW (evLen Try.prog 39 v3) H3 fun v4 H4 =>
  stepW (liftO (evBin Try.prog 3 .lss t6 v4)) H4 fun v5 H5 =>
  Q [t0, t1, t2, t3, t4, t5, t6, t7, t8, t9, t10, t11, t12, t13, t14, t15, t16, t17, t18, t19, t6, t0, v1, v2, v3, v4, v5, t27, t28, t29, t30, t31, t32, t33, t34, t35, t36, t37, t38, t39, t40, t41, t42, t43, t44, t45, t46, t47, t48, t49, t50, t51, t52, t53, t54, t55, t56, t57, t58, t59, t60, t61, t62, t63, t64, t65, t66, t67, t68, t69, t70, t71, t72] H5) := by kernel_rfl
theorem w30_7 {pol : Nat → Pol} {cl : CallW} {lp : LoopW} {env : List V} {H : Heap} {Q : KQ} : wC Try.prog pol cl lp c30_7 env H Q = condW (evOperand env (Operand.tmp 26)) (wC Try.prog pol cl lp c30_8 env H Q) (wC Try.prog pol cl lp c30_13 env H Q) := wC_cond (by kernel_rfl)
theorem w30_8 {pol : Nat → Pol} {cl : CallW} {lp : LoopW} {env : List V} {H : Heap} {Q : KQ} : wC Try.prog pol cl lp c30_8 env H Q = wC Try.prog pol cl lp c30_9 env H (seqK Try.prog pol cl lp c30_10 Q) := wC_seq (by kernel_rfl)
theorem w30_9 {pol : Nat → Pol} {cl : CallW} {lp : LoopW} {env : List V} {H : Heap} {Q : KQ} : wC Try.prog pol cl lp c30_9 env H Q = wOps Try.prog pol cl o30_9 d30_9_0 0 env H (Q .nrm) := wC_reg (i := 3) (by kernel_rfl) rfl
theorem w30_9_0 {pol : Nat → Pol} {cl : CallW} {t0 t1 t2 t3 t4 t5 t6 t7 t8 t9 t10 t11 t12 t13 t14 t15 t16 t17 t18 t19 t20 t21 t22 t23 t24 t25 t26 t27 t28 t29 t30 t31 t32 t33 t34 t35 t36 t37 t38 t39 t40 t41 t42 t43 t44 t45 t46 t47 t48 t49 t50 t51 t52 t53 t54 t55 t56 t57 t58 t59 t60 t61 t62 t63 t64 t65 t66 t67 t68 t69 t70 t71 t72 : V} {H : Heap} {Q : List V → Heap → Prop} : wOps Try.prog pol cl o30_9 d30_9_0 0 [t0, t1, t2, t3, t4, t5, t6, t7, t8, t9, t10, t11, t12, t13, t14, t15, t16, t17, t18, t19, t20, t21, t22, t23, t24, t25, t26, t27, t28, t29, t30, t31, t32, t33, t34, t35, t36, t37, t38, t39, t40, t41, t42, t43, t44, t45, t46, t47, t48, t49, t50, t51, t52, t53, t54, t55, t56, t57, t58, t59, t60, t61, t62, t63, t64, t65, t66, t67, t68, t69, t70, t71, t72] H Q = (
  stepW (liftO (foldO max2 t2 [(.int .i64 0)])) H fun v1 H1 =>
  stepW (liftO (foldO min2 v1 [(.int .i64 64)])) H1 fun v2 H2 =>
  Q [t0, t1, t2, t3, t4, t5, t6, v2, t8, t9, t10, t11, t12, t13, t14, t15, t16, t17, t18, t19, t20, t21, t22, t23, t24, t25, t26, t2, v1, v2, t30, t31, t32, t33, t34, t35, t36, t37, t38, t39, t40, t41, t42, t43, t44, t45, t46, t47, t48, t49, t50, t51, t52, t53, t54, t55, t56, t57, t58, t59, t60, t61, t62, t63, t64, t65, t66, t67, t68, t69, t70, t71, t72] H2) := by kernel_rfl
theorem w30_10 {pol : Nat → Pol} {cl : CallW} {lp : LoopW} {env : List V} {H : Heap} {Q : KQ} : wC Try.prog pol cl lp c30_10 env H Q = wC Try.prog pol cl lp c30_11 env H (seqK Try.prog pol cl lp c30_12 Q) := wC_seq (by kernel_rfl)
theorem w30_11 {pol : Nat → Pol} {cl : CallW} {lp : LoopW} {env : List V} {H : Heap} {Q : KQ} : wC Try.prog pol cl lp c30_11 env H Q = wOps Try.prog pol cl o30_11 d30_11_0 0 env H (Q .nrm) := wC_reg (i := 4) (by kernel_rfl) rfl
theorem w30_11_0 {pol : Nat → Pol} {cl : CallW} {t0 t1 t2 t3 t4 t5 t6 t7 t8 t9 t10 t11 t12 t13 t14 t15 t16 t17 t18 t19 t20 t21 t22 t23 t24 t25 t26 t27 t28 t29 t30 t31 t32 t33 t34 t35 t36 t37 t38 t39 t40 t41 t42 t43 t44 t45 t46 t47 t48 t49 t50 t51 t52 t53 t54 t55 t56 t57 t58 t59 t60 t61 t62 t63 t64 t65 t66 t67 t68 t69 t70 t71 t72 : V} {H : Heap} {Q : List V → Heap → Prop} : wOps Try.prog pol cl o30_11 d30_11_0 0 [t0, t1, t2, t3, t4, t5, t6, t7, t8, t9, t10, t11, t12, t13, t14, t15, t16, t17, t18, t19, t20, t21, t22, t23, t24, t25, t26, t27, t28, t29, t30, t31, t32, t33, t34, t35, t36, t37, t38, t39, t40, t41, t42, t43, t44, t45, t46, t47, t48, t49, t50, t51, t52, t53, t54, t55, t56, t57, t58, t59, t60, t61, t62, t63, t64, t65, t66, t67, t68, t69, t70, t71, t72] H Q = (
  stepW (nilO t0) H fun v1 H1 =>
  stepW (evFieldAddr Try.prog 41 v1 1) H1 fun v2 H2 =>
  stepW (evLoad Try.prog H2 39 v2) H2 fun v3 H3 =>
  stepW (evIndexAddr Try.prog 39 v3 t6) H3 fun v4 H4 =>
  stepW (evFieldAddr Try.prog 72 v4 0) H4 fun v5 H5 =>
  stepW (evLoad Try.prog H5 3 v5) H5 fun v6 H6 =>
  Q [t0, t1, t2, t3, t4, t5, t6, t7, v6, t9, t10, t11, t12, t13, t14, t15, t16, t17, t18, t19, t20, t21, t22, t23, t24, t25, t26, t27, t28, t29, t0, v1, v2, v3, t6, v4, v5, v6, t38, t39, t40, t41, t42, t43, t44, t45, t46, t47, t48, t49, t50, t51, t52, t53, t54, t55, t56, t57, t58, t59, t60, t61, t62, t63, t64, t65, t66, t67, t68, t69, t70, t71, t72] H6) := by kernel_rfl
theorem w30_12 {pol : Nat → Pol} {cl : CallW} {lp : LoopW} {env : List V} {H : Heap} {Q : KQ} : wC Try.prog pol cl lp c30_12 env H Q = wOpsL Try.prog pol cl o30_12 d30_12_0 0 env H [] (fun env H lg => logOk o30_12 lg = true ∧ Q .nrm env H) := wC_regL (i := 5) (by kernel_rfl) rfl
theorem w30_12_0c {pol : Nat → Pol} {cl : CallW} {env : List V} {H : Heap} {lg : Log} {Q : List V → Heap → Log → Prop} : wOpsL Try.prog pol cl o30_12 d30_12_0 0 env H lg Q = wOpsL Try.prog pol cl o30_12 p30_12_0 0 env H lg (fun env H lg => wOpsL Try.prog pol cl o30_12 d30_12_12 12 env H lg Q) := wOpsL_cut (by kernel_rfl) (by kernel_rfl)
theorem w30_12_0 {pol : Nat → Pol} {cl : CallW} {t0 t1 t2 t3 t4 t5 t6 t7 t8 t9 t10 t11 t12 t13 t14 t15 t16 t17 t18 t19 t20 t21 t22 t23 t24 t25 t26 t27 t28 t29 t30 t31 t32 t33 t34 t35 t36 t37 t38 t39 t40 t41 t42 t43 t44 t45 t46 t47 t48 t49 t50 t51 t52 t53 t54 t55 t56 t57 t58 t59 t60 t61 t62 t63 t64 t65 t66 t67 t68 t69 t70 t71 t72 : V} {H : Heap} {lg : Log} {Q : List V → Heap → Log → Prop} : wOpsL Try.prog pol cl o30_12 p30_12_0 0 [t0, t1, t2, t3, t4, t5, t6, t7, t8, t9, t10, t11, t12, t13, t14, t15, t16, t17, t18, t19, t20, t21, t22, t23, t24, t25, t26, t27, t28, t29, t30, t31, t32, t33, t34, t35, t36, t37, t38, t39, t40, t41, t42, t43, t44, t45, t46, t47, t48, t49, t50, t51, t52, t53, t54, t55, t56, t57, t58, t59, t60, t61, t62, t63, t64, t65, t66, t67, t68, t69, t70, t71, t72] H lg Q = (
  stepL (pureO t0) H lg 0 fun v1 H1 g1 =>
  stepL (nilO v1) H1 g1 1 fun v2 H2 g2 =>
  stepL (evFieldAddr Try.prog 41 v2 0) H2 g2 2 fun v3 H3 g3 =>
  stepL (evLoad Try.prog H3 38 v3) H3 g3 3 fun v4 H4 g4 =>
  stepL (pureO t8) H4 g4 4 fun v5 H5 g5 =>
  stepL (pureO t0) H5 g5 5 fun v6 H6 g6 =>
  stepL (nilO v6) H6 g6 6 fun v7 H7 g7 =>
  stepL (evFieldAddr Try.prog 41 v7 1) H7 g7 7 fun v8 H8 g8 =>
  stepL (evLoad Try.prog H8 39 v8) H8 g8 8 fun v9 H9 g9 =>
  stepL (pureO t6) H9 g9 9 fun v10 H10 g10 =>
  stepL (evIndexAddr Try.prog 39 v9 v10) H10 g10 10 fun v11 H11 g11 =>
  stepL (evFieldAddr Try.prog 72 v11 1) H11 g11 11 fun v12 H12 g12 =>
  Q [t0, t1, t2, t3, t4, t5, t6, t7, t8, t9, t10, t11, t12, t13, t14, t15, t16, t17, t18, t19, t20, t21, t22, t23, t24, t25, t26, t27, t28, t29, t30, t31, t32, t33, t34, t35, t36, t37, v1, v2, v3, v4, v5, v6, v7, v8, v9, v10, v11, v12, t50, t51, t52, t53, t54, t55, t56, t57, t58, t59, t60, t61, t62, t63, t64, t65, t66, t67, t68, t69, t70, t71, t72] H12 g12) := by kernel_rfl
theorem w30_12_12c {pol : Nat → Pol} {cl : CallW} {env : List V} {H : Heap} {lg : Log} {Q : List V → Heap → Log → Prop} : wOpsL Try.prog pol cl o30_12 d30_12_12 12 env H lg Q = wOpsL Try.prog pol cl o30_12 p30_12_12 12 env H lg (fun env H lg => wOpsL Try.prog pol cl o30_12 d30_12_24 24 env H lg Q) := wOpsL_cut (by kernel_rfl) (by kernel_rfl)
theorem w30_12_12 {pol : Nat → Pol} {cl : CallW} {t0 t1 t2 t3 t4 t5 t6 t7 t8 t9 t10 t11 t12 t13 t14 t15 t16 t17 t18 t19 t20 t21 t22 t23 t24 t25 t26 t27 t28 t29 t30 t31 t32 t33 t34 t35 t36 t37 t38 t39 t40 t41 t42 t43 t44 t45 t46 t47 t48 t49 t50 t51 t52 t53 t54 t55 t56 t57 t58 t59 t60 t61 t62 t63 t64 t65 t66 t67 t68 t69 t70 t71 t72 : V} {H : Heap} {lg : Log} {Q : List V → Heap → Log → Prop} : wOpsL Try.prog pol cl o30_12 p30_12_12 12 [t0, t1, t2, t3, t4, t5, t6, t7, t8, t9, t10, t11, t12, t13, t14, t15, t16, t17, t18, t19, t20, t21, t22, t23, t24, t25, t26, t27, t28, t29, t30, t31, t32, t33, t34, t35, t36, t37, t38, t39, t40, t41, t42, t43, t44, t45, t46, t47, t48, t49, t50, t51, t52, t53, t54, t55, t56, t57, t58, t59, t60, t61, t62, t63, t64, t65, t66, t67, t68, t69, t70, t71, t72] H lg Q = (
  stepL (evLoad Try.prog H 9 t49) H lg 12 fun v1 H1 g1 =>
  stepL (pureO t7) H1 g1 13 fun v2 H2 g2 =>
  stepL (evSlice Try.prog H2 9 v1 none (some v2) none) H2 g2 14 fun v3 H3 g3 =>
  stepL (pureO t0) H3 g3 15 fun v4 H4 g4 =>
  stepL (nilO v4) H4 g4 16 fun v5 H5 g5 =>
  stepL (evFieldAddr Try.prog 41 v5 0) H5 g5 17 fun v6 H6 g6 =>
  stepL (evLoad Try.prog H6 38 v6) H6 g6 18 fun v7 H7 g7 =>
  stepL (pureO t8) H7 g7 19 fun v8 H8 g8 =>
  stepL (evIndexAddr Try.prog 38 v7 v8) H8 g8 20 fun v9 H9 g9 =>
  stepL (evLoad Try.prog H9 9 v9) H9 g9 21 fun v10 H10 g10 =>
  stepL (pureO t7) H10 g10 22 fun v11 H11 g11 =>
  stepL (evSlice Try.prog H11 9 v10 (some v11) none none) H11 g11 23 fun v12 H12 g12 =>
  Q [t0, t1, t2, t3, t4, t5, t6, t7, t8, t9, t10, t11, t12, t13, t14, t15, t16, t17, t18, t19, t20, t21, t22, t23, t24, t25, t26, t27, t28, t29, t30, t31, t32, t33, t34, t35, t36, t37, t38, t39, t40, t41, t42, t43, t44, t45, t46, t47, t48, t49, v1, v2, v3, v4, v5, v6, v7, v8, v9, v10, v11, v12, t62, t63, t64, t65, t66, t67, t68, t69, t70, t71, t72] H12 g12) := by kernel_rfl
theorem w30_12_24 {pol : Nat → Pol} {cl : CallW} {t0 t1 t2 t3 t4 t5 t6 t7 t8 t9 t10 t11 t12 t13 t14 t15 t16 t17 t18 t19 t20 t21 t22 t23 t24 t25 t26 t27 t28 t29 t30 t31 t32 t33 t34 t35 t36 t37 t38 t39 t40 t41 t42 t43 t44 t45 t46 t47 t48 t49 t50 t51 t52 t53 t54 t55 t56 t57 t58 t59 t60 t61 t62 t63 t64 t65 t66 t67 t68 t69 t70 t71 t72 : V} {H : Heap} {lg : Log} {Q : List V → Heap → Log → Prop} : wOpsL Try.prog pol cl o30_12 d30_12_24 24 [t0, t1, t2, t3, t4, t5, t6, t7, t8, t9, t10, t11, t12, t13, t14, t15, t16, t17, t18, t19, t20, t21, t22, t23, t24, t25, t26, t27, t28, t29, t30, t31, t32, t33, t34, t35, t36, t37, t38, t39, t40, t41, t42, t43, t44, t45, t46, t47, t48, t49, t50, t51, t52, t53, t54, t55, t56, t57, t58, t59, t60, t61, t62, t63, t64, t65, t66, t67, t68, t69, t70, t71, t72] H lg Q = (
  stepL (liftO (evBin Try.prog 9 .add t52 t61)) H lg 24 fun v1 H1 g1 =>
  stepL (evIndexAddr Try.prog 38 t41 t42) H1 g1 25 fun v2 H2 g2 =>
  stepL (evStore Try.prog H2 9 v2 v1) H2 g2 26 fun v3 H3 g3 =>
  Q [t0, t1, t2, t3, t4, t5, t6, t7, t8, t9, t10, t11, t12, t13, t14, t15, t16, t17, t18, t19, t20, t21, t22, t23, t24, t25, t26, t27, t28, t29, t30, t31, t32, t33, t34, t35, t36, t37, t38, t39, t40, t41, t42, t43, t44, t45, t46, t47, t48, t49, t50, t51, t52, t53, t54, t55, t56, t57, t58, t59, t60, t61, v1, v2, t64, t65, t66, t67, t68, t69, t70, t71, t72] H3 g3) := by kernel_rfl
theorem w30_13 {pol : Nat → Pol} {cl : CallW} {lp : LoopW} {env : List V} {H : Heap} {Q : KQ} : wC Try.prog pol cl lp c30_13 env H Q = Q .nrm env H := wC_skip (by kernel_rfl)
theorem w30_14 {pol : Nat → Pol} {cl : CallW} {lp : LoopW} {env : List V} {H : Heap} {Q : KQ} : wC Try.prog pol cl lp c30_14 env H Q = wC Try.prog pol cl lp c30_15 env H (seqK Try.prog pol cl lp c30_16 Q) := wC_seq (by kernel_rfl)
theorem w30_15 {pol : Nat → Pol} {cl : CallW} {lp : LoopW} {env : List V} {H : Heap} {Q : KQ} : wC Try.prog pol cl lp c30_15 env H Q = wOps Try.prog pol cl o30_15 d30_15_0 0 env H (Q .nrm) := wC_reg (i := 6) (by kernel_rfl) rfl
theorem w30_15_0 {pol : Nat → Pol} {cl : CallW} {t0 t1 t2 t3 t4 t5 t6 t7 t8 t9 t10 t11 t12 t13 t14 t15 t16 t17 t18 t19 t20 t21 t22 t23 t24 t25 t26 t27 t28 t29 t30 t31 t32 t33 t34 t35 t36 t37 t38 t39 t40 t41 t42 t43 t44 t45 t46 t47 t48 t49 t50 t51 t52 t53 t54 t55 t56 t57 t58 t59 t60 t61 t62 t63 t64 t65 t66 t67 t68 t69 t70 t71 t72 : V} {H : Heap} {Q : List V → Heap → Prop} : wOps Try.prog pol cl o30_15 d30_15_0 0 [t0, t1, t2, t3, t4, t5, t6, t7, t8, t9, t10, t11, t12, t13, t14, t15, t16, t17, t18, t19, t20, t21, t22, t23, t24, t25, t26, t27, t28, t29, t30, t31, t32, t33, t34, t35, t36, t37, t38, t39, t40, t41, t42, t43, t44, t45, t46, t47, t48, t49, t50, t51, t52, t53, t54, t55, t56, t57, t58, t59, t60, t61, t62, t63, t64, t65, t66, t67, t68, t69, t70, t71, t72] H Q = (
  stepW (nilO t0) H fun v1 H1 =>
  stepW (evFieldAddr Try.prog 41 v1 1) H1 fun v2 H2 =>
  stepW (evStore Try.prog H2 39 v2 .nils) H2 fun v3 H3 =>
  Q [t0, t1, t2, t3, t4, t5, t6, t7, t8, t9, t10, t11, t12, t13, t14, t15, t16, t17, t18, t19, t20, t21, t22, t23, t24, t25, t26, t27, t28, t29, t30, t31, t32, t33, t34, t35, t36, t37, t38, t39, t40, t41, t42, t43, t44, t45, t46, t47, t48, t49, t50, t51, t52, t53, t54, t55, t56, t57, t58, t59, t60, t61, t62, t63, t0, v1, v2, t67, t68, t69, t70, t71, t72] H3) := by kernel_rfl
theorem w30_16 {pol : Nat → Pol} {cl : CallW} {lp : LoopW} {env : List V} {H : Heap} {Q : KQ} : wC Try.prog pol cl lp c30_16 env H Q = wC Try.prog pol cl lp c30_17 env H (seqK Try.prog pol cl lp c30_18 Q) := wC_seq (by kernel_rfl)
theorem w30_17 {pol : Nat → Pol} {cl : CallW} {lp : LoopW} {env : List V} {H : Heap} {Q : KQ} : wC Try.prog pol cl lp c30_17 env H Q = wOps Try.prog pol cl o30_17 d30_17_0 0 env H (Q .nrm) := wC_reg (i := 7) (by kernel_rfl) rfl
theorem w30_17_0 {pol : Nat → Pol} {cl : CallW} {t0 t1 t2 t3 t4 t5 t6 t7 t8 t9 t10 t11 t12 t13 t14 t15 t16 t17 t18 t19 t20 t21 t22 t23 t24 t25 t26 t27 t28 t29 t30 t31 t32 t33 t34 t35 t36 t37 t38 t39 t40 t41 t42 t43 t44 t45 t46 t47 t48 t49 t50 t51 t52 t53 t54 t55 t56 t57 t58 t59 t60 t61 t62 t63 t64 t65 t66 t67 t68 t69 t70 t71 t72 : V} {H : Heap} {Q : List V → Heap → Prop} : wOps Try.prog pol cl o30_17 d30_17_0 0 [t0, t1, t2, t3, t4, t5, t6, t7, t8, t9, t10, t11, t12, t13, t14, t15, t16, t17, t18, t19, t20, t21, t22, t23, t24, t25, t26, t27, t28, t29, t30, t31, t32, t33, t34, t35, t36, t37, t38, t39, t40, t41, t42, t43, t44, t45, t46, t47, t48, t49, t50, t51, t52, t53, t54, t55, t56, t57, t58, t59, t60, t61, t62, t63, t64, t65, t66, t67, t68, t69, t70, t71, t72] H Q = (
  stepW (nilO t0) H fun v1 H1 =>
  stepW (evFieldAddr Try.prog 41 v1 4) H1 fun v2 H2 =>
  stepW (evStore Try.prog H2 4 v2 (.bool false)) H2 fun v3 H3 =>
  Q [t0, t1, t2, t3, t4, t5, t6, t7, t8, t9, t10, t11, t12, t13, t14, t15, t16, t17, t18, t19, t20, t21, t22, t23, t24, t25, t26, t27, t28, t29, t30, t31, t32, t33, t34, t35, t36, t37, t38, t39, t40, t41, t42, t43, t44, t45, t46, t47, t48, t49, t50, t51, t52, t53, t54, t55, t56, t57, t58, t59, t60, t61, t62, t63, t64, t65, t66, t0, v1, v2, t70, t71, t72] H3) := by kernel_rfl
theorem w30_18 {pol : Nat → Pol} {cl : CallW} {lp : LoopW} {env : List V} {H : Heap} {Q : KQ} : wC Try.prog pol cl lp c30_18 env H Q = wOps Try.prog pol cl o30_18 d30_18_0 0 env H (Q .nrm) := wC_reg (i := 8) (by kernel_rfl) rfl
theorem w30_18_0 {pol : Nat → Pol} {cl : CallW} {t0 t1 t2 t3 t4 t5 t6 t7 t8 t9 t10 t11 t12 t13 t14 t15 t16 t17 t18 t19 t20 t21 t22 t23 t24 t25 t26 t27 t28 t29 t30 t31 t32 t33 t34 t35 t36 t37 t38 t39 t40 t41 t42 t43 t44 t45 t46 t47 t48 t49 t50 t51 t52 t53 t54 t55 t56 t57 t58 t59 t60 t61 t62 t63 t64 t65 t66 t67 t68 t69 t70 t71 t72 : V} {H : Heap} {Q : List V → Heap → Prop} : wOps Try.prog pol cl o30_18 d30_18_0 0 [t0, t1, t2, t3, t4, t5, t6, t7, t8, t9, t10, t11, t12, t13, t14, t15, t16, t17, t18, t19, t20, t21, t22, t23, t24, t25, t26, t27, t28, t29, t30, t31, t32, t33, t34, t35, t36, t37, t38, t39, t40, t41, t42, t43, t44, t45, t46, t47, t48, t49, t50, t51, t52, t53, t54, t55, t56, t57, t58, t59, t60, t61, t62, t63, t64, t65, t66, t67, t68, t69, t70, t71, t72] H Q = (
  stepW (nilO t0) H fun v1 H1 =>
  stepW (evFieldAddr Try.prog 41 v1 2) H1 fun v2 H2 =>
  stepW (evStore Try.prog H2 3 v2 (.int .i64 (-1))) H2 fun v3 H3 =>
  Q [t0, t1, t2, t3, t4, t5, t6, t7, t8, t9, t10, t11, t12, t13, t14, t15, t16, t17, t18, t19, t20, t21, t22, t23, t24, t25, t26, t27, t28, t29, t30, t31, t32, t33, t34, t35, t36, t37, t38, t39, t40, t41, t42, t43, t44, t45, t46, t47, t48, t49, t50, t51, t52, t53, t54, t55, t56, t57, t58, t59, t60, t61, t62, t63, t64, t65, t66, t67, t68, t69, t0, v1, v2] H3) := by kernel_rfl
-- incipit/incipitlaw27.meant
noncomputable def c13_0 : Code := cAt [] (bodyOf Try.f13)
noncomputable def c13_1 : Code := cAt [0] (bodyOf Try.f13)
noncomputable def o13_1 : Array Oper := opsOf c13_1
noncomputable def d13_1_0 : List Oper := o13_1.toList
noncomputable def c13_2 : Code := cAt [1] (bodyOf Try.f13)
noncomputable def c13_3 : Code := cAt [1, 0] (bodyOf Try.f13)
noncomputable def c13_4 : Code := cAt [1, 0, 0] (bodyOf Try.f13)
noncomputable def o13_4 : Array Oper := opsOf c13_4
noncomputable def d13_4_0 : List Oper := o13_4.toList
noncomputable def c13_5 : Code := cAt [1, 0, 1] (bodyOf Try.f13)
noncomputable def c13_6 : Code := cAt [1, 0, 1, 0] (bodyOf Try.f13)
noncomputable def c13_7 : Code := cAt [1, 0, 1, 0, 0] (bodyOf Try.f13)
noncomputable def o13_7 : Array Oper := opsOf c13_7
noncomputable def d13_7_0 : List Oper := o13_7.toList
noncomputable def c13_8 : Code := cAt [1, 0, 1, 0, 1] (bodyOf Try.f13)
noncomputable def c13_9 : Code := cAt [1, 0, 1, 0, 1, 0] (bodyOf Try.f13)
noncomputable def c13_10 : Code := cAt [1, 0, 1, 0, 1, 0, 0] (bodyOf Try.f13)
noncomputable def o13_10 : Array Oper := opsOf c13_10
noncomputable def d13_10_0 : List Oper := o13_10.toList
noncomputable def c13_11 : Code := cAt [1, 0, 1, 0, 1, 0, 1] (bodyOf Try.f13)
noncomputable def c13_12 : Code := cAt [1, 0, 1, 0, 1, 1] (bodyOf Try.f13)
noncomputable def c13_13 : Code := cAt [1, 0, 1, 0, 1, 1, 0] (bodyOf Try.f13)
noncomputable def o13_13 : Array Oper := opsOf c13_13
noncomputable def d13_13_0 : List Oper := o13_13.toList
noncomputable def c13_14 : Code := cAt [1, 0, 1, 0, 1, 1, 1] (bodyOf Try.f13)
noncomputable def c13_15 : Code := cAt [1, 0, 1, 0, 1, 1, 1, 0] (bodyOf Try.f13)
noncomputable def c13_16 : Code := cAt [1, 0, 1, 0, 1, 1, 1, 0, 0] (bodyOf Try.f13)
noncomputable def o13_16 : Array Oper := opsOf c13_16
noncomputable def d13_16_0 : List Oper := o13_16.toList
noncomputable def c13_17 : Code := cAt [1, 0, 1, 0, 1, 1, 1, 0, 1] (bodyOf Try.f13)
noncomputable def c13_18 : Code := cAt [1, 0, 1, 0, 1, 1, 1, 1] (bodyOf Try.f13)
noncomputable def c13_19 : Code := cAt [1, 0, 1, 0, 1, 1, 1, 1, 0] (bodyOf Try.f13)
noncomputable def o13_19 : Array Oper := opsOf c13_19
noncomputable def d13_19_0 : List Oper := o13_19.toList
noncomputable def c13_20 : Code := cAt [1, 0, 1, 0, 1, 1, 1, 1, 1] (bodyOf Try.f13)
noncomputable def c13_21 : Code := cAt [1, 0, 1, 0, 1, 1, 1, 1, 1, 0] (bodyOf Try.f13)
noncomputable def c13_22 : Code := cAt [1, 0, 1, 0, 1, 1, 1, 1, 1, 0, 0] (bodyOf Try.f13)
noncomputable def o13_22 : Array Oper := opsOf c13_22
noncomputable def d13_22_0 : List Oper := o13_22.toList
noncomputable def c13_23 : Code := cAt [1, 0, 1, 0, 1, 1, 1, 1, 1, 0, 1] (bodyOf Try.f13)
noncomputable def c13_24 : Code := cAt [1, 0, 1, 0, 1, 1, 1, 1, 1, 1] (bodyOf Try.f13)
noncomputable def c13_25 : Code := cAt [1, 0, 1, 0, 1, 1, 1, 1, 1, 1, 0] (bodyOf Try.f13)
noncomputable def o13_25 : Array Oper := opsOf c13_25
noncomputable def d13_25_0 : List Oper := o13_25.toList
noncomputable def c13_26 : Code := cAt [1, 0, 1, 0, 1, 1, 1, 1, 1, 1, 1] (bodyOf Try.f13)
noncomputable def c13_27 : Code := cAt [1, 0, 1, 0, 1, 1, 1, 1, 1, 1, 1, 0] (bodyOf Try.f13)
noncomputable def o13_27 : Array Oper := opsOf c13_27
noncomputable def d13_27_0 : List Oper := o13_27.toList
noncomputable def c13_28 : Code := cAt [1, 0, 1, 0, 1, 1, 1, 1, 1, 1, 1, 1] (bodyOf Try.f13)
noncomputable def c13_29 : Code := cAt [1, 0, 1, 0, 1, 1, 1, 1, 1, 1, 1, 1, 0] (bodyOf Try.f13)
noncomputable def o13_29 : Array Oper := opsOf c13_29
noncomputable def d13_29_0 : List Oper := o13_29.toList
noncomputable def c13_30 : Code := cAt [1, 0, 1, 0, 1, 1, 1, 1, 1, 1, 1, 1, 1] (bodyOf Try.f13)
noncomputable def c13_31 : Code := cAt [1, 0, 1, 0, 1, 1, 1, 1, 1, 1, 1, 1, 1, 0] (bodyOf Try.f13)
noncomputable def o13_31 : Array Oper := opsOf c13_31
noncomputable def d13_31_0 : List Oper := o13_31.toList
noncomputable def c13_32 : Code := cAt [1, 0, 1, 0, 1, 1, 1, 1, 1, 1, 1, 1, 1, 1] (bodyOf Try.f13)
noncomputable def c13_33 : Code := cAt [1, 0, 1, 0, 1, 1, 1, 1, 1, 1, 1, 1, 1, 1, 0] (bodyOf Try.f13)
noncomputable def o13_33 : Array Oper := opsOf c13_33
noncomputable def d13_33_0 : List Oper := o13_33.toList
noncomputable def c13_34 : Code := cAt [1, 0, 1, 0, 1, 1, 1, 1, 1, 1, 1, 1, 1, 1, 1] (bodyOf Try.f13)
noncomputable def c13_35 : Code := cAt [1, 0, 1, 0, 1, 1, 1, 1, 1, 1, 1, 1, 1, 1, 1, 0] (bodyOf Try.f13)
noncomputable def o13_35 : Array Oper := opsOf c13_35
noncomputable def d13_35_0 : List Oper := o13_35.toList
noncomputable def c13_36 : Code := cAt [1, 0, 1, 0, 1, 1, 1, 1, 1, 1, 1, 1, 1, 1, 1, 1] (bodyOf Try.f13)
noncomputable def c13_37 : Code := cAt [1, 1] (bodyOf Try.f13)
noncomputable def c13_38 : Code := cAt [1, 1, 0] (bodyOf Try.f13)
noncomputable def o13_38 : Array Oper := opsOf c13_38
noncomputable def d13_38_0 : List Oper := o13_38.toList
noncomputable def c13_39 : Code := cAt [1, 1, 1] (bodyOf Try.f13)
theorem w13_0 {pol : Nat → Pol} {cl : CallW} {lp : LoopW} {env : List V} {H : Heap} {Q : KQ} : wC Try.prog pol cl lp c13_0 env H Q = wC Try.prog pol cl lp c13_1 env H (seqK Try.prog pol cl lp c13_2 Q) := wC_seq (by kernel_rfl)
theorem w13_1 {pol : Nat → Pol} {cl : CallW} {lp : LoopW} {env : List V} {H : Heap} {Q : KQ} : wC Try.prog pol cl lp c13_1 env H Q = wOps Try.prog pol cl o13_1 d13_1_0 0 env H (Q .nrm) := wC_reg (i := 0) (by kernel_rfl) rfl
theorem w13_1_0 {pol : Nat → Pol} {cl : CallW} {t0 t1 t2 t3 t4 t5 t6 t7 t8 t9 t10 t11 t12 t13 t14 t15 t16 t17 t18 t19 t20 t21 t22 t23 t24 t25 t26 t27 t28 t29 t30 t31 t32 t33 t34 t35 t36 t37 t38 t39 t40 t41 t42 t43 t44 t45 t46 t47 t48 t49 t50 t51 : V} {H : Heap} {Q : List V → Heap → Prop} : wOps Try.prog pol cl o13_1 d13_1_0 0 [t0, t1, t2, t3, t4, t5, t6, t7, t8, t9, t10, t11, t12, t13, t14, t15, t16, t17, t18, t19, t20, t21, t22, t23, t24, t25, t26, t27, t28, t29, t30, t31, t32, t33, t34, t35, t36, t37, t38, t39, t40, t41, t42, t43, t44, t45, t46, t47, t48, t49, t50, t51] H Q = (
  stepW (boxO H 3 t1) H fun v1 H1 =>
  Q [t0, t1, t2, v1, (ofVal ((Value.string { data := #[] }))), (.int .i64 0), t6, t7, t8, t9, t10, t11, t12, t13, t14, t15, t16, t17, t18, t19, t20, t21, t22, t23, t24, t25, t26, t27, t28, t29, t30, t31, t32, t33, t34, t35, t36, t37, t38, t39, t40, t41, t42, t43, t44, t45, t46, t47, t48, t49, t50, t51] H1) := by kernel_rfl
theorem w13_2 {pol : Nat → Pol} {cl : CallW} {lp : LoopW} {env : List V} {H : Heap} {Q : KQ} : wC Try.prog pol cl lp c13_2 env H Q = wC Try.prog pol cl lp c13_3 env H (seqK Try.prog pol cl lp c13_37 Q) := wC_seq (by kernel_rfl)
theorem w13_3 {pol : Nat → Pol} {cl : CallW} {lp : LoopW} {env : List V} {H : Heap} {Q : KQ} : wC Try.prog pol cl lp c13_3 env H Q = wC Try.prog pol cl lp c13_4 env H (seqK Try.prog pol cl lp c13_5 Q) := wC_seq (by kernel_rfl)
theorem w13_4 {pol : Nat → Pol} {cl : CallW} {lp : LoopW} {env : List V} {H : Heap} {Q : KQ} : wC Try.prog pol cl lp c13_4 env H Q = wOps Try.prog pol cl o13_4 d13_4_0 0 env H (Q .nrm) := wC_reg (i := 1) (by kernel_rfl) rfl
theorem w13_4_0 {pol : Nat → Pol} {cl : CallW} {t0 t1 t2 t3 t4 t5 t6 t7 t8 t9 t10 t11 t12 t13 t14 t15 t16 t17 t18 t19 t20 t21 t22 t23 t24 t25 t26 t27 t28 t29 t30 t31 t32 t33 t34 t35 t36 t37 t38 t39 t40 t41 t42 t43 t44 t45 t46 t47 t48 t49 t50 t51 : V} {H : Heap} {Q : List V → Heap → Prop} : wOps Try.prog pol cl o13_4 d13_4_0 0 [t0, t1, t2, t3, t4, t5, t6, t7, t8, t9, t10, t11, t12, t13, t14, t15, t16, t17, t18, t19, t20, t21, t22, t23, t24, t25, t26, t27, t28, t29, t30, t31, t32, t33, t34, t35, t36, t37, t38, t39, t40, t41, t42, t43, t44, t45, t46, t47, t48, t49, t50, t51] H Q = (
  stepW (evFieldAddr Try.prog 36 t3 0) H fun v1 H1 =>
  stepW (evLoad Try.prog H1 3 v1) H1 fun v2 H2 =>
  Q [t0, t1, t2, t3, t4, t5, v1, v2, t8, t9, t10, t11, t12, t13, t14, t15, t16, t17, t18, t19, t20, t21, t22, t23, t24, t25, t26, t27, t28, t29, t30, t31, t32, t33, t34, t35, t36, t37, t38, t39, t40, t41, t42, t43, t44, t45, t46, t47, t48, t49, t50, t51] H2) := by kernel_rfl
theorem w13_5 {pol : Nat → Pol} {cl : CallW} {lp : LoopW} {env : List V} {H : Heap} {Q : KQ} : wC Try.prog pol cl lp c13_5 env H Q = wC Try.prog pol cl lp c13_6 env H (blockK 0 Q) := wC_block (by kernel_rfl)
theorem w13_6 {pol : Nat → Pol} {cl : CallW} {lp : LoopW} {env : List V} {H : Heap} {Q : KQ} : wC Try.prog pol cl lp c13_6 env H Q = wC Try.prog pol cl lp c13_7 env H (seqK Try.prog pol cl lp c13_8 Q) := wC_seq (by kernel_rfl)
theorem w13_7 {pol : Nat → Pol} {cl : CallW} {lp : LoopW} {env : List V} {H : Heap} {Q : KQ} : wC Try.prog pol cl lp c13_7 env H Q = wOps Try.prog pol cl o13_7 d13_7_0 0 env H (Q .nrm) := wC_reg (i := 2) (by kernel_rfl) rfl
theorem w13_7_0 {pol : Nat → Pol} {cl : CallW} {t0 t1 t2 t3 t4 t5 t6 t7 t8 t9 t10 t11 t12 t13 t14 t15 t16 t17 t18 t19 t20 t21 t22 t23 t24 t25 t26 t27 t28 t29 t30 t31 t32 t33 t34 t35 t36 t37 t38 t39 t40 t41 t42 t43 t44 t45 t46 t47 t48 t49 t50 t51 : V} {H : Heap} {Q : List V → Heap → Prop} : wOps Try.prog pol cl o13_7 d13_7_0 0 [t0, t1, t2, t3, t4, t5, t6, t7, t8, t9, t10, t11, t12, t13, t14, t15, t16, t17, t18, t19, t20, t21, t22, t23, t24, t25, t26, t27, t28, t29, t30, t31, t32, t33, t34, t35, t36, t37, t38, t39, t40, t41, t42, t43, t44, t45, t46, t47, t48, t49, t50, t51] H Q = (
  stepW (liftO (evBin Try.prog 3 .eql t7 (.int .i64 0))) H fun v1 H1 =>
  Q [t0, t1, t2, t3, t4, t5, t6, t7, v1, v1, t10, t11, t12, t13, t14, t15, t16, t17, t18, t19, t20, t21, t22, t23, t24, t25, t26, t27, t28, t29, t30, t31, t32, t33, t34, t35, t36, t37, t38, t39, t40, t41, t42, t43, t44, t45, t46, t47, t48, t49, t50, t51] H1) := by kernel_rfl
theorem w13_8 {pol : Nat → Pol} {cl : CallW} {lp : LoopW} {env : List V} {H : Heap} {Q : KQ} : wC Try.prog pol cl lp c13_8 env H Q = condW (evOperand env (Operand.tmp 8)) (wC Try.prog pol cl lp c13_9 env H Q) (wC Try.prog pol cl lp c13_12 env H Q) := wC_cond (by kernel_rfl)
theorem w13_9 {pol : Nat → Pol} {cl : CallW} {lp : LoopW} {env : List V} {H : Heap} {Q : KQ} : wC Try.prog pol cl lp c13_9 env H Q = wC Try.prog pol cl lp c13_10 env H (seqK Try.prog pol cl lp c13_11 Q) := wC_seq (by kernel_rfl)
theorem w13_10 {pol : Nat → Pol} {cl : CallW} {lp : LoopW} {env : List V} {H : Heap} {Q : KQ} : wC Try.prog pol cl lp c13_10 env H Q = wOps Try.prog pol cl o13_10 d13_10_0 0 env H (Q .nrm) := wC_reg (i := 3) (by kernel_rfl) rfl
theorem w13_10_0 {pol : Nat → Pol} {cl : CallW} {t0 t1 t2 t3 t4 t5 t6 t7 t8 t9 t10 t11 t12 t13 t14 t15 t16 t17 t18 t19 t20 t21 t22 t23 t24 t25 t26 t27 t28 t29 t30 t31 t32 t33 t34 t35 t36 t37 t38 t39 t40 t41 t42 t43 t44 t45 t46 t47 t48 t49 t50 t51 : V} {H : Heap} {Q : List V → Heap → Prop} : wOps Try.prog pol cl o13_10 d13_10_0 0 [t0, t1, t2, t3, t4, t5, t6, t7, t8, t9, t10, t11, t12, t13, t14, t15, t16, t17, t18, t19, t20, t21, t22, t23, t24, t25, t26, t27, t28, t29, t30, t31, t32, t33, t34, t35, t36, t37, t38, t39, t40, t41, t42, t43, t44, t45, t46, t47, t48, t49, t50, t51] H Q = (
  stepW (evFieldAddr Try.prog 36 t3 1) H fun v1 H1 =>
  stepW (evLoad Try.prog H1 3 v1) H1 fun v2 H2 =>
  callW pol cl H2 13 27 [t0, v2] fun v3 H3 =>
  stepW (extractO v3 0) H3 fun v4 H4 =>
  stepW (extractO v3 1) H4 fun v5 H5 =>
  Q [t0, t1, t2, t3, v4, v5, t6, t7, t8, t9, t0, v1, v2, v3, v4, v5, t16, t17, t18, t19, t20, t21, t22, t23, t24, t25, t26, t27, t28, t29, t30, t31, t32, t33, t34, t35, t36, t37, t38, t39, t40, t41, t42, t43, t44, t45, t46, t47, t48, t49, t50, t51] H5) := by kernel_rfl
theorem w13_11 {pol : Nat → Pol} {cl : CallW} {lp : LoopW} {env : List V} {H : Heap} {Q : KQ} : wC Try.prog pol cl lp c13_11 env H Q = Q .ret env H := wC_ret (by kernel_rfl)
theorem w13_12 {pol : Nat → Pol} {cl : CallW} {lp : LoopW} {env : List V} {H : Heap} {Q : KQ} : wC Try.prog pol cl lp c13_12 env H Q = wC Try.prog pol cl lp c13_13 env H (seqK Try.prog pol cl lp c13_14 Q) := wC_seq (by kernel_rfl)
theorem w13_13 {pol : Nat → Pol} {cl : CallW} {lp : LoopW} {env : List V} {H : Heap} {Q : KQ} : wC Try.prog pol cl lp c13_13 env H Q = wOps Try.prog pol cl o13_13 d13_13_0 0 env H (Q .nrm) := wC_reg (i := 4) (by kernel_rfl) rfl
theorem w13_13_0 {pol : Nat → Pol} {cl : CallW} {t0 t1 t2 t3 t4 t5 t6 t7 t8 t9 t10 t11 t12 t13 t14 t15 t16 t17 t18 t19 t20 t21 t22 t23 t24 t25 t26 t27 t28 t29 t30 t31 t32 t33 t34 t35 t36 t37 t38 t39 t40 t41 t42 t43 t44 t45 t46 t47 t48 t49 t50 t51 : V} {H : Heap} {Q : List V → Heap → Prop} : wOps Try.prog pol cl o13_13 d13_13_0 0 [t0, t1, t2, t3, t4, t5, t6, t7, t8, t9, t10, t11, t12, t13, t14, t15, t16, t17, t18, t19, t20, t21, t22, t23, t24, t25, t26, t27, t28, t29, t30, t31, t32, t33, t34, t35, t36, t37, t38, t39, t40, t41, t42, t43, t44, t45, t46, t47, t48, t49, t50, t51] H Q = (
  stepW (liftO (evBin Try.prog 3 .eql t7 (.int .i64 1))) H fun v1 H1 =>
  Q [t0, t1, t2, t3, t4, t5, t6, t7, t8, t9, t10, t11, t12, t13, t14, t15, v1, v1, t18, t19, t20, t21, t22, t23, t24, t25, t26, t27, t28, t29, t30, t31, t32, t33, t34, t35, t36, t37, t38, t39, t40, t41, t42, t43, t44, t45, t46, t47, t48, t49, t50, t51] H1) := by kernel_rfl
theorem w13_14 {pol : Nat → Pol} {cl : CallW} {lp : LoopW} {env : List V} {H : Heap} {Q : KQ} : wC Try.prog pol cl lp c13_14 env H Q = condW (evOperand env (Operand.tmp 16)) (wC Try.prog pol cl lp c13_15 env H Q) (wC Try.prog pol cl lp c13_18 env H Q) := wC_cond (by kernel_rfl)
theorem w13_15 {pol : Nat → Pol} {cl : CallW} {lp : LoopW} {env : List V} {H : Heap} {Q : KQ} : wC Try.prog pol cl lp c13_15 env H Q = wC Try.prog pol cl lp c13_16 env H (seqK Try.prog pol cl lp c13_17 Q) := wC_seq (by kernel_rfl)
theorem w13_16 {pol : Nat → Pol} {cl : CallW} {lp : LoopW} {env : List V} {H : Heap} {Q : KQ} : wC Try.prog pol cl lp c13_16 env H Q = wOps Try.prog pol cl o13_16 d13_16_0 0 env H (Q .nrm) := wC_reg (i := 5) (by kernel_rfl) rfl
theorem w13_16_0 {pol : Nat → Pol} {cl : CallW} {t0 t1 t2 t3 t4 t5 t6 t7 t8 t9 t10 t11 t12 t13 t14 t15 t16 t17 t18 t19 t20 t21 t22 t23 t24 t25 t26 t27 t28 t29 t30 t31 t32 t33 t34 t35 t36 t37 t38 t39 t40 t41 t42 t43 t44 t45 t46 t47 t48 t49 t50 t51 : V} {H : Heap} {Q : List V → Heap → Prop} : wOps Try.prog pol cl o13_16 d13_16_0 0 [t0, t1, t2, t3, t4, t5, t6, t7, t8, t9, t10, t11, t12, t13, t14, t15, t16, t17, t18, t19, t20, t21, t22, t23, t24, t25, t26, t27, t28, t29, t30, t31, t32, t33, t34, t35, t36, t37, t38, t39, t40, t41, t42, t43, t44, t45, t46, t47, t48, t49, t50, t51] H Q = (
  stepW (evFieldAddr Try.prog 36 t3 1) H fun v1 H1 =>
  stepW (evLoad Try.prog H1 3 v1) H1 fun v2 H2 =>
  stepW (evFieldAddr Try.prog 36 t3 3) H2 fun v3 H3 =>
  stepW (evLoad Try.prog H3 34 v3) H3 fun v4 H4 =>
  callW pol cl H4 23 28 [t0, v2, v4] fun v5 H5 =>
  Q [t0, t1, t2, t3, (ofVal ((Value.string { data := #[] }))), v5, t6, t7, t8, t9, t10, t11, t12, t13, t14, t15, t16, t17, t0, v1, v2, v3, v4, v5, t24, t25, t26, t27, t28, t29, t30, t31, t32, t33, t34, t35, t36, t37, t38, t39, t40, t41, t42, t43, t44, t45, t46, t47, t48, t49, t50, t51] H5) := by kernel_rfl
theorem w13_17 {pol : Nat → Pol} {cl : CallW} {lp : LoopW} {env : List V} {H : Heap} {Q : KQ} : wC Try.prog pol cl lp c13_17 env H Q = Q .ret env H := wC_ret (by kernel_rfl)
theorem w13_18 {pol : Nat → Pol} {cl : CallW} {lp : LoopW} {env : List V} {H : Heap} {Q : KQ} : wC Try.prog pol cl lp c13_18 env H Q = wC Try.prog pol cl lp c13_19 env H (seqK Try.prog pol cl lp c13_20 Q) := wC_seq (by kernel_rfl)
theorem w13_19 {pol : Nat → Pol} {cl : CallW} {lp : LoopW} {env : List V} {H : Heap} {Q : KQ} : wC Try.prog pol cl lp c13_19 env H Q = wOps Try.prog pol cl o13_19 d13_19_0 0 env H (Q .nrm) := wC_reg (i := 6) (by kernel_rfl) rfl
theorem w13_19_0 {pol : Nat → Pol} {cl : CallW} {t0 t1 t2 t3 t4 t5 t6 t7 t8 t9 t10 t11 t12 t13 t14 t15 t16 t17 t18 t19 t20 t21 t22 t23 t24 t25 t26 t27 t28 t29 t30 t31 t32 t33 t34 t35 t36 t37 t38 t39 t40 t41 t42 t43 t44 t45 t46 t47 t48 t49 t50 t51 : V} {H : Heap} {Q : List V → Heap → Prop} : wOps Try.prog pol cl o13_19 d13_19_0 0 [t0, t1, t2, t3, t4, t5, t6, t7, t8, t9, t10, t11, t12, t13, t14, t15, t16, t17, t18, t19, t20, t21, t22, t23, t24, t25, t26, t27, t28, t29, t30, t31, t32, t33, t34, t35, t36, t37, t38, t39, t40, t41, t42, t43, t44, t45, t46, t47, t48, t49, t50, t51] H Q = (
  stepW (liftO (evBin Try.prog 3 .eql t7 (.int .i64 2))) H fun v1 H1 =>
  Q [t0, t1, t2, t3, t4, t5, t6, t7, t8, t9, t10, t11, t12, t13, t14, t15, t16, t17, t18, t19, t20, t21, t22, t23, v1, v1, t26, t27, t28, t29, t30, t31, t32, t33, t34, t35, t36, t37, t38, t39, t40, t41, t42, t43, t44, t45, t46, t47, t48, t49, t50, t51] H1) := by kernel_rfl
theorem w13_20 {pol : Nat → Pol} {cl : CallW} {lp : LoopW} {env : List V} {H : Heap} {Q : KQ} : wC Try.prog pol cl lp c13_20 env H Q = condW (evOperand env (Operand.tmp 24)) (wC Try.prog pol cl lp c13_21 env H Q) (wC Try.prog pol cl lp c13_24 env H Q) := wC_cond (by kernel_rfl)
theorem w13_21 {pol : Nat → Pol} {cl : CallW} {lp : LoopW} {env : List V} {H : Heap} {Q : KQ} : wC Try.prog pol cl lp c13_21 env H Q = wC Try.prog pol cl lp c13_22 env H (seqK Try.prog pol cl lp c13_23 Q) := wC_seq (by kernel_rfl)
theorem w13_22 {pol : Nat → Pol} {cl : CallW} {lp : LoopW} {env : List V} {H : Heap} {Q : KQ} : wC Try.prog pol cl lp c13_22 env H Q = wOps Try.prog pol cl o13_22 d13_22_0 0 env H (Q .nrm) := wC_reg (i := 7) (by kernel_rfl) rfl
theorem w13_22_0 {pol : Nat → Pol} {cl : CallW} {t0 t1 t2 t3 t4 t5 t6 t7 t8 t9 t10 t11 t12 t13 t14 t15 t16 t17 t18 t19 t20 t21 t22 t23 t24 t25 t26 t27 t28 t29 t30 t31 t32 t33 t34 t35 t36 t37 t38 t39 t40 t41 t42 t43 t44 t45 t46 t47 t48 t49 t50 t51 : V} {H : Heap} {Q : List V → Heap → Prop} : wOps Try.prog pol cl o13_22 d13_22_0 0 [t0, t1, t2, t3, t4, t5, t6, t7, t8, t9, t10, t11, t12, t13, t14, t15, t16, t17, t18, t19, t20, t21, t22, t23, t24, t25, t26, t27, t28, t29, t30, t31, t32, t33, t34, t35, t36, t37, t38, t39, t40, t41, t42, t43, t44, t45, t46, t47, t48, t49, t50, t51] H Q = (
  callW pol cl H 27 29 [t0] fun v1 H1 =>
  Q [t0, t1, t2, t3, (ofVal ((Value.string { data := #[] }))), v1, t6, t7, t8, t9, t10, t11, t12, t13, t14, t15, t16, t17, t18, t19, t20, t21, t22, t23, t24, t25, t0, v1, t28, t29, t30, t31, t32, t33, t34, t35, t36, t37, t38, t39, t40, t41, t42, t43, t44, t45, t46, t47, t48, t49, t50, t51] H1) := by kernel_rfl
theorem w13_23 {pol : Nat → Pol} {cl : CallW} {lp : LoopW} {env : List V} {H : Heap} {Q : KQ} : wC Try.prog pol cl lp c13_23 env H Q = Q .ret env H := wC_ret (by kernel_rfl)
theorem w13_24 {pol : Nat → Pol} {cl : CallW} {lp : LoopW} {env : List V} {H : Heap} {Q : KQ} : wC Try.prog pol cl lp c13_24 env H Q = wC Try.prog pol cl lp c13_25 env H (seqK Try.prog pol cl lp c13_26 Q) := wC_seq (by kernel_rfl)
theorem w13_25 {pol : Nat → Pol} {cl : CallW} {lp : LoopW} {env : List V} {H : Heap} {Q : KQ} : wC Try.prog pol cl lp c13_25 env H Q = wOps Try.prog pol cl o13_25 d13_25_0 0 env H (Q .nrm) := wC_reg (i := 8) (by kernel_rfl) rfl
theorem w13_25_0 {pol : Nat → Pol} {cl : CallW} {t0 t1 t2 t3 t4 t5 t6 t7 t8 t9 t10 t11 t12 t13 t14 t15 t16 t17 t18 t19 t20 t21 t22 t23 t24 t25 t26 t27 t28 t29 t30 t31 t32 t33 t34 t35 t36 t37 t38 t39 t40 t41 t42 t43 t44 t45 t46 t47 t48 t49 t50 t51 : V} {H : Heap} {Q : List V → Heap → Prop} : wOps Try.prog pol cl o13_25 d13_25_0 0 [t0, t1, t2, t3, t4, t5, t6, t7, t8, t9, t10, t11, t12, t13, t14, t15, t16, t17, t18, t19, t20, t21, t22, t23, t24, t25, t26, t27, t28, t29, t30, t31, t32, t33, t34, t35, t36, t37, t38, t39, t40, t41, t42, t43, t44, t45, t46, t47, t48, t49, t50, t51] H Q = (
  stepW (liftO (evBin Try.prog 3 .eql t7 (.int .i64 3))) H fun v1 H1 =>
  Q [t0, t1, t2, t3, t4, t5, t6, t7, t8, t9, t10, t11, t12, t13, t14, t15, t16, t17, t18, t19, t20, t21, t22, t23, t24, t25, t26, t27, v1, v1, t30, t31, t32, t33, t34, t35, t36, t37, t38, t39, t40, t41, t42, t43, t44, t45, t46, t47, t48, t49, t50, t51] H1) := by kernel_rfl
theorem w13_26 {pol : Nat → Pol} {cl : CallW} {lp : LoopW} {env : List V} {H : Heap} {Q : KQ} : wC Try.prog pol cl lp c13_26 env H Q = condW (evOperand env (Operand.tmp 28)) (wC Try.prog pol cl lp c13_27 env H Q) (wC Try.prog pol cl lp c13_28 env H Q) := wC_cond (by kernel_rfl)
theorem w13_27 {pol : Nat → Pol} {cl : CallW} {lp : LoopW} {env : List V} {H : Heap} {Q : KQ} : wC Try.prog pol cl lp c13_27 env H Q = wOps Try.prog pol cl o13_27 d13_27_0 0 env H (Q .nrm) := wC_reg (i := 9) (by kernel_rfl) rfl
theorem w13_27_0 {pol : Nat → Pol} {cl : CallW} {t0 t1 t2 t3 t4 t5 t6 t7 t8 t9 t10 t11 t12 t13 t14 t15 t16 t17 t18 t19 t20 t21 t22 t23 t24 t25 t26 t27 t28 t29 t30 t31 t32 t33 t34 t35 t36 t37 t38 t39 t40 t41 t42 t43 t44 t45 t46 t47 t48 t49 t50 t51 : V} {H : Heap} {Q : List V → Heap → Prop} : wOps Try.prog pol cl o13_27 d13_27_0 0 [t0, t1, t2, t3, t4, t5, t6, t7, t8, t9, t10, t11, t12, t13, t14, t15, t16, t17, t18, t19, t20, t21, t22, t23, t24, t25, t26, t27, t28, t29, t30, t31, t32, t33, t34, t35, t36, t37, t38, t39, t40, t41, t42, t43, t44, t45, t46, t47, t48, t49, t50, t51] H Q = (
  stepW (evFieldAddr Try.prog 36 t3 1) H fun v1 H1 =>
  stepW (evLoad Try.prog H1 3 v1) H1 fun v2 H2 =>
  stepW (liftO (foldO max2 v2 [(.int .i64 (-1))])) H2 fun v3 H3 =>
  stepW (nilO t0) H3 fun v4 H4 =>
  stepW (evFieldAddr Try.prog 41 v4 2) H4 fun v5 H5 =>
  stepW (evStore Try.prog H5 3 v5 v3) H5 fun v6 H6 =>
  Q [t0, t1, t2, t3, t4, t5, t6, t7, t8, t9, t10, t11, t12, t13, t14, t15, t16, t17, t18, t19, t20, t21, t22, t23, t24, t25, t26, t27, t28, t29, t0, v1, v2, v3, v4, v5, t36, t37, t38, t39, t40, t41, t42, t43, t44, t45, t46, t47, t48, t49, t50, t51] H6) := by kernel_rfl
theorem w13_28 {pol : Nat → Pol} {cl : CallW} {lp : LoopW} {env : List V} {H : Heap} {Q : KQ} : wC Try.prog pol cl lp c13_28 env H Q = wC Try.prog pol cl lp c13_29 env H (seqK Try.prog pol cl lp c13_30 Q) := wC_seq (by kernel_rfl)
theorem w13_29 {pol : Nat → Pol} {cl : CallW} {lp : LoopW} {env : List V} {H : Heap} {Q : KQ} : wC Try.prog pol cl lp c13_29 env H Q = wOps Try.prog pol cl o13_29 d13_29_0 0 env H (Q .nrm) := wC_reg (i := 10) (by kernel_rfl) rfl
theorem w13_29_0 {pol : Nat → Pol} {cl : CallW} {t0 t1 t2 t3 t4 t5 t6 t7 t8 t9 t10 t11 t12 t13 t14 t15 t16 t17 t18 t19 t20 t21 t22 t23 t24 t25 t26 t27 t28 t29 t30 t31 t32 t33 t34 t35 t36 t37 t38 t39 t40 t41 t42 t43 t44 t45 t46 t47 t48 t49 t50 t51 : V} {H : Heap} {Q : List V → Heap → Prop} : wOps Try.prog pol cl o13_29 d13_29_0 0 [t0, t1, t2, t3, t4, t5, t6, t7, t8, t9, t10, t11, t12, t13, t14, t15, t16, t17, t18, t19, t20, t21, t22, t23, t24, t25, t26, t27, t28, t29, t30, t31, t32, t33, t34, t35, t36, t37, t38, t39, t40, t41, t42, t43, t44, t45, t46, t47, t48, t49, t50, t51] H Q = (
  stepW (liftO (evBin Try.prog 3 .eql t7 (.int .i64 4))) H fun v1 H1 =>
  Q [t0, t1, t2, t3, t4, t5, t6, t7, t8, t9, t10, t11, t12, t13, t14, t15, t16, t17, t18, t19, t20, t21, t22, t23, t24, t25, t26, t27, t28, t29, t30, t31, t32, t33, t34, t35, v1, v1, t38, t39, t40, t41, t42, t43, t44, t45, t46, t47, t48, t49, t50, t51] H1) := by kernel_rfl
theorem w13_30 {pol : Nat → Pol} {cl : CallW} {lp : LoopW} {env : List V} {H : Heap} {Q : KQ} : wC Try.prog pol cl lp c13_30 env H Q = condW (evOperand env (Operand.tmp 36)) (wC Try.prog pol cl lp c13_31 env H Q) (wC Try.prog pol cl lp c13_32 env H Q) := wC_cond (by kernel_rfl)
theorem w13_31 {pol : Nat → Pol} {cl : CallW} {lp : LoopW} {env : List V} {H : Heap} {Q : KQ} : wC Try.prog pol cl lp c13_31 env H Q = wOps Try.prog pol cl o13_31 d13_31_0 0 env H (Q .nrm) := wC_reg (i := 11) (by kernel_rfl) rfl
theorem w13_31_0 {pol : Nat → Pol} {cl : CallW} {t0 t1 t2 t3 t4 t5 t6 t7 t8 t9 t10 t11 t12 t13 t14 t15 t16 t17 t18 t19 t20 t21 t22 t23 t24 t25 t26 t27 t28 t29 t30 t31 t32 t33 t34 t35 t36 t37 t38 t39 t40 t41 t42 t43 t44 t45 t46 t47 t48 t49 t50 t51 : V} {H : Heap} {Q : List V → Heap → Prop} : wOps Try.prog pol cl o13_31 d13_31_0 0 [t0, t1, t2, t3, t4, t5, t6, t7, t8, t9, t10, t11, t12, t13, t14, t15, t16, t17, t18, t19, t20, t21, t22, t23, t24, t25, t26, t27, t28, t29, t30, t31, t32, t33, t34, t35, t36, t37, t38, t39, t40, t41, t42, t43, t44, t45, t46, t47, t48, t49, t50, t51] H Q = (
  stepW (evFieldAddr Try.prog 36 t3 1) H fun v1 H1 =>
  stepW (evLoad Try.prog H1 3 v1) H1 fun v2 H2 =>
  stepW (liftO (foldO max2 v2 [(.int .i64 (-1))])) H2 fun v3 H3 =>
  stepW (nilO t0) H3 fun v4 H4 =>
  stepW (evFieldAddr Try.prog 41 v4 3) H4 fun v5 H5 =>
  stepW (evStore Try.prog H5 3 v5 v3) H5 fun v6 H6 =>
  Q [t0, t1, t2, t3, t4, t5, t6, t7, t8, t9, t10, t11, t12, t13, t14, t15, t16, t17, t18, t19, t20, t21, t22, t23, t24, t25, t26, t27, t28, t29, t30, t31, t32, t33, t34, t35, t36, t37, t0, v1, v2, v3, v4, v5, t44, t45, t46, t47, t48, t49, t50, t51] H6) := by kernel_rfl
theorem w13_32 {pol : Nat → Pol} {cl : CallW} {lp : LoopW} {env : List V} {H : Heap} {Q : KQ} : wC Try.prog pol cl lp c13_32 env H Q = wC Try.prog pol cl lp c13_33 env H (seqK Try.prog pol cl lp c13_34 Q) := wC_seq (by kernel_rfl)
theorem w13_33 {pol : Nat → Pol} {cl : CallW} {lp : LoopW} {env : List V} {H : Heap} {Q : KQ} : wC Try.prog pol cl lp c13_33 env H Q = wOps Try.prog pol cl o13_33 d13_33_0 0 env H (Q .nrm) := wC_reg (i := 12) (by kernel_rfl) rfl
theorem w13_33_0 {pol : Nat → Pol} {cl : CallW} {t0 t1 t2 t3 t4 t5 t6 t7 t8 t9 t10 t11 t12 t13 t14 t15 t16 t17 t18 t19 t20 t21 t22 t23 t24 t25 t26 t27 t28 t29 t30 t31 t32 t33 t34 t35 t36 t37 t38 t39 t40 t41 t42 t43 t44 t45 t46 t47 t48 t49 t50 t51 : V} {H : Heap} {Q : List V → Heap → Prop} : wOps Try.prog pol cl o13_33 d13_33_0 0 [t0, t1, t2, t3, t4, t5, t6, t7, t8, t9, t10, t11, t12, t13, t14, t15, t16, t17, t18, t19, t20, t21, t22, t23, t24, t25, t26, t27, t28, t29, t30, t31, t32, t33, t34, t35, t36, t37, t38, t39, t40, t41, t42, t43, t44, t45, t46, t47, t48, t49, t50, t51] H Q = (
  stepW (liftO (evBin Try.prog 3 .eql t7 (.int .i64 5))) H fun v1 H1 =>
  Q [t0, t1, t2, t3, t4, t5, t6, t7, t8, t9, t10, t11, t12, t13, t14, t15, t16, t17, t18, t19, t20, t21, t22, t23, t24, t25, t26, t27, t28, t29, t30, t31, t32, t33, t34, t35, t36, t37, t38, t39, t40, t41, t42, t43, v1, v1, t46, t47, t48, t49, t50, t51] H1) := by kernel_rfl
theorem w13_34 {pol : Nat → Pol} {cl : CallW} {lp : LoopW} {env : List V} {H : Heap} {Q : KQ} : wC Try.prog pol cl lp c13_34 env H Q = condW (evOperand env (Operand.tmp 44)) (wC Try.prog pol cl lp c13_35 env H Q) (wC Try.prog pol cl lp c13_36 env H Q) := wC_cond (by kernel_rfl)
theorem w13_35 {pol : Nat → Pol} {cl : CallW} {lp : LoopW} {env : List V} {H : Heap} {Q : KQ} : wC Try.prog pol cl lp c13_35 env H Q = wOps Try.prog pol cl o13_35 d13_35_0 0 env H (Q .nrm) := wC_reg (i := 13) (by kernel_rfl) rfl
theorem w13_35_0 {pol : Nat → Pol} {cl : CallW} {t0 t1 t2 t3 t4 t5 t6 t7 t8 t9 t10 t11 t12 t13 t14 t15 t16 t17 t18 t19 t20 t21 t22 t23 t24 t25 t26 t27 t28 t29 t30 t31 t32 t33 t34 t35 t36 t37 t38 t39 t40 t41 t42 t43 t44 t45 t46 t47 t48 t49 t50 t51 : V} {H : Heap} {Q : List V → Heap → Prop} : wOps Try.prog pol cl o13_35 d13_35_0 0 [t0, t1, t2, t3, t4, t5, t6, t7, t8, t9, t10, t11, t12, t13, t14, t15, t16, t17, t18, t19, t20, t21, t22, t23, t24, t25, t26, t27, t28, t29, t30, t31, t32, t33, t34, t35, t36, t37, t38, t39, t40, t41, t42, t43, t44, t45, t46, t47, t48, t49, t50, t51] H Q = (
  stepW (evFieldAddr Try.prog 36 t3 1) H fun v1 H1 =>
  stepW (evLoad Try.prog H1 3 v1) H1 fun v2 H2 =>
  stepW (evFieldAddr Try.prog 36 t3 2) H2 fun v3 H3 =>
  stepW (evLoad Try.prog H3 3 v3) H3 fun v4 H4 =>
  callW pol cl H4 51 30 [t0, v2, v4] fun v5 H5 =>
  Q [t0, t1, t2, t3, t4, t5, t6, t7, t8, t9, t10, t11, t12, t13, t14, t15, t16, t17, t18, t19, t20, t21, t22, t23, t24, t25, t26, t27, t28, t29, t30, t31, t32, t33, t34, t35, t36, t37, t38, t39, t40, t41, t42, t43, t44, t45, t0, v1, v2, v3, v4, v5] H5) := by kernel_rfl
theorem w13_36 {pol : Nat → Pol} {cl : CallW} {lp : LoopW} {env : List V} {H : Heap} {Q : KQ} : wC Try.prog pol cl lp c13_36 env H Q = Q .nrm env H := wC_skip (by kernel_rfl)
theorem w13_37 {pol : Nat → Pol} {cl : CallW} {lp : LoopW} {env : List V} {H : Heap} {Q : KQ} : wC Try.prog pol cl lp c13_37 env H Q = wC Try.prog pol cl lp c13_38 env H (seqK Try.prog pol cl lp c13_39 Q) := wC_seq (by kernel_rfl)
theorem w13_38 {pol : Nat → Pol} {cl : CallW} {lp : LoopW} {env : List V} {H : Heap} {Q : KQ} : wC Try.prog pol cl lp c13_38 env H Q = wOps Try.prog pol cl o13_38 d13_38_0 0 env H (Q .nrm) := wC_reg (i := 14) (by kernel_rfl) rfl
theorem w13_38_0 {pol : Nat → Pol} {cl : CallW} {t0 t1 t2 t3 t4 t5 t6 t7 t8 t9 t10 t11 t12 t13 t14 t15 t16 t17 t18 t19 t20 t21 t22 t23 t24 t25 t26 t27 t28 t29 t30 t31 t32 t33 t34 t35 t36 t37 t38 t39 t40 t41 t42 t43 t44 t45 t46 t47 t48 t49 t50 t51 : V} {H : Heap} {Q : List V → Heap → Prop} : wOps Try.prog pol cl o13_38 d13_38_0 0 [t0, t1, t2, t3, t4, t5, t6, t7, t8, t9, t10, t11, t12, t13, t14, t15, t16, t17, t18, t19, t20, t21, t22, t23, t24, t25, t26, t27, t28, t29, t30, t31, t32, t33, t34, t35, t36, t37, t38, t39, t40, t41, t42, t43, t44, t45, t46, t47, t48, t49, t50, t51] H Q = (
  Q [t0, t1, t2, t3, (ofVal ((Value.string { data := #[] }))), (.int .i64 0), t6, t7, t8, t9, t10, t11, t12, t13, t14, t15, t16, t17, t18, t19, t20, t21, t22, t23, t24, t25, t26, t27, t28, t29, t30, t31, t32, t33, t34, t35, t36, t37, t38, t39, t40, t41, t42, t43, t44, t45, t46, t47, t48, t49, t50, t51] H) := by kernel_rfl
theorem w13_39 {pol : Nat → Pol} {cl : CallW} {lp : LoopW} {env : List V} {H : Heap} {Q : KQ} : wC Try.prog pol cl lp c13_39 env H Q = Q .ret env H := wC_ret (by kernel_rfl)
end Go.Proofs.Ytcamcfplcoklkaa.Iv
