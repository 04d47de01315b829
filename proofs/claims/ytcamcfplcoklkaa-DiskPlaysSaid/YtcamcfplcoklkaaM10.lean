import Derived.Test.YtcamcfplcoklkaaM9
namespace Go.Proofs.Ytcamcfplcoklkaa.Iv
open Go
set_option linter.unusedVariables false
-- (*incipit/disk.Disk).Write
noncomputable def c20_0 : Code := cAt [] (bodyOf Try.f20)
noncomputable def c20_1 : Code := cAt [0] (bodyOf Try.f20)
noncomputable def o20_1 : Array Oper := opsOf c20_1
noncomputable def d20_1_0 : List Oper := o20_1.toList
noncomputable def c20_2 : Code := cAt [1] (bodyOf Try.f20)
noncomputable def c20_3 : Code := cAt [1, 0] (bodyOf Try.f20)
noncomputable def c20_4 : Code := cAt [1, 0, 0] (bodyOf Try.f20)
noncomputable def c20_5 : Code := cAt [1, 0, 0, 0] (bodyOf Try.f20)
noncomputable def o20_5 : Array Oper := opsOf c20_5
noncomputable def d20_5_0 : List Oper := o20_5.toList
noncomputable def c20_6 : Code := cAt [1, 0, 0, 1] (bodyOf Try.f20)
noncomputable def c20_7 : Code := cAt [1, 0, 0, 1, 0] (bodyOf Try.f20)
noncomputable def c20_8 : Code := cAt [1, 0, 0, 1, 0, 0] (bodyOf Try.f20)
noncomputable def o20_8 : Array Oper := opsOf c20_8
noncomputable def d20_8_0 : List Oper := o20_8.toList
noncomputable def c20_9 : Code := cAt [1, 0, 0, 1, 0, 1] (bodyOf Try.f20)
noncomputable def c20_10 : Code := cAt [1, 0, 0, 1, 1] (bodyOf Try.f20)
noncomputable def c20_11 : Code := cAt [1, 0, 0, 1, 1, 0] (bodyOf Try.f20)
noncomputable def o20_11 : Array Oper := opsOf c20_11
noncomputable def d20_11_0 : List Oper := o20_11.toList
noncomputable def c20_12 : Code := cAt [1, 0, 0, 1, 1, 1] (bodyOf Try.f20)
noncomputable def c20_13 : Code := cAt [1, 0, 0, 1, 1, 1, 0] (bodyOf Try.f20)
noncomputable def c20_14 : Code := cAt [1, 0, 0, 1, 1, 1, 0, 0] (bodyOf Try.f20)
noncomputable def o20_14 : Array Oper := opsOf c20_14
noncomputable def d20_14_0 : List Oper := o20_14.toList
noncomputable def c20_15 : Code := cAt [1, 0, 0, 1, 1, 1, 0, 1] (bodyOf Try.f20)
noncomputable def c20_16 : Code := cAt [1, 0, 0, 1, 1, 1, 1] (bodyOf Try.f20)
noncomputable def c20_17 : Code := cAt [1, 0, 0, 1, 1, 1, 1, 0] (bodyOf Try.f20)
noncomputable def o20_17 : Array Oper := opsOf c20_17
noncomputable def d20_17_0 : List Oper := o20_17.toList
noncomputable def p20_17_0 : List Oper := d20_17_0.take 12
noncomputable def d20_17_12 : List Oper := d20_17_0.drop 12
noncomputable def c20_18 : Code := cAt [1, 0, 0, 1, 1, 1, 1, 1] (bodyOf Try.f20)
noncomputable def c20_19 : Code := cAt [1, 0, 0, 1, 1, 1, 1, 1, 0] (bodyOf Try.f20)
noncomputable def c20_20 : Code := cAt [1, 0, 0, 1, 1, 1, 1, 1, 0, 0] (bodyOf Try.f20)
noncomputable def o20_20 : Array Oper := opsOf c20_20
noncomputable def d20_20_0 : List Oper := o20_20.toList
noncomputable def c20_21 : Code := cAt [1, 0, 0, 1, 1, 1, 1, 1, 0, 1] (bodyOf Try.f20)
noncomputable def c20_22 : Code := cAt [1, 0, 0, 1, 1, 1, 1, 1, 1] (bodyOf Try.f20)
noncomputable def c20_23 : Code := cAt [1, 1] (bodyOf Try.f20)
noncomputable def c20_24 : Code := cAt [1, 1, 0] (bodyOf Try.f20)
noncomputable def o20_24 : Array Oper := opsOf c20_24
noncomputable def d20_24_0 : List Oper := o20_24.toList
noncomputable def p20_24_0 : List Oper := d20_24_0.take 12
noncomputable def d20_24_12 : List Oper := d20_24_0.drop 12
noncomputable def c20_25 : Code := cAt [1, 1, 1] (bodyOf Try.f20)
noncomputable def c20_26 : Code := cAt [1, 1, 1, 0] (bodyOf Try.f20)
noncomputable def o20_26 : Array Oper := opsOf c20_26
noncomputable def d20_26_0 : List Oper := o20_26.toList
noncomputable def c20_27 : Code := cAt [1, 1, 1, 1] (bodyOf Try.f20)
theorem w20_0 {pol : Nat → Pol} {cl : CallW} {lp : LoopW} {env : List V} {H : Heap} {Q : KQ} : wC Try.prog pol cl lp c20_0 env H Q = wC Try.prog pol cl lp c20_1 env H (seqK Try.prog pol cl lp c20_2 Q) := wC_seq (by kernel_rfl)
theorem w20_1 {pol : Nat → Pol} {cl : CallW} {lp : LoopW} {env : List V} {H : Heap} {Q : KQ} : wC Try.prog pol cl lp c20_1 env H Q = wOps Try.prog pol cl o20_1 d20_1_0 0 env H (Q .nrm) := wC_reg (i := 0) (by kernel_rfl) rfl
theorem w20_1_0 {pol : Nat → Pol} {cl : CallW} {t0 t1 t2 t3 t4 t5 t6 t7 t8 t9 t10 t11 t12 t13 t14 t15 t16 t17 t18 t19 t20 t21 t22 t23 t24 t25 t26 t27 t28 t29 t30 t31 t32 t33 t34 t35 t36 t37 t38 t39 t40 t41 t42 t43 t44 t45 t46 t47 t48 t49 t50 t51 : V} {H : Heap} {Q : List V → Heap → Prop} : wOps Try.prog pol cl o20_1 d20_1_0 0 [t0, t1, t2, t3, t4, t5, t6, t7, t8, t9, t10, t11, t12, t13, t14, t15, t16, t17, t18, t19, t20, t21, t22, t23, t24, t25, t26, t27, t28, t29, t30, t31, t32, t33, t34, t35, t36, t37, t38, t39, t40, t41, t42, t43, t44, t45, t46, t47, t48, t49, t50, t51] H Q = (
  Q [t0, t1, t2, t3, t4, t5, (.int .i64 0), t7, t8, t9, t10, t11, t12, t13, t14, t15, t16, t17, t18, t19, t20, t21, t22, t23, t24, t25, t26, t27, t28, t29, t30, t31, t32, t33, t34, t35, t36, t37, t38, t39, t40, t41, t42, t43, t44, t45, t46, t47, t48, t49, t50, t51] H) := by kernel_rfl
theorem w20_2 {pol : Nat → Pol} {cl : CallW} {lp : LoopW} {env : List V} {H : Heap} {Q : KQ} : wC Try.prog pol cl lp c20_2 env H Q = wC Try.prog pol cl lp c20_3 env H (seqK Try.prog pol cl lp c20_23 Q) := wC_seq (by kernel_rfl)
theorem w20_3 {pol : Nat → Pol} {cl : CallW} {lp : LoopW} {env : List V} {H : Heap} {Q : KQ} : wC Try.prog pol cl lp c20_3 env H Q = wC Try.prog pol cl lp c20_4 env H (blockK 0 Q) := wC_block (by kernel_rfl)
theorem w20_4 {pol : Nat → Pol} {cl : CallW} {lp : LoopW} {env : List V} {H : Heap} {Q : KQ} : wC Try.prog pol cl lp c20_4 env H Q = wC Try.prog pol cl lp c20_5 env H (seqK Try.prog pol cl lp c20_6 Q) := wC_seq (by kernel_rfl)
theorem w20_5 {pol : Nat → Pol} {cl : CallW} {lp : LoopW} {env : List V} {H : Heap} {Q : KQ} : wC Try.prog pol cl lp c20_5 env H Q = wOps Try.prog pol cl o20_5 d20_5_0 0 env H (Q .nrm) := wC_reg (i := 1) (by kernel_rfl) rfl
theorem w20_5_0 {pol : Nat → Pol} {cl : CallW} {t0 t1 t2 t3 t4 t5 t6 t7 t8 t9 t10 t11 t12 t13 t14 t15 t16 t17 t18 t19 t20 t21 t22 t23 t24 t25 t26 t27 t28 t29 t30 t31 t32 t33 t34 t35 t36 t37 t38 t39 t40 t41 t42 t43 t44 t45 t46 t47 t48 t49 t50 t51 : V} {H : Heap} {Q : List V → Heap → Prop} : wOps Try.prog pol cl o20_5 d20_5_0 0 [t0, t1, t2, t3, t4, t5, t6, t7, t8, t9, t10, t11, t12, t13, t14, t15, t16, t17, t18, t19, t20, t21, t22, t23, t24, t25, t26, t27, t28, t29, t30, t31, t32, t33, t34, t35, t36, t37, t38, t39, t40, t41, t42, t43, t44, t45, t46, t47, t48, t49, t50, t51] H Q = (
  callW pol cl H 10 34 [t0, t1] fun v1 H1 =>
  stepW (liftO (evUn .not v1)) H1 fun v2 H2 =>
  guardW v2 false H2 (fun q => q ⟨t2, [], []⟩) fun v3 H3 =>
  guardW v2 false H3 (outW (evLen Try.prog 34 v3)) fun v4 H4 =>
  guardW v2 false H4 (outW (liftO (evBin Try.prog 3 .neq v4 (.int .i64 64)))) fun v5 H5 =>
  stepW (pickO v2 (.bool true) v5) H5 fun v6 H6 =>
  Q [t0, t1, t2, t3, t4, t5, t6, v6, t0, t1, v1, v2, v2, v3, v4, v5, v6, t17, t18, t19, t20, t21, t22, t23, t24, t25, t26, t27, t28, t29, t30, t31, t32, t33, t34, t35, t36, t37, t38, t39, t40, t41, t42, t43, t44, t45, t46, t47, t48, t49, t50, t51] H6) := by kernel_rfl
theorem w20_6 {pol : Nat → Pol} {cl : CallW} {lp : LoopW} {env : List V} {H : Heap} {Q : KQ} : wC Try.prog pol cl lp c20_6 env H Q = condW (evOperand env (Operand.tmp 7)) (wC Try.prog pol cl lp c20_7 env H Q) (wC Try.prog pol cl lp c20_10 env H Q) := wC_cond (by kernel_rfl)
theorem w20_7 {pol : Nat → Pol} {cl : CallW} {lp : LoopW} {env : List V} {H : Heap} {Q : KQ} : wC Try.prog pol cl lp c20_7 env H Q = wC Try.prog pol cl lp c20_8 env H (seqK Try.prog pol cl lp c20_9 Q) := wC_seq (by kernel_rfl)
theorem w20_8 {pol : Nat → Pol} {cl : CallW} {lp : LoopW} {env : List V} {H : Heap} {Q : KQ} : wC Try.prog pol cl lp c20_8 env H Q = wOps Try.prog pol cl o20_8 d20_8_0 0 env H (Q .nrm) := wC_reg (i := 2) (by kernel_rfl) rfl
theorem w20_8_0 {pol : Nat → Pol} {cl : CallW} {t0 t1 t2 t3 t4 t5 t6 t7 t8 t9 t10 t11 t12 t13 t14 t15 t16 t17 t18 t19 t20 t21 t22 t23 t24 t25 t26 t27 t28 t29 t30 t31 t32 t33 t34 t35 t36 t37 t38 t39 t40 t41 t42 t43 t44 t45 t46 t47 t48 t49 t50 t51 : V} {H : Heap} {Q : List V → Heap → Prop} : wOps Try.prog pol cl o20_8 d20_8_0 0 [t0, t1, t2, t3, t4, t5, t6, t7, t8, t9, t10, t11, t12, t13, t14, t15, t16, t17, t18, t19, t20, t21, t22, t23, t24, t25, t26, t27, t28, t29, t30, t31, t32, t33, t34, t35, t36, t37, t38, t39, t40, t41, t42, t43, t44, t45, t46, t47, t48, t49, t50, t51] H Q = (
  Q [t0, t1, t2, t3, t4, t5, (.int .i64 1), t7, t8, t9, t10, t11, t12, t13, t14, t15, t16, t17, t18, t19, t20, t21, t22, t23, t24, t25, t26, t27, t28, t29, t30, t31, t32, t33, t34, t35, t36, t37, t38, t39, t40, t41, t42, t43, t44, t45, t46, t47, t48, t49, t50, t51] H) := by kernel_rfl
theorem w20_9 {pol : Nat → Pol} {cl : CallW} {lp : LoopW} {env : List V} {H : Heap} {Q : KQ} : wC Try.prog pol cl lp c20_9 env H Q = Q .ret env H := wC_ret (by kernel_rfl)
theorem w20_10 {pol : Nat → Pol} {cl : CallW} {lp : LoopW} {env : List V} {H : Heap} {Q : KQ} : wC Try.prog pol cl lp c20_10 env H Q = wC Try.prog pol cl lp c20_11 env H (seqK Try.prog pol cl lp c20_12 Q) := wC_seq (by kernel_rfl)
theorem w20_11 {pol : Nat → Pol} {cl : CallW} {lp : LoopW} {env : List V} {H : Heap} {Q : KQ} : wC Try.prog pol cl lp c20_11 env H Q = wOps Try.prog pol cl o20_11 d20_11_0 0 env H (Q .nrm) := wC_reg (i := 3) (by kernel_rfl) rfl
theorem w20_11_0 {pol : Nat → Pol} {cl : CallW} {t0 t1 t2 t3 t4 t5 t6 t7 t8 t9 t10 t11 t12 t13 t14 t15 t16 t17 t18 t19 t20 t21 t22 t23 t24 t25 t26 t27 t28 t29 t30 t31 t32 t33 t34 t35 t36 t37 t38 t39 t40 t41 t42 t43 t44 t45 t46 t47 t48 t49 t50 t51 : V} {H : Heap} {Q : List V → Heap → Prop} : wOps Try.prog pol cl o20_11 d20_11_0 0 [t0, t1, t2, t3, t4, t5, t6, t7, t8, t9, t10, t11, t12, t13, t14, t15, t16, t17, t18, t19, t20, t21, t22, t23, t24, t25, t26, t27, t28, t29, t30, t31, t32, t33, t34, t35, t36, t37, t38, t39, t40, t41, t42, t43, t44, t45, t46, t47, t48, t49, t50, t51] H Q = (
  stepW (nilO t0) H fun v1 H1 =>
  stepW (evFieldAddr Try.prog 49 v1 0) H1 fun v2 H2 =>
  callW pol cl H2 21 32 [v2] fun v3 H3 =>
  stepW (liftO (evUn .not v3)) H3 fun v4 H4 =>
  Q [t0, t1, t2, t3, t4, t5, t6, t7, t8, t9, t10, t11, t12, t13, t14, t15, t16, v4, t0, v1, v2, v3, v4, t23, t24, t25, t26, t27, t28, t29, t30, t31, t32, t33, t34, t35, t36, t37, t38, t39, t40, t41, t42, t43, t44, t45, t46, t47, t48, t49, t50, t51] H4) := by kernel_rfl
theorem w20_12 {pol : Nat → Pol} {cl : CallW} {lp : LoopW} {env : List V} {H : Heap} {Q : KQ} : wC Try.prog pol cl lp c20_12 env H Q = condW (evOperand env (Operand.tmp 17)) (wC Try.prog pol cl lp c20_13 env H Q) (wC Try.prog pol cl lp c20_16 env H Q) := wC_cond (by kernel_rfl)
theorem w20_13 {pol : Nat → Pol} {cl : CallW} {lp : LoopW} {env : List V} {H : Heap} {Q : KQ} : wC Try.prog pol cl lp c20_13 env H Q = wC Try.prog pol cl lp c20_14 env H (seqK Try.prog pol cl lp c20_15 Q) := wC_seq (by kernel_rfl)
theorem w20_14 {pol : Nat → Pol} {cl : CallW} {lp : LoopW} {env : List V} {H : Heap} {Q : KQ} : wC Try.prog pol cl lp c20_14 env H Q = wOps Try.prog pol cl o20_14 d20_14_0 0 env H (Q .nrm) := wC_reg (i := 4) (by kernel_rfl) rfl
theorem w20_14_0 {pol : Nat → Pol} {cl : CallW} {t0 t1 t2 t3 t4 t5 t6 t7 t8 t9 t10 t11 t12 t13 t14 t15 t16 t17 t18 t19 t20 t21 t22 t23 t24 t25 t26 t27 t28 t29 t30 t31 t32 t33 t34 t35 t36 t37 t38 t39 t40 t41 t42 t43 t44 t45 t46 t47 t48 t49 t50 t51 : V} {H : Heap} {Q : List V → Heap → Prop} : wOps Try.prog pol cl o20_14 d20_14_0 0 [t0, t1, t2, t3, t4, t5, t6, t7, t8, t9, t10, t11, t12, t13, t14, t15, t16, t17, t18, t19, t20, t21, t22, t23, t24, t25, t26, t27, t28, t29, t30, t31, t32, t33, t34, t35, t36, t37, t38, t39, t40, t41, t42, t43, t44, t45, t46, t47, t48, t49, t50, t51] H Q = (
  Q [t0, t1, t2, t3, t4, t5, (.int .i64 11), t7, t8, t9, t10, t11, t12, t13, t14, t15, t16, t17, t18, t19, t20, t21, t22, t23, t24, t25, t26, t27, t28, t29, t30, t31, t32, t33, t34, t35, t36, t37, t38, t39, t40, t41, t42, t43, t44, t45, t46, t47, t48, t49, t50, t51] H) := by kernel_rfl
theorem w20_15 {pol : Nat → Pol} {cl : CallW} {lp : LoopW} {env : List V} {H : Heap} {Q : KQ} : wC Try.prog pol cl lp c20_15 env H Q = Q .ret env H := wC_ret (by kernel_rfl)
theorem w20_16 {pol : Nat → Pol} {cl : CallW} {lp : LoopW} {env : List V} {H : Heap} {Q : KQ} : wC Try.prog pol cl lp c20_16 env H Q = wC Try.prog pol cl lp c20_17 env H (seqK Try.prog pol cl lp c20_18 Q) := wC_seq (by kernel_rfl)
theorem w20_17 {pol : Nat → Pol} {cl : CallW} {lp : LoopW} {env : List V} {H : Heap} {Q : KQ} : wC Try.prog pol cl lp c20_17 env H Q = wOps Try.prog pol cl o20_17 d20_17_0 0 env H (Q .nrm) := wC_reg (i := 5) (by kernel_rfl) rfl
theorem w20_17_0c {pol : Nat → Pol} {cl : CallW} {env : List V} {H : Heap} {Q : List V → Heap → Prop} : wOps Try.prog pol cl o20_17 d20_17_0 0 env H Q = wOps Try.prog pol cl o20_17 p20_17_0 0 env H (fun env H => wOps Try.prog pol cl o20_17 d20_17_12 12 env H Q) := wOps_cut (by kernel_rfl) (by kernel_rfl)
theorem w20_17_0 {pol : Nat → Pol} {cl : CallW} {t0 t1 t2 t3 t4 t5 t6 t7 t8 t9 t10 t11 t12 t13 t14 t15 t16 t17 t18 t19 t20 t21 t22 t23 t24 t25 t26 t27 t28 t29 t30 t31 t32 t33 t34 t35 t36 t37 t38 t39 t40 t41 t42 t43 t44 t45 t46 t47 t48 t49 t50 t51 : V} {H : Heap} {Q : List V → Heap → Prop} : wOps Try.prog pol cl o20_17 p20_17_0 0 [t0, t1, t2, t3, t4, t5, t6, t7, t8, t9, t10, t11, t12, t13, t14, t15, t16, t17, t18, t19, t20, t21, t22, t23, t24, t25, t26, t27, t28, t29, t30, t31, t32, t33, t34, t35, t36, t37, t38, t39, t40, t41, t42, t43, t44, t45, t46, t47, t48, t49, t50, t51] H Q = (
  stepW (nilO t0) H fun v1 H1 =>
  stepW (evFieldAddr Try.prog 49 v1 0) H1 fun v2 H2 =>
  stepW (evFieldAddr Try.prog 46 v2 2) H2 fun v3 H3 =>
  stepW (evLoad Try.prog H3 3 v3) H3 fun v4 H4 =>
  stepW (liftO (evBin Try.prog 3 .geq v4 (.int .i64 0))) H4 fun v5 H5 =>
  guardW v5 true H5 (fun q => q ⟨t1, [], []⟩) fun v6 H6 =>
  guardW v5 true H6 (fun q => q ⟨t0, [], []⟩) fun v7 H7 =>
  guardW v5 true H7 (outW (nilO v7)) fun v8 H8 =>
  guardW v5 true H8 (outW (evFieldAddr Try.prog 49 v8 0)) fun v9 H9 =>
  guardW v5 true H9 (outW (evFieldAddr Try.prog 46 v9 2)) fun v10 H10 =>
  Q [t0, t1, t2, t3, t4, t5, t6, t7, t8, t9, t10, t11, t12, t13, t14, t15, t16, t17, t18, t19, t20, t21, t22, t23, t0, v1, v2, v3, v4, v5, v5, v6, v7, v8, v9, v10, t36, t37, t38, t39, t40, t41, t42, t43, t44, t45, t46, t47, t48, t49, t50, t51] H10) := by kernel_rfl
theorem w20_17_12 {pol : Nat → Pol} {cl : CallW} {t0 t1 t2 t3 t4 t5 t6 t7 t8 t9 t10 t11 t12 t13 t14 t15 t16 t17 t18 t19 t20 t21 t22 t23 t24 t25 t26 t27 t28 t29 t30 t31 t32 t33 t34 t35 t36 t37 t38 t39 t40 t41 t42 t43 t44 t45 t46 t47 t48 t49 t50 t51 : V} {H : Heap} {Q : List V → Heap → Prop} : wOps Try.prog pol cl o20_17 d20_17_12 12 [t0, t1, t2, t3, t4, t5, t6, t7, t8, t9, t10, t11, t12, t13, t14, t15, t16, t17, t18, t19, t20, t21, t22, t23, t24, t25, t26, t27, t28, t29, t30, t31, t32, t33, t34, t35, t36, t37, t38, t39, t40, t41, t42, t43, t44, t45, t46, t47, t48, t49, t50, t51] H Q = (
  guardW t30 true H (outW (evLoad Try.prog H 3 t35)) fun v1 H1 =>
  guardW t30 true H1 (outW (liftO (evBin Try.prog 3 .geq t31 v1))) fun v2 H2 =>
  stepW (pickO t30 v2 (.bool false)) H2 fun v3 H3 =>
  Q [t0, t1, t2, t3, t4, t5, t6, t7, t8, t9, t10, t11, t12, t13, t14, t15, t16, t17, t18, t19, t20, t21, t22, v3, t24, t25, t26, t27, t28, t29, t30, t31, t32, t33, t34, t35, v1, v2, v3, t39, t40, t41, t42, t43, t44, t45, t46, t47, t48, t49, t50, t51] H3) := by kernel_rfl
theorem w20_18 {pol : Nat → Pol} {cl : CallW} {lp : LoopW} {env : List V} {H : Heap} {Q : KQ} : wC Try.prog pol cl lp c20_18 env H Q = condW (evOperand env (Operand.tmp 23)) (wC Try.prog pol cl lp c20_19 env H Q) (wC Try.prog pol cl lp c20_22 env H Q) := wC_cond (by kernel_rfl)
theorem w20_19 {pol : Nat → Pol} {cl : CallW} {lp : LoopW} {env : List V} {H : Heap} {Q : KQ} : wC Try.prog pol cl lp c20_19 env H Q = wC Try.prog pol cl lp c20_20 env H (seqK Try.prog pol cl lp c20_21 Q) := wC_seq (by kernel_rfl)
theorem w20_20 {pol : Nat → Pol} {cl : CallW} {lp : LoopW} {env : List V} {H : Heap} {Q : KQ} : wC Try.prog pol cl lp c20_20 env H Q = wOps Try.prog pol cl o20_20 d20_20_0 0 env H (Q .nrm) := wC_reg (i := 6) (by kernel_rfl) rfl
theorem w20_20_0 {pol : Nat → Pol} {cl : CallW} {t0 t1 t2 t3 t4 t5 t6 t7 t8 t9 t10 t11 t12 t13 t14 t15 t16 t17 t18 t19 t20 t21 t22 t23 t24 t25 t26 t27 t28 t29 t30 t31 t32 t33 t34 t35 t36 t37 t38 t39 t40 t41 t42 t43 t44 t45 t46 t47 t48 t49 t50 t51 : V} {H : Heap} {Q : List V → Heap → Prop} : wOps Try.prog pol cl o20_20 d20_20_0 0 [t0, t1, t2, t3, t4, t5, t6, t7, t8, t9, t10, t11, t12, t13, t14, t15, t16, t17, t18, t19, t20, t21, t22, t23, t24, t25, t26, t27, t28, t29, t30, t31, t32, t33, t34, t35, t36, t37, t38, t39, t40, t41, t42, t43, t44, t45, t46, t47, t48, t49, t50, t51] H Q = (
  Q [t0, t1, t2, t3, t4, t5, (.int .i64 7), t7, t8, t9, t10, t11, t12, t13, t14, t15, t16, t17, t18, t19, t20, t21, t22, t23, t24, t25, t26, t27, t28, t29, t30, t31, t32, t33, t34, t35, t36, t37, t38, t39, t40, t41, t42, t43, t44, t45, t46, t47, t48, t49, t50, t51] H) := by kernel_rfl
theorem w20_21 {pol : Nat → Pol} {cl : CallW} {lp : LoopW} {env : List V} {H : Heap} {Q : KQ} : wC Try.prog pol cl lp c20_21 env H Q = Q .ret env H := wC_ret (by kernel_rfl)
theorem w20_22 {pol : Nat → Pol} {cl : CallW} {lp : LoopW} {env : List V} {H : Heap} {Q : KQ} : wC Try.prog pol cl lp c20_22 env H Q = Q .nrm env H := wC_skip (by kernel_rfl)
theorem w20_23 {pol : Nat → Pol} {cl : CallW} {lp : LoopW} {env : List V} {H : Heap} {Q : KQ} : wC Try.prog pol cl lp c20_23 env H Q = wC Try.prog pol cl lp c20_24 env H (seqK Try.prog pol cl lp c20_25 Q) := wC_seq (by kernel_rfl)
theorem w20_24 {pol : Nat → Pol} {cl : CallW} {lp : LoopW} {env : List V} {H : Heap} {Q : KQ} : wC Try.prog pol cl lp c20_24 env H Q = wOpsL Try.prog pol cl o20_24 d20_24_0 0 env H [] (fun env H lg => logOk o20_24 lg = true ∧ Q .nrm env H) := wC_regL (i := 7) (by kernel_rfl) rfl
theorem w20_24_0c {pol : Nat → Pol} {cl : CallW} {env : List V} {H : Heap} {lg : Log} {Q : List V → Heap → Log → Prop} : wOpsL Try.prog pol cl o20_24 d20_24_0 0 env H lg Q = wOpsL Try.prog pol cl o20_24 p20_24_0 0 env H lg (fun env H lg => wOpsL Try.prog pol cl o20_24 d20_24_12 12 env H lg Q) := wOpsL_cut (by kernel_rfl) (by kernel_rfl)
theorem w20_24_0 {pol : Nat → Pol} {cl : CallW} {t0 t1 t2 t3 t4 t5 t6 t7 t8 t9 t10 t11 t12 t13 t14 t15 t16 t17 t18 t19 t20 t21 t22 t23 t24 t25 t26 t27 t28 t29 t30 t31 t32 t33 t34 t35 t36 t37 t38 t39 t40 t41 t42 t43 t44 t45 t46 t47 t48 t49 t50 t51 : V} {H : Heap} {lg : Log} {Q : List V → Heap → Log → Prop} : wOpsL Try.prog pol cl o20_24 p20_24_0 0 [t0, t1, t2, t3, t4, t5, t6, t7, t8, t9, t10, t11, t12, t13, t14, t15, t16, t17, t18, t19, t20, t21, t22, t23, t24, t25, t26, t27, t28, t29, t30, t31, t32, t33, t34, t35, t36, t37, t38, t39, t40, t41, t42, t43, t44, t45, t46, t47, t48, t49, t50, t51] H lg Q = (
  stepL (pureO t0) H lg 0 fun v1 H1 g1 =>
  stepL (pureO t0) H1 g1 1 fun v2 H2 g2 =>
  stepL (nilO v2) H2 g2 2 fun v3 H3 g3 =>
  stepL (evFieldAddr Try.prog 49 v3 2) H3 g3 3 fun v4 H4 g4 =>
  stepL (evLoad Try.prog H4 47 v4) H4 g4 4 fun v5 H5 g5 =>
  stepL (pureO t1) H5 g5 5 fun v6 H6 g6 =>
  stepL (pureO t2) H6 g6 6 fun v7 H7 g7 =>
  callL pol cl H7 g7 7 46 31 [v7] fun v8 H8 g8 =>
  stepL (liftO (evBuild Try.prog 65 [(0, v6), (1, v8)])) H8 g8 8 fun v9 H9 g9 =>
  stepL (evBuildSlice Try.prog H9 48 47 1 [(0, v9)]) H9 g9 9 fun v10 H10 g10 =>
  stepL (evAppend Try.prog H10 49 47 47 v5 v10) H10 g10 10 fun v11 H11 g11 =>
  stepL (nilO v1) H11 g11 11 fun v12 H12 g12 =>
  Q [t0, t1, t2, t3, t4, t5, t6, t7, t8, t9, t10, t11, t12, t13, t14, t15, t16, t17, t18, t19, t20, t21, t22, t23, t24, t25, t26, t27, t28, t29, t30, t31, t32, t33, t34, t35, t36, t37, t38, v1, v2, v3, v4, v5, v6, v7, v8, v9, v10, v11, v12, t51] H12 g12) := by kernel_rfl
theorem w20_24_12 {pol : Nat → Pol} {cl : CallW} {t0 t1 t2 t3 t4 t5 t6 t7 t8 t9 t10 t11 t12 t13 t14 t15 t16 t17 t18 t19 t20 t21 t22 t23 t24 t25 t26 t27 t28 t29 t30 t31 t32 t33 t34 t35 t36 t37 t38 t39 t40 t41 t42 t43 t44 t45 t46 t47 t48 t49 t50 t51 : V} {H : Heap} {lg : Log} {Q : List V → Heap → Log → Prop} : wOpsL Try.prog pol cl o20_24 d20_24_12 12 [t0, t1, t2, t3, t4, t5, t6, t7, t8, t9, t10, t11, t12, t13, t14, t15, t16, t17, t18, t19, t20, t21, t22, t23, t24, t25, t26, t27, t28, t29, t30, t31, t32, t33, t34, t35, t36, t37, t38, t39, t40, t41, t42, t43, t44, t45, t46, t47, t48, t49, t50, t51] H lg Q = (
  stepL (evFieldAddr Try.prog 49 t50 2) H lg 12 fun v1 H1 g1 =>
  stepL (evStore Try.prog H1 47 v1 t49) H1 g1 13 fun v2 H2 g2 =>
  Q [t0, t1, t2, t3, t4, t5, t6, t7, t8, t9, t10, t11, t12, t13, t14, t15, t16, t17, t18, t19, t20, t21, t22, t23, t24, t25, t26, t27, t28, t29, t30, t31, t32, t33, t34, t35, t36, t37, t38, t39, t40, t41, t42, t43, t44, t45, t46, t47, t48, t49, t50, v1] H2 g2) := by kernel_rfl
theorem w20_25 {pol : Nat → Pol} {cl : CallW} {lp : LoopW} {env : List V} {H : Heap} {Q : KQ} : wC Try.prog pol cl lp c20_25 env H Q = wC Try.prog pol cl lp c20_26 env H (seqK Try.prog pol cl lp c20_27 Q) := wC_seq (by kernel_rfl)
theorem w20_26 {pol : Nat → Pol} {cl : CallW} {lp : LoopW} {env : List V} {H : Heap} {Q : KQ} : wC Try.prog pol cl lp c20_26 env H Q = wOps Try.prog pol cl o20_26 d20_26_0 0 env H (Q .nrm) := wC_reg (i := 8) (by kernel_rfl) rfl
theorem w20_26_0 {pol : Nat → Pol} {cl : CallW} {t0 t1 t2 t3 t4 t5 t6 t7 t8 t9 t10 t11 t12 t13 t14 t15 t16 t17 t18 t19 t20 t21 t22 t23 t24 t25 t26 t27 t28 t29 t30 t31 t32 t33 t34 t35 t36 t37 t38 t39 t40 t41 t42 t43 t44 t45 t46 t47 t48 t49 t50 t51 : V} {H : Heap} {Q : List V → Heap → Prop} : wOps Try.prog pol cl o20_26 d20_26_0 0 [t0, t1, t2, t3, t4, t5, t6, t7, t8, t9, t10, t11, t12, t13, t14, t15, t16, t17, t18, t19, t20, t21, t22, t23, t24, t25, t26, t27, t28, t29, t30, t31, t32, t33, t34, t35, t36, t37, t38, t39, t40, t41, t42, t43, t44, t45, t46, t47, t48, t49, t50, t51] H Q = (
  Q [t0, t1, t2, t3, t4, t5, (.int .i64 0), t7, t8, t9, t10, t11, t12, t13, t14, t15, t16, t17, t18, t19, t20, t21, t22, t23, t24, t25, t26, t27, t28, t29, t30, t31, t32, t33, t34, t35, t36, t37, t38, t39, t40, t41, t42, t43, t44, t45, t46, t47, t48, t49, t50, t51] H) := by kernel_rfl
theorem w20_27 {pol : Nat → Pol} {cl : CallW} {lp : LoopW} {env : List V} {H : Heap} {Q : KQ} : wC Try.prog pol cl lp c20_27 env H Q = Q .ret env H := wC_ret (by kernel_rfl)
end Go.Proofs.Ytcamcfplcoklkaa.Iv

namespace Go.Proofs.Ytcamcfplcoklkaa.Iv
open Go
set_option linter.unusedVariables false
set_option linter.unusedSimpArgs false
set_option maxRecDepth 100000
/-! ### the heap of a function that is handed a disk -/
def kslice (kc : List V) : V := .sl (.arg 1) 0 0 kc.length 1 none
def WH (l : Int) (g : Bool) (b : Int) (kc : List V) (q : V) (qb : Option Blk) : Heap
  | .arg 0 => some (pblk l g b (kslice kc) q)
  | .arg 1 => some ⟨0, kc, false, true⟩
  | .arg 2 => qb
  | _ => none
/-- the queue: none, or a slice of a block that it fills -/
inductive QOK : V → Option Blk → Prop
  | nil : QOK .nils none
  | sl (m : Nat) (qc : List V) : QOK (.sl (.arg 2) 0 0 m 2 none) (some ⟨0, qc, false, true⟩)
theorem goes_nil (d : Nat) (l b : Int) (g : Bool) (kc : List V) : ∃ rd, evCall (run dcfg 40) dcfg.pol (WH l g b kc .nils none) d 32 [.ptr (.arg 0) 0 0] =
    some ⟨.bool (!(g || (l == 0))), [(.arg 0, pblk (left' l) (g || (l == 0)) b (kslice kc) .nils), (.arg 1, ⟨0, kc, false, true⟩)], rd⟩ := by
  cases g
  · exact ⟨[.arg 0, .arg 1, .sub d (.arg 0), .sub d (.arg 1)], by kernel_rfl⟩
  · exact ⟨[.arg 0, .arg 1, .sub d (.arg 0), .sub d (.arg 1)], by kernel_rfl⟩
theorem goes_sl (d : Nat) (l b : Int) (g : Bool) (kc : List V) (m : Nat) (qc : List V) : ∃ rd, evCall (run dcfg 40) dcfg.pol (WH l g b kc (.sl (.arg 2) 0 0 m 2 none) (some ⟨0, qc, false, true⟩)) d 32 [.ptr (.arg 0) 0 0] =
    some ⟨.bool (!(g || (l == 0))), [(.arg 0, pblk (left' l) (g || (l == 0)) b (kslice kc) (.sl (.arg 2) 0 0 m 2 none)), (.arg 1, ⟨0, kc, false, true⟩), (.arg 2, ⟨0, qc, false, true⟩)], rd⟩ := by
  cases g
  · exact ⟨[.arg 0, .arg 1, .arg 2, .sub d (.arg 0), .sub d (.arg 1), .sub d (.arg 2)], by kernel_rfl⟩
  · exact ⟨[.arg 0, .arg 1, .arg 2, .sub d (.arg 0), .sub d (.arg 1), .sub d (.arg 2)], by kernel_rfl⟩
theorem goes_back (d : Nat) {l b : Int} {g : Bool} {kc : List V} {q : V} {qb : Option Blk} (h : QOK q qb) : ∃ us rd, evCall (run dcfg 40) dcfg.pol (WH l g b kc q qb) d 32 [.ptr (.arg 0) 0 0] = some ⟨.bool (!(g || (l == 0))), us, rd⟩ ∧
    (WH l g b kc q qb).sets us = WH (left' l) (g || (l == 0)) b kc q qb := by
  cases h with
  | nil =>
    obtain ⟨rd, e⟩ := goes_nil d l b g kc
    refine ⟨_, rd, e, ?_⟩
    funext i
    simp only [Heap.sets, Heap.set]
    by_cases h1 : i = .arg 1
    · subst h1; rfl
    · rw [if_neg h1]
      by_cases h0 : i = .arg 0
      · subst h0; rfl
      · rw [if_neg h0]
        unfold WH
        split <;> first | rfl | contradiction
  | sl m qc =>
    obtain ⟨rd, e⟩ := goes_sl d l b g kc m qc
    refine ⟨_, rd, e, ?_⟩
    funext i
    simp only [Heap.sets, Heap.set]
    by_cases h2 : i = .arg 2
    · subst h2; rfl
    · rw [if_neg h2]
      by_cases h1 : i = .arg 1
      · subst h1; rfl
      · rw [if_neg h1]
        by_cases h0 : i = .arg 0
        · subst h0; rfl
        · rw [if_neg h0]
          unfold WH
          split <;> first | rfl | contradiction
/-- a call of has -/
theorem call_has {H : Heap} {D Kid : Id} {gd : Nat} {l b : Int} {g : Bool} {kc : List V} {q qv : V} {rq : List Id} (h : DskH H D gd l g b Kid kc q qv rq) {dd : Nat} {n : Int} {Q : Out → Prop}
    (hQ : Q ⟨.bool (decide (0 ≤ n ∧ n < secs (chunk 1 kc.length kc))), [], D :: Kid :: rq⟩) : wCall dcfg.pol (CallR dcfg) H dd 34 [.ptr D gd 0, .int .i64 n] Q := by
  have e1 : callPre dcfg.pol H 34 [.ptr D gd 0, .int .i64 n] = some ⟨[vD l g b (chunk 1 kc.length kc) qv, .int .i64 n], fun _ => none, [], [], D :: Kid :: rq⟩ := by
    have hm : (dcfg.pol 34).modes = [.view] := by kernel_rfl
    unfold callPre
    rw [hm]
    simp only [argsIn, List.headD, argIn, view_d h, List.tail, keepV, keep1, pureO, List.append_nil, List.nil_append]
    rfl
  have hr : (run dcfg 40 34 [vD l g b (chunk 1 kc.length kc) qv, .int .i64 n] (fun _ => none)).map (·.1) = some (.bool (decide (0 ≤ n ∧ n < secs (chunk 1 kc.length kc)))) := by
    rcases n with n | n
    · have e : decide (0 ≤ Int.ofNat n ∧ Int.ofNat n < secs (chunk 1 kc.length kc)) = decide (Int.ofNat n < secs (chunk 1 kc.length kc)) := by simp
      rw [e]; exact r_has ..
    · have e : decide (0 ≤ Int.negSucc n ∧ Int.negSucc n < secs (chunk 1 kc.length kc)) = false := by
        simp only [decide_eq_false_iff_not]; omega
      rw [e]; exact r_has0 ..
  unfold wCall
  rw [e1]
  refine CallR.of_run _ hr (fun H' _ => ?_)
  have e2 : callPost dcfg.pol H dd 34 ⟨[vD l g b (chunk 1 kc.length kc) qv, .int .i64 n], fun _ => none, [], [], D :: Kid :: rq⟩ (.bool (decide (0 ≤ n ∧ n < secs (chunk 1 kc.length kc)))) H' = some ⟨.bool (decide (0 ≤ n ∧ n < secs (chunk 1 kc.length kc))), [], D :: Kid :: rq⟩ := by
    have ho : (dcfg.pol 34).own = false := by kernel_rfl
    unfold callPost
    rw [ho]
    simp [retIn, keepV, keep1, collect, argIds, refs, backUps, outKept, V.keptR, V.kept, V.kept0, freshSubs, renIfV, pureO]
  show outW (callPost dcfg.pol H dd 34 ⟨[vD l g b (chunk 1 kc.length kc) qv, .int .i64 n], fun _ => none, [], [], D :: Kid :: rq⟩ (.bool (decide (0 ≤ n ∧ n < secs (chunk 1 kc.length kc)))) H') Q
  rw [e2]
  exact hQ
end Go.Proofs.Ytcamcfplcoklkaa.Iv

namespace Go.Proofs.Ytcamcfplcoklkaa.Iv
open Go
set_option linter.unusedVariables false
set_option linter.unusedSimpArgs false
set_option maxRecDepth 100000
theorem mkL {o : Option Out} {H : Heap} {lg : Log} {k : Nat} {Q : V → Heap → Log → Prop} (v : V) (us : List (Id × Blk)) (rd : List Id) (h : o = some ⟨v, us, rd⟩) (q : Q v (H.sets us) ((k, rd, us.map (·.1)) :: lg)) : stepL o H lg k Q := by subst h; exact q
theorem mkL0 {o : Option Out} {H : Heap} {lg : Log} {k : Nat} {Q : V → Heap → Log → Prop} (v : V) (rd : List Id) (h : o = some ⟨v, [], rd⟩) (q : Q v H ((k, rd, []) :: lg)) : stepL o H lg k Q := by subst h; exact q
theorem callL_ev {K : Cfg} {H : Heap} {lg : Log} {k d f n : Nat} {args : List V} {out : Out} {Q : V → Heap → Log → Prop} (h : evCall (run K n) K.pol H d f args = some out) (q : Q out.v (H.sets out.ups) ((k, out.rd, out.ups.map (·.1)) :: lg)) : callL K.pol (CallR K) H lg k d f args Q := by
  unfold callL
  exact wCall_ev h q
def tabB : Nat → (Nat → Int) → List (List V)
  | 0, _ => []
  | n + 1, g => [.int .u8 (g 0)] :: tabB n (fun i => g (i + 1))
def tabC : Nat → (Nat → Int) → List V
  | 0, _ => []
  | n + 1, g => .int .u8 (g 0) :: tabC n (fun i => g (i + 1))
theorem szE : szOf Try.prog 65 = some 2 := by kernel_rfl
theorem byE : byOf Try.prog 65 = some 32 := by kernel_rfl
theorem uQ : Try.prog.underlying 47 = some (.slice 65) := by kernel_rfl
theorem zE : zOf Try.prog 65 = some [.int .i64 0, .nils] := by kernel_rfl
theorem app_grow {H : Heap} {i : Id} {g m : Nat} {qc cs : List V} (h1 : H i = some ⟨g, qc, false, true⟩) (h2 : H (.own 48) = some ⟨0, cs, false, true⟩) (hq : qc.length = 2 * m) (hc : cs.length = 2) (hm : m < 1000000) :
    evAppend Try.prog H 49 47 47 (.sl i g 0 m 2 none) (.sl (.own 48) 0 0 1 2 (some 1)) = some ⟨.sl i (g + 1) 0 (m + 1) 2 none, [(i, ⟨g + 1, qc ++ cs, false, true⟩)], [i, .own 48]⟩ := by
  have l1 : live H i g = some ⟨g, qc, false, true⟩ := by simp [live, h1]
  have l2 : live H (.own 48) 0 = some ⟨0, cs, false, true⟩ := by simp [live, h2]
  have c2 : cut cs 0 2 = some cs := by unfold cut; rw [List.drop_zero, List.take_of_length_le (by omega)]; simp [hc]
  have hs : appSrc Try.prog H 2 [.int .i64 0, .nils] 47 (.sl (.own 48) 0 0 1 2 (some 1)) = some (cs, 1, true, [.own 48]) := by
    simp only [appSrc, uQ, src, l2, Nat.one_mul, c2, if_true]
  have co : cut qc 0 (m * 2) = some qc := by unfold cut; rw [List.drop_zero, List.take_of_length_le (by omega)]; simp [hq]; omega
  have c1 : (m + 1) * 32 ≤ lim47 := by unfold lim47; omega
  have c3 : ¬ ((m + 1) * 2 ≤ qc.length) := by rw [hq]; omega
  unfold evAppend
  simp only [uQ, szE, byE, zE, hs, l1]
  simp [c1, c3, co]
theorem len34b {x} : evLen Try.prog 34 x = lenS x := by cases x <;> kernel_rfl
theorem fa49_0 {x} : evFieldAddr Try.prog 49 x 0 = faR 0 x := by kernel_rfl
theorem fa49_2 {x} : evFieldAddr Try.prog 49 x 2 = faR 4 x := by kernel_rfl
theorem fa46_2 {x} : evFieldAddr Try.prog 46 x 2 = faR 2 x := by kernel_rfl
theorem ld3b {H x} : evLoad Try.prog H 3 x = ldR 1 false H x := by kernel_rfl
theorem ld47 {H x} : evLoad Try.prog H 47 x = ldR 1 false H x := by kernel_rfl
theorem st47 {H x v} : evStore Try.prog H 47 x v = stR 1 H x v := by kernel_rfl
/-- Write: what it answers, what it leaves -/
def afterW (l b : Int) (kc : List V) (at_ : Int) (bs : List (List V)) (q : V) (qb : Option Blk) (H : Heap) : Prop :=
  H (.arg 1) = some ⟨0, kc, false, true⟩ ∧ (∀ j, 2 < j → H (.arg j) = none) ∧
    match q, qb with
    | .nils, _ => H (.arg 0) = some (pblk (left' l) false b (kslice kc) (.sl (.own 49) 0 0 1 2 none)) ∧ H (.own 49) = some ⟨0, [.int .i64 at_, .list bs false], false, true⟩ ∧ H (.arg 2) = none
    | .sl _ _ _ m _ _, some qk => H (.arg 0) = some (pblk (left' l) false b (kslice kc) (.sl (.arg 2) 1 0 (m + 1) 2 none)) ∧ H (.arg 2) = some ⟨1, qk.cells ++ [.int .i64 at_, .list bs false], false, true⟩
    | _, _ => False
end Go.Proofs.Ytcamcfplcoklkaa.Iv

namespace Go.Proofs.Ytcamcfplcoklkaa.Iv
open Go
set_option linter.unusedVariables false
set_option linter.unusedSimpArgs false
set_option maxRecDepth 100000
theorem tabB_eq : ∀ (b : List Int), b.map (fun u => [V.int .u8 u]) = tabB b.length (fun i => b.getD i 0)
  | [] => rfl
  | x :: b => by simp only [List.map_cons, List.length_cons, tabB, tabB_eq b]; rfl
/-- the copy of a sector -/
theorem clone64 (l b : Int) (g : Bool) (kc : List V) (q : V) (qb : Option Blk) (f : Nat → Int) : evCall (run dcfg 40) dcfg.pol (WH l g b kc q qb) 46 31 [.list (tabB 64 f) true] =
    some ⟨.sl (.sub 46 (.own 7)) 0 0 64 1 none, [(.sub 46 (.own 7), ⟨0, tabC 64 f, false, true⟩)], [.sub 46 (.own 7)]⟩ := by kernel_rfl
def WH2 (l : Int) (g : Bool) (b : Int) (kc : List V) (q : V) (qb : Option Blk) (f : Nat → Int) : Heap := (WH l g b kc q qb).sets [(.sub 46 (.own 7), ⟨0, tabC 64 f, false, true⟩)]
theorem late1 (l b : Int) (g : Bool) (kc : List V) (q : V) (qb : Option Blk) (f : Nat → Int) (n : Int) : evBuildSlice Try.prog (WH2 l g b kc q qb f) 48 47 1 [(0, .agg [.int .i64 n, .sl (.sub 46 (.own 7)) 0 0 64 1 none])] =
    some ⟨.sl (.own 48) 0 0 1 2 (some 1), [(.sub 46 (.own 7), ⟨0, tabC 64 f, true, true⟩), (.own 48, ⟨0, [.int .i64 n, .list (tabB 64 f) false], false, true⟩)], [.own 48, .sub 46 (.own 7)]⟩ := by kernel_rfl
end Go.Proofs.Ytcamcfplcoklkaa.Iv

namespace Go.Proofs.Ytcamcfplcoklkaa.Iv
open Go
set_option linter.unusedVariables false
set_option linter.unusedSimpArgs false
set_option maxRecDepth 100000
theorem sets_nilE {H : Heap} : H.sets [] = H := rfl
def bytesL (bs : List Int) : List (List V) := bs.map fun u => [V.int .u8 u]
set_option maxHeartbeats 2000000 in
/-- the last part of Write: the write is queued -/
theorem write_tail {l b at_ : Int} {kc : List V} {q : V} {qb : Option Blk} (h : QOK q qb)
    (hm : ∀ m qc, q = .sl (.arg 2) 0 0 m 2 none → qb = some ⟨0, qc, false, true⟩ → qc.length = 2 * m ∧ m < 1000000) (bs : List Int) (hbs : bs.length = 64) {Q : V → Heap → Prop}
    (h0 : ∀ H', afterW l b kc at_ (bytesL bs) q qb H' → Q (.int .i64 0) H') : ∀ t3 t4 t5 t6 t7 t8 t9 t10 t11 t12 t13 t14 t15 t16 t17 t18 t19 t20 t21 t22 t23 t24 t25 t26 t27 t28 t29 t30 t31 t32 t33 t34 t35 t36 t37 t38 t39 t40 t41 t42 t43 t44 t45 t46 t47 t48 t49 t50 t51,
    wC Try.prog dcfg.pol (CallR dcfg) (LoopR dcfg) c20_23 [.ptr (.arg 0) 0 0, .int .i64 at_, .list (bytesL bs) true, t3, t4, t5, t6, t7, t8, t9, t10, t11, t12, t13, t14, t15, t16, t17, t18, t19, t20, t21, t22, t23, t24, t25, t26, t27, t28, t29, t30, t31, t32, t33, t34, t35, t36, t37, t38, t39, t40, t41, t42, t43, t44, t45, t46, t47, t48, t49, t50, t51] (WH (left' l) false b kc q qb) (wRes Try.prog [.tmp 6] Q) := by
  obtain ⟨f, hf⟩ : ∃ f, bytesL bs = tabB 64 f := ⟨_, by rw [bytesL, tabB_eq, hbs]⟩
  rw [hf] at h0 ⊢
  intro t3 t4 t5 t6 t7 t8 t9 t10 t11 t12 t13 t14 t15 t16 t17 t18 t19 t20 t21 t22 t23 t24 t25 t26 t27 t28 t29 t30 t31 t32 t33 t34 t35 t36 t37 t38 t39 t40 t41 t42 t43 t44 t45 t46 t47 t48 t49 t50 t51
  simp only [w20_23, w20_24, w20_24_0c, w20_24_0, w20_24_12, w20_25, w20_26, w20_26_0, w20_27, seqK, fa49_2, ld47, st47]
  cases h with
  | nil =>
    refine mkL0 (.ptr (.arg 0) 0 0) [] (by rfl) ?_
    refine mkL0 (.ptr (.arg 0) 0 0) [] (by rfl) ?_
    refine mkL0 (.ptr (.arg 0) 0 0) [] (by rfl) ?_
    refine mkL0 (.ptr (.arg 0) 0 4) [] (by rfl) ?_
    refine mkL0 .nils [.arg 0] (by rfl) ?_
    refine mkL0 (.int .i64 at_) [] (by rfl) ?_
    refine mkL0 (.list (tabB 64 f) true) [] (by rfl) ?_
    refine callL_ev (clone64 ..) ?_
    refine mkL0 (.agg [.int .i64 at_, .sl (.sub 46 (.own 7)) 0 0 64 1 none]) [] (by kernel_rfl) ?_
    refine mkL _ _ _ (late1 ..) ?_
    refine mkL (.sl (.own 49) 0 0 1 2 none) [(.own 49, ⟨0, [.int .i64 at_, .list (tabB 64 f) false], false, true⟩)] [.own 49, .own 48] (by kernel_rfl) ?_
    refine mkL0 (.ptr (.arg 0) 0 0) [] (by rfl) ?_
    refine mkL0 (.ptr (.arg 0) 0 4) [] (by rfl) ?_
    refine mkL .und [(.arg 0, pblk (left' l) false b (kslice kc) (.sl (.own 49) 0 0 1 2 none))] [.arg 0] (by kernel_rfl) ?_
    refine ⟨by kernel_rfl, ?_⟩
    refine h0 _ ⟨by kernel_rfl, fun j hj => ?_, by kernel_rfl, by kernel_rfl, by kernel_rfl⟩
    match j, hj with
    | j + 3, _ =>
      show _ = _
      kernel_rfl
  | sl m qc =>
    obtain ⟨e1, e2⟩ := hm m qc rfl rfl
    refine mkL0 (.ptr (.arg 0) 0 0) [] (by rfl) ?_
    refine mkL0 (.ptr (.arg 0) 0 0) [] (by rfl) ?_
    refine mkL0 (.ptr (.arg 0) 0 0) [] (by rfl) ?_
    refine mkL0 (.ptr (.arg 0) 0 4) [] (by rfl) ?_
    refine mkL0 (.sl (.arg 2) 0 0 m 2 none) [.arg 0] (by rfl) ?_
    refine mkL0 (.int .i64 at_) [] (by rfl) ?_
    refine mkL0 (.list (tabB 64 f) true) [] (by rfl) ?_
    refine callL_ev (clone64 ..) ?_
    refine mkL0 (.agg [.int .i64 at_, .sl (.sub 46 (.own 7)) 0 0 64 1 none]) [] (by kernel_rfl) ?_
    refine mkL _ _ _ (late1 ..) ?_
    refine mkL _ _ _ (app_grow (qc := qc) (cs := [.int .i64 at_, .list (tabB 64 f) false]) (by kernel_rfl) (by kernel_rfl) e1 (by rfl) e2) ?_
    refine mkL0 (.ptr (.arg 0) 0 0) [] (by rfl) ?_
    refine mkL0 (.ptr (.arg 0) 0 4) [] (by rfl) ?_
    refine mkL .und [(.arg 0, pblk (left' l) false b (kslice kc) (.sl (.arg 2) 1 0 (m + 1) 2 none))] [.arg 0] (by kernel_rfl) ?_
    refine ⟨by kernel_rfl, ?_⟩
    refine h0 _ ⟨by kernel_rfl, fun j hj => ?_, by kernel_rfl, by kernel_rfl⟩
    match j, hj with
    | j + 3, _ =>
      show _ = _
      kernel_rfl

set_option maxHeartbeats 2000000 in
/-- Write, on a disk -/
theorem write_spec {l b at_ : Int} {g : Bool} {kc : List V} {q qv : V} {qb : Option Blk} {rq : List Id} (h : QOK q qb) (hv : viewC (WH l g b kc q qb) q = some (qv, rq))
    (hm : ∀ m qc, q = .sl (.arg 2) 0 0 m 2 none → qb = some ⟨0, qc, false, true⟩ → qc.length = 2 * m ∧ m < 1000000) (bs : List Int) {Q : V → Heap → Prop}
    (h1 : ¬ ((0 ≤ at_ ∧ at_ < secs (chunk 1 kc.length kc)) ∧ bs.length = 64) → Q (.int .i64 1) (WH l g b kc q qb))
    (h11 : (0 ≤ at_ ∧ at_ < secs (chunk 1 kc.length kc)) ∧ bs.length = 64 → (g || (l == 0)) = true → Q (.int .i64 11) (WH (left' l) true b kc q qb))
    (h7 : (0 ≤ at_ ∧ at_ < secs (chunk 1 kc.length kc)) ∧ bs.length = 64 → (g || (l == 0)) = false → 0 ≤ b ∧ b ≤ at_ → Q (.int .i64 7) (WH (left' l) false b kc q qb))
    (h0 : (0 ≤ at_ ∧ at_ < secs (chunk 1 kc.length kc)) ∧ bs.length = 64 → (g || (l == 0)) = false → ¬ (0 ≤ b ∧ b ≤ at_) → ∀ H', afterW l b kc at_ (bytesL bs) q qb H' → Q (.int .i64 0) H') :
    CallR dcfg 20 [.ptr (.arg 0) 0 0, .int .i64 at_, .list (bytesL bs) true] (WH l g b kc q qb) Q := by
  refine CallR.body' (K := dcfg) (f := 20) (fn := Try.f20) (c := c20_0) (env := [.ptr (.arg 0) 0 0, .int .i64 at_, .list (bytesL bs) true, .und, .und, .und, .und, .und, .und, .und, .und, .und, .und, .und, .und, .und, .und, .und, .und, .und, .und, .und, .und, .und, .und, .und, .und, .und, .und, .und, .und, .und, .und, .und, .und, .und, .und, .und, .und, .und, .und, .und, .und, .und, .und, .und, .und, .und, .und, .und, .und, .und]) (rs := [.tmp 6]) rfl (by kernel_rfl) (by kernel_rfl) (by kernel_rfl) (by kernel_rfl) (by kernel_rfl) (by kernel_rfl) ?_
  show wC Try.prog dcfg.pol (CallR dcfg) (LoopR dcfg) c20_0 _ _ _
  have hdsk : DskH (WH l g b kc q qb) (.arg 0) 0 l g b (.arg 1) kc q qv rq := ⟨⟨0, none, ⟨0, kc, false, true⟩, rfl, rfl, rfl, rfl, rfl⟩, hv⟩
  simp only [w20_0, w20_1, w20_1_0, w20_2, w20_3, w20_4, w20_5, w20_5_0, w20_6, w20_7, w20_8, w20_8_0, w20_9, seqK, len34b]
  refine call_has (Q := fun o => _) hdsk ?_
  refine mk0 (.bool !(decide (0 ≤ at_ ∧ at_ < secs (chunk 1 kc.length kc)))) (by rfl) ?_
  by_cases ha : ¬ (0 ≤ at_ ∧ at_ < secs (chunk 1 kc.length kc))
  · rw [decide_eq_false ha]
    simp only [Bool.not_false]
    refine gnt ?_
    refine gnt ?_
    refine gnt ?_
    refine mk0 (.bool true) (by rfl) ?_
    refine condT ?_
    exact h1 (fun x => ha x.1)
  have ha := Classical.not_not.1 ha
  rw [decide_eq_true ha]
  simp only [Bool.not_true]
  refine gp ?_
  refine gy0 (.int .i64 (bytesL bs).length) (by rfl) ?_
  refine gy0 _ (bin_neq ..) ?_
  by_cases hb : ¬ bs.length = 64
  · have e : (((bytesL bs).length : Int) != 64) = true := by simp [bytesL, hb]; omega
    rw [e]
    refine mk0 (.bool true) (by rfl) ?_
    refine condT ?_
    exact h1 (fun x => hb x.2)
  have hb := Classical.not_not.1 hb
  have e : (((bytesL bs).length : Int) != 64) = false := by simp [bytesL, hb]
  rw [e]
  refine mk0 (.bool false) (by rfl) ?_
  refine condF ?_
  simp only [w20_10, w20_11, w20_11_0, w20_12, w20_13, w20_14, w20_14_0, w20_15, w20_16, w20_17, w20_17_0c, w20_17_0, w20_17_12, seqK, blockK, fa49_0, fa46_2, ld3b]
  obtain ⟨us, rd, he, hH⟩ := goes_back 21 (l := l) (b := b) (g := g) (kc := kc) h
  refine mk0 (.ptr (.arg 0) 0 0) (by rfl) ?_
  refine mk0 (.ptr (.arg 0) 0 0) (by rfl) ?_
  refine callW_ev he ?_
  simp only [sets_nilE, hH]
  refine mk0 (.bool (g || (l == 0))) (by simp [liftO, evUn]) ?_
  by_cases hg : (g || (l == 0)) = true
  · rw [hg]
    refine condT ?_
    exact h11 ⟨ha, hb⟩ hg
  have hg' : (g || (l == 0)) = false := by simpa using hg
  rw [hg']
  refine condF ?_
  refine mk0 (.ptr (.arg 0) 0 0) (by rfl) ?_
  refine mk0 (.ptr (.arg 0) 0 0) (by rfl) ?_
  refine mk0 (.ptr (.arg 0) 0 2) (by rfl) ?_
  refine mk (.int .i64 b) [] [.arg 0] (by rfl) ?_
  refine mk0 _ (bin_geq ..) ?_
  by_cases hb0 : b ≥ 0
  · rw [decide_eq_true hb0]
    refine gp ?_
    refine gp ?_
    refine gy0 (.ptr (.arg 0) 0 0) (by rfl) ?_
    refine gy0 (.ptr (.arg 0) 0 0) (by rfl) ?_
    refine gy0 (.ptr (.arg 0) 0 2) (by rfl) ?_
    refine gy (.int .i64 b) [] [.arg 0] (by rfl) ?_
    refine gy0 _ (bin_geq ..) ?_
    by_cases hb1 : at_ ≥ b
    · rw [decide_eq_true hb1]
      refine mk0 (.bool true) (by rfl) ?_
      simp only [w20_18, w20_19, w20_20, w20_20_0, w20_21, w20_22, seqK, blockK]
      refine condT ?_
      exact h7 ⟨ha, hb⟩ hg' ⟨hb0, hb1⟩
    · rw [decide_eq_false hb1]
      refine mk0 (.bool false) (by rfl) ?_
      simp only [w20_18, w20_19, w20_20, w20_20_0, w20_21, w20_22, seqK, blockK]
      refine condF ?_
      exact write_tail h hm bs hb (fun H' hH' => h0 ⟨ha, hb⟩ hg' (fun x => hb1 x.2) H' hH') _ _ _ _ _ _ _ _ _ _ _ _ _ _ _ _ _ _ _ _ _ _ _ _ _ _ _ _ _ _ _ _ _ _ _ _ _ _ _ _ _ _ _ _ _ _ _ _ _ 
  · rw [decide_eq_false hb0]
    refine gnf ?_
    refine gnf ?_
    refine gnf ?_
    refine gnf ?_
    refine gnf ?_
    refine gnf ?_
    refine gnf ?_
    refine mk0 (.bool false) (by rfl) ?_
    simp only [w20_18, w20_19, w20_20, w20_20_0, w20_21, w20_22, seqK, blockK]
    refine condF ?_
    exact write_tail h hm bs hb (fun H' hH' => h0 ⟨ha, hb⟩ hg' (fun x => hb0 x.1) H' hH') _ _ _ _ _ _ _ _ _ _ _ _ _ _ _ _ _ _ _ _ _ _ _ _ _ _ _ _ _ _ _ _ _ _ _ _ _ _ _ _ _ _ _ _ _ _ _ _ _ 
end Go.Proofs.Ytcamcfplcoklkaa.Iv
