import Derived.Test.YtcamcfplcoklkaaM8
import Derived.Test.YtcamcfplcoklkaaProg
namespace Go.Proofs.Ytcamcfplcoklkaa.Iv
open Go
set_option linter.unusedVariables false
-- (*incipit/incipitref27.Disk).power
noncomputable def c38_0 : Code := cAt [] (bodyOf Try.f38)
noncomputable def c38_1 : Code := cAt [0] (bodyOf Try.f38)
noncomputable def o38_1 : Array Oper := opsOf c38_1
noncomputable def d38_1_0 : List Oper := o38_1.toList
noncomputable def c38_2 : Code := cAt [1] (bodyOf Try.f38)
noncomputable def c38_3 : Code := cAt [1, 0] (bodyOf Try.f38)
noncomputable def c38_4 : Code := cAt [1, 0, 0] (bodyOf Try.f38)
noncomputable def o38_4 : Array Oper := opsOf c38_4
noncomputable def d38_4_0 : List Oper := o38_4.toList
noncomputable def c38_5 : Code := cAt [1, 0, 1] (bodyOf Try.f38)
noncomputable def c38_6 : Code := cAt [1, 0, 1, 0] (bodyOf Try.f38)
noncomputable def o38_6 : Array Oper := opsOf c38_6
noncomputable def d38_6_0 : List Oper := o38_6.toList
noncomputable def c38_7 : Code := cAt [1, 0, 1, 1] (bodyOf Try.f38)
noncomputable def c38_8 : Code := cAt [1, 1] (bodyOf Try.f38)
noncomputable def c38_9 : Code := cAt [1, 1, 0] (bodyOf Try.f38)
noncomputable def o38_9 : Array Oper := opsOf c38_9
noncomputable def d38_9_0 : List Oper := o38_9.toList
noncomputable def c38_10 : Code := cAt [1, 1, 1] (bodyOf Try.f38)
noncomputable def c38_11 : Code := cAt [1, 1, 1, 0] (bodyOf Try.f38)
noncomputable def o38_11 : Array Oper := opsOf c38_11
noncomputable def d38_11_0 : List Oper := o38_11.toList
noncomputable def c38_12 : Code := cAt [1, 1, 1, 1] (bodyOf Try.f38)
theorem w38_0 {pol : Nat → Pol} {cl : CallW} {lp : LoopW} {env : List V} {H : Heap} {Q : KQ} : wC Try.prog pol cl lp c38_0 env H Q = wC Try.prog pol cl lp c38_1 env H (seqK Try.prog pol cl lp c38_2 Q) := wC_seq (by kernel_rfl)
theorem w38_1 {pol : Nat → Pol} {cl : CallW} {lp : LoopW} {env : List V} {H : Heap} {Q : KQ} : wC Try.prog pol cl lp c38_1 env H Q = wOps Try.prog pol cl o38_1 d38_1_0 0 env H (Q .nrm) := wC_reg (i := 0) (by kernel_rfl) rfl
theorem w38_1_0 {pol : Nat → Pol} {cl : CallW} {t0 t1 t2 t3 t4 t5 t6 t7 t8 t9 t10 t11 t12 t13 t14 t15 t16 t17 t18 t19 t20 t21 t22 t23 t24 : V} {H : Heap} {Q : List V → Heap → Prop} : wOps Try.prog pol cl o38_1 d38_1_0 0 [t0, t1, t2, t3, t4, t5, t6, t7, t8, t9, t10, t11, t12, t13, t14, t15, t16, t17, t18, t19, t20, t21, t22, t23, t24] H Q = (
  Q [t0, t1, (.bool false), t3, t4, t5, t6, t7, t8, t9, t10, t11, t12, t13, t14, t15, t16, t17, t18, t19, t20, t21, t22, t23, t24] H) := by kernel_rfl
theorem w38_2 {pol : Nat → Pol} {cl : CallW} {lp : LoopW} {env : List V} {H : Heap} {Q : KQ} : wC Try.prog pol cl lp c38_2 env H Q = wC Try.prog pol cl lp c38_3 env H (seqK Try.prog pol cl lp c38_8 Q) := wC_seq (by kernel_rfl)
theorem w38_3 {pol : Nat → Pol} {cl : CallW} {lp : LoopW} {env : List V} {H : Heap} {Q : KQ} : wC Try.prog pol cl lp c38_3 env H Q = wC Try.prog pol cl lp c38_4 env H (seqK Try.prog pol cl lp c38_5 Q) := wC_seq (by kernel_rfl)
theorem w38_4 {pol : Nat → Pol} {cl : CallW} {lp : LoopW} {env : List V} {H : Heap} {Q : KQ} : wC Try.prog pol cl lp c38_4 env H Q = wOps Try.prog pol cl o38_4 d38_4_0 0 env H (Q .nrm) := wC_reg (i := 1) (by kernel_rfl) rfl
theorem w38_4_0 {pol : Nat → Pol} {cl : CallW} {t0 t1 t2 t3 t4 t5 t6 t7 t8 t9 t10 t11 t12 t13 t14 t15 t16 t17 t18 t19 t20 t21 t22 t23 t24 : V} {H : Heap} {Q : List V → Heap → Prop} : wOps Try.prog pol cl o38_4 d38_4_0 0 [t0, t1, t2, t3, t4, t5, t6, t7, t8, t9, t10, t11, t12, t13, t14, t15, t16, t17, t18, t19, t20, t21, t22, t23, t24] H Q = (
  stepW (nilO t0) H fun v1 H1 =>
  stepW (evFieldAddr Try.prog 41 v1 2) H1 fun v2 H2 =>
  stepW (evLoad Try.prog H2 3 v2) H2 fun v3 H3 =>
  stepW (liftO (evBin Try.prog 3 .eql v3 (.int .i64 0))) H3 fun v4 H4 =>
  Q [t0, t1, t2, t0, v1, v2, v3, v4, t8, t9, t10, t11, t12, t13, t14, t15, t16, t17, t18, t19, t20, t21, t22, t23, t24] H4) := by kernel_rfl
theorem w38_5 {pol : Nat → Pol} {cl : CallW} {lp : LoopW} {env : List V} {H : Heap} {Q : KQ} : wC Try.prog pol cl lp c38_5 env H Q = condW (evOperand env (Operand.tmp 7)) (wC Try.prog pol cl lp c38_6 env H Q) (wC Try.prog pol cl lp c38_7 env H Q) := wC_cond (by kernel_rfl)
theorem w38_6 {pol : Nat → Pol} {cl : CallW} {lp : LoopW} {env : List V} {H : Heap} {Q : KQ} : wC Try.prog pol cl lp c38_6 env H Q = wOps Try.prog pol cl o38_6 d38_6_0 0 env H (Q .nrm) := wC_reg (i := 2) (by kernel_rfl) rfl
theorem w38_6_0 {pol : Nat → Pol} {cl : CallW} {t0 t1 t2 t3 t4 t5 t6 t7 t8 t9 t10 t11 t12 t13 t14 t15 t16 t17 t18 t19 t20 t21 t22 t23 t24 : V} {H : Heap} {Q : List V → Heap → Prop} : wOps Try.prog pol cl o38_6 d38_6_0 0 [t0, t1, t2, t3, t4, t5, t6, t7, t8, t9, t10, t11, t12, t13, t14, t15, t16, t17, t18, t19, t20, t21, t22, t23, t24] H Q = (
  stepW (nilO t0) H fun v1 H1 =>
  stepW (evFieldAddr Try.prog 41 v1 4) H1 fun v2 H2 =>
  stepW (evStore Try.prog H2 4 v2 (.bool true)) H2 fun v3 H3 =>
  Q [t0, t1, t2, t3, t4, t5, t6, t7, t0, v1, v2, t11, t12, t13, t14, t15, t16, t17, t18, t19, t20, t21, t22, t23, t24] H3) := by kernel_rfl
theorem w38_7 {pol : Nat → Pol} {cl : CallW} {lp : LoopW} {env : List V} {H : Heap} {Q : KQ} : wC Try.prog pol cl lp c38_7 env H Q = Q .nrm env H := wC_skip (by kernel_rfl)
theorem w38_8 {pol : Nat → Pol} {cl : CallW} {lp : LoopW} {env : List V} {H : Heap} {Q : KQ} : wC Try.prog pol cl lp c38_8 env H Q = wC Try.prog pol cl lp c38_9 env H (seqK Try.prog pol cl lp c38_10 Q) := wC_seq (by kernel_rfl)
theorem w38_9 {pol : Nat → Pol} {cl : CallW} {lp : LoopW} {env : List V} {H : Heap} {Q : KQ} : wC Try.prog pol cl lp c38_9 env H Q = wOps Try.prog pol cl o38_9 d38_9_0 0 env H (Q .nrm) := wC_reg (i := 3) (by kernel_rfl) rfl
theorem w38_9_0 {pol : Nat → Pol} {cl : CallW} {t0 t1 t2 t3 t4 t5 t6 t7 t8 t9 t10 t11 t12 t13 t14 t15 t16 t17 t18 t19 t20 t21 t22 t23 t24 : V} {H : Heap} {Q : List V → Heap → Prop} : wOps Try.prog pol cl o38_9 d38_9_0 0 [t0, t1, t2, t3, t4, t5, t6, t7, t8, t9, t10, t11, t12, t13, t14, t15, t16, t17, t18, t19, t20, t21, t22, t23, t24] H Q = (
  stepW (nilO t0) H fun v1 H1 =>
  stepW (evFieldAddr Try.prog 41 v1 2) H1 fun v2 H2 =>
  stepW (evLoad Try.prog H2 3 v2) H2 fun v3 H3 =>
  stepW (liftO (evBin Try.prog 3 .sub v3 (.int .i64 1))) H3 fun v4 H4 =>
  stepW (liftO (foldO max2 v4 [(.int .i64 (-1))])) H4 fun v5 H5 =>
  stepW (nilO t0) H5 fun v6 H6 =>
  stepW (evFieldAddr Try.prog 41 v6 2) H6 fun v7 H7 =>
  stepW (evStore Try.prog H7 3 v7 v5) H7 fun v8 H8 =>
  Q [t0, t1, t2, t3, t4, t5, t6, t7, t8, t9, t10, t0, t0, v1, v2, v3, v4, v5, v6, v7, t20, t21, t22, t23, t24] H8) := by kernel_rfl
theorem w38_10 {pol : Nat → Pol} {cl : CallW} {lp : LoopW} {env : List V} {H : Heap} {Q : KQ} : wC Try.prog pol cl lp c38_10 env H Q = wC Try.prog pol cl lp c38_11 env H (seqK Try.prog pol cl lp c38_12 Q) := wC_seq (by kernel_rfl)
theorem w38_11 {pol : Nat → Pol} {cl : CallW} {lp : LoopW} {env : List V} {H : Heap} {Q : KQ} : wC Try.prog pol cl lp c38_11 env H Q = wOps Try.prog pol cl o38_11 d38_11_0 0 env H (Q .nrm) := wC_reg (i := 4) (by kernel_rfl) rfl
theorem w38_11_0 {pol : Nat → Pol} {cl : CallW} {t0 t1 t2 t3 t4 t5 t6 t7 t8 t9 t10 t11 t12 t13 t14 t15 t16 t17 t18 t19 t20 t21 t22 t23 t24 : V} {H : Heap} {Q : List V → Heap → Prop} : wOps Try.prog pol cl o38_11 d38_11_0 0 [t0, t1, t2, t3, t4, t5, t6, t7, t8, t9, t10, t11, t12, t13, t14, t15, t16, t17, t18, t19, t20, t21, t22, t23, t24] H Q = (
  stepW (nilO t0) H fun v1 H1 =>
  stepW (evFieldAddr Try.prog 41 v1 4) H1 fun v2 H2 =>
  stepW (evLoad Try.prog H2 4 v2) H2 fun v3 H3 =>
  stepW (liftO (evUn .not v3)) H3 fun v4 H4 =>
  Q [t0, t1, v4, t3, t4, t5, t6, t7, t8, t9, t10, t11, t12, t13, t14, t15, t16, t17, t18, t19, t0, v1, v2, v3, v4] H4) := by kernel_rfl
theorem w38_12 {pol : Nat → Pol} {cl : CallW} {lp : LoopW} {env : List V} {H : Heap} {Q : KQ} : wC Try.prog pol cl lp c38_12 env H Q = Q .ret env H := wC_ret (by kernel_rfl)
-- (*incipit/incipitref27.Disk).lasts
noncomputable def c39_0 : Code := cAt [] (bodyOf Try.f39)
noncomputable def c39_1 : Code := cAt [0] (bodyOf Try.f39)
noncomputable def o39_1 : Array Oper := opsOf c39_1
noncomputable def d39_1_0 : List Oper := o39_1.toList
noncomputable def c39_2 : Code := cAt [1] (bodyOf Try.f39)
noncomputable def c39_3 : Code := cAt [1, 0] (bodyOf Try.f39)
noncomputable def o39_3 : Array Oper := opsOf c39_3
noncomputable def d39_3_0 : List Oper := o39_3.toList
noncomputable def c39_4 : Code := cAt [1, 1] (bodyOf Try.f39)
noncomputable def c39_5 : Code := cAt [1, 1, 0] (bodyOf Try.f39)
noncomputable def c39_6 : Code := cAt [1, 1, 0, 0] (bodyOf Try.f39)
noncomputable def c39_7 : Code := cAt [1, 1, 0, 0, 0] (bodyOf Try.f39)
noncomputable def c39_8 : Code := cAt [1, 1, 0, 0, 0, 0] (bodyOf Try.f39)
noncomputable def o39_8 : Array Oper := opsOf c39_8
noncomputable def d39_8_0 : List Oper := o39_8.toList
noncomputable def c39_9 : Code := cAt [1, 1, 0, 0, 0, 1] (bodyOf Try.f39)
noncomputable def c39_10 : Code := cAt [1, 1, 0, 0, 0, 1, 0] (bodyOf Try.f39)
noncomputable def c39_11 : Code := cAt [1, 1, 0, 0, 0, 1, 1] (bodyOf Try.f39)
noncomputable def c39_12 : Code := cAt [1, 1, 0, 0, 1] (bodyOf Try.f39)
noncomputable def c39_13 : Code := cAt [1, 1, 0, 0, 1, 0] (bodyOf Try.f39)
noncomputable def c39_14 : Code := cAt [1, 1, 0, 0, 1, 0, 0] (bodyOf Try.f39)
noncomputable def o39_14 : Array Oper := opsOf c39_14
noncomputable def d39_14_0 : List Oper := o39_14.toList
noncomputable def p39_14_0 : List Oper := d39_14_0.take 12
noncomputable def d39_14_12 : List Oper := d39_14_0.drop 12
noncomputable def c39_15 : Code := cAt [1, 1, 0, 0, 1, 1] (bodyOf Try.f39)
noncomputable def o39_15 : Array Oper := opsOf c39_15
noncomputable def d39_15_0 : List Oper := o39_15.toList
theorem w39_0 {pol : Nat → Pol} {cl : CallW} {lp : LoopW} {env : List V} {H : Heap} {Q : KQ} : wC Try.prog pol cl lp c39_0 env H Q = wC Try.prog pol cl lp c39_1 env H (seqK Try.prog pol cl lp c39_2 Q) := wC_seq (by kernel_rfl)
theorem w39_1 {pol : Nat → Pol} {cl : CallW} {lp : LoopW} {env : List V} {H : Heap} {Q : KQ} : wC Try.prog pol cl lp c39_1 env H Q = wOps Try.prog pol cl o39_1 d39_1_0 0 env H (Q .nrm) := wC_reg (i := 0) (by kernel_rfl) rfl
theorem w39_1_0 {pol : Nat → Pol} {cl : CallW} {t0 t1 t2 t3 t4 t5 t6 t7 t8 t9 t10 t11 t12 t13 t14 t15 t16 t17 t18 t19 t20 t21 t22 t23 t24 t25 t26 t27 t28 t29 t30 t31 t32 t33 t34 t35 t36 t37 t38 t39 : V} {H : Heap} {Q : List V → Heap → Prop} : wOps Try.prog pol cl o39_1 d39_1_0 0 [t0, t1, t2, t3, t4, t5, t6, t7, t8, t9, t10, t11, t12, t13, t14, t15, t16, t17, t18, t19, t20, t21, t22, t23, t24, t25, t26, t27, t28, t29, t30, t31, t32, t33, t34, t35, t36, t37, t38, t39] H Q = (
  stepW (evBuildSlice Try.prog H 6 38 0 []) H fun v1 H1 =>
  stepW (nilO t0) H1 fun v2 H2 =>
  stepW (evFieldAddr Try.prog 41 v2 0) H2 fun v3 H3 =>
  stepW (evLoad Try.prog H3 38 v3) H3 fun v4 H4 =>
  stepW (evAppend Try.prog H4 11 38 38 v1 v4) H4 fun v5 H5 =>
  stepW (nilO t0) H5 fun v6 H6 =>
  stepW (evFieldAddr Try.prog 41 v6 0) H6 fun v7 H7 =>
  stepW (evStore Try.prog H7 38 v7 v5) H7 fun v8 H8 =>
  Q [t0, t1, t2, t3, t4, t0, v1, t0, v2, v3, v4, v5, v6, v7, t14, t15, t16, t17, t18, t19, t20, t21, t22, t23, t24, t25, t26, t27, t28, t29, t30, t31, t32, t33, t34, t35, t36, t37, t38, t39] H8) := by kernel_rfl
theorem w39_2 {pol : Nat → Pol} {cl : CallW} {lp : LoopW} {env : List V} {H : Heap} {Q : KQ} : wC Try.prog pol cl lp c39_2 env H Q = wC Try.prog pol cl lp c39_3 env H (seqK Try.prog pol cl lp c39_4 Q) := wC_seq (by kernel_rfl)
theorem w39_3 {pol : Nat → Pol} {cl : CallW} {lp : LoopW} {env : List V} {H : Heap} {Q : KQ} : wC Try.prog pol cl lp c39_3 env H Q = wOps Try.prog pol cl o39_3 d39_3_0 0 env H (Q .nrm) := wC_reg (i := 1) (by kernel_rfl) rfl
theorem w39_3_0 {pol : Nat → Pol} {cl : CallW} {t0 t1 t2 t3 t4 t5 t6 t7 t8 t9 t10 t11 t12 t13 t14 t15 t16 t17 t18 t19 t20 t21 t22 t23 t24 t25 t26 t27 t28 t29 t30 t31 t32 t33 t34 t35 t36 t37 t38 t39 : V} {H : Heap} {Q : List V → Heap → Prop} : wOps Try.prog pol cl o39_3 d39_3_0 0 [t0, t1, t2, t3, t4, t5, t6, t7, t8, t9, t10, t11, t12, t13, t14, t15, t16, t17, t18, t19, t20, t21, t22, t23, t24, t25, t26, t27, t28, t29, t30, t31, t32, t33, t34, t35, t36, t37, t38, t39] H Q = (
  Q [t0, t1, t2, t3, (.int .i64 0), t5, t6, t7, t8, t9, t10, t11, t12, t13, t14, t15, t16, t17, t18, t19, t20, t21, t22, t23, t24, t25, t26, t27, t28, t29, t30, t31, t32, t33, t34, t35, t36, t37, t38, t39] H) := by kernel_rfl
theorem w39_4 {pol : Nat → Pol} {cl : CallW} {lp : LoopW} {env : List V} {H : Heap} {Q : KQ} : wC Try.prog pol cl lp c39_4 env H Q = wC Try.prog pol cl lp c39_5 env H (blockK 0 Q) := wC_block (by kernel_rfl)
theorem w39_5 {pol : Nat → Pol} {cl : CallW} {lp : LoopW} {env : List V} {H : Heap} {Q : KQ} : wC Try.prog pol cl lp c39_5 env H Q = lp c39_6 env H Q := wC_loop (by kernel_rfl)
theorem w39_6 {pol : Nat → Pol} {cl : CallW} {lp : LoopW} {env : List V} {H : Heap} {Q : KQ} : wC Try.prog pol cl lp c39_6 env H Q = wC Try.prog pol cl lp c39_7 env H (seqK Try.prog pol cl lp c39_12 Q) := wC_seq (by kernel_rfl)
theorem w39_7 {pol : Nat → Pol} {cl : CallW} {lp : LoopW} {env : List V} {H : Heap} {Q : KQ} : wC Try.prog pol cl lp c39_7 env H Q = wC Try.prog pol cl lp c39_8 env H (seqK Try.prog pol cl lp c39_9 Q) := wC_seq (by kernel_rfl)
theorem w39_8 {pol : Nat → Pol} {cl : CallW} {lp : LoopW} {env : List V} {H : Heap} {Q : KQ} : wC Try.prog pol cl lp c39_8 env H Q = wOps Try.prog pol cl o39_8 d39_8_0 0 env H (Q .nrm) := wC_reg (i := 2) (by kernel_rfl) rfl
theorem w39_8_0 {pol : Nat → Pol} {cl : CallW} {t0 t1 t2 t3 t4 t5 t6 t7 t8 t9 t10 t11 t12 t13 t14 t15 t16 t17 t18 t19 t20 t21 t22 t23 t24 t25 t26 t27 t28 t29 t30 t31 t32 t33 t34 t35 t36 t37 t38 t39 : V} {H : Heap} {Q : List V → Heap → Prop} : wOps Try.prog pol cl o39_8 d39_8_0 0 [t0, t1, t2, t3, t4, t5, t6, t7, t8, t9, t10, t11, t12, t13, t14, t15, t16, t17, t18, t19, t20, t21, t22, t23, t24, t25, t26, t27, t28, t29, t30, t31, t32, t33, t34, t35, t36, t37, t38, t39] H Q = (
  stepW (liftO (evBin Try.prog 3 .lss t4 t1)) H fun v1 H1 =>
  Q [t0, t1, t2, t3, t4, t5, t6, t7, t8, t9, t10, t11, t12, t13, t4, t1, v1, t17, t18, t19, t20, t21, t22, t23, t24, t25, t26, t27, t28, t29, t30, t31, t32, t33, t34, t35, t36, t37, t38, t39] H1) := by kernel_rfl
theorem w39_9 {pol : Nat → Pol} {cl : CallW} {lp : LoopW} {env : List V} {H : Heap} {Q : KQ} : wC Try.prog pol cl lp c39_9 env H Q = condW (evOperand env (Operand.tmp 16)) (wC Try.prog pol cl lp c39_10 env H Q) (wC Try.prog pol cl lp c39_11 env H Q) := wC_cond (by kernel_rfl)
theorem w39_10 {pol : Nat → Pol} {cl : CallW} {lp : LoopW} {env : List V} {H : Heap} {Q : KQ} : wC Try.prog pol cl lp c39_10 env H Q = Q .nrm env H := wC_skip (by kernel_rfl)
theorem w39_11 {pol : Nat → Pol} {cl : CallW} {lp : LoopW} {env : List V} {H : Heap} {Q : KQ} : wC Try.prog pol cl lp c39_11 env H Q = Q (.exit 0) env H := wC_exit (by kernel_rfl)
theorem w39_12 {pol : Nat → Pol} {cl : CallW} {lp : LoopW} {env : List V} {H : Heap} {Q : KQ} : wC Try.prog pol cl lp c39_12 env H Q = wC Try.prog pol cl lp c39_13 env H (seqK Try.prog pol cl lp c39_15 Q) := wC_seq (by kernel_rfl)
theorem w39_13 {pol : Nat → Pol} {cl : CallW} {lp : LoopW} {env : List V} {H : Heap} {Q : KQ} : wC Try.prog pol cl lp c39_13 env H Q = wC Try.prog pol cl lp c39_14 env H (blockK 1 Q) := wC_block (by kernel_rfl)
theorem w39_14 {pol : Nat → Pol} {cl : CallW} {lp : LoopW} {env : List V} {H : Heap} {Q : KQ} : wC Try.prog pol cl lp c39_14 env H Q = wOpsL Try.prog pol cl o39_14 d39_14_0 0 env H [] (fun env H lg => logOk o39_14 lg = true ∧ Q .nrm env H) := wC_regL (i := 4) (by kernel_rfl) rfl
theorem w39_14_0c {pol : Nat → Pol} {cl : CallW} {env : List V} {H : Heap} {lg : Log} {Q : List V → Heap → Log → Prop} : wOpsL Try.prog pol cl o39_14 d39_14_0 0 env H lg Q = wOpsL Try.prog pol cl o39_14 p39_14_0 0 env H lg (fun env H lg => wOpsL Try.prog pol cl o39_14 d39_14_12 12 env H lg Q) := wOpsL_cut (by kernel_rfl) (by kernel_rfl)
theorem w39_14_0 {pol : Nat → Pol} {cl : CallW} {t0 t1 t2 t3 t4 t5 t6 t7 t8 t9 t10 t11 t12 t13 t14 t15 t16 t17 t18 t19 t20 t21 t22 t23 t24 t25 t26 t27 t28 t29 t30 t31 t32 t33 t34 t35 t36 t37 t38 t39 : V} {H : Heap} {lg : Log} {Q : List V → Heap → Log → Prop} : wOpsL Try.prog pol cl o39_14 p39_14_0 0 [t0, t1, t2, t3, t4, t5, t6, t7, t8, t9, t10, t11, t12, t13, t14, t15, t16, t17, t18, t19, t20, t21, t22, t23, t24, t25, t26, t27, t28, t29, t30, t31, t32, t33, t34, t35, t36, t37, t38, t39] H lg Q = (
  stepL (pureO t0) H lg 0 fun v1 H1 g1 =>
  stepL (nilO v1) H1 g1 1 fun v2 H2 g2 =>
  stepL (evFieldAddr Try.prog 41 v2 0) H2 g2 2 fun v3 H3 g3 =>
  stepL (evLoad Try.prog H3 38 v3) H3 g3 3 fun v4 H4 g4 =>
  stepL (pureO t0) H4 g4 4 fun v5 H5 g5 =>
  stepL (nilO v5) H5 g5 5 fun v6 H6 g6 =>
  stepL (evFieldAddr Try.prog 41 v6 1) H6 g6 6 fun v7 H7 g7 =>
  stepL (evLoad Try.prog H7 39 v7) H7 g7 7 fun v8 H8 g8 =>
  stepL (pureO t4) H8 g8 8 fun v9 H9 g9 =>
  stepL (evIndexAddr Try.prog 39 v8 v9) H9 g9 9 fun v10 H10 g10 =>
  stepL (evFieldAddr Try.prog 72 v10 0) H10 g10 10 fun v11 H11 g11 =>
  stepL (evLoad Try.prog H11 3 v11) H11 g11 11 fun v12 H12 g12 =>
  Q [t0, t1, t2, t3, t4, t5, t6, t7, t8, t9, t10, t11, t12, t13, t14, t15, t16, t17, t18, v1, v2, v3, v4, v5, v6, v7, v8, v9, v10, v11, v12, t31, t32, t33, t34, t35, t36, t37, t38, t39] H12 g12) := by kernel_rfl
theorem w39_14_12 {pol : Nat → Pol} {cl : CallW} {t0 t1 t2 t3 t4 t5 t6 t7 t8 t9 t10 t11 t12 t13 t14 t15 t16 t17 t18 t19 t20 t21 t22 t23 t24 t25 t26 t27 t28 t29 t30 t31 t32 t33 t34 t35 t36 t37 t38 t39 : V} {H : Heap} {lg : Log} {Q : List V → Heap → Log → Prop} : wOpsL Try.prog pol cl o39_14 d39_14_12 12 [t0, t1, t2, t3, t4, t5, t6, t7, t8, t9, t10, t11, t12, t13, t14, t15, t16, t17, t18, t19, t20, t21, t22, t23, t24, t25, t26, t27, t28, t29, t30, t31, t32, t33, t34, t35, t36, t37, t38, t39] H lg Q = (
  stepL (pureO t0) H lg 12 fun v1 H1 g1 =>
  stepL (nilO v1) H1 g1 13 fun v2 H2 g2 =>
  stepL (evFieldAddr Try.prog 41 v2 1) H2 g2 14 fun v3 H3 g3 =>
  stepL (evLoad Try.prog H3 39 v3) H3 g3 15 fun v4 H4 g4 =>
  stepL (pureO t4) H4 g4 16 fun v5 H5 g5 =>
  stepL (evIndexAddr Try.prog 39 v4 v5) H5 g5 17 fun v6 H6 g6 =>
  stepL (evFieldAddr Try.prog 72 v6 1) H6 g6 18 fun v7 H7 g7 =>
  stepL (evLoad Try.prog H7 9 v7) H7 g7 19 fun v8 H8 g8 =>
  stepL (evIndexAddr Try.prog 38 t22 t30) H8 g8 20 fun v9 H9 g9 =>
  stepL (evStore Try.prog H9 9 v9 v8) H9 g9 21 fun v10 H10 g10 =>
  Q [t0, t1, t2, t3, t4, t5, t6, t7, t8, t9, t10, t11, t12, t13, t14, t15, t16, t17, t18, t19, t20, t21, t22, t23, t24, t25, t26, t27, t28, t29, t30, v1, v2, v3, v4, v5, v6, v7, v8, v9] H10 g10) := by kernel_rfl
theorem w39_15 {pol : Nat → Pol} {cl : CallW} {lp : LoopW} {env : List V} {H : Heap} {Q : KQ} : wC Try.prog pol cl lp c39_15 env H Q = wOps Try.prog pol cl o39_15 d39_15_0 0 env H (Q .nrm) := wC_reg (i := 3) (by kernel_rfl) rfl
theorem w39_15_0 {pol : Nat → Pol} {cl : CallW} {t0 t1 t2 t3 t4 t5 t6 t7 t8 t9 t10 t11 t12 t13 t14 t15 t16 t17 t18 t19 t20 t21 t22 t23 t24 t25 t26 t27 t28 t29 t30 t31 t32 t33 t34 t35 t36 t37 t38 t39 : V} {H : Heap} {Q : List V → Heap → Prop} : wOps Try.prog pol cl o39_15 d39_15_0 0 [t0, t1, t2, t3, t4, t5, t6, t7, t8, t9, t10, t11, t12, t13, t14, t15, t16, t17, t18, t19, t20, t21, t22, t23, t24, t25, t26, t27, t28, t29, t30, t31, t32, t33, t34, t35, t36, t37, t38, t39] H Q = (
  stepW (liftO (evBin Try.prog 3 .add t4 (.int .i64 1))) H fun v1 H1 =>
  Q [t0, t1, t2, t3, v1, t5, t6, t7, t8, t9, t10, t11, t12, t13, t14, t15, t16, t4, v1, t19, t20, t21, t22, t23, t24, t25, t26, t27, t28, t29, t30, t31, t32, t33, t34, t35, t36, t37, t38, t39] H1) := by kernel_rfl
-- (*incipit/incipitref27.Disk).Seen
noncomputable def c37_0 : Code := cAt [] (bodyOf Try.f37)
noncomputable def c37_1 : Code := cAt [0] (bodyOf Try.f37)
noncomputable def o37_1 : Array Oper := opsOf c37_1
noncomputable def d37_1_0 : List Oper := o37_1.toList
noncomputable def c37_2 : Code := cAt [1] (bodyOf Try.f37)
noncomputable def c37_3 : Code := cAt [1, 0] (bodyOf Try.f37)
noncomputable def o37_3 : Array Oper := opsOf c37_3
noncomputable def d37_3_0 : List Oper := o37_3.toList
noncomputable def c37_4 : Code := cAt [1, 1] (bodyOf Try.f37)
noncomputable def c37_5 : Code := cAt [1, 1, 0] (bodyOf Try.f37)
noncomputable def c37_6 : Code := cAt [1, 1, 0, 0] (bodyOf Try.f37)
noncomputable def o37_6 : Array Oper := opsOf c37_6
noncomputable def d37_6_0 : List Oper := o37_6.toList
noncomputable def c37_7 : Code := cAt [1, 1, 0, 1] (bodyOf Try.f37)
noncomputable def c37_8 : Code := cAt [1, 1, 0, 1, 0] (bodyOf Try.f37)
noncomputable def c37_9 : Code := cAt [1, 1, 0, 1, 0, 0] (bodyOf Try.f37)
noncomputable def c37_10 : Code := cAt [1, 1, 0, 1, 0, 0, 0] (bodyOf Try.f37)
noncomputable def c37_11 : Code := cAt [1, 1, 0, 1, 0, 0, 0, 0] (bodyOf Try.f37)
noncomputable def o37_11 : Array Oper := opsOf c37_11
noncomputable def d37_11_0 : List Oper := o37_11.toList
noncomputable def c37_12 : Code := cAt [1, 1, 0, 1, 0, 0, 0, 1] (bodyOf Try.f37)
noncomputable def c37_13 : Code := cAt [1, 1, 0, 1, 0, 0, 0, 1, 0] (bodyOf Try.f37)
noncomputable def c37_14 : Code := cAt [1, 1, 0, 1, 0, 0, 0, 1, 1] (bodyOf Try.f37)
noncomputable def c37_15 : Code := cAt [1, 1, 0, 1, 0, 0, 1] (bodyOf Try.f37)
noncomputable def c37_16 : Code := cAt [1, 1, 0, 1, 0, 0, 1, 0] (bodyOf Try.f37)
noncomputable def c37_17 : Code := cAt [1, 1, 0, 1, 0, 0, 1, 0, 0] (bodyOf Try.f37)
noncomputable def c37_18 : Code := cAt [1, 1, 0, 1, 0, 0, 1, 0, 0, 0] (bodyOf Try.f37)
noncomputable def o37_18 : Array Oper := opsOf c37_18
noncomputable def d37_18_0 : List Oper := o37_18.toList
noncomputable def c37_19 : Code := cAt [1, 1, 0, 1, 0, 0, 1, 0, 0, 1] (bodyOf Try.f37)
noncomputable def c37_20 : Code := cAt [1, 1, 0, 1, 0, 0, 1, 0, 0, 1, 0] (bodyOf Try.f37)
noncomputable def o37_20 : Array Oper := opsOf c37_20
noncomputable def d37_20_0 : List Oper := o37_20.toList
noncomputable def c37_21 : Code := cAt [1, 1, 0, 1, 0, 0, 1, 0, 0, 1, 1] (bodyOf Try.f37)
noncomputable def c37_22 : Code := cAt [1, 1, 0, 1, 0, 0, 1, 1] (bodyOf Try.f37)
noncomputable def o37_22 : Array Oper := opsOf c37_22
noncomputable def d37_22_0 : List Oper := o37_22.toList
noncomputable def c37_23 : Code := cAt [1, 1, 1] (bodyOf Try.f37)
noncomputable def c37_24 : Code := cAt [1, 1, 1, 0] (bodyOf Try.f37)
noncomputable def o37_24 : Array Oper := opsOf c37_24
noncomputable def d37_24_0 : List Oper := o37_24.toList
noncomputable def c37_25 : Code := cAt [1, 1, 1, 1] (bodyOf Try.f37)
theorem w37_0 {pol : Nat → Pol} {cl : CallW} {lp : LoopW} {env : List V} {H : Heap} {Q : KQ} : wC Try.prog pol cl lp c37_0 env H Q = wC Try.prog pol cl lp c37_1 env H (seqK Try.prog pol cl lp c37_2 Q) := wC_seq (by kernel_rfl)
theorem w37_1 {pol : Nat → Pol} {cl : CallW} {lp : LoopW} {env : List V} {H : Heap} {Q : KQ} : wC Try.prog pol cl lp c37_1 env H Q = wOps Try.prog pol cl o37_1 d37_1_0 0 env H (Q .nrm) := wC_reg (i := 0) (by kernel_rfl) rfl
theorem w37_1_0 {pol : Nat → Pol} {cl : CallW} {t0 t1 t2 t3 t4 t5 t6 t7 t8 t9 t10 t11 t12 t13 t14 t15 t16 t17 t18 t19 t20 t21 t22 t23 t24 t25 t26 t27 t28 t29 t30 t31 t32 t33 t34 t35 t36 t37 t38 t39 t40 t41 : V} {H : Heap} {Q : List V → Heap → Prop} : wOps Try.prog pol cl o37_1 d37_1_0 0 [t0, t1, t2, t3, t4, t5, t6, t7, t8, t9, t10, t11, t12, t13, t14, t15, t16, t17, t18, t19, t20, t21, t22, t23, t24, t25, t26, t27, t28, t29, t30, t31, t32, t33, t34, t35, t36, t37, t38, t39, t40, t41] H Q = (
  Q [t0, t1, t2, t3, (ofVal ((Value.string { data := #[] }))), t5, t6, t7, t8, t9, t10, t11, t12, t13, t14, t15, t16, t17, t18, t19, t20, t21, t22, t23, t24, t25, t26, t27, t28, t29, t30, t31, t32, t33, t34, t35, t36, t37, t38, t39, t40, t41] H) := by kernel_rfl
theorem w37_2 {pol : Nat → Pol} {cl : CallW} {lp : LoopW} {env : List V} {H : Heap} {Q : KQ} : wC Try.prog pol cl lp c37_2 env H Q = wC Try.prog pol cl lp c37_3 env H (seqK Try.prog pol cl lp c37_4 Q) := wC_seq (by kernel_rfl)
theorem w37_3 {pol : Nat → Pol} {cl : CallW} {lp : LoopW} {env : List V} {H : Heap} {Q : KQ} : wC Try.prog pol cl lp c37_3 env H Q = wOps Try.prog pol cl o37_3 d37_3_0 0 env H (Q .nrm) := wC_reg (i := 1) (by kernel_rfl) rfl
theorem w37_3_0 {pol : Nat → Pol} {cl : CallW} {t0 t1 t2 t3 t4 t5 t6 t7 t8 t9 t10 t11 t12 t13 t14 t15 t16 t17 t18 t19 t20 t21 t22 t23 t24 t25 t26 t27 t28 t29 t30 t31 t32 t33 t34 t35 t36 t37 t38 t39 t40 t41 : V} {H : Heap} {Q : List V → Heap → Prop} : wOps Try.prog pol cl o37_3 d37_3_0 0 [t0, t1, t2, t3, t4, t5, t6, t7, t8, t9, t10, t11, t12, t13, t14, t15, t16, t17, t18, t19, t20, t21, t22, t23, t24, t25, t26, t27, t28, t29, t30, t31, t32, t33, t34, t35, t36, t37, t38, t39, t40, t41] H Q = (
  stepW (nilO t0) H fun v1 H1 =>
  stepW (evFieldAddr Try.prog 41 v1 0) H1 fun v2 H2 =>
  stepW (evLoad Try.prog H2 38 v2) H2 fun v3 H3 =>
  stepW (evIndexAddr Try.prog 38 v3 t1) H3 fun v4 H4 =>
  stepW (evLoad Try.prog H4 9 v4) H4 fun v5 H5 =>
  Q [t0, t1, t2, t3, t4, v5, t6, t0, v1, v2, v3, t1, v4, v5, t14, t15, t16, t17, t18, t19, t20, t21, t22, t23, t24, t25, t26, t27, t28, t29, t30, t31, t32, t33, t34, t35, t36, t37, t38, t39, t40, t41] H5) := by kernel_rfl
theorem w37_4 {pol : Nat → Pol} {cl : CallW} {lp : LoopW} {env : List V} {H : Heap} {Q : KQ} : wC Try.prog pol cl lp c37_4 env H Q = wC Try.prog pol cl lp c37_5 env H (seqK Try.prog pol cl lp c37_23 Q) := wC_seq (by kernel_rfl)
theorem w37_5 {pol : Nat → Pol} {cl : CallW} {lp : LoopW} {env : List V} {H : Heap} {Q : KQ} : wC Try.prog pol cl lp c37_5 env H Q = wC Try.prog pol cl lp c37_6 env H (seqK Try.prog pol cl lp c37_7 Q) := wC_seq (by kernel_rfl)
theorem w37_6 {pol : Nat → Pol} {cl : CallW} {lp : LoopW} {env : List V} {H : Heap} {Q : KQ} : wC Try.prog pol cl lp c37_6 env H Q = wOps Try.prog pol cl o37_6 d37_6_0 0 env H (Q .nrm) := wC_reg (i := 2) (by kernel_rfl) rfl
theorem w37_6_0 {pol : Nat → Pol} {cl : CallW} {t0 t1 t2 t3 t4 t5 t6 t7 t8 t9 t10 t11 t12 t13 t14 t15 t16 t17 t18 t19 t20 t21 t22 t23 t24 t25 t26 t27 t28 t29 t30 t31 t32 t33 t34 t35 t36 t37 t38 t39 t40 t41 : V} {H : Heap} {Q : List V → Heap → Prop} : wOps Try.prog pol cl o37_6 d37_6_0 0 [t0, t1, t2, t3, t4, t5, t6, t7, t8, t9, t10, t11, t12, t13, t14, t15, t16, t17, t18, t19, t20, t21, t22, t23, t24, t25, t26, t27, t28, t29, t30, t31, t32, t33, t34, t35, t36, t37, t38, t39, t40, t41] H Q = (
  Q [t0, t1, t2, t3, t4, t5, (.int .i64 0), t7, t8, t9, t10, t11, t12, t13, t14, t15, t16, t17, t18, t19, t20, t21, t22, t23, t24, t25, t26, t27, t28, t29, t30, t31, t32, t33, t34, t35, t36, t37, t38, t39, t40, t41] H) := by kernel_rfl
theorem w37_7 {pol : Nat → Pol} {cl : CallW} {lp : LoopW} {env : List V} {H : Heap} {Q : KQ} : wC Try.prog pol cl lp c37_7 env H Q = wC Try.prog pol cl lp c37_8 env H (blockK 0 Q) := wC_block (by kernel_rfl)
theorem w37_8 {pol : Nat → Pol} {cl : CallW} {lp : LoopW} {env : List V} {H : Heap} {Q : KQ} : wC Try.prog pol cl lp c37_8 env H Q = lp c37_9 env H Q := wC_loop (by kernel_rfl)
theorem w37_9 {pol : Nat → Pol} {cl : CallW} {lp : LoopW} {env : List V} {H : Heap} {Q : KQ} : wC Try.prog pol cl lp c37_9 env H Q = wC Try.prog pol cl lp c37_10 env H (seqK Try.prog pol cl lp c37_15 Q) := wC_seq (by kernel_rfl)
theorem w37_10 {pol : Nat → Pol} {cl : CallW} {lp : LoopW} {env : List V} {H : Heap} {Q : KQ} : wC Try.prog pol cl lp c37_10 env H Q = wC Try.prog pol cl lp c37_11 env H (seqK Try.prog pol cl lp c37_12 Q) := wC_seq (by kernel_rfl)
theorem w37_11 {pol : Nat → Pol} {cl : CallW} {lp : LoopW} {env : List V} {H : Heap} {Q : KQ} : wC Try.prog pol cl lp c37_11 env H Q = wOps Try.prog pol cl o37_11 d37_11_0 0 env H (Q .nrm) := wC_reg (i := 3) (by kernel_rfl) rfl
theorem w37_11_0 {pol : Nat → Pol} {cl : CallW} {t0 t1 t2 t3 t4 t5 t6 t7 t8 t9 t10 t11 t12 t13 t14 t15 t16 t17 t18 t19 t20 t21 t22 t23 t24 t25 t26 t27 t28 t29 t30 t31 t32 t33 t34 t35 t36 t37 t38 t39 t40 t41 : V} {H : Heap} {Q : List V → Heap → Prop} : wOps Try.prog pol cl o37_11 d37_11_0 0 [t0, t1, t2, t3, t4, t5, t6, t7, t8, t9, t10, t11, t12, t13, t14, t15, t16, t17, t18, t19, t20, t21, t22, t23, t24, t25, t26, t27, t28, t29, t30, t31, t32, t33, t34, t35, t36, t37, t38, t39, t40, t41] H Q = (
  stepW (nilO t0) H fun v1 H1 =>
  stepW (evFieldAddr Try.prog 41 v1 1) H1 fun v2 H2 =>
  stepW (evLoad Try.prog H2 39 v2) H2 fun v3 H3 =>
  stepW (evLen Try.prog 39 v3) H3 fun v4 H4 =>
  stepW (liftO (evBin Try.prog 3 .lss t6 v4)) H4 fun v5 H5 =>
  Q [t0, t1, t2, t3, t4, t5, t6, t7, t8, t9, t10, t11, t12, t13, t6, t0, v1, v2, v3, v4, v5, t21, t22, t23, t24, t25, t26, t27, t28, t29, t30, t31, t32, t33, t34, t35, t36, t37, t38, t39, t40, t41] H5) := by kernel_rfl
theorem w37_12 {pol : Nat → Pol} {cl : CallW} {lp : LoopW} {env : List V} {H : Heap} {Q : KQ} : wC Try.prog pol cl lp c37_12 env H Q = condW (evOperand env (Operand.tmp 20)) (wC Try.prog pol cl lp c37_13 env H Q) (wC Try.prog pol cl lp c37_14 env H Q) := wC_cond (by kernel_rfl)
theorem w37_13 {pol : Nat → Pol} {cl : CallW} {lp : LoopW} {env : List V} {H : Heap} {Q : KQ} : wC Try.prog pol cl lp c37_13 env H Q = Q .nrm env H := wC_skip (by kernel_rfl)
theorem w37_14 {pol : Nat → Pol} {cl : CallW} {lp : LoopW} {env : List V} {H : Heap} {Q : KQ} : wC Try.prog pol cl lp c37_14 env H Q = Q (.exit 0) env H := wC_exit (by kernel_rfl)
theorem w37_15 {pol : Nat → Pol} {cl : CallW} {lp : LoopW} {env : List V} {H : Heap} {Q : KQ} : wC Try.prog pol cl lp c37_15 env H Q = wC Try.prog pol cl lp c37_16 env H (seqK Try.prog pol cl lp c37_22 Q) := wC_seq (by kernel_rfl)
theorem w37_16 {pol : Nat → Pol} {cl : CallW} {lp : LoopW} {env : List V} {H : Heap} {Q : KQ} : wC Try.prog pol cl lp c37_16 env H Q = wC Try.prog pol cl lp c37_17 env H (blockK 1 Q) := wC_block (by kernel_rfl)
theorem w37_17 {pol : Nat → Pol} {cl : CallW} {lp : LoopW} {env : List V} {H : Heap} {Q : KQ} : wC Try.prog pol cl lp c37_17 env H Q = wC Try.prog pol cl lp c37_18 env H (seqK Try.prog pol cl lp c37_19 Q) := wC_seq (by kernel_rfl)
theorem w37_18 {pol : Nat → Pol} {cl : CallW} {lp : LoopW} {env : List V} {H : Heap} {Q : KQ} : wC Try.prog pol cl lp c37_18 env H Q = wOps Try.prog pol cl o37_18 d37_18_0 0 env H (Q .nrm) := wC_reg (i := 5) (by kernel_rfl) rfl
theorem w37_18_0 {pol : Nat → Pol} {cl : CallW} {t0 t1 t2 t3 t4 t5 t6 t7 t8 t9 t10 t11 t12 t13 t14 t15 t16 t17 t18 t19 t20 t21 t22 t23 t24 t25 t26 t27 t28 t29 t30 t31 t32 t33 t34 t35 t36 t37 t38 t39 t40 t41 : V} {H : Heap} {Q : List V → Heap → Prop} : wOps Try.prog pol cl o37_18 d37_18_0 0 [t0, t1, t2, t3, t4, t5, t6, t7, t8, t9, t10, t11, t12, t13, t14, t15, t16, t17, t18, t19, t20, t21, t22, t23, t24, t25, t26, t27, t28, t29, t30, t31, t32, t33, t34, t35, t36, t37, t38, t39, t40, t41] H Q = (
  stepW (nilO t0) H fun v1 H1 =>
  stepW (evFieldAddr Try.prog 41 v1 1) H1 fun v2 H2 =>
  stepW (evLoad Try.prog H2 39 v2) H2 fun v3 H3 =>
  stepW (evIndexAddr Try.prog 39 v3 t6) H3 fun v4 H4 =>
  stepW (evFieldAddr Try.prog 72 v4 0) H4 fun v5 H5 =>
  stepW (evLoad Try.prog H5 3 v5) H5 fun v6 H6 =>
  stepW (liftO (evBin Try.prog 3 .eql v6 t1)) H6 fun v7 H7 =>
  Q [t0, t1, t2, t3, t4, t5, t6, t7, t8, t9, t10, t11, t12, t13, t14, t15, t16, t17, t18, t19, t20, t21, t22, t0, v1, v2, v3, t6, v4, v5, v6, t1, v7, t33, t34, t35, t36, t37, t38, t39, t40, t41] H7) := by kernel_rfl
theorem w37_19 {pol : Nat → Pol} {cl : CallW} {lp : LoopW} {env : List V} {H : Heap} {Q : KQ} : wC Try.prog pol cl lp c37_19 env H Q = condW (evOperand env (Operand.tmp 32)) (wC Try.prog pol cl lp c37_20 env H Q) (wC Try.prog pol cl lp c37_21 env H Q) := wC_cond (by kernel_rfl)
theorem w37_20 {pol : Nat → Pol} {cl : CallW} {lp : LoopW} {env : List V} {H : Heap} {Q : KQ} : wC Try.prog pol cl lp c37_20 env H Q = wOps Try.prog pol cl o37_20 d37_20_0 0 env H (Q .nrm) := wC_reg (i := 6) (by kernel_rfl) rfl
theorem w37_20_0 {pol : Nat → Pol} {cl : CallW} {t0 t1 t2 t3 t4 t5 t6 t7 t8 t9 t10 t11 t12 t13 t14 t15 t16 t17 t18 t19 t20 t21 t22 t23 t24 t25 t26 t27 t28 t29 t30 t31 t32 t33 t34 t35 t36 t37 t38 t39 t40 t41 : V} {H : Heap} {Q : List V → Heap → Prop} : wOps Try.prog pol cl o37_20 d37_20_0 0 [t0, t1, t2, t3, t4, t5, t6, t7, t8, t9, t10, t11, t12, t13, t14, t15, t16, t17, t18, t19, t20, t21, t22, t23, t24, t25, t26, t27, t28, t29, t30, t31, t32, t33, t34, t35, t36, t37, t38, t39, t40, t41] H Q = (
  stepW (nilO t0) H fun v1 H1 =>
  stepW (evFieldAddr Try.prog 41 v1 1) H1 fun v2 H2 =>
  stepW (evLoad Try.prog H2 39 v2) H2 fun v3 H3 =>
  stepW (evIndexAddr Try.prog 39 v3 t6) H3 fun v4 H4 =>
  stepW (evFieldAddr Try.prog 72 v4 1) H4 fun v5 H5 =>
  stepW (evLoad Try.prog H5 9 v5) H5 fun v6 H6 =>
  Q [t0, t1, t2, t3, t4, v6, t6, t7, t8, t9, t10, t11, t12, t13, t14, t15, t16, t17, t18, t19, t20, t21, t22, t23, t24, t25, t26, t27, t28, t29, t30, t31, t32, t0, v1, v2, v3, t6, v4, v5, v6, t41] H6) := by kernel_rfl
theorem w37_21 {pol : Nat → Pol} {cl : CallW} {lp : LoopW} {env : List V} {H : Heap} {Q : KQ} : wC Try.prog pol cl lp c37_21 env H Q = Q .nrm env H := wC_skip (by kernel_rfl)
theorem w37_22 {pol : Nat → Pol} {cl : CallW} {lp : LoopW} {env : List V} {H : Heap} {Q : KQ} : wC Try.prog pol cl lp c37_22 env H Q = wOps Try.prog pol cl o37_22 d37_22_0 0 env H (Q .nrm) := wC_reg (i := 4) (by kernel_rfl) rfl
theorem w37_22_0 {pol : Nat → Pol} {cl : CallW} {t0 t1 t2 t3 t4 t5 t6 t7 t8 t9 t10 t11 t12 t13 t14 t15 t16 t17 t18 t19 t20 t21 t22 t23 t24 t25 t26 t27 t28 t29 t30 t31 t32 t33 t34 t35 t36 t37 t38 t39 t40 t41 : V} {H : Heap} {Q : List V → Heap → Prop} : wOps Try.prog pol cl o37_22 d37_22_0 0 [t0, t1, t2, t3, t4, t5, t6, t7, t8, t9, t10, t11, t12, t13, t14, t15, t16, t17, t18, t19, t20, t21, t22, t23, t24, t25, t26, t27, t28, t29, t30, t31, t32, t33, t34, t35, t36, t37, t38, t39, t40, t41] H Q = (
  stepW (liftO (evBin Try.prog 3 .add t6 (.int .i64 1))) H fun v1 H1 =>
  Q [t0, t1, t2, t3, t4, t5, v1, t7, t8, t9, t10, t11, t12, t13, t14, t15, t16, t17, t18, t19, t20, t6, v1, t23, t24, t25, t26, t27, t28, t29, t30, t31, t32, t33, t34, t35, t36, t37, t38, t39, t40, t41] H1) := by kernel_rfl
theorem w37_23 {pol : Nat → Pol} {cl : CallW} {lp : LoopW} {env : List V} {H : Heap} {Q : KQ} : wC Try.prog pol cl lp c37_23 env H Q = wC Try.prog pol cl lp c37_24 env H (seqK Try.prog pol cl lp c37_25 Q) := wC_seq (by kernel_rfl)
theorem w37_24 {pol : Nat → Pol} {cl : CallW} {lp : LoopW} {env : List V} {H : Heap} {Q : KQ} : wC Try.prog pol cl lp c37_24 env H Q = wOps Try.prog pol cl o37_24 d37_24_0 0 env H (Q .nrm) := wC_reg (i := 7) (by kernel_rfl) rfl
theorem w37_24_0 {pol : Nat → Pol} {cl : CallW} {t0 t1 t2 t3 t4 t5 t6 t7 t8 t9 t10 t11 t12 t13 t14 t15 t16 t17 t18 t19 t20 t21 t22 t23 t24 t25 t26 t27 t28 t29 t30 t31 t32 t33 t34 t35 t36 t37 t38 t39 t40 t41 : V} {H : Heap} {Q : List V → Heap → Prop} : wOps Try.prog pol cl o37_24 d37_24_0 0 [t0, t1, t2, t3, t4, t5, t6, t7, t8, t9, t10, t11, t12, t13, t14, t15, t16, t17, t18, t19, t20, t21, t22, t23, t24, t25, t26, t27, t28, t29, t30, t31, t32, t33, t34, t35, t36, t37, t38, t39, t40, t41] H Q = (
  Q [t0, t1, t2, t3, t5, t5, t6, t7, t8, t9, t10, t11, t12, t13, t14, t15, t16, t17, t18, t19, t20, t21, t22, t23, t24, t25, t26, t27, t28, t29, t30, t31, t32, t33, t34, t35, t36, t37, t38, t39, t40, t5] H) := by kernel_rfl
theorem w37_25 {pol : Nat → Pol} {cl : CallW} {lp : LoopW} {env : List V} {H : Heap} {Q : KQ} : wC Try.prog pol cl lp c37_25 env H Q = Q .ret env H := wC_ret (by kernel_rfl)
-- (*incipit/incipitref27.Disk).Read
noncomputable def c27_0 : Code := cAt [] (bodyOf Try.f27)
noncomputable def c27_1 : Code := cAt [0] (bodyOf Try.f27)
noncomputable def o27_1 : Array Oper := opsOf c27_1
noncomputable def d27_1_0 : List Oper := o27_1.toList
noncomputable def c27_2 : Code := cAt [1] (bodyOf Try.f27)
noncomputable def c27_3 : Code := cAt [1, 0] (bodyOf Try.f27)
noncomputable def c27_4 : Code := cAt [1, 0, 0] (bodyOf Try.f27)
noncomputable def o27_4 : Array Oper := opsOf c27_4
noncomputable def d27_4_0 : List Oper := o27_4.toList
noncomputable def c27_5 : Code := cAt [1, 0, 1] (bodyOf Try.f27)
noncomputable def c27_6 : Code := cAt [1, 0, 1, 0] (bodyOf Try.f27)
noncomputable def c27_7 : Code := cAt [1, 0, 1, 0, 0] (bodyOf Try.f27)
noncomputable def o27_7 : Array Oper := opsOf c27_7
noncomputable def d27_7_0 : List Oper := o27_7.toList
noncomputable def c27_8 : Code := cAt [1, 0, 1, 0, 1] (bodyOf Try.f27)
noncomputable def c27_9 : Code := cAt [1, 0, 1, 1] (bodyOf Try.f27)
noncomputable def c27_10 : Code := cAt [1, 1] (bodyOf Try.f27)
noncomputable def c27_11 : Code := cAt [1, 1, 0] (bodyOf Try.f27)
noncomputable def c27_12 : Code := cAt [1, 1, 0, 0] (bodyOf Try.f27)
noncomputable def o27_12 : Array Oper := opsOf c27_12
noncomputable def d27_12_0 : List Oper := o27_12.toList
noncomputable def c27_13 : Code := cAt [1, 1, 0, 1] (bodyOf Try.f27)
noncomputable def c27_14 : Code := cAt [1, 1, 0, 1, 0] (bodyOf Try.f27)
noncomputable def c27_15 : Code := cAt [1, 1, 0, 1, 0, 0] (bodyOf Try.f27)
noncomputable def o27_15 : Array Oper := opsOf c27_15
noncomputable def d27_15_0 : List Oper := o27_15.toList
noncomputable def c27_16 : Code := cAt [1, 1, 0, 1, 0, 1] (bodyOf Try.f27)
noncomputable def c27_17 : Code := cAt [1, 1, 0, 1, 1] (bodyOf Try.f27)
noncomputable def c27_18 : Code := cAt [1, 1, 1] (bodyOf Try.f27)
noncomputable def c27_19 : Code := cAt [1, 1, 1, 0] (bodyOf Try.f27)
noncomputable def o27_19 : Array Oper := opsOf c27_19
noncomputable def d27_19_0 : List Oper := o27_19.toList
noncomputable def c27_20 : Code := cAt [1, 1, 1, 1] (bodyOf Try.f27)
theorem w27_0 {pol : Nat → Pol} {cl : CallW} {lp : LoopW} {env : List V} {H : Heap} {Q : KQ} : wC Try.prog pol cl lp c27_0 env H Q = wC Try.prog pol cl lp c27_1 env H (seqK Try.prog pol cl lp c27_2 Q) := wC_seq (by kernel_rfl)
theorem w27_1 {pol : Nat → Pol} {cl : CallW} {lp : LoopW} {env : List V} {H : Heap} {Q : KQ} : wC Try.prog pol cl lp c27_1 env H Q = wOps Try.prog pol cl o27_1 d27_1_0 0 env H (Q .nrm) := wC_reg (i := 0) (by kernel_rfl) rfl
theorem w27_1_0 {pol : Nat → Pol} {cl : CallW} {t0 t1 t2 t3 t4 t5 t6 t7 t8 t9 t10 t11 t12 t13 t14 t15 t16 t17 t18 t19 t20 t21 t22 t23 : V} {H : Heap} {Q : List V → Heap → Prop} : wOps Try.prog pol cl o27_1 d27_1_0 0 [t0, t1, t2, t3, t4, t5, t6, t7, t8, t9, t10, t11, t12, t13, t14, t15, t16, t17, t18, t19, t20, t21, t22, t23] H Q = (
  Q [t0, t1, t2, t3, (ofVal ((Value.string { data := #[] }))), (.int .i64 0), t6, t7, t8, t9, t10, t11, t12, t13, t14, t15, t16, t17, t18, t19, t20, t21, t22, t23] H) := by kernel_rfl
theorem w27_2 {pol : Nat → Pol} {cl : CallW} {lp : LoopW} {env : List V} {H : Heap} {Q : KQ} : wC Try.prog pol cl lp c27_2 env H Q = wC Try.prog pol cl lp c27_3 env H (seqK Try.prog pol cl lp c27_10 Q) := wC_seq (by kernel_rfl)
theorem w27_3 {pol : Nat → Pol} {cl : CallW} {lp : LoopW} {env : List V} {H : Heap} {Q : KQ} : wC Try.prog pol cl lp c27_3 env H Q = wC Try.prog pol cl lp c27_4 env H (seqK Try.prog pol cl lp c27_5 Q) := wC_seq (by kernel_rfl)
theorem w27_4 {pol : Nat → Pol} {cl : CallW} {lp : LoopW} {env : List V} {H : Heap} {Q : KQ} : wC Try.prog pol cl lp c27_4 env H Q = wOps Try.prog pol cl o27_4 d27_4_0 0 env H (Q .nrm) := wC_reg (i := 1) (by kernel_rfl) rfl
theorem w27_4_0 {pol : Nat → Pol} {cl : CallW} {t0 t1 t2 t3 t4 t5 t6 t7 t8 t9 t10 t11 t12 t13 t14 t15 t16 t17 t18 t19 t20 t21 t22 t23 : V} {H : Heap} {Q : List V → Heap → Prop} : wOps Try.prog pol cl o27_4 d27_4_0 0 [t0, t1, t2, t3, t4, t5, t6, t7, t8, t9, t10, t11, t12, t13, t14, t15, t16, t17, t18, t19, t20, t21, t22, t23] H Q = (
  stepW (liftO (evBin Try.prog 3 .lss t1 (.int .i64 0))) H fun v1 H1 =>
  guardW v1 false H1 (fun q => q ⟨t1, [], []⟩) fun v2 H2 =>
  guardW v1 false H2 (fun q => q ⟨t0, [], []⟩) fun v3 H3 =>
  guardW v1 false H3 (outW (nilO v3)) fun v4 H4 =>
  guardW v1 false H4 (outW (evFieldAddr Try.prog 41 v4 0)) fun v5 H5 =>
  guardW v1 false H5 (outW (evLoad Try.prog H5 38 v5)) fun v6 H6 =>
  guardW v1 false H6 (outW (evLen Try.prog 38 v6)) fun v7 H7 =>
  guardW v1 false H7 (outW (liftO (evBin Try.prog 3 .geq v2 v7))) fun v8 H8 =>
  stepW (pickO v1 (.bool true) v8) H8 fun v9 H9 =>
  Q [t0, t1, t2, t3, t4, t5, t1, v1, v1, v2, v3, v4, v5, v6, v7, v8, v9, t17, t18, t19, t20, t21, t22, t23] H9) := by kernel_rfl
theorem w27_5 {pol : Nat → Pol} {cl : CallW} {lp : LoopW} {env : List V} {H : Heap} {Q : KQ} : wC Try.prog pol cl lp c27_5 env H Q = condW (evOperand env (Operand.tmp 16)) (wC Try.prog pol cl lp c27_6 env H Q) (wC Try.prog pol cl lp c27_9 env H Q) := wC_cond (by kernel_rfl)
theorem w27_6 {pol : Nat → Pol} {cl : CallW} {lp : LoopW} {env : List V} {H : Heap} {Q : KQ} : wC Try.prog pol cl lp c27_6 env H Q = wC Try.prog pol cl lp c27_7 env H (seqK Try.prog pol cl lp c27_8 Q) := wC_seq (by kernel_rfl)
theorem w27_7 {pol : Nat → Pol} {cl : CallW} {lp : LoopW} {env : List V} {H : Heap} {Q : KQ} : wC Try.prog pol cl lp c27_7 env H Q = wOps Try.prog pol cl o27_7 d27_7_0 0 env H (Q .nrm) := wC_reg (i := 2) (by kernel_rfl) rfl
theorem w27_7_0 {pol : Nat → Pol} {cl : CallW} {t0 t1 t2 t3 t4 t5 t6 t7 t8 t9 t10 t11 t12 t13 t14 t15 t16 t17 t18 t19 t20 t21 t22 t23 : V} {H : Heap} {Q : List V → Heap → Prop} : wOps Try.prog pol cl o27_7 d27_7_0 0 [t0, t1, t2, t3, t4, t5, t6, t7, t8, t9, t10, t11, t12, t13, t14, t15, t16, t17, t18, t19, t20, t21, t22, t23] H Q = (
  Q [t0, t1, t2, t3, (ofVal ((Value.string { data := #[] }))), (.int .i64 1), t6, t7, t8, t9, t10, t11, t12, t13, t14, t15, t16, t17, t18, t19, t20, t21, t22, t23] H) := by kernel_rfl
theorem w27_8 {pol : Nat → Pol} {cl : CallW} {lp : LoopW} {env : List V} {H : Heap} {Q : KQ} : wC Try.prog pol cl lp c27_8 env H Q = Q .ret env H := wC_ret (by kernel_rfl)
theorem w27_9 {pol : Nat → Pol} {cl : CallW} {lp : LoopW} {env : List V} {H : Heap} {Q : KQ} : wC Try.prog pol cl lp c27_9 env H Q = Q .nrm env H := wC_skip (by kernel_rfl)
theorem w27_10 {pol : Nat → Pol} {cl : CallW} {lp : LoopW} {env : List V} {H : Heap} {Q : KQ} : wC Try.prog pol cl lp c27_10 env H Q = wC Try.prog pol cl lp c27_11 env H (seqK Try.prog pol cl lp c27_18 Q) := wC_seq (by kernel_rfl)
theorem w27_11 {pol : Nat → Pol} {cl : CallW} {lp : LoopW} {env : List V} {H : Heap} {Q : KQ} : wC Try.prog pol cl lp c27_11 env H Q = wC Try.prog pol cl lp c27_12 env H (seqK Try.prog pol cl lp c27_13 Q) := wC_seq (by kernel_rfl)
theorem w27_12 {pol : Nat → Pol} {cl : CallW} {lp : LoopW} {env : List V} {H : Heap} {Q : KQ} : wC Try.prog pol cl lp c27_12 env H Q = wOps Try.prog pol cl o27_12 d27_12_0 0 env H (Q .nrm) := wC_reg (i := 3) (by kernel_rfl) rfl
theorem w27_12_0 {pol : Nat → Pol} {cl : CallW} {t0 t1 t2 t3 t4 t5 t6 t7 t8 t9 t10 t11 t12 t13 t14 t15 t16 t17 t18 t19 t20 t21 t22 t23 : V} {H : Heap} {Q : List V → Heap → Prop} : wOps Try.prog pol cl o27_12 d27_12_0 0 [t0, t1, t2, t3, t4, t5, t6, t7, t8, t9, t10, t11, t12, t13, t14, t15, t16, t17, t18, t19, t20, t21, t22, t23] H Q = (
  stepW (nilO t0) H fun v1 H1 =>
  stepW (evFieldAddr Try.prog 41 v1 4) H1 fun v2 H2 =>
  stepW (evLoad Try.prog H2 4 v2) H2 fun v3 H3 =>
  Q [t0, t1, t2, t3, t4, t5, t6, t7, t8, t9, t10, t11, t12, t13, t14, t15, t16, t0, v1, v2, v3, t21, t22, t23] H3) := by kernel_rfl
theorem w27_13 {pol : Nat → Pol} {cl : CallW} {lp : LoopW} {env : List V} {H : Heap} {Q : KQ} : wC Try.prog pol cl lp c27_13 env H Q = condW (evOperand env (Operand.tmp 20)) (wC Try.prog pol cl lp c27_14 env H Q) (wC Try.prog pol cl lp c27_17 env H Q) := wC_cond (by kernel_rfl)
theorem w27_14 {pol : Nat → Pol} {cl : CallW} {lp : LoopW} {env : List V} {H : Heap} {Q : KQ} : wC Try.prog pol cl lp c27_14 env H Q = wC Try.prog pol cl lp c27_15 env H (seqK Try.prog pol cl lp c27_16 Q) := wC_seq (by kernel_rfl)
theorem w27_15 {pol : Nat → Pol} {cl : CallW} {lp : LoopW} {env : List V} {H : Heap} {Q : KQ} : wC Try.prog pol cl lp c27_15 env H Q = wOps Try.prog pol cl o27_15 d27_15_0 0 env H (Q .nrm) := wC_reg (i := 4) (by kernel_rfl) rfl
theorem w27_15_0 {pol : Nat → Pol} {cl : CallW} {t0 t1 t2 t3 t4 t5 t6 t7 t8 t9 t10 t11 t12 t13 t14 t15 t16 t17 t18 t19 t20 t21 t22 t23 : V} {H : Heap} {Q : List V → Heap → Prop} : wOps Try.prog pol cl o27_15 d27_15_0 0 [t0, t1, t2, t3, t4, t5, t6, t7, t8, t9, t10, t11, t12, t13, t14, t15, t16, t17, t18, t19, t20, t21, t22, t23] H Q = (
  Q [t0, t1, t2, t3, (ofVal ((Value.string { data := #[] }))), (.int .i64 11), t6, t7, t8, t9, t10, t11, t12, t13, t14, t15, t16, t17, t18, t19, t20, t21, t22, t23] H) := by kernel_rfl
theorem w27_16 {pol : Nat → Pol} {cl : CallW} {lp : LoopW} {env : List V} {H : Heap} {Q : KQ} : wC Try.prog pol cl lp c27_16 env H Q = Q .ret env H := wC_ret (by kernel_rfl)
theorem w27_17 {pol : Nat → Pol} {cl : CallW} {lp : LoopW} {env : List V} {H : Heap} {Q : KQ} : wC Try.prog pol cl lp c27_17 env H Q = Q .nrm env H := wC_skip (by kernel_rfl)
theorem w27_18 {pol : Nat → Pol} {cl : CallW} {lp : LoopW} {env : List V} {H : Heap} {Q : KQ} : wC Try.prog pol cl lp c27_18 env H Q = wC Try.prog pol cl lp c27_19 env H (seqK Try.prog pol cl lp c27_20 Q) := wC_seq (by kernel_rfl)
theorem w27_19 {pol : Nat → Pol} {cl : CallW} {lp : LoopW} {env : List V} {H : Heap} {Q : KQ} : wC Try.prog pol cl lp c27_19 env H Q = wOps Try.prog pol cl o27_19 d27_19_0 0 env H (Q .nrm) := wC_reg (i := 5) (by kernel_rfl) rfl
theorem w27_19_0 {pol : Nat → Pol} {cl : CallW} {t0 t1 t2 t3 t4 t5 t6 t7 t8 t9 t10 t11 t12 t13 t14 t15 t16 t17 t18 t19 t20 t21 t22 t23 : V} {H : Heap} {Q : List V → Heap → Prop} : wOps Try.prog pol cl o27_19 d27_19_0 0 [t0, t1, t2, t3, t4, t5, t6, t7, t8, t9, t10, t11, t12, t13, t14, t15, t16, t17, t18, t19, t20, t21, t22, t23] H Q = (
  callW pol cl H 23 37 [t0, t1] fun v1 H1 =>
  Q [t0, t1, t2, t3, v1, (.int .i64 0), t6, t7, t8, t9, t10, t11, t12, t13, t14, t15, t16, t17, t18, t19, t20, t0, t1, v1] H1) := by kernel_rfl
theorem w27_20 {pol : Nat → Pol} {cl : CallW} {lp : LoopW} {env : List V} {H : Heap} {Q : KQ} : wC Try.prog pol cl lp c27_20 env H Q = Q .ret env H := wC_ret (by kernel_rfl)
-- (*incipit/incipitref27.Disk).Image
noncomputable def c17_0 : Code := cAt [] (bodyOf Try.f17)
noncomputable def c17_1 : Code := cAt [0] (bodyOf Try.f17)
noncomputable def o17_1 : Array Oper := opsOf c17_1
noncomputable def d17_1_0 : List Oper := o17_1.toList
noncomputable def c17_2 : Code := cAt [1] (bodyOf Try.f17)
noncomputable def c17_3 : Code := cAt [1, 0] (bodyOf Try.f17)
noncomputable def o17_3 : Array Oper := opsOf c17_3
noncomputable def d17_3_0 : List Oper := o17_3.toList
noncomputable def c17_4 : Code := cAt [1, 1] (bodyOf Try.f17)
noncomputable def c17_5 : Code := cAt [1, 1, 0] (bodyOf Try.f17)
noncomputable def c17_6 : Code := cAt [1, 1, 0, 0] (bodyOf Try.f17)
noncomputable def o17_6 : Array Oper := opsOf c17_6
noncomputable def d17_6_0 : List Oper := o17_6.toList
noncomputable def c17_7 : Code := cAt [1, 1, 0, 1] (bodyOf Try.f17)
noncomputable def c17_8 : Code := cAt [1, 1, 0, 1, 0] (bodyOf Try.f17)
noncomputable def c17_9 : Code := cAt [1, 1, 0, 1, 0, 0] (bodyOf Try.f17)
noncomputable def c17_10 : Code := cAt [1, 1, 0, 1, 0, 0, 0] (bodyOf Try.f17)
noncomputable def c17_11 : Code := cAt [1, 1, 0, 1, 0, 0, 0, 0] (bodyOf Try.f17)
noncomputable def o17_11 : Array Oper := opsOf c17_11
noncomputable def d17_11_0 : List Oper := o17_11.toList
noncomputable def c17_12 : Code := cAt [1, 1, 0, 1, 0, 0, 0, 1] (bodyOf Try.f17)
noncomputable def c17_13 : Code := cAt [1, 1, 0, 1, 0, 0, 0, 1, 0] (bodyOf Try.f17)
noncomputable def c17_14 : Code := cAt [1, 1, 0, 1, 0, 0, 0, 1, 1] (bodyOf Try.f17)
noncomputable def c17_15 : Code := cAt [1, 1, 0, 1, 0, 0, 1] (bodyOf Try.f17)
noncomputable def c17_16 : Code := cAt [1, 1, 0, 1, 0, 0, 1, 0] (bodyOf Try.f17)
noncomputable def c17_17 : Code := cAt [1, 1, 0, 1, 0, 0, 1, 0, 0] (bodyOf Try.f17)
noncomputable def o17_17 : Array Oper := opsOf c17_17
noncomputable def d17_17_0 : List Oper := o17_17.toList
noncomputable def c17_18 : Code := cAt [1, 1, 0, 1, 0, 0, 1, 1] (bodyOf Try.f17)
noncomputable def o17_18 : Array Oper := opsOf c17_18
noncomputable def d17_18_0 : List Oper := o17_18.toList
noncomputable def c17_19 : Code := cAt [1, 1, 1] (bodyOf Try.f17)
noncomputable def c17_20 : Code := cAt [1, 1, 1, 0] (bodyOf Try.f17)
noncomputable def o17_20 : Array Oper := opsOf c17_20
noncomputable def d17_20_0 : List Oper := o17_20.toList
noncomputable def c17_21 : Code := cAt [1, 1, 1, 1] (bodyOf Try.f17)
theorem w17_0 {pol : Nat → Pol} {cl : CallW} {lp : LoopW} {env : List V} {H : Heap} {Q : KQ} : wC Try.prog pol cl lp c17_0 env H Q = wC Try.prog pol cl lp c17_1 env H (seqK Try.prog pol cl lp c17_2 Q) := wC_seq (by kernel_rfl)
theorem w17_1 {pol : Nat → Pol} {cl : CallW} {lp : LoopW} {env : List V} {H : Heap} {Q : KQ} : wC Try.prog pol cl lp c17_1 env H Q = wOps Try.prog pol cl o17_1 d17_1_0 0 env H (Q .nrm) := wC_reg (i := 0) (by kernel_rfl) rfl
theorem w17_1_0 {pol : Nat → Pol} {cl : CallW} {t0 t1 t2 t3 t4 t5 t6 t7 t8 t9 t10 t11 t12 t13 t14 t15 t16 t17 t18 t19 t20 t21 t22 t23 : V} {H : Heap} {Q : List V → Heap → Prop} : wOps Try.prog pol cl o17_1 d17_1_0 0 [t0, t1, t2, t3, t4, t5, t6, t7, t8, t9, t10, t11, t12, t13, t14, t15, t16, t17, t18, t19, t20, t21, t22, t23] H Q = (
  Q [t0, t1, (ofVal ((Value.string { data := #[] }))), t3, t4, t5, t6, t7, t8, t9, t10, t11, t12, t13, t14, t15, t16, t17, t18, t19, t20, t21, t22, t23] H) := by kernel_rfl
theorem w17_2 {pol : Nat → Pol} {cl : CallW} {lp : LoopW} {env : List V} {H : Heap} {Q : KQ} : wC Try.prog pol cl lp c17_2 env H Q = wC Try.prog pol cl lp c17_3 env H (seqK Try.prog pol cl lp c17_4 Q) := wC_seq (by kernel_rfl)
theorem w17_3 {pol : Nat → Pol} {cl : CallW} {lp : LoopW} {env : List V} {H : Heap} {Q : KQ} : wC Try.prog pol cl lp c17_3 env H Q = wOps Try.prog pol cl o17_3 d17_3_0 0 env H (Q .nrm) := wC_reg (i := 1) (by kernel_rfl) rfl
theorem w17_3_0 {pol : Nat → Pol} {cl : CallW} {t0 t1 t2 t3 t4 t5 t6 t7 t8 t9 t10 t11 t12 t13 t14 t15 t16 t17 t18 t19 t20 t21 t22 t23 : V} {H : Heap} {Q : List V → Heap → Prop} : wOps Try.prog pol cl o17_3 d17_3_0 0 [t0, t1, t2, t3, t4, t5, t6, t7, t8, t9, t10, t11, t12, t13, t14, t15, t16, t17, t18, t19, t20, t21, t22, t23] H Q = (
  Q [t0, t1, t2, (ofVal ((Value.string { data := #[] }))), t4, t5, t6, t7, t8, t9, t10, t11, t12, t13, t14, t15, t16, t17, t18, t19, t20, t21, t22, t23] H) := by kernel_rfl
theorem w17_4 {pol : Nat → Pol} {cl : CallW} {lp : LoopW} {env : List V} {H : Heap} {Q : KQ} : wC Try.prog pol cl lp c17_4 env H Q = wC Try.prog pol cl lp c17_5 env H (seqK Try.prog pol cl lp c17_19 Q) := wC_seq (by kernel_rfl)
theorem w17_5 {pol : Nat → Pol} {cl : CallW} {lp : LoopW} {env : List V} {H : Heap} {Q : KQ} : wC Try.prog pol cl lp c17_5 env H Q = wC Try.prog pol cl lp c17_6 env H (seqK Try.prog pol cl lp c17_7 Q) := wC_seq (by kernel_rfl)
theorem w17_6 {pol : Nat → Pol} {cl : CallW} {lp : LoopW} {env : List V} {H : Heap} {Q : KQ} : wC Try.prog pol cl lp c17_6 env H Q = wOps Try.prog pol cl o17_6 d17_6_0 0 env H (Q .nrm) := wC_reg (i := 2) (by kernel_rfl) rfl
theorem w17_6_0 {pol : Nat → Pol} {cl : CallW} {t0 t1 t2 t3 t4 t5 t6 t7 t8 t9 t10 t11 t12 t13 t14 t15 t16 t17 t18 t19 t20 t21 t22 t23 : V} {H : Heap} {Q : List V → Heap → Prop} : wOps Try.prog pol cl o17_6 d17_6_0 0 [t0, t1, t2, t3, t4, t5, t6, t7, t8, t9, t10, t11, t12, t13, t14, t15, t16, t17, t18, t19, t20, t21, t22, t23] H Q = (
  Q [t0, t1, t2, t3, (.int .i64 0), t5, t6, t7, t8, t9, t10, t11, t12, t13, t14, t15, t16, t17, t18, t19, t20, t21, t22, t23] H) := by kernel_rfl
theorem w17_7 {pol : Nat → Pol} {cl : CallW} {lp : LoopW} {env : List V} {H : Heap} {Q : KQ} : wC Try.prog pol cl lp c17_7 env H Q = wC Try.prog pol cl lp c17_8 env H (blockK 0 Q) := wC_block (by kernel_rfl)
theorem w17_8 {pol : Nat → Pol} {cl : CallW} {lp : LoopW} {env : List V} {H : Heap} {Q : KQ} : wC Try.prog pol cl lp c17_8 env H Q = lp c17_9 env H Q := wC_loop (by kernel_rfl)
theorem w17_9 {pol : Nat → Pol} {cl : CallW} {lp : LoopW} {env : List V} {H : Heap} {Q : KQ} : wC Try.prog pol cl lp c17_9 env H Q = wC Try.prog pol cl lp c17_10 env H (seqK Try.prog pol cl lp c17_15 Q) := wC_seq (by kernel_rfl)
theorem w17_10 {pol : Nat → Pol} {cl : CallW} {lp : LoopW} {env : List V} {H : Heap} {Q : KQ} : wC Try.prog pol cl lp c17_10 env H Q = wC Try.prog pol cl lp c17_11 env H (seqK Try.prog pol cl lp c17_12 Q) := wC_seq (by kernel_rfl)
theorem w17_11 {pol : Nat → Pol} {cl : CallW} {lp : LoopW} {env : List V} {H : Heap} {Q : KQ} : wC Try.prog pol cl lp c17_11 env H Q = wOps Try.prog pol cl o17_11 d17_11_0 0 env H (Q .nrm) := wC_reg (i := 3) (by kernel_rfl) rfl
theorem w17_11_0 {pol : Nat → Pol} {cl : CallW} {t0 t1 t2 t3 t4 t5 t6 t7 t8 t9 t10 t11 t12 t13 t14 t15 t16 t17 t18 t19 t20 t21 t22 t23 : V} {H : Heap} {Q : List V → Heap → Prop} : wOps Try.prog pol cl o17_11 d17_11_0 0 [t0, t1, t2, t3, t4, t5, t6, t7, t8, t9, t10, t11, t12, t13, t14, t15, t16, t17, t18, t19, t20, t21, t22, t23] H Q = (
  stepW (nilO t0) H fun v1 H1 =>
  stepW (evFieldAddr Try.prog 41 v1 0) H1 fun v2 H2 =>
  stepW (evLoad Try.prog H2 38 v2) H2 fun v3 H3 =>
  stepW (evLen Try.prog 38 v3) H3 fun v4 H4 =>
  stepW (liftO (evBin Try.prog 3 .lss t4 v4)) H4 fun v5 H5 =>
  Q [t0, t1, t2, t3, t4, t4, t0, v1, v2, v3, v4, v5, t12, t13, t14, t15, t16, t17, t18, t19, t20, t21, t22, t23] H5) := by kernel_rfl
theorem w17_12 {pol : Nat → Pol} {cl : CallW} {lp : LoopW} {env : List V} {H : Heap} {Q : KQ} : wC Try.prog pol cl lp c17_12 env H Q = condW (evOperand env (Operand.tmp 11)) (wC Try.prog pol cl lp c17_13 env H Q) (wC Try.prog pol cl lp c17_14 env H Q) := wC_cond (by kernel_rfl)
theorem w17_13 {pol : Nat → Pol} {cl : CallW} {lp : LoopW} {env : List V} {H : Heap} {Q : KQ} : wC Try.prog pol cl lp c17_13 env H Q = Q .nrm env H := wC_skip (by kernel_rfl)
theorem w17_14 {pol : Nat → Pol} {cl : CallW} {lp : LoopW} {env : List V} {H : Heap} {Q : KQ} : wC Try.prog pol cl lp c17_14 env H Q = Q (.exit 0) env H := wC_exit (by kernel_rfl)
theorem w17_15 {pol : Nat → Pol} {cl : CallW} {lp : LoopW} {env : List V} {H : Heap} {Q : KQ} : wC Try.prog pol cl lp c17_15 env H Q = wC Try.prog pol cl lp c17_16 env H (seqK Try.prog pol cl lp c17_18 Q) := wC_seq (by kernel_rfl)
theorem w17_16 {pol : Nat → Pol} {cl : CallW} {lp : LoopW} {env : List V} {H : Heap} {Q : KQ} : wC Try.prog pol cl lp c17_16 env H Q = wC Try.prog pol cl lp c17_17 env H (blockK 1 Q) := wC_block (by kernel_rfl)
theorem w17_17 {pol : Nat → Pol} {cl : CallW} {lp : LoopW} {env : List V} {H : Heap} {Q : KQ} : wC Try.prog pol cl lp c17_17 env H Q = wOps Try.prog pol cl o17_17 d17_17_0 0 env H (Q .nrm) := wC_reg (i := 5) (by kernel_rfl) rfl
theorem w17_17_0 {pol : Nat → Pol} {cl : CallW} {t0 t1 t2 t3 t4 t5 t6 t7 t8 t9 t10 t11 t12 t13 t14 t15 t16 t17 t18 t19 t20 t21 t22 t23 : V} {H : Heap} {Q : List V → Heap → Prop} : wOps Try.prog pol cl o17_17 d17_17_0 0 [t0, t1, t2, t3, t4, t5, t6, t7, t8, t9, t10, t11, t12, t13, t14, t15, t16, t17, t18, t19, t20, t21, t22, t23] H Q = (
  stepW (nilO t0) H fun v1 H1 =>
  stepW (evFieldAddr Try.prog 41 v1 0) H1 fun v2 H2 =>
  stepW (evLoad Try.prog H2 38 v2) H2 fun v3 H3 =>
  stepW (evIndexAddr Try.prog 38 v3 t4) H3 fun v4 H4 =>
  stepW (evLoad Try.prog H4 9 v4) H4 fun v5 H5 =>
  stepW (liftO (evBin Try.prog 9 .add t3 v5)) H5 fun v6 H6 =>
  Q [t0, t1, t2, v6, t4, t5, t6, t7, t8, t9, t10, t11, t12, t13, t3, t0, v1, v2, v3, t4, v4, v5, v6, t23] H6) := by kernel_rfl
theorem w17_18 {pol : Nat → Pol} {cl : CallW} {lp : LoopW} {env : List V} {H : Heap} {Q : KQ} : wC Try.prog pol cl lp c17_18 env H Q = wOps Try.prog pol cl o17_18 d17_18_0 0 env H (Q .nrm) := wC_reg (i := 4) (by kernel_rfl) rfl
theorem w17_18_0 {pol : Nat → Pol} {cl : CallW} {t0 t1 t2 t3 t4 t5 t6 t7 t8 t9 t10 t11 t12 t13 t14 t15 t16 t17 t18 t19 t20 t21 t22 t23 : V} {H : Heap} {Q : List V → Heap → Prop} : wOps Try.prog pol cl o17_18 d17_18_0 0 [t0, t1, t2, t3, t4, t5, t6, t7, t8, t9, t10, t11, t12, t13, t14, t15, t16, t17, t18, t19, t20, t21, t22, t23] H Q = (
  stepW (liftO (evBin Try.prog 3 .add t4 (.int .i64 1))) H fun v1 H1 =>
  Q [t0, t1, t2, t3, v1, t5, t6, t7, t8, t9, t10, t11, t4, v1, t14, t15, t16, t17, t18, t19, t20, t21, t22, t23] H1) := by kernel_rfl
theorem w17_19 {pol : Nat → Pol} {cl : CallW} {lp : LoopW} {env : List V} {H : Heap} {Q : KQ} : wC Try.prog pol cl lp c17_19 env H Q = wC Try.prog pol cl lp c17_20 env H (seqK Try.prog pol cl lp c17_21 Q) := wC_seq (by kernel_rfl)
theorem w17_20 {pol : Nat → Pol} {cl : CallW} {lp : LoopW} {env : List V} {H : Heap} {Q : KQ} : wC Try.prog pol cl lp c17_20 env H Q = wOps Try.prog pol cl o17_20 d17_20_0 0 env H (Q .nrm) := wC_reg (i := 6) (by kernel_rfl) rfl
theorem w17_20_0 {pol : Nat → Pol} {cl : CallW} {t0 t1 t2 t3 t4 t5 t6 t7 t8 t9 t10 t11 t12 t13 t14 t15 t16 t17 t18 t19 t20 t21 t22 t23 : V} {H : Heap} {Q : List V → Heap → Prop} : wOps Try.prog pol cl o17_20 d17_20_0 0 [t0, t1, t2, t3, t4, t5, t6, t7, t8, t9, t10, t11, t12, t13, t14, t15, t16, t17, t18, t19, t20, t21, t22, t23] H Q = (
  Q [t0, t1, t3, t3, t4, t5, t6, t7, t8, t9, t10, t11, t12, t13, t14, t15, t16, t17, t18, t19, t20, t21, t22, t3] H) := by kernel_rfl
theorem w17_21 {pol : Nat → Pol} {cl : CallW} {lp : LoopW} {env : List V} {H : Heap} {Q : KQ} : wC Try.prog pol cl lp c17_21 env H Q = Q .ret env H := wC_ret (by kernel_rfl)
-- incipit/incipitref27.nought
noncomputable def c26_0 : Code := cAt [] (bodyOf Try.f26)
noncomputable def c26_1 : Code := cAt [0] (bodyOf Try.f26)
noncomputable def o26_1 : Array Oper := opsOf c26_1
noncomputable def d26_1_0 : List Oper := o26_1.toList
noncomputable def c26_2 : Code := cAt [1] (bodyOf Try.f26)
noncomputable def c26_3 : Code := cAt [1, 0] (bodyOf Try.f26)
noncomputable def o26_3 : Array Oper := opsOf c26_3
noncomputable def d26_3_0 : List Oper := o26_3.toList
noncomputable def c26_4 : Code := cAt [1, 1] (bodyOf Try.f26)
theorem w26_0 {pol : Nat → Pol} {cl : CallW} {lp : LoopW} {env : List V} {H : Heap} {Q : KQ} : wC Try.prog pol cl lp c26_0 env H Q = wC Try.prog pol cl lp c26_1 env H (seqK Try.prog pol cl lp c26_2 Q) := wC_seq (by kernel_rfl)
theorem w26_1 {pol : Nat → Pol} {cl : CallW} {lp : LoopW} {env : List V} {H : Heap} {Q : KQ} : wC Try.prog pol cl lp c26_1 env H Q = wOps Try.prog pol cl o26_1 d26_1_0 0 env H (Q .nrm) := wC_reg (i := 0) (by kernel_rfl) rfl
theorem w26_1_0 {pol : Nat → Pol} {cl : CallW} {t0 t1 t2 : V} {H : Heap} {Q : List V → Heap → Prop} : wOps Try.prog pol cl o26_1 d26_1_0 0 [t0, t1, t2] H Q = (
  Q [(ofVal ((Value.string { data := #[] }))), t1, t2] H) := by kernel_rfl
theorem w26_2 {pol : Nat → Pol} {cl : CallW} {lp : LoopW} {env : List V} {H : Heap} {Q : KQ} : wC Try.prog pol cl lp c26_2 env H Q = wC Try.prog pol cl lp c26_3 env H (seqK Try.prog pol cl lp c26_4 Q) := wC_seq (by kernel_rfl)
theorem w26_3 {pol : Nat → Pol} {cl : CallW} {lp : LoopW} {env : List V} {H : Heap} {Q : KQ} : wC Try.prog pol cl lp c26_3 env H Q = wOps Try.prog pol cl o26_3 d26_3_0 0 env H (Q .nrm) := wC_reg (i := 1) (by kernel_rfl) rfl
theorem w26_3_0 {pol : Nat → Pol} {cl : CallW} {t0 t1 t2 : V} {H : Heap} {Q : List V → Heap → Prop} : wOps Try.prog pol cl o26_3 d26_3_0 0 [t0, t1, t2] H Q = (
  stepW (evMakeSlice Try.prog H 1 34 (.int .i64 64) (.int .i64 64)) H fun v1 H1 =>
  stepW (evConvert Try.prog H1 34 9 v1) H1 fun v2 H2 =>
  Q [v2, v1, v2] H2) := by kernel_rfl
theorem w26_4 {pol : Nat → Pol} {cl : CallW} {lp : LoopW} {env : List V} {H : Heap} {Q : KQ} : wC Try.prog pol cl lp c26_4 env H Q = Q .ret env H := wC_ret (by kernel_rfl)
-- incipit/incipitref27.New
noncomputable def c11_0 : Code := cAt [] (bodyOf Try.f11)
noncomputable def c11_1 : Code := cAt [0] (bodyOf Try.f11)
noncomputable def o11_1 : Array Oper := opsOf c11_1
noncomputable def d11_1_0 : List Oper := o11_1.toList
noncomputable def c11_2 : Code := cAt [1] (bodyOf Try.f11)
noncomputable def c11_3 : Code := cAt [1, 0] (bodyOf Try.f11)
noncomputable def c11_4 : Code := cAt [1, 0, 0] (bodyOf Try.f11)
noncomputable def o11_4 : Array Oper := opsOf c11_4
noncomputable def d11_4_0 : List Oper := o11_4.toList
noncomputable def c11_5 : Code := cAt [1, 0, 1] (bodyOf Try.f11)
noncomputable def c11_6 : Code := cAt [1, 0, 1, 0] (bodyOf Try.f11)
noncomputable def c11_7 : Code := cAt [1, 0, 1, 0, 0] (bodyOf Try.f11)
noncomputable def o11_7 : Array Oper := opsOf c11_7
noncomputable def d11_7_0 : List Oper := o11_7.toList
noncomputable def c11_8 : Code := cAt [1, 0, 1, 0, 1] (bodyOf Try.f11)
noncomputable def c11_9 : Code := cAt [1, 0, 1, 1] (bodyOf Try.f11)
noncomputable def c11_10 : Code := cAt [1, 1] (bodyOf Try.f11)
noncomputable def c11_11 : Code := cAt [1, 1, 0] (bodyOf Try.f11)
noncomputable def o11_11 : Array Oper := opsOf c11_11
noncomputable def d11_11_0 : List Oper := o11_11.toList
noncomputable def c11_12 : Code := cAt [1, 1, 1] (bodyOf Try.f11)
noncomputable def c11_13 : Code := cAt [1, 1, 1, 0] (bodyOf Try.f11)
noncomputable def c11_14 : Code := cAt [1, 1, 1, 0, 0] (bodyOf Try.f11)
noncomputable def o11_14 : Array Oper := opsOf c11_14
noncomputable def d11_14_0 : List Oper := o11_14.toList
noncomputable def c11_15 : Code := cAt [1, 1, 1, 0, 1] (bodyOf Try.f11)
noncomputable def c11_16 : Code := cAt [1, 1, 1, 0, 1, 0] (bodyOf Try.f11)
noncomputable def c11_17 : Code := cAt [1, 1, 1, 0, 1, 0, 0] (bodyOf Try.f11)
noncomputable def c11_18 : Code := cAt [1, 1, 1, 0, 1, 0, 0, 0] (bodyOf Try.f11)
noncomputable def c11_19 : Code := cAt [1, 1, 1, 0, 1, 0, 0, 0, 0] (bodyOf Try.f11)
noncomputable def o11_19 : Array Oper := opsOf c11_19
noncomputable def d11_19_0 : List Oper := o11_19.toList
noncomputable def c11_20 : Code := cAt [1, 1, 1, 0, 1, 0, 0, 0, 1] (bodyOf Try.f11)
noncomputable def c11_21 : Code := cAt [1, 1, 1, 0, 1, 0, 0, 0, 1, 0] (bodyOf Try.f11)
noncomputable def c11_22 : Code := cAt [1, 1, 1, 0, 1, 0, 0, 0, 1, 1] (bodyOf Try.f11)
noncomputable def c11_23 : Code := cAt [1, 1, 1, 0, 1, 0, 0, 1] (bodyOf Try.f11)
noncomputable def c11_24 : Code := cAt [1, 1, 1, 0, 1, 0, 0, 1, 0] (bodyOf Try.f11)
noncomputable def c11_25 : Code := cAt [1, 1, 1, 0, 1, 0, 0, 1, 0, 0] (bodyOf Try.f11)
noncomputable def o11_25 : Array Oper := opsOf c11_25
noncomputable def d11_25_0 : List Oper := o11_25.toList
noncomputable def c11_26 : Code := cAt [1, 1, 1, 0, 1, 0, 0, 1, 1] (bodyOf Try.f11)
noncomputable def o11_26 : Array Oper := opsOf c11_26
noncomputable def d11_26_0 : List Oper := o11_26.toList
noncomputable def c11_27 : Code := cAt [1, 1, 1, 1] (bodyOf Try.f11)
noncomputable def c11_28 : Code := cAt [1, 1, 1, 1, 0] (bodyOf Try.f11)
noncomputable def o11_28 : Array Oper := opsOf c11_28
noncomputable def d11_28_0 : List Oper := o11_28.toList
noncomputable def c11_29 : Code := cAt [1, 1, 1, 1, 1] (bodyOf Try.f11)
theorem w11_0 {pol : Nat → Pol} {cl : CallW} {lp : LoopW} {env : List V} {H : Heap} {Q : KQ} : wC Try.prog pol cl lp c11_0 env H Q = wC Try.prog pol cl lp c11_1 env H (seqK Try.prog pol cl lp c11_2 Q) := wC_seq (by kernel_rfl)
theorem w11_1 {pol : Nat → Pol} {cl : CallW} {lp : LoopW} {env : List V} {H : Heap} {Q : KQ} : wC Try.prog pol cl lp c11_1 env H Q = wOps Try.prog pol cl o11_1 d11_1_0 0 env H (Q .nrm) := wC_reg (i := 0) (by kernel_rfl) rfl
theorem w11_1_0 {pol : Nat → Pol} {cl : CallW} {t0 t1 t2 t3 t4 t5 t6 t7 t8 t9 t10 t11 t12 t13 t14 t15 t16 t17 t18 t19 t20 t21 t22 t23 t24 t25 t26 t27 t28 : V} {H : Heap} {Q : List V → Heap → Prop} : wOps Try.prog pol cl o11_1 d11_1_0 0 [t0, t1, t2, t3, t4, t5, t6, t7, t8, t9, t10, t11, t12, t13, t14, t15, t16, t17, t18, t19, t20, t21, t22, t23, t24, t25, t26, t27, t28] H Q = (
  Q [t0, t1, .nilp, t3, t4, t5, t6, t7, t8, t9, t10, t11, t12, t13, t14, t15, t16, t17, t18, t19, t20, t21, t22, t23, t24, t25, t26, t27, t28] H) := by kernel_rfl
theorem w11_2 {pol : Nat → Pol} {cl : CallW} {lp : LoopW} {env : List V} {H : Heap} {Q : KQ} : wC Try.prog pol cl lp c11_2 env H Q = wC Try.prog pol cl lp c11_3 env H (seqK Try.prog pol cl lp c11_10 Q) := wC_seq (by kernel_rfl)
theorem w11_3 {pol : Nat → Pol} {cl : CallW} {lp : LoopW} {env : List V} {H : Heap} {Q : KQ} : wC Try.prog pol cl lp c11_3 env H Q = wC Try.prog pol cl lp c11_4 env H (seqK Try.prog pol cl lp c11_5 Q) := wC_seq (by kernel_rfl)
theorem w11_4 {pol : Nat → Pol} {cl : CallW} {lp : LoopW} {env : List V} {H : Heap} {Q : KQ} : wC Try.prog pol cl lp c11_4 env H Q = wOps Try.prog pol cl o11_4 d11_4_0 0 env H (Q .nrm) := wC_reg (i := 1) (by kernel_rfl) rfl
theorem w11_4_0 {pol : Nat → Pol} {cl : CallW} {t0 t1 t2 t3 t4 t5 t6 t7 t8 t9 t10 t11 t12 t13 t14 t15 t16 t17 t18 t19 t20 t21 t22 t23 t24 t25 t26 t27 t28 : V} {H : Heap} {Q : List V → Heap → Prop} : wOps Try.prog pol cl o11_4 d11_4_0 0 [t0, t1, t2, t3, t4, t5, t6, t7, t8, t9, t10, t11, t12, t13, t14, t15, t16, t17, t18, t19, t20, t21, t22, t23, t24, t25, t26, t27, t28] H Q = (
  stepW (liftO (evBin Try.prog 3 .lss t0 (.int .i64 1))) H fun v1 H1 =>
  guardW v1 false H1 (fun q => q ⟨t0, [], []⟩) fun v2 H2 =>
  guardW v1 false H2 (outW (liftO (evBin Try.prog 3 .gtr v2 (.int .i64 4096)))) fun v3 H3 =>
  stepW (pickO v1 (.bool true) v3) H3 fun v4 H4 =>
  Q [t0, t1, t2, t3, t4, t0, v1, v1, v2, v3, v4, t11, t12, t13, t14, t15, t16, t17, t18, t19, t20, t21, t22, t23, t24, t25, t26, t27, t28] H4) := by kernel_rfl
theorem w11_5 {pol : Nat → Pol} {cl : CallW} {lp : LoopW} {env : List V} {H : Heap} {Q : KQ} : wC Try.prog pol cl lp c11_5 env H Q = condW (evOperand env (Operand.tmp 10)) (wC Try.prog pol cl lp c11_6 env H Q) (wC Try.prog pol cl lp c11_9 env H Q) := wC_cond (by kernel_rfl)
theorem w11_6 {pol : Nat → Pol} {cl : CallW} {lp : LoopW} {env : List V} {H : Heap} {Q : KQ} : wC Try.prog pol cl lp c11_6 env H Q = wC Try.prog pol cl lp c11_7 env H (seqK Try.prog pol cl lp c11_8 Q) := wC_seq (by kernel_rfl)
theorem w11_7 {pol : Nat → Pol} {cl : CallW} {lp : LoopW} {env : List V} {H : Heap} {Q : KQ} : wC Try.prog pol cl lp c11_7 env H Q = wOps Try.prog pol cl o11_7 d11_7_0 0 env H (Q .nrm) := wC_reg (i := 2) (by kernel_rfl) rfl
theorem w11_7_0 {pol : Nat → Pol} {cl : CallW} {t0 t1 t2 t3 t4 t5 t6 t7 t8 t9 t10 t11 t12 t13 t14 t15 t16 t17 t18 t19 t20 t21 t22 t23 t24 t25 t26 t27 t28 : V} {H : Heap} {Q : List V → Heap → Prop} : wOps Try.prog pol cl o11_7 d11_7_0 0 [t0, t1, t2, t3, t4, t5, t6, t7, t8, t9, t10, t11, t12, t13, t14, t15, t16, t17, t18, t19, t20, t21, t22, t23, t24, t25, t26, t27, t28] H Q = (
  Q [t0, t1, .nilp, t3, t4, t5, t6, t7, t8, t9, t10, t11, t12, t13, t14, t15, t16, t17, t18, t19, t20, t21, t22, t23, t24, t25, t26, t27, t28] H) := by kernel_rfl
theorem w11_8 {pol : Nat → Pol} {cl : CallW} {lp : LoopW} {env : List V} {H : Heap} {Q : KQ} : wC Try.prog pol cl lp c11_8 env H Q = Q .ret env H := wC_ret (by kernel_rfl)
theorem w11_9 {pol : Nat → Pol} {cl : CallW} {lp : LoopW} {env : List V} {H : Heap} {Q : KQ} : wC Try.prog pol cl lp c11_9 env H Q = Q .nrm env H := wC_skip (by kernel_rfl)
theorem w11_10 {pol : Nat → Pol} {cl : CallW} {lp : LoopW} {env : List V} {H : Heap} {Q : KQ} : wC Try.prog pol cl lp c11_10 env H Q = wC Try.prog pol cl lp c11_11 env H (seqK Try.prog pol cl lp c11_12 Q) := wC_seq (by kernel_rfl)
theorem w11_11 {pol : Nat → Pol} {cl : CallW} {lp : LoopW} {env : List V} {H : Heap} {Q : KQ} : wC Try.prog pol cl lp c11_11 env H Q = wOps Try.prog pol cl o11_11 d11_11_0 0 env H (Q .nrm) := wC_reg (i := 3) (by kernel_rfl) rfl
theorem w11_11_0 {pol : Nat → Pol} {cl : CallW} {t0 t1 t2 t3 t4 t5 t6 t7 t8 t9 t10 t11 t12 t13 t14 t15 t16 t17 t18 t19 t20 t21 t22 t23 t24 t25 t26 t27 t28 : V} {H : Heap} {Q : List V → Heap → Prop} : wOps Try.prog pol cl o11_11 d11_11_0 0 [t0, t1, t2, t3, t4, t5, t6, t7, t8, t9, t10, t11, t12, t13, t14, t15, t16, t17, t18, t19, t20, t21, t22, t23, t24, t25, t26, t27, t28] H Q = (
  stepW (liftO (evBuild Try.prog 41 [(2, (.int .i64 (-1))), (3, (.int .i64 (-1)))])) H fun v1 H1 =>
  stepW (boxO H1 12 v1) H1 fun v2 H2 =>
  Q [t0, t1, t2, v2, t4, t5, t6, t7, t8, t9, t10, v1, v2, t13, t14, t15, t16, t17, t18, t19, t20, t21, t22, t23, t24, t25, t26, t27, t28] H2) := by kernel_rfl
theorem w11_12 {pol : Nat → Pol} {cl : CallW} {lp : LoopW} {env : List V} {H : Heap} {Q : KQ} : wC Try.prog pol cl lp c11_12 env H Q = wC Try.prog pol cl lp c11_13 env H (seqK Try.prog pol cl lp c11_27 Q) := wC_seq (by kernel_rfl)
theorem w11_13 {pol : Nat → Pol} {cl : CallW} {lp : LoopW} {env : List V} {H : Heap} {Q : KQ} : wC Try.prog pol cl lp c11_13 env H Q = wC Try.prog pol cl lp c11_14 env H (seqK Try.prog pol cl lp c11_15 Q) := wC_seq (by kernel_rfl)
theorem w11_14 {pol : Nat → Pol} {cl : CallW} {lp : LoopW} {env : List V} {H : Heap} {Q : KQ} : wC Try.prog pol cl lp c11_14 env H Q = wOps Try.prog pol cl o11_14 d11_14_0 0 env H (Q .nrm) := wC_reg (i := 4) (by kernel_rfl) rfl
theorem w11_14_0 {pol : Nat → Pol} {cl : CallW} {t0 t1 t2 t3 t4 t5 t6 t7 t8 t9 t10 t11 t12 t13 t14 t15 t16 t17 t18 t19 t20 t21 t22 t23 t24 t25 t26 t27 t28 : V} {H : Heap} {Q : List V → Heap → Prop} : wOps Try.prog pol cl o11_14 d11_14_0 0 [t0, t1, t2, t3, t4, t5, t6, t7, t8, t9, t10, t11, t12, t13, t14, t15, t16, t17, t18, t19, t20, t21, t22, t23, t24, t25, t26, t27, t28] H Q = (
  Q [t0, t1, t2, t3, (.int .i64 0), t5, t6, t7, t8, t9, t10, t11, t12, t13, t14, t15, t16, t17, t18, t19, t20, t21, t22, t23, t24, t25, t26, t27, t28] H) := by kernel_rfl
theorem w11_15 {pol : Nat → Pol} {cl : CallW} {lp : LoopW} {env : List V} {H : Heap} {Q : KQ} : wC Try.prog pol cl lp c11_15 env H Q = wC Try.prog pol cl lp c11_16 env H (blockK 0 Q) := wC_block (by kernel_rfl)
theorem w11_16 {pol : Nat → Pol} {cl : CallW} {lp : LoopW} {env : List V} {H : Heap} {Q : KQ} : wC Try.prog pol cl lp c11_16 env H Q = lp c11_17 env H Q := wC_loop (by kernel_rfl)
theorem w11_17 {pol : Nat → Pol} {cl : CallW} {lp : LoopW} {env : List V} {H : Heap} {Q : KQ} : wC Try.prog pol cl lp c11_17 env H Q = wC Try.prog pol cl lp c11_18 env H (seqK Try.prog pol cl lp c11_23 Q) := wC_seq (by kernel_rfl)
theorem w11_18 {pol : Nat → Pol} {cl : CallW} {lp : LoopW} {env : List V} {H : Heap} {Q : KQ} : wC Try.prog pol cl lp c11_18 env H Q = wC Try.prog pol cl lp c11_19 env H (seqK Try.prog pol cl lp c11_20 Q) := wC_seq (by kernel_rfl)
theorem w11_19 {pol : Nat → Pol} {cl : CallW} {lp : LoopW} {env : List V} {H : Heap} {Q : KQ} : wC Try.prog pol cl lp c11_19 env H Q = wOps Try.prog pol cl o11_19 d11_19_0 0 env H (Q .nrm) := wC_reg (i := 5) (by kernel_rfl) rfl
theorem w11_19_0 {pol : Nat → Pol} {cl : CallW} {t0 t1 t2 t3 t4 t5 t6 t7 t8 t9 t10 t11 t12 t13 t14 t15 t16 t17 t18 t19 t20 t21 t22 t23 t24 t25 t26 t27 t28 : V} {H : Heap} {Q : List V → Heap → Prop} : wOps Try.prog pol cl o11_19 d11_19_0 0 [t0, t1, t2, t3, t4, t5, t6, t7, t8, t9, t10, t11, t12, t13, t14, t15, t16, t17, t18, t19, t20, t21, t22, t23, t24, t25, t26, t27, t28] H Q = (
  stepW (liftO (evBin Try.prog 3 .lss t4 t0)) H fun v1 H1 =>
  Q [t0, t1, t2, t3, t4, t5, t6, t7, t8, t9, t10, t11, t12, t4, t0, v1, t16, t17, t18, t19, t20, t21, t22, t23, t24, t25, t26, t27, t28] H1) := by kernel_rfl
theorem w11_20 {pol : Nat → Pol} {cl : CallW} {lp : LoopW} {env : List V} {H : Heap} {Q : KQ} : wC Try.prog pol cl lp c11_20 env H Q = condW (evOperand env (Operand.tmp 15)) (wC Try.prog pol cl lp c11_21 env H Q) (wC Try.prog pol cl lp c11_22 env H Q) := wC_cond (by kernel_rfl)
theorem w11_21 {pol : Nat → Pol} {cl : CallW} {lp : LoopW} {env : List V} {H : Heap} {Q : KQ} : wC Try.prog pol cl lp c11_21 env H Q = Q .nrm env H := wC_skip (by kernel_rfl)
theorem w11_22 {pol : Nat → Pol} {cl : CallW} {lp : LoopW} {env : List V} {H : Heap} {Q : KQ} : wC Try.prog pol cl lp c11_22 env H Q = Q (.exit 0) env H := wC_exit (by kernel_rfl)
theorem w11_23 {pol : Nat → Pol} {cl : CallW} {lp : LoopW} {env : List V} {H : Heap} {Q : KQ} : wC Try.prog pol cl lp c11_23 env H Q = wC Try.prog pol cl lp c11_24 env H (seqK Try.prog pol cl lp c11_26 Q) := wC_seq (by kernel_rfl)
theorem w11_24 {pol : Nat → Pol} {cl : CallW} {lp : LoopW} {env : List V} {H : Heap} {Q : KQ} : wC Try.prog pol cl lp c11_24 env H Q = wC Try.prog pol cl lp c11_25 env H (blockK 1 Q) := wC_block (by kernel_rfl)
theorem w11_25 {pol : Nat → Pol} {cl : CallW} {lp : LoopW} {env : List V} {H : Heap} {Q : KQ} : wC Try.prog pol cl lp c11_25 env H Q = wOpsL Try.prog pol cl o11_25 d11_25_0 0 env H [] (fun env H lg => logOk o11_25 lg = true ∧ Q .nrm env H) := wC_regL (i := 7) (by kernel_rfl) rfl
theorem w11_25_0 {pol : Nat → Pol} {cl : CallW} {t0 t1 t2 t3 t4 t5 t6 t7 t8 t9 t10 t11 t12 t13 t14 t15 t16 t17 t18 t19 t20 t21 t22 t23 t24 t25 t26 t27 t28 : V} {H : Heap} {lg : Log} {Q : List V → Heap → Log → Prop} : wOpsL Try.prog pol cl o11_25 d11_25_0 0 [t0, t1, t2, t3, t4, t5, t6, t7, t8, t9, t10, t11, t12, t13, t14, t15, t16, t17, t18, t19, t20, t21, t22, t23, t24, t25, t26, t27, t28] H lg Q = (
  stepL (pureO t3) H lg 0 fun v1 H1 g1 =>
  stepL (pureO t3) H1 g1 1 fun v2 H2 g2 =>
  stepL (nilO v2) H2 g2 2 fun v3 H3 g3 =>
  stepL (evFieldAddr Try.prog 41 v3 0) H3 g3 3 fun v4 H4 g4 =>
  stepL (evLoad Try.prog H4 38 v4) H4 g4 4 fun v5 H5 g5 =>
  callL pol cl H5 g5 5 23 26 [] fun v6 H6 g6 =>
  stepL (evBuildSlice Try.prog H6 24 38 1 [(0, v6)]) H6 g6 6 fun v7 H7 g7 =>
  stepL (evAppend Try.prog H7 25 38 38 v5 v7) H7 g7 7 fun v8 H8 g8 =>
  stepL (nilO v1) H8 g8 8 fun v9 H9 g9 =>
  stepL (evFieldAddr Try.prog 41 v9 0) H9 g9 9 fun v10 H10 g10 =>
  stepL (evStore Try.prog H10 38 v10 v8) H10 g10 10 fun v11 H11 g11 =>
  Q [t0, t1, t2, t3, t4, t5, t6, t7, t8, t9, t10, t11, t12, t13, t14, t15, t16, t17, v1, v2, v3, v4, v5, v6, v7, v8, v9, v10, t28] H11 g11) := by kernel_rfl
theorem w11_26 {pol : Nat → Pol} {cl : CallW} {lp : LoopW} {env : List V} {H : Heap} {Q : KQ} : wC Try.prog pol cl lp c11_26 env H Q = wOps Try.prog pol cl o11_26 d11_26_0 0 env H (Q .nrm) := wC_reg (i := 6) (by kernel_rfl) rfl
theorem w11_26_0 {pol : Nat → Pol} {cl : CallW} {t0 t1 t2 t3 t4 t5 t6 t7 t8 t9 t10 t11 t12 t13 t14 t15 t16 t17 t18 t19 t20 t21 t22 t23 t24 t25 t26 t27 t28 : V} {H : Heap} {Q : List V → Heap → Prop} : wOps Try.prog pol cl o11_26 d11_26_0 0 [t0, t1, t2, t3, t4, t5, t6, t7, t8, t9, t10, t11, t12, t13, t14, t15, t16, t17, t18, t19, t20, t21, t22, t23, t24, t25, t26, t27, t28] H Q = (
  stepW (liftO (evBin Try.prog 3 .add t4 (.int .i64 1))) H fun v1 H1 =>
  Q [t0, t1, t2, t3, v1, t5, t6, t7, t8, t9, t10, t11, t12, t13, t14, t15, t4, v1, t18, t19, t20, t21, t22, t23, t24, t25, t26, t27, t28] H1) := by kernel_rfl
theorem w11_27 {pol : Nat → Pol} {cl : CallW} {lp : LoopW} {env : List V} {H : Heap} {Q : KQ} : wC Try.prog pol cl lp c11_27 env H Q = wC Try.prog pol cl lp c11_28 env H (seqK Try.prog pol cl lp c11_29 Q) := wC_seq (by kernel_rfl)
theorem w11_28 {pol : Nat → Pol} {cl : CallW} {lp : LoopW} {env : List V} {H : Heap} {Q : KQ} : wC Try.prog pol cl lp c11_28 env H Q = wOps Try.prog pol cl o11_28 d11_28_0 0 env H (Q .nrm) := wC_reg (i := 8) (by kernel_rfl) rfl
theorem w11_28_0 {pol : Nat → Pol} {cl : CallW} {t0 t1 t2 t3 t4 t5 t6 t7 t8 t9 t10 t11 t12 t13 t14 t15 t16 t17 t18 t19 t20 t21 t22 t23 t24 t25 t26 t27 t28 : V} {H : Heap} {Q : List V → Heap → Prop} : wOps Try.prog pol cl o11_28 d11_28_0 0 [t0, t1, t2, t3, t4, t5, t6, t7, t8, t9, t10, t11, t12, t13, t14, t15, t16, t17, t18, t19, t20, t21, t22, t23, t24, t25, t26, t27, t28] H Q = (
  Q [t0, t1, t3, t3, t4, t5, t6, t7, t8, t9, t10, t11, t12, t13, t14, t15, t16, t17, t18, t19, t20, t21, t22, t23, t24, t25, t26, t27, t3] H) := by kernel_rfl
theorem w11_29 {pol : Nat → Pol} {cl : CallW} {lp : LoopW} {env : List V} {H : Heap} {Q : KQ} : wC Try.prog pol cl lp c11_29 env H Q = Q .ret env H := wC_ret (by kernel_rfl)
end Go.Proofs.Ytcamcfplcoklkaa.Iv
