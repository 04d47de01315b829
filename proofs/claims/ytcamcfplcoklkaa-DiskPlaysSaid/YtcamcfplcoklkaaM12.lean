import Derived.Test.YtcamcfplcoklkaaM11
namespace Go.Proofs.Ytcamcfplcoklkaa.Iv
open Go
set_option linter.unusedVariables false
-- slices.Clone[[]byte,byte]
noncomputable def c31_0 : Code := cAt [] (bodyOf Try.f31)
noncomputable def c31_1 : Code := cAt [0] (bodyOf Try.f31)
noncomputable def o31_1 : Array Oper := opsOf c31_1
noncomputable def d31_1_0 : List Oper := o31_1.toList
noncomputable def c31_2 : Code := cAt [1] (bodyOf Try.f31)
noncomputable def c31_3 : Code := cAt [1, 0] (bodyOf Try.f31)
noncomputable def c31_4 : Code := cAt [1, 0, 0] (bodyOf Try.f31)
noncomputable def o31_4 : Array Oper := opsOf c31_4
noncomputable def d31_4_0 : List Oper := o31_4.toList
noncomputable def c31_5 : Code := cAt [1, 0, 1] (bodyOf Try.f31)
noncomputable def c31_6 : Code := cAt [1, 0, 1, 0] (bodyOf Try.f31)
noncomputable def c31_7 : Code := cAt [1, 0, 1, 0, 0] (bodyOf Try.f31)
noncomputable def o31_7 : Array Oper := opsOf c31_7
noncomputable def d31_7_0 : List Oper := o31_7.toList
noncomputable def c31_8 : Code := cAt [1, 0, 1, 0, 1] (bodyOf Try.f31)
noncomputable def c31_9 : Code := cAt [1, 0, 1, 1] (bodyOf Try.f31)
noncomputable def c31_10 : Code := cAt [1, 1] (bodyOf Try.f31)
noncomputable def c31_11 : Code := cAt [1, 1, 0] (bodyOf Try.f31)
noncomputable def o31_11 : Array Oper := opsOf c31_11
noncomputable def d31_11_0 : List Oper := o31_11.toList
noncomputable def c31_12 : Code := cAt [1, 1, 1] (bodyOf Try.f31)
theorem w31_0 {pol : Nat → Pol} {cl : CallW} {lp : LoopW} {env : List V} {H : Heap} {Q : KQ} : wC Try.prog pol cl lp c31_0 env H Q = wC Try.prog pol cl lp c31_1 env H (seqK Try.prog pol cl lp c31_2 Q) := wC_seq (by kernel_rfl)
theorem w31_1 {pol : Nat → Pol} {cl : CallW} {lp : LoopW} {env : List V} {H : Heap} {Q : KQ} : wC Try.prog pol cl lp c31_1 env H Q = wOps Try.prog pol cl o31_1 d31_1_0 0 env H (Q .nrm) := wC_reg (i := 0) (by kernel_rfl) rfl
theorem w31_1_0 {pol : Nat → Pol} {cl : CallW} {t0 t1 t2 t3 t4 t5 t6 t7 : V} {H : Heap} {Q : List V → Heap → Prop} : wOps Try.prog pol cl o31_1 d31_1_0 0 [t0, t1, t2, t3, t4, t5, t6, t7] H Q = (
  Q [t0, t1, .nils, t3, t4, t5, t6, t7] H) := by kernel_rfl
theorem w31_2 {pol : Nat → Pol} {cl : CallW} {lp : LoopW} {env : List V} {H : Heap} {Q : KQ} : wC Try.prog pol cl lp c31_2 env H Q = wC Try.prog pol cl lp c31_3 env H (seqK Try.prog pol cl lp c31_10 Q) := wC_seq (by kernel_rfl)
theorem w31_3 {pol : Nat → Pol} {cl : CallW} {lp : LoopW} {env : List V} {H : Heap} {Q : KQ} : wC Try.prog pol cl lp c31_3 env H Q = wC Try.prog pol cl lp c31_4 env H (seqK Try.prog pol cl lp c31_5 Q) := wC_seq (by kernel_rfl)
theorem w31_4 {pol : Nat → Pol} {cl : CallW} {lp : LoopW} {env : List V} {H : Heap} {Q : KQ} : wC Try.prog pol cl lp c31_4 env H Q = wOps Try.prog pol cl o31_4 d31_4_0 0 env H (Q .nrm) := wC_reg (i := 1) (by kernel_rfl) rfl
theorem w31_4_0 {pol : Nat → Pol} {cl : CallW} {t0 t1 t2 t3 t4 t5 t6 t7 : V} {H : Heap} {Q : List V → Heap → Prop} : wOps Try.prog pol cl o31_4 d31_4_0 0 [t0, t1, t2, t3, t4, t5, t6, t7] H Q = (
  stepW (liftO (evBin Try.prog 34 .eql t0 .nils)) H fun v1 H1 =>
  Q [t0, t1, t2, t0, v1, t5, t6, t7] H1) := by kernel_rfl
theorem w31_5 {pol : Nat → Pol} {cl : CallW} {lp : LoopW} {env : List V} {H : Heap} {Q : KQ} : wC Try.prog pol cl lp c31_5 env H Q = condW (evOperand env (Operand.tmp 4)) (wC Try.prog pol cl lp c31_6 env H Q) (wC Try.prog pol cl lp c31_9 env H Q) := wC_cond (by kernel_rfl)
theorem w31_6 {pol : Nat → Pol} {cl : CallW} {lp : LoopW} {env : List V} {H : Heap} {Q : KQ} : wC Try.prog pol cl lp c31_6 env H Q = wC Try.prog pol cl lp c31_7 env H (seqK Try.prog pol cl lp c31_8 Q) := wC_seq (by kernel_rfl)
theorem w31_7 {pol : Nat → Pol} {cl : CallW} {lp : LoopW} {env : List V} {H : Heap} {Q : KQ} : wC Try.prog pol cl lp c31_7 env H Q = wOps Try.prog pol cl o31_7 d31_7_0 0 env H (Q .nrm) := wC_reg (i := 2) (by kernel_rfl) rfl
theorem w31_7_0 {pol : Nat → Pol} {cl : CallW} {t0 t1 t2 t3 t4 t5 t6 t7 : V} {H : Heap} {Q : List V → Heap → Prop} : wOps Try.prog pol cl o31_7 d31_7_0 0 [t0, t1, t2, t3, t4, t5, t6, t7] H Q = (
  Q [t0, t1, .nils, t3, t4, t5, t6, t7] H) := by kernel_rfl
theorem w31_8 {pol : Nat → Pol} {cl : CallW} {lp : LoopW} {env : List V} {H : Heap} {Q : KQ} : wC Try.prog pol cl lp c31_8 env H Q = Q .ret env H := wC_ret (by kernel_rfl)
theorem w31_9 {pol : Nat → Pol} {cl : CallW} {lp : LoopW} {env : List V} {H : Heap} {Q : KQ} : wC Try.prog pol cl lp c31_9 env H Q = Q .nrm env H := wC_skip (by kernel_rfl)
theorem w31_10 {pol : Nat → Pol} {cl : CallW} {lp : LoopW} {env : List V} {H : Heap} {Q : KQ} : wC Try.prog pol cl lp c31_10 env H Q = wC Try.prog pol cl lp c31_11 env H (seqK Try.prog pol cl lp c31_12 Q) := wC_seq (by kernel_rfl)
theorem w31_11 {pol : Nat → Pol} {cl : CallW} {lp : LoopW} {env : List V} {H : Heap} {Q : KQ} : wC Try.prog pol cl lp c31_11 env H Q = wOps Try.prog pol cl o31_11 d31_11_0 0 env H (Q .nrm) := wC_reg (i := 3) (by kernel_rfl) rfl
theorem w31_11_0 {pol : Nat → Pol} {cl : CallW} {t0 t1 t2 t3 t4 t5 t6 t7 : V} {H : Heap} {Q : List V → Heap → Prop} : wOps Try.prog pol cl o31_11 d31_11_0 0 [t0, t1, t2, t3, t4, t5, t6, t7] H Q = (
  stepW (evBuildSlice Try.prog H 5 34 0 []) H fun v1 H1 =>
  stepW (evAppend Try.prog H1 7 34 34 v1 t0) H1 fun v2 H2 =>
  Q [t0, t1, v2, t3, t4, v1, t0, v2] H2) := by kernel_rfl
theorem w31_12 {pol : Nat → Pol} {cl : CallW} {lp : LoopW} {env : List V} {H : Heap} {Q : KQ} : wC Try.prog pol cl lp c31_12 env H Q = Q .ret env H := wC_ret (by kernel_rfl)
-- (*incipit/disk.Disk).Image
noncomputable def c16_0 : Code := cAt [] (bodyOf Try.f16)
noncomputable def c16_1 : Code := cAt [0] (bodyOf Try.f16)
noncomputable def o16_1 : Array Oper := opsOf c16_1
noncomputable def d16_1_0 : List Oper := o16_1.toList
noncomputable def c16_2 : Code := cAt [1] (bodyOf Try.f16)
noncomputable def c16_3 : Code := cAt [1, 0] (bodyOf Try.f16)
noncomputable def c16_4 : Code := cAt [1, 0, 0] (bodyOf Try.f16)
noncomputable def o16_4 : Array Oper := opsOf c16_4
noncomputable def d16_4_0 : List Oper := o16_4.toList
noncomputable def c16_5 : Code := cAt [1, 0, 1] (bodyOf Try.f16)
noncomputable def c16_6 : Code := cAt [1, 0, 1, 0] (bodyOf Try.f16)
noncomputable def c16_7 : Code := cAt [1, 0, 1, 0, 0] (bodyOf Try.f16)
noncomputable def o16_7 : Array Oper := opsOf c16_7
noncomputable def d16_7_0 : List Oper := o16_7.toList
noncomputable def c16_8 : Code := cAt [1, 0, 1, 0, 1] (bodyOf Try.f16)
noncomputable def c16_9 : Code := cAt [1, 0, 1, 1] (bodyOf Try.f16)
noncomputable def c16_10 : Code := cAt [1, 1] (bodyOf Try.f16)
noncomputable def c16_11 : Code := cAt [1, 1, 0] (bodyOf Try.f16)
noncomputable def o16_11 : Array Oper := opsOf c16_11
noncomputable def d16_11_0 : List Oper := o16_11.toList
noncomputable def c16_12 : Code := cAt [1, 1, 1] (bodyOf Try.f16)
theorem w16_0 {pol : Nat → Pol} {cl : CallW} {lp : LoopW} {env : List V} {H : Heap} {Q : KQ} : wC Try.prog pol cl lp c16_0 env H Q = wC Try.prog pol cl lp c16_1 env H (seqK Try.prog pol cl lp c16_2 Q) := wC_seq (by kernel_rfl)
theorem w16_1 {pol : Nat → Pol} {cl : CallW} {lp : LoopW} {env : List V} {H : Heap} {Q : KQ} : wC Try.prog pol cl lp c16_1 env H Q = wOps Try.prog pol cl o16_1 d16_1_0 0 env H (Q .nrm) := wC_reg (i := 0) (by kernel_rfl) rfl
theorem w16_1_0 {pol : Nat → Pol} {cl : CallW} {t0 t1 t2 t3 t4 t5 t6 t7 t8 t9 : V} {H : Heap} {Q : List V → Heap → Prop} : wOps Try.prog pol cl o16_1 d16_1_0 0 [t0, t1, t2, t3, t4, t5, t6, t7, t8, t9] H Q = (
  Q [t0, t1, .nils, t3, t4, t5, t6, t7, t8, t9] H) := by kernel_rfl
theorem w16_2 {pol : Nat → Pol} {cl : CallW} {lp : LoopW} {env : List V} {H : Heap} {Q : KQ} : wC Try.prog pol cl lp c16_2 env H Q = wC Try.prog pol cl lp c16_3 env H (seqK Try.prog pol cl lp c16_10 Q) := wC_seq (by kernel_rfl)
theorem w16_3 {pol : Nat → Pol} {cl : CallW} {lp : LoopW} {env : List V} {H : Heap} {Q : KQ} : wC Try.prog pol cl lp c16_3 env H Q = wC Try.prog pol cl lp c16_4 env H (seqK Try.prog pol cl lp c16_5 Q) := wC_seq (by kernel_rfl)
theorem w16_4 {pol : Nat → Pol} {cl : CallW} {lp : LoopW} {env : List V} {H : Heap} {Q : KQ} : wC Try.prog pol cl lp c16_4 env H Q = wOps Try.prog pol cl o16_4 d16_4_0 0 env H (Q .nrm) := wC_reg (i := 1) (by kernel_rfl) rfl
theorem w16_4_0 {pol : Nat → Pol} {cl : CallW} {t0 t1 t2 t3 t4 t5 t6 t7 t8 t9 : V} {H : Heap} {Q : List V → Heap → Prop} : wOps Try.prog pol cl o16_4 d16_4_0 0 [t0, t1, t2, t3, t4, t5, t6, t7, t8, t9] H Q = (
  stepW (liftO (evBin Try.prog 23 .eql t0 .nilp)) H fun v1 H1 =>
  Q [t0, t1, t2, t0, v1, t5, t6, t7, t8, t9] H1) := by kernel_rfl
theorem w16_5 {pol : Nat → Pol} {cl : CallW} {lp : LoopW} {env : List V} {H : Heap} {Q : KQ} : wC Try.prog pol cl lp c16_5 env H Q = condW (evOperand env (Operand.tmp 4)) (wC Try.prog pol cl lp c16_6 env H Q) (wC Try.prog pol cl lp c16_9 env H Q) := wC_cond (by kernel_rfl)
theorem w16_6 {pol : Nat → Pol} {cl : CallW} {lp : LoopW} {env : List V} {H : Heap} {Q : KQ} : wC Try.prog pol cl lp c16_6 env H Q = wC Try.prog pol cl lp c16_7 env H (seqK Try.prog pol cl lp c16_8 Q) := wC_seq (by kernel_rfl)
theorem w16_7 {pol : Nat → Pol} {cl : CallW} {lp : LoopW} {env : List V} {H : Heap} {Q : KQ} : wC Try.prog pol cl lp c16_7 env H Q = wOps Try.prog pol cl o16_7 d16_7_0 0 env H (Q .nrm) := wC_reg (i := 2) (by kernel_rfl) rfl
theorem w16_7_0 {pol : Nat → Pol} {cl : CallW} {t0 t1 t2 t3 t4 t5 t6 t7 t8 t9 : V} {H : Heap} {Q : List V → Heap → Prop} : wOps Try.prog pol cl o16_7 d16_7_0 0 [t0, t1, t2, t3, t4, t5, t6, t7, t8, t9] H Q = (
  Q [t0, t1, .nils, t3, t4, t5, t6, t7, t8, t9] H) := by kernel_rfl
theorem w16_8 {pol : Nat → Pol} {cl : CallW} {lp : LoopW} {env : List V} {H : Heap} {Q : KQ} : wC Try.prog pol cl lp c16_8 env H Q = Q .ret env H := wC_ret (by kernel_rfl)
theorem w16_9 {pol : Nat → Pol} {cl : CallW} {lp : LoopW} {env : List V} {H : Heap} {Q : KQ} : wC Try.prog pol cl lp c16_9 env H Q = Q .nrm env H := wC_skip (by kernel_rfl)
theorem w16_10 {pol : Nat → Pol} {cl : CallW} {lp : LoopW} {env : List V} {H : Heap} {Q : KQ} : wC Try.prog pol cl lp c16_10 env H Q = wC Try.prog pol cl lp c16_11 env H (seqK Try.prog pol cl lp c16_12 Q) := wC_seq (by kernel_rfl)
theorem w16_11 {pol : Nat → Pol} {cl : CallW} {lp : LoopW} {env : List V} {H : Heap} {Q : KQ} : wC Try.prog pol cl lp c16_11 env H Q = wOps Try.prog pol cl o16_11 d16_11_0 0 env H (Q .nrm) := wC_reg (i := 3) (by kernel_rfl) rfl
theorem w16_11_0 {pol : Nat → Pol} {cl : CallW} {t0 t1 t2 t3 t4 t5 t6 t7 t8 t9 : V} {H : Heap} {Q : List V → Heap → Prop} : wOps Try.prog pol cl o16_11 d16_11_0 0 [t0, t1, t2, t3, t4, t5, t6, t7, t8, t9] H Q = (
  stepW (nilO t0) H fun v1 H1 =>
  stepW (evFieldAddr Try.prog 49 v1 1) H1 fun v2 H2 =>
  stepW (evLoad Try.prog H2 34 v2) H2 fun v3 H3 =>
  callW pol cl H3 9 31 [v3] fun v4 H4 =>
  Q [t0, t1, v4, t3, t4, t0, v1, v2, v3, v4] H4) := by kernel_rfl
theorem w16_12 {pol : Nat → Pol} {cl : CallW} {lp : LoopW} {env : List V} {H : Heap} {Q : KQ} : wC Try.prog pol cl lp c16_12 env H Q = Q .ret env H := wC_ret (by kernel_rfl)
-- (*incipit/disk.Disk).Crash
noncomputable def c21_0 : Code := cAt [] (bodyOf Try.f21)
noncomputable def c21_1 : Code := cAt [0] (bodyOf Try.f21)
noncomputable def c21_2 : Code := cAt [0, 0] (bodyOf Try.f21)
noncomputable def o21_2 : Array Oper := opsOf c21_2
noncomputable def d21_2_0 : List Oper := o21_2.toList
noncomputable def c21_3 : Code := cAt [0, 1] (bodyOf Try.f21)
noncomputable def c21_4 : Code := cAt [0, 1, 0] (bodyOf Try.f21)
noncomputable def c21_5 : Code := cAt [0, 1, 1] (bodyOf Try.f21)
noncomputable def c21_6 : Code := cAt [1] (bodyOf Try.f21)
noncomputable def c21_7 : Code := cAt [1, 0] (bodyOf Try.f21)
noncomputable def o21_7 : Array Oper := opsOf c21_7
noncomputable def d21_7_0 : List Oper := o21_7.toList
noncomputable def c21_8 : Code := cAt [1, 1] (bodyOf Try.f21)
noncomputable def c21_9 : Code := cAt [1, 1, 0] (bodyOf Try.f21)
noncomputable def o21_9 : Array Oper := opsOf c21_9
noncomputable def d21_9_0 : List Oper := o21_9.toList
noncomputable def c21_10 : Code := cAt [1, 1, 1] (bodyOf Try.f21)
noncomputable def c21_11 : Code := cAt [1, 1, 1, 0] (bodyOf Try.f21)
noncomputable def c21_12 : Code := cAt [1, 1, 1, 0, 0] (bodyOf Try.f21)
noncomputable def o21_12 : Array Oper := opsOf c21_12
noncomputable def d21_12_0 : List Oper := o21_12.toList
noncomputable def c21_13 : Code := cAt [1, 1, 1, 0, 1] (bodyOf Try.f21)
noncomputable def c21_14 : Code := cAt [1, 1, 1, 0, 1, 0] (bodyOf Try.f21)
noncomputable def c21_15 : Code := cAt [1, 1, 1, 0, 1, 0, 0] (bodyOf Try.f21)
noncomputable def o21_15 : Array Oper := opsOf c21_15
noncomputable def d21_15_0 : List Oper := o21_15.toList
noncomputable def c21_16 : Code := cAt [1, 1, 1, 0, 1, 0, 1] (bodyOf Try.f21)
noncomputable def o21_16 : Array Oper := opsOf c21_16
noncomputable def d21_16_0 : List Oper := o21_16.toList
noncomputable def c21_17 : Code := cAt [1, 1, 1, 0, 1, 1] (bodyOf Try.f21)
noncomputable def c21_18 : Code := cAt [1, 1, 1, 1] (bodyOf Try.f21)
noncomputable def o21_18 : Array Oper := opsOf c21_18
noncomputable def d21_18_0 : List Oper := o21_18.toList
noncomputable def p21_18_0 : List Oper := d21_18_0.take 12
noncomputable def d21_18_12 : List Oper := d21_18_0.drop 12
theorem w21_0 {pol : Nat → Pol} {cl : CallW} {lp : LoopW} {env : List V} {H : Heap} {Q : KQ} : wC Try.prog pol cl lp c21_0 env H Q = wC Try.prog pol cl lp c21_1 env H (seqK Try.prog pol cl lp c21_6 Q) := wC_seq (by kernel_rfl)
theorem w21_1 {pol : Nat → Pol} {cl : CallW} {lp : LoopW} {env : List V} {H : Heap} {Q : KQ} : wC Try.prog pol cl lp c21_1 env H Q = wC Try.prog pol cl lp c21_2 env H (seqK Try.prog pol cl lp c21_3 Q) := wC_seq (by kernel_rfl)
theorem w21_2 {pol : Nat → Pol} {cl : CallW} {lp : LoopW} {env : List V} {H : Heap} {Q : KQ} : wC Try.prog pol cl lp c21_2 env H Q = wOps Try.prog pol cl o21_2 d21_2_0 0 env H (Q .nrm) := wC_reg (i := 0) (by kernel_rfl) rfl
theorem w21_2_0 {pol : Nat → Pol} {cl : CallW} {t0 t1 t2 t3 t4 t5 t6 t7 t8 t9 t10 t11 t12 t13 t14 t15 t16 t17 t18 t19 t20 t21 t22 t23 t24 t25 t26 t27 t28 t29 t30 t31 t32 t33 t34 t35 t36 t37 t38 t39 t40 t41 t42 t43 t44 t45 t46 t47 t48 t49 t50 t51 t52 t53 t54 t55 t56 t57 t58 t59 t60 t61 t62 : V} {H : Heap} {Q : List V → Heap → Prop} : wOps Try.prog pol cl o21_2 d21_2_0 0 [t0, t1, t2, t3, t4, t5, t6, t7, t8, t9, t10, t11, t12, t13, t14, t15, t16, t17, t18, t19, t20, t21, t22, t23, t24, t25, t26, t27, t28, t29, t30, t31, t32, t33, t34, t35, t36, t37, t38, t39, t40, t41, t42, t43, t44, t45, t46, t47, t48, t49, t50, t51, t52, t53, t54, t55, t56, t57, t58, t59, t60, t61, t62] H Q = (
  callW pol cl H 8 9 [t0] fun v1 H1 =>
  stepW (liftO (evBin Try.prog 3 .eql v1 (.int .i64 0))) H1 fun v2 H2 =>
  Q [t0, t1, t2, t3, t4, t5, t6, t0, v1, v2, t10, t11, t12, t13, t14, t15, t16, t17, t18, t19, t20, t21, t22, t23, t24, t25, t26, t27, t28, t29, t30, t31, t32, t33, t34, t35, t36, t37, t38, t39, t40, t41, t42, t43, t44, t45, t46, t47, t48, t49, t50, t51, t52, t53, t54, t55, t56, t57, t58, t59, t60, t61, t62] H2) := by kernel_rfl
theorem w21_3 {pol : Nat → Pol} {cl : CallW} {lp : LoopW} {env : List V} {H : Heap} {Q : KQ} : wC Try.prog pol cl lp c21_3 env H Q = condW (evOperand env (Operand.tmp 9)) (wC Try.prog pol cl lp c21_4 env H Q) (wC Try.prog pol cl lp c21_5 env H Q) := wC_cond (by kernel_rfl)
theorem w21_4 {pol : Nat → Pol} {cl : CallW} {lp : LoopW} {env : List V} {H : Heap} {Q : KQ} : wC Try.prog pol cl lp c21_4 env H Q = Q .ret env H := wC_ret (by kernel_rfl)
theorem w21_5 {pol : Nat → Pol} {cl : CallW} {lp : LoopW} {env : List V} {H : Heap} {Q : KQ} : wC Try.prog pol cl lp c21_5 env H Q = Q .nrm env H := wC_skip (by kernel_rfl)
theorem w21_6 {pol : Nat → Pol} {cl : CallW} {lp : LoopW} {env : List V} {H : Heap} {Q : KQ} : wC Try.prog pol cl lp c21_6 env H Q = wC Try.prog pol cl lp c21_7 env H (seqK Try.prog pol cl lp c21_8 Q) := wC_seq (by kernel_rfl)
theorem w21_7 {pol : Nat → Pol} {cl : CallW} {lp : LoopW} {env : List V} {H : Heap} {Q : KQ} : wC Try.prog pol cl lp c21_7 env H Q = wOps Try.prog pol cl o21_7 d21_7_0 0 env H (Q .nrm) := wC_reg (i := 1) (by kernel_rfl) rfl
theorem w21_7_0 {pol : Nat → Pol} {cl : CallW} {t0 t1 t2 t3 t4 t5 t6 t7 t8 t9 t10 t11 t12 t13 t14 t15 t16 t17 t18 t19 t20 t21 t22 t23 t24 t25 t26 t27 t28 t29 t30 t31 t32 t33 t34 t35 t36 t37 t38 t39 t40 t41 t42 t43 t44 t45 t46 t47 t48 t49 t50 t51 t52 t53 t54 t55 t56 t57 t58 t59 t60 t61 t62 : V} {H : Heap} {Q : List V → Heap → Prop} : wOps Try.prog pol cl o21_7 d21_7_0 0 [t0, t1, t2, t3, t4, t5, t6, t7, t8, t9, t10, t11, t12, t13, t14, t15, t16, t17, t18, t19, t20, t21, t22, t23, t24, t25, t26, t27, t28, t29, t30, t31, t32, t33, t34, t35, t36, t37, t38, t39, t40, t41, t42, t43, t44, t45, t46, t47, t48, t49, t50, t51, t52, t53, t54, t55, t56, t57, t58, t59, t60, t61, t62] H Q = (
  stepW (liftO (foldO max2 t1 [(.int .i64 0)])) H fun v1 H1 =>
  stepW (nilO t0) H1 fun v2 H2 =>
  stepW (evFieldAddr Try.prog 49 v2 2) H2 fun v3 H3 =>
  stepW (evLoad Try.prog H3 47 v3) H3 fun v4 H4 =>
  stepW (evLen Try.prog 47 v4) H4 fun v5 H5 =>
  stepW (liftO (foldO min2 v1 [v5])) H5 fun v6 H6 =>
  Q [t0, v6, t2, t3, t4, t5, t6, t7, t8, t9, t1, v1, t0, v2, v3, v4, v5, v6, t18, t19, t20, t21, t22, t23, t24, t25, t26, t27, t28, t29, t30, t31, t32, t33, t34, t35, t36, t37, t38, t39, t40, t41, t42, t43, t44, t45, t46, t47, t48, t49, t50, t51, t52, t53, t54, t55, t56, t57, t58, t59, t60, t61, t62] H6) := by kernel_rfl
theorem w21_8 {pol : Nat → Pol} {cl : CallW} {lp : LoopW} {env : List V} {H : Heap} {Q : KQ} : wC Try.prog pol cl lp c21_8 env H Q = wC Try.prog pol cl lp c21_9 env H (seqK Try.prog pol cl lp c21_10 Q) := wC_seq (by kernel_rfl)
theorem w21_9 {pol : Nat → Pol} {cl : CallW} {lp : LoopW} {env : List V} {H : Heap} {Q : KQ} : wC Try.prog pol cl lp c21_9 env H Q = wOps Try.prog pol cl o21_9 d21_9_0 0 env H (Q .nrm) := wC_reg (i := 2) (by kernel_rfl) rfl
theorem w21_9_0 {pol : Nat → Pol} {cl : CallW} {t0 t1 t2 t3 t4 t5 t6 t7 t8 t9 t10 t11 t12 t13 t14 t15 t16 t17 t18 t19 t20 t21 t22 t23 t24 t25 t26 t27 t28 t29 t30 t31 t32 t33 t34 t35 t36 t37 t38 t39 t40 t41 t42 t43 t44 t45 t46 t47 t48 t49 t50 t51 t52 t53 t54 t55 t56 t57 t58 t59 t60 t61 t62 : V} {H : Heap} {Q : List V → Heap → Prop} : wOps Try.prog pol cl o21_9 d21_9_0 0 [t0, t1, t2, t3, t4, t5, t6, t7, t8, t9, t10, t11, t12, t13, t14, t15, t16, t17, t18, t19, t20, t21, t22, t23, t24, t25, t26, t27, t28, t29, t30, t31, t32, t33, t34, t35, t36, t37, t38, t39, t40, t41, t42, t43, t44, t45, t46, t47, t48, t49, t50, t51, t52, t53, t54, t55, t56, t57, t58, t59, t60, t61, t62] H Q = (
  stepW (nilO t0) H fun v1 H1 =>
  stepW (evFieldAddr Try.prog 49 v1 2) H1 fun v2 H2 =>
  stepW (evLoad Try.prog H2 47 v2) H2 fun v3 H3 =>
  stepW (evSlice Try.prog H3 47 v3 none (some t1) none) H3 fun v4 H4 =>
  callW pol cl H4 25 33 [t0, v4] fun v5 H5 =>
  Q [t0, t1, t2, t3, t4, t5, t6, t7, t8, t9, t10, t11, t12, t13, t14, t15, t16, t17, t0, t0, v1, v2, v3, t1, v4, v5, t26, t27, t28, t29, t30, t31, t32, t33, t34, t35, t36, t37, t38, t39, t40, t41, t42, t43, t44, t45, t46, t47, t48, t49, t50, t51, t52, t53, t54, t55, t56, t57, t58, t59, t60, t61, t62] H5) := by kernel_rfl
theorem w21_10 {pol : Nat → Pol} {cl : CallW} {lp : LoopW} {env : List V} {H : Heap} {Q : KQ} : wC Try.prog pol cl lp c21_10 env H Q = wC Try.prog pol cl lp c21_11 env H (seqK Try.prog pol cl lp c21_18 Q) := wC_seq (by kernel_rfl)
theorem w21_11 {pol : Nat → Pol} {cl : CallW} {lp : LoopW} {env : List V} {H : Heap} {Q : KQ} : wC Try.prog pol cl lp c21_11 env H Q = wC Try.prog pol cl lp c21_12 env H (seqK Try.prog pol cl lp c21_13 Q) := wC_seq (by kernel_rfl)
theorem w21_12 {pol : Nat → Pol} {cl : CallW} {lp : LoopW} {env : List V} {H : Heap} {Q : KQ} : wC Try.prog pol cl lp c21_12 env H Q = wOps Try.prog pol cl o21_12 d21_12_0 0 env H (Q .nrm) := wC_reg (i := 3) (by kernel_rfl) rfl
theorem w21_12_0 {pol : Nat → Pol} {cl : CallW} {t0 t1 t2 t3 t4 t5 t6 t7 t8 t9 t10 t11 t12 t13 t14 t15 t16 t17 t18 t19 t20 t21 t22 t23 t24 t25 t26 t27 t28 t29 t30 t31 t32 t33 t34 t35 t36 t37 t38 t39 t40 t41 t42 t43 t44 t45 t46 t47 t48 t49 t50 t51 t52 t53 t54 t55 t56 t57 t58 t59 t60 t61 t62 : V} {H : Heap} {Q : List V → Heap → Prop} : wOps Try.prog pol cl o21_12 d21_12_0 0 [t0, t1, t2, t3, t4, t5, t6, t7, t8, t9, t10, t11, t12, t13, t14, t15, t16, t17, t18, t19, t20, t21, t22, t23, t24, t25, t26, t27, t28, t29, t30, t31, t32, t33, t34, t35, t36, t37, t38, t39, t40, t41, t42, t43, t44, t45, t46, t47, t48, t49, t50, t51, t52, t53, t54, t55, t56, t57, t58, t59, t60, t61, t62] H Q = (
  stepW (nilO t0) H fun v1 H1 =>
  stepW (evFieldAddr Try.prog 49 v1 2) H1 fun v2 H2 =>
  stepW (evLoad Try.prog H2 47 v2) H2 fun v3 H3 =>
  stepW (evLen Try.prog 47 v3) H3 fun v4 H4 =>
  stepW (liftO (evBin Try.prog 3 .lss t1 v4)) H4 fun v5 H5 =>
  Q [t0, t1, t2, t3, t4, t5, t6, t7, t8, t9, t10, t11, t12, t13, t14, t15, t16, t17, t18, t19, t20, t21, t22, t23, t24, t25, t1, t0, v1, v2, v3, v4, v5, t33, t34, t35, t36, t37, t38, t39, t40, t41, t42, t43, t44, t45, t46, t47, t48, t49, t50, t51, t52, t53, t54, t55, t56, t57, t58, t59, t60, t61, t62] H5) := by kernel_rfl
theorem w21_13 {pol : Nat → Pol} {cl : CallW} {lp : LoopW} {env : List V} {H : Heap} {Q : KQ} : wC Try.prog pol cl lp c21_13 env H Q = condW (evOperand env (Operand.tmp 32)) (wC Try.prog pol cl lp c21_14 env H Q) (wC Try.prog pol cl lp c21_17 env H Q) := wC_cond (by kernel_rfl)
theorem w21_14 {pol : Nat → Pol} {cl : CallW} {lp : LoopW} {env : List V} {H : Heap} {Q : KQ} : wC Try.prog pol cl lp c21_14 env H Q = wC Try.prog pol cl lp c21_15 env H (seqK Try.prog pol cl lp c21_16 Q) := wC_seq (by kernel_rfl)
theorem w21_15 {pol : Nat → Pol} {cl : CallW} {lp : LoopW} {env : List V} {H : Heap} {Q : KQ} : wC Try.prog pol cl lp c21_15 env H Q = wOps Try.prog pol cl o21_15 d21_15_0 0 env H (Q .nrm) := wC_reg (i := 4) (by kernel_rfl) rfl
theorem w21_15_0 {pol : Nat → Pol} {cl : CallW} {t0 t1 t2 t3 t4 t5 t6 t7 t8 t9 t10 t11 t12 t13 t14 t15 t16 t17 t18 t19 t20 t21 t22 t23 t24 t25 t26 t27 t28 t29 t30 t31 t32 t33 t34 t35 t36 t37 t38 t39 t40 t41 t42 t43 t44 t45 t46 t47 t48 t49 t50 t51 t52 t53 t54 t55 t56 t57 t58 t59 t60 t61 t62 : V} {H : Heap} {Q : List V → Heap → Prop} : wOps Try.prog pol cl o21_15 d21_15_0 0 [t0, t1, t2, t3, t4, t5, t6, t7, t8, t9, t10, t11, t12, t13, t14, t15, t16, t17, t18, t19, t20, t21, t22, t23, t24, t25, t26, t27, t28, t29, t30, t31, t32, t33, t34, t35, t36, t37, t38, t39, t40, t41, t42, t43, t44, t45, t46, t47, t48, t49, t50, t51, t52, t53, t54, t55, t56, t57, t58, t59, t60, t61, t62] H Q = (
  stepW (nilO t0) H fun v1 H1 =>
  stepW (evFieldAddr Try.prog 49 v1 2) H1 fun v2 H2 =>
  stepW (evLoad Try.prog H2 47 v2) H2 fun v3 H3 =>
  stepW (evIndexAddr Try.prog 47 v3 t1) H3 fun v4 H4 =>
  stepW (evLoad Try.prog H4 65 v4) H4 fun v5 H5 =>
  stepW (allocO Try.prog H5 6 65) H5 fun v6 H6 =>
  stepW (evStore Try.prog H6 65 v6 v5) H6 fun v7 H7 =>
  Q [t0, t1, t2, t3, t4, t5, v6, t7, t8, t9, t10, t11, t12, t13, t14, t15, t16, t17, t18, t19, t20, t21, t22, t23, t24, t25, t26, t27, t28, t29, t30, t31, t32, t0, v1, v2, v3, t1, v4, v5, t40, t41, t42, t43, t44, t45, t46, t47, t48, t49, t50, t51, t52, t53, t54, t55, t56, t57, t58, t59, t60, t61, t62] H7) := by kernel_rfl
theorem w21_16 {pol : Nat → Pol} {cl : CallW} {lp : LoopW} {env : List V} {H : Heap} {Q : KQ} : wC Try.prog pol cl lp c21_16 env H Q = wOpsL Try.prog pol cl o21_16 d21_16_0 0 env H [] (fun env H lg => logOk o21_16 lg = true ∧ Q .nrm env H) := wC_regL (i := 5) (by kernel_rfl) rfl
theorem w21_16_0 {pol : Nat → Pol} {cl : CallW} {t0 t1 t2 t3 t4 t5 t6 t7 t8 t9 t10 t11 t12 t13 t14 t15 t16 t17 t18 t19 t20 t21 t22 t23 t24 t25 t26 t27 t28 t29 t30 t31 t32 t33 t34 t35 t36 t37 t38 t39 t40 t41 t42 t43 t44 t45 t46 t47 t48 t49 t50 t51 t52 t53 t54 t55 t56 t57 t58 t59 t60 t61 t62 : V} {H : Heap} {lg : Log} {Q : List V → Heap → Log → Prop} : wOpsL Try.prog pol cl o21_16 d21_16_0 0 [t0, t1, t2, t3, t4, t5, t6, t7, t8, t9, t10, t11, t12, t13, t14, t15, t16, t17, t18, t19, t20, t21, t22, t23, t24, t25, t26, t27, t28, t29, t30, t31, t32, t33, t34, t35, t36, t37, t38, t39, t40, t41, t42, t43, t44, t45, t46, t47, t48, t49, t50, t51, t52, t53, t54, t55, t56, t57, t58, t59, t60, t61, t62] H lg Q = (
  stepL (pureO t0) H lg 0 fun v1 H1 g1 =>
  stepL (evFieldAddr Try.prog 65 t6 0) H1 g1 1 fun v2 H2 g2 =>
  stepL (evLoad Try.prog H2 3 v2) H2 g2 2 fun v3 H3 g3 =>
  stepL (evFieldAddr Try.prog 65 t6 1) H3 g3 3 fun v4 H4 g4 =>
  stepL (evLoad Try.prog H4 34 v4) H4 g4 4 fun v5 H5 g5 =>
  stepL (pureO t2) H5 g5 5 fun v6 H6 g6 =>
  stepL (liftO (foldO max2 v6 [(.int .i64 0)])) H6 g6 6 fun v7 H7 g7 =>
  stepL (liftO (foldO min2 v7 [(.int .i64 64)])) H7 g7 7 fun v8 H8 g8 =>
  stepL (evSlice Try.prog H8 34 v5 none (some v8) none) H8 g8 8 fun v9 H9 g9 =>
  stepL (liftO (evBuild Try.prog 65 [(0, v3), (1, v9)])) H9 g9 9 fun v10 H10 g10 =>
  stepL (evBuildSlice Try.prog H10 50 47 1 [(0, v10)]) H10 g10 10 fun v11 H11 g11 =>
  callL pol cl H11 g11 11 51 33 [v1, v11] fun v12 H12 g12 =>
  Q [t0, t1, t2, t3, t4, t5, t6, t7, t8, t9, t10, t11, t12, t13, t14, t15, t16, t17, t18, t19, t20, t21, t22, t23, t24, t25, t26, t27, t28, t29, t30, t31, t32, t33, t34, t35, t36, t37, t38, t39, v1, v2, v3, v4, v5, v6, v7, v8, v9, v10, v11, v12, t52, t53, t54, t55, t56, t57, t58, t59, t60, t61, t62] H12 g12) := by kernel_rfl
theorem w21_17 {pol : Nat → Pol} {cl : CallW} {lp : LoopW} {env : List V} {H : Heap} {Q : KQ} : wC Try.prog pol cl lp c21_17 env H Q = Q .nrm env H := wC_skip (by kernel_rfl)
theorem w21_18 {pol : Nat → Pol} {cl : CallW} {lp : LoopW} {env : List V} {H : Heap} {Q : KQ} : wC Try.prog pol cl lp c21_18 env H Q = wOps Try.prog pol cl o21_18 d21_18_0 0 env H (Q .nrm) := wC_reg (i := 6) (by kernel_rfl) rfl
theorem w21_18_0c {pol : Nat → Pol} {cl : CallW} {env : List V} {H : Heap} {Q : List V → Heap → Prop} : wOps Try.prog pol cl o21_18 d21_18_0 0 env H Q = wOps Try.prog pol cl o21_18 p21_18_0 0 env H (fun env H => wOps Try.prog pol cl o21_18 d21_18_12 12 env H Q) := wOps_cut (by kernel_rfl) (by kernel_rfl)
theorem w21_18_0 {pol : Nat → Pol} {cl : CallW} {t0 t1 t2 t3 t4 t5 t6 t7 t8 t9 t10 t11 t12 t13 t14 t15 t16 t17 t18 t19 t20 t21 t22 t23 t24 t25 t26 t27 t28 t29 t30 t31 t32 t33 t34 t35 t36 t37 t38 t39 t40 t41 t42 t43 t44 t45 t46 t47 t48 t49 t50 t51 t52 t53 t54 t55 t56 t57 t58 t59 t60 t61 t62 : V} {H : Heap} {Q : List V → Heap → Prop} : wOps Try.prog pol cl o21_18 p21_18_0 0 [t0, t1, t2, t3, t4, t5, t6, t7, t8, t9, t10, t11, t12, t13, t14, t15, t16, t17, t18, t19, t20, t21, t22, t23, t24, t25, t26, t27, t28, t29, t30, t31, t32, t33, t34, t35, t36, t37, t38, t39, t40, t41, t42, t43, t44, t45, t46, t47, t48, t49, t50, t51, t52, t53, t54, t55, t56, t57, t58, t59, t60, t61, t62] H Q = (
  stepW (nilO t0) H fun v1 H1 =>
  stepW (evFieldAddr Try.prog 49 v1 2) H1 fun v2 H2 =>
  stepW (evStore Try.prog H2 47 v2 .nils) H2 fun v3 H3 =>
  stepW (nilO t0) H3 fun v4 H4 =>
  stepW (evFieldAddr Try.prog 49 v4 0) H4 fun v5 H5 =>
  stepW (evFieldAddr Try.prog 46 v5 1) H5 fun v6 H6 =>
  stepW (evStore Try.prog H6 4 v6 (.bool false)) H6 fun v7 H7 =>
  stepW (nilO t0) H7 fun v8 H8 =>
  stepW (evFieldAddr Try.prog 49 v8 0) H8 fun v9 H9 =>
  Q [t0, t1, t2, t3, t4, t5, t6, t7, t8, t9, t10, t11, t12, t13, t14, t15, t16, t17, t18, t19, t20, t21, t22, t23, t24, t25, t26, t27, t28, t29, t30, t31, t32, t33, t34, t35, t36, t37, t38, t39, t40, t41, t42, t43, t44, t45, t46, t47, t48, t49, t50, t51, t0, t0, t0, v1, v2, v4, v5, v6, v8, v9, t62] H9) := by kernel_rfl
theorem w21_18_12 {pol : Nat → Pol} {cl : CallW} {t0 t1 t2 t3 t4 t5 t6 t7 t8 t9 t10 t11 t12 t13 t14 t15 t16 t17 t18 t19 t20 t21 t22 t23 t24 t25 t26 t27 t28 t29 t30 t31 t32 t33 t34 t35 t36 t37 t38 t39 t40 t41 t42 t43 t44 t45 t46 t47 t48 t49 t50 t51 t52 t53 t54 t55 t56 t57 t58 t59 t60 t61 t62 : V} {H : Heap} {Q : List V → Heap → Prop} : wOps Try.prog pol cl o21_18 d21_18_12 12 [t0, t1, t2, t3, t4, t5, t6, t7, t8, t9, t10, t11, t12, t13, t14, t15, t16, t17, t18, t19, t20, t21, t22, t23, t24, t25, t26, t27, t28, t29, t30, t31, t32, t33, t34, t35, t36, t37, t38, t39, t40, t41, t42, t43, t44, t45, t46, t47, t48, t49, t50, t51, t52, t53, t54, t55, t56, t57, t58, t59, t60, t61, t62] H Q = (
  stepW (evFieldAddr Try.prog 46 t61 0) H fun v1 H1 =>
  stepW (evStore Try.prog H1 3 v1 (.int .i64 (-1))) H1 fun v2 H2 =>
  Q [t0, t1, t2, t3, t4, t5, t6, t7, t8, t9, t10, t11, t12, t13, t14, t15, t16, t17, t18, t19, t20, t21, t22, t23, t24, t25, t26, t27, t28, t29, t30, t31, t32, t33, t34, t35, t36, t37, t38, t39, t40, t41, t42, t43, t44, t45, t46, t47, t48, t49, t50, t51, t52, t53, t54, t55, t56, t57, t58, t59, t60, t61, v1] H2) := by kernel_rfl
end Go.Proofs.Ytcamcfplcoklkaa.Iv

namespace Go.Proofs.Ytcamcfplcoklkaa.Iv
open Go
set_option linter.unusedVariables false
set_option linter.unusedSimpArgs false
set_option maxRecDepth 100000
theorem by5 : byOf Try.prog 5 = some 1 := by kernel_rfl
theorem z5 : zOf Try.prog 5 = some [.int .u8 0] := by kernel_rfl
def CH0 : Heap := Heap.sets (fun _ => none) [(.own 5, ⟨0, [], false, true⟩)]
def CH (bs : List Int) : Heap := Heap.sets CH0 [(.own 7, ⟨0, cellsB bs, false, true⟩)]
theorem app_new {bs : List Int} (hn : bs ≠ []) (hb : bs.length < 1048576) : evAppend Try.prog CH0 7 34 34 (.sl (.own 5) 0 0 0 1 (some 0)) (.list (bytesL bs) true) =
    some ⟨.sl (.own 7) 0 0 bs.length 1 none, [(.own 7, ⟨0, cellsB bs, false, true⟩)], [.own 5, .own 7]⟩ := by
  have l1 : live CH0 (.own 5) 0 = some ⟨0, [], false, true⟩ := by kernel_rfl
  have n1 : nextGen CH0 (.own 7) = 0 := by kernel_rfl
  have hall : (bytesL bs).all (fun x => x.length == 1) = true := by simp [bytesL]
  have hl : (bytesL bs).length = bs.length := by simp [bytesL]
  have hs : appSrc Try.prog CH0 1 [.int .u8 0] 34 (.list (bytesL bs) true) = some (cellsB bs, bs.length, true, []) := by
    simp only [appSrc, u34b, src, hall, if_true, flat_bytes, hl]
  have hk : ¬ (0 + bs.length ≤ 0) := by have := List.length_pos_iff.2 hn; omega
  have hc : bs.length ≤ lim47 := by unfold lim47; omega
  unfold evAppend
  simp only [u34b, sz5, by5, z5, hs, l1, n1]
  simp [hk, hc, cut, hn]
theorem clone_spec {bs : List Int} (hn : bs ≠ []) (hb : bs.length < 1048576) {Q : V → Heap → Prop} (hQ : Q (.sl (.own 7) 0 0 bs.length 1 none) (CH bs)) : CallR dcfg 31 [.list (bytesL bs) true] (fun _ => none) Q := by
  obtain ⟨x, r, rfl⟩ : ∃ x r, bs = x :: r := by cases bs with | nil => exact absurd rfl hn | cons x r => exact ⟨x, r, rfl⟩
  refine CallR.body' (K := dcfg) (f := 31) (fn := Try.f31) (c := c31_0) (env := [.list (bytesL (x :: r)) true, .und, .und, .und, .und, .und, .und, .und]) (rs := [.tmp 2]) rfl (by kernel_rfl) (by kernel_rfl) (by kernel_rfl) (by kernel_rfl) (by kernel_rfl) (by kernel_rfl) ?_
  show wC Try.prog dcfg.pol (CallR dcfg) (LoopR dcfg) c31_0 _ _ _
  simp only [w31_0, w31_1, w31_1_0, w31_2, w31_3, w31_4, w31_4_0, w31_5, w31_9, w31_10, w31_11, w31_11_0, w31_12, seqK]
  refine mk0 (.bool false) (by kernel_rfl) ?_
  refine condF ?_
  refine mk (.sl (.own 5) 0 0 0 1 (some 0)) [(.own 5, ⟨0, [], false, true⟩)] [.own 5] (by kernel_rfl) ?_
  refine mk _ _ _ (app_new hn hb) ?_
  exact hQ
/-- a copy of bytes -/
theorem clone_call {H : Heap} {d : Nat} {bs : List Int} (hn : bs ≠ []) (hb : bs.length < 1048576) {Q : Out → Prop}
    (hQ : Q ⟨.sl (.sub d (.own 7)) (nextGen H (.sub d (.own 7)) + 0) 0 bs.length 1 none, [(.sub d (.own 7), ⟨nextGen H (.sub d (.own 7)) + 0, cellsB bs, false, true⟩)], [.sub d (.own 7)]⟩) : wCall dcfg.pol (CallR dcfg) H d 31 [.list (bytesL bs) true] Q := by
  have e1 : callPre dcfg.pol H 31 [.list (bytesL bs) true] = some ⟨[.list (bytesL bs) true], fun _ => none, [], [], []⟩ := by kernel_rfl
  unfold wCall
  rw [e1]
  refine clone_spec hn hb ?_
  have e2 : callPost dcfg.pol H d 31 ⟨[.list (bytesL bs) true], fun _ => none, [], [], []⟩ (.sl (.own 7) 0 0 bs.length 1 none) (CH bs) =
      some ⟨.sl (.sub d (.own 7)) (nextGen H (.sub d (.own 7)) + 0) 0 bs.length 1 none, [(.sub d (.own 7), ⟨nextGen H (.sub d (.own 7)) + 0, cellsB bs, false, true⟩)], [.sub d (.own 7)]⟩ := by kernel_rfl
  show outW (callPost dcfg.pol H d 31 ⟨[.list (bytesL bs) true], fun _ => none, [], [], []⟩ (.sl (.own 7) 0 0 bs.length 1 none) (CH bs)) Q
  rw [e2]
  exact hQ
/-- Image, on a disk that is looked at -/
theorem image_spec {l b : Int} {g : Bool} {ks : List Int} {q : V} (hn : ks ≠ []) (hb : ks.length < 1048576) {Q : V → Heap → Prop}
    (hQ : Q (.sl (.sub 9 (.own 7)) 0 0 ks.length 1 none) (Heap.sets (fun _ => none) [(.sub 9 (.own 7), ⟨0, cellsB ks, false, true⟩)])) : CallR dcfg 16 [vD l g b (bytesL ks) q] (fun _ => none) Q := by
  refine CallR.body' (K := dcfg) (f := 16) (fn := Try.f16) (c := c16_0) (env := [vD l g b (bytesL ks) q, .und, .und, .und, .und, .und, .und, .und, .und, .und]) (rs := [.tmp 2]) rfl (by kernel_rfl) (by kernel_rfl) (by kernel_rfl) (by kernel_rfl) (by kernel_rfl) (by kernel_rfl) ?_
  show wC Try.prog dcfg.pol (CallR dcfg) (LoopR dcfg) c16_0 _ _ _
  simp only [w16_0, w16_1, w16_1_0, w16_2, w16_3, w16_4, w16_4_0, w16_5, w16_9, w16_10, w16_11, w16_11_0, w16_12, seqK, fa49_1, ld34b]
  refine mk0 (.bool false) (by kernel_rfl) ?_
  refine condF ?_
  refine mk0 (vD l g b (bytesL ks) q) (by rfl) ?_
  refine mk0 (.fptr [.list (bytesL ks) true, q] true) (by rfl) ?_
  refine mk0 (.list (bytesL ks) true) (by rfl) ?_
  refine clone_call (Q := fun o => _) hn hb ?_
  exact hQ
end Go.Proofs.Ytcamcfplcoklkaa.Iv

namespace Go.Proofs.Ytcamcfplcoklkaa.Iv
open Go
set_option linter.unusedVariables false
-- (*incipit/disk.Disk).Read
noncomputable def c22_0 : Code := cAt [] (bodyOf Try.f22)
noncomputable def c22_1 : Code := cAt [0] (bodyOf Try.f22)
noncomputable def o22_1 : Array Oper := opsOf c22_1
noncomputable def d22_1_0 : List Oper := o22_1.toList
noncomputable def c22_2 : Code := cAt [1] (bodyOf Try.f22)
noncomputable def c22_3 : Code := cAt [1, 0] (bodyOf Try.f22)
noncomputable def c22_4 : Code := cAt [1, 0, 0] (bodyOf Try.f22)
noncomputable def c22_5 : Code := cAt [1, 0, 0, 0] (bodyOf Try.f22)
noncomputable def o22_5 : Array Oper := opsOf c22_5
noncomputable def d22_5_0 : List Oper := o22_5.toList
noncomputable def c22_6 : Code := cAt [1, 0, 0, 1] (bodyOf Try.f22)
noncomputable def c22_7 : Code := cAt [1, 0, 0, 1, 0] (bodyOf Try.f22)
noncomputable def c22_8 : Code := cAt [1, 0, 0, 1, 0, 0] (bodyOf Try.f22)
noncomputable def o22_8 : Array Oper := opsOf c22_8
noncomputable def d22_8_0 : List Oper := o22_8.toList
noncomputable def c22_9 : Code := cAt [1, 0, 0, 1, 0, 1] (bodyOf Try.f22)
noncomputable def c22_10 : Code := cAt [1, 0, 0, 1, 1] (bodyOf Try.f22)
noncomputable def c22_11 : Code := cAt [1, 0, 0, 1, 1, 0] (bodyOf Try.f22)
noncomputable def o22_11 : Array Oper := opsOf c22_11
noncomputable def d22_11_0 : List Oper := o22_11.toList
noncomputable def c22_12 : Code := cAt [1, 0, 0, 1, 1, 1] (bodyOf Try.f22)
noncomputable def c22_13 : Code := cAt [1, 0, 0, 1, 1, 1, 0] (bodyOf Try.f22)
noncomputable def c22_14 : Code := cAt [1, 0, 0, 1, 1, 1, 0, 0] (bodyOf Try.f22)
noncomputable def o22_14 : Array Oper := opsOf c22_14
noncomputable def d22_14_0 : List Oper := o22_14.toList
noncomputable def c22_15 : Code := cAt [1, 0, 0, 1, 1, 1, 0, 1] (bodyOf Try.f22)
noncomputable def c22_16 : Code := cAt [1, 0, 0, 1, 1, 1, 1] (bodyOf Try.f22)
noncomputable def c22_17 : Code := cAt [1, 1] (bodyOf Try.f22)
noncomputable def c22_18 : Code := cAt [1, 1, 0] (bodyOf Try.f22)
noncomputable def c22_19 : Code := cAt [1, 1, 0, 0] (bodyOf Try.f22)
noncomputable def o22_19 : Array Oper := opsOf c22_19
noncomputable def d22_19_0 : List Oper := o22_19.toList
noncomputable def c22_20 : Code := cAt [1, 1, 0, 1] (bodyOf Try.f22)
noncomputable def c22_21 : Code := cAt [1, 1, 0, 1, 0] (bodyOf Try.f22)
noncomputable def c22_22 : Code := cAt [1, 1, 0, 1, 0, 0] (bodyOf Try.f22)
noncomputable def o22_22 : Array Oper := opsOf c22_22
noncomputable def d22_22_0 : List Oper := o22_22.toList
noncomputable def c22_23 : Code := cAt [1, 1, 0, 1, 0, 1] (bodyOf Try.f22)
noncomputable def c22_24 : Code := cAt [1, 1, 0, 1, 0, 1, 0] (bodyOf Try.f22)
noncomputable def c22_25 : Code := cAt [1, 1, 0, 1, 0, 1, 0, 0] (bodyOf Try.f22)
noncomputable def o22_25 : Array Oper := opsOf c22_25
noncomputable def d22_25_0 : List Oper := o22_25.toList
noncomputable def c22_26 : Code := cAt [1, 1, 0, 1, 0, 1, 0, 1] (bodyOf Try.f22)
noncomputable def c22_27 : Code := cAt [1, 1, 0, 1, 0, 1, 0, 1, 0] (bodyOf Try.f22)
noncomputable def c22_28 : Code := cAt [1, 1, 0, 1, 0, 1, 0, 1, 0, 0] (bodyOf Try.f22)
noncomputable def o22_28 : Array Oper := opsOf c22_28
noncomputable def d22_28_0 : List Oper := o22_28.toList
noncomputable def c22_29 : Code := cAt [1, 1, 0, 1, 0, 1, 0, 1, 0, 1] (bodyOf Try.f22)
noncomputable def c22_30 : Code := cAt [1, 1, 0, 1, 0, 1, 0, 1, 1] (bodyOf Try.f22)
noncomputable def c22_31 : Code := cAt [1, 1, 1] (bodyOf Try.f22)
noncomputable def c22_32 : Code := cAt [1, 1, 1, 0] (bodyOf Try.f22)
noncomputable def o22_32 : Array Oper := opsOf c22_32
noncomputable def d22_32_0 : List Oper := o22_32.toList
noncomputable def c22_33 : Code := cAt [1, 1, 1, 1] (bodyOf Try.f22)
theorem w22_0 {pol : Nat → Pol} {cl : CallW} {lp : LoopW} {env : List V} {H : Heap} {Q : KQ} : wC Try.prog pol cl lp c22_0 env H Q = wC Try.prog pol cl lp c22_1 env H (seqK Try.prog pol cl lp c22_2 Q) := wC_seq (by kernel_rfl)
theorem w22_1 {pol : Nat → Pol} {cl : CallW} {lp : LoopW} {env : List V} {H : Heap} {Q : KQ} : wC Try.prog pol cl lp c22_1 env H Q = wOps Try.prog pol cl o22_1 d22_1_0 0 env H (Q .nrm) := wC_reg (i := 0) (by kernel_rfl) rfl
theorem w22_1_0 {pol : Nat → Pol} {cl : CallW} {t0 t1 t2 t3 t4 t5 t6 t7 t8 t9 t10 t11 t12 t13 t14 t15 t16 t17 t18 t19 t20 t21 t22 t23 t24 t25 t26 t27 t28 t29 t30 t31 t32 t33 t34 t35 t36 : V} {H : Heap} {Q : List V → Heap → Prop} : wOps Try.prog pol cl o22_1 d22_1_0 0 [t0, t1, t2, t3, t4, t5, t6, t7, t8, t9, t10, t11, t12, t13, t14, t15, t16, t17, t18, t19, t20, t21, t22, t23, t24, t25, t26, t27, t28, t29, t30, t31, t32, t33, t34, t35, t36] H Q = (
  stepW (boxO H 3 t1) H fun v1 H1 =>
  stepW (allocO Try.prog H1 4 34) H1 fun v2 H2 =>
  stepW (allocO Try.prog H2 5 24) H2 fun v3 H3 =>
  Q [t0, t1, t2, v1, v2, v3, t6, t7, t8, t9, t10, t11, t12, t13, t14, t15, t16, t17, t18, t19, t20, t21, t22, t23, t24, t25, t26, t27, t28, t29, t30, t31, t32, t33, t34, t35, t36] H3) := by kernel_rfl
theorem w22_2 {pol : Nat → Pol} {cl : CallW} {lp : LoopW} {env : List V} {H : Heap} {Q : KQ} : wC Try.prog pol cl lp c22_2 env H Q = wC Try.prog pol cl lp c22_3 env H (seqK Try.prog pol cl lp c22_17 Q) := wC_seq (by kernel_rfl)
theorem w22_3 {pol : Nat → Pol} {cl : CallW} {lp : LoopW} {env : List V} {H : Heap} {Q : KQ} : wC Try.prog pol cl lp c22_3 env H Q = wC Try.prog pol cl lp c22_4 env H (blockK 0 Q) := wC_block (by kernel_rfl)
theorem w22_4 {pol : Nat → Pol} {cl : CallW} {lp : LoopW} {env : List V} {H : Heap} {Q : KQ} : wC Try.prog pol cl lp c22_4 env H Q = wC Try.prog pol cl lp c22_5 env H (seqK Try.prog pol cl lp c22_6 Q) := wC_seq (by kernel_rfl)
theorem w22_5 {pol : Nat → Pol} {cl : CallW} {lp : LoopW} {env : List V} {H : Heap} {Q : KQ} : wC Try.prog pol cl lp c22_5 env H Q = wOps Try.prog pol cl o22_5 d22_5_0 0 env H (Q .nrm) := wC_reg (i := 1) (by kernel_rfl) rfl
theorem w22_5_0 {pol : Nat → Pol} {cl : CallW} {t0 t1 t2 t3 t4 t5 t6 t7 t8 t9 t10 t11 t12 t13 t14 t15 t16 t17 t18 t19 t20 t21 t22 t23 t24 t25 t26 t27 t28 t29 t30 t31 t32 t33 t34 t35 t36 : V} {H : Heap} {Q : List V → Heap → Prop} : wOps Try.prog pol cl o22_5 d22_5_0 0 [t0, t1, t2, t3, t4, t5, t6, t7, t8, t9, t10, t11, t12, t13, t14, t15, t16, t17, t18, t19, t20, t21, t22, t23, t24, t25, t26, t27, t28, t29, t30, t31, t32, t33, t34, t35, t36] H Q = (
  stepW (evLoad Try.prog H 3 t3) H fun v1 H1 =>
  callW pol cl H1 11 34 [t0, v1] fun v2 H2 =>
  stepW (liftO (evUn .not v2)) H2 fun v3 H3 =>
  Q [t0, t1, t2, t3, t4, t5, t6, t7, v3, t0, v1, v2, v3, t13, t14, t15, t16, t17, t18, t19, t20, t21, t22, t23, t24, t25, t26, t27, t28, t29, t30, t31, t32, t33, t34, t35, t36] H3) := by kernel_rfl
theorem w22_6 {pol : Nat → Pol} {cl : CallW} {lp : LoopW} {env : List V} {H : Heap} {Q : KQ} : wC Try.prog pol cl lp c22_6 env H Q = condW (evOperand env (Operand.tmp 8)) (wC Try.prog pol cl lp c22_7 env H Q) (wC Try.prog pol cl lp c22_10 env H Q) := wC_cond (by kernel_rfl)
theorem w22_7 {pol : Nat → Pol} {cl : CallW} {lp : LoopW} {env : List V} {H : Heap} {Q : KQ} : wC Try.prog pol cl lp c22_7 env H Q = wC Try.prog pol cl lp c22_8 env H (seqK Try.prog pol cl lp c22_9 Q) := wC_seq (by kernel_rfl)
theorem w22_8 {pol : Nat → Pol} {cl : CallW} {lp : LoopW} {env : List V} {H : Heap} {Q : KQ} : wC Try.prog pol cl lp c22_8 env H Q = wOps Try.prog pol cl o22_8 d22_8_0 0 env H (Q .nrm) := wC_reg (i := 2) (by kernel_rfl) rfl
theorem w22_8_0 {pol : Nat → Pol} {cl : CallW} {t0 t1 t2 t3 t4 t5 t6 t7 t8 t9 t10 t11 t12 t13 t14 t15 t16 t17 t18 t19 t20 t21 t22 t23 t24 t25 t26 t27 t28 t29 t30 t31 t32 t33 t34 t35 t36 : V} {H : Heap} {Q : List V → Heap → Prop} : wOps Try.prog pol cl o22_8 d22_8_0 0 [t0, t1, t2, t3, t4, t5, t6, t7, t8, t9, t10, t11, t12, t13, t14, t15, t16, t17, t18, t19, t20, t21, t22, t23, t24, t25, t26, t27, t28, t29, t30, t31, t32, t33, t34, t35, t36] H Q = (
  stepW (evStore Try.prog H 34 t4 .nils) H fun v1 H1 =>
  stepW (evStore Try.prog H1 24 t5 (.int .i64 1)) H1 fun v2 H2 =>
  Q [t0, t1, t2, t3, t4, t5, t6, t7, t8, t9, t10, t11, t12, t13, t14, t15, t16, t17, t18, t19, t20, t21, t22, t23, t24, t25, t26, t27, t28, t29, t30, t31, t32, t33, t34, t35, t36] H2) := by kernel_rfl
theorem w22_9 {pol : Nat → Pol} {cl : CallW} {lp : LoopW} {env : List V} {H : Heap} {Q : KQ} : wC Try.prog pol cl lp c22_9 env H Q = Q .ret env H := wC_ret (by kernel_rfl)
theorem w22_10 {pol : Nat → Pol} {cl : CallW} {lp : LoopW} {env : List V} {H : Heap} {Q : KQ} : wC Try.prog pol cl lp c22_10 env H Q = wC Try.prog pol cl lp c22_11 env H (seqK Try.prog pol cl lp c22_12 Q) := wC_seq (by kernel_rfl)
theorem w22_11 {pol : Nat → Pol} {cl : CallW} {lp : LoopW} {env : List V} {H : Heap} {Q : KQ} : wC Try.prog pol cl lp c22_11 env H Q = wOps Try.prog pol cl o22_11 d22_11_0 0 env H (Q .nrm) := wC_reg (i := 3) (by kernel_rfl) rfl
theorem w22_11_0 {pol : Nat → Pol} {cl : CallW} {t0 t1 t2 t3 t4 t5 t6 t7 t8 t9 t10 t11 t12 t13 t14 t15 t16 t17 t18 t19 t20 t21 t22 t23 t24 t25 t26 t27 t28 t29 t30 t31 t32 t33 t34 t35 t36 : V} {H : Heap} {Q : List V → Heap → Prop} : wOps Try.prog pol cl o22_11 d22_11_0 0 [t0, t1, t2, t3, t4, t5, t6, t7, t8, t9, t10, t11, t12, t13, t14, t15, t16, t17, t18, t19, t20, t21, t22, t23, t24, t25, t26, t27, t28, t29, t30, t31, t32, t33, t34, t35, t36] H Q = (
  stepW (nilO t0) H fun v1 H1 =>
  stepW (evFieldAddr Try.prog 49 v1 0) H1 fun v2 H2 =>
  stepW (evFieldAddr Try.prog 46 v2 1) H2 fun v3 H3 =>
  stepW (evLoad Try.prog H3 4 v3) H3 fun v4 H4 =>
  Q [t0, t1, t2, t3, t4, t5, t6, t7, t8, t9, t10, t11, t12, v4, t0, v1, v2, v3, v4, t19, t20, t21, t22, t23, t24, t25, t26, t27, t28, t29, t30, t31, t32, t33, t34, t35, t36] H4) := by kernel_rfl
theorem w22_12 {pol : Nat → Pol} {cl : CallW} {lp : LoopW} {env : List V} {H : Heap} {Q : KQ} : wC Try.prog pol cl lp c22_12 env H Q = condW (evOperand env (Operand.tmp 13)) (wC Try.prog pol cl lp c22_13 env H Q) (wC Try.prog pol cl lp c22_16 env H Q) := wC_cond (by kernel_rfl)
theorem w22_13 {pol : Nat → Pol} {cl : CallW} {lp : LoopW} {env : List V} {H : Heap} {Q : KQ} : wC Try.prog pol cl lp c22_13 env H Q = wC Try.prog pol cl lp c22_14 env H (seqK Try.prog pol cl lp c22_15 Q) := wC_seq (by kernel_rfl)
theorem w22_14 {pol : Nat → Pol} {cl : CallW} {lp : LoopW} {env : List V} {H : Heap} {Q : KQ} : wC Try.prog pol cl lp c22_14 env H Q = wOps Try.prog pol cl o22_14 d22_14_0 0 env H (Q .nrm) := wC_reg (i := 4) (by kernel_rfl) rfl
theorem w22_14_0 {pol : Nat → Pol} {cl : CallW} {t0 t1 t2 t3 t4 t5 t6 t7 t8 t9 t10 t11 t12 t13 t14 t15 t16 t17 t18 t19 t20 t21 t22 t23 t24 t25 t26 t27 t28 t29 t30 t31 t32 t33 t34 t35 t36 : V} {H : Heap} {Q : List V → Heap → Prop} : wOps Try.prog pol cl o22_14 d22_14_0 0 [t0, t1, t2, t3, t4, t5, t6, t7, t8, t9, t10, t11, t12, t13, t14, t15, t16, t17, t18, t19, t20, t21, t22, t23, t24, t25, t26, t27, t28, t29, t30, t31, t32, t33, t34, t35, t36] H Q = (
  stepW (evStore Try.prog H 34 t4 .nils) H fun v1 H1 =>
  stepW (evStore Try.prog H1 24 t5 (.int .i64 11)) H1 fun v2 H2 =>
  Q [t0, t1, t2, t3, t4, t5, t6, t7, t8, t9, t10, t11, t12, t13, t14, t15, t16, t17, t18, t19, t20, t21, t22, t23, t24, t25, t26, t27, t28, t29, t30, t31, t32, t33, t34, t35, t36] H2) := by kernel_rfl
theorem w22_15 {pol : Nat → Pol} {cl : CallW} {lp : LoopW} {env : List V} {H : Heap} {Q : KQ} : wC Try.prog pol cl lp c22_15 env H Q = Q .ret env H := wC_ret (by kernel_rfl)
theorem w22_16 {pol : Nat → Pol} {cl : CallW} {lp : LoopW} {env : List V} {H : Heap} {Q : KQ} : wC Try.prog pol cl lp c22_16 env H Q = Q .nrm env H := wC_skip (by kernel_rfl)
theorem w22_17 {pol : Nat → Pol} {cl : CallW} {lp : LoopW} {env : List V} {H : Heap} {Q : KQ} : wC Try.prog pol cl lp c22_17 env H Q = wC Try.prog pol cl lp c22_18 env H (seqK Try.prog pol cl lp c22_31 Q) := wC_seq (by kernel_rfl)
theorem w22_18 {pol : Nat → Pol} {cl : CallW} {lp : LoopW} {env : List V} {H : Heap} {Q : KQ} : wC Try.prog pol cl lp c22_18 env H Q = wC Try.prog pol cl lp c22_19 env H (seqK Try.prog pol cl lp c22_20 Q) := wC_seq (by kernel_rfl)
theorem w22_19 {pol : Nat → Pol} {cl : CallW} {lp : LoopW} {env : List V} {H : Heap} {Q : KQ} : wC Try.prog pol cl lp c22_19 env H Q = wOps Try.prog pol cl o22_19 d22_19_0 0 env H (Q .nrm) := wC_reg (i := 5) (by kernel_rfl) rfl
theorem w22_19_0 {pol : Nat → Pol} {cl : CallW} {t0 t1 t2 t3 t4 t5 t6 t7 t8 t9 t10 t11 t12 t13 t14 t15 t16 t17 t18 t19 t20 t21 t22 t23 t24 t25 t26 t27 t28 t29 t30 t31 t32 t33 t34 t35 t36 : V} {H : Heap} {Q : List V → Heap → Prop} : wOps Try.prog pol cl o22_19 d22_19_0 0 [t0, t1, t2, t3, t4, t5, t6, t7, t8, t9, t10, t11, t12, t13, t14, t15, t16, t17, t18, t19, t20, t21, t22, t23, t24, t25, t26, t27, t28, t29, t30, t31, t32, t33, t34, t35, t36] H Q = (
  stepW (nilO t0) H fun v1 H1 =>
  stepW (evFieldAddr Try.prog 49 v1 2) H1 fun v2 H2 =>
  stepW (evLoad Try.prog H2 47 v2) H2 fun v3 H3 =>
  callW pol cl H3 23 35 [v3] fun v4 H4 =>
  Q [t0, t1, t2, t3, t4, t5, t6, t7, t8, t9, t10, t11, t12, t13, t14, t15, t16, t17, t18, t0, v1, v2, v3, v4, t24, t25, t26, t27, t28, t29, t30, t31, t32, t33, t34, t35, t36] H4) := by kernel_rfl
theorem w22_20 {pol : Nat → Pol} {cl : CallW} {lp : LoopW} {env : List V} {H : Heap} {Q : KQ} : wC Try.prog pol cl lp c22_20 env H Q = wC Try.prog pol cl lp c22_21 env H (blockK 1 Q) := wC_block (by kernel_rfl)
theorem w22_21 {pol : Nat → Pol} {cl : CallW} {lp : LoopW} {env : List V} {H : Heap} {Q : KQ} {k : Nat} {cap : List V} {items : List (List V)} (hv : evOperand env (Operand.tmp 23) = .fn k cap) (hs : seqOf pol k cap = some items) : wC Try.prog pol cl lp c22_21 env H Q = wItems env (twoW [24, 25] env (wC Try.prog pol cl lp c22_22) (wC Try.prog pol cl lp c22_23)) items H Q := wC_range (ps := #[24, 25]) (by kernel_rfl) (by kernel_rfl) hv hs
theorem w22_22 {pol : Nat → Pol} {cl : CallW} {lp : LoopW} {env : List V} {H : Heap} {Q : KQ} : wC Try.prog pol cl lp c22_22 env H Q = wOps Try.prog pol cl o22_22 d22_22_0 0 env H (Q .nrm) := wC_reg (i := 6) (by kernel_rfl) rfl
theorem w22_22_0 {pol : Nat → Pol} {cl : CallW} {t0 t1 t2 t3 t4 t5 t6 t7 t8 t9 t10 t11 t12 t13 t14 t15 t16 t17 t18 t19 t20 t21 t22 t23 t24 t25 t26 t27 t28 t29 t30 t31 t32 t33 t34 t35 t36 : V} {H : Heap} {Q : List V → Heap → Prop} : wOps Try.prog pol cl o22_22 d22_22_0 0 [t0, t1, t2, t3, t4, t5, t6, t7, t8, t9, t10, t11, t12, t13, t14, t15, t16, t17, t18, t19, t20, t21, t22, t23, t24, t25, t26, t27, t28, t29, t30, t31, t32, t33, t34, t35, t36] H Q = (
  stepW (allocO Try.prog H 7 65) H fun v1 H1 =>
  stepW (evStore Try.prog H1 65 v1 t25) H1 fun v2 H2 =>
  Q [t0, t1, t2, t3, t4, t5, t6, v1, t8, t9, t10, t11, t12, t13, t14, t15, t16, t17, t18, t19, t20, t21, t22, t23, t24, t25, t26, t27, t28, t29, t30, t31, t32, t33, t34, t35, t36] H2) := by kernel_rfl
theorem w22_23 {pol : Nat → Pol} {cl : CallW} {lp : LoopW} {env : List V} {H : Heap} {Q : KQ} : wC Try.prog pol cl lp c22_23 env H Q = wC Try.prog pol cl lp c22_24 env H (blockK 2 Q) := wC_block (by kernel_rfl)
theorem w22_24 {pol : Nat → Pol} {cl : CallW} {lp : LoopW} {env : List V} {H : Heap} {Q : KQ} : wC Try.prog pol cl lp c22_24 env H Q = wC Try.prog pol cl lp c22_25 env H (seqK Try.prog pol cl lp c22_26 Q) := wC_seq (by kernel_rfl)
theorem w22_25 {pol : Nat → Pol} {cl : CallW} {lp : LoopW} {env : List V} {H : Heap} {Q : KQ} : wC Try.prog pol cl lp c22_25 env H Q = wOps Try.prog pol cl o22_25 d22_25_0 0 env H (Q .nrm) := wC_reg (i := 7) (by kernel_rfl) rfl
theorem w22_25_0 {pol : Nat → Pol} {cl : CallW} {t0 t1 t2 t3 t4 t5 t6 t7 t8 t9 t10 t11 t12 t13 t14 t15 t16 t17 t18 t19 t20 t21 t22 t23 t24 t25 t26 t27 t28 t29 t30 t31 t32 t33 t34 t35 t36 : V} {H : Heap} {Q : List V → Heap → Prop} : wOps Try.prog pol cl o22_25 d22_25_0 0 [t0, t1, t2, t3, t4, t5, t6, t7, t8, t9, t10, t11, t12, t13, t14, t15, t16, t17, t18, t19, t20, t21, t22, t23, t24, t25, t26, t27, t28, t29, t30, t31, t32, t33, t34, t35, t36] H Q = (
  stepW (evFieldAddr Try.prog 65 t7 0) H fun v1 H1 =>
  stepW (evLoad Try.prog H1 3 v1) H1 fun v2 H2 =>
  stepW (evLoad Try.prog H2 3 t3) H2 fun v3 H3 =>
  stepW (liftO (evBin Try.prog 3 .eql v2 v3)) H3 fun v4 H4 =>
  Q [t0, t1, t2, t3, t4, t5, t6, t7, t8, t9, t10, t11, t12, t13, t14, t15, t16, t17, t18, t19, t20, t21, t22, t23, t24, t25, v1, v2, v3, v4, t30, t31, t32, t33, t34, t35, t36] H4) := by kernel_rfl
theorem w22_26 {pol : Nat → Pol} {cl : CallW} {lp : LoopW} {env : List V} {H : Heap} {Q : KQ} : wC Try.prog pol cl lp c22_26 env H Q = condW (evOperand env (Operand.tmp 29)) (wC Try.prog pol cl lp c22_27 env H Q) (wC Try.prog pol cl lp c22_30 env H Q) := wC_cond (by kernel_rfl)
theorem w22_27 {pol : Nat → Pol} {cl : CallW} {lp : LoopW} {env : List V} {H : Heap} {Q : KQ} : wC Try.prog pol cl lp c22_27 env H Q = wC Try.prog pol cl lp c22_28 env H (seqK Try.prog pol cl lp c22_29 Q) := wC_seq (by kernel_rfl)
theorem w22_28 {pol : Nat → Pol} {cl : CallW} {lp : LoopW} {env : List V} {H : Heap} {Q : KQ} : wC Try.prog pol cl lp c22_28 env H Q = wOps Try.prog pol cl o22_28 d22_28_0 0 env H (Q .nrm) := wC_reg (i := 8) (by kernel_rfl) rfl
theorem w22_28_0 {pol : Nat → Pol} {cl : CallW} {t0 t1 t2 t3 t4 t5 t6 t7 t8 t9 t10 t11 t12 t13 t14 t15 t16 t17 t18 t19 t20 t21 t22 t23 t24 t25 t26 t27 t28 t29 t30 t31 t32 t33 t34 t35 t36 : V} {H : Heap} {Q : List V → Heap → Prop} : wOps Try.prog pol cl o22_28 d22_28_0 0 [t0, t1, t2, t3, t4, t5, t6, t7, t8, t9, t10, t11, t12, t13, t14, t15, t16, t17, t18, t19, t20, t21, t22, t23, t24, t25, t26, t27, t28, t29, t30, t31, t32, t33, t34, t35, t36] H Q = (
  stepW (evFieldAddr Try.prog 65 t7 1) H fun v1 H1 =>
  stepW (evLoad Try.prog H1 34 v1) H1 fun v2 H2 =>
  callW pol cl H2 32 31 [v2] fun v3 H3 =>
  stepW (evStore Try.prog H3 34 t4 v3) H3 fun v4 H4 =>
  stepW (evStore Try.prog H4 24 t5 (.int .i64 0)) H4 fun v5 H5 =>
  Q [t0, t1, t2, t3, t4, t5, t6, t7, t8, t9, t10, t11, t12, t13, t14, t15, t16, t17, t18, t19, t20, t21, t22, t23, t24, t25, t26, t27, t28, t29, v1, v2, v3, t33, t34, t35, t36] H5) := by kernel_rfl
theorem w22_29 {pol : Nat → Pol} {cl : CallW} {lp : LoopW} {env : List V} {H : Heap} {Q : KQ} : wC Try.prog pol cl lp c22_29 env H Q = Q .ret env H := wC_ret (by kernel_rfl)
theorem w22_30 {pol : Nat → Pol} {cl : CallW} {lp : LoopW} {env : List V} {H : Heap} {Q : KQ} : wC Try.prog pol cl lp c22_30 env H Q = Q .nrm env H := wC_skip (by kernel_rfl)
theorem w22_31 {pol : Nat → Pol} {cl : CallW} {lp : LoopW} {env : List V} {H : Heap} {Q : KQ} : wC Try.prog pol cl lp c22_31 env H Q = wC Try.prog pol cl lp c22_32 env H (seqK Try.prog pol cl lp c22_33 Q) := wC_seq (by kernel_rfl)
theorem w22_32 {pol : Nat → Pol} {cl : CallW} {lp : LoopW} {env : List V} {H : Heap} {Q : KQ} : wC Try.prog pol cl lp c22_32 env H Q = wOps Try.prog pol cl o22_32 d22_32_0 0 env H (Q .nrm) := wC_reg (i := 9) (by kernel_rfl) rfl
theorem w22_32_0 {pol : Nat → Pol} {cl : CallW} {t0 t1 t2 t3 t4 t5 t6 t7 t8 t9 t10 t11 t12 t13 t14 t15 t16 t17 t18 t19 t20 t21 t22 t23 t24 t25 t26 t27 t28 t29 t30 t31 t32 t33 t34 t35 t36 : V} {H : Heap} {Q : List V → Heap → Prop} : wOps Try.prog pol cl o22_32 d22_32_0 0 [t0, t1, t2, t3, t4, t5, t6, t7, t8, t9, t10, t11, t12, t13, t14, t15, t16, t17, t18, t19, t20, t21, t22, t23, t24, t25, t26, t27, t28, t29, t30, t31, t32, t33, t34, t35, t36] H Q = (
  stepW (evLoad Try.prog H 3 t3) H fun v1 H1 =>
  callW pol cl H1 35 36 [t0, v1] fun v2 H2 =>
  callW pol cl H2 36 31 [v2] fun v3 H3 =>
  stepW (evStore Try.prog H3 34 t4 v3) H3 fun v4 H4 =>
  stepW (evStore Try.prog H4 24 t5 (.int .i64 0)) H4 fun v5 H5 =>
  Q [t0, t1, t2, t3, t4, t5, t6, t7, t8, t9, t10, t11, t12, t13, t14, t15, t16, t17, t18, t19, t20, t21, t22, t23, t24, t25, t26, t27, t28, t29, t30, t31, t32, t0, v1, v2, v3] H5) := by kernel_rfl
theorem w22_33 {pol : Nat → Pol} {cl : CallW} {lp : LoopW} {env : List V} {H : Heap} {Q : KQ} : wC Try.prog pol cl lp c22_33 env H Q = Q .ret env H := wC_ret (by kernel_rfl)
end Go.Proofs.Ytcamcfplcoklkaa.Iv
