import Derived.Test.YtcamcfplcoklkaaM8
import Derived.Test.YtcamcfplcoklkaaM9
namespace Go.Proofs.Ytcamcfplcoklkaa.Iv
open Go
set_option linter.unusedVariables false
-- incipit/incipitlaw27.long
noncomputable def c10_0 : Code := cAt [] (bodyOf Try.f10)
noncomputable def c10_1 : Code := cAt [0] (bodyOf Try.f10)
noncomputable def o10_1 : Array Oper := opsOf c10_1
noncomputable def d10_1_0 : List Oper := o10_1.toList
noncomputable def c10_2 : Code := cAt [1] (bodyOf Try.f10)
noncomputable def c10_3 : Code := cAt [1, 0] (bodyOf Try.f10)
noncomputable def c10_4 : Code := cAt [1, 0, 0] (bodyOf Try.f10)
noncomputable def o10_4 : Array Oper := opsOf c10_4
noncomputable def d10_4_0 : List Oper := o10_4.toList
noncomputable def c10_5 : Code := cAt [1, 0, 1] (bodyOf Try.f10)
noncomputable def c10_6 : Code := cAt [1, 0, 1, 0] (bodyOf Try.f10)
noncomputable def c10_7 : Code := cAt [1, 0, 1, 0, 0] (bodyOf Try.f10)
noncomputable def c10_8 : Code := cAt [1, 0, 1, 0, 0, 0] (bodyOf Try.f10)
noncomputable def c10_9 : Code := cAt [1, 0, 1, 0, 0, 0, 0] (bodyOf Try.f10)
noncomputable def o10_9 : Array Oper := opsOf c10_9
noncomputable def d10_9_0 : List Oper := o10_9.toList
noncomputable def c10_10 : Code := cAt [1, 0, 1, 0, 0, 0, 1] (bodyOf Try.f10)
noncomputable def c10_11 : Code := cAt [1, 0, 1, 0, 0, 0, 1, 0] (bodyOf Try.f10)
noncomputable def c10_12 : Code := cAt [1, 0, 1, 0, 0, 0, 1, 1] (bodyOf Try.f10)
noncomputable def c10_13 : Code := cAt [1, 0, 1, 0, 0, 1] (bodyOf Try.f10)
noncomputable def c10_14 : Code := cAt [1, 0, 1, 0, 0, 1, 0] (bodyOf Try.f10)
noncomputable def c10_15 : Code := cAt [1, 0, 1, 0, 0, 1, 0, 0] (bodyOf Try.f10)
noncomputable def c10_16 : Code := cAt [1, 0, 1, 0, 0, 1, 0, 0, 0] (bodyOf Try.f10)
noncomputable def o10_16 : Array Oper := opsOf c10_16
noncomputable def d10_16_0 : List Oper := o10_16.toList
noncomputable def c10_17 : Code := cAt [1, 0, 1, 0, 0, 1, 0, 0, 1] (bodyOf Try.f10)
noncomputable def c10_18 : Code := cAt [1, 0, 1, 0, 0, 1, 0, 0, 1, 0] (bodyOf Try.f10)
noncomputable def c10_19 : Code := cAt [1, 0, 1, 0, 0, 1, 0, 0, 1, 0, 0] (bodyOf Try.f10)
noncomputable def o10_19 : Array Oper := opsOf c10_19
noncomputable def d10_19_0 : List Oper := o10_19.toList
noncomputable def c10_20 : Code := cAt [1, 0, 1, 0, 0, 1, 0, 0, 1, 0, 1] (bodyOf Try.f10)
noncomputable def c10_21 : Code := cAt [1, 0, 1, 0, 0, 1, 0, 0, 1, 1] (bodyOf Try.f10)
noncomputable def c10_22 : Code := cAt [1, 0, 1, 0, 0, 1, 1] (bodyOf Try.f10)
noncomputable def o10_22 : Array Oper := opsOf c10_22
noncomputable def d10_22_0 : List Oper := o10_22.toList
noncomputable def c10_23 : Code := cAt [1, 1] (bodyOf Try.f10)
noncomputable def c10_24 : Code := cAt [1, 1, 0] (bodyOf Try.f10)
noncomputable def o10_24 : Array Oper := opsOf c10_24
noncomputable def d10_24_0 : List Oper := o10_24.toList
noncomputable def c10_25 : Code := cAt [1, 1, 1] (bodyOf Try.f10)
theorem w10_0 {pol : Nat → Pol} {cl : CallW} {lp : LoopW} {env : List V} {H : Heap} {Q : KQ} : wC Try.prog pol cl lp c10_0 env H Q = wC Try.prog pol cl lp c10_1 env H (seqK Try.prog pol cl lp c10_2 Q) := wC_seq (by kernel_rfl)
theorem w10_1 {pol : Nat → Pol} {cl : CallW} {lp : LoopW} {env : List V} {H : Heap} {Q : KQ} : wC Try.prog pol cl lp c10_1 env H Q = wOps Try.prog pol cl o10_1 d10_1_0 0 env H (Q .nrm) := wC_reg (i := 0) (by kernel_rfl) rfl
theorem w10_1_0 {pol : Nat → Pol} {cl : CallW} {t0 t1 t2 t3 t4 t5 t6 t7 t8 t9 t10 t11 t12 t13 t14 t15 t16 t17 t18 t19 t20 t21 t22 t23 : V} {H : Heap} {Q : List V → Heap → Prop} : wOps Try.prog pol cl o10_1 d10_1_0 0 [t0, t1, t2, t3, t4, t5, t6, t7, t8, t9, t10, t11, t12, t13, t14, t15, t16, t17, t18, t19, t20, t21, t22, t23] H Q = (
  Q [t0, t1, (.bool false), t3, t4, t5, t6, t7, t8, t9, t10, t11, t12, t13, t14, t15, t16, t17, t18, t19, t20, t21, t22, t23] H) := by kernel_rfl
theorem w10_2 {pol : Nat → Pol} {cl : CallW} {lp : LoopW} {env : List V} {H : Heap} {Q : KQ} : wC Try.prog pol cl lp c10_2 env H Q = wC Try.prog pol cl lp c10_3 env H (seqK Try.prog pol cl lp c10_23 Q) := wC_seq (by kernel_rfl)
theorem w10_3 {pol : Nat → Pol} {cl : CallW} {lp : LoopW} {env : List V} {H : Heap} {Q : KQ} : wC Try.prog pol cl lp c10_3 env H Q = wC Try.prog pol cl lp c10_4 env H (seqK Try.prog pol cl lp c10_5 Q) := wC_seq (by kernel_rfl)
theorem w10_4 {pol : Nat → Pol} {cl : CallW} {lp : LoopW} {env : List V} {H : Heap} {Q : KQ} : wC Try.prog pol cl lp c10_4 env H Q = wOps Try.prog pol cl o10_4 d10_4_0 0 env H (Q .nrm) := wC_reg (i := 1) (by kernel_rfl) rfl
theorem w10_4_0 {pol : Nat → Pol} {cl : CallW} {t0 t1 t2 t3 t4 t5 t6 t7 t8 t9 t10 t11 t12 t13 t14 t15 t16 t17 t18 t19 t20 t21 t22 t23 : V} {H : Heap} {Q : List V → Heap → Prop} : wOps Try.prog pol cl o10_4 d10_4_0 0 [t0, t1, t2, t3, t4, t5, t6, t7, t8, t9, t10, t11, t12, t13, t14, t15, t16, t17, t18, t19, t20, t21, t22, t23] H Q = (
  Q [t0, t1, t2, (.int .i64 0), t4, t5, t6, t7, t8, t9, t10, t11, t12, t13, t14, t15, t16, t17, t18, t19, t20, t21, t22, t23] H) := by kernel_rfl
theorem w10_5 {pol : Nat → Pol} {cl : CallW} {lp : LoopW} {env : List V} {H : Heap} {Q : KQ} : wC Try.prog pol cl lp c10_5 env H Q = wC Try.prog pol cl lp c10_6 env H (blockK 0 Q) := wC_block (by kernel_rfl)
theorem w10_6 {pol : Nat → Pol} {cl : CallW} {lp : LoopW} {env : List V} {H : Heap} {Q : KQ} : wC Try.prog pol cl lp c10_6 env H Q = lp c10_7 env H Q := wC_loop (by kernel_rfl)
theorem w10_7 {pol : Nat → Pol} {cl : CallW} {lp : LoopW} {env : List V} {H : Heap} {Q : KQ} : wC Try.prog pol cl lp c10_7 env H Q = wC Try.prog pol cl lp c10_8 env H (seqK Try.prog pol cl lp c10_13 Q) := wC_seq (by kernel_rfl)
theorem w10_8 {pol : Nat → Pol} {cl : CallW} {lp : LoopW} {env : List V} {H : Heap} {Q : KQ} : wC Try.prog pol cl lp c10_8 env H Q = wC Try.prog pol cl lp c10_9 env H (seqK Try.prog pol cl lp c10_10 Q) := wC_seq (by kernel_rfl)
theorem w10_9 {pol : Nat → Pol} {cl : CallW} {lp : LoopW} {env : List V} {H : Heap} {Q : KQ} : wC Try.prog pol cl lp c10_9 env H Q = wOps Try.prog pol cl o10_9 d10_9_0 0 env H (Q .nrm) := wC_reg (i := 2) (by kernel_rfl) rfl
theorem w10_9_0 {pol : Nat → Pol} {cl : CallW} {t0 t1 t2 t3 t4 t5 t6 t7 t8 t9 t10 t11 t12 t13 t14 t15 t16 t17 t18 t19 t20 t21 t22 t23 : V} {H : Heap} {Q : List V → Heap → Prop} : wOps Try.prog pol cl o10_9 d10_9_0 0 [t0, t1, t2, t3, t4, t5, t6, t7, t8, t9, t10, t11, t12, t13, t14, t15, t16, t17, t18, t19, t20, t21, t22, t23] H Q = (
  stepW (evLen Try.prog 22 t0) H fun v1 H1 =>
  stepW (liftO (evBin Try.prog 3 .lss t3 v1)) H1 fun v2 H2 =>
  guardW v2 true H2 (fun q => q ⟨t3, [], []⟩) fun v3 H3 =>
  guardW v2 true H3 (outW (liftO (evBin Try.prog 3 .leq v3 (.int .i64 200)))) fun v4 H4 =>
  stepW (pickO v2 v4 (.bool false)) H4 fun v5 H5 =>
  Q [t0, t1, t2, t3, t3, t0, v1, v2, v2, v3, v4, v5, t12, t13, t14, t15, t16, t17, t18, t19, t20, t21, t22, t23] H5) := by kernel_rfl
theorem w10_10 {pol : Nat → Pol} {cl : CallW} {lp : LoopW} {env : List V} {H : Heap} {Q : KQ} : wC Try.prog pol cl lp c10_10 env H Q = condW (evOperand env (Operand.tmp 11)) (wC Try.prog pol cl lp c10_11 env H Q) (wC Try.prog pol cl lp c10_12 env H Q) := wC_cond (by kernel_rfl)
theorem w10_11 {pol : Nat → Pol} {cl : CallW} {lp : LoopW} {env : List V} {H : Heap} {Q : KQ} : wC Try.prog pol cl lp c10_11 env H Q = Q .nrm env H := wC_skip (by kernel_rfl)
theorem w10_12 {pol : Nat → Pol} {cl : CallW} {lp : LoopW} {env : List V} {H : Heap} {Q : KQ} : wC Try.prog pol cl lp c10_12 env H Q = Q (.exit 0) env H := wC_exit (by kernel_rfl)
theorem w10_13 {pol : Nat → Pol} {cl : CallW} {lp : LoopW} {env : List V} {H : Heap} {Q : KQ} : wC Try.prog pol cl lp c10_13 env H Q = wC Try.prog pol cl lp c10_14 env H (seqK Try.prog pol cl lp c10_22 Q) := wC_seq (by kernel_rfl)
theorem w10_14 {pol : Nat → Pol} {cl : CallW} {lp : LoopW} {env : List V} {H : Heap} {Q : KQ} : wC Try.prog pol cl lp c10_14 env H Q = wC Try.prog pol cl lp c10_15 env H (blockK 1 Q) := wC_block (by kernel_rfl)
theorem w10_15 {pol : Nat → Pol} {cl : CallW} {lp : LoopW} {env : List V} {H : Heap} {Q : KQ} : wC Try.prog pol cl lp c10_15 env H Q = wC Try.prog pol cl lp c10_16 env H (seqK Try.prog pol cl lp c10_17 Q) := wC_seq (by kernel_rfl)
theorem w10_16 {pol : Nat → Pol} {cl : CallW} {lp : LoopW} {env : List V} {H : Heap} {Q : KQ} : wC Try.prog pol cl lp c10_16 env H Q = wOps Try.prog pol cl o10_16 d10_16_0 0 env H (Q .nrm) := wC_reg (i := 4) (by kernel_rfl) rfl
theorem w10_16_0 {pol : Nat → Pol} {cl : CallW} {t0 t1 t2 t3 t4 t5 t6 t7 t8 t9 t10 t11 t12 t13 t14 t15 t16 t17 t18 t19 t20 t21 t22 t23 : V} {H : Heap} {Q : List V → Heap → Prop} : wOps Try.prog pol cl o10_16 d10_16_0 0 [t0, t1, t2, t3, t4, t5, t6, t7, t8, t9, t10, t11, t12, t13, t14, t15, t16, t17, t18, t19, t20, t21, t22, t23] H Q = (
  stepW (evIndexAddr Try.prog 22 t0 t3) H fun v1 H1 =>
  stepW (evFieldAddr Try.prog 36 v1 3) H1 fun v2 H2 =>
  stepW (evLoad Try.prog H2 34 v2) H2 fun v3 H3 =>
  stepW (evLen Try.prog 34 v3) H3 fun v4 H4 =>
  stepW (liftO (evBin Try.prog 3 .gtr v4 (.int .i64 200))) H4 fun v5 H5 =>
  Q [t0, t1, t2, t3, t4, t5, t6, t7, t8, t9, t10, t11, t12, t13, t0, t3, v1, v2, v3, v4, v5, t21, t22, t23] H5) := by kernel_rfl
theorem w10_17 {pol : Nat → Pol} {cl : CallW} {lp : LoopW} {env : List V} {H : Heap} {Q : KQ} : wC Try.prog pol cl lp c10_17 env H Q = condW (evOperand env (Operand.tmp 20)) (wC Try.prog pol cl lp c10_18 env H Q) (wC Try.prog pol cl lp c10_21 env H Q) := wC_cond (by kernel_rfl)
theorem w10_18 {pol : Nat → Pol} {cl : CallW} {lp : LoopW} {env : List V} {H : Heap} {Q : KQ} : wC Try.prog pol cl lp c10_18 env H Q = wC Try.prog pol cl lp c10_19 env H (seqK Try.prog pol cl lp c10_20 Q) := wC_seq (by kernel_rfl)
theorem w10_19 {pol : Nat → Pol} {cl : CallW} {lp : LoopW} {env : List V} {H : Heap} {Q : KQ} : wC Try.prog pol cl lp c10_19 env H Q = wOps Try.prog pol cl o10_19 d10_19_0 0 env H (Q .nrm) := wC_reg (i := 5) (by kernel_rfl) rfl
theorem w10_19_0 {pol : Nat → Pol} {cl : CallW} {t0 t1 t2 t3 t4 t5 t6 t7 t8 t9 t10 t11 t12 t13 t14 t15 t16 t17 t18 t19 t20 t21 t22 t23 : V} {H : Heap} {Q : List V → Heap → Prop} : wOps Try.prog pol cl o10_19 d10_19_0 0 [t0, t1, t2, t3, t4, t5, t6, t7, t8, t9, t10, t11, t12, t13, t14, t15, t16, t17, t18, t19, t20, t21, t22, t23] H Q = (
  Q [t0, t1, (.bool true), t3, t4, t5, t6, t7, t8, t9, t10, t11, t12, t13, t14, t15, t16, t17, t18, t19, t20, t21, t22, t23] H) := by kernel_rfl
theorem w10_20 {pol : Nat → Pol} {cl : CallW} {lp : LoopW} {env : List V} {H : Heap} {Q : KQ} : wC Try.prog pol cl lp c10_20 env H Q = Q .ret env H := wC_ret (by kernel_rfl)
theorem w10_21 {pol : Nat → Pol} {cl : CallW} {lp : LoopW} {env : List V} {H : Heap} {Q : KQ} : wC Try.prog pol cl lp c10_21 env H Q = Q .nrm env H := wC_skip (by kernel_rfl)
theorem w10_22 {pol : Nat → Pol} {cl : CallW} {lp : LoopW} {env : List V} {H : Heap} {Q : KQ} : wC Try.prog pol cl lp c10_22 env H Q = wOps Try.prog pol cl o10_22 d10_22_0 0 env H (Q .nrm) := wC_reg (i := 3) (by kernel_rfl) rfl
theorem w10_22_0 {pol : Nat → Pol} {cl : CallW} {t0 t1 t2 t3 t4 t5 t6 t7 t8 t9 t10 t11 t12 t13 t14 t15 t16 t17 t18 t19 t20 t21 t22 t23 : V} {H : Heap} {Q : List V → Heap → Prop} : wOps Try.prog pol cl o10_22 d10_22_0 0 [t0, t1, t2, t3, t4, t5, t6, t7, t8, t9, t10, t11, t12, t13, t14, t15, t16, t17, t18, t19, t20, t21, t22, t23] H Q = (
  stepW (liftO (evBin Try.prog 3 .add t3 (.int .i64 1))) H fun v1 H1 =>
  Q [t0, t1, t2, v1, t4, t5, t6, t7, t8, t9, t10, t11, t3, v1, t14, t15, t16, t17, t18, t19, t20, t21, t22, t23] H1) := by kernel_rfl
theorem w10_23 {pol : Nat → Pol} {cl : CallW} {lp : LoopW} {env : List V} {H : Heap} {Q : KQ} : wC Try.prog pol cl lp c10_23 env H Q = wC Try.prog pol cl lp c10_24 env H (seqK Try.prog pol cl lp c10_25 Q) := wC_seq (by kernel_rfl)
theorem w10_24 {pol : Nat → Pol} {cl : CallW} {lp : LoopW} {env : List V} {H : Heap} {Q : KQ} : wC Try.prog pol cl lp c10_24 env H Q = wOps Try.prog pol cl o10_24 d10_24_0 0 env H (Q .nrm) := wC_reg (i := 6) (by kernel_rfl) rfl
theorem w10_24_0 {pol : Nat → Pol} {cl : CallW} {t0 t1 t2 t3 t4 t5 t6 t7 t8 t9 t10 t11 t12 t13 t14 t15 t16 t17 t18 t19 t20 t21 t22 t23 : V} {H : Heap} {Q : List V → Heap → Prop} : wOps Try.prog pol cl o10_24 d10_24_0 0 [t0, t1, t2, t3, t4, t5, t6, t7, t8, t9, t10, t11, t12, t13, t14, t15, t16, t17, t18, t19, t20, t21, t22, t23] H Q = (
  stepW (evLen Try.prog 22 t0) H fun v1 H1 =>
  stepW (liftO (evBin Try.prog 3 .gtr v1 (.int .i64 200))) H1 fun v2 H2 =>
  Q [t0, t1, v2, t3, t4, t5, t6, t7, t8, t9, t10, t11, t12, t13, t14, t15, t16, t17, t18, t19, t20, t0, v1, v2] H2) := by kernel_rfl
theorem w10_25 {pol : Nat → Pol} {cl : CallW} {lp : LoopW} {env : List V} {H : Heap} {Q : KQ} : wC Try.prog pol cl lp c10_25 env H Q = Q .ret env H := wC_ret (by kernel_rfl)
-- incipit/incipitlaw27.DiskNobody
noncomputable def c4_0 : Code := cAt [] (bodyOf Try.f4)
noncomputable def c4_1 : Code := cAt [0] (bodyOf Try.f4)
noncomputable def o4_1 : Array Oper := opsOf c4_1
noncomputable def d4_1_0 : List Oper := o4_1.toList
noncomputable def c4_2 : Code := cAt [1] (bodyOf Try.f4)
noncomputable def c4_3 : Code := cAt [1, 0] (bodyOf Try.f4)
noncomputable def c4_4 : Code := cAt [1, 0, 0] (bodyOf Try.f4)
noncomputable def o4_4 : Array Oper := opsOf c4_4
noncomputable def d4_4_0 : List Oper := o4_4.toList
noncomputable def c4_5 : Code := cAt [1, 0, 1] (bodyOf Try.f4)
noncomputable def c4_6 : Code := cAt [1, 0, 1, 0] (bodyOf Try.f4)
noncomputable def c4_7 : Code := cAt [1, 0, 1, 0, 0] (bodyOf Try.f4)
noncomputable def o4_7 : Array Oper := opsOf c4_7
noncomputable def d4_7_0 : List Oper := o4_7.toList
noncomputable def c4_8 : Code := cAt [1, 0, 1, 0, 1] (bodyOf Try.f4)
noncomputable def c4_9 : Code := cAt [1, 0, 1, 1] (bodyOf Try.f4)
noncomputable def c4_10 : Code := cAt [1, 1] (bodyOf Try.f4)
noncomputable def c4_11 : Code := cAt [1, 1, 0] (bodyOf Try.f4)
noncomputable def o4_11 : Array Oper := opsOf c4_11
noncomputable def d4_11_0 : List Oper := o4_11.toList
noncomputable def c4_12 : Code := cAt [1, 1, 1] (bodyOf Try.f4)
noncomputable def c4_13 : Code := cAt [1, 1, 1, 0] (bodyOf Try.f4)
noncomputable def o4_13 : Array Oper := opsOf c4_13
noncomputable def d4_13_0 : List Oper := o4_13.toList
noncomputable def c4_14 : Code := cAt [1, 1, 1, 1] (bodyOf Try.f4)
noncomputable def c4_15 : Code := cAt [1, 1, 1, 1, 0] (bodyOf Try.f4)
noncomputable def c4_16 : Code := cAt [1, 1, 1, 1, 0, 0] (bodyOf Try.f4)
noncomputable def o4_16 : Array Oper := opsOf c4_16
noncomputable def d4_16_0 : List Oper := o4_16.toList
noncomputable def c4_17 : Code := cAt [1, 1, 1, 1, 0, 1] (bodyOf Try.f4)
noncomputable def c4_18 : Code := cAt [1, 1, 1, 1, 0, 1, 0] (bodyOf Try.f4)
noncomputable def c4_19 : Code := cAt [1, 1, 1, 1, 0, 1, 0, 0] (bodyOf Try.f4)
noncomputable def c4_20 : Code := cAt [1, 1, 1, 1, 0, 1, 0, 0, 0] (bodyOf Try.f4)
noncomputable def c4_21 : Code := cAt [1, 1, 1, 1, 0, 1, 0, 0, 0, 0] (bodyOf Try.f4)
noncomputable def o4_21 : Array Oper := opsOf c4_21
noncomputable def d4_21_0 : List Oper := o4_21.toList
noncomputable def c4_22 : Code := cAt [1, 1, 1, 1, 0, 1, 0, 0, 0, 1] (bodyOf Try.f4)
noncomputable def c4_23 : Code := cAt [1, 1, 1, 1, 0, 1, 0, 0, 0, 1, 0] (bodyOf Try.f4)
noncomputable def c4_24 : Code := cAt [1, 1, 1, 1, 0, 1, 0, 0, 0, 1, 1] (bodyOf Try.f4)
noncomputable def c4_25 : Code := cAt [1, 1, 1, 1, 0, 1, 0, 0, 1] (bodyOf Try.f4)
noncomputable def c4_26 : Code := cAt [1, 1, 1, 1, 0, 1, 0, 0, 1, 0] (bodyOf Try.f4)
noncomputable def c4_27 : Code := cAt [1, 1, 1, 1, 0, 1, 0, 0, 1, 0, 0] (bodyOf Try.f4)
noncomputable def c4_28 : Code := cAt [1, 1, 1, 1, 0, 1, 0, 0, 1, 0, 0, 0] (bodyOf Try.f4)
noncomputable def o4_28 : Array Oper := opsOf c4_28
noncomputable def d4_28_0 : List Oper := o4_28.toList
noncomputable def c4_29 : Code := cAt [1, 1, 1, 1, 0, 1, 0, 0, 1, 0, 0, 1] (bodyOf Try.f4)
noncomputable def c4_30 : Code := cAt [1, 1, 1, 1, 0, 1, 0, 0, 1, 0, 0, 1, 0] (bodyOf Try.f4)
noncomputable def c4_31 : Code := cAt [1, 1, 1, 1, 0, 1, 0, 0, 1, 0, 0, 1, 0, 0] (bodyOf Try.f4)
noncomputable def o4_31 : Array Oper := opsOf c4_31
noncomputable def d4_31_0 : List Oper := o4_31.toList
noncomputable def c4_32 : Code := cAt [1, 1, 1, 1, 0, 1, 0, 0, 1, 0, 0, 1, 0, 1] (bodyOf Try.f4)
noncomputable def c4_33 : Code := cAt [1, 1, 1, 1, 0, 1, 0, 0, 1, 0, 0, 1, 0, 1, 0] (bodyOf Try.f4)
noncomputable def c4_34 : Code := cAt [1, 1, 1, 1, 0, 1, 0, 0, 1, 0, 0, 1, 0, 1, 0, 0] (bodyOf Try.f4)
noncomputable def c4_35 : Code := cAt [1, 1, 1, 1, 0, 1, 0, 0, 1, 0, 0, 1, 0, 1, 0, 0, 0] (bodyOf Try.f4)
noncomputable def c4_36 : Code := cAt [1, 1, 1, 1, 0, 1, 0, 0, 1, 0, 0, 1, 0, 1, 0, 0, 0, 0] (bodyOf Try.f4)
noncomputable def o4_36 : Array Oper := opsOf c4_36
noncomputable def d4_36_0 : List Oper := o4_36.toList
noncomputable def c4_37 : Code := cAt [1, 1, 1, 1, 0, 1, 0, 0, 1, 0, 0, 1, 0, 1, 0, 0, 0, 1] (bodyOf Try.f4)
noncomputable def c4_38 : Code := cAt [1, 1, 1, 1, 0, 1, 0, 0, 1, 0, 0, 1, 0, 1, 0, 0, 0, 1, 0] (bodyOf Try.f4)
noncomputable def c4_39 : Code := cAt [1, 1, 1, 1, 0, 1, 0, 0, 1, 0, 0, 1, 0, 1, 0, 0, 0, 1, 1] (bodyOf Try.f4)
noncomputable def c4_40 : Code := cAt [1, 1, 1, 1, 0, 1, 0, 0, 1, 0, 0, 1, 0, 1, 0, 0, 1] (bodyOf Try.f4)
noncomputable def c4_41 : Code := cAt [1, 1, 1, 1, 0, 1, 0, 0, 1, 0, 0, 1, 0, 1, 0, 0, 1, 0] (bodyOf Try.f4)
noncomputable def c4_42 : Code := cAt [1, 1, 1, 1, 0, 1, 0, 0, 1, 0, 0, 1, 0, 1, 0, 0, 1, 0, 0] (bodyOf Try.f4)
noncomputable def c4_43 : Code := cAt [1, 1, 1, 1, 0, 1, 0, 0, 1, 0, 0, 1, 0, 1, 0, 0, 1, 0, 0, 0] (bodyOf Try.f4)
noncomputable def o4_43 : Array Oper := opsOf c4_43
noncomputable def d4_43_0 : List Oper := o4_43.toList
noncomputable def c4_44 : Code := cAt [1, 1, 1, 1, 0, 1, 0, 0, 1, 0, 0, 1, 0, 1, 0, 0, 1, 0, 0, 1] (bodyOf Try.f4)
noncomputable def c4_45 : Code := cAt [1, 1, 1, 1, 0, 1, 0, 0, 1, 0, 0, 1, 0, 1, 0, 0, 1, 0, 0, 1, 0] (bodyOf Try.f4)
noncomputable def o4_45 : Array Oper := opsOf c4_45
noncomputable def d4_45_0 : List Oper := o4_45.toList
noncomputable def p4_45_0 : List Oper := d4_45_0.take 12
noncomputable def d4_45_12 : List Oper := d4_45_0.drop 12
noncomputable def c4_46 : Code := cAt [1, 1, 1, 1, 0, 1, 0, 0, 1, 0, 0, 1, 0, 1, 0, 0, 1, 0, 0, 1, 1] (bodyOf Try.f4)
noncomputable def c4_47 : Code := cAt [1, 1, 1, 1, 0, 1, 0, 0, 1, 0, 0, 1, 0, 1, 0, 0, 1, 0, 0, 1, 1, 0] (bodyOf Try.f4)
noncomputable def c4_48 : Code := cAt [1, 1, 1, 1, 0, 1, 0, 0, 1, 0, 0, 1, 0, 1, 0, 0, 1, 0, 0, 1, 1, 0, 0] (bodyOf Try.f4)
noncomputable def o4_48 : Array Oper := opsOf c4_48
noncomputable def d4_48_0 : List Oper := o4_48.toList
noncomputable def c4_49 : Code := cAt [1, 1, 1, 1, 0, 1, 0, 0, 1, 0, 0, 1, 0, 1, 0, 0, 1, 0, 0, 1, 1, 0, 1] (bodyOf Try.f4)
noncomputable def c4_50 : Code := cAt [1, 1, 1, 1, 0, 1, 0, 0, 1, 0, 0, 1, 0, 1, 0, 0, 1, 0, 0, 1, 1, 1] (bodyOf Try.f4)
noncomputable def c4_51 : Code := cAt [1, 1, 1, 1, 0, 1, 0, 0, 1, 0, 0, 1, 0, 1, 0, 0, 1, 1] (bodyOf Try.f4)
noncomputable def o4_51 : Array Oper := opsOf c4_51
noncomputable def d4_51_0 : List Oper := o4_51.toList
noncomputable def c4_52 : Code := cAt [1, 1, 1, 1, 0, 1, 0, 0, 1, 0, 0, 1, 1] (bodyOf Try.f4)
noncomputable def c4_53 : Code := cAt [1, 1, 1, 1, 0, 1, 0, 0, 1, 0, 0, 1, 1, 0] (bodyOf Try.f4)
noncomputable def o4_53 : Array Oper := opsOf c4_53
noncomputable def d4_53_0 : List Oper := o4_53.toList
noncomputable def p4_53_0 : List Oper := d4_53_0.take 12
noncomputable def d4_53_12 : List Oper := d4_53_0.drop 12
noncomputable def c4_54 : Code := cAt [1, 1, 1, 1, 0, 1, 0, 0, 1, 0, 0, 1, 1, 1] (bodyOf Try.f4)
noncomputable def c4_55 : Code := cAt [1, 1, 1, 1, 0, 1, 0, 0, 1, 0, 0, 1, 1, 1, 0] (bodyOf Try.f4)
noncomputable def c4_56 : Code := cAt [1, 1, 1, 1, 0, 1, 0, 0, 1, 0, 0, 1, 1, 1, 0, 0] (bodyOf Try.f4)
noncomputable def o4_56 : Array Oper := opsOf c4_56
noncomputable def d4_56_0 : List Oper := o4_56.toList
noncomputable def c4_57 : Code := cAt [1, 1, 1, 1, 0, 1, 0, 0, 1, 0, 0, 1, 1, 1, 0, 1] (bodyOf Try.f4)
noncomputable def c4_58 : Code := cAt [1, 1, 1, 1, 0, 1, 0, 0, 1, 0, 0, 1, 1, 1, 1] (bodyOf Try.f4)
noncomputable def c4_59 : Code := cAt [1, 1, 1, 1, 0, 1, 0, 0, 1, 1] (bodyOf Try.f4)
noncomputable def o4_59 : Array Oper := opsOf c4_59
noncomputable def d4_59_0 : List Oper := o4_59.toList
noncomputable def c4_60 : Code := cAt [1, 1, 1, 1, 1] (bodyOf Try.f4)
noncomputable def c4_61 : Code := cAt [1, 1, 1, 1, 1, 0] (bodyOf Try.f4)
noncomputable def o4_61 : Array Oper := opsOf c4_61
noncomputable def d4_61_0 : List Oper := o4_61.toList
noncomputable def c4_62 : Code := cAt [1, 1, 1, 1, 1, 1] (bodyOf Try.f4)
theorem w4_0 {pol : Nat → Pol} {cl : CallW} {lp : LoopW} {env : List V} {H : Heap} {Q : KQ} : wC Try.prog pol cl lp c4_0 env H Q = wC Try.prog pol cl lp c4_1 env H (seqK Try.prog pol cl lp c4_2 Q) := wC_seq (by kernel_rfl)
theorem w4_1 {pol : Nat → Pol} {cl : CallW} {lp : LoopW} {env : List V} {H : Heap} {Q : KQ} : wC Try.prog pol cl lp c4_1 env H Q = wOps Try.prog pol cl o4_1 d4_1_0 0 env H (Q .nrm) := wC_reg (i := 0) (by kernel_rfl) rfl
theorem w4_1_0 {pol : Nat → Pol} {cl : CallW} {t0 t1 t2 t3 t4 t5 t6 t7 t8 t9 t10 t11 t12 t13 t14 t15 t16 t17 t18 t19 t20 t21 t22 t23 t24 t25 t26 t27 t28 t29 t30 t31 t32 t33 t34 t35 t36 t37 t38 t39 t40 t41 t42 t43 t44 t45 t46 t47 t48 t49 t50 t51 t52 t53 t54 t55 t56 t57 t58 t59 t60 t61 t62 t63 t64 t65 t66 t67 t68 t69 t70 t71 t72 t73 t74 t75 t76 t77 t78 t79 t80 t81 t82 : V} {H : Heap} {Q : List V → Heap → Prop} : wOps Try.prog pol cl o4_1 d4_1_0 0 [t0, t1, t2, t3, t4, t5, t6, t7, t8, t9, t10, t11, t12, t13, t14, t15, t16, t17, t18, t19, t20, t21, t22, t23, t24, t25, t26, t27, t28, t29, t30, t31, t32, t33, t34, t35, t36, t37, t38, t39, t40, t41, t42, t43, t44, t45, t46, t47, t48, t49, t50, t51, t52, t53, t54, t55, t56, t57, t58, t59, t60, t61, t62, t63, t64, t65, t66, t67, t68, t69, t70, t71, t72, t73, t74, t75, t76, t77, t78, t79, t80, t81, t82] H Q = (
  Q [t0, t1, (.bool false), t3, t4, t5, t6, t7, t8, t9, t10, t11, t12, t13, t14, t15, t16, t17, t18, t19, t20, t21, t22, t23, t24, t25, t26, t27, t28, t29, t30, t31, t32, t33, t34, t35, t36, t37, t38, t39, t40, t41, t42, t43, t44, t45, t46, t47, t48, t49, t50, t51, t52, t53, t54, t55, t56, t57, t58, t59, t60, t61, t62, t63, t64, t65, t66, t67, t68, t69, t70, t71, t72, t73, t74, t75, t76, t77, t78, t79, t80, t81, t82] H) := by kernel_rfl
theorem w4_2 {pol : Nat → Pol} {cl : CallW} {lp : LoopW} {env : List V} {H : Heap} {Q : KQ} : wC Try.prog pol cl lp c4_2 env H Q = wC Try.prog pol cl lp c4_3 env H (seqK Try.prog pol cl lp c4_10 Q) := wC_seq (by kernel_rfl)
theorem w4_3 {pol : Nat → Pol} {cl : CallW} {lp : LoopW} {env : List V} {H : Heap} {Q : KQ} : wC Try.prog pol cl lp c4_3 env H Q = wC Try.prog pol cl lp c4_4 env H (seqK Try.prog pol cl lp c4_5 Q) := wC_seq (by kernel_rfl)
theorem w4_4 {pol : Nat → Pol} {cl : CallW} {lp : LoopW} {env : List V} {H : Heap} {Q : KQ} : wC Try.prog pol cl lp c4_4 env H Q = wOps Try.prog pol cl o4_4 d4_4_0 0 env H (Q .nrm) := wC_reg (i := 1) (by kernel_rfl) rfl
theorem w4_4_0 {pol : Nat → Pol} {cl : CallW} {t0 t1 t2 t3 t4 t5 t6 t7 t8 t9 t10 t11 t12 t13 t14 t15 t16 t17 t18 t19 t20 t21 t22 t23 t24 t25 t26 t27 t28 t29 t30 t31 t32 t33 t34 t35 t36 t37 t38 t39 t40 t41 t42 t43 t44 t45 t46 t47 t48 t49 t50 t51 t52 t53 t54 t55 t56 t57 t58 t59 t60 t61 t62 t63 t64 t65 t66 t67 t68 t69 t70 t71 t72 t73 t74 t75 t76 t77 t78 t79 t80 t81 t82 : V} {H : Heap} {Q : List V → Heap → Prop} : wOps Try.prog pol cl o4_4 d4_4_0 0 [t0, t1, t2, t3, t4, t5, t6, t7, t8, t9, t10, t11, t12, t13, t14, t15, t16, t17, t18, t19, t20, t21, t22, t23, t24, t25, t26, t27, t28, t29, t30, t31, t32, t33, t34, t35, t36, t37, t38, t39, t40, t41, t42, t43, t44, t45, t46, t47, t48, t49, t50, t51, t52, t53, t54, t55, t56, t57, t58, t59, t60, t61, t62, t63, t64, t65, t66, t67, t68, t69, t70, t71, t72, t73, t74, t75, t76, t77, t78, t79, t80, t81, t82] H Q = (
  callW pol cl H 11 10 [t0] fun v1 H1 =>
  Q [t0, t1, t2, t3, t4, t5, t6, t7, t8, t9, t0, v1, t12, t13, t14, t15, t16, t17, t18, t19, t20, t21, t22, t23, t24, t25, t26, t27, t28, t29, t30, t31, t32, t33, t34, t35, t36, t37, t38, t39, t40, t41, t42, t43, t44, t45, t46, t47, t48, t49, t50, t51, t52, t53, t54, t55, t56, t57, t58, t59, t60, t61, t62, t63, t64, t65, t66, t67, t68, t69, t70, t71, t72, t73, t74, t75, t76, t77, t78, t79, t80, t81, t82] H1) := by kernel_rfl
theorem w4_5 {pol : Nat → Pol} {cl : CallW} {lp : LoopW} {env : List V} {H : Heap} {Q : KQ} : wC Try.prog pol cl lp c4_5 env H Q = condW (evOperand env (Operand.tmp 11)) (wC Try.prog pol cl lp c4_6 env H Q) (wC Try.prog pol cl lp c4_9 env H Q) := wC_cond (by kernel_rfl)
theorem w4_6 {pol : Nat → Pol} {cl : CallW} {lp : LoopW} {env : List V} {H : Heap} {Q : KQ} : wC Try.prog pol cl lp c4_6 env H Q = wC Try.prog pol cl lp c4_7 env H (seqK Try.prog pol cl lp c4_8 Q) := wC_seq (by kernel_rfl)
theorem w4_7 {pol : Nat → Pol} {cl : CallW} {lp : LoopW} {env : List V} {H : Heap} {Q : KQ} : wC Try.prog pol cl lp c4_7 env H Q = wOps Try.prog pol cl o4_7 d4_7_0 0 env H (Q .nrm) := wC_reg (i := 2) (by kernel_rfl) rfl
theorem w4_7_0 {pol : Nat → Pol} {cl : CallW} {t0 t1 t2 t3 t4 t5 t6 t7 t8 t9 t10 t11 t12 t13 t14 t15 t16 t17 t18 t19 t20 t21 t22 t23 t24 t25 t26 t27 t28 t29 t30 t31 t32 t33 t34 t35 t36 t37 t38 t39 t40 t41 t42 t43 t44 t45 t46 t47 t48 t49 t50 t51 t52 t53 t54 t55 t56 t57 t58 t59 t60 t61 t62 t63 t64 t65 t66 t67 t68 t69 t70 t71 t72 t73 t74 t75 t76 t77 t78 t79 t80 t81 t82 : V} {H : Heap} {Q : List V → Heap → Prop} : wOps Try.prog pol cl o4_7 d4_7_0 0 [t0, t1, t2, t3, t4, t5, t6, t7, t8, t9, t10, t11, t12, t13, t14, t15, t16, t17, t18, t19, t20, t21, t22, t23, t24, t25, t26, t27, t28, t29, t30, t31, t32, t33, t34, t35, t36, t37, t38, t39, t40, t41, t42, t43, t44, t45, t46, t47, t48, t49, t50, t51, t52, t53, t54, t55, t56, t57, t58, t59, t60, t61, t62, t63, t64, t65, t66, t67, t68, t69, t70, t71, t72, t73, t74, t75, t76, t77, t78, t79, t80, t81, t82] H Q = (
  callW pol cl H 12 8 [] fun v1 H1 =>
  Q [t0, t1, v1, t3, t4, t5, t6, t7, t8, t9, t10, t11, v1, t13, t14, t15, t16, t17, t18, t19, t20, t21, t22, t23, t24, t25, t26, t27, t28, t29, t30, t31, t32, t33, t34, t35, t36, t37, t38, t39, t40, t41, t42, t43, t44, t45, t46, t47, t48, t49, t50, t51, t52, t53, t54, t55, t56, t57, t58, t59, t60, t61, t62, t63, t64, t65, t66, t67, t68, t69, t70, t71, t72, t73, t74, t75, t76, t77, t78, t79, t80, t81, t82] H1) := by kernel_rfl
theorem w4_8 {pol : Nat → Pol} {cl : CallW} {lp : LoopW} {env : List V} {H : Heap} {Q : KQ} : wC Try.prog pol cl lp c4_8 env H Q = Q .ret env H := wC_ret (by kernel_rfl)
theorem w4_9 {pol : Nat → Pol} {cl : CallW} {lp : LoopW} {env : List V} {H : Heap} {Q : KQ} : wC Try.prog pol cl lp c4_9 env H Q = Q .nrm env H := wC_skip (by kernel_rfl)
theorem w4_10 {pol : Nat → Pol} {cl : CallW} {lp : LoopW} {env : List V} {H : Heap} {Q : KQ} : wC Try.prog pol cl lp c4_10 env H Q = wC Try.prog pol cl lp c4_11 env H (seqK Try.prog pol cl lp c4_12 Q) := wC_seq (by kernel_rfl)
theorem w4_11 {pol : Nat → Pol} {cl : CallW} {lp : LoopW} {env : List V} {H : Heap} {Q : KQ} : wC Try.prog pol cl lp c4_11 env H Q = wOps Try.prog pol cl o4_11 d4_11_0 0 env H (Q .nrm) := wC_reg (i := 3) (by kernel_rfl) rfl
theorem w4_11_0 {pol : Nat → Pol} {cl : CallW} {t0 t1 t2 t3 t4 t5 t6 t7 t8 t9 t10 t11 t12 t13 t14 t15 t16 t17 t18 t19 t20 t21 t22 t23 t24 t25 t26 t27 t28 t29 t30 t31 t32 t33 t34 t35 t36 t37 t38 t39 t40 t41 t42 t43 t44 t45 t46 t47 t48 t49 t50 t51 t52 t53 t54 t55 t56 t57 t58 t59 t60 t61 t62 t63 t64 t65 t66 t67 t68 t69 t70 t71 t72 t73 t74 t75 t76 t77 t78 t79 t80 t81 t82 : V} {H : Heap} {Q : List V → Heap → Prop} : wOps Try.prog pol cl o4_11 d4_11_0 0 [t0, t1, t2, t3, t4, t5, t6, t7, t8, t9, t10, t11, t12, t13, t14, t15, t16, t17, t18, t19, t20, t21, t22, t23, t24, t25, t26, t27, t28, t29, t30, t31, t32, t33, t34, t35, t36, t37, t38, t39, t40, t41, t42, t43, t44, t45, t46, t47, t48, t49, t50, t51, t52, t53, t54, t55, t56, t57, t58, t59, t60, t61, t62, t63, t64, t65, t66, t67, t68, t69, t70, t71, t72, t73, t74, t75, t76, t77, t78, t79, t80, t81, t82] H Q = (
  Q [t0, t1, t2, .nilp, t4, t5, t6, t7, t8, t9, t10, t11, t12, t13, t14, t15, t16, t17, t18, t19, t20, t21, t22, t23, t24, t25, t26, t27, t28, t29, t30, t31, t32, t33, t34, t35, t36, t37, t38, t39, t40, t41, t42, t43, t44, t45, t46, t47, t48, t49, t50, t51, t52, t53, t54, t55, t56, t57, t58, t59, t60, t61, t62, t63, t64, t65, t66, t67, t68, t69, t70, t71, t72, t73, t74, t75, t76, t77, t78, t79, t80, t81, t82] H) := by kernel_rfl
theorem w4_12 {pol : Nat → Pol} {cl : CallW} {lp : LoopW} {env : List V} {H : Heap} {Q : KQ} : wC Try.prog pol cl lp c4_12 env H Q = wC Try.prog pol cl lp c4_13 env H (seqK Try.prog pol cl lp c4_14 Q) := wC_seq (by kernel_rfl)
theorem w4_13 {pol : Nat → Pol} {cl : CallW} {lp : LoopW} {env : List V} {H : Heap} {Q : KQ} : wC Try.prog pol cl lp c4_13 env H Q = wOps Try.prog pol cl o4_13 d4_13_0 0 env H (Q .nrm) := wC_reg (i := 4) (by kernel_rfl) rfl
theorem w4_13_0 {pol : Nat → Pol} {cl : CallW} {t0 t1 t2 t3 t4 t5 t6 t7 t8 t9 t10 t11 t12 t13 t14 t15 t16 t17 t18 t19 t20 t21 t22 t23 t24 t25 t26 t27 t28 t29 t30 t31 t32 t33 t34 t35 t36 t37 t38 t39 t40 t41 t42 t43 t44 t45 t46 t47 t48 t49 t50 t51 t52 t53 t54 t55 t56 t57 t58 t59 t60 t61 t62 t63 t64 t65 t66 t67 t68 t69 t70 t71 t72 t73 t74 t75 t76 t77 t78 t79 t80 t81 t82 : V} {H : Heap} {Q : List V → Heap → Prop} : wOps Try.prog pol cl o4_13 d4_13_0 0 [t0, t1, t2, t3, t4, t5, t6, t7, t8, t9, t10, t11, t12, t13, t14, t15, t16, t17, t18, t19, t20, t21, t22, t23, t24, t25, t26, t27, t28, t29, t30, t31, t32, t33, t34, t35, t36, t37, t38, t39, t40, t41, t42, t43, t44, t45, t46, t47, t48, t49, t50, t51, t52, t53, t54, t55, t56, t57, t58, t59, t60, t61, t62, t63, t64, t65, t66, t67, t68, t69, t70, t71, t72, t73, t74, t75, t76, t77, t78, t79, t80, t81, t82] H Q = (
  stepW (liftO (evBuild Try.prog 49 [])) H fun v1 H1 =>
  stepW (boxO H1 15 v1) H1 fun v2 H2 =>
  stepW (evBuildSlice Try.prog H2 16 50 2 [(0, t3), (1, v2)]) H2 fun v3 H3 =>
  Q [t0, t1, t2, t3, v3, t5, t6, t7, t8, t9, t10, t11, t12, t3, v1, v2, v3, t17, t18, t19, t20, t21, t22, t23, t24, t25, t26, t27, t28, t29, t30, t31, t32, t33, t34, t35, t36, t37, t38, t39, t40, t41, t42, t43, t44, t45, t46, t47, t48, t49, t50, t51, t52, t53, t54, t55, t56, t57, t58, t59, t60, t61, t62, t63, t64, t65, t66, t67, t68, t69, t70, t71, t72, t73, t74, t75, t76, t77, t78, t79, t80, t81, t82] H3) := by kernel_rfl
theorem w4_14 {pol : Nat → Pol} {cl : CallW} {lp : LoopW} {env : List V} {H : Heap} {Q : KQ} : wC Try.prog pol cl lp c4_14 env H Q = wC Try.prog pol cl lp c4_15 env H (seqK Try.prog pol cl lp c4_60 Q) := wC_seq (by kernel_rfl)
theorem w4_15 {pol : Nat → Pol} {cl : CallW} {lp : LoopW} {env : List V} {H : Heap} {Q : KQ} : wC Try.prog pol cl lp c4_15 env H Q = wC Try.prog pol cl lp c4_16 env H (seqK Try.prog pol cl lp c4_17 Q) := wC_seq (by kernel_rfl)
theorem w4_16 {pol : Nat → Pol} {cl : CallW} {lp : LoopW} {env : List V} {H : Heap} {Q : KQ} : wC Try.prog pol cl lp c4_16 env H Q = wOps Try.prog pol cl o4_16 d4_16_0 0 env H (Q .nrm) := wC_reg (i := 5) (by kernel_rfl) rfl
theorem w4_16_0 {pol : Nat → Pol} {cl : CallW} {t0 t1 t2 t3 t4 t5 t6 t7 t8 t9 t10 t11 t12 t13 t14 t15 t16 t17 t18 t19 t20 t21 t22 t23 t24 t25 t26 t27 t28 t29 t30 t31 t32 t33 t34 t35 t36 t37 t38 t39 t40 t41 t42 t43 t44 t45 t46 t47 t48 t49 t50 t51 t52 t53 t54 t55 t56 t57 t58 t59 t60 t61 t62 t63 t64 t65 t66 t67 t68 t69 t70 t71 t72 t73 t74 t75 t76 t77 t78 t79 t80 t81 t82 : V} {H : Heap} {Q : List V → Heap → Prop} : wOps Try.prog pol cl o4_16 d4_16_0 0 [t0, t1, t2, t3, t4, t5, t6, t7, t8, t9, t10, t11, t12, t13, t14, t15, t16, t17, t18, t19, t20, t21, t22, t23, t24, t25, t26, t27, t28, t29, t30, t31, t32, t33, t34, t35, t36, t37, t38, t39, t40, t41, t42, t43, t44, t45, t46, t47, t48, t49, t50, t51, t52, t53, t54, t55, t56, t57, t58, t59, t60, t61, t62, t63, t64, t65, t66, t67, t68, t69, t70, t71, t72, t73, t74, t75, t76, t77, t78, t79, t80, t81, t82] H Q = (
  Q [t0, t1, t2, t3, t4, (.int .i64 0), t6, t7, t8, t9, t10, t11, t12, t13, t14, t15, t16, t17, t18, t19, t20, t21, t22, t23, t24, t25, t26, t27, t28, t29, t30, t31, t32, t33, t34, t35, t36, t37, t38, t39, t40, t41, t42, t43, t44, t45, t46, t47, t48, t49, t50, t51, t52, t53, t54, t55, t56, t57, t58, t59, t60, t61, t62, t63, t64, t65, t66, t67, t68, t69, t70, t71, t72, t73, t74, t75, t76, t77, t78, t79, t80, t81, t82] H) := by kernel_rfl
theorem w4_17 {pol : Nat → Pol} {cl : CallW} {lp : LoopW} {env : List V} {H : Heap} {Q : KQ} : wC Try.prog pol cl lp c4_17 env H Q = wC Try.prog pol cl lp c4_18 env H (blockK 0 Q) := wC_block (by kernel_rfl)
theorem w4_18 {pol : Nat → Pol} {cl : CallW} {lp : LoopW} {env : List V} {H : Heap} {Q : KQ} : wC Try.prog pol cl lp c4_18 env H Q = lp c4_19 env H Q := wC_loop (by kernel_rfl)
theorem w4_19 {pol : Nat → Pol} {cl : CallW} {lp : LoopW} {env : List V} {H : Heap} {Q : KQ} : wC Try.prog pol cl lp c4_19 env H Q = wC Try.prog pol cl lp c4_20 env H (seqK Try.prog pol cl lp c4_25 Q) := wC_seq (by kernel_rfl)
theorem w4_20 {pol : Nat → Pol} {cl : CallW} {lp : LoopW} {env : List V} {H : Heap} {Q : KQ} : wC Try.prog pol cl lp c4_20 env H Q = wC Try.prog pol cl lp c4_21 env H (seqK Try.prog pol cl lp c4_22 Q) := wC_seq (by kernel_rfl)
theorem w4_21 {pol : Nat → Pol} {cl : CallW} {lp : LoopW} {env : List V} {H : Heap} {Q : KQ} : wC Try.prog pol cl lp c4_21 env H Q = wOps Try.prog pol cl o4_21 d4_21_0 0 env H (Q .nrm) := wC_reg (i := 6) (by kernel_rfl) rfl
theorem w4_21_0 {pol : Nat → Pol} {cl : CallW} {t0 t1 t2 t3 t4 t5 t6 t7 t8 t9 t10 t11 t12 t13 t14 t15 t16 t17 t18 t19 t20 t21 t22 t23 t24 t25 t26 t27 t28 t29 t30 t31 t32 t33 t34 t35 t36 t37 t38 t39 t40 t41 t42 t43 t44 t45 t46 t47 t48 t49 t50 t51 t52 t53 t54 t55 t56 t57 t58 t59 t60 t61 t62 t63 t64 t65 t66 t67 t68 t69 t70 t71 t72 t73 t74 t75 t76 t77 t78 t79 t80 t81 t82 : V} {H : Heap} {Q : List V → Heap → Prop} : wOps Try.prog pol cl o4_21 d4_21_0 0 [t0, t1, t2, t3, t4, t5, t6, t7, t8, t9, t10, t11, t12, t13, t14, t15, t16, t17, t18, t19, t20, t21, t22, t23, t24, t25, t26, t27, t28, t29, t30, t31, t32, t33, t34, t35, t36, t37, t38, t39, t40, t41, t42, t43, t44, t45, t46, t47, t48, t49, t50, t51, t52, t53, t54, t55, t56, t57, t58, t59, t60, t61, t62, t63, t64, t65, t66, t67, t68, t69, t70, t71, t72, t73, t74, t75, t76, t77, t78, t79, t80, t81, t82] H Q = (
  stepW (evLen Try.prog 50 t4) H fun v1 H1 =>
  stepW (liftO (evBin Try.prog 3 .lss t5 v1)) H1 fun v2 H2 =>
  Q [t0, t1, t2, t3, t4, t5, t6, t7, t8, t9, t10, t11, t12, t13, t14, t15, t16, t5, t4, v1, v2, t21, t22, t23, t24, t25, t26, t27, t28, t29, t30, t31, t32, t33, t34, t35, t36, t37, t38, t39, t40, t41, t42, t43, t44, t45, t46, t47, t48, t49, t50, t51, t52, t53, t54, t55, t56, t57, t58, t59, t60, t61, t62, t63, t64, t65, t66, t67, t68, t69, t70, t71, t72, t73, t74, t75, t76, t77, t78, t79, t80, t81, t82] H2) := by kernel_rfl
theorem w4_22 {pol : Nat → Pol} {cl : CallW} {lp : LoopW} {env : List V} {H : Heap} {Q : KQ} : wC Try.prog pol cl lp c4_22 env H Q = condW (evOperand env (Operand.tmp 20)) (wC Try.prog pol cl lp c4_23 env H Q) (wC Try.prog pol cl lp c4_24 env H Q) := wC_cond (by kernel_rfl)
theorem w4_23 {pol : Nat → Pol} {cl : CallW} {lp : LoopW} {env : List V} {H : Heap} {Q : KQ} : wC Try.prog pol cl lp c4_23 env H Q = Q .nrm env H := wC_skip (by kernel_rfl)
theorem w4_24 {pol : Nat → Pol} {cl : CallW} {lp : LoopW} {env : List V} {H : Heap} {Q : KQ} : wC Try.prog pol cl lp c4_24 env H Q = Q (.exit 0) env H := wC_exit (by kernel_rfl)
theorem w4_25 {pol : Nat → Pol} {cl : CallW} {lp : LoopW} {env : List V} {H : Heap} {Q : KQ} : wC Try.prog pol cl lp c4_25 env H Q = wC Try.prog pol cl lp c4_26 env H (seqK Try.prog pol cl lp c4_59 Q) := wC_seq (by kernel_rfl)
theorem w4_26 {pol : Nat → Pol} {cl : CallW} {lp : LoopW} {env : List V} {H : Heap} {Q : KQ} : wC Try.prog pol cl lp c4_26 env H Q = wC Try.prog pol cl lp c4_27 env H (blockK 1 Q) := wC_block (by kernel_rfl)
theorem w4_27 {pol : Nat → Pol} {cl : CallW} {lp : LoopW} {env : List V} {H : Heap} {Q : KQ} : wC Try.prog pol cl lp c4_27 env H Q = wC Try.prog pol cl lp c4_28 env H (seqK Try.prog pol cl lp c4_29 Q) := wC_seq (by kernel_rfl)
theorem w4_28 {pol : Nat → Pol} {cl : CallW} {lp : LoopW} {env : List V} {H : Heap} {Q : KQ} : wC Try.prog pol cl lp c4_28 env H Q = wOps Try.prog pol cl o4_28 d4_28_0 0 env H (Q .nrm) := wC_reg (i := 8) (by kernel_rfl) rfl
theorem w4_28_0 {pol : Nat → Pol} {cl : CallW} {t0 t1 t2 t3 t4 t5 t6 t7 t8 t9 t10 t11 t12 t13 t14 t15 t16 t17 t18 t19 t20 t21 t22 t23 t24 t25 t26 t27 t28 t29 t30 t31 t32 t33 t34 t35 t36 t37 t38 t39 t40 t41 t42 t43 t44 t45 t46 t47 t48 t49 t50 t51 t52 t53 t54 t55 t56 t57 t58 t59 t60 t61 t62 t63 t64 t65 t66 t67 t68 t69 t70 t71 t72 t73 t74 t75 t76 t77 t78 t79 t80 t81 t82 : V} {H : Heap} {Q : List V → Heap → Prop} : wOps Try.prog pol cl o4_28 d4_28_0 0 [t0, t1, t2, t3, t4, t5, t6, t7, t8, t9, t10, t11, t12, t13, t14, t15, t16, t17, t18, t19, t20, t21, t22, t23, t24, t25, t26, t27, t28, t29, t30, t31, t32, t33, t34, t35, t36, t37, t38, t39, t40, t41, t42, t43, t44, t45, t46, t47, t48, t49, t50, t51, t52, t53, t54, t55, t56, t57, t58, t59, t60, t61, t62, t63, t64, t65, t66, t67, t68, t69, t70, t71, t72, t73, t74, t75, t76, t77, t78, t79, t80, t81, t82] H Q = (
  stepW (evIndexAddr Try.prog 50 t4 t5) H fun v1 H1 =>
  stepW (evLoad Try.prog H1 23 v1) H1 fun v2 H2 =>
  Q [t0, t1, t2, t3, t4, t5, v2, t7, t8, t9, t10, t11, t12, t13, t14, t15, t16, t17, t18, t19, t20, t21, t22, t4, t5, v1, v2, t27, t28, t29, t30, t31, t32, t33, t34, t35, t36, t37, t38, t39, t40, t41, t42, t43, t44, t45, t46, t47, t48, t49, t50, t51, t52, t53, t54, t55, t56, t57, t58, t59, t60, t61, t62, t63, t64, t65, t66, t67, t68, t69, t70, t71, t72, t73, t74, t75, t76, t77, t78, t79, t80, t81, t82] H2) := by kernel_rfl
theorem w4_29 {pol : Nat → Pol} {cl : CallW} {lp : LoopW} {env : List V} {H : Heap} {Q : KQ} : wC Try.prog pol cl lp c4_29 env H Q = wC Try.prog pol cl lp c4_30 env H (seqK Try.prog pol cl lp c4_52 Q) := wC_seq (by kernel_rfl)
theorem w4_30 {pol : Nat → Pol} {cl : CallW} {lp : LoopW} {env : List V} {H : Heap} {Q : KQ} : wC Try.prog pol cl lp c4_30 env H Q = wC Try.prog pol cl lp c4_31 env H (seqK Try.prog pol cl lp c4_32 Q) := wC_seq (by kernel_rfl)
theorem w4_31 {pol : Nat → Pol} {cl : CallW} {lp : LoopW} {env : List V} {H : Heap} {Q : KQ} : wC Try.prog pol cl lp c4_31 env H Q = wOps Try.prog pol cl o4_31 d4_31_0 0 env H (Q .nrm) := wC_reg (i := 9) (by kernel_rfl) rfl
theorem w4_31_0 {pol : Nat → Pol} {cl : CallW} {t0 t1 t2 t3 t4 t5 t6 t7 t8 t9 t10 t11 t12 t13 t14 t15 t16 t17 t18 t19 t20 t21 t22 t23 t24 t25 t26 t27 t28 t29 t30 t31 t32 t33 t34 t35 t36 t37 t38 t39 t40 t41 t42 t43 t44 t45 t46 t47 t48 t49 t50 t51 t52 t53 t54 t55 t56 t57 t58 t59 t60 t61 t62 t63 t64 t65 t66 t67 t68 t69 t70 t71 t72 t73 t74 t75 t76 t77 t78 t79 t80 t81 t82 : V} {H : Heap} {Q : List V → Heap → Prop} : wOps Try.prog pol cl o4_31 d4_31_0 0 [t0, t1, t2, t3, t4, t5, t6, t7, t8, t9, t10, t11, t12, t13, t14, t15, t16, t17, t18, t19, t20, t21, t22, t23, t24, t25, t26, t27, t28, t29, t30, t31, t32, t33, t34, t35, t36, t37, t38, t39, t40, t41, t42, t43, t44, t45, t46, t47, t48, t49, t50, t51, t52, t53, t54, t55, t56, t57, t58, t59, t60, t61, t62, t63, t64, t65, t66, t67, t68, t69, t70, t71, t72, t73, t74, t75, t76, t77, t78, t79, t80, t81, t82] H Q = (
  Q [t0, t1, t2, t3, t4, t5, t6, (.int .i64 0), t8, t9, t10, t11, t12, t13, t14, t15, t16, t17, t18, t19, t20, t21, t22, t23, t24, t25, t26, t27, t28, t29, t30, t31, t32, t33, t34, t35, t36, t37, t38, t39, t40, t41, t42, t43, t44, t45, t46, t47, t48, t49, t50, t51, t52, t53, t54, t55, t56, t57, t58, t59, t60, t61, t62, t63, t64, t65, t66, t67, t68, t69, t70, t71, t72, t73, t74, t75, t76, t77, t78, t79, t80, t81, t82] H) := by kernel_rfl
theorem w4_32 {pol : Nat → Pol} {cl : CallW} {lp : LoopW} {env : List V} {H : Heap} {Q : KQ} : wC Try.prog pol cl lp c4_32 env H Q = wC Try.prog pol cl lp c4_33 env H (blockK 2 Q) := wC_block (by kernel_rfl)
theorem w4_33 {pol : Nat → Pol} {cl : CallW} {lp : LoopW} {env : List V} {H : Heap} {Q : KQ} : wC Try.prog pol cl lp c4_33 env H Q = lp c4_34 env H Q := wC_loop (by kernel_rfl)
theorem w4_34 {pol : Nat → Pol} {cl : CallW} {lp : LoopW} {env : List V} {H : Heap} {Q : KQ} : wC Try.prog pol cl lp c4_34 env H Q = wC Try.prog pol cl lp c4_35 env H (seqK Try.prog pol cl lp c4_40 Q) := wC_seq (by kernel_rfl)
theorem w4_35 {pol : Nat → Pol} {cl : CallW} {lp : LoopW} {env : List V} {H : Heap} {Q : KQ} : wC Try.prog pol cl lp c4_35 env H Q = wC Try.prog pol cl lp c4_36 env H (seqK Try.prog pol cl lp c4_37 Q) := wC_seq (by kernel_rfl)
theorem w4_36 {pol : Nat → Pol} {cl : CallW} {lp : LoopW} {env : List V} {H : Heap} {Q : KQ} : wC Try.prog pol cl lp c4_36 env H Q = wOps Try.prog pol cl o4_36 d4_36_0 0 env H (Q .nrm) := wC_reg (i := 10) (by kernel_rfl) rfl
theorem w4_36_0 {pol : Nat → Pol} {cl : CallW} {t0 t1 t2 t3 t4 t5 t6 t7 t8 t9 t10 t11 t12 t13 t14 t15 t16 t17 t18 t19 t20 t21 t22 t23 t24 t25 t26 t27 t28 t29 t30 t31 t32 t33 t34 t35 t36 t37 t38 t39 t40 t41 t42 t43 t44 t45 t46 t47 t48 t49 t50 t51 t52 t53 t54 t55 t56 t57 t58 t59 t60 t61 t62 t63 t64 t65 t66 t67 t68 t69 t70 t71 t72 t73 t74 t75 t76 t77 t78 t79 t80 t81 t82 : V} {H : Heap} {Q : List V → Heap → Prop} : wOps Try.prog pol cl o4_36 d4_36_0 0 [t0, t1, t2, t3, t4, t5, t6, t7, t8, t9, t10, t11, t12, t13, t14, t15, t16, t17, t18, t19, t20, t21, t22, t23, t24, t25, t26, t27, t28, t29, t30, t31, t32, t33, t34, t35, t36, t37, t38, t39, t40, t41, t42, t43, t44, t45, t46, t47, t48, t49, t50, t51, t52, t53, t54, t55, t56, t57, t58, t59, t60, t61, t62, t63, t64, t65, t66, t67, t68, t69, t70, t71, t72, t73, t74, t75, t76, t77, t78, t79, t80, t81, t82] H Q = (
  stepW (evLen Try.prog 22 t0) H fun v1 H1 =>
  stepW (liftO (evBin Try.prog 3 .lss t7 v1)) H1 fun v2 H2 =>
  Q [t0, t1, t2, t3, t4, t5, t6, t7, t8, t9, t10, t11, t12, t13, t14, t15, t16, t17, t18, t19, t20, t21, t22, t23, t24, t25, t26, t7, t0, v1, v2, t31, t32, t33, t34, t35, t36, t37, t38, t39, t40, t41, t42, t43, t44, t45, t46, t47, t48, t49, t50, t51, t52, t53, t54, t55, t56, t57, t58, t59, t60, t61, t62, t63, t64, t65, t66, t67, t68, t69, t70, t71, t72, t73, t74, t75, t76, t77, t78, t79, t80, t81, t82] H2) := by kernel_rfl
theorem w4_37 {pol : Nat → Pol} {cl : CallW} {lp : LoopW} {env : List V} {H : Heap} {Q : KQ} : wC Try.prog pol cl lp c4_37 env H Q = condW (evOperand env (Operand.tmp 30)) (wC Try.prog pol cl lp c4_38 env H Q) (wC Try.prog pol cl lp c4_39 env H Q) := wC_cond (by kernel_rfl)
theorem w4_38 {pol : Nat → Pol} {cl : CallW} {lp : LoopW} {env : List V} {H : Heap} {Q : KQ} : wC Try.prog pol cl lp c4_38 env H Q = Q .nrm env H := wC_skip (by kernel_rfl)
theorem w4_39 {pol : Nat → Pol} {cl : CallW} {lp : LoopW} {env : List V} {H : Heap} {Q : KQ} : wC Try.prog pol cl lp c4_39 env H Q = Q (.exit 2) env H := wC_exit (by kernel_rfl)
theorem w4_40 {pol : Nat → Pol} {cl : CallW} {lp : LoopW} {env : List V} {H : Heap} {Q : KQ} : wC Try.prog pol cl lp c4_40 env H Q = wC Try.prog pol cl lp c4_41 env H (seqK Try.prog pol cl lp c4_51 Q) := wC_seq (by kernel_rfl)
theorem w4_41 {pol : Nat → Pol} {cl : CallW} {lp : LoopW} {env : List V} {H : Heap} {Q : KQ} : wC Try.prog pol cl lp c4_41 env H Q = wC Try.prog pol cl lp c4_42 env H (blockK 3 Q) := wC_block (by kernel_rfl)
theorem w4_42 {pol : Nat → Pol} {cl : CallW} {lp : LoopW} {env : List V} {H : Heap} {Q : KQ} : wC Try.prog pol cl lp c4_42 env H Q = wC Try.prog pol cl lp c4_43 env H (seqK Try.prog pol cl lp c4_44 Q) := wC_seq (by kernel_rfl)
theorem w4_43 {pol : Nat → Pol} {cl : CallW} {lp : LoopW} {env : List V} {H : Heap} {Q : KQ} : wC Try.prog pol cl lp c4_43 env H Q = wOps Try.prog pol cl o4_43 d4_43_0 0 env H (Q .nrm) := wC_reg (i := 12) (by kernel_rfl) rfl
theorem w4_43_0 {pol : Nat → Pol} {cl : CallW} {t0 t1 t2 t3 t4 t5 t6 t7 t8 t9 t10 t11 t12 t13 t14 t15 t16 t17 t18 t19 t20 t21 t22 t23 t24 t25 t26 t27 t28 t29 t30 t31 t32 t33 t34 t35 t36 t37 t38 t39 t40 t41 t42 t43 t44 t45 t46 t47 t48 t49 t50 t51 t52 t53 t54 t55 t56 t57 t58 t59 t60 t61 t62 t63 t64 t65 t66 t67 t68 t69 t70 t71 t72 t73 t74 t75 t76 t77 t78 t79 t80 t81 t82 : V} {H : Heap} {Q : List V → Heap → Prop} : wOps Try.prog pol cl o4_43 d4_43_0 0 [t0, t1, t2, t3, t4, t5, t6, t7, t8, t9, t10, t11, t12, t13, t14, t15, t16, t17, t18, t19, t20, t21, t22, t23, t24, t25, t26, t27, t28, t29, t30, t31, t32, t33, t34, t35, t36, t37, t38, t39, t40, t41, t42, t43, t44, t45, t46, t47, t48, t49, t50, t51, t52, t53, t54, t55, t56, t57, t58, t59, t60, t61, t62, t63, t64, t65, t66, t67, t68, t69, t70, t71, t72, t73, t74, t75, t76, t77, t78, t79, t80, t81, t82] H Q = (
  stepW (evIndexAddr Try.prog 22 t0 t7) H fun v1 H1 =>
  stepW (evLoad Try.prog H1 36 v1) H1 fun v2 H2 =>
  callW pol cl H2 39 12 [t6, v2] fun v3 H3 =>
  stepW (extractO v3 0) H3 fun v4 H4 =>
  stepW (extractO v3 1) H4 fun v5 H5 =>
  Q [t0, t1, t2, t3, t4, t5, t6, t7, v4, v5, t10, t11, t12, t13, t14, t15, t16, t17, t18, t19, t20, t21, t22, t23, t24, t25, t26, t27, t28, t29, t30, t31, t32, v3, t6, t0, t7, v1, v2, v3, v4, v5, t42, t43, t44, t45, t46, t47, t48, t49, t50, t51, t52, t53, t54, t55, t56, t57, t58, t59, t60, t61, t62, t63, t64, t65, t66, t67, t68, t69, t70, t71, t72, t73, t74, t75, t76, t77, t78, t79, t80, t81, t82] H5) := by kernel_rfl
theorem w4_44 {pol : Nat → Pol} {cl : CallW} {lp : LoopW} {env : List V} {H : Heap} {Q : KQ} : wC Try.prog pol cl lp c4_44 env H Q = wC Try.prog pol cl lp c4_45 env H (seqK Try.prog pol cl lp c4_46 Q) := wC_seq (by kernel_rfl)
theorem w4_45 {pol : Nat → Pol} {cl : CallW} {lp : LoopW} {env : List V} {H : Heap} {Q : KQ} : wC Try.prog pol cl lp c4_45 env H Q = wOps Try.prog pol cl o4_45 d4_45_0 0 env H (Q .nrm) := wC_reg (i := 13) (by kernel_rfl) rfl
theorem w4_45_0c {pol : Nat → Pol} {cl : CallW} {env : List V} {H : Heap} {Q : List V → Heap → Prop} : wOps Try.prog pol cl o4_45 d4_45_0 0 env H Q = wOps Try.prog pol cl o4_45 p4_45_0 0 env H (fun env H => wOps Try.prog pol cl o4_45 d4_45_12 12 env H Q) := wOps_cut (by kernel_rfl) (by kernel_rfl)
theorem w4_45_0 {pol : Nat → Pol} {cl : CallW} {t0 t1 t2 t3 t4 t5 t6 t7 t8 t9 t10 t11 t12 t13 t14 t15 t16 t17 t18 t19 t20 t21 t22 t23 t24 t25 t26 t27 t28 t29 t30 t31 t32 t33 t34 t35 t36 t37 t38 t39 t40 t41 t42 t43 t44 t45 t46 t47 t48 t49 t50 t51 t52 t53 t54 t55 t56 t57 t58 t59 t60 t61 t62 t63 t64 t65 t66 t67 t68 t69 t70 t71 t72 t73 t74 t75 t76 t77 t78 t79 t80 t81 t82 : V} {H : Heap} {Q : List V → Heap → Prop} : wOps Try.prog pol cl o4_45 p4_45_0 0 [t0, t1, t2, t3, t4, t5, t6, t7, t8, t9, t10, t11, t12, t13, t14, t15, t16, t17, t18, t19, t20, t21, t22, t23, t24, t25, t26, t27, t28, t29, t30, t31, t32, t33, t34, t35, t36, t37, t38, t39, t40, t41, t42, t43, t44, t45, t46, t47, t48, t49, t50, t51, t52, t53, t54, t55, t56, t57, t58, t59, t60, t61, t62, t63, t64, t65, t66, t67, t68, t69, t70, t71, t72, t73, t74, t75, t76, t77, t78, t79, t80, t81, t82] H Q = (
  stepW (liftO (evBin Try.prog 9 .neq t8 (ofVal ((Value.string { data := #[] }))))) H fun v1 H1 =>
  guardW v1 false H1 (fun q => q ⟨t0, [], []⟩) fun v2 H2 =>
  guardW v1 false H2 (fun q => q ⟨t7, [], []⟩) fun v3 H3 =>
  guardW v1 false H3 (outW (evIndexAddr Try.prog 22 v2 v3)) fun v4 H4 =>
  guardW v1 false H4 (outW (evFieldAddr Try.prog 36 v4 0)) fun v5 H5 =>
  guardW v1 false H5 (outW (evLoad Try.prog H5 3 v5)) fun v6 H6 =>
  guardW v1 false H6 (outW (liftO (evBin Try.prog 3 .geq v6 (.int .i64 0)))) fun v7 H7 =>
  guardW v1 false H7 (fun q => q ⟨v7, [], []⟩) fun v8 H8 =>
  guardW v8 true H8 (fun q => q ⟨t0, [], []⟩) fun v9 H9 =>
  guardW v8 true H9 (fun q => q ⟨t7, [], []⟩) fun v10 H10 =>
  Q [t0, t1, t2, t3, t4, t5, t6, t7, t8, t9, t10, t11, t12, t13, t14, t15, t16, t17, t18, t19, t20, t21, t22, t23, t24, t25, t26, t27, t28, t29, t30, t31, t32, t33, t34, t35, t36, t37, t38, t39, t40, t41, t8, v1, v1, v2, v3, v4, v5, v6, v7, v8, v9, v10, t54, t55, t56, t57, t58, t59, t60, t61, t62, t63, t64, t65, t66, t67, t68, t69, t70, t71, t72, t73, t74, t75, t76, t77, t78, t79, t80, t81, t82] H10) := by kernel_rfl
theorem w4_45_12 {pol : Nat → Pol} {cl : CallW} {t0 t1 t2 t3 t4 t5 t6 t7 t8 t9 t10 t11 t12 t13 t14 t15 t16 t17 t18 t19 t20 t21 t22 t23 t24 t25 t26 t27 t28 t29 t30 t31 t32 t33 t34 t35 t36 t37 t38 t39 t40 t41 t42 t43 t44 t45 t46 t47 t48 t49 t50 t51 t52 t53 t54 t55 t56 t57 t58 t59 t60 t61 t62 t63 t64 t65 t66 t67 t68 t69 t70 t71 t72 t73 t74 t75 t76 t77 t78 t79 t80 t81 t82 : V} {H : Heap} {Q : List V → Heap → Prop} : wOps Try.prog pol cl o4_45 d4_45_12 12 [t0, t1, t2, t3, t4, t5, t6, t7, t8, t9, t10, t11, t12, t13, t14, t15, t16, t17, t18, t19, t20, t21, t22, t23, t24, t25, t26, t27, t28, t29, t30, t31, t32, t33, t34, t35, t36, t37, t38, t39, t40, t41, t42, t43, t44, t45, t46, t47, t48, t49, t50, t51, t52, t53, t54, t55, t56, t57, t58, t59, t60, t61, t62, t63, t64, t65, t66, t67, t68, t69, t70, t71, t72, t73, t74, t75, t76, t77, t78, t79, t80, t81, t82] H Q = (
  guardW t51 true H (outW (evIndexAddr Try.prog 22 t52 t53)) fun v1 H1 =>
  guardW t51 true H1 (outW (evFieldAddr Try.prog 36 v1 0)) fun v2 H2 =>
  guardW t51 true H2 (outW (evLoad Try.prog H2 3 v2)) fun v3 H3 =>
  guardW t51 true H3 (outW (liftO (evBin Try.prog 3 .leq v3 (.int .i64 2)))) fun v4 H4 =>
  guardW t44 false H4 (outW (pickO t51 v4 (.bool false))) fun v5 H5 =>
  guardW t44 false H5 (fun q => q ⟨v5, [], []⟩) fun v6 H6 =>
  guardW v6 true H6 (fun q => q ⟨t9, [], []⟩) fun v7 H7 =>
  guardW v6 true H7 (outW (liftO (evBin Try.prog 24 .neq v7 (.int .i64 1)))) fun v8 H8 =>
  guardW t44 false H8 (outW (pickO v6 v8 (.bool false))) fun v9 H9 =>
  stepW (pickO t44 (.bool true) v9) H9 fun v10 H10 =>
  Q [t0, t1, t2, t3, t4, t5, t6, t7, t8, t9, t10, t11, t12, t13, t14, t15, t16, t17, t18, t19, t20, t21, t22, t23, t24, t25, t26, t27, t28, t29, t30, t31, t32, t33, t34, t35, t36, t37, t38, t39, t40, t41, t42, t43, t44, t45, t46, t47, t48, t49, t50, t51, t52, t53, v1, v2, v3, v4, v5, v6, v7, v8, v9, v10, t64, t65, t66, t67, t68, t69, t70, t71, t72, t73, t74, t75, t76, t77, t78, t79, t80, t81, t82] H10) := by kernel_rfl
theorem w4_46 {pol : Nat → Pol} {cl : CallW} {lp : LoopW} {env : List V} {H : Heap} {Q : KQ} : wC Try.prog pol cl lp c4_46 env H Q = condW (evOperand env (Operand.tmp 63)) (wC Try.prog pol cl lp c4_47 env H Q) (wC Try.prog pol cl lp c4_50 env H Q) := wC_cond (by kernel_rfl)
theorem w4_47 {pol : Nat → Pol} {cl : CallW} {lp : LoopW} {env : List V} {H : Heap} {Q : KQ} : wC Try.prog pol cl lp c4_47 env H Q = wC Try.prog pol cl lp c4_48 env H (seqK Try.prog pol cl lp c4_49 Q) := wC_seq (by kernel_rfl)
theorem w4_48 {pol : Nat → Pol} {cl : CallW} {lp : LoopW} {env : List V} {H : Heap} {Q : KQ} : wC Try.prog pol cl lp c4_48 env H Q = wOps Try.prog pol cl o4_48 d4_48_0 0 env H (Q .nrm) := wC_reg (i := 14) (by kernel_rfl) rfl
theorem w4_48_0 {pol : Nat → Pol} {cl : CallW} {t0 t1 t2 t3 t4 t5 t6 t7 t8 t9 t10 t11 t12 t13 t14 t15 t16 t17 t18 t19 t20 t21 t22 t23 t24 t25 t26 t27 t28 t29 t30 t31 t32 t33 t34 t35 t36 t37 t38 t39 t40 t41 t42 t43 t44 t45 t46 t47 t48 t49 t50 t51 t52 t53 t54 t55 t56 t57 t58 t59 t60 t61 t62 t63 t64 t65 t66 t67 t68 t69 t70 t71 t72 t73 t74 t75 t76 t77 t78 t79 t80 t81 t82 : V} {H : Heap} {Q : List V → Heap → Prop} : wOps Try.prog pol cl o4_48 d4_48_0 0 [t0, t1, t2, t3, t4, t5, t6, t7, t8, t9, t10, t11, t12, t13, t14, t15, t16, t17, t18, t19, t20, t21, t22, t23, t24, t25, t26, t27, t28, t29, t30, t31, t32, t33, t34, t35, t36, t37, t38, t39, t40, t41, t42, t43, t44, t45, t46, t47, t48, t49, t50, t51, t52, t53, t54, t55, t56, t57, t58, t59, t60, t61, t62, t63, t64, t65, t66, t67, t68, t69, t70, t71, t72, t73, t74, t75, t76, t77, t78, t79, t80, t81, t82] H Q = (
  Q [t0, t1, (.bool false), t3, t4, t5, t6, t7, t8, t9, t10, t11, t12, t13, t14, t15, t16, t17, t18, t19, t20, t21, t22, t23, t24, t25, t26, t27, t28, t29, t30, t31, t32, t33, t34, t35, t36, t37, t38, t39, t40, t41, t42, t43, t44, t45, t46, t47, t48, t49, t50, t51, t52, t53, t54, t55, t56, t57, t58, t59, t60, t61, t62, t63, t64, t65, t66, t67, t68, t69, t70, t71, t72, t73, t74, t75, t76, t77, t78, t79, t80, t81, t82] H) := by kernel_rfl
theorem w4_49 {pol : Nat → Pol} {cl : CallW} {lp : LoopW} {env : List V} {H : Heap} {Q : KQ} : wC Try.prog pol cl lp c4_49 env H Q = Q .ret env H := wC_ret (by kernel_rfl)
theorem w4_50 {pol : Nat → Pol} {cl : CallW} {lp : LoopW} {env : List V} {H : Heap} {Q : KQ} : wC Try.prog pol cl lp c4_50 env H Q = Q .nrm env H := wC_skip (by kernel_rfl)
theorem w4_51 {pol : Nat → Pol} {cl : CallW} {lp : LoopW} {env : List V} {H : Heap} {Q : KQ} : wC Try.prog pol cl lp c4_51 env H Q = wOps Try.prog pol cl o4_51 d4_51_0 0 env H (Q .nrm) := wC_reg (i := 11) (by kernel_rfl) rfl
theorem w4_51_0 {pol : Nat → Pol} {cl : CallW} {t0 t1 t2 t3 t4 t5 t6 t7 t8 t9 t10 t11 t12 t13 t14 t15 t16 t17 t18 t19 t20 t21 t22 t23 t24 t25 t26 t27 t28 t29 t30 t31 t32 t33 t34 t35 t36 t37 t38 t39 t40 t41 t42 t43 t44 t45 t46 t47 t48 t49 t50 t51 t52 t53 t54 t55 t56 t57 t58 t59 t60 t61 t62 t63 t64 t65 t66 t67 t68 t69 t70 t71 t72 t73 t74 t75 t76 t77 t78 t79 t80 t81 t82 : V} {H : Heap} {Q : List V → Heap → Prop} : wOps Try.prog pol cl o4_51 d4_51_0 0 [t0, t1, t2, t3, t4, t5, t6, t7, t8, t9, t10, t11, t12, t13, t14, t15, t16, t17, t18, t19, t20, t21, t22, t23, t24, t25, t26, t27, t28, t29, t30, t31, t32, t33, t34, t35, t36, t37, t38, t39, t40, t41, t42, t43, t44, t45, t46, t47, t48, t49, t50, t51, t52, t53, t54, t55, t56, t57, t58, t59, t60, t61, t62, t63, t64, t65, t66, t67, t68, t69, t70, t71, t72, t73, t74, t75, t76, t77, t78, t79, t80, t81, t82] H Q = (
  stepW (liftO (evBin Try.prog 3 .add t7 (.int .i64 1))) H fun v1 H1 =>
  Q [t0, t1, t2, t3, t4, t5, t6, v1, t8, t9, t10, t11, t12, t13, t14, t15, t16, t17, t18, t19, t20, t21, t22, t23, t24, t25, t26, t27, t28, t29, t30, t7, v1, t33, t34, t35, t36, t37, t38, t39, t40, t41, t42, t43, t44, t45, t46, t47, t48, t49, t50, t51, t52, t53, t54, t55, t56, t57, t58, t59, t60, t61, t62, t63, t64, t65, t66, t67, t68, t69, t70, t71, t72, t73, t74, t75, t76, t77, t78, t79, t80, t81, t82] H1) := by kernel_rfl
theorem w4_52 {pol : Nat → Pol} {cl : CallW} {lp : LoopW} {env : List V} {H : Heap} {Q : KQ} : wC Try.prog pol cl lp c4_52 env H Q = wC Try.prog pol cl lp c4_53 env H (seqK Try.prog pol cl lp c4_54 Q) := wC_seq (by kernel_rfl)
theorem w4_53 {pol : Nat → Pol} {cl : CallW} {lp : LoopW} {env : List V} {H : Heap} {Q : KQ} : wC Try.prog pol cl lp c4_53 env H Q = wOps Try.prog pol cl o4_53 d4_53_0 0 env H (Q .nrm) := wC_reg (i := 15) (by kernel_rfl) rfl
theorem w4_53_0c {pol : Nat → Pol} {cl : CallW} {env : List V} {H : Heap} {Q : List V → Heap → Prop} : wOps Try.prog pol cl o4_53 d4_53_0 0 env H Q = wOps Try.prog pol cl o4_53 p4_53_0 0 env H (fun env H => wOps Try.prog pol cl o4_53 d4_53_12 12 env H Q) := wOps_cut (by kernel_rfl) (by kernel_rfl)
theorem w4_53_0 {pol : Nat → Pol} {cl : CallW} {t0 t1 t2 t3 t4 t5 t6 t7 t8 t9 t10 t11 t12 t13 t14 t15 t16 t17 t18 t19 t20 t21 t22 t23 t24 t25 t26 t27 t28 t29 t30 t31 t32 t33 t34 t35 t36 t37 t38 t39 t40 t41 t42 t43 t44 t45 t46 t47 t48 t49 t50 t51 t52 t53 t54 t55 t56 t57 t58 t59 t60 t61 t62 t63 t64 t65 t66 t67 t68 t69 t70 t71 t72 t73 t74 t75 t76 t77 t78 t79 t80 t81 t82 : V} {H : Heap} {Q : List V → Heap → Prop} : wOps Try.prog pol cl o4_53 p4_53_0 0 [t0, t1, t2, t3, t4, t5, t6, t7, t8, t9, t10, t11, t12, t13, t14, t15, t16, t17, t18, t19, t20, t21, t22, t23, t24, t25, t26, t27, t28, t29, t30, t31, t32, t33, t34, t35, t36, t37, t38, t39, t40, t41, t42, t43, t44, t45, t46, t47, t48, t49, t50, t51, t52, t53, t54, t55, t56, t57, t58, t59, t60, t61, t62, t63, t64, t65, t66, t67, t68, t69, t70, t71, t72, t73, t74, t75, t76, t77, t78, t79, t80, t81, t82] H Q = (
  callW pol cl H 65 9 [t6] fun v1 H1 =>
  stepW (liftO (evBin Try.prog 3 .neq v1 (.int .i64 0))) H1 fun v2 H2 =>
  guardW v2 false H2 (fun q => q ⟨t6, [], []⟩) fun v3 H3 =>
  guardW v2 false H3 (wCall pol cl H3 69 14 [v3]) fun v4 H4 =>
  guardW v2 false H4 (outW (liftO (evBin Try.prog 3 .neq v4 (.int .i64 0)))) fun v5 H5 =>
  stepW (pickO v2 (.bool true) v5) H5 fun v6 H6 =>
  guardW v6 false H6 (fun q => q ⟨t6, [], []⟩) fun v7 H7 =>
  guardW v6 false H7 (wCall pol cl H7 74 15 [v7]) fun v8 H8 =>
  stepW (pickO v6 (.bool true) v8) H8 fun v9 H9 =>
  Q [t0, t1, t2, t3, t4, t5, t6, t7, t8, t9, t10, t11, t12, t13, t14, t15, t16, t17, t18, t19, t20, t21, t22, t23, t24, t25, t26, t27, t28, t29, t30, t31, t32, t33, t34, t35, t36, t37, t38, t39, t40, t41, t42, t43, t44, t45, t46, t47, t48, t49, t50, t51, t52, t53, t54, t55, t56, t57, t58, t59, t60, t61, t62, t63, t6, v1, v2, v2, v3, v4, v5, v6, v6, v7, v8, v9, t76, t77, t78, t79, t80, t81, t82] H9) := by kernel_rfl
theorem w4_53_12 {pol : Nat → Pol} {cl : CallW} {t0 t1 t2 t3 t4 t5 t6 t7 t8 t9 t10 t11 t12 t13 t14 t15 t16 t17 t18 t19 t20 t21 t22 t23 t24 t25 t26 t27 t28 t29 t30 t31 t32 t33 t34 t35 t36 t37 t38 t39 t40 t41 t42 t43 t44 t45 t46 t47 t48 t49 t50 t51 t52 t53 t54 t55 t56 t57 t58 t59 t60 t61 t62 t63 t64 t65 t66 t67 t68 t69 t70 t71 t72 t73 t74 t75 t76 t77 t78 t79 t80 t81 t82 : V} {H : Heap} {Q : List V → Heap → Prop} : wOps Try.prog pol cl o4_53 d4_53_12 12 [t0, t1, t2, t3, t4, t5, t6, t7, t8, t9, t10, t11, t12, t13, t14, t15, t16, t17, t18, t19, t20, t21, t22, t23, t24, t25, t26, t27, t28, t29, t30, t31, t32, t33, t34, t35, t36, t37, t38, t39, t40, t41, t42, t43, t44, t45, t46, t47, t48, t49, t50, t51, t52, t53, t54, t55, t56, t57, t58, t59, t60, t61, t62, t63, t64, t65, t66, t67, t68, t69, t70, t71, t72, t73, t74, t75, t76, t77, t78, t79, t80, t81, t82] H Q = (
  guardW t75 false H (fun q => q ⟨t6, [], []⟩) fun v1 H1 =>
  guardW t75 false H1 (wCall pol cl H1 78 16 [v1]) fun v2 H2 =>
  guardW t75 false H2 (outW (evLen Try.prog 34 v2)) fun v3 H3 =>
  guardW t75 false H3 (outW (liftO (evBin Try.prog 3 .neq v3 (.int .i64 0)))) fun v4 H4 =>
  stepW (pickO t75 (.bool true) v4) H4 fun v5 H5 =>
  Q [t0, t1, t2, t3, t4, t5, t6, t7, t8, t9, t10, t11, t12, t13, t14, t15, t16, t17, t18, t19, t20, t21, t22, t23, t24, t25, t26, t27, t28, t29, t30, t31, t32, t33, t34, t35, t36, t37, t38, t39, t40, t41, t42, t43, t44, t45, t46, t47, t48, t49, t50, t51, t52, t53, t54, t55, t56, t57, t58, t59, t60, t61, t62, t63, t64, t65, t66, t67, t68, t69, t70, t71, t72, t73, t74, t75, t75, v1, v2, v3, v4, v5, t82] H5) := by kernel_rfl
theorem w4_54 {pol : Nat → Pol} {cl : CallW} {lp : LoopW} {env : List V} {H : Heap} {Q : KQ} : wC Try.prog pol cl lp c4_54 env H Q = condW (evOperand env (Operand.tmp 81)) (wC Try.prog pol cl lp c4_55 env H Q) (wC Try.prog pol cl lp c4_58 env H Q) := wC_cond (by kernel_rfl)
theorem w4_55 {pol : Nat → Pol} {cl : CallW} {lp : LoopW} {env : List V} {H : Heap} {Q : KQ} : wC Try.prog pol cl lp c4_55 env H Q = wC Try.prog pol cl lp c4_56 env H (seqK Try.prog pol cl lp c4_57 Q) := wC_seq (by kernel_rfl)
theorem w4_56 {pol : Nat → Pol} {cl : CallW} {lp : LoopW} {env : List V} {H : Heap} {Q : KQ} : wC Try.prog pol cl lp c4_56 env H Q = wOps Try.prog pol cl o4_56 d4_56_0 0 env H (Q .nrm) := wC_reg (i := 16) (by kernel_rfl) rfl
theorem w4_56_0 {pol : Nat → Pol} {cl : CallW} {t0 t1 t2 t3 t4 t5 t6 t7 t8 t9 t10 t11 t12 t13 t14 t15 t16 t17 t18 t19 t20 t21 t22 t23 t24 t25 t26 t27 t28 t29 t30 t31 t32 t33 t34 t35 t36 t37 t38 t39 t40 t41 t42 t43 t44 t45 t46 t47 t48 t49 t50 t51 t52 t53 t54 t55 t56 t57 t58 t59 t60 t61 t62 t63 t64 t65 t66 t67 t68 t69 t70 t71 t72 t73 t74 t75 t76 t77 t78 t79 t80 t81 t82 : V} {H : Heap} {Q : List V → Heap → Prop} : wOps Try.prog pol cl o4_56 d4_56_0 0 [t0, t1, t2, t3, t4, t5, t6, t7, t8, t9, t10, t11, t12, t13, t14, t15, t16, t17, t18, t19, t20, t21, t22, t23, t24, t25, t26, t27, t28, t29, t30, t31, t32, t33, t34, t35, t36, t37, t38, t39, t40, t41, t42, t43, t44, t45, t46, t47, t48, t49, t50, t51, t52, t53, t54, t55, t56, t57, t58, t59, t60, t61, t62, t63, t64, t65, t66, t67, t68, t69, t70, t71, t72, t73, t74, t75, t76, t77, t78, t79, t80, t81, t82] H Q = (
  Q [t0, t1, (.bool false), t3, t4, t5, t6, t7, t8, t9, t10, t11, t12, t13, t14, t15, t16, t17, t18, t19, t20, t21, t22, t23, t24, t25, t26, t27, t28, t29, t30, t31, t32, t33, t34, t35, t36, t37, t38, t39, t40, t41, t42, t43, t44, t45, t46, t47, t48, t49, t50, t51, t52, t53, t54, t55, t56, t57, t58, t59, t60, t61, t62, t63, t64, t65, t66, t67, t68, t69, t70, t71, t72, t73, t74, t75, t76, t77, t78, t79, t80, t81, t82] H) := by kernel_rfl
theorem w4_57 {pol : Nat → Pol} {cl : CallW} {lp : LoopW} {env : List V} {H : Heap} {Q : KQ} : wC Try.prog pol cl lp c4_57 env H Q = Q .ret env H := wC_ret (by kernel_rfl)
theorem w4_58 {pol : Nat → Pol} {cl : CallW} {lp : LoopW} {env : List V} {H : Heap} {Q : KQ} : wC Try.prog pol cl lp c4_58 env H Q = Q .nrm env H := wC_skip (by kernel_rfl)
theorem w4_59 {pol : Nat → Pol} {cl : CallW} {lp : LoopW} {env : List V} {H : Heap} {Q : KQ} : wC Try.prog pol cl lp c4_59 env H Q = wOps Try.prog pol cl o4_59 d4_59_0 0 env H (Q .nrm) := wC_reg (i := 7) (by kernel_rfl) rfl
theorem w4_59_0 {pol : Nat → Pol} {cl : CallW} {t0 t1 t2 t3 t4 t5 t6 t7 t8 t9 t10 t11 t12 t13 t14 t15 t16 t17 t18 t19 t20 t21 t22 t23 t24 t25 t26 t27 t28 t29 t30 t31 t32 t33 t34 t35 t36 t37 t38 t39 t40 t41 t42 t43 t44 t45 t46 t47 t48 t49 t50 t51 t52 t53 t54 t55 t56 t57 t58 t59 t60 t61 t62 t63 t64 t65 t66 t67 t68 t69 t70 t71 t72 t73 t74 t75 t76 t77 t78 t79 t80 t81 t82 : V} {H : Heap} {Q : List V → Heap → Prop} : wOps Try.prog pol cl o4_59 d4_59_0 0 [t0, t1, t2, t3, t4, t5, t6, t7, t8, t9, t10, t11, t12, t13, t14, t15, t16, t17, t18, t19, t20, t21, t22, t23, t24, t25, t26, t27, t28, t29, t30, t31, t32, t33, t34, t35, t36, t37, t38, t39, t40, t41, t42, t43, t44, t45, t46, t47, t48, t49, t50, t51, t52, t53, t54, t55, t56, t57, t58, t59, t60, t61, t62, t63, t64, t65, t66, t67, t68, t69, t70, t71, t72, t73, t74, t75, t76, t77, t78, t79, t80, t81, t82] H Q = (
  stepW (liftO (evBin Try.prog 3 .add t5 (.int .i64 1))) H fun v1 H1 =>
  Q [t0, t1, t2, t3, t4, v1, t6, t7, t8, t9, t10, t11, t12, t13, t14, t15, t16, t17, t18, t19, t20, t5, v1, t23, t24, t25, t26, t27, t28, t29, t30, t31, t32, t33, t34, t35, t36, t37, t38, t39, t40, t41, t42, t43, t44, t45, t46, t47, t48, t49, t50, t51, t52, t53, t54, t55, t56, t57, t58, t59, t60, t61, t62, t63, t64, t65, t66, t67, t68, t69, t70, t71, t72, t73, t74, t75, t76, t77, t78, t79, t80, t81, t82] H1) := by kernel_rfl
theorem w4_60 {pol : Nat → Pol} {cl : CallW} {lp : LoopW} {env : List V} {H : Heap} {Q : KQ} : wC Try.prog pol cl lp c4_60 env H Q = wC Try.prog pol cl lp c4_61 env H (seqK Try.prog pol cl lp c4_62 Q) := wC_seq (by kernel_rfl)
theorem w4_61 {pol : Nat → Pol} {cl : CallW} {lp : LoopW} {env : List V} {H : Heap} {Q : KQ} : wC Try.prog pol cl lp c4_61 env H Q = wOps Try.prog pol cl o4_61 d4_61_0 0 env H (Q .nrm) := wC_reg (i := 17) (by kernel_rfl) rfl
theorem w4_61_0 {pol : Nat → Pol} {cl : CallW} {t0 t1 t2 t3 t4 t5 t6 t7 t8 t9 t10 t11 t12 t13 t14 t15 t16 t17 t18 t19 t20 t21 t22 t23 t24 t25 t26 t27 t28 t29 t30 t31 t32 t33 t34 t35 t36 t37 t38 t39 t40 t41 t42 t43 t44 t45 t46 t47 t48 t49 t50 t51 t52 t53 t54 t55 t56 t57 t58 t59 t60 t61 t62 t63 t64 t65 t66 t67 t68 t69 t70 t71 t72 t73 t74 t75 t76 t77 t78 t79 t80 t81 t82 : V} {H : Heap} {Q : List V → Heap → Prop} : wOps Try.prog pol cl o4_61 d4_61_0 0 [t0, t1, t2, t3, t4, t5, t6, t7, t8, t9, t10, t11, t12, t13, t14, t15, t16, t17, t18, t19, t20, t21, t22, t23, t24, t25, t26, t27, t28, t29, t30, t31, t32, t33, t34, t35, t36, t37, t38, t39, t40, t41, t42, t43, t44, t45, t46, t47, t48, t49, t50, t51, t52, t53, t54, t55, t56, t57, t58, t59, t60, t61, t62, t63, t64, t65, t66, t67, t68, t69, t70, t71, t72, t73, t74, t75, t76, t77, t78, t79, t80, t81, t82] H Q = (
  callW pol cl H 82 8 [] fun v1 H1 =>
  Q [t0, t1, v1, t3, t4, t5, t6, t7, t8, t9, t10, t11, t12, t13, t14, t15, t16, t17, t18, t19, t20, t21, t22, t23, t24, t25, t26, t27, t28, t29, t30, t31, t32, t33, t34, t35, t36, t37, t38, t39, t40, t41, t42, t43, t44, t45, t46, t47, t48, t49, t50, t51, t52, t53, t54, t55, t56, t57, t58, t59, t60, t61, t62, t63, t64, t65, t66, t67, t68, t69, t70, t71, t72, t73, t74, t75, t76, t77, t78, t79, t80, t81, v1] H1) := by kernel_rfl
theorem w4_62 {pol : Nat → Pol} {cl : CallW} {lp : LoopW} {env : List V} {H : Heap} {Q : KQ} : wC Try.prog pol cl lp c4_62 env H Q = Q .ret env H := wC_ret (by kernel_rfl)
end Go.Proofs.Ytcamcfplcoklkaa.Iv
