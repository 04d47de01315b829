import Derived.Test.YtcamcfplcoklkaaM8
import Derived.Test.YtcamcfplcoklkaaProg
import Derived.Test.YtcamcfplcoklkaaM16
namespace Go.Proofs.Ytcamcfplcoklkaa.Iv
open Go
set_option linter.unusedVariables false
-- incipit/incipitlaw27.sectors
noncomputable def c18_0 : Code := cAt [] (bodyOf Try.f18)
noncomputable def c18_1 : Code := cAt [0] (bodyOf Try.f18)
noncomputable def o18_1 : Array Oper := opsOf c18_1
noncomputable def d18_1_0 : List Oper := o18_1.toList
noncomputable def c18_2 : Code := cAt [1] (bodyOf Try.f18)
noncomputable def c18_3 : Code := cAt [1, 0] (bodyOf Try.f18)
noncomputable def o18_3 : Array Oper := opsOf c18_3
noncomputable def d18_3_0 : List Oper := o18_3.toList
noncomputable def c18_4 : Code := cAt [1, 1] (bodyOf Try.f18)
noncomputable def c18_5 : Code := cAt [1, 1, 0] (bodyOf Try.f18)
noncomputable def o18_5 : Array Oper := opsOf c18_5
noncomputable def d18_5_0 : List Oper := o18_5.toList
noncomputable def c18_6 : Code := cAt [1, 1, 1] (bodyOf Try.f18)
noncomputable def c18_7 : Code := cAt [1, 1, 1, 0] (bodyOf Try.f18)
noncomputable def c18_8 : Code := cAt [1, 1, 1, 0, 0] (bodyOf Try.f18)
noncomputable def o18_8 : Array Oper := opsOf c18_8
noncomputable def d18_8_0 : List Oper := o18_8.toList
noncomputable def c18_9 : Code := cAt [1, 1, 1, 0, 1] (bodyOf Try.f18)
noncomputable def c18_10 : Code := cAt [1, 1, 1, 0, 1, 0] (bodyOf Try.f18)
noncomputable def c18_11 : Code := cAt [1, 1, 1, 0, 1, 0, 0] (bodyOf Try.f18)
noncomputable def c18_12 : Code := cAt [1, 1, 1, 0, 1, 0, 0, 0] (bodyOf Try.f18)
noncomputable def c18_13 : Code := cAt [1, 1, 1, 0, 1, 0, 0, 0, 0] (bodyOf Try.f18)
noncomputable def o18_13 : Array Oper := opsOf c18_13
noncomputable def d18_13_0 : List Oper := o18_13.toList
noncomputable def c18_14 : Code := cAt [1, 1, 1, 0, 1, 0, 0, 0, 1] (bodyOf Try.f18)
noncomputable def c18_15 : Code := cAt [1, 1, 1, 0, 1, 0, 0, 0, 1, 0] (bodyOf Try.f18)
noncomputable def c18_16 : Code := cAt [1, 1, 1, 0, 1, 0, 0, 0, 1, 1] (bodyOf Try.f18)
noncomputable def c18_17 : Code := cAt [1, 1, 1, 0, 1, 0, 0, 1] (bodyOf Try.f18)
noncomputable def c18_18 : Code := cAt [1, 1, 1, 0, 1, 0, 0, 1, 0] (bodyOf Try.f18)
noncomputable def c18_19 : Code := cAt [1, 1, 1, 0, 1, 0, 0, 1, 0, 0] (bodyOf Try.f18)
noncomputable def o18_19 : Array Oper := opsOf c18_19
noncomputable def d18_19_0 : List Oper := o18_19.toList
noncomputable def c18_20 : Code := cAt [1, 1, 1, 0, 1, 0, 0, 1, 1] (bodyOf Try.f18)
noncomputable def o18_20 : Array Oper := opsOf c18_20
noncomputable def d18_20_0 : List Oper := o18_20.toList
noncomputable def c18_21 : Code := cAt [1, 1, 1, 1] (bodyOf Try.f18)
noncomputable def c18_22 : Code := cAt [1, 1, 1, 1, 0] (bodyOf Try.f18)
noncomputable def o18_22 : Array Oper := opsOf c18_22
noncomputable def d18_22_0 : List Oper := o18_22.toList
noncomputable def c18_23 : Code := cAt [1, 1, 1, 1, 1] (bodyOf Try.f18)
theorem w18_0 {pol : Nat → Pol} {cl : CallW} {lp : LoopW} {env : List V} {H : Heap} {Q : KQ} : wC Try.prog pol cl lp c18_0 env H Q = wC Try.prog pol cl lp c18_1 env H (seqK Try.prog pol cl lp c18_2 Q) := wC_seq (by kernel_rfl)
theorem w18_1 {pol : Nat → Pol} {cl : CallW} {lp : LoopW} {env : List V} {H : Heap} {Q : KQ} : wC Try.prog pol cl lp c18_1 env H Q = wOps Try.prog pol cl o18_1 d18_1_0 0 env H (Q .nrm) := wC_reg (i := 0) (by kernel_rfl) rfl
theorem w18_1_0 {pol : Nat → Pol} {cl : CallW} {t0 t1 t2 t3 t4 t5 t6 t7 t8 t9 t10 t11 t12 t13 t14 t15 t16 t17 t18 t19 t20 t21 t22 t23 t24 : V} {H : Heap} {Q : List V → Heap → Prop} : wOps Try.prog pol cl o18_1 d18_1_0 0 [t0, t1, t2, t3, t4, t5, t6, t7, t8, t9, t10, t11, t12, t13, t14, t15, t16, t17, t18, t19, t20, t21, t22, t23, t24] H Q = (
  Q [t0, t1, .nils, t3, t4, t5, t6, t7, t8, t9, t10, t11, t12, t13, t14, t15, t16, t17, t18, t19, t20, t21, t22, t23, t24] H) := by kernel_rfl
theorem w18_2 {pol : Nat → Pol} {cl : CallW} {lp : LoopW} {env : List V} {H : Heap} {Q : KQ} : wC Try.prog pol cl lp c18_2 env H Q = wC Try.prog pol cl lp c18_3 env H (seqK Try.prog pol cl lp c18_4 Q) := wC_seq (by kernel_rfl)
theorem w18_3 {pol : Nat → Pol} {cl : CallW} {lp : LoopW} {env : List V} {H : Heap} {Q : KQ} : wC Try.prog pol cl lp c18_3 env H Q = wOps Try.prog pol cl o18_3 d18_3_0 0 env H (Q .nrm) := wC_reg (i := 1) (by kernel_rfl) rfl
theorem w18_3_0 {pol : Nat → Pol} {cl : CallW} {t0 t1 t2 t3 t4 t5 t6 t7 t8 t9 t10 t11 t12 t13 t14 t15 t16 t17 t18 t19 t20 t21 t22 t23 t24 : V} {H : Heap} {Q : List V → Heap → Prop} : wOps Try.prog pol cl o18_3 d18_3_0 0 [t0, t1, t2, t3, t4, t5, t6, t7, t8, t9, t10, t11, t12, t13, t14, t15, t16, t17, t18, t19, t20, t21, t22, t23, t24] H Q = (
  Q [t0, t1, t2, .nils, t4, t5, t6, t7, t8, t9, t10, t11, t12, t13, t14, t15, t16, t17, t18, t19, t20, t21, t22, t23, t24] H) := by kernel_rfl
theorem w18_4 {pol : Nat → Pol} {cl : CallW} {lp : LoopW} {env : List V} {H : Heap} {Q : KQ} : wC Try.prog pol cl lp c18_4 env H Q = wC Try.prog pol cl lp c18_5 env H (seqK Try.prog pol cl lp c18_6 Q) := wC_seq (by kernel_rfl)
theorem w18_5 {pol : Nat → Pol} {cl : CallW} {lp : LoopW} {env : List V} {H : Heap} {Q : KQ} : wC Try.prog pol cl lp c18_5 env H Q = wOps Try.prog pol cl o18_5 d18_5_0 0 env H (Q .nrm) := wC_reg (i := 2) (by kernel_rfl) rfl
theorem w18_5_0 {pol : Nat → Pol} {cl : CallW} {t0 t1 t2 t3 t4 t5 t6 t7 t8 t9 t10 t11 t12 t13 t14 t15 t16 t17 t18 t19 t20 t21 t22 t23 t24 : V} {H : Heap} {Q : List V → Heap → Prop} : wOps Try.prog pol cl o18_5 d18_5_0 0 [t0, t1, t2, t3, t4, t5, t6, t7, t8, t9, t10, t11, t12, t13, t14, t15, t16, t17, t18, t19, t20, t21, t22, t23, t24] H Q = (
  callW pol cl H 7 16 [t0] fun v1 H1 =>
  Q [t0, t1, t2, t3, v1, t5, t0, v1, t8, t9, t10, t11, t12, t13, t14, t15, t16, t17, t18, t19, t20, t21, t22, t23, t24] H1) := by kernel_rfl
theorem w18_6 {pol : Nat → Pol} {cl : CallW} {lp : LoopW} {env : List V} {H : Heap} {Q : KQ} : wC Try.prog pol cl lp c18_6 env H Q = wC Try.prog pol cl lp c18_7 env H (seqK Try.prog pol cl lp c18_21 Q) := wC_seq (by kernel_rfl)
theorem w18_7 {pol : Nat → Pol} {cl : CallW} {lp : LoopW} {env : List V} {H : Heap} {Q : KQ} : wC Try.prog pol cl lp c18_7 env H Q = wC Try.prog pol cl lp c18_8 env H (seqK Try.prog pol cl lp c18_9 Q) := wC_seq (by kernel_rfl)
theorem w18_8 {pol : Nat → Pol} {cl : CallW} {lp : LoopW} {env : List V} {H : Heap} {Q : KQ} : wC Try.prog pol cl lp c18_8 env H Q = wOps Try.prog pol cl o18_8 d18_8_0 0 env H (Q .nrm) := wC_reg (i := 3) (by kernel_rfl) rfl
theorem w18_8_0 {pol : Nat → Pol} {cl : CallW} {t0 t1 t2 t3 t4 t5 t6 t7 t8 t9 t10 t11 t12 t13 t14 t15 t16 t17 t18 t19 t20 t21 t22 t23 t24 : V} {H : Heap} {Q : List V → Heap → Prop} : wOps Try.prog pol cl o18_8 d18_8_0 0 [t0, t1, t2, t3, t4, t5, t6, t7, t8, t9, t10, t11, t12, t13, t14, t15, t16, t17, t18, t19, t20, t21, t22, t23, t24] H Q = (
  Q [t0, t1, t2, t3, t4, (.int .i64 0), t6, t7, t8, t9, t10, t11, t12, t13, t14, t15, t16, t17, t18, t19, t20, t21, t22, t23, t24] H) := by kernel_rfl
theorem w18_9 {pol : Nat → Pol} {cl : CallW} {lp : LoopW} {env : List V} {H : Heap} {Q : KQ} : wC Try.prog pol cl lp c18_9 env H Q = wC Try.prog pol cl lp c18_10 env H (blockK 0 Q) := wC_block (by kernel_rfl)
theorem w18_10 {pol : Nat → Pol} {cl : CallW} {lp : LoopW} {env : List V} {H : Heap} {Q : KQ} : wC Try.prog pol cl lp c18_10 env H Q = lp c18_11 env H Q := wC_loop (by kernel_rfl)
theorem w18_11 {pol : Nat → Pol} {cl : CallW} {lp : LoopW} {env : List V} {H : Heap} {Q : KQ} : wC Try.prog pol cl lp c18_11 env H Q = wC Try.prog pol cl lp c18_12 env H (seqK Try.prog pol cl lp c18_17 Q) := wC_seq (by kernel_rfl)
theorem w18_12 {pol : Nat → Pol} {cl : CallW} {lp : LoopW} {env : List V} {H : Heap} {Q : KQ} : wC Try.prog pol cl lp c18_12 env H Q = wC Try.prog pol cl lp c18_13 env H (seqK Try.prog pol cl lp c18_14 Q) := wC_seq (by kernel_rfl)
theorem w18_13 {pol : Nat → Pol} {cl : CallW} {lp : LoopW} {env : List V} {H : Heap} {Q : KQ} : wC Try.prog pol cl lp c18_13 env H Q = wOps Try.prog pol cl o18_13 d18_13_0 0 env H (Q .nrm) := wC_reg (i := 4) (by kernel_rfl) rfl
theorem w18_13_0 {pol : Nat → Pol} {cl : CallW} {t0 t1 t2 t3 t4 t5 t6 t7 t8 t9 t10 t11 t12 t13 t14 t15 t16 t17 t18 t19 t20 t21 t22 t23 t24 : V} {H : Heap} {Q : List V → Heap → Prop} : wOps Try.prog pol cl o18_13 d18_13_0 0 [t0, t1, t2, t3, t4, t5, t6, t7, t8, t9, t10, t11, t12, t13, t14, t15, t16, t17, t18, t19, t20, t21, t22, t23, t24] H Q = (
  stepW (liftO (evBin Try.prog 3 .add t5 (.int .i64 64))) H fun v1 H1 =>
  stepW (evLen Try.prog 34 t4) H1 fun v2 H2 =>
  stepW (liftO (evBin Try.prog 3 .leq v1 v2)) H2 fun v3 H3 =>
  Q [t0, t1, t2, t3, t4, t5, t6, t7, t5, v1, t4, v2, v3, t13, t14, t15, t16, t17, t18, t19, t20, t21, t22, t23, t24] H3) := by kernel_rfl
theorem w18_14 {pol : Nat → Pol} {cl : CallW} {lp : LoopW} {env : List V} {H : Heap} {Q : KQ} : wC Try.prog pol cl lp c18_14 env H Q = condW (evOperand env (Operand.tmp 12)) (wC Try.prog pol cl lp c18_15 env H Q) (wC Try.prog pol cl lp c18_16 env H Q) := wC_cond (by kernel_rfl)
theorem w18_15 {pol : Nat → Pol} {cl : CallW} {lp : LoopW} {env : List V} {H : Heap} {Q : KQ} : wC Try.prog pol cl lp c18_15 env H Q = Q .nrm env H := wC_skip (by kernel_rfl)
theorem w18_16 {pol : Nat → Pol} {cl : CallW} {lp : LoopW} {env : List V} {H : Heap} {Q : KQ} : wC Try.prog pol cl lp c18_16 env H Q = Q (.exit 0) env H := wC_exit (by kernel_rfl)
theorem w18_17 {pol : Nat → Pol} {cl : CallW} {lp : LoopW} {env : List V} {H : Heap} {Q : KQ} : wC Try.prog pol cl lp c18_17 env H Q = wC Try.prog pol cl lp c18_18 env H (seqK Try.prog pol cl lp c18_20 Q) := wC_seq (by kernel_rfl)
theorem w18_18 {pol : Nat → Pol} {cl : CallW} {lp : LoopW} {env : List V} {H : Heap} {Q : KQ} : wC Try.prog pol cl lp c18_18 env H Q = wC Try.prog pol cl lp c18_19 env H (blockK 1 Q) := wC_block (by kernel_rfl)
theorem w18_19 {pol : Nat → Pol} {cl : CallW} {lp : LoopW} {env : List V} {H : Heap} {Q : KQ} : wC Try.prog pol cl lp c18_19 env H Q = wOps Try.prog pol cl o18_19 d18_19_0 0 env H (Q .nrm) := wC_reg (i := 6) (by kernel_rfl) rfl
theorem w18_19_0 {pol : Nat → Pol} {cl : CallW} {t0 t1 t2 t3 t4 t5 t6 t7 t8 t9 t10 t11 t12 t13 t14 t15 t16 t17 t18 t19 t20 t21 t22 t23 t24 : V} {H : Heap} {Q : List V → Heap → Prop} : wOps Try.prog pol cl o18_19 d18_19_0 0 [t0, t1, t2, t3, t4, t5, t6, t7, t8, t9, t10, t11, t12, t13, t14, t15, t16, t17, t18, t19, t20, t21, t22, t23, t24] H Q = (
  stepW (liftO (evBin Try.prog 3 .add t5 (.int .i64 64))) H fun v1 H1 =>
  stepW (evSlice Try.prog H1 34 t4 (some t5) (some v1) none) H1 fun v2 H2 =>
  stepW (evConvert Try.prog H2 34 9 v2) H2 fun v3 H3 =>
  stepW (evBuildSlice Try.prog H3 22 38 1 [(0, v3)]) H3 fun v4 H4 =>
  stepW (evAppend Try.prog H4 23 38 38 t3 v4) H4 fun v5 H5 =>
  Q [t0, t1, t2, v5, t4, t5, t6, t7, t8, t9, t10, t11, t12, t13, t14, t3, t4, t5, t5, v1, v2, v3, v4, v5, t24] H5) := by kernel_rfl
theorem w18_20 {pol : Nat → Pol} {cl : CallW} {lp : LoopW} {env : List V} {H : Heap} {Q : KQ} : wC Try.prog pol cl lp c18_20 env H Q = wOps Try.prog pol cl o18_20 d18_20_0 0 env H (Q .nrm) := wC_reg (i := 5) (by kernel_rfl) rfl
theorem w18_20_0 {pol : Nat → Pol} {cl : CallW} {t0 t1 t2 t3 t4 t5 t6 t7 t8 t9 t10 t11 t12 t13 t14 t15 t16 t17 t18 t19 t20 t21 t22 t23 t24 : V} {H : Heap} {Q : List V → Heap → Prop} : wOps Try.prog pol cl o18_20 d18_20_0 0 [t0, t1, t2, t3, t4, t5, t6, t7, t8, t9, t10, t11, t12, t13, t14, t15, t16, t17, t18, t19, t20, t21, t22, t23, t24] H Q = (
  stepW (liftO (evBin Try.prog 3 .add t5 (.int .i64 64))) H fun v1 H1 =>
  Q [t0, t1, t2, t3, t4, v1, t6, t7, t8, t9, t10, t11, t12, t5, v1, t15, t16, t17, t18, t19, t20, t21, t22, t23, t24] H1) := by kernel_rfl
theorem w18_21 {pol : Nat → Pol} {cl : CallW} {lp : LoopW} {env : List V} {H : Heap} {Q : KQ} : wC Try.prog pol cl lp c18_21 env H Q = wC Try.prog pol cl lp c18_22 env H (seqK Try.prog pol cl lp c18_23 Q) := wC_seq (by kernel_rfl)
theorem w18_22 {pol : Nat → Pol} {cl : CallW} {lp : LoopW} {env : List V} {H : Heap} {Q : KQ} : wC Try.prog pol cl lp c18_22 env H Q = wOps Try.prog pol cl o18_22 d18_22_0 0 env H (Q .nrm) := wC_reg (i := 7) (by kernel_rfl) rfl
theorem w18_22_0 {pol : Nat → Pol} {cl : CallW} {t0 t1 t2 t3 t4 t5 t6 t7 t8 t9 t10 t11 t12 t13 t14 t15 t16 t17 t18 t19 t20 t21 t22 t23 t24 : V} {H : Heap} {Q : List V → Heap → Prop} : wOps Try.prog pol cl o18_22 d18_22_0 0 [t0, t1, t2, t3, t4, t5, t6, t7, t8, t9, t10, t11, t12, t13, t14, t15, t16, t17, t18, t19, t20, t21, t22, t23, t24] H Q = (
  Q [t0, t1, t3, t3, t4, t5, t6, t7, t8, t9, t10, t11, t12, t13, t14, t15, t16, t17, t18, t19, t20, t21, t22, t23, t3] H) := by kernel_rfl
theorem w18_23 {pol : Nat → Pol} {cl : CallW} {lp : LoopW} {env : List V} {H : Heap} {Q : KQ} : wC Try.prog pol cl lp c18_23 env H Q = Q .ret env H := wC_ret (by kernel_rfl)
-- incipit/disk.New
noncomputable def c7_0 : Code := cAt [] (bodyOf Try.f7)
noncomputable def c7_1 : Code := cAt [0] (bodyOf Try.f7)
noncomputable def o7_1 : Array Oper := opsOf c7_1
noncomputable def d7_1_0 : List Oper := o7_1.toList
noncomputable def c7_2 : Code := cAt [1] (bodyOf Try.f7)
noncomputable def c7_3 : Code := cAt [1, 0] (bodyOf Try.f7)
noncomputable def c7_4 : Code := cAt [1, 0, 0] (bodyOf Try.f7)
noncomputable def o7_4 : Array Oper := opsOf c7_4
noncomputable def d7_4_0 : List Oper := o7_4.toList
noncomputable def c7_5 : Code := cAt [1, 0, 1] (bodyOf Try.f7)
noncomputable def c7_6 : Code := cAt [1, 0, 1, 0] (bodyOf Try.f7)
noncomputable def c7_7 : Code := cAt [1, 0, 1, 0, 0] (bodyOf Try.f7)
noncomputable def o7_7 : Array Oper := opsOf c7_7
noncomputable def d7_7_0 : List Oper := o7_7.toList
noncomputable def c7_8 : Code := cAt [1, 0, 1, 0, 1] (bodyOf Try.f7)
noncomputable def c7_9 : Code := cAt [1, 0, 1, 1] (bodyOf Try.f7)
noncomputable def c7_10 : Code := cAt [1, 1] (bodyOf Try.f7)
noncomputable def c7_11 : Code := cAt [1, 1, 0] (bodyOf Try.f7)
noncomputable def o7_11 : Array Oper := opsOf c7_11
noncomputable def d7_11_0 : List Oper := o7_11.toList
noncomputable def c7_12 : Code := cAt [1, 1, 1] (bodyOf Try.f7)
theorem w7_0 {pol : Nat → Pol} {cl : CallW} {lp : LoopW} {env : List V} {H : Heap} {Q : KQ} : wC Try.prog pol cl lp c7_0 env H Q = wC Try.prog pol cl lp c7_1 env H (seqK Try.prog pol cl lp c7_2 Q) := wC_seq (by kernel_rfl)
theorem w7_1 {pol : Nat → Pol} {cl : CallW} {lp : LoopW} {env : List V} {H : Heap} {Q : KQ} : wC Try.prog pol cl lp c7_1 env H Q = wOps Try.prog pol cl o7_1 d7_1_0 0 env H (Q .nrm) := wC_reg (i := 0) (by kernel_rfl) rfl
theorem w7_1_0 {pol : Nat → Pol} {cl : CallW} {t0 t1 t2 t3 t4 t5 t6 t7 t8 t9 t10 t11 t12 t13 t14 t15 : V} {H : Heap} {Q : List V → Heap → Prop} : wOps Try.prog pol cl o7_1 d7_1_0 0 [t0, t1, t2, t3, t4, t5, t6, t7, t8, t9, t10, t11, t12, t13, t14, t15] H Q = (
  Q [t0, t1, .nilp, (.int .i64 0), t4, t5, t6, t7, t8, t9, t10, t11, t12, t13, t14, t15] H) := by kernel_rfl
theorem w7_2 {pol : Nat → Pol} {cl : CallW} {lp : LoopW} {env : List V} {H : Heap} {Q : KQ} : wC Try.prog pol cl lp c7_2 env H Q = wC Try.prog pol cl lp c7_3 env H (seqK Try.prog pol cl lp c7_10 Q) := wC_seq (by kernel_rfl)
theorem w7_3 {pol : Nat → Pol} {cl : CallW} {lp : LoopW} {env : List V} {H : Heap} {Q : KQ} : wC Try.prog pol cl lp c7_3 env H Q = wC Try.prog pol cl lp c7_4 env H (seqK Try.prog pol cl lp c7_5 Q) := wC_seq (by kernel_rfl)
theorem w7_4 {pol : Nat → Pol} {cl : CallW} {lp : LoopW} {env : List V} {H : Heap} {Q : KQ} : wC Try.prog pol cl lp c7_4 env H Q = wOps Try.prog pol cl o7_4 d7_4_0 0 env H (Q .nrm) := wC_reg (i := 1) (by kernel_rfl) rfl
theorem w7_4_0 {pol : Nat → Pol} {cl : CallW} {t0 t1 t2 t3 t4 t5 t6 t7 t8 t9 t10 t11 t12 t13 t14 t15 : V} {H : Heap} {Q : List V → Heap → Prop} : wOps Try.prog pol cl o7_4 d7_4_0 0 [t0, t1, t2, t3, t4, t5, t6, t7, t8, t9, t10, t11, t12, t13, t14, t15] H Q = (
  stepW (liftO (evBin Try.prog 3 .lss t0 (.int .i64 1))) H fun v1 H1 =>
  guardW v1 false H1 (fun q => q ⟨t0, [], []⟩) fun v2 H2 =>
  guardW v1 false H2 (outW (liftO (evBin Try.prog 3 .gtr v2 (.int .i64 4096)))) fun v3 H3 =>
  stepW (pickO v1 (.bool true) v3) H3 fun v4 H4 =>
  Q [t0, t1, t2, t3, t0, v1, v1, v2, v3, v4, t10, t11, t12, t13, t14, t15] H4) := by kernel_rfl
theorem w7_5 {pol : Nat → Pol} {cl : CallW} {lp : LoopW} {env : List V} {H : Heap} {Q : KQ} : wC Try.prog pol cl lp c7_5 env H Q = condW (evOperand env (Operand.tmp 9)) (wC Try.prog pol cl lp c7_6 env H Q) (wC Try.prog pol cl lp c7_9 env H Q) := wC_cond (by kernel_rfl)
theorem w7_6 {pol : Nat → Pol} {cl : CallW} {lp : LoopW} {env : List V} {H : Heap} {Q : KQ} : wC Try.prog pol cl lp c7_6 env H Q = wC Try.prog pol cl lp c7_7 env H (seqK Try.prog pol cl lp c7_8 Q) := wC_seq (by kernel_rfl)
theorem w7_7 {pol : Nat → Pol} {cl : CallW} {lp : LoopW} {env : List V} {H : Heap} {Q : KQ} : wC Try.prog pol cl lp c7_7 env H Q = wOps Try.prog pol cl o7_7 d7_7_0 0 env H (Q .nrm) := wC_reg (i := 2) (by kernel_rfl) rfl
theorem w7_7_0 {pol : Nat → Pol} {cl : CallW} {t0 t1 t2 t3 t4 t5 t6 t7 t8 t9 t10 t11 t12 t13 t14 t15 : V} {H : Heap} {Q : List V → Heap → Prop} : wOps Try.prog pol cl o7_7 d7_7_0 0 [t0, t1, t2, t3, t4, t5, t6, t7, t8, t9, t10, t11, t12, t13, t14, t15] H Q = (
  Q [t0, t1, .nilp, (.int .i64 1), t4, t5, t6, t7, t8, t9, t10, t11, t12, t13, t14, t15] H) := by kernel_rfl
theorem w7_8 {pol : Nat → Pol} {cl : CallW} {lp : LoopW} {env : List V} {H : Heap} {Q : KQ} : wC Try.prog pol cl lp c7_8 env H Q = Q .ret env H := wC_ret (by kernel_rfl)
theorem w7_9 {pol : Nat → Pol} {cl : CallW} {lp : LoopW} {env : List V} {H : Heap} {Q : KQ} : wC Try.prog pol cl lp c7_9 env H Q = Q .nrm env H := wC_skip (by kernel_rfl)
theorem w7_10 {pol : Nat → Pol} {cl : CallW} {lp : LoopW} {env : List V} {H : Heap} {Q : KQ} : wC Try.prog pol cl lp c7_10 env H Q = wC Try.prog pol cl lp c7_11 env H (seqK Try.prog pol cl lp c7_12 Q) := wC_seq (by kernel_rfl)
theorem w7_11 {pol : Nat → Pol} {cl : CallW} {lp : LoopW} {env : List V} {H : Heap} {Q : KQ} : wC Try.prog pol cl lp c7_11 env H Q = wOps Try.prog pol cl o7_11 d7_11_0 0 env H (Q .nrm) := wC_reg (i := 3) (by kernel_rfl) rfl
theorem w7_11_0 {pol : Nat → Pol} {cl : CallW} {t0 t1 t2 t3 t4 t5 t6 t7 t8 t9 t10 t11 t12 t13 t14 t15 : V} {H : Heap} {Q : List V → Heap → Prop} : wOps Try.prog pol cl o7_11 d7_11_0 0 [t0, t1, t2, t3, t4, t5, t6, t7, t8, t9, t10, t11, t12, t13, t14, t15] H Q = (
  stepW (liftO (evBuild Try.prog 46 [(0, (.int .i64 (-1))), (1, (.bool false)), (2, (.int .i64 (-1)))])) H fun v1 H1 =>
  stepW (liftO (evBin Try.prog 3 .mul t0 (.int .i64 64))) H1 fun v2 H2 =>
  stepW (evMakeSlice Try.prog H2 13 34 v2 v2) H2 fun v3 H3 =>
  stepW (liftO (evBuild Try.prog 49 [(0, v1), (1, v3), (2, .nils)])) H3 fun v4 H4 =>
  stepW (boxO H4 15 v4) H4 fun v5 H5 =>
  Q [t0, t1, v5, (.int .i64 0), t4, t5, t6, t7, t8, t9, v1, t0, v2, v3, v4, v5] H5) := by kernel_rfl
theorem w7_12 {pol : Nat → Pol} {cl : CallW} {lp : LoopW} {env : List V} {H : Heap} {Q : KQ} : wC Try.prog pol cl lp c7_12 env H Q = Q .ret env H := wC_ret (by kernel_rfl)
end Go.Proofs.Ytcamcfplcoklkaa.Iv

namespace Go.Proofs.Ytcamcfplcoklkaa.Iv
open Go
set_option linter.unusedVariables false
set_option linter.unusedSimpArgs false
set_option maxRecDepth 100000
theorem isT_spec {o : Option (V × Heap)} (h : isT o = 1) : ∃ H', o = some (.bool true, H') := by
  unfold isT at h
  split at h
  · exact ⟨_, rfl⟩
  · cases h
  · cases h
  · cases h
theorem awake_run : ∃ H', run dcfg 400 8 [] (fun _ => none) = some (.bool true, H') := isT_spec t1
theorem awake_call {H : Heap} {d : Nat} {Q : Out → Prop} (q : Q ⟨.bool true, [], []⟩) : wCall dcfg.pol (CallR dcfg) H d 8 [] Q := by
  obtain ⟨H', h⟩ := awake_run
  have e1 : callPre dcfg.pol H 8 [] = some ⟨[], fun _ => none, [], [], []⟩ := by kernel_rfl
  have e2 : callPost dcfg.pol H d 8 ⟨[], fun _ => none, [], [], []⟩ (.bool true) H' = some ⟨.bool true, [], []⟩ := by kernel_rfl
  unfold wCall
  rw [e1]
  refine ⟨400, .bool true, H', h, ?_⟩
  show outW (callPost dcfg.pol H d 8 ⟨[], fun _ => none, [], [], []⟩ (.bool true) H') Q
  rw [e2]
  exact q
theorem awake_callW {H : Heap} {d : Nat} {Q : V → Heap → Prop} (q : Q (.bool true) H) : callW dcfg.pol (CallR dcfg) H d 8 [] Q := awake_call (Q := fun o => Q o.v (H.sets o.ups)) q

/-- long tells, and if it is not so the acts are few and short -/
theorem long_ok {l : List Act4} (hlen : l.length ≤ 9223372036854775807) {H : Heap} {Q : V → Heap → Prop} (hq : ∀ b, (b = false → l.length ≤ 200 ∧ ∀ (j : Nat) a, l[j]? = some a → a.b.length ≤ 200) → Q (.bool b) H) : CallR dcfg 10 [actsV l] H Q := by
  refine CallR.body (K := dcfg) (f := 10) (fn := Try.f10) (c := c10_0) rfl (by kernel_rfl) (by kernel_rfl) (by kernel_rfl) (show 1 ≤ 24 by decide) ?_
  show wC Try.prog dcfg.pol (CallR dcfg) (LoopR dcfg) c10_0 [actsV l, .und, .und, .und, .und, .und, .und, .und, .und, .und, .und, .und, .und, .und, .und, .und, .und, .und, .und, .und, .und, .und, .und, .und] H (wRes Try.prog [.tmp 2] Q)
  simp only [w10_0, w10_1, w10_1_0, w10_2, w10_3, w10_4, w10_4_0, w10_5, w10_6, seqK]
  refine long_loop hlen (fun i t4 t5 t6 t7 t8 t9 t10 t11 t12 t13 t14 t15 t16 t17 t18 t19 t20 t21 t22 t23 hall => ?_) (fun i t4 t5 t6 t7 t8 t9 t10 t11 t12 t13 t14 t15 t16 t17 t18 t19 t20 t21 t22 t23 => ?_) l.length 0 (by omega) (fun j a h => by omega) .und .und .und .und .und .und .und .und .und .und .und .und .und .und .und .und .und .und .und .und
  · simp only [blockK, if_true, seqK, w10_23, w10_24, w10_24_0, w10_25, len22]
    refine mk0 _ (by simp only [actsV, lenS]; rfl) ?_
    refine mk0 _ (bin_gtr ..) ?_
    refine hq _ (fun h => ?_)
    have h2 : l.length ≤ 200 := by
      have := of_decide_eq_false h
      simp at this
      omega
    exact ⟨h2, hall h2⟩
  · exact hq true (fun h => by cases h)
theorem long_callW {l : List Act4} (hlen : l.length ≤ 9223372036854775807) {H : Heap} {d : Nat} {Q : V → Heap → Prop} (hq : ∀ b, (b = false → l.length ≤ 200 ∧ ∀ (j : Nat) a, l[j]? = some a → a.b.length ≤ 200) → Q (.bool b) H) : callW dcfg.pol (CallR dcfg) H d 10 [actsV l] Q := by
  have e1 : callPre dcfg.pol H 10 [actsV l] = some ⟨[actsV l], fun _ => none, [], [], []⟩ := by kernel_rfl
  show wCall dcfg.pol (CallR dcfg) H d 10 [actsV l] (fun o => Q o.v (H.sets o.ups))
  unfold wCall
  rw [e1]
  refine long_ok hlen (fun b hb => ?_)
  show outW (callPost dcfg.pol H d 10 ⟨[actsV l], fun _ => none, [], [], []⟩ (.bool b) (fun _ => none)) _
  have e2 : callPost dcfg.pol H d 10 ⟨[actsV l], fun _ => none, [], [], []⟩ (.bool b) (fun _ => none) = some ⟨.bool b, [], []⟩ := by kernel_rfl
  rw [e2]
  exact hq b hb
end Go.Proofs.Ytcamcfplcoklkaa.Iv

namespace Go.Proofs.Ytcamcfplcoklkaa.Iv
open Go
set_option linter.unusedVariables false
set_option linter.unusedSimpArgs false
set_option maxRecDepth 100000

theorem rep_cb (n : Nat) : rep n [V.int .u8 0] = cellsB (List.replicate n 0) := by
  induction n with
  | zero => rfl
  | succ n ih =>
    unfold rep cellsB at ih ⊢
    simp only [List.replicate_succ, List.flatten_cons, List.map_cons, ih]
    rfl
theorem mkslice {H : Heap} {n : Nat} (hn : n ≤ 1000000) : evMakeSlice Try.prog H 13 34 (.int .i64 (n : Int)) (.int .i64 (n : Int)) = some ⟨.sl (.own 13) (nextGen H (.own 13)) 0 n 1 none, [(.own 13, ⟨nextGen H (.own 13), cellsB (List.replicate n 0), false, true⟩)], [.own 13]⟩ := by
  unfold evMakeSlice
  simp only [u34b, sz5, by5, z5, Int.toNat_natCast, rep_cb]
  have c : (0 : Int) ≤ (n : Int) ∧ (n : Int) ≤ (n : Int) ∧ (n : Int) < 4611686018427387904 ∧ 1 * n ≤ lim47 ∧ 0 < 1 ∧ [V.int IntKind.u8 0].length = 1 ∧ [V.int IntKind.u8 0].all V.plain = true := ⟨by omega, by omega, by omega, by unfold lim47; omega, by omega, rfl, rfl⟩
  rw [if_pos c]
/-- a new disk, as plain data -/
def PD.new (N : Nat) : PD := ⟨-1, false, -1, List.replicate (N * 64) 0, []⟩
theorem new_spec {N : Nat} (h1 : 1 ≤ N) (h2 : N ≤ 4096) {Q : V → Heap → Prop} (hQ : ∀ H', H' (.own 15) = some ⟨0, [.int .i64 (-1), .bool false, .int .i64 (-1), .sl (.own 13) 0 0 (N * 64) 1 none, .nils], false, false⟩ → H' (.own 13) = some ⟨0, cellsB (List.replicate (N * 64) 0), false, true⟩ → Q (.tup [.ptr (.own 15) 0 0, .int .i64 0]) H') : CallR dcfg 7 [.int .i64 (N : Int)] (fun _ => none) Q := by
  refine CallR.body' (K := dcfg) (f := 7) (fn := Try.f7) (c := c7_0) (env := [.int .i64 (N : Int), .und, .und, .und, .und, .und, .und, .und, .und, .und, .und, .und, .und, .und, .und, .und]) (rs := [.tmp 2, .tmp 3]) rfl (by kernel_rfl) (by kernel_rfl) (by kernel_rfl) (by kernel_rfl) (by kernel_rfl) (by kernel_rfl) ?_
  show wC Try.prog dcfg.pol (CallR dcfg) (LoopR dcfg) c7_0 _ _ _
  simp only [w7_0, w7_1, w7_1_0, w7_2, w7_3, w7_4, w7_4_0, w7_5, seqK]
  refine mk0 _ (bin_lss ..) ?_
  rw [decide_eq_false (by omega)]
  refine gp (gy0 (.bool false) (by rw [bin_gtr, decide_eq_false (by omega)]) (mk0 (.bool false) (by rfl) ?_))
  refine condF ?_
  simp only [w7_9, w7_10, w7_11, w7_11_0, w7_12, seqK]
  refine mk0 (.agg [.int .i64 (-1), .bool false, .int .i64 (-1)]) (by kernel_rfl) ?_
  refine mk0 _ (bin_mul (by omega) (by omega)) ?_
  have e : ((N : Int) * 64) = ((N * 64 : Nat) : Int) := by omega
  rw [e]
  refine mk _ _ _ (mkslice (by omega)) ?_
  refine mk0 (.agg [.int .i64 (-1), .bool false, .int .i64 (-1), .sl (.own 13) 0 0 (N * 64) 1 none, .nils]) (by kernel_rfl) ?_
  refine mk (.ptr (.own 15) 0 0) [(.own 15, ⟨0, [.int .i64 (-1), .bool false, .int .i64 (-1), .sl (.own 13) 0 0 (N * 64) 1 none, .nils], false, false⟩)] [.own 15] (by kernel_rfl) ?_
  exact hQ _ (by kernel_rfl) (by kernel_rfl)
theorem new_call {H : Heap} {d N : Nat} (h1 : 1 ≤ N) (h2 : N ≤ 4096) {Q : Out → Prop} (hQ : ∀ gd gk rd, Q ⟨.tup [.ptr (.sub d (.own 15)) gd 0, .int .i64 0], [(.sub d (.own 15), ⟨gd, [.int .i64 (-1), .bool false, .int .i64 (-1), .sl (.sub d (.own 13)) gk 0 (N * 64) 1 none, .nils], false, false⟩), (.sub d (.own 13), ⟨gk, cellsB (List.replicate (N * 64) 0), false, true⟩)], rd⟩) : wCall dcfg.pol (CallR dcfg) H d 7 [.int .i64 (N : Int)] Q := by
  have e1 : callPre dcfg.pol H 7 [.int .i64 (N : Int)] = some ⟨[.int .i64 (N : Int)], fun _ => none, [], [], []⟩ := by kernel_rfl
  unfold wCall
  rw [e1]
  refine new_spec h1 h2 (fun H' a15 a13 => ?_)
  have l15 : live H' (.own 15) 0 = some ⟨0, [.int .i64 (-1), .bool false, .int .i64 (-1), .sl (.own 13) 0 0 (N * 64) 1 none, .nils], false, false⟩ := by simp [live, a15]
  have l13 : live H' (.own 13) 0 = some ⟨0, cellsB (List.replicate (N * 64) 0), false, true⟩ := by simp [live, a13]
  have c : collect H' 200 [(.own 15, 0)] [] = some [.own 15, .own 13] := by simp [collect, l15, l13, refsL, refs]
  have ho : (dcfg.pol 7).own = false := by kernel_rfl
  have hret : retIn (dcfg.pol 7).own H' (.tup [.ptr (.own 15) 0 0, .int .i64 0]) = some (.tup [.ptr (.own 15) 0 0, .int .i64 0], []) := by rw [ho]; rfl
  have e2 : callPost dcfg.pol H d 7 ⟨[.int .i64 (N : Int)], fun _ => none, [], [], []⟩ (.tup [.ptr (.own 15) 0 0, .int .i64 0]) H' = some ⟨.tup [.ptr (.sub d (.own 15)) (nextGen H (.sub d (.own 15)) + 0) 0, .int .i64 0], [(.sub d (.own 15), ⟨nextGen H (.sub d (.own 15)) + 0, [.int .i64 (-1), .bool false, .int .i64 (-1), .sl (.sub d (.own 13)) (nextGen H (.sub d (.own 13)) + 0) 0 (N * 64) 1 none, .nils], false, false⟩), (.sub d (.own 13), ⟨nextGen H (.sub d (.own 13)) + 0, cellsB (List.replicate (N * 64) 0), false, true⟩)], [.sub d (.own 15), .sub d (.own 13)]⟩ := by
    unfold callPost
    rw [hret]
    have hn1 : newName d [] (.own 15) = .sub d (.own 15) := rfl
    have hn2 : newName d [] (.own 13) = .sub d (.own 13) := rfl
    simp [hn1, hn2, Id.alt, Heap.sets, refs, refsL, argIds, c, backUps, backName, a15, a13, outKept, V.keptR, V.kept, V.kept0, freshSubs, renIfV, ren, renL, backRen]
  show outW (callPost dcfg.pol H d 7 ⟨[.int .i64 (N : Int)], fun _ => none, [], [], []⟩ (.tup [.ptr (.own 15) 0 0, .int .i64 0]) H') Q
  rw [e2]
  exact hQ _ _ _
/-- the sectors of an image, as strings -/
def secS (ks : List Int) (i : Nat) : List UInt8 := toStr ((ks.take ((i + 1) * 64)).drop (i * 64))
def secsV (ks : List Int) (n : Nat) : List V := (List.range n).map fun i => V.str (secS ks i)
theorem secsV_len (ks : List Int) (n : Nat) : (secsV ks n).length = n := by simp [secsV]
theorem secsV_succ (ks : List Int) (n : Nat) : secsV ks (n + 1) = secsV ks n ++ [V.str (secS ks n)] := by simp [secsV, List.range_succ]
theorem u38s : Try.prog.underlying 38 = some (.slice 9) := by kernel_rfl
theorem sz9 : szOf Try.prog 9 = some 1 := by kernel_rfl
theorem by9 : byOf Try.prog 9 = some 16 := by kernel_rfl
theorem z9 : zOf Try.prog 9 = some [.str []] := by kernel_rfl
/-- the list as it grows -/
def OutR (H : Heap) (x : V) (cs : List V) : Prop := (x = .nils ∧ cs = []) ∨ ∃ g, x = .sl (.own 23) g 0 cs.length 1 none ∧ H (.own 23) = some ⟨g, cs, false, true⟩
theorem app_str {H : Heap} {x : V} {cs : List V} {s : List UInt8} {gg : Nat} (h : OutR H x cs) (h2 : H (.own 22) = some ⟨gg, [.str s], false, true⟩) (hl : cs.length ≤ 1000000) : ∃ y g rd, evAppend Try.prog H 23 38 38 x (.sl (.own 22) gg 0 1 1 (some 1)) = some ⟨y, [(.own 23, ⟨g, cs ++ [.str s], false, true⟩)], rd⟩ ∧ y = .sl (.own 23) g 0 (cs ++ [V.str s]).length 1 none := by
  have l2 : live H (.own 22) gg = some ⟨gg, [.str s], false, true⟩ := by simp [live, h2]
  have hs : appSrc Try.prog H 1 [.str []] 38 (.sl (.own 22) gg 0 1 1 (some 1)) = some ([.str s], 1, true, [.own 22]) := by
    simp only [appSrc, u38s, src, l2]
    rfl
  rcases h with ⟨rfl, rfl⟩ | ⟨g, rfl, h1⟩
  · refine ⟨_, nextGen H (.own 23), [.own 23, .own 22], ?_, rfl⟩
    unfold evAppend
    simp only [u38s, sz9, by9, z9, hs]
    simp [lim47]
  · have l1 : live H (.own 23) g = some ⟨g, cs, false, true⟩ := by simp [live, h1]
    have c1 : (cs.length + 1) * 16 ≤ lim47 := by unfold lim47; omega
    have c2 : cut cs 0 cs.length = some cs := cut_all cs
    refine ⟨_, g + 1, [.own 23, .own 22], ?_, rfl⟩
    unfold evAppend
    simp only [u38s, sz9, by9, z9, hs, l1]
    simp [c1, c2]
end Go.Proofs.Ytcamcfplcoklkaa.Iv

namespace Go.Proofs.Ytcamcfplcoklkaa.Iv
open Go
set_option linter.unusedVariables false
set_option linter.unusedSimpArgs false
set_option maxRecDepth 100000

theorem cut_cbo {ks : List Int} {l h : Nat} (h1 : l ≤ h) (h2 : h ≤ ks.length) : cut (cellsB ks) (0 + l * 1) ((h - l) * 1) = some (cellsB ((ks.take h).drop l)) := by
  have e : ((cellsB ks).drop l).take (h - l) = cellsB ((ks.take h).drop l) := by
    simp [cellsB, List.map_take, List.map_drop, List.drop_take]
  unfold cut
  rw [Nat.mul_one, Nat.mul_one, Nat.zero_add, e]
  have e2 : (cellsB ((ks.take h).drop l)).length = h - l := by rw [cellsB_len]; simp; omega
  exact if_pos e2
theorem conv_off {H : Heap} {i : Id} {g : Nat} {ks : List Int} {l h : Nat} {lim : Option Nat} (hh : H i = some ⟨g, cellsB ks, false, true⟩) (h1 : l ≤ h) (h2 : h ≤ ks.length) : evConvert Try.prog H 34 9 (.sl i g (0 + l * 1) (h - l) 1 lim) = some ⟨.str (toStr ((ks.take h).drop l)), [], [i]⟩ := by
  have l1 : live H i g = some ⟨g, cellsB ks, false, true⟩ := by simp [live, hh]
  unfold evConvert
  simp only [u34b, u9s, u5i, srcS, src, l1, cut_cbo h1 h2, if_true, toBytes_cb]
theorem image_vcall {H : Heap} {d : Nat} {l b : Int} {g : Bool} {ks : List Int} {q : V} (hn : ks ≠ []) (hb : ks.length < 1048576) {Q : Out → Prop}
    (hQ : ∀ gi rd, Q ⟨.sl (.sub d (.sub 9 (.own 7))) gi 0 ks.length 1 none, [(.sub d (.sub 9 (.own 7)), ⟨gi, cellsB ks, false, true⟩)], rd⟩) : wCall dcfg.pol (CallR dcfg) H d 16 [vD l g b (bytesL ks) q] Q := by
  have e1 : callPre dcfg.pol H 16 [vD l g b (bytesL ks) q] = some ⟨[vD l g b (bytesL ks) q], fun _ => none, [], [], []⟩ := by kernel_rfl
  unfold wCall
  rw [e1]
  refine image_spec hn hb ?_
  have e2 : callPost dcfg.pol H d 16 ⟨[vD l g b (bytesL ks) q], fun _ => none, [], [], []⟩ (.sl (.sub 9 (.own 7)) 0 0 ks.length 1 none) (Heap.sets (fun _ => none) [(.sub 9 (.own 7), ⟨0, cellsB ks, false, true⟩)]) =
      some ⟨.sl (.sub d (.sub 9 (.own 7))) (nextGen H (.sub d (.sub 9 (.own 7))) + 0) 0 ks.length 1 none, [(.sub d (.sub 9 (.own 7)), ⟨nextGen H (.sub d (.sub 9 (.own 7))) + 0, cellsB ks, false, true⟩)], [.sub d (.sub 9 (.own 7))]⟩ := by kernel_rfl
  show outW (callPost dcfg.pol H d 16 ⟨[vD l g b (bytesL ks) q], fun _ => none, [], [], []⟩ (.sl (.sub 9 (.own 7)) 0 0 ks.length 1 none) (Heap.sets (fun _ => none) [(.sub 9 (.own 7), ⟨0, cellsB ks, false, true⟩)])) Q
  rw [e2]
  exact hQ _ _
theorem mkstr {H : Heap} {s : List UInt8} : evBuildSlice Try.prog H 22 38 1 [(0, .str s)] = some ⟨.sl (.own 22) (nextGen H (.own 22)) 0 1 1 (some 1), [(.own 22, ⟨nextGen H (.own 22), [.str s], false, true⟩)], [.own 22]⟩ := by kernel_rfl
theorem sec_loop {l b : Int} {g : Bool} {ks : List Int} {q : V} {N : Nat} (hks : ks.length = N * 64) (hN : N ≤ 4096) {gi : Nat} {Q : KQ}
    (hx : ∀ (H' : Heap) (x : V) t1 t6 t7 t8 t9 t10 t11 t12 t13 t14 t15 t16 t17 t18 t19 t20 t21 t22 t23 t24, OutR H' x (secsV ks N) → Q (.exit 0) [vD l g b (bytesL ks) q, t1, .nils, x, .sl (.sub 7 (.sub 9 (.own 7))) gi 0 ks.length 1 none, .int .i64 ((N * 64 : Nat) : Int), t6, t7, t8, t9, t10, t11, t12, t13, t14, t15, t16, t17, t18, t19, t20, t21, t22, t23, t24] H') :
    ∀ (k i : Nat), i + k = N → ∀ (H : Heap) (x : V) t1 t6 t7 t8 t9 t10 t11 t12 t13 t14 t15 t16 t17 t18 t19 t20 t21 t22 t23 t24, H (.sub 7 (.sub 9 (.own 7))) = some ⟨gi, cellsB ks, false, true⟩ → OutR H x (secsV ks i) → LoopR dcfg c18_11 [vD l g b (bytesL ks) q, t1, .nils, x, .sl (.sub 7 (.sub 9 (.own 7))) gi 0 ks.length 1 none, .int .i64 ((i * 64 : Nat) : Int), t6, t7, t8, t9, t10, t11, t12, t13, t14, t15, t16, t17, t18, t19, t20, t21, t22, t23, t24] H Q := by
  intro k
  induction k with
  | zero =>
    intro i hi H x t1 t6 t7 t8 t9 t10 t11 t12 t13 t14 t15 t16 t17 t18 t19 t20 t21 t22 t23 t24 h1 h2
    have hi2 : i = N := by omega
    subst hi2
    refine LoopR.step ?_
    show wC Try.prog dcfg.pol (CallR dcfg) (LoopR dcfg) c18_11 _ H _
    simp only [w18_11, w18_12, w18_13, w18_13_0, w18_14, w18_15, w18_16, seqK, len34b]
    refine mk0 _ (bin_add (by omega) (by omega)) ?_
    refine mk0 (.int .i64 (ks.length : Int)) (by rfl) ?_
    refine mk0 (.bool false) (by rw [bin_leq, decide_eq_false (by omega)]) ?_
    refine condF ?_
    exact hx _ _ _ _ _ _ _ _ _ _ _ _ _ _ _ _ _ _ _ _ _ _ h2
  | succ k ih =>
    intro i hi H x t1 t6 t7 t8 t9 t10 t11 t12 t13 t14 t15 t16 t17 t18 t19 t20 t21 t22 t23 t24 h1 h2
    refine LoopR.step ?_
    show wC Try.prog dcfg.pol (CallR dcfg) (LoopR dcfg) c18_11 _ H _
    simp only [w18_11, w18_12, w18_13, w18_13_0, w18_14, w18_15, w18_16, w18_17, w18_18, w18_19, w18_19_0, w18_20, w18_20_0, seqK, blockK, len34b]
    have e64 : (((i * 64 : Nat) : Int) + 64) = (((i + 1) * 64 : Nat) : Int) := by omega
    refine mk0 (.int .i64 (((i + 1) * 64 : Nat) : Int)) (by rw [bin_add (by omega) (by omega), e64]) ?_
    refine mk0 (.int .i64 (ks.length : Int)) (by rfl) ?_
    refine mk0 (.bool true) (by rw [bin_leq, decide_eq_true (by omega)]) ?_
    refine condT ?_
    refine mk0 (.int .i64 (((i + 1) * 64 : Nat) : Int)) (by rw [bin_add (by omega) (by omega), e64]) ?_
    refine mk0 _ (slice34 (by omega) (by omega)) ?_
    refine mk _ _ _ (conv_off h1 (by omega) (by omega)) ?_
    refine mk _ _ _ mkstr ?_
    simp only [sets_nilE]
    generalize hg2 : nextGen H (.own 22) = g2
    have a22 : (Heap.sets H [(.own 22, ⟨g2, [V.str (toStr ((ks.take ((i + 1) * 64)).drop (i * 64)))], false, true⟩)]) (.own 22) = some ⟨g2, [V.str (toStr ((ks.take ((i + 1) * 64)).drop (i * 64)))], false, true⟩ := by simp [Heap.sets, Heap.set]
    have h3 : OutR (Heap.sets H [(.own 22, ⟨g2, [V.str (toStr ((ks.take ((i + 1) * 64)).drop (i * 64)))], false, true⟩)]) x (secsV ks i) := by
      rcases h2 with h2 | ⟨g, e1, e2⟩
      · exact .inl h2
      · exact .inr ⟨g, e1, by simp [Heap.sets, Heap.set]; exact e2⟩
    have h4 : (Heap.sets H [(.own 22, ⟨g2, [V.str (toStr ((ks.take ((i + 1) * 64)).drop (i * 64)))], false, true⟩)]) (.sub 7 (.sub 9 (.own 7))) = some ⟨gi, cellsB ks, false, true⟩ := by simp [Heap.sets, Heap.set]; exact h1
    generalize Heap.sets H [(.own 22, ⟨g2, [V.str (toStr ((ks.take ((i + 1) * 64)).drop (i * 64)))], false, true⟩)] = H2 at a22 h3 h4 ⊢
    obtain ⟨y, g3, rd, hap, hy⟩ := app_str h3 a22 (by rw [secsV_len]; omega)
    refine mk _ _ _ hap ?_
    refine mk0 (.int .i64 (((i + 1) * 64 : Nat) : Int)) (by rw [bin_add (by omega) (by omega), e64]) ?_
    have e5 : secsV ks i ++ [V.str (toStr ((ks.take ((i + 1) * 64)).drop (i * 64)))] = secsV ks (i + 1) := (secsV_succ ks i).symm
    rw [e5] at hy ⊢
    exact ih (i + 1) (by omega) _ y _ _ _ _ _ _ _ _ _ _ _ _ _ _ _ _ _ _ _ _ (by simp [Heap.sets, Heap.set]; exact h4) (.inr ⟨g3, hy, by simp [Heap.sets, Heap.set]⟩)
/-- sectors, of a disk that is looked at -/
theorem secs_spec {l b : Int} {g : Bool} {ks : List Int} {q : V} {N : Nat} (hks : ks.length = N * 64) (hN1 : 1 ≤ N) (hN : N ≤ 4096) {Q : V → Heap → Prop} (hQ : ∀ (H' : Heap) g, H' (.own 23) = some ⟨g, secsV ks N, false, true⟩ → Q (.sl (.own 23) g 0 N 1 none) H') : CallR dcfg 18 [vD l g b (bytesL ks) q] (fun _ => none) Q := by
  refine CallR.body' (K := dcfg) (f := 18) (fn := Try.f18) (c := c18_0) (env := [vD l g b (bytesL ks) q, .und, .und, .und, .und, .und, .und, .und, .und, .und, .und, .und, .und, .und, .und, .und, .und, .und, .und, .und, .und, .und, .und, .und, .und]) (rs := [.tmp 2]) rfl (by kernel_rfl) (by kernel_rfl) (by kernel_rfl) (by kernel_rfl) (by kernel_rfl) (by kernel_rfl) ?_
  show wC Try.prog dcfg.pol (CallR dcfg) (LoopR dcfg) c18_0 _ _ _
  simp only [w18_0, w18_1, w18_1_0, w18_2, w18_3, w18_3_0, w18_4, w18_5, w18_5_0, w18_6, w18_7, w18_8, w18_8_0, w18_9, w18_10, seqK]
  refine image_vcall (Q := fun o => _) (fun e => by rw [e] at hks; simp at hks; omega) (by omega) (fun gi rd => ?_)
  refine sec_loop (i := 0) (k := N) hks hN (fun H' x t1 t6 t7 t8 t9 t10 t11 t12 t13 t14 t15 t16 t17 t18 t19 t20 t21 t22 t23 t24 hO => ?_) (by omega) _ _ _ _ _ _ _ _ _ _ _ _ _ _ _ _ _ _ _ _ _ _ (by simp [Heap.sets, Heap.set]) (.inl ⟨rfl, rfl⟩)
  simp only [w18_21, w18_22, w18_22_0, w18_23, seqK, blockK, if_true]
  rcases hO with ⟨_, e⟩ | ⟨g, e1, e2⟩
  · have := congrArg List.length e; rw [secsV_len] at this; simp at this; omega
  · have := hQ H' g e2
    rw [secsV_len] at e1
    subst e1
    exact this
/-- sectors, at a frame -/
theorem secs_call {H : Heap} {D K : Id} {gd gk : Nat} {qn : Option (Id × Nat)} {p : PD} {N : Nat} (h : PDF H D K gd gk qn p) (hp : p.ok N) {d : Nat} {Q : Out → Prop}
    (hQ : ∀ gg rd, Q ⟨.sl (.sub d (.own 23)) gg 0 N 1 none, [(.sub d (.own 23), ⟨gg, secsV p.ks N, false, true⟩)], rd⟩) : wCall dcfg.pol (CallR dcfg) H d 18 [.ptr D gd 0] Q := by
  have hm : (dcfg.pol 18).modes = [.view] := by kernel_rfl
  have ho : (dcfg.pol 18).own = true := by kernel_rfl
  have e1 : callPre dcfg.pol H 18 [.ptr D gd 0] = some ⟨[vD p.l p.g p.b (bytesL p.ks) (qView qn p.items)], fun _ => none, [], [], D :: K :: qRd qn⟩ := by
    unfold callPre
    rw [hm]
    simp only [argsIn, List.headD, argIn, view_F h, List.tail, List.append_nil, List.nil_append]
    cases qn <;> rfl
  unfold wCall
  rw [e1]
  refine secs_spec hp.len (by have := hp.pos; omega) (by have := hp.le; omega) (fun H' g hH => ?_)
  have l1 : live H' (.own 23) g = some ⟨g, secsV p.ks N, false, true⟩ := by simp [live, hH]
  have c : collect H' 200 [(.own 23, g)] [] = some [.own 23] := by simp [collect, l1]
  have e2 : callPost dcfg.pol H d 18 ⟨[vD p.l p.g p.b (bytesL p.ks) (qView qn p.items)], fun _ => none, [], [], D :: K :: qRd qn⟩ (.sl (.own 23) g 0 N 1 none) H' =
      some ⟨.sl (.sub d (.own 23)) (nextGen H (.sub d (.own 23)) + g) 0 N 1 none, [(.sub d (.own 23), ⟨nextGen H (.sub d (.own 23)) + g, secsV p.ks N, false, true⟩)], (D :: K :: qRd qn) ++ [] ++ [.sub d (.own 23)]⟩ := by
    unfold callPost
    rw [ho]
    have hn1 : newName d [] (.own 23) = .sub d (.own 23) := rfl
    simp [hn1, Id.alt, retIn, Heap.sets, refs, refsL, argIds, c, backUps, backName, hH, outKept, V.keptR, V.kept, V.kept0, freshSubs, renIfV, ren, renL, backRen]
  show outW (callPost dcfg.pol H d 18 ⟨[vD p.l p.g p.b (bytesL p.ks) (qView qn p.items)], fun _ => none, [], [], D :: K :: qRd qn⟩ (.sl (.own 23) g 0 N 1 none) H') Q
  rw [e2]
  exact hQ _ _
end Go.Proofs.Ytcamcfplcoklkaa.Iv

namespace Go.Proofs.Ytcamcfplcoklkaa.Iv
open Go
set_option linter.unusedVariables false
/-! ### the plain disk: what an act leaves -/
theorem putI_len {ks : List Int} {x : Nat × List Int} (h : x.1 * 64 + x.2.length ≤ ks.length) : (putI ks x).length = ks.length := by
  simp [putI]; omega
theorem settledI_len : ∀ {l : List (Nat × List Int)} {ks : List Int}, (∀ x ∈ l, (x.1 + 1) * 64 ≤ ks.length ∧ x.2.length ≤ 64) → (settledI ks l).length = ks.length
  | [], ks, _ => rfl
  | x :: r, ks, h => by
    have h1 := h x (by simp)
    have e := putI_len (ks := ks) (x := x) (by omega)
    have := settledI_len (l := r) (ks := putI ks x) (fun y hy => by rw [e]; exact h y (by simp [hy]))
    simp only [settledI, List.foldl_cons] at this ⊢
    rw [this, e]
theorem lastI_len {items : List (Nat × List Int)} {ks : List Int} {kn : Nat} {torn : Int} (h : ∀ x ∈ items, (x.1 + 1) * 64 ≤ ks.length ∧ x.2.length = 64) : (lastI ks items kn torn).length = ks.length := by
  have e : (settledI ks (items.take kn)).length = ks.length := settledI_len (fun x hx => by have := h x (List.mem_of_mem_take hx); exact ⟨this.1, by omega⟩)
  unfold lastI
  cases hi : items[kn]? with
  | none => exact e
  | some x =>
    have h1 := h x (List.mem_of_getElem? hi)
    simp only
    rw [putI_len, e]
    rw [e]
    simp; omega
theorem PD.ok.it' {p : PD} {N : Nat} (h : p.ok N) : ∀ x ∈ p.items, (x.1 + 1) * 64 ≤ p.ks.length ∧ x.2.length = 64 := fun x hx => by
  have := h.it x hx
  rw [h.len]; exact ⟨by omega, this.2⟩
theorem PD.ok.it2 {p : PD} {N : Nat} (h : p.ok N) : ∀ x ∈ p.items, (x.1 + 1) * 64 ≤ p.ks.length ∧ x.2.length ≤ 64 := fun x hx => by
  have := h.it' x hx
  exact ⟨this.1, by omega⟩
theorem PD.ok.write {p : PD} {N : Nat} (h : p.ok N) (hf : p.items.length < 999999) (n : Int) (bs : List Int) : (p.write n bs).1.ok N ∧ (p.write n bs).1.items.length ≤ p.items.length + 1 := by
  have hn := h.n
  unfold PD.write
  split
  · exact ⟨h, by simp⟩
  · rename_i h1
    split
    · exact ⟨⟨h.len, h.pos, h.le, h.few, h.it⟩, by simp⟩
    · split
      · exact ⟨⟨h.len, h.pos, h.le, h.few, h.it⟩, by simp⟩
      · refine ⟨⟨h.len, h.pos, h.le, by simp; omega, fun x hx => ?_⟩, by simp⟩
        rw [List.mem_append, List.mem_singleton] at hx
        rcases hx with hx | rfl
        · exact h.it x hx
        · have h1 := Classical.not_not.1 h1
          rw [hn] at h1
          exact ⟨by omega, h1.2⟩
theorem PD.ok.sync {p : PD} {N : Nat} (h : p.ok N) : p.sync.1.ok N ∧ p.sync.1.items.length ≤ p.items.length := by
  unfold PD.sync
  split
  · exact ⟨⟨h.len, h.pos, h.le, h.few, h.it⟩, by simp⟩
  · exact ⟨⟨by rw [← h.len]; exact settledI_len h.it2, h.pos, h.le, by simp, fun x hx => by cases hx⟩, by simp⟩
theorem PD.ok.crash {p : PD} {N : Nat} (h : p.ok N) (k t : Int) : (p.crash k t).ok N :=
  ⟨by rw [← h.len]; exact lastI_len h.it', h.pos, h.le, by simp [PD.crash], fun x hx => by cases hx⟩
theorem PD.ok.did {p : PD} {N : Nat} (h : p.ok N) (hf : p.items.length < 999999) (a : Act4) : (p.did a).1.ok N ∧ (p.did a).1.items.length ≤ p.items.length + 1 := by
  unfold PD.did
  split
  · exact ⟨h, by simp⟩
  split
  · exact h.write hf _ _
  split
  · have := h.sync; exact ⟨this.1, Nat.le_succ_of_le this.2⟩
  split
  · exact ⟨⟨h.len, h.pos, h.le, h.few, h.it⟩, by simp⟩
  split
  · exact ⟨⟨h.len, h.pos, h.le, h.few, h.it⟩, by simp⟩
  split
  · exact ⟨h.crash _ _, by simp [PD.crash]⟩
  · exact ⟨h, by simp⟩
/-- while a disk is dark nothing does anything, but a crash -/
theorem PD.did_dark {p : PD} (hg : p.g = true) {a : Act4} (h5 : a.d ≠ 5) : (p.did a).1.ks = p.ks ∧ (p.did a).1.items = p.items ∧ (p.did a).1.g = true ∧ (0 ≤ a.d → a.d ≤ 2 → (p.did a).2.2 = 11 ∨ (p.did a).2.2 = 1) := by
  unfold PD.did
  split
  · refine ⟨rfl, rfl, hg, fun _ _ => ?_⟩
    unfold PD.read
    split
    · exact .inr rfl
    · exact .inl rfl
  split
  · unfold PD.write
    split
    · exact ⟨rfl, rfl, hg, fun _ _ => .inr rfl⟩
    · rw [if_pos (by rw [hg]; rfl)]
      exact ⟨rfl, rfl, rfl, fun _ _ => .inl rfl⟩
  split
  · unfold PD.sync
    rw [if_pos (by rw [hg]; rfl)]
    exact ⟨rfl, rfl, rfl, fun _ _ => .inl rfl⟩
  split
  · exact ⟨rfl, rfl, hg, fun h0 h2 => by omega⟩
  split
  · exact ⟨rfl, rfl, hg, fun h0 h2 => by omega⟩
  exact ⟨rfl, rfl, hg, fun h0 h2 => by omega⟩
end Go.Proofs.Ytcamcfplcoklkaa.Iv

namespace Go.Proofs.Ytcamcfplcoklkaa.Iv
open Go
set_option linter.unusedVariables false
set_option linter.unusedSimpArgs false
set_option maxRecDepth 100000
theorem gcall {pol : Nat → Pol} {cl : CallW} {H : Heap} {d f : Nat} {args : List V} {Q : V → Heap → Prop} {b : Bool} (h : wCall pol cl H d f args (fun o => Q o.v (H.sets o.ups))) : guardW (.bool b) b H (wCall pol cl H d f args) Q := by cases b <;> exact h
theorem bin_sneq {P : Program} {t : Nat} {a b : List UInt8} : liftO (evBin P t .neq (.str a) (.str b)) = pureO (.bool (!(a == b))) := rfl
theorem bin_seql {P : Program} {t : Nat} {a b : List UInt8} : liftO (evBin P t .eql (.str a) (.str b)) = pureO (.bool (a == b)) := rfl
theorem act_keep {H : Heap} {a : Act4} {i : Id} {g : Nat} : argsIn H (dcfg.pol 12).modes [.ptr i g 0, .agg (actV a)] = some ([.ptr i g 0, .agg (actV a)], [], []) := by kernel_rfl
section
variable {o : Option Out} {H : Heap} {lg : Log} {k : Nat} {Q : V → Heap → Log → Prop}
theorem gpL {b : Bool} {o : Out} (q : Q o.v (H.sets o.ups) ((k, o.rd, o.ups.map (·.1)) :: lg)) : guardL (.bool b) b H lg k (fun q => q o) Q := by cases b <;> exact q
theorem gyL {b : Bool} (v : V) (us : List (Id × Blk)) (rd : List Id) (h : o = some ⟨v, us, rd⟩) (q : Q v (H.sets us) ((k, rd, us.map (·.1)) :: lg)) : guardL (.bool b) b H lg k (outW o) Q := by subst h; cases b <;> exact q
end
theorem len38 {x} : evLen Try.prog 38 x = lenS x := by cases x <;> kernel_rfl
theorem ia38 {x i} : evIndexAddr Try.prog 38 x i = iaR 1 x i := by kernel_rfl
theorem ld9 {H x} : evLoad Try.prog H 9 x = ldR 1 false H x := by kernel_rfl
theorem ia_sl {i : Id} {g n j : Nat} {lim : Option Nat} (h : j < n) : iaR 1 (.sl i g 0 n 1 lim) (.int .i64 (j : Int)) = pureO (.ptr i g (0 + j * 1)) := by
  simp [iaR, h]
theorem ld_at {H : Heap} {i : Id} {g j : Nat} {cs : List V} {fz fl : Bool} {v : V} (h : H i = some ⟨g, cs, fz, fl⟩) (hv : cs[j]? = some v) : ldR 1 false H (.ptr i g (0 + j * 1)) = some ⟨v, [], [i]⟩ := by
  have l1 : live H i g = some ⟨g, cs, fz, fl⟩ := by simp [live, h]
  have c : cut cs (0 + j * 1) 1 = some [v] := by
    obtain ⟨h1, h2⟩ := List.getElem?_eq_some_iff.1 hv
    unfold cut
    rw [Nat.mul_one, Nat.zero_add, List.drop_eq_getElem_cons h1, h2]
    simp
  unfold ldR
  simp only [l1, c, mkv]
theorem secsV_at {ks : List Int} {n j : Nat} (h : j < n) : (secsV ks n)[j]? = some (.str (secS ks j)) := by simp [secsV, h]
theorem lastI_nil {ks : List Int} {kn : Nat} {t : Int} : lastI ks [] kn t = ks := by simp [lastI, settledI]
end Go.Proofs.Ytcamcfplcoklkaa.Iv

namespace Go.Proofs.Ytcamcfplcoklkaa.Iv
open Go
set_option linter.unusedVariables false
set_option linter.unusedSimpArgs false
set_option maxRecDepth 100000
/-! ### sectors of an image, behind a write -/
def seg (ks : List Int) (i : Nat) : List Int := (ks.take ((i + 1) * 64)).drop (i * 64)
theorem seg_get {ks : List Int} {i j : Nat} : (seg ks i)[j]? = if j < 64 then ks[i * 64 + j]? else none := by
  unfold seg
  rw [List.getElem?_drop, List.getElem?_take]
  by_cases h : j < 64
  · rw [if_pos h, if_pos (by omega)]
  · rw [if_neg h, if_neg (by omega)]
theorem putI_get {ks : List Int} {x : Nat × List Int} (h : x.1 * 64 + x.2.length ≤ ks.length) {m : Nat} : (putI ks x)[m]? = if x.1 * 64 ≤ m ∧ m < x.1 * 64 + x.2.length then x.2[m - x.1 * 64]? else ks[m]? := by
  unfold putI
  have l1 : (ks.take (x.1 * 64)).length = x.1 * 64 := by simp; omega
  rw [List.append_assoc]
  by_cases h1 : m < x.1 * 64
  · rw [List.getElem?_append_left (by omega), if_neg (by omega), List.getElem?_take, if_pos h1]
  · rw [List.getElem?_append_right (by omega), l1]
    by_cases h2 : m < x.1 * 64 + x.2.length
    · rw [List.getElem?_append_left (by omega), if_pos ⟨by omega, h2⟩]
    · rw [List.getElem?_append_right (by omega), if_neg (by omega), List.getElem?_drop]
      congr 1; omega
theorem seg_putI {ks : List Int} {N n i : Nat} {b : List Int} (hl : ks.length = N * 64) (hn : n < N) (hb : b.length ≤ 64) : seg (putI ks (n, b)) i = if i = n then b ++ (seg ks n).drop b.length else seg ks i := by
  apply List.ext_getElem?
  intro j
  rw [seg_get, putI_get (by simp only; omega)]
  by_cases h : i = n
  · subst h
    simp only [if_true]
    by_cases hj : j < 64
    · rw [if_pos hj]
      by_cases h2 : j < b.length
      · rw [if_pos ⟨by omega, by omega⟩, List.getElem?_append_left h2]
        congr 1; omega
      · rw [if_neg (by omega), List.getElem?_append_right (by omega), List.getElem?_drop, seg_get, if_pos (by omega)]
        congr 1; omega
    · rw [if_neg hj, List.getElem?_append_right (by omega), List.getElem?_drop, seg_get, if_neg (by omega)]
  · rw [if_neg h, seg_get]
    by_cases hj : j < 64
    · rw [if_pos hj, if_pos hj, if_neg]
      rintro ⟨h1, h2⟩
      simp only at h1 h2
      rcases Nat.lt_or_gt_of_ne h with h3 | h3 <;> omega
    · rw [if_neg hj, if_neg hj]
theorem secS_seg {ks : List Int} {i : Nat} : secS ks i = toStr (seg ks i) := rfl
theorem toStr_app {a b : List Int} : toStr (a ++ b) = toStr a ++ toStr b := by simp [toStr]
theorem toStr_drop {a : List Int} {n : Nat} : toStr (a.drop n) = (toStr a).drop n := by simp [toStr, List.map_drop]
theorem secsV_putI {ks : List Int} {N n : Nat} {b : List Int} (hl : ks.length = N * 64) (hn : n < N) (hb : b.length ≤ 64) : secsV (putI ks (n, b)) N = (secsV ks N).set n (.str (toStr b ++ (secS ks n).drop b.length)) := by
  apply List.ext_getElem?
  intro i
  by_cases hi : i < N
  · rw [secsV_at hi]
    rw [secS_seg, seg_putI hl hn hb]
    by_cases h : i = n
    · subst h
      rw [if_pos rfl, List.getElem?_set_self (by rw [secsV_len]; exact hi), toStr_app, toStr_drop, secS_seg]
    · rw [if_neg h, List.getElem?_set_ne (Ne.symm h), secsV_at hi, secS_seg]
  · rw [List.getElem?_eq_none (by rw [secsV_len]; omega), List.getElem?_eq_none (by rw [List.length_set, secsV_len]; omega)]
theorem seg_len {ks : List Int} {N i : Nat} (hl : ks.length = N * 64) (hi : i < N) : (seg ks i).length = 64 := by
  unfold seg; simp; omega
theorem secS_len {ks : List Int} {N i : Nat} (hl : ks.length = N * 64) (hi : i < N) : (secS ks i).length = 64 := by
  rw [secS_seg]; unfold toStr; rw [List.length_map, seg_len hl hi]
theorem secsV_put64 {ks : List Int} {N n : Nat} {b : List Int} (hl : ks.length = N * 64) (hn : n < N) (hb : b.length = 64) : secsV (putI ks (n, b)) N = (secsV ks N).set n (.str (toStr b)) := by
  rw [secsV_putI hl hn (by omega), hb, List.drop_eq_nil_of_le (by rw [secS_len hl hn]; omega), List.append_nil]
theorem settledI_take {ks : List Int} {items : List (Nat × List Int)} {k : Nat} {x : Nat × List Int} (h : items[k]? = some x) : settledI ks (items.take (k + 1)) = putI (settledI ks (items.take k)) x := by
  have e : items.take (k + 1) = items.take k ++ [x] := by
    rw [List.take_add_one, h]; rfl
  rw [e]
  simp [settledI]
/-! ### the queue of acts -/
def qaC (l : List Act4) : List V := (l.map actV).flatten
theorem qaC_len : ∀ (l : List Act4), (qaC l).length = l.length * 4
  | [] => rfl
  | a :: r => by
    have := qaC_len r
    simp only [qaC, List.map_cons, List.flatten_cons, List.length_append, List.length_cons] at this ⊢
    rw [this]
    simp [actV]; omega
theorem qaC_at : ∀ (l : List Act4) {k f : Nat} {a : Act4}, l[k]? = some a → f < 4 → (qaC l)[k * 4 + f]? = (actV a)[f]?
  | [], k, f, a, h, hf => by simp at h
  | x :: r, 0, f, a, h, hf => by
    simp at h; subst h
    simp only [qaC, List.map_cons, List.flatten_cons]
    rw [List.getElem?_append_left (by simp [actV]; omega)]
    congr 1; omega
  | x :: r, k + 1, f, a, h, hf => by
    have := qaC_at r (k := k) (f := f) (a := a) (by simpa using h) hf
    simp only [qaC, List.map_cons, List.flatten_cons] at this ⊢
    rw [List.getElem?_append_right (by simp [actV]; omega), ← this]
    congr 1
    simp [actV]; omega
theorem qaC_cut {l : List Act4} {k : Nat} {a : Act4} (h : l[k]? = some a) : cut (qaC l) (0 + k * 4) 4 = some (actV a) := by
  have hl := qaC_len l
  have hk : k < l.length := (List.getElem?_eq_some_iff.1 h).1
  have e : ((qaC l).drop (k * 4)).take 4 = actV a := by
    apply List.ext_getElem?
    intro j
    rw [List.getElem?_take]
    by_cases hj : j < 4
    · rw [if_pos hj, List.getElem?_drop, qaC_at l h hj]
    · rw [if_neg hj, List.getElem?_eq_none (by simp [actV]; omega)]
  unfold cut
  rw [Nat.zero_add, e]
  simp [actV]
theorem qaC_app (l : List Act4) (a : Act4) : qaC (l ++ [a]) = qaC l ++ actV a := by simp [qaC]
def itemsOf (l : List Act4) : List (Nat × List Int) := l.map fun a => (a.n.toNat, a.b)
/-! ### operations -/
theorem ld_cell {H : Heap} {i : Id} {g j : Nat} {cs : List V} {fz fl : Bool} {v : V} (h : H i = some ⟨g, cs, fz, fl⟩) (hv : cs[j]? = some v) : ldR 1 false H (.ptr i g j) = some ⟨v, [], [i]⟩ := by
  have := ld_at (j := j) h hv
  rw [Nat.mul_one, Nat.zero_add] at this
  exact this
theorem st_cell {H : Heap} {i : Id} {g j : Nat} {cs : List V} {s : List UInt8} (h : H i = some ⟨g, cs, false, true⟩) (hj : j < cs.length) : stR 1 H (.ptr i g (0 + j * 1)) (.str s) = some ⟨.und, [(i, ⟨g, cs.set j (.str s), false, true⟩)], [i]⟩ := by
  have l1 : live H i g = some ⟨g, cs, false, true⟩ := by simp [live, h]
  have e : splice cs j [V.str s] = cs.set j (.str s) := by
    rw [List.set_eq_take_append_cons_drop, if_pos hj]
    simp [splice]
  have c : True ∧ [V.str s].length = 1 ∧ j + 1 ≤ cs.length ∧ [V.str s].all (fits true) = true := ⟨trivial, rfl, by omega, rfl⟩
  simp only [stR, l1, V.cells, Nat.mul_one, Nat.zero_add]
  rw [if_pos c, e]
theorem conv_list {H : Heap} {bs : List Int} {fl : Bool} : evConvert Try.prog H 34 9 (.list (bytesL bs) fl) = some ⟨.str (toStr bs), [], []⟩ := by
  have e : (bytesL bs).all (fun x => x.length == 1) = true := by simp [bytesL]
  unfold evConvert
  simp only [u34b, u9s, u5i, srcS, src, e, if_true, flat_bytes, toBytes_cb]
theorem slice9 {H : Heap} {s : List UInt8} {h : Nat} (h1 : h ≤ s.length) : evSlice Try.prog H 9 (.str s) (some (.int .i64 (h : Int))) none none = pureO (.str (s.drop h)) := by
  simp [evSlice, u9s, bnd, h1]
theorem bin_sadd {P : Program} {t : Nat} {a b : List UInt8} (h : a.length + b.length ≤ 1000000) : liftO (evBin P t .add (.str a) (.str b)) = pureO (.str (a ++ b)) := by
  have c : ((a.length + b.length : Nat) : Int) ≤ 9223372036854775807 := by omega
  show liftO (evStr .add a b) = _
  simp only [evStr]
  rw [if_pos c]
  rfl
theorem st9 {H x v} : evStore Try.prog H 9 x v = stR 1 H x v := by kernel_rfl
theorem st36 {H x v} : evStore Try.prog H 36 x v = stR 4 H x v := by kernel_rfl
theorem u22s : Try.prog.underlying 22 = some (.slice 36) := by kernel_rfl
theorem sz36 : szOf Try.prog 36 = some 4 := by kernel_rfl
theorem by36 : byOf Try.prog 36 = some 48 := by kernel_rfl
theorem z36 : zOf Try.prog 36 = some [.int .i64 0, .int .i64 0, .int .i64 0, .nils] := by kernel_rfl
/-- the queue of acts, as the law holds it -/
def QB (H : Heap) (q : V) (qs : List Act4) : Prop := (q = .nils ∧ qs = []) ∨ ∃ g, q = .sl (.own 103) g 0 qs.length 4 none ∧ H (.own 103) = some ⟨g, qaC qs, false, true⟩
theorem QB.len {H : Heap} {q : V} {qs : List Act4} (h : QB H q qs) : evLen Try.prog 22 q = pureO (.int .i64 (qs.length : Int)) := by
  rw [len22]
  rcases h with ⟨rfl, rfl⟩ | ⟨g, rfl, _⟩ <;> rfl
theorem QB.other {H H' : Heap} {q : V} {qs : List Act4} (h : QB H q qs) (e : H' (.own 103) = H (.own 103)) : QB H' q qs := by
  rcases h with h | ⟨g, h1, h2⟩
  · exact .inl h
  · exact .inr ⟨g, h1, by rw [e]; exact h2⟩
theorem ia_sl4 {i : Id} {g n j : Nat} {lim : Option Nat} (h : j < n) : iaR 4 (.sl i g 0 n 4 lim) (.int .i64 (j : Int)) = pureO (.ptr i g (0 + j * 4)) := by
  simp [iaR, h]
theorem app_act {H : Heap} {q : V} {qs : List Act4} {a : Act4} {gg : Nat} (h : QB H q qs) (h2 : H (.own 102) = some ⟨gg, actV a, false, true⟩) (hl : qs.length ≤ 1000000) : ∃ y g rd, evAppend Try.prog H 103 22 22 q (.sl (.own 102) gg 0 1 4 (some 1)) = some ⟨y, [(.own 103, ⟨g, qaC (qs ++ [a]), false, true⟩)], rd⟩ ∧ y = .sl (.own 103) g 0 (qs ++ [a]).length 4 none := by
  have l2 : live H (.own 102) gg = some ⟨gg, actV a, false, true⟩ := by simp [live, h2]
  have ca : cut (actV a) 0 (1 * 4) = some (actV a) := by simp [cut, actV]
  have hs : appSrc Try.prog H 4 [.int .i64 0, .int .i64 0, .int .i64 0, .nils] 22 (.sl (.own 102) gg 0 1 4 (some 1)) = some (actV a, 1, true, [.own 102]) := by
    simp only [appSrc, u22s, src, l2, ca, if_true]
  rcases h with ⟨rfl, rfl⟩ | ⟨g, rfl, h1⟩
  · refine ⟨_, nextGen H (.own 103), [.own 103, .own 102], ?_, rfl⟩
    unfold evAppend
    simp only [u22s, sz36, by36, z36, hs]
    simp [lim47, qaC]
  · have l1 : live H (.own 103) g = some ⟨g, qaC qs, false, true⟩ := by simp [live, h1]
    have c1 : (qs.length + 1) * 48 ≤ lim47 := by unfold lim47; omega
    have c2 : cut (qaC qs) 0 (qs.length * 4) = some (qaC qs) := by rw [← qaC_len]; exact cut_all _
    have c3 : ¬ ((qs.length + 1) * 4 ≤ (qaC qs).length) := by rw [qaC_len]; omega
    refine ⟨_, g + 1, [.own 103, .own 102], ?_, rfl⟩
    unfold evAppend
    simp only [u22s, sz36, by36, z36, hs, l1]
    simp [c1, c2, c3, qaC_app]
end Go.Proofs.Ytcamcfplcoklkaa.Iv
