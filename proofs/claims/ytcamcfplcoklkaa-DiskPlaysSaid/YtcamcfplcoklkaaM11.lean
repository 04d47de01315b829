import Derived.Test.YtcamcfplcoklkaaM10
namespace Go.Proofs.Ytcamcfplcoklkaa.Iv
open Go
set_option linter.unusedVariables false
-- (*incipit/disk.Disk).lasting
noncomputable def c36_0 : Code := cAt [] (bodyOf Try.f36)
noncomputable def c36_1 : Code := cAt [0] (bodyOf Try.f36)
noncomputable def o36_1 : Array Oper := opsOf c36_1
noncomputable def d36_1_0 : List Oper := o36_1.toList
noncomputable def c36_2 : Code := cAt [1] (bodyOf Try.f36)
noncomputable def c36_3 : Code := cAt [1, 0] (bodyOf Try.f36)
noncomputable def o36_3 : Array Oper := opsOf c36_3
noncomputable def d36_3_0 : List Oper := o36_3.toList
noncomputable def c36_4 : Code := cAt [1, 1] (bodyOf Try.f36)
theorem w36_0 {pol : Nat → Pol} {cl : CallW} {lp : LoopW} {env : List V} {H : Heap} {Q : KQ} : wC Try.prog pol cl lp c36_0 env H Q = wC Try.prog pol cl lp c36_1 env H (seqK Try.prog pol cl lp c36_2 Q) := wC_seq (by kernel_rfl)
theorem w36_1 {pol : Nat → Pol} {cl : CallW} {lp : LoopW} {env : List V} {H : Heap} {Q : KQ} : wC Try.prog pol cl lp c36_1 env H Q = wOps Try.prog pol cl o36_1 d36_1_0 0 env H (Q .nrm) := wC_reg (i := 0) (by kernel_rfl) rfl
theorem w36_1_0 {pol : Nat → Pol} {cl : CallW} {t0 t1 t2 t3 t4 t5 t6 t7 t8 t9 t10 t11 t12 t13 t14 : V} {H : Heap} {Q : List V → Heap → Prop} : wOps Try.prog pol cl o36_1 d36_1_0 0 [t0, t1, t2, t3, t4, t5, t6, t7, t8, t9, t10, t11, t12, t13, t14] H Q = (
  Q [t0, t1, t2, t3, .nils, t5, t6, t7, t8, t9, t10, t11, t12, t13, t14] H) := by kernel_rfl
theorem w36_2 {pol : Nat → Pol} {cl : CallW} {lp : LoopW} {env : List V} {H : Heap} {Q : KQ} : wC Try.prog pol cl lp c36_2 env H Q = wC Try.prog pol cl lp c36_3 env H (seqK Try.prog pol cl lp c36_4 Q) := wC_seq (by kernel_rfl)
theorem w36_3 {pol : Nat → Pol} {cl : CallW} {lp : LoopW} {env : List V} {H : Heap} {Q : KQ} : wC Try.prog pol cl lp c36_3 env H Q = wOps Try.prog pol cl o36_3 d36_3_0 0 env H (Q .nrm) := wC_reg (i := 1) (by kernel_rfl) rfl
theorem w36_3_0 {pol : Nat → Pol} {cl : CallW} {t0 t1 t2 t3 t4 t5 t6 t7 t8 t9 t10 t11 t12 t13 t14 : V} {H : Heap} {Q : List V → Heap → Prop} : wOps Try.prog pol cl o36_3 d36_3_0 0 [t0, t1, t2, t3, t4, t5, t6, t7, t8, t9, t10, t11, t12, t13, t14] H Q = (
  stepW (nilO t0) H fun v1 H1 =>
  stepW (evFieldAddr Try.prog 49 v1 1) H1 fun v2 H2 =>
  stepW (evLoad Try.prog H2 34 v2) H2 fun v3 H3 =>
  stepW (liftO (evBin Try.prog 3 .mul t1 (.int .i64 64))) H3 fun v4 H4 =>
  stepW (liftO (evBin Try.prog 3 .add t1 (.int .i64 1))) H4 fun v5 H5 =>
  stepW (liftO (evBin Try.prog 3 .mul v5 (.int .i64 64))) H5 fun v6 H6 =>
  stepW (evSlice Try.prog H6 34 v3 (some v4) (some v6) none) H6 fun v7 H7 =>
  Q [t0, t1, t2, t3, v7, t0, v1, v2, v3, t1, v4, t1, v5, v6, v7] H7) := by kernel_rfl
theorem w36_4 {pol : Nat → Pol} {cl : CallW} {lp : LoopW} {env : List V} {H : Heap} {Q : KQ} : wC Try.prog pol cl lp c36_4 env H Q = Q .ret env H := wC_ret (by kernel_rfl)
-- (*incipit/disk.Disk).settle
noncomputable def c33_0 : Code := cAt [] (bodyOf Try.f33)
noncomputable def c33_1 : Code := cAt [0] (bodyOf Try.f33)
noncomputable def o33_1 : Array Oper := opsOf c33_1
noncomputable def d33_1_0 : List Oper := o33_1.toList
noncomputable def c33_2 : Code := cAt [1] (bodyOf Try.f33)
noncomputable def c33_3 : Code := cAt [1, 0] (bodyOf Try.f33)
noncomputable def c33_4 : Code := cAt [1, 0, 0] (bodyOf Try.f33)
noncomputable def c33_5 : Code := cAt [1, 0, 0, 0] (bodyOf Try.f33)
noncomputable def o33_5 : Array Oper := opsOf c33_5
noncomputable def d33_5_0 : List Oper := o33_5.toList
noncomputable def c33_6 : Code := cAt [1, 0, 0, 1] (bodyOf Try.f33)
noncomputable def c33_7 : Code := cAt [1, 0, 0, 1, 0] (bodyOf Try.f33)
noncomputable def c33_8 : Code := cAt [1, 0, 0, 1, 0, 0] (bodyOf Try.f33)
noncomputable def c33_9 : Code := cAt [1, 0, 0, 1, 0, 1] (bodyOf Try.f33)
noncomputable def c33_10 : Code := cAt [1, 0, 0, 1, 1] (bodyOf Try.f33)
noncomputable def c33_11 : Code := cAt [1, 0, 0, 1, 1, 0] (bodyOf Try.f33)
noncomputable def c33_12 : Code := cAt [1, 0, 0, 1, 1, 0, 0] (bodyOf Try.f33)
noncomputable def c33_13 : Code := cAt [1, 0, 0, 1, 1, 0, 0, 0] (bodyOf Try.f33)
noncomputable def o33_13 : Array Oper := opsOf c33_13
noncomputable def d33_13_0 : List Oper := o33_13.toList
noncomputable def c33_14 : Code := cAt [1, 0, 0, 1, 1, 0, 0, 1] (bodyOf Try.f33)
noncomputable def o33_14 : Array Oper := opsOf c33_14
noncomputable def d33_14_0 : List Oper := o33_14.toList
noncomputable def c33_15 : Code := cAt [1, 0, 0, 1, 1, 1] (bodyOf Try.f33)
noncomputable def o33_15 : Array Oper := opsOf c33_15
noncomputable def d33_15_0 : List Oper := o33_15.toList
theorem w33_0 {pol : Nat → Pol} {cl : CallW} {lp : LoopW} {env : List V} {H : Heap} {Q : KQ} : wC Try.prog pol cl lp c33_0 env H Q = wC Try.prog pol cl lp c33_1 env H (seqK Try.prog pol cl lp c33_2 Q) := wC_seq (by kernel_rfl)
theorem w33_1 {pol : Nat → Pol} {cl : CallW} {lp : LoopW} {env : List V} {H : Heap} {Q : KQ} : wC Try.prog pol cl lp c33_1 env H Q = wOps Try.prog pol cl o33_1 d33_1_0 0 env H (Q .nrm) := wC_reg (i := 0) (by kernel_rfl) rfl
theorem w33_1_0 {pol : Nat → Pol} {cl : CallW} {t0 t1 t2 t3 t4 t5 t6 t7 t8 t9 t10 t11 t12 t13 t14 t15 t16 t17 t18 t19 : V} {H : Heap} {Q : List V → Heap → Prop} : wOps Try.prog pol cl o33_1 d33_1_0 0 [t0, t1, t2, t3, t4, t5, t6, t7, t8, t9, t10, t11, t12, t13, t14, t15, t16, t17, t18, t19] H Q = (
  stepW (evLen Try.prog 47 t1) H fun v1 H1 =>
  Q [t0, t1, t2, t3, t4, t5, t1, v1, (.int .i64 0), t9, t10, t11, t12, t13, t14, t15, t16, t17, t18, t19] H1) := by kernel_rfl
theorem w33_2 {pol : Nat → Pol} {cl : CallW} {lp : LoopW} {env : List V} {H : Heap} {Q : KQ} : wC Try.prog pol cl lp c33_2 env H Q = wC Try.prog pol cl lp c33_3 env H (blockK 0 Q) := wC_block (by kernel_rfl)
theorem w33_3 {pol : Nat → Pol} {cl : CallW} {lp : LoopW} {env : List V} {H : Heap} {Q : KQ} : wC Try.prog pol cl lp c33_3 env H Q = lp c33_4 env H Q := wC_loop (by kernel_rfl)
theorem w33_4 {pol : Nat → Pol} {cl : CallW} {lp : LoopW} {env : List V} {H : Heap} {Q : KQ} : wC Try.prog pol cl lp c33_4 env H Q = wC Try.prog pol cl lp c33_5 env H (seqK Try.prog pol cl lp c33_6 Q) := wC_seq (by kernel_rfl)
theorem w33_5 {pol : Nat → Pol} {cl : CallW} {lp : LoopW} {env : List V} {H : Heap} {Q : KQ} : wC Try.prog pol cl lp c33_5 env H Q = wOps Try.prog pol cl o33_5 d33_5_0 0 env H (Q .nrm) := wC_reg (i := 1) (by kernel_rfl) rfl
theorem w33_5_0 {pol : Nat → Pol} {cl : CallW} {t0 t1 t2 t3 t4 t5 t6 t7 t8 t9 t10 t11 t12 t13 t14 t15 t16 t17 t18 t19 : V} {H : Heap} {Q : List V → Heap → Prop} : wOps Try.prog pol cl o33_5 d33_5_0 0 [t0, t1, t2, t3, t4, t5, t6, t7, t8, t9, t10, t11, t12, t13, t14, t15, t16, t17, t18, t19] H Q = (
  stepW (liftO (evBin Try.prog 3 .lss t8 t7)) H fun v1 H1 =>
  Q [t0, t1, t2, t3, t4, t5, t6, t7, t8, v1, t10, t11, t12, t13, t14, t15, t16, t17, t18, t19] H1) := by kernel_rfl
theorem w33_6 {pol : Nat → Pol} {cl : CallW} {lp : LoopW} {env : List V} {H : Heap} {Q : KQ} : wC Try.prog pol cl lp c33_6 env H Q = wC Try.prog pol cl lp c33_7 env H (seqK Try.prog pol cl lp c33_10 Q) := wC_seq (by kernel_rfl)
theorem w33_7 {pol : Nat → Pol} {cl : CallW} {lp : LoopW} {env : List V} {H : Heap} {Q : KQ} : wC Try.prog pol cl lp c33_7 env H Q = condW (evOperand env (Operand.tmp 9)) (wC Try.prog pol cl lp c33_8 env H Q) (wC Try.prog pol cl lp c33_9 env H Q) := wC_cond (by kernel_rfl)
theorem w33_8 {pol : Nat → Pol} {cl : CallW} {lp : LoopW} {env : List V} {H : Heap} {Q : KQ} : wC Try.prog pol cl lp c33_8 env H Q = Q .nrm env H := wC_skip (by kernel_rfl)
theorem w33_9 {pol : Nat → Pol} {cl : CallW} {lp : LoopW} {env : List V} {H : Heap} {Q : KQ} : wC Try.prog pol cl lp c33_9 env H Q = Q (.exit 0) env H := wC_exit (by kernel_rfl)
theorem w33_10 {pol : Nat → Pol} {cl : CallW} {lp : LoopW} {env : List V} {H : Heap} {Q : KQ} : wC Try.prog pol cl lp c33_10 env H Q = wC Try.prog pol cl lp c33_11 env H (seqK Try.prog pol cl lp c33_15 Q) := wC_seq (by kernel_rfl)
theorem w33_11 {pol : Nat → Pol} {cl : CallW} {lp : LoopW} {env : List V} {H : Heap} {Q : KQ} : wC Try.prog pol cl lp c33_11 env H Q = wC Try.prog pol cl lp c33_12 env H (blockK 1 Q) := wC_block (by kernel_rfl)
theorem w33_12 {pol : Nat → Pol} {cl : CallW} {lp : LoopW} {env : List V} {H : Heap} {Q : KQ} : wC Try.prog pol cl lp c33_12 env H Q = wC Try.prog pol cl lp c33_13 env H (seqK Try.prog pol cl lp c33_14 Q) := wC_seq (by kernel_rfl)
theorem w33_13 {pol : Nat → Pol} {cl : CallW} {lp : LoopW} {env : List V} {H : Heap} {Q : KQ} : wC Try.prog pol cl lp c33_13 env H Q = wOps Try.prog pol cl o33_13 d33_13_0 0 env H (Q .nrm) := wC_reg (i := 2) (by kernel_rfl) rfl
theorem w33_13_0 {pol : Nat → Pol} {cl : CallW} {t0 t1 t2 t3 t4 t5 t6 t7 t8 t9 t10 t11 t12 t13 t14 t15 t16 t17 t18 t19 : V} {H : Heap} {Q : List V → Heap → Prop} : wOps Try.prog pol cl o33_13 d33_13_0 0 [t0, t1, t2, t3, t4, t5, t6, t7, t8, t9, t10, t11, t12, t13, t14, t15, t16, t17, t18, t19] H Q = (
  stepW (evIndexAddr Try.prog 47 t6 t8) H fun v1 H1 =>
  stepW (evLoad Try.prog H1 65 v1) H1 fun v2 H2 =>
  stepW (allocO Try.prog H2 5 65) H2 fun v3 H3 =>
  stepW (evStore Try.prog H3 65 v3 v2) H3 fun v4 H4 =>
  Q [t0, t1, t2, t3, t4, v3, t6, t7, t8, t9, v1, v2, t12, t13, t14, t15, t16, t17, t18, t19] H4) := by kernel_rfl
theorem w33_14 {pol : Nat → Pol} {cl : CallW} {lp : LoopW} {env : List V} {H : Heap} {Q : KQ} : wC Try.prog pol cl lp c33_14 env H Q = wOpsL Try.prog pol cl o33_14 d33_14_0 0 env H [] (fun env H lg => logOk o33_14 lg = true ∧ Q .nrm env H) := wC_regL (i := 3) (by kernel_rfl) rfl
theorem w33_14_0 {pol : Nat → Pol} {cl : CallW} {t0 t1 t2 t3 t4 t5 t6 t7 t8 t9 t10 t11 t12 t13 t14 t15 t16 t17 t18 t19 : V} {H : Heap} {lg : Log} {Q : List V → Heap → Log → Prop} : wOpsL Try.prog pol cl o33_14 d33_14_0 0 [t0, t1, t2, t3, t4, t5, t6, t7, t8, t9, t10, t11, t12, t13, t14, t15, t16, t17, t18, t19] H lg Q = (
  stepL (pureO t0) H lg 0 fun v1 H1 g1 =>
  stepL (evFieldAddr Try.prog 65 t5 0) H1 g1 1 fun v2 H2 g2 =>
  stepL (evLoad Try.prog H2 3 v2) H2 g2 2 fun v3 H3 g3 =>
  callL pol cl H3 g3 3 15 36 [v1, v3] fun v4 H4 g4 =>
  stepL (evFieldAddr Try.prog 65 t5 1) H4 g4 4 fun v5 H5 g5 =>
  stepL (evLoad Try.prog H5 34 v5) H5 g5 5 fun v6 H6 g6 =>
  stepL (evCopy Try.prog H6 34 v4 v6) H6 g6 6 fun v7 H7 g7 =>
  Q [t0, t1, t2, t3, t4, t5, t6, t7, t8, t9, t10, t11, v1, v2, v3, v4, v5, v6, v7, t19] H7 g7) := by kernel_rfl
theorem w33_15 {pol : Nat → Pol} {cl : CallW} {lp : LoopW} {env : List V} {H : Heap} {Q : KQ} : wC Try.prog pol cl lp c33_15 env H Q = wOps Try.prog pol cl o33_15 d33_15_0 0 env H (Q .nrm) := wC_reg (i := 4) (by kernel_rfl) rfl
theorem w33_15_0 {pol : Nat → Pol} {cl : CallW} {t0 t1 t2 t3 t4 t5 t6 t7 t8 t9 t10 t11 t12 t13 t14 t15 t16 t17 t18 t19 : V} {H : Heap} {Q : List V → Heap → Prop} : wOps Try.prog pol cl o33_15 d33_15_0 0 [t0, t1, t2, t3, t4, t5, t6, t7, t8, t9, t10, t11, t12, t13, t14, t15, t16, t17, t18, t19] H Q = (
  stepW (liftO (evBin Try.prog 3 .add t8 (.int .i64 1))) H fun v1 H1 =>
  Q [t0, t1, t2, t3, t4, t5, t6, t7, v1, t9, t10, t11, t12, t13, t14, t15, t16, t17, t18, v1] H1) := by kernel_rfl
-- (*incipit/disk.Disk).Sync
noncomputable def c19_0 : Code := cAt [] (bodyOf Try.f19)
noncomputable def c19_1 : Code := cAt [0] (bodyOf Try.f19)
noncomputable def o19_1 : Array Oper := opsOf c19_1
noncomputable def d19_1_0 : List Oper := o19_1.toList
noncomputable def c19_2 : Code := cAt [1] (bodyOf Try.f19)
noncomputable def c19_3 : Code := cAt [1, 0] (bodyOf Try.f19)
noncomputable def c19_4 : Code := cAt [1, 0, 0] (bodyOf Try.f19)
noncomputable def c19_5 : Code := cAt [1, 0, 0, 0] (bodyOf Try.f19)
noncomputable def o19_5 : Array Oper := opsOf c19_5
noncomputable def d19_5_0 : List Oper := o19_5.toList
noncomputable def c19_6 : Code := cAt [1, 0, 0, 1] (bodyOf Try.f19)
noncomputable def c19_7 : Code := cAt [1, 0, 0, 1, 0] (bodyOf Try.f19)
noncomputable def c19_8 : Code := cAt [1, 0, 0, 1, 0, 0] (bodyOf Try.f19)
noncomputable def o19_8 : Array Oper := opsOf c19_8
noncomputable def d19_8_0 : List Oper := o19_8.toList
noncomputable def c19_9 : Code := cAt [1, 0, 0, 1, 0, 1] (bodyOf Try.f19)
noncomputable def c19_10 : Code := cAt [1, 0, 0, 1, 1] (bodyOf Try.f19)
noncomputable def c19_11 : Code := cAt [1, 0, 0, 1, 1, 0] (bodyOf Try.f19)
noncomputable def o19_11 : Array Oper := opsOf c19_11
noncomputable def d19_11_0 : List Oper := o19_11.toList
noncomputable def c19_12 : Code := cAt [1, 0, 0, 1, 1, 1] (bodyOf Try.f19)
noncomputable def c19_13 : Code := cAt [1, 0, 0, 1, 1, 1, 0] (bodyOf Try.f19)
noncomputable def c19_14 : Code := cAt [1, 0, 0, 1, 1, 1, 0, 0] (bodyOf Try.f19)
noncomputable def o19_14 : Array Oper := opsOf c19_14
noncomputable def d19_14_0 : List Oper := o19_14.toList
noncomputable def c19_15 : Code := cAt [1, 0, 0, 1, 1, 1, 0, 1] (bodyOf Try.f19)
noncomputable def c19_16 : Code := cAt [1, 0, 0, 1, 1, 1, 1] (bodyOf Try.f19)
noncomputable def c19_17 : Code := cAt [1, 1] (bodyOf Try.f19)
noncomputable def c19_18 : Code := cAt [1, 1, 0] (bodyOf Try.f19)
noncomputable def o19_18 : Array Oper := opsOf c19_18
noncomputable def d19_18_0 : List Oper := o19_18.toList
noncomputable def c19_19 : Code := cAt [1, 1, 1] (bodyOf Try.f19)
noncomputable def c19_20 : Code := cAt [1, 1, 1, 0] (bodyOf Try.f19)
noncomputable def o19_20 : Array Oper := opsOf c19_20
noncomputable def d19_20_0 : List Oper := o19_20.toList
noncomputable def c19_21 : Code := cAt [1, 1, 1, 1] (bodyOf Try.f19)
noncomputable def c19_22 : Code := cAt [1, 1, 1, 1, 0] (bodyOf Try.f19)
noncomputable def o19_22 : Array Oper := opsOf c19_22
noncomputable def d19_22_0 : List Oper := o19_22.toList
noncomputable def c19_23 : Code := cAt [1, 1, 1, 1, 1] (bodyOf Try.f19)
theorem w19_0 {pol : Nat → Pol} {cl : CallW} {lp : LoopW} {env : List V} {H : Heap} {Q : KQ} : wC Try.prog pol cl lp c19_0 env H Q = wC Try.prog pol cl lp c19_1 env H (seqK Try.prog pol cl lp c19_2 Q) := wC_seq (by kernel_rfl)
theorem w19_1 {pol : Nat → Pol} {cl : CallW} {lp : LoopW} {env : List V} {H : Heap} {Q : KQ} : wC Try.prog pol cl lp c19_1 env H Q = wOps Try.prog pol cl o19_1 d19_1_0 0 env H (Q .nrm) := wC_reg (i := 0) (by kernel_rfl) rfl
theorem w19_1_0 {pol : Nat → Pol} {cl : CallW} {t0 t1 t2 t3 t4 t5 t6 t7 t8 t9 t10 t11 t12 t13 t14 t15 t16 t17 t18 t19 t20 t21 : V} {H : Heap} {Q : List V → Heap → Prop} : wOps Try.prog pol cl o19_1 d19_1_0 0 [t0, t1, t2, t3, t4, t5, t6, t7, t8, t9, t10, t11, t12, t13, t14, t15, t16, t17, t18, t19, t20, t21] H Q = (
  Q [t0, t1, (.int .i64 0), t3, t4, t5, t6, t7, t8, t9, t10, t11, t12, t13, t14, t15, t16, t17, t18, t19, t20, t21] H) := by kernel_rfl
theorem w19_2 {pol : Nat → Pol} {cl : CallW} {lp : LoopW} {env : List V} {H : Heap} {Q : KQ} : wC Try.prog pol cl lp c19_2 env H Q = wC Try.prog pol cl lp c19_3 env H (seqK Try.prog pol cl lp c19_17 Q) := wC_seq (by kernel_rfl)
theorem w19_3 {pol : Nat → Pol} {cl : CallW} {lp : LoopW} {env : List V} {H : Heap} {Q : KQ} : wC Try.prog pol cl lp c19_3 env H Q = wC Try.prog pol cl lp c19_4 env H (blockK 0 Q) := wC_block (by kernel_rfl)
theorem w19_4 {pol : Nat → Pol} {cl : CallW} {lp : LoopW} {env : List V} {H : Heap} {Q : KQ} : wC Try.prog pol cl lp c19_4 env H Q = wC Try.prog pol cl lp c19_5 env H (seqK Try.prog pol cl lp c19_6 Q) := wC_seq (by kernel_rfl)
theorem w19_5 {pol : Nat → Pol} {cl : CallW} {lp : LoopW} {env : List V} {H : Heap} {Q : KQ} : wC Try.prog pol cl lp c19_5 env H Q = wOps Try.prog pol cl o19_5 d19_5_0 0 env H (Q .nrm) := wC_reg (i := 1) (by kernel_rfl) rfl
theorem w19_5_0 {pol : Nat → Pol} {cl : CallW} {t0 t1 t2 t3 t4 t5 t6 t7 t8 t9 t10 t11 t12 t13 t14 t15 t16 t17 t18 t19 t20 t21 : V} {H : Heap} {Q : List V → Heap → Prop} : wOps Try.prog pol cl o19_5 d19_5_0 0 [t0, t1, t2, t3, t4, t5, t6, t7, t8, t9, t10, t11, t12, t13, t14, t15, t16, t17, t18, t19, t20, t21] H Q = (
  callW pol cl H 5 9 [t0] fun v1 H1 =>
  stepW (liftO (evBin Try.prog 3 .eql v1 (.int .i64 0))) H1 fun v2 H2 =>
  Q [t0, t1, t2, v2, t0, v1, v2, t7, t8, t9, t10, t11, t12, t13, t14, t15, t16, t17, t18, t19, t20, t21] H2) := by kernel_rfl
theorem w19_6 {pol : Nat → Pol} {cl : CallW} {lp : LoopW} {env : List V} {H : Heap} {Q : KQ} : wC Try.prog pol cl lp c19_6 env H Q = condW (evOperand env (Operand.tmp 3)) (wC Try.prog pol cl lp c19_7 env H Q) (wC Try.prog pol cl lp c19_10 env H Q) := wC_cond (by kernel_rfl)
theorem w19_7 {pol : Nat → Pol} {cl : CallW} {lp : LoopW} {env : List V} {H : Heap} {Q : KQ} : wC Try.prog pol cl lp c19_7 env H Q = wC Try.prog pol cl lp c19_8 env H (seqK Try.prog pol cl lp c19_9 Q) := wC_seq (by kernel_rfl)
theorem w19_8 {pol : Nat → Pol} {cl : CallW} {lp : LoopW} {env : List V} {H : Heap} {Q : KQ} : wC Try.prog pol cl lp c19_8 env H Q = wOps Try.prog pol cl o19_8 d19_8_0 0 env H (Q .nrm) := wC_reg (i := 2) (by kernel_rfl) rfl
theorem w19_8_0 {pol : Nat → Pol} {cl : CallW} {t0 t1 t2 t3 t4 t5 t6 t7 t8 t9 t10 t11 t12 t13 t14 t15 t16 t17 t18 t19 t20 t21 : V} {H : Heap} {Q : List V → Heap → Prop} : wOps Try.prog pol cl o19_8 d19_8_0 0 [t0, t1, t2, t3, t4, t5, t6, t7, t8, t9, t10, t11, t12, t13, t14, t15, t16, t17, t18, t19, t20, t21] H Q = (
  Q [t0, t1, (.int .i64 1), t3, t4, t5, t6, t7, t8, t9, t10, t11, t12, t13, t14, t15, t16, t17, t18, t19, t20, t21] H) := by kernel_rfl
theorem w19_9 {pol : Nat → Pol} {cl : CallW} {lp : LoopW} {env : List V} {H : Heap} {Q : KQ} : wC Try.prog pol cl lp c19_9 env H Q = Q .ret env H := wC_ret (by kernel_rfl)
theorem w19_10 {pol : Nat → Pol} {cl : CallW} {lp : LoopW} {env : List V} {H : Heap} {Q : KQ} : wC Try.prog pol cl lp c19_10 env H Q = wC Try.prog pol cl lp c19_11 env H (seqK Try.prog pol cl lp c19_12 Q) := wC_seq (by kernel_rfl)
theorem w19_11 {pol : Nat → Pol} {cl : CallW} {lp : LoopW} {env : List V} {H : Heap} {Q : KQ} : wC Try.prog pol cl lp c19_11 env H Q = wOps Try.prog pol cl o19_11 d19_11_0 0 env H (Q .nrm) := wC_reg (i := 3) (by kernel_rfl) rfl
theorem w19_11_0 {pol : Nat → Pol} {cl : CallW} {t0 t1 t2 t3 t4 t5 t6 t7 t8 t9 t10 t11 t12 t13 t14 t15 t16 t17 t18 t19 t20 t21 : V} {H : Heap} {Q : List V → Heap → Prop} : wOps Try.prog pol cl o19_11 d19_11_0 0 [t0, t1, t2, t3, t4, t5, t6, t7, t8, t9, t10, t11, t12, t13, t14, t15, t16, t17, t18, t19, t20, t21] H Q = (
  stepW (nilO t0) H fun v1 H1 =>
  stepW (evFieldAddr Try.prog 49 v1 0) H1 fun v2 H2 =>
  callW pol cl H2 11 32 [v2] fun v3 H3 =>
  stepW (liftO (evUn .not v3)) H3 fun v4 H4 =>
  Q [t0, t1, t2, t3, t4, t5, t6, v4, t0, v1, v2, v3, v4, t13, t14, t15, t16, t17, t18, t19, t20, t21] H4) := by kernel_rfl
theorem w19_12 {pol : Nat → Pol} {cl : CallW} {lp : LoopW} {env : List V} {H : Heap} {Q : KQ} : wC Try.prog pol cl lp c19_12 env H Q = condW (evOperand env (Operand.tmp 7)) (wC Try.prog pol cl lp c19_13 env H Q) (wC Try.prog pol cl lp c19_16 env H Q) := wC_cond (by kernel_rfl)
theorem w19_13 {pol : Nat → Pol} {cl : CallW} {lp : LoopW} {env : List V} {H : Heap} {Q : KQ} : wC Try.prog pol cl lp c19_13 env H Q = wC Try.prog pol cl lp c19_14 env H (seqK Try.prog pol cl lp c19_15 Q) := wC_seq (by kernel_rfl)
theorem w19_14 {pol : Nat → Pol} {cl : CallW} {lp : LoopW} {env : List V} {H : Heap} {Q : KQ} : wC Try.prog pol cl lp c19_14 env H Q = wOps Try.prog pol cl o19_14 d19_14_0 0 env H (Q .nrm) := wC_reg (i := 4) (by kernel_rfl) rfl
theorem w19_14_0 {pol : Nat → Pol} {cl : CallW} {t0 t1 t2 t3 t4 t5 t6 t7 t8 t9 t10 t11 t12 t13 t14 t15 t16 t17 t18 t19 t20 t21 : V} {H : Heap} {Q : List V → Heap → Prop} : wOps Try.prog pol cl o19_14 d19_14_0 0 [t0, t1, t2, t3, t4, t5, t6, t7, t8, t9, t10, t11, t12, t13, t14, t15, t16, t17, t18, t19, t20, t21] H Q = (
  Q [t0, t1, (.int .i64 11), t3, t4, t5, t6, t7, t8, t9, t10, t11, t12, t13, t14, t15, t16, t17, t18, t19, t20, t21] H) := by kernel_rfl
theorem w19_15 {pol : Nat → Pol} {cl : CallW} {lp : LoopW} {env : List V} {H : Heap} {Q : KQ} : wC Try.prog pol cl lp c19_15 env H Q = Q .ret env H := wC_ret (by kernel_rfl)
theorem w19_16 {pol : Nat → Pol} {cl : CallW} {lp : LoopW} {env : List V} {H : Heap} {Q : KQ} : wC Try.prog pol cl lp c19_16 env H Q = Q .nrm env H := wC_skip (by kernel_rfl)
theorem w19_17 {pol : Nat → Pol} {cl : CallW} {lp : LoopW} {env : List V} {H : Heap} {Q : KQ} : wC Try.prog pol cl lp c19_17 env H Q = wC Try.prog pol cl lp c19_18 env H (seqK Try.prog pol cl lp c19_19 Q) := wC_seq (by kernel_rfl)
theorem w19_18 {pol : Nat → Pol} {cl : CallW} {lp : LoopW} {env : List V} {H : Heap} {Q : KQ} : wC Try.prog pol cl lp c19_18 env H Q = wOps Try.prog pol cl o19_18 d19_18_0 0 env H (Q .nrm) := wC_reg (i := 5) (by kernel_rfl) rfl
theorem w19_18_0 {pol : Nat → Pol} {cl : CallW} {t0 t1 t2 t3 t4 t5 t6 t7 t8 t9 t10 t11 t12 t13 t14 t15 t16 t17 t18 t19 t20 t21 : V} {H : Heap} {Q : List V → Heap → Prop} : wOps Try.prog pol cl o19_18 d19_18_0 0 [t0, t1, t2, t3, t4, t5, t6, t7, t8, t9, t10, t11, t12, t13, t14, t15, t16, t17, t18, t19, t20, t21] H Q = (
  stepW (nilO t0) H fun v1 H1 =>
  stepW (evFieldAddr Try.prog 49 v1 2) H1 fun v2 H2 =>
  stepW (evLoad Try.prog H2 47 v2) H2 fun v3 H3 =>
  callW pol cl H3 18 33 [t0, v3] fun v4 H4 =>
  Q [t0, t1, t2, t3, t4, t5, t6, t7, t8, t9, t10, t11, t12, t0, t0, v1, v2, v3, v4, t19, t20, t21] H4) := by kernel_rfl
theorem w19_19 {pol : Nat → Pol} {cl : CallW} {lp : LoopW} {env : List V} {H : Heap} {Q : KQ} : wC Try.prog pol cl lp c19_19 env H Q = wC Try.prog pol cl lp c19_20 env H (seqK Try.prog pol cl lp c19_21 Q) := wC_seq (by kernel_rfl)
theorem w19_20 {pol : Nat → Pol} {cl : CallW} {lp : LoopW} {env : List V} {H : Heap} {Q : KQ} : wC Try.prog pol cl lp c19_20 env H Q = wOps Try.prog pol cl o19_20 d19_20_0 0 env H (Q .nrm) := wC_reg (i := 6) (by kernel_rfl) rfl
theorem w19_20_0 {pol : Nat → Pol} {cl : CallW} {t0 t1 t2 t3 t4 t5 t6 t7 t8 t9 t10 t11 t12 t13 t14 t15 t16 t17 t18 t19 t20 t21 : V} {H : Heap} {Q : List V → Heap → Prop} : wOps Try.prog pol cl o19_20 d19_20_0 0 [t0, t1, t2, t3, t4, t5, t6, t7, t8, t9, t10, t11, t12, t13, t14, t15, t16, t17, t18, t19, t20, t21] H Q = (
  stepW (nilO t0) H fun v1 H1 =>
  stepW (evFieldAddr Try.prog 49 v1 2) H1 fun v2 H2 =>
  stepW (evStore Try.prog H2 47 v2 .nils) H2 fun v3 H3 =>
  Q [t0, t1, t2, t3, t4, t5, t6, t7, t8, t9, t10, t11, t12, t13, t14, t15, t16, t17, t18, t0, v1, v2] H3) := by kernel_rfl
theorem w19_21 {pol : Nat → Pol} {cl : CallW} {lp : LoopW} {env : List V} {H : Heap} {Q : KQ} : wC Try.prog pol cl lp c19_21 env H Q = wC Try.prog pol cl lp c19_22 env H (seqK Try.prog pol cl lp c19_23 Q) := wC_seq (by kernel_rfl)
theorem w19_22 {pol : Nat → Pol} {cl : CallW} {lp : LoopW} {env : List V} {H : Heap} {Q : KQ} : wC Try.prog pol cl lp c19_22 env H Q = wOps Try.prog pol cl o19_22 d19_22_0 0 env H (Q .nrm) := wC_reg (i := 7) (by kernel_rfl) rfl
theorem w19_22_0 {pol : Nat → Pol} {cl : CallW} {t0 t1 t2 t3 t4 t5 t6 t7 t8 t9 t10 t11 t12 t13 t14 t15 t16 t17 t18 t19 t20 t21 : V} {H : Heap} {Q : List V → Heap → Prop} : wOps Try.prog pol cl o19_22 d19_22_0 0 [t0, t1, t2, t3, t4, t5, t6, t7, t8, t9, t10, t11, t12, t13, t14, t15, t16, t17, t18, t19, t20, t21] H Q = (
  Q [t0, t1, (.int .i64 0), t3, t4, t5, t6, t7, t8, t9, t10, t11, t12, t13, t14, t15, t16, t17, t18, t19, t20, t21] H) := by kernel_rfl
theorem w19_23 {pol : Nat → Pol} {cl : CallW} {lp : LoopW} {env : List V} {H : Heap} {Q : KQ} : wC Try.prog pol cl lp c19_23 env H Q = Q .ret env H := wC_ret (by kernel_rfl)
-- (*incipit/disk.Disk).Trip
noncomputable def c24_0 : Code := cAt [] (bodyOf Try.f24)
noncomputable def c24_1 : Code := cAt [0] (bodyOf Try.f24)
noncomputable def o24_1 : Array Oper := opsOf c24_1
noncomputable def d24_1_0 : List Oper := o24_1.toList
noncomputable def c24_2 : Code := cAt [1] (bodyOf Try.f24)
noncomputable def c24_3 : Code := cAt [1, 0] (bodyOf Try.f24)
noncomputable def o24_3 : Array Oper := opsOf c24_3
noncomputable def d24_3_0 : List Oper := o24_3.toList
noncomputable def c24_4 : Code := cAt [1, 1] (bodyOf Try.f24)
theorem w24_0 {pol : Nat → Pol} {cl : CallW} {lp : LoopW} {env : List V} {H : Heap} {Q : KQ} : wC Try.prog pol cl lp c24_0 env H Q = wC Try.prog pol cl lp c24_1 env H (seqK Try.prog pol cl lp c24_2 Q) := wC_seq (by kernel_rfl)
theorem w24_1 {pol : Nat → Pol} {cl : CallW} {lp : LoopW} {env : List V} {H : Heap} {Q : KQ} : wC Try.prog pol cl lp c24_1 env H Q = wOps Try.prog pol cl o24_1 d24_1_0 0 env H (Q .nrm) := wC_reg (i := 0) (by kernel_rfl) rfl
theorem w24_1_0 {pol : Nat → Pol} {cl : CallW} {t0 t1 t2 t3 t4 t5 t6 t7 t8 t9 t10 t11 t12 : V} {H : Heap} {Q : List V → Heap → Prop} : wOps Try.prog pol cl o24_1 d24_1_0 0 [t0, t1, t2, t3, t4, t5, t6, t7, t8, t9, t10, t11, t12] H Q = (
  callW pol cl H 5 9 [t0] fun v1 H1 =>
  stepW (liftO (evBin Try.prog 3 .gtr v1 (.int .i64 0))) H1 fun v2 H2 =>
  Q [t0, t1, t2, t3, t0, v1, v2, t7, t8, t9, t10, t11, t12] H2) := by kernel_rfl
theorem w24_2 {pol : Nat → Pol} {cl : CallW} {lp : LoopW} {env : List V} {H : Heap} {Q : KQ} : wC Try.prog pol cl lp c24_2 env H Q = condW (evOperand env (Operand.tmp 6)) (wC Try.prog pol cl lp c24_3 env H Q) (wC Try.prog pol cl lp c24_4 env H Q) := wC_cond (by kernel_rfl)
theorem w24_3 {pol : Nat → Pol} {cl : CallW} {lp : LoopW} {env : List V} {H : Heap} {Q : KQ} : wC Try.prog pol cl lp c24_3 env H Q = wOps Try.prog pol cl o24_3 d24_3_0 0 env H (Q .nrm) := wC_reg (i := 1) (by kernel_rfl) rfl
theorem w24_3_0 {pol : Nat → Pol} {cl : CallW} {t0 t1 t2 t3 t4 t5 t6 t7 t8 t9 t10 t11 t12 : V} {H : Heap} {Q : List V → Heap → Prop} : wOps Try.prog pol cl o24_3 d24_3_0 0 [t0, t1, t2, t3, t4, t5, t6, t7, t8, t9, t10, t11, t12] H Q = (
  stepW (liftO (foldO max2 t1 [(.int .i64 (-1))])) H fun v1 H1 =>
  stepW (nilO t0) H1 fun v2 H2 =>
  stepW (evFieldAddr Try.prog 49 v2 0) H2 fun v3 H3 =>
  stepW (evFieldAddr Try.prog 46 v3 0) H3 fun v4 H4 =>
  stepW (evStore Try.prog H4 3 v4 v1) H4 fun v5 H5 =>
  Q [t0, t1, t2, t3, t4, t5, t6, t0, t1, v1, v2, v3, v4] H5) := by kernel_rfl
theorem w24_4 {pol : Nat → Pol} {cl : CallW} {lp : LoopW} {env : List V} {H : Heap} {Q : KQ} : wC Try.prog pol cl lp c24_4 env H Q = Q .nrm env H := wC_skip (by kernel_rfl)
-- (*incipit/disk.Disk).Cap
noncomputable def c25_0 : Code := cAt [] (bodyOf Try.f25)
noncomputable def c25_1 : Code := cAt [0] (bodyOf Try.f25)
noncomputable def o25_1 : Array Oper := opsOf c25_1
noncomputable def d25_1_0 : List Oper := o25_1.toList
noncomputable def c25_2 : Code := cAt [1] (bodyOf Try.f25)
noncomputable def c25_3 : Code := cAt [1, 0] (bodyOf Try.f25)
noncomputable def o25_3 : Array Oper := opsOf c25_3
noncomputable def d25_3_0 : List Oper := o25_3.toList
noncomputable def c25_4 : Code := cAt [1, 1] (bodyOf Try.f25)
theorem w25_0 {pol : Nat → Pol} {cl : CallW} {lp : LoopW} {env : List V} {H : Heap} {Q : KQ} : wC Try.prog pol cl lp c25_0 env H Q = wC Try.prog pol cl lp c25_1 env H (seqK Try.prog pol cl lp c25_2 Q) := wC_seq (by kernel_rfl)
theorem w25_1 {pol : Nat → Pol} {cl : CallW} {lp : LoopW} {env : List V} {H : Heap} {Q : KQ} : wC Try.prog pol cl lp c25_1 env H Q = wOps Try.prog pol cl o25_1 d25_1_0 0 env H (Q .nrm) := wC_reg (i := 0) (by kernel_rfl) rfl
theorem w25_1_0 {pol : Nat → Pol} {cl : CallW} {t0 t1 t2 t3 t4 t5 t6 t7 t8 t9 t10 t11 t12 : V} {H : Heap} {Q : List V → Heap → Prop} : wOps Try.prog pol cl o25_1 d25_1_0 0 [t0, t1, t2, t3, t4, t5, t6, t7, t8, t9, t10, t11, t12] H Q = (
  callW pol cl H 5 9 [t0] fun v1 H1 =>
  stepW (liftO (evBin Try.prog 3 .gtr v1 (.int .i64 0))) H1 fun v2 H2 =>
  Q [t0, t1, t2, t3, t0, v1, v2, t7, t8, t9, t10, t11, t12] H2) := by kernel_rfl
theorem w25_2 {pol : Nat → Pol} {cl : CallW} {lp : LoopW} {env : List V} {H : Heap} {Q : KQ} : wC Try.prog pol cl lp c25_2 env H Q = condW (evOperand env (Operand.tmp 6)) (wC Try.prog pol cl lp c25_3 env H Q) (wC Try.prog pol cl lp c25_4 env H Q) := wC_cond (by kernel_rfl)
theorem w25_3 {pol : Nat → Pol} {cl : CallW} {lp : LoopW} {env : List V} {H : Heap} {Q : KQ} : wC Try.prog pol cl lp c25_3 env H Q = wOps Try.prog pol cl o25_3 d25_3_0 0 env H (Q .nrm) := wC_reg (i := 1) (by kernel_rfl) rfl
theorem w25_3_0 {pol : Nat → Pol} {cl : CallW} {t0 t1 t2 t3 t4 t5 t6 t7 t8 t9 t10 t11 t12 : V} {H : Heap} {Q : List V → Heap → Prop} : wOps Try.prog pol cl o25_3 d25_3_0 0 [t0, t1, t2, t3, t4, t5, t6, t7, t8, t9, t10, t11, t12] H Q = (
  stepW (liftO (foldO max2 t1 [(.int .i64 (-1))])) H fun v1 H1 =>
  stepW (nilO t0) H1 fun v2 H2 =>
  stepW (evFieldAddr Try.prog 49 v2 0) H2 fun v3 H3 =>
  stepW (evFieldAddr Try.prog 46 v3 2) H3 fun v4 H4 =>
  stepW (evStore Try.prog H4 3 v4 v1) H4 fun v5 H5 =>
  Q [t0, t1, t2, t3, t4, t5, t6, t0, t1, v1, v2, v3, v4] H5) := by kernel_rfl
theorem w25_4 {pol : Nat → Pol} {cl : CallW} {lp : LoopW} {env : List V} {H : Heap} {Q : KQ} : wC Try.prog pol cl lp c25_4 env H Q = Q .nrm env H := wC_skip (by kernel_rfl)
end Go.Proofs.Ytcamcfplcoklkaa.Iv

namespace Go.Proofs.Ytcamcfplcoklkaa.Iv
open Go
set_option linter.unusedVariables false
set_option linter.unusedSimpArgs false
set_option maxRecDepth 100000
theorem bin_mul {P : Program} {t : Nat} {a b : Int} (h1 : -9223372036854775808 ≤ a * b) (h2 : a * b ≤ 9223372036854775807) : liftO (evBin P t .mul (.int .i64 a) (.int .i64 b)) = pureO (.int .i64 (a * b)) := by simp [evBin, evInt, liftO, i64_wrap h1 h2]
theorem u34b : Try.prog.underlying 34 = some (.slice 5) := by kernel_rfl
theorem sz5 : szOf Try.prog 5 = some 1 := by kernel_rfl
theorem slice34 {H : Heap} {i : Id} {g o n l h : Nat} {lim : Option Nat} (h1 : l ≤ h) (h2 : h ≤ n) : evSlice Try.prog H 34 (.sl i g o n 1 lim) (some (.int .i64 (l : Int))) (some (.int .i64 (h : Int))) none = pureO (.sl i g (o + l * 1) (h - l) 1 (lim.map (· - l))) := by
  simp [evSlice, u34b, sz5, bnd, h1, h2]
theorem fa49_1 {x} : evFieldAddr Try.prog 49 x 1 = faR 3 x := by kernel_rfl
theorem ld34b {H x} : evLoad Try.prog H 34 x = ldR 1 false H x := by kernel_rfl
/-- a sector as it lasts -/
theorem lasting_spec {l b : Int} {g : Bool} {kc : List V} {q : V} {qb : Option Blk} {a : Nat} (ha : (a + 1) * 64 ≤ kc.length) (hk : kc.length < 1152921504606846976) {Q : V → Heap → Prop}
    (hQ : Q (.sl (.arg 1) 0 (a * 64) 64 1 none) (WH l g b kc q qb)) : CallR dcfg 36 [.ptr (.arg 0) 0 0, .int .i64 (a : Int)] (WH l g b kc q qb) Q := by
  refine CallR.body' (K := dcfg) (f := 36) (fn := Try.f36) (c := c36_0) (env := [.ptr (.arg 0) 0 0, .int .i64 (a : Int), .und, .und, .und, .und, .und, .und, .und, .und, .und, .und, .und, .und, .und]) (rs := [.tmp 4]) rfl (by kernel_rfl) (by kernel_rfl) (by kernel_rfl) (by kernel_rfl) (by kernel_rfl) (by kernel_rfl) ?_
  show wC Try.prog dcfg.pol (CallR dcfg) (LoopR dcfg) c36_0 _ _ _
  simp only [w36_0, w36_1, w36_1_0, w36_2, w36_3, w36_3_0, w36_4, seqK, fa49_1, ld34b]
  refine mk0 (.ptr (.arg 0) 0 0) (by rfl) ?_
  refine mk0 (.ptr (.arg 0) 0 3) (by rfl) ?_
  refine mk (kslice kc) [] [.arg 0] (by rfl) ?_
  refine mk0 _ (bin_mul (by omega) (by omega)) ?_
  refine mk0 _ (bin_add (by omega) (by omega)) ?_
  refine mk0 _ (bin_mul (by omega) (by omega)) ?_
  have e1 : ((a : Int) * 64) = ((a * 64 : Nat) : Int) := by omega
  have e2 : (((a : Int) + 1) * 64) = (((a + 1) * 64 : Nat) : Int) := by omega
  rw [e1, e2]
  refine mk0 (.sl (.arg 1) 0 (a * 64) 64 1 none) ?_ ?_
  · show evSlice Try.prog _ 34 (.sl (.arg 1) 0 0 kc.length 1 none) _ _ none = _
    rw [slice34 (by omega) ha]
    have e3 : (a + 1) * 64 - a * 64 = 64 := by omega
    rw [e3]
    simp
  · exact hQ
/-! ### settle -/
def SH (l : Int) (g : Bool) (b : Int) (kc : List V) (m : Nat) (qc : List V) (ob lb : Option Blk) : Heap
  | .arg 0 => some (pblk l g b (kslice kc) (.sl (.arg 2) 0 0 m 2 none))
  | .arg 1 => some ⟨0, kc, false, true⟩
  | .arg 2 => some ⟨0, qc, false, true⟩
  | .arg 3 => lb
  | .own 5 => ob
  | _ => none
theorem call_lasting {l b : Int} {g : Bool} {kc : List V} {m : Nat} {qc : List V} {ob lb : Option Blk} {a : Nat} (ha : (a + 1) * 64 ≤ kc.length) (hk : kc.length < 1152921504606846976) {lg : Log} {k : Nat} {Q : V → Heap → Log → Prop}
    (hQ : Q (.sl (.arg 1) 0 (a * 64) 64 1 none) (SH l g b kc m qc ob lb) ((k, [.arg 0, .arg 1, .arg 2, .sub 15 (.arg 0), .sub 15 (.arg 1), .sub 15 (.arg 2)], [.arg 0, .arg 1, .arg 2]) :: lg)) :
    callL dcfg.pol (CallR dcfg) (SH l g b kc m qc ob lb) lg k 15 36 [.ptr (.arg 0) 0 0, .int .i64 (a : Int)] Q := by
  unfold callL wCall
  have e1 : callPre dcfg.pol (SH l g b kc m qc ob lb) 36 [.ptr (.arg 0) 0 0, .int .i64 (a : Int)] = some ⟨[.ptr (.arg 0) 0 0, .int .i64 (a : Int)], enterH (SH l g b kc m qc ob lb) [.arg 0, .arg 1, .arg 2], [.arg 0, .arg 1, .arg 2], [], []⟩ := by kernel_rfl
  have e2 : enterH (SH l g b kc m qc ob lb) [.arg 0, .arg 1, .arg 2] = WH l g b kc (.sl (.arg 2) 0 0 m 2 none) (some ⟨0, qc, false, true⟩) := by
    funext i
    match i with
    | .arg 0 => rfl
    | .arg 1 => rfl
    | .arg 2 => rfl
    | .arg (j + 3) => rfl
    | .own _ => rfl
    | .sub _ _ => rfl
  rw [e1]
  simp only [e2]
  refine lasting_spec ha hk ?_
  have e3 : callPost dcfg.pol (SH l g b kc m qc ob lb) 15 36 ⟨[.ptr (.arg 0) 0 0, .int .i64 (a : Int)], WH l g b kc (.sl (.arg 2) 0 0 m 2 none) (some ⟨0, qc, false, true⟩), [.arg 0, .arg 1, .arg 2], [], []⟩ (.sl (.arg 1) 0 (a * 64) 64 1 none) (WH l g b kc (.sl (.arg 2) 0 0 m 2 none) (some ⟨0, qc, false, true⟩)) =
      some ⟨.sl (.arg 1) 0 (a * 64) 64 1 none, [(.arg 0, pblk l g b (kslice kc) (.sl (.arg 2) 0 0 m 2 none)), (.arg 1, ⟨0, kc, false, true⟩), (.arg 2, ⟨0, qc, false, true⟩)], [.arg 0, .arg 1, .arg 2, .sub 15 (.arg 0), .sub 15 (.arg 1), .sub 15 (.arg 2)]⟩ := by kernel_rfl
  rw [e3]
  have e4 : (SH l g b kc m qc ob lb).sets [(.arg 0, pblk l g b (kslice kc) (.sl (.arg 2) 0 0 m 2 none)), (.arg 1, ⟨0, kc, false, true⟩), (.arg 2, ⟨0, qc, false, true⟩)] = SH l g b kc m qc ob lb := by
    funext i
    simp only [Heap.sets, Heap.set]
    by_cases h2 : i = .arg 2
    · subst h2; rfl
    · rw [if_neg h2]
      by_cases h1 : i = .arg 1
      · subst h1; rfl
      · rw [if_neg h1]
        by_cases h0 : i = .arg 0
        · subst h0; rfl
        · rw [if_neg h0]
  show Q (.sl (.arg 1) 0 (a * 64) 64 1 none) ((SH l g b kc m qc ob lb).sets _) _
  rw [e4]
  exact hQ
end Go.Proofs.Ytcamcfplcoklkaa.Iv

namespace Go.Proofs.Ytcamcfplcoklkaa.Iv
open Go
set_option linter.unusedVariables false
set_option linter.unusedSimpArgs false
set_option maxRecDepth 100000
def cellsB (bs : List Int) : List V := bs.map fun u => V.int .u8 u
def qcells : List (Nat × List Int) → List V
  | [] => []
  | x :: r => .int .i64 (x.1 : Int) :: .list (bytesL x.2) false :: qcells r
def put1 (kc : List V) (x : Nat × List Int) : List V := splice kc (x.1 * 64) (cellsB x.2)
def settled (kc : List V) (l : List (Nat × List Int)) : List V := l.foldl put1 kc
theorem flat_bytes : ∀ (bs : List Int), (bytesL bs).flatten = cellsB bs
  | [] => rfl
  | x :: r => by
    have := flat_bytes r
    simp only [bytesL, cellsB, List.map_cons, List.flatten_cons] at this ⊢
    rw [this]; rfl
theorem put1_len {kc : List V} {x : Nat × List Int} (h : x.1 * 64 + x.2.length ≤ kc.length) : (put1 kc x).length = kc.length := by
  simp [put1, splice, cellsB]; omega
theorem qcells_len : ∀ (l : List (Nat × List Int)), (qcells l).length = 2 * l.length
  | [] => rfl
  | x :: r => by simp [qcells, qcells_len r]; omega
theorem qcells_cut : ∀ (l : List (Nat × List Int)) (i : Nat) (x : Nat × List Int), l[i]? = some x → cut (qcells l) (i * 2) 2 = some [.int .i64 (x.1 : Int), .list (bytesL x.2) false]
  | y :: r, 0, x, h => by simp at h; subst h; simp [cut, qcells]
  | y :: r, i + 1, x, h => by
    have := qcells_cut r i x (by simpa using h)
    have e : (i + 1) * 2 = i * 2 + 1 + 1 := by omega
    unfold cut at this ⊢
    rw [e]
    simpa [qcells] using this
theorem copy34 {H : Heap} {o : Nat} {kc : List V} {bs : List Int} (h1 : H (.arg 1) = some ⟨0, kc, false, true⟩) (h2 : o + 64 ≤ kc.length) (h3 : bs.length ≤ 64) :
    evCopy Try.prog H 34 (.sl (.arg 1) 0 o 64 1 none) (.list (bytesL bs) false) = some ⟨.int .i64 (bs.length : Int), [(.arg 1, ⟨0, splice kc o (cellsB bs), false, true⟩)], [.arg 1]⟩ := by
  have l1 : live H (.arg 1) 0 = some ⟨0, kc, false, true⟩ := by simp [live, h1]
  have hall : (bytesL bs).all (fun x => x.length == 1) = true := by simp [bytesL]
  have hl : (bytesL bs).length = bs.length := by simp [bytesL]
  have hc : (cellsB bs).length = bs.length := by simp [cellsB]
  have e : min bs.length 64 = bs.length := by omega
  have ht : (cellsB bs).take bs.length = cellsB bs := List.take_of_length_le (by rw [hc]; omega)
  simp [evCopy, u34b, sz5, src, hall, flat_bytes, l1, hl, hc, h2, e, ht]
theorem SH_own5 {l b : Int} {g : Bool} {kc : List V} {m : Nat} {qc : List V} {ob lb : Option Blk} {x : Blk} : (SH l g b kc m qc ob lb).sets [(.own 5, x)] = SH l g b kc m qc (some x) lb := by
  funext i
  simp only [Heap.sets, Heap.set]
  by_cases h2 : i = .own 5
  · subst h2; rfl
  · rw [if_neg h2]
    unfold SH
    split <;> first | rfl | (exfalso; exact h2 rfl)
theorem SH_arg1 {l b : Int} {g : Bool} {kc kc' : List V} {m : Nat} {qc : List V} {ob lb : Option Blk} (h : kc'.length = kc.length) : (SH l g b kc m qc ob lb).sets [(.arg 1, ⟨0, kc', false, true⟩)] = SH l g b kc' m qc ob lb := by
  funext i
  simp only [Heap.sets, Heap.set]
  by_cases h2 : i = .arg 1
  · subst h2; rfl
  · rw [if_neg h2]
    unfold SH kslice
    rw [h]
    split <;> first | rfl | (exfalso; exact h2 rfl)
theorem ia47 {x i} : evIndexAddr Try.prog 47 x i = iaR 2 x i := by kernel_rfl
theorem ld65 {H x} : evLoad Try.prog H 65 x = ldR 2 true H x := by kernel_rfl
theorem st65 {H x v} : evStore Try.prog H 65 x v = stR 2 H x v := by kernel_rfl
theorem fa65_0 {x} : evFieldAddr Try.prog 65 x 0 = faR 0 x := by kernel_rfl
theorem fa65_1 {x} : evFieldAddr Try.prog 65 x 1 = faR 1 x := by kernel_rfl
theorem len47 {x} : evLen Try.prog 47 x = lenS x := by cases x <;> kernel_rfl
set_option maxHeartbeats 2000000 in
theorem settle_loop {l b : Int} {g : Bool} {items : List (Nat × List Int)} {n : Nat} {lim : Option Nat} (hn : n ≤ items.length) (hn2 : items.length < 1000000) {N : Nat} (hN : N < 1152921504606846976) (hit : ∀ x ∈ items, (x.1 + 1) * 64 ≤ N ∧ x.2.length ≤ 64) {lb : Option Blk} {m : Nat} {qc : List V} {sid : Id} (hsid : ∀ kc ob, SH l g b kc m qc ob lb sid = some ⟨0, qcells items, false, true⟩) {t1 : V} {kc0 : List V} {Q : KQ}
    (hx : ∀ (i : Nat) t2 t3 t4 t5 t9 t10 t11 t12 t13 t14 t15 t16 t17 t18 t19 ob, Q (.exit 0) [.ptr (.arg 0) 0 0, t1, t2, t3, t4, t5, .sl sid 0 0 n 2 lim, .int .i64 (n : Int), .int .i64 (i : Int), t9, t10, t11, t12, t13, t14, t15, t16, t17, t18, t19] (SH l g b (settled kc0 (items.take n)) m qc ob lb)) :
    ∀ (k i : Nat), i + k = n → ∀ kc, kc.length = N → settled kc ((items.take n).drop i) = settled kc0 (items.take n) → ∀ t2 t3 t4 t5 t9 t10 t11 t12 t13 t14 t15 t16 t17 t18 t19 ob, LoopR dcfg c33_4 [.ptr (.arg 0) 0 0, t1, t2, t3, t4, t5, .sl sid 0 0 n 2 lim, .int .i64 (n : Int), .int .i64 (i : Int), t9, t10, t11, t12, t13, t14, t15, t16, t17, t18, t19] (SH l g b kc m qc ob lb) Q := by
  intro k
  induction k with
  | zero =>
    intro i hi kc hkl hs t2 t3 t4 t5 t9 t10 t11 t12 t13 t14 t15 t16 t17 t18 t19 ob
    have e : (items.take n).drop i = [] := List.drop_eq_nil_of_le (by simp; omega)
    rw [e] at hs
    have hs' : kc = settled kc0 (items.take n) := hs
    rw [hs']
    refine LoopR.step ?_
    show wC Try.prog dcfg.pol (CallR dcfg) (LoopR dcfg) c33_4 _ _ _
    simp only [w33_4, w33_5, w33_5_0, w33_6, w33_7, w33_9, seqK]
    refine mk0 _ (bin_lss ..) ?_
    rw [decide_eq_false (by omega)]
    exact condF (hx ..)
  | succ k ih =>
    intro i hi kc hkl hs t2 t3 t4 t5 t9 t10 t11 t12 t13 t14 t15 t16 t17 t18 t19 ob
    refine LoopR.step ?_
    show wC Try.prog dcfg.pol (CallR dcfg) (LoopR dcfg) c33_4 _ _ _
    simp only [w33_4, w33_5, w33_5_0, w33_6, w33_7, w33_8, w33_10, w33_11, w33_12, w33_13, w33_13_0, seqK, ia47, ld65, st65]
    refine mk0 _ (bin_lss ..) ?_
    rw [decide_eq_true (by omega)]
    refine condT ?_
    have hil : i < items.length := by omega
    have hg : items[i]? = some items[i] := List.getElem?_eq_getElem hil
    obtain ⟨q1, q2⟩ := hit items[i] (List.getElem_mem hil)
    refine mk0 (.ptr sid 0 (i * 2)) (by simp [iaR]; omega) ?_
    refine mk (.agg [.int .i64 (items[i].1 : Int), .list (bytesL items[i].2) false]) [] [sid] (by simp [ldR, live, hsid, qcells_cut items i _ hg, mkv]) ?_
    refine mk (.ptr (.own 5) (nextGen (SH l g b kc m qc ob lb) (.own 5)) 0) [(.own 5, ⟨nextGen (SH l g b kc m qc ob lb) (.own 5), [.int .i64 0, .nils], false, false⟩)] [.own 5] (by kernel_rfl) ?_
    generalize nextGen (SH l g b kc m qc ob lb) (.own 5) = gg
    simp only [sets_nilE, SH_own5]
    refine mk .und [(.own 5, ⟨gg, [.int .i64 (items[i].1 : Int), .list (bytesL items[i].2) false], false, false⟩)] [.own 5] (by simp [stR, live, SH, V.cells, fits, V.kept, V.kept0, splice]) ?_
    simp only [SH_own5]
    simp only [w33_14, w33_14_0, seqK, fa65_0, fa65_1, ld3b, ld34b]
    refine mkL0 (.ptr (.arg 0) 0 0) [] (by rfl) ?_
    refine mkL0 (.ptr (.own 5) gg 0) [] (by rfl) ?_
    refine mkL0 (.int .i64 (items[i].1 : Int)) [.own 5] (by simp [ldR, live, SH, cut, mkv]) ?_
    refine call_lasting (by omega) (by omega) ?_
    refine mkL0 (.ptr (.own 5) gg 1) [] (by rfl) ?_
    refine mkL0 (.list (bytesL items[i].2) false) [.own 5] (by simp [ldR, live, SH, cut, mkv]) ?_
    refine mkL _ _ _ (copy34 (kc := kc) (by rfl) (by omega) q2) ?_
    refine ⟨by kernel_rfl, ?_⟩
    have hlen : (splice kc (items[i].1 * 64) (cellsB items[i].2)).length = kc.length := put1_len (x := items[i]) (by omega)
    simp only [SH_arg1 hlen]
    simp only [blockK, seqK, w33_15, w33_15_0]
    refine mk0 _ (bin_add (by omega) (by omega)) ?_
    have hd : (items.take n).drop i = items[i] :: (items.take n).drop (i + 1) := by
      rw [List.drop_eq_getElem_cons (by simp; omega)]
      simp
    rw [hd] at hs
    exact ih (i + 1) (by omega) _ (hlen.trans hkl) hs ..
end Go.Proofs.Ytcamcfplcoklkaa.Iv

namespace Go.Proofs.Ytcamcfplcoklkaa.Iv
open Go
set_option linter.unusedVariables false
set_option linter.unusedSimpArgs false
set_option maxRecDepth 100000
/-- the queue and what is in it -/
inductive QI : V → Option Blk → List (Nat × List Int) → Prop
  | nil : QI .nils none []
  | sl (items : List (Nat × List Int)) : QI (.sl (.arg 2) 0 0 items.length 2 none) (some ⟨0, qcells items, false, true⟩) items
theorem QI.ok {q : V} {qb : Option Blk} {items : List (Nat × List Int)} (h : QI q qb items) : QOK q qb := by cases h <;> constructor
theorem WH_SH {l b : Int} {g : Bool} {kc : List V} {m : Nat} {qc : List V} : WH l g b kc (.sl (.arg 2) 0 0 m 2 none) (some ⟨0, qc, false, true⟩) = SH l g b kc m qc none none := by
  funext i
  match i with
  | .arg 0 => rfl
  | .arg 1 => rfl
  | .arg 2 => rfl
  | .arg 3 => rfl
  | .arg (j + 4) => rfl
  | .own 5 => rfl
  | .own t => unfold WH SH; split <;> first | rfl | (split <;> first | rfl | contradiction) | contradiction
  | .sub _ _ => rfl
theorem settle_spec {l b : Int} {g : Bool} {items : List (Nat × List Int)} {n : Nat} {lim : Option Nat} (hn : n ≤ items.length) (hn2 : items.length < 1000000) {kc : List V} (hN : kc.length < 1152921504606846976) (hit : ∀ x ∈ items, (x.1 + 1) * 64 ≤ kc.length ∧ x.2.length ≤ 64) {lb : Option Blk} {m : Nat} {qc : List V} {sid : Id} (hsid : ∀ kc ob, SH l g b kc m qc ob lb sid = some ⟨0, qcells items, false, true⟩) {Q : V → Heap → Prop}
    (hQ : ∀ ob, Q (.tup []) (SH l g b (settled kc (items.take n)) m qc ob lb)) : CallR dcfg 33 [.ptr (.arg 0) 0 0, .sl sid 0 0 n 2 lim] (SH l g b kc m qc none lb) Q := by
  refine CallR.body' (K := dcfg) (f := 33) (fn := Try.f33) (c := c33_0) (env := [.ptr (.arg 0) 0 0, .sl sid 0 0 n 2 lim, .und, .und, .und, .und, .und, .und, .und, .und, .und, .und, .und, .und, .und, .und, .und, .und, .und, .und]) (rs := []) rfl (by kernel_rfl) (by kernel_rfl) (by kernel_rfl) (by kernel_rfl) (by kernel_rfl) (by kernel_rfl) ?_
  show wC Try.prog dcfg.pol (CallR dcfg) (LoopR dcfg) c33_0 _ _ _
  simp only [w33_0, w33_1, w33_1_0, w33_2, w33_3, seqK, len47]
  refine mk0 (.int .i64 (n : Int)) (by rfl) ?_
  refine settle_loop (N := kc.length) (kc0 := kc) hn hn2 hN hit hsid ?_ n 0 (by omega) kc rfl rfl .und .und .und .und .und .und .und .und .und .und .und .und .und .und .und none
  intros
  exact hQ _
theorem settle_nil {H : Heap} {d : V} {Q : V → Heap → Prop} (hQ : Q (.tup []) H) : CallR dcfg 33 [d, .nils] H Q := by
  refine CallR.body' (K := dcfg) (f := 33) (fn := Try.f33) (c := c33_0) (env := [d, .nils, .und, .und, .und, .und, .und, .und, .und, .und, .und, .und, .und, .und, .und, .und, .und, .und, .und, .und]) (rs := []) rfl (by kernel_rfl) (by kernel_rfl) (by kernel_rfl) (by kernel_rfl) (by kernel_rfl) (by kernel_rfl) ?_
  show wC Try.prog dcfg.pol (CallR dcfg) (LoopR dcfg) c33_0 _ _ _
  simp only [w33_0, w33_1, w33_1_0, w33_2, w33_3, seqK, len47]
  refine mk0 (.int .i64 0) (by rfl) ?_
  refine LoopR.step ?_
  show wC Try.prog dcfg.pol (CallR dcfg) (LoopR dcfg) c33_4 _ _ _
  simp only [w33_4, w33_5, w33_5_0, w33_6, w33_7, w33_9, seqK]
  refine mk0 (.bool false) (by rfl) ?_
  exact condF hQ
theorem WH_enter {l b : Int} {g : Bool} {kc : List V} {q : V} {qb : Option Blk} {items : List (Nat × List Int)} (h : QI q qb items) : enterH (WH l g b kc q qb) [.arg 0, .arg 1, .arg 2] = WH l g b kc q qb := by
  funext i
  match i with
  | .arg 0 => cases h <;> rfl
  | .arg 1 => rfl
  | .arg 2 => cases h <;> rfl
  | .arg (j + 3) => rfl
  | .own _ => rfl
  | .sub _ _ => rfl
/-- a call of settle with the whole queue -/
theorem call_settle {l b : Int} {g : Bool} {items : List (Nat × List Int)} (hn2 : items.length < 1000000) {kc : List V} (hN : kc.length < 1152921504606846976) (hit : ∀ x ∈ items, (x.1 + 1) * 64 ≤ kc.length ∧ x.2.length ≤ 64) {q : V} {qb : Option Blk} (h : QI q qb items) {d : Nat} {Q : V → Heap → Prop}
    (hQ : ∀ v, Q v (WH l g b (settled kc items) q qb)) : callW dcfg.pol (CallR dcfg) (WH l g b kc q qb) d 33 [.ptr (.arg 0) 0 0, q] Q := by
  have hlen : (settled kc items).length = kc.length := by
    clear hQ h hn2 hN
    revert kc
    induction items with
    | nil => intro kc _; rfl
    | cons x r ih =>
      intro kc hit
      have h1 := hit x (by simp)
      have h2 := put1_len (kc := kc) (x := x) (by omega)
      have := ih (kc := put1 kc x) (fun y hy => by rw [h2]; exact hit y (by simp [hy]))
      show (settled (put1 kc x) r).length = _
      rw [this, h2]
  unfold callW wCall
  cases h with
  | nil =>
    have e1 : callPre dcfg.pol (WH l g b kc .nils none) 33 [.ptr (.arg 0) 0 0, .nils] = some ⟨[.ptr (.arg 0) 0 0, .nils], enterH (WH l g b kc .nils none) [.arg 0, .arg 1], [.arg 0, .arg 1], [], []⟩ := by kernel_rfl
    rw [e1]
    refine settle_nil ?_
    have e3 : callPost dcfg.pol (WH l g b kc .nils none) d 33 ⟨[.ptr (.arg 0) 0 0, .nils], enterH (WH l g b kc .nils none) [.arg 0, .arg 1], [.arg 0, .arg 1], [], []⟩ (.tup []) (enterH (WH l g b kc .nils none) [.arg 0, .arg 1]) =
        some ⟨.tup [], [(.arg 0, pblk l g b (kslice kc) .nils), (.arg 1, ⟨0, kc, false, true⟩)], [.arg 0, .arg 1, .sub d (.arg 0), .sub d (.arg 1)]⟩ := by kernel_rfl
    show outW (callPost dcfg.pol (WH l g b kc .nils none) d 33 ⟨[.ptr (.arg 0) 0 0, .nils], enterH (WH l g b kc .nils none) [.arg 0, .arg 1], [.arg 0, .arg 1], [], []⟩ (.tup []) (enterH (WH l g b kc .nils none) [.arg 0, .arg 1])) _
    rw [e3]
    show Q (.tup []) ((WH l g b kc .nils none).sets _)
    have e4 : (WH l g b kc .nils none).sets [(.arg 0, pblk l g b (kslice kc) .nils), (.arg 1, ⟨0, kc, false, true⟩)] = WH l g b kc .nils none := by
      funext i
      simp only [Heap.sets, Heap.set]
      by_cases h1 : i = .arg 1
      · subst h1; rfl
      · rw [if_neg h1]
        by_cases h0 : i = .arg 0
        · subst h0; rfl
        · rw [if_neg h0]
    rw [e4]
    exact hQ _
  | sl =>
    have e1 : callPre dcfg.pol (WH l g b kc (.sl (.arg 2) 0 0 items.length 2 none) (some ⟨0, qcells items, false, true⟩)) 33 [.ptr (.arg 0) 0 0, .sl (.arg 2) 0 0 items.length 2 none] =
        some ⟨[.ptr (.arg 0) 0 0, .sl (.arg 2) 0 0 items.length 2 none], enterH (WH l g b kc (.sl (.arg 2) 0 0 items.length 2 none) (some ⟨0, qcells items, false, true⟩)) [.arg 0, .arg 1, .arg 2], [.arg 0, .arg 1, .arg 2], [], []⟩ := by kernel_rfl
    rw [e1]
    simp only [WH_enter (QI.sl items)]
    rw [WH_SH]
    refine settle_spec (Nat.le_refl _) hn2 hN hit (fun _ _ => rfl) (fun ob => ?_)
    rw [List.take_length]
    have e3 : callPost dcfg.pol (SH l g b kc items.length (qcells items) none none) d 33 ⟨[.ptr (.arg 0) 0 0, .sl (.arg 2) 0 0 items.length 2 none], SH l g b kc items.length (qcells items) none none, [.arg 0, .arg 1, .arg 2], [], []⟩ (.tup []) (SH l g b (settled kc items) items.length (qcells items) ob none) =
        some ⟨.tup [], [(.arg 0, pblk l g b (kslice (settled kc items)) (.sl (.arg 2) 0 0 items.length 2 none)), (.arg 1, ⟨0, settled kc items, false, true⟩), (.arg 2, ⟨0, qcells items, false, true⟩)], [.arg 0, .arg 1, .arg 2, .sub d (.arg 0), .sub d (.arg 1), .sub d (.arg 2)]⟩ := by kernel_rfl
    show outW (callPost dcfg.pol (SH l g b kc items.length (qcells items) none none) d 33 ⟨[.ptr (.arg 0) 0 0, .sl (.arg 2) 0 0 items.length 2 none], SH l g b kc items.length (qcells items) none none, [.arg 0, .arg 1, .arg 2], [], []⟩ (.tup []) (SH l g b (settled kc items) items.length (qcells items) ob none)) _
    rw [e3]
    show Q (.tup []) ((SH l g b kc items.length (qcells items) none none).sets _)
    have e4 : (SH l g b kc items.length (qcells items) none none).sets [(.arg 0, pblk l g b (kslice (settled kc items)) (.sl (.arg 2) 0 0 items.length 2 none)), (.arg 1, ⟨0, settled kc items, false, true⟩), (.arg 2, ⟨0, qcells items, false, true⟩)] =
        SH l g b (settled kc items) items.length (qcells items) none none := by
      funext i
      simp only [Heap.sets, Heap.set]
      by_cases h2 : i = .arg 2
      · subst h2; rfl
      · rw [if_neg h2]
        by_cases h1 : i = .arg 1
        · subst h1; rfl
        · rw [if_neg h1]
          by_cases h0 : i = .arg 0
          · subst h0; rfl
          · rw [if_neg h0]
            unfold SH
            split <;> first | rfl | contradiction
    rw [e4, ← WH_SH]
    exact hQ _
end Go.Proofs.Ytcamcfplcoklkaa.Iv

namespace Go.Proofs.Ytcamcfplcoklkaa.Iv
open Go
set_option linter.unusedVariables false
set_option linter.unusedSimpArgs false
set_option maxRecDepth 100000
theorem view_q {l b : Int} {g : Bool} {kc : List V} {q : V} {qb : Option Blk} {items : List (Nat × List Int)} (h : QI q qb items) : ∃ qv rq, viewC (WH l g b kc q qb) q = some (qv, rq) := by
  cases h with
  | nil => exact ⟨.nils, [], rfl⟩
  | sl =>
    have e : cut (qcells items) 0 (items.length * 2) = some (qcells items) := by
      have := qcells_len items
      unfold cut
      rw [List.drop_zero, List.take_of_length_le (by omega)]
      simp; omega
    refine ⟨.list (chunk 2 items.length (qcells items)) true, [.arg 2], ?_⟩
    simp [viewC, live, WH, e]
theorem dsk_of {l b : Int} {g : Bool} {kc : List V} {q qv : V} {qb : Option Blk} {rq : List Id} (hv : viewC (WH l g b kc q qb) q = some (qv, rq)) : DskH (WH l g b kc q qb) (.arg 0) 0 l g b (.arg 1) kc q qv rq :=
  ⟨⟨0, none, ⟨0, kc, false, true⟩, rfl, rfl, rfl, rfl, rfl⟩, hv⟩
/-- the sectors of so many bytes -/
def secOf (kc : List V) : Int := secs (chunk 1 kc.length kc)
set_option maxHeartbeats 2000000 in
/-- Sync, on a disk -/
theorem sync_spec {l b : Int} {g : Bool} {kc : List V} {q : V} {qb : Option Blk} {items : List (Nat × List Int)} (h : QI q qb items) (hn2 : items.length < 1000000) (hN : kc.length < 1152921504606846976) (hit : ∀ x ∈ items, (x.1 + 1) * 64 ≤ kc.length ∧ x.2.length ≤ 64) {Q : V → Heap → Prop}
    (h1 : secOf kc = 0 → Q (.int .i64 1) (WH l g b kc q qb))
    (h11 : secOf kc ≠ 0 → (g || (l == 0)) = true → Q (.int .i64 11) (WH (left' l) true b kc q qb))
    (h0 : secOf kc ≠ 0 → (g || (l == 0)) = false → Q (.int .i64 0) (WH (left' l) false b (settled kc items) .nils qb)) : CallR dcfg 19 [.ptr (.arg 0) 0 0] (WH l g b kc q qb) Q := by
  obtain ⟨qv, rq, hv⟩ := view_q (l := l) (b := b) (g := g) (kc := kc) h
  refine CallR.body' (K := dcfg) (f := 19) (fn := Try.f19) (c := c19_0) (env := [.ptr (.arg 0) 0 0, .und, .und, .und, .und, .und, .und, .und, .und, .und, .und, .und, .und, .und, .und, .und, .und, .und, .und, .und, .und, .und]) (rs := [.tmp 2]) rfl (by kernel_rfl) (by kernel_rfl) (by kernel_rfl) (by kernel_rfl) (by kernel_rfl) (by kernel_rfl) ?_
  show wC Try.prog dcfg.pol (CallR dcfg) (LoopR dcfg) c19_0 _ _ _
  simp only [w19_0, w19_1, w19_1_0, w19_2, w19_3, w19_4, w19_5, w19_5_0, w19_6, w19_7, w19_8, w19_8_0, w19_9, w19_10, w19_11, w19_11_0, w19_12, w19_13, w19_14, w19_14_0, w19_15, w19_16, w19_17, w19_18, w19_18_0, w19_19, w19_20, w19_20_0, w19_21, w19_22, w19_22_0, w19_23, seqK, blockK, fa49_0, fa49_2, ld47, st47]
  refine call_view (Q := fun o => _) (dsk_of hv) (by kernel_rfl) (by kernel_rfl) (r_sectors ..) ⟨false, .inr ⟨_, _, rfl⟩⟩ ?_
  refine mk0 _ (bin_eql ..) ?_
  by_cases hz : secOf kc = 0
  · have e : (secs (chunk 1 kc.length kc) == 0) = true := by simpa [secOf] using hz
    rw [e]
    exact condT (h1 hz)
  have e : (secs (chunk 1 kc.length kc) == 0) = false := by simpa [secOf] using hz
  rw [e]
  refine condF ?_
  obtain ⟨us, rd, he, hH⟩ := goes_back 11 (l := l) (b := b) (g := g) (kc := kc) h.ok
  refine mk0 (.ptr (.arg 0) 0 0) (by rfl) ?_
  refine mk0 (.ptr (.arg 0) 0 0) (by rfl) ?_
  refine callW_ev he ?_
  simp only [sets_nilE, hH]
  refine mk0 (.bool (g || (l == 0))) (by simp [liftO, evUn]) ?_
  by_cases hg : (g || (l == 0)) = true
  · rw [hg]
    exact condT (h11 hz hg)
  have hg' : (g || (l == 0)) = false := by simpa using hg
  rw [hg']
  refine condF ?_
  refine mk0 (.ptr (.arg 0) 0 0) (by rfl) ?_
  refine mk0 (.ptr (.arg 0) 0 4) (by rfl) ?_
  refine mk q [] [.arg 0] (by rfl) ?_
  simp only [sets_nilE]
  refine call_settle hn2 hN hit h (fun v => ?_)
  refine mk0 (.ptr (.arg 0) 0 0) (by rfl) ?_
  refine mk0 (.ptr (.arg 0) 0 4) (by rfl) ?_
  refine mk .und [(.arg 0, pblk (left' l) false b (kslice (settled kc items)) .nils)] [.arg 0] (by kernel_rfl) ?_
  have e5 : (WH (left' l) false b (settled kc items) q qb).sets [(.arg 0, pblk (left' l) false b (kslice (settled kc items)) .nils)] = WH (left' l) false b (settled kc items) .nils qb := by
    funext i
    simp only [Heap.sets, Heap.set]
    by_cases hi : i = .arg 0
    · subst hi; rfl
    · rw [if_neg hi]
      unfold WH
      split <;> first | rfl | contradiction
  rw [e5]
  exact h0 hz hg'
end Go.Proofs.Ytcamcfplcoklkaa.Iv

namespace Go.Proofs.Ytcamcfplcoklkaa.Iv
open Go
set_option linter.unusedVariables false
set_option linter.unusedSimpArgs false
set_option maxRecDepth 100000
def maxm (n : Int) : Int := if (-1 : Int) > n then -1 else n
theorem fa46_0 {x} : evFieldAddr Try.prog 46 x 0 = faR 0 x := by kernel_rfl
theorem st3b {H x v} : evStore Try.prog H 3 x v = stR 1 H x v := by kernel_rfl
theorem WH_set0 {l b l' b' : Int} {g g' : Bool} {kc : List V} {q q' : V} {qb : Option Blk} : (WH l g b kc q qb).sets [(.arg 0, pblk l' g' b' (kslice kc) q')] = WH l' g' b' kc q' qb := by
  funext i
  simp only [Heap.sets, Heap.set]
  by_cases hi : i = .arg 0
  · subst hi; rfl
  · rw [if_neg hi]
    unfold WH
    split <;> first | rfl | contradiction
/-- Trip and Cap -/
theorem trip_spec {l b n : Int} {g : Bool} {kc : List V} {q : V} {qb : Option Blk} {items : List (Nat × List Int)} (h : QI q qb items) {Q : V → Heap → Prop}
    (h1 : secOf kc > 0 → Q (.tup []) (WH (maxm n) g b kc q qb)) (h0 : ¬ secOf kc > 0 → Q (.tup []) (WH l g b kc q qb)) : CallR dcfg 24 [.ptr (.arg 0) 0 0, .int .i64 n] (WH l g b kc q qb) Q := by
  obtain ⟨qv, rq, hv⟩ := view_q (l := l) (b := b) (g := g) (kc := kc) h
  refine CallR.body' (K := dcfg) (f := 24) (fn := Try.f24) (c := c24_0) (env := [.ptr (.arg 0) 0 0, .int .i64 n, .und, .und, .und, .und, .und, .und, .und, .und, .und, .und, .und]) (rs := []) rfl (by kernel_rfl) (by kernel_rfl) (by kernel_rfl) (by kernel_rfl) (by kernel_rfl) (by kernel_rfl) ?_
  show wC Try.prog dcfg.pol (CallR dcfg) (LoopR dcfg) c24_0 _ _ _
  simp only [w24_0, w24_1, w24_1_0, w24_2, w24_3, w24_3_0, w24_4, seqK, blockK, fa49_0, fa46_0, st3b]
  refine call_view (Q := fun o => _) (dsk_of hv) (by kernel_rfl) (by kernel_rfl) (r_sectors ..) ⟨false, .inr ⟨_, _, rfl⟩⟩ ?_
  refine mk0 _ (bin_gtr ..) ?_
  by_cases hz : secOf kc > 0
  · rw [decide_eq_true (show secs (chunk 1 kc.length kc) > 0 from hz)]
    refine condT ?_
    refine mk0 (.int .i64 (maxm n)) (by rfl) ?_
    refine mk0 (.ptr (.arg 0) 0 0) (by rfl) ?_
    refine mk0 (.ptr (.arg 0) 0 0) (by rfl) ?_
    refine mk0 (.ptr (.arg 0) 0 0) (by rfl) ?_
    refine mk .und [(.arg 0, pblk (maxm n) g b (kslice kc) q)] [.arg 0] (by kernel_rfl) ?_
    simp only [sets_nilE]
    rw [WH_set0]
    exact h1 hz
  · rw [decide_eq_false (show ¬ secs (chunk 1 kc.length kc) > 0 from hz)]
    exact condF (h0 hz)
theorem cap_spec {l b n : Int} {g : Bool} {kc : List V} {q : V} {qb : Option Blk} {items : List (Nat × List Int)} (h : QI q qb items) {Q : V → Heap → Prop}
    (h1 : secOf kc > 0 → Q (.tup []) (WH l g (maxm n) kc q qb)) (h0 : ¬ secOf kc > 0 → Q (.tup []) (WH l g b kc q qb)) : CallR dcfg 25 [.ptr (.arg 0) 0 0, .int .i64 n] (WH l g b kc q qb) Q := by
  obtain ⟨qv, rq, hv⟩ := view_q (l := l) (b := b) (g := g) (kc := kc) h
  refine CallR.body' (K := dcfg) (f := 25) (fn := Try.f25) (c := c25_0) (env := [.ptr (.arg 0) 0 0, .int .i64 n, .und, .und, .und, .und, .und, .und, .und, .und, .und, .und, .und]) (rs := []) rfl (by kernel_rfl) (by kernel_rfl) (by kernel_rfl) (by kernel_rfl) (by kernel_rfl) (by kernel_rfl) ?_
  show wC Try.prog dcfg.pol (CallR dcfg) (LoopR dcfg) c25_0 _ _ _
  simp only [w25_0, w25_1, w25_1_0, w25_2, w25_3, w25_3_0, w25_4, seqK, blockK, fa49_0, fa46_2, st3b]
  refine call_view (Q := fun o => _) (dsk_of hv) (by kernel_rfl) (by kernel_rfl) (r_sectors ..) ⟨false, .inr ⟨_, _, rfl⟩⟩ ?_
  refine mk0 _ (bin_gtr ..) ?_
  by_cases hz : secOf kc > 0
  · rw [decide_eq_true (show secs (chunk 1 kc.length kc) > 0 from hz)]
    refine condT ?_
    refine mk0 (.int .i64 (maxm n)) (by rfl) ?_
    refine mk0 (.ptr (.arg 0) 0 0) (by rfl) ?_
    refine mk0 (.ptr (.arg 0) 0 0) (by rfl) ?_
    refine mk0 (.ptr (.arg 0) 0 2) (by rfl) ?_
    refine mk .und [(.arg 0, pblk l g (maxm n) (kslice kc) q)] [.arg 0] (by kernel_rfl) ?_
    simp only [sets_nilE]
    rw [WH_set0]
    exact h1 hz
  · rw [decide_eq_false (show ¬ secs (chunk 1 kc.length kc) > 0 from hz)]
    exact condF (h0 hz)
end Go.Proofs.Ytcamcfplcoklkaa.Iv
