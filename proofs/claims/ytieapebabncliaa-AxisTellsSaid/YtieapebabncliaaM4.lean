import Derived.Test.YtieapebabncliaaM3
import Derived.Test.YtieapebabncliaaProg
namespace Go.Proofs.Ytieapebabncliaa.Iv
open Go
set_option linter.unusedVariables false
section
variable {pol : Nat → Pol} {cl : CallW} {lp : LoopW} {env : List V} {g : Nat → V} {H : Heap} {lg : Log} {Q : KQ} {R : List V → Heap → Prop} {L : List V → Heap → Log → Prop}

-- incipit/incipitlaw19.AxisTells
noncomputable def c8_0 : Code := cAt [] (bodyOf Try.f8)
noncomputable def c8_1 : Code := cAt [0] (bodyOf Try.f8)
noncomputable def o8_1 : Array Oper := opsOf c8_1
noncomputable def d8_1_0 : List Oper := o8_1.toList
noncomputable def c8_2 : Code := cAt [1] (bodyOf Try.f8)
noncomputable def c8_3 : Code := cAt [1, 0] (bodyOf Try.f8)
noncomputable def c8_4 : Code := cAt [1, 0, 0] (bodyOf Try.f8)
noncomputable def o8_4 : Array Oper := opsOf c8_4
noncomputable def d8_4_0 : List Oper := o8_4.toList
noncomputable def c8_5 : Code := cAt [1, 0, 1] (bodyOf Try.f8)
noncomputable def c8_6 : Code := cAt [1, 0, 1, 0] (bodyOf Try.f8)
noncomputable def c8_7 : Code := cAt [1, 0, 1, 0, 0] (bodyOf Try.f8)
noncomputable def o8_7 : Array Oper := opsOf c8_7
noncomputable def d8_7_0 : List Oper := o8_7.toList
noncomputable def c8_8 : Code := cAt [1, 0, 1, 0, 1] (bodyOf Try.f8)
noncomputable def c8_9 : Code := cAt [1, 0, 1, 1] (bodyOf Try.f8)
noncomputable def c8_10 : Code := cAt [1, 1] (bodyOf Try.f8)
noncomputable def c8_11 : Code := cAt [1, 1, 0] (bodyOf Try.f8)
noncomputable def o8_11 : Array Oper := opsOf c8_11
noncomputable def d8_11_0 : List Oper := o8_11.toList
noncomputable def c8_12 : Code := cAt [1, 1, 1] (bodyOf Try.f8)
noncomputable def c8_13 : Code := cAt [1, 1, 1, 0] (bodyOf Try.f8)
noncomputable def c8_14 : Code := cAt [1, 1, 1, 0, 0] (bodyOf Try.f8)
noncomputable def o8_14 : Array Oper := opsOf c8_14
noncomputable def d8_14_0 : List Oper := o8_14.toList
noncomputable def c8_15 : Code := cAt [1, 1, 1, 0, 1] (bodyOf Try.f8)
noncomputable def c8_16 : Code := cAt [1, 1, 1, 0, 1, 0] (bodyOf Try.f8)
noncomputable def c8_17 : Code := cAt [1, 1, 1, 0, 1, 0, 0] (bodyOf Try.f8)
noncomputable def c8_18 : Code := cAt [1, 1, 1, 0, 1, 0, 0, 0] (bodyOf Try.f8)
noncomputable def c8_19 : Code := cAt [1, 1, 1, 0, 1, 0, 0, 0, 0] (bodyOf Try.f8)
noncomputable def o8_19 : Array Oper := opsOf c8_19
noncomputable def d8_19_0 : List Oper := o8_19.toList
noncomputable def c8_20 : Code := cAt [1, 1, 1, 0, 1, 0, 0, 0, 1] (bodyOf Try.f8)
noncomputable def c8_21 : Code := cAt [1, 1, 1, 0, 1, 0, 0, 0, 1, 0] (bodyOf Try.f8)
noncomputable def c8_22 : Code := cAt [1, 1, 1, 0, 1, 0, 0, 0, 1, 1] (bodyOf Try.f8)
noncomputable def c8_23 : Code := cAt [1, 1, 1, 0, 1, 0, 0, 1] (bodyOf Try.f8)
noncomputable def c8_24 : Code := cAt [1, 1, 1, 0, 1, 0, 0, 1, 0] (bodyOf Try.f8)
noncomputable def c8_25 : Code := cAt [1, 1, 1, 0, 1, 0, 0, 1, 0, 0] (bodyOf Try.f8)
noncomputable def c8_26 : Code := cAt [1, 1, 1, 0, 1, 0, 0, 1, 0, 0, 0] (bodyOf Try.f8)
noncomputable def c8_27 : Code := cAt [1, 1, 1, 0, 1, 0, 0, 1, 0, 0, 0, 0] (bodyOf Try.f8)
noncomputable def o8_27 : Array Oper := opsOf c8_27
noncomputable def d8_27_0 : List Oper := o8_27.toList
noncomputable def p8_27_0 : List Oper := d8_27_0.take 12
noncomputable def d8_27_12 : List Oper := d8_27_0.drop 12
noncomputable def c8_28 : Code := cAt [1, 1, 1, 0, 1, 0, 0, 1, 0, 0, 0, 1] (bodyOf Try.f8)
noncomputable def c8_29 : Code := cAt [1, 1, 1, 0, 1, 0, 0, 1, 0, 0, 0, 1, 0] (bodyOf Try.f8)
noncomputable def c8_30 : Code := cAt [1, 1, 1, 0, 1, 0, 0, 1, 0, 0, 0, 1, 0, 0] (bodyOf Try.f8)
noncomputable def o8_30 : Array Oper := opsOf c8_30
noncomputable def d8_30_0 : List Oper := o8_30.toList
noncomputable def c8_31 : Code := cAt [1, 1, 1, 0, 1, 0, 0, 1, 0, 0, 0, 1, 0, 1] (bodyOf Try.f8)
noncomputable def c8_32 : Code := cAt [1, 1, 1, 0, 1, 0, 0, 1, 0, 0, 0, 1, 1] (bodyOf Try.f8)
noncomputable def c8_33 : Code := cAt [1, 1, 1, 0, 1, 0, 0, 1, 0, 0, 1] (bodyOf Try.f8)
noncomputable def c8_34 : Code := cAt [1, 1, 1, 0, 1, 0, 0, 1, 0, 0, 1, 0] (bodyOf Try.f8)
noncomputable def c8_35 : Code := cAt [1, 1, 1, 0, 1, 0, 0, 1, 0, 0, 1, 0, 0] (bodyOf Try.f8)
noncomputable def o8_35 : Array Oper := opsOf c8_35
noncomputable def d8_35_0 : List Oper := o8_35.toList
noncomputable def p8_35_0 : List Oper := d8_35_0.take 12
noncomputable def d8_35_12 : List Oper := d8_35_0.drop 12
noncomputable def p8_35_12 : List Oper := d8_35_12.take 12
noncomputable def d8_35_24 : List Oper := d8_35_12.drop 12
noncomputable def c8_36 : Code := cAt [1, 1, 1, 0, 1, 0, 0, 1, 0, 0, 1, 0, 1] (bodyOf Try.f8)
noncomputable def c8_37 : Code := cAt [1, 1, 1, 0, 1, 0, 0, 1, 0, 0, 1, 0, 1, 0] (bodyOf Try.f8)
noncomputable def c8_38 : Code := cAt [1, 1, 1, 0, 1, 0, 0, 1, 0, 0, 1, 0, 1, 0, 0] (bodyOf Try.f8)
noncomputable def o8_38 : Array Oper := opsOf c8_38
noncomputable def d8_38_0 : List Oper := o8_38.toList
noncomputable def c8_39 : Code := cAt [1, 1, 1, 0, 1, 0, 0, 1, 0, 0, 1, 0, 1, 0, 1] (bodyOf Try.f8)
noncomputable def c8_40 : Code := cAt [1, 1, 1, 0, 1, 0, 0, 1, 0, 0, 1, 0, 1, 1] (bodyOf Try.f8)
noncomputable def c8_41 : Code := cAt [1, 1, 1, 0, 1, 0, 0, 1, 0, 0, 1, 1] (bodyOf Try.f8)
noncomputable def c8_42 : Code := cAt [1, 1, 1, 0, 1, 0, 0, 1, 0, 0, 1, 1, 0] (bodyOf Try.f8)
noncomputable def o8_42 : Array Oper := opsOf c8_42
noncomputable def d8_42_0 : List Oper := o8_42.toList
noncomputable def c8_43 : Code := cAt [1, 1, 1, 0, 1, 0, 0, 1, 0, 0, 1, 1, 1] (bodyOf Try.f8)
noncomputable def c8_44 : Code := cAt [1, 1, 1, 0, 1, 0, 0, 1, 0, 0, 1, 1, 1, 0] (bodyOf Try.f8)
noncomputable def o8_44 : Array Oper := opsOf c8_44
noncomputable def d8_44_0 : List Oper := o8_44.toList
noncomputable def c8_45 : Code := cAt [1, 1, 1, 0, 1, 0, 0, 1, 0, 0, 1, 1, 1, 1] (bodyOf Try.f8)
noncomputable def o8_45 : Array Oper := opsOf c8_45
noncomputable def d8_45_0 : List Oper := o8_45.toList
noncomputable def c8_46 : Code := cAt [1, 1, 1, 0, 1, 0, 0, 1, 1] (bodyOf Try.f8)
noncomputable def o8_46 : Array Oper := opsOf c8_46
noncomputable def d8_46_0 : List Oper := o8_46.toList
noncomputable def c8_47 : Code := cAt [1, 1, 1, 1] (bodyOf Try.f8)
noncomputable def c8_48 : Code := cAt [1, 1, 1, 1, 0] (bodyOf Try.f8)
noncomputable def o8_48 : Array Oper := opsOf c8_48
noncomputable def d8_48_0 : List Oper := o8_48.toList
noncomputable def p8_48_0 : List Oper := d8_48_0.take 12
noncomputable def d8_48_12 : List Oper := d8_48_0.drop 12
noncomputable def c8_49 : Code := cAt [1, 1, 1, 1, 1] (bodyOf Try.f8)
noncomputable def c8_50 : Code := cAt [1, 1, 1, 1, 1, 0] (bodyOf Try.f8)
noncomputable def c8_51 : Code := cAt [1, 1, 1, 1, 1, 0, 0] (bodyOf Try.f8)
noncomputable def o8_51 : Array Oper := opsOf c8_51
noncomputable def d8_51_0 : List Oper := o8_51.toList
noncomputable def p8_51_0 : List Oper := d8_51_0.take 12
noncomputable def d8_51_12 : List Oper := d8_51_0.drop 12
noncomputable def p8_51_12 : List Oper := d8_51_12.take 12
noncomputable def d8_51_24 : List Oper := d8_51_12.drop 12
noncomputable def p8_51_24 : List Oper := d8_51_24.take 12
noncomputable def d8_51_36 : List Oper := d8_51_24.drop 12
noncomputable def p8_51_36 : List Oper := d8_51_36.take 12
noncomputable def d8_51_48 : List Oper := d8_51_36.drop 12
noncomputable def c8_52 : Code := cAt [1, 1, 1, 1, 1, 0, 1] (bodyOf Try.f8)
noncomputable def c8_53 : Code := cAt [1, 1, 1, 1, 1, 0, 1, 0] (bodyOf Try.f8)
noncomputable def c8_54 : Code := cAt [1, 1, 1, 1, 1, 0, 1, 0, 0] (bodyOf Try.f8)
noncomputable def o8_54 : Array Oper := opsOf c8_54
noncomputable def d8_54_0 : List Oper := o8_54.toList
noncomputable def c8_55 : Code := cAt [1, 1, 1, 1, 1, 0, 1, 0, 1] (bodyOf Try.f8)
noncomputable def c8_56 : Code := cAt [1, 1, 1, 1, 1, 0, 1, 1] (bodyOf Try.f8)
noncomputable def c8_57 : Code := cAt [1, 1, 1, 1, 1, 1] (bodyOf Try.f8)
noncomputable def c8_58 : Code := cAt [1, 1, 1, 1, 1, 1, 0] (bodyOf Try.f8)
noncomputable def o8_58 : Array Oper := opsOf c8_58
noncomputable def d8_58_0 : List Oper := o8_58.toList
noncomputable def p8_58_0 : List Oper := d8_58_0.take 12
noncomputable def d8_58_12 : List Oper := d8_58_0.drop 12
noncomputable def c8_59 : Code := cAt [1, 1, 1, 1, 1, 1, 1] (bodyOf Try.f8)
theorem w8_0 : wC Try.prog pol cl lp c8_0 env H Q = wC Try.prog pol cl lp c8_1 env H (seqK Try.prog pol cl lp c8_2 Q) := wC_seq (by kernel_rfl)
theorem w8_1 : wC Try.prog pol cl lp c8_1 env H Q = wOps Try.prog pol cl o8_1 d8_1_0 0 env H (Q .nrm) := wC_reg (i := 0) (by kernel_rfl) rfl
theorem w8_1_0 : wOps Try.prog pol cl o8_1 d8_1_0 0 (E 176 g) H R = (
 R (E 176 (u g 6 (.bool false))) H) := by kernel_rfl
theorem w8_2 : wC Try.prog pol cl lp c8_2 env H Q = wC Try.prog pol cl lp c8_3 env H (seqK Try.prog pol cl lp c8_10 Q) := wC_seq (by kernel_rfl)
theorem w8_3 : wC Try.prog pol cl lp c8_3 env H Q = wC Try.prog pol cl lp c8_4 env H (seqK Try.prog pol cl lp c8_5 Q) := wC_seq (by kernel_rfl)
theorem w8_4 : wC Try.prog pol cl lp c8_4 env H Q = wOps Try.prog pol cl o8_4 d8_4_0 0 env H (Q .nrm) := wC_reg (i := 1) (by kernel_rfl) rfl
theorem w8_4_0 : wOps Try.prog pol cl o8_4 d8_4_0 0 (E 176 g) H R = (
 stepW (evLen Try.prog 44 (g 0)) H fun v1 H1 =>
 stepW (liftO (evBin Try.prog 3 .gtr v1 (.int .i64 8))) H1 fun v2 H2 =>
 guardW v2 false H2 (fun q => q ⟨(g 0), [], []⟩) fun v3 H3 =>
 guardW v2 false H3 (outW (evLen Try.prog 44 v3)) fun v4 H4 =>
 guardW v2 false H4 (outW (liftO (evBin Try.prog 3 .eql v4 (.int .i64 0)))) fun v5 H5 =>
 stepW (pickO v2 (.bool true) v5) H5 fun v6 H6 =>
 R (E 176 (u (u (u (u (u (u (u (u g 14 (g 0)) 15 v1) 16 v2) 17 v2) 18 v3) 19 v4) 20 v5) 21 v6)) H6) := by kernel_rfl
theorem w8_5 : wC Try.prog pol cl lp c8_5 env H Q = condW (evOperand env (Operand.tmp 21)) (wC Try.prog pol cl lp c8_6 env H Q) (wC Try.prog pol cl lp c8_9 env H Q) := wC_cond (by kernel_rfl)
theorem w8_6 : wC Try.prog pol cl lp c8_6 env H Q = wC Try.prog pol cl lp c8_7 env H (seqK Try.prog pol cl lp c8_8 Q) := wC_seq (by kernel_rfl)
theorem w8_7 : wC Try.prog pol cl lp c8_7 env H Q = wOps Try.prog pol cl o8_7 d8_7_0 0 env H (Q .nrm) := wC_reg (i := 2) (by kernel_rfl) rfl
theorem w8_7_0 : wOps Try.prog pol cl o8_7 d8_7_0 0 (E 176 g) H R = (
 callW pol cl H 22 10 [] fun v1 H1 =>
 R (E 176 (u (u g 6 v1) 22 v1)) H1) := by kernel_rfl
theorem w8_8 : wC Try.prog pol cl lp c8_8 env H Q = Q .ret env H := wC_ret (by kernel_rfl)
theorem w8_9 : wC Try.prog pol cl lp c8_9 env H Q = Q .nrm env H := wC_skip (by kernel_rfl)
theorem w8_10 : wC Try.prog pol cl lp c8_10 env H Q = wC Try.prog pol cl lp c8_11 env H (seqK Try.prog pol cl lp c8_12 Q) := wC_seq (by kernel_rfl)
theorem w8_11 : wC Try.prog pol cl lp c8_11 env H Q = wOps Try.prog pol cl o8_11 d8_11_0 0 env H (Q .nrm) := wC_reg (i := 3) (by kernel_rfl) rfl
theorem w8_11_0 : wOps Try.prog pol cl o8_11 d8_11_0 0 (E 176 g) H R = (
 R (E 176 (u (u (u g 7 (.bool true)) 8 (.bool false)) 9 (.bool true))) H) := by kernel_rfl
theorem w8_12 : wC Try.prog pol cl lp c8_12 env H Q = wC Try.prog pol cl lp c8_13 env H (seqK Try.prog pol cl lp c8_47 Q) := wC_seq (by kernel_rfl)
theorem w8_13 : wC Try.prog pol cl lp c8_13 env H Q = wC Try.prog pol cl lp c8_14 env H (seqK Try.prog pol cl lp c8_15 Q) := wC_seq (by kernel_rfl)
theorem w8_14 : wC Try.prog pol cl lp c8_14 env H Q = wOps Try.prog pol cl o8_14 d8_14_0 0 env H (Q .nrm) := wC_reg (i := 4) (by kernel_rfl) rfl
theorem w8_14_0 : wOps Try.prog pol cl o8_14 d8_14_0 0 (E 176 g) H R = (
 R (E 176 (u g 10 (.int .i64 0))) H) := by kernel_rfl
theorem w8_15 : wC Try.prog pol cl lp c8_15 env H Q = wC Try.prog pol cl lp c8_16 env H (blockK 0 Q) := wC_block (by kernel_rfl)
theorem w8_16 : wC Try.prog pol cl lp c8_16 env H Q = lp c8_17 env H Q := wC_loop (by kernel_rfl)
theorem w8_17 : wC Try.prog pol cl lp c8_17 env H Q = wC Try.prog pol cl lp c8_18 env H (seqK Try.prog pol cl lp c8_23 Q) := wC_seq (by kernel_rfl)
theorem w8_18 : wC Try.prog pol cl lp c8_18 env H Q = wC Try.prog pol cl lp c8_19 env H (seqK Try.prog pol cl lp c8_20 Q) := wC_seq (by kernel_rfl)
theorem w8_19 : wC Try.prog pol cl lp c8_19 env H Q = wOps Try.prog pol cl o8_19 d8_19_0 0 env H (Q .nrm) := wC_reg (i := 5) (by kernel_rfl) rfl
theorem w8_19_0 : wOps Try.prog pol cl o8_19 d8_19_0 0 (E 176 g) H R = (
 stepW (evLen Try.prog 44 (g 0)) H fun v1 H1 =>
 stepW (liftO (evBin Try.prog 3 .lss (g 10) v1)) H1 fun v2 H2 =>
 R (E 176 (u (u (u (u g 23 (g 10)) 24 (g 0)) 25 v1) 26 v2)) H2) := by kernel_rfl
theorem w8_20 : wC Try.prog pol cl lp c8_20 env H Q = condW (evOperand env (Operand.tmp 26)) (wC Try.prog pol cl lp c8_21 env H Q) (wC Try.prog pol cl lp c8_22 env H Q) := wC_cond (by kernel_rfl)
theorem w8_21 : wC Try.prog pol cl lp c8_21 env H Q = Q .nrm env H := wC_skip (by kernel_rfl)
theorem w8_22 : wC Try.prog pol cl lp c8_22 env H Q = Q (.exit 0) env H := wC_exit (by kernel_rfl)
theorem w8_23 : wC Try.prog pol cl lp c8_23 env H Q = wC Try.prog pol cl lp c8_24 env H (seqK Try.prog pol cl lp c8_46 Q) := wC_seq (by kernel_rfl)
theorem w8_24 : wC Try.prog pol cl lp c8_24 env H Q = wC Try.prog pol cl lp c8_25 env H (blockK 1 Q) := wC_block (by kernel_rfl)
theorem w8_25 : wC Try.prog pol cl lp c8_25 env H Q = wC Try.prog pol cl lp c8_26 env H (seqK Try.prog pol cl lp c8_33 Q) := wC_seq (by kernel_rfl)
theorem w8_26 : wC Try.prog pol cl lp c8_26 env H Q = wC Try.prog pol cl lp c8_27 env H (seqK Try.prog pol cl lp c8_28 Q) := wC_seq (by kernel_rfl)
theorem w8_27 : wC Try.prog pol cl lp c8_27 env H Q = wOps Try.prog pol cl o8_27 d8_27_0 0 env H (Q .nrm) := wC_reg (i := 7) (by kernel_rfl) rfl
theorem w8_27_0c : wOps Try.prog pol cl o8_27 d8_27_0 0 env H R = wOps Try.prog pol cl o8_27 p8_27_0 0 env H (fun env H => wOps Try.prog pol cl o8_27 d8_27_12 12 env H R) := wOps_cut (by kernel_rfl) (by kernel_rfl)
theorem w8_27_0 : wOps Try.prog pol cl o8_27 p8_27_0 0 (E 176 g) H R = (
 stepW (evIndexAddr Try.prog 44 (g 0) (g 10)) H fun v1 H1 =>
 stepW (evFieldAddr Try.prog 47 v1 0) H1 fun v2 H2 =>
 stepW (evLoad Try.prog H2 26 v2) H2 fun v3 H3 =>
 stepW (evLen Try.prog 26 v3) H3 fun v4 H4 =>
 stepW (liftO (evBin Try.prog 3 .gtr v4 (.int .i64 40))) H4 fun v5 H5 =>
 guardW v5 false H5 (fun q => q ⟨(g 0), [], []⟩) fun v6 H6 =>
 guardW v5 false H6 (fun q => q ⟨(g 10), [], []⟩) fun v7 H7 =>
 guardW v5 false H7 (outW (evIndexAddr Try.prog 44 v6 v7)) fun v8 H8 =>
 guardW v5 false H8 (outW (evFieldAddr Try.prog 47 v8 1)) fun v9 H9 =>
 R (E 176 (u (u (u (u (u (u (u (u (u (u (u (u g 29 (g 0)) 30 (g 10)) 31 v1) 32 v2) 33 v3) 34 v4) 35 v5) 36 v5) 37 v6) 38 v7) 39 v8) 40 v9)) H9) := by kernel_rfl
theorem w8_27_12 : wOps Try.prog pol cl o8_27 d8_27_12 12 (E 176 g) H R = (
 guardW (g 36) false H (outW (evLoad Try.prog H 26 (g 40))) fun v1 H1 =>
 guardW (g 36) false H1 (outW (evLen Try.prog 26 v1)) fun v2 H2 =>
 guardW (g 36) false H2 (outW (liftO (evBin Try.prog 3 .gtr v2 (.int .i64 40)))) fun v3 H3 =>
 stepW (pickO (g 36) (.bool true) v3) H3 fun v4 H4 =>
 R (E 176 (u (u (u (u g 41 v1) 42 v2) 43 v3) 44 v4)) H4) := by kernel_rfl
theorem w8_28 : wC Try.prog pol cl lp c8_28 env H Q = condW (evOperand env (Operand.tmp 44)) (wC Try.prog pol cl lp c8_29 env H Q) (wC Try.prog pol cl lp c8_32 env H Q) := wC_cond (by kernel_rfl)
theorem w8_29 : wC Try.prog pol cl lp c8_29 env H Q = wC Try.prog pol cl lp c8_30 env H (seqK Try.prog pol cl lp c8_31 Q) := wC_seq (by kernel_rfl)
theorem w8_30 : wC Try.prog pol cl lp c8_30 env H Q = wOps Try.prog pol cl o8_30 d8_30_0 0 env H (Q .nrm) := wC_reg (i := 8) (by kernel_rfl) rfl
theorem w8_30_0 : wOps Try.prog pol cl o8_30 d8_30_0 0 (E 176 g) H R = (
 callW pol cl H 45 10 [] fun v1 H1 =>
 R (E 176 (u (u g 6 v1) 45 v1)) H1) := by kernel_rfl
theorem w8_31 : wC Try.prog pol cl lp c8_31 env H Q = Q .ret env H := wC_ret (by kernel_rfl)
theorem w8_32 : wC Try.prog pol cl lp c8_32 env H Q = Q .nrm env H := wC_skip (by kernel_rfl)
theorem w8_33 : wC Try.prog pol cl lp c8_33 env H Q = wC Try.prog pol cl lp c8_34 env H (seqK Try.prog pol cl lp c8_41 Q) := wC_seq (by kernel_rfl)
theorem w8_34 : wC Try.prog pol cl lp c8_34 env H Q = wC Try.prog pol cl lp c8_35 env H (seqK Try.prog pol cl lp c8_36 Q) := wC_seq (by kernel_rfl)
theorem w8_35 : wC Try.prog pol cl lp c8_35 env H Q = wOps Try.prog pol cl o8_35 d8_35_0 0 env H (Q .nrm) := wC_reg (i := 9) (by kernel_rfl) rfl
theorem w8_35_0c : wOps Try.prog pol cl o8_35 d8_35_0 0 env H R = wOps Try.prog pol cl o8_35 p8_35_0 0 env H (fun env H => wOps Try.prog pol cl o8_35 d8_35_12 12 env H R) := wOps_cut (by kernel_rfl) (by kernel_rfl)
theorem w8_35_0 : wOps Try.prog pol cl o8_35 p8_35_0 0 (E 176 g) H R = (
 stepW (evIndexAddr Try.prog 44 (g 0) (g 10)) H fun v1 H1 =>
 stepW (evFieldAddr Try.prog 47 v1 0) H1 fun v2 H2 =>
 stepW (evLoad Try.prog H2 26 v2) H2 fun v3 H3 =>
 callW pol cl H3 52 36 [v3, (g 1)] fun v4 H4 =>
 guardW v4 true H4 (fun q => q ⟨(g 2), [], []⟩) fun v5 H5 =>
 guardW v4 true H5 (fun q => q ⟨(g 10), [], []⟩) fun v6 H6 =>
 guardW v4 true H6 (wCall pol cl H6 56 37 [v5, v6]) fun v7 H7 =>
 guardW v4 true H7 (outW (liftO (evUn .not v7))) fun v8 H8 =>
 R (E 176 (u (u (u (u (u (u (u (u (u (u (u (u g 46 (g 0)) 47 (g 10)) 48 v1) 49 v2) 50 v3) 51 (g 1)) 52 v4) 53 v4) 54 v5) 55 v6) 56 v7) 57 v8)) H8) := by kernel_rfl
theorem w8_35_12c : wOps Try.prog pol cl o8_35 d8_35_12 12 env H R = wOps Try.prog pol cl o8_35 p8_35_12 12 env H (fun env H => wOps Try.prog pol cl o8_35 d8_35_24 24 env H R) := wOps_cut (by kernel_rfl) (by kernel_rfl)
theorem w8_35_12 : wOps Try.prog pol cl o8_35 p8_35_12 12 (E 176 g) H R = (
 stepW (pickO (g 53) (g 57) (.bool false)) H fun v1 H1 =>
 guardW v1 false H1 (fun q => q ⟨(g 0), [], []⟩) fun v2 H2 =>
 guardW v1 false H2 (fun q => q ⟨(g 10), [], []⟩) fun v3 H3 =>
 guardW v1 false H3 (outW (evIndexAddr Try.prog 44 v2 v3)) fun v4 H4 =>
 guardW v1 false H4 (outW (evFieldAddr Try.prog 47 v4 1)) fun v5 H5 =>
 guardW v1 false H5 (outW (evLoad Try.prog H5 26 v5)) fun v6 H6 =>
 guardW v1 false H6 (fun q => q ⟨(g 1), [], []⟩) fun v7 H7 =>
 guardW v1 false H7 (wCall pol cl H7 66 36 [v6, v7]) fun v8 H8 =>
 guardW v1 false H8 (fun q => q ⟨v8, [], []⟩) fun v9 H9 =>
 guardW v9 true H9 (fun q => q ⟨(g 2), [], []⟩) fun v10 H10 =>
 guardW v9 true H10 (fun q => q ⟨(g 10), [], []⟩) fun v11 H11 =>
 R (E 176 (u (u (u (u (u (u (u (u (u (u (u (u g 58 v1) 59 v1) 60 v2) 61 v3) 62 v4) 63 v5) 64 v6) 65 v7) 66 v8) 67 v9) 68 v10) 69 v11)) H11) := by kernel_rfl
theorem w8_35_24 : wOps Try.prog pol cl o8_35 d8_35_24 24 (E 176 g) H R = (
 guardW (g 67) true H (wCall pol cl H 70 37 [(g 68), (g 69)]) fun v1 H1 =>
 guardW (g 59) false H1 (outW (pickO (g 67) v1 (.bool false))) fun v2 H2 =>
 stepW (pickO (g 59) (.bool true) v2) H2 fun v3 H3 =>
 R (E 176 (u (u (u g 70 v1) 71 v2) 72 v3)) H3) := by kernel_rfl
theorem w8_36 : wC Try.prog pol cl lp c8_36 env H Q = condW (evOperand env (Operand.tmp 72)) (wC Try.prog pol cl lp c8_37 env H Q) (wC Try.prog pol cl lp c8_40 env H Q) := wC_cond (by kernel_rfl)
theorem w8_37 : wC Try.prog pol cl lp c8_37 env H Q = wC Try.prog pol cl lp c8_38 env H (seqK Try.prog pol cl lp c8_39 Q) := wC_seq (by kernel_rfl)
theorem w8_38 : wC Try.prog pol cl lp c8_38 env H Q = wOps Try.prog pol cl o8_38 d8_38_0 0 env H (Q .nrm) := wC_reg (i := 10) (by kernel_rfl) rfl
theorem w8_38_0 : wOps Try.prog pol cl o8_38 d8_38_0 0 (E 176 g) H R = (
 callW pol cl H 73 10 [] fun v1 H1 =>
 R (E 176 (u (u g 6 v1) 73 v1)) H1) := by kernel_rfl
theorem w8_39 : wC Try.prog pol cl lp c8_39 env H Q = Q .ret env H := wC_ret (by kernel_rfl)
theorem w8_40 : wC Try.prog pol cl lp c8_40 env H Q = Q .nrm env H := wC_skip (by kernel_rfl)
theorem w8_41 : wC Try.prog pol cl lp c8_41 env H Q = wC Try.prog pol cl lp c8_42 env H (seqK Try.prog pol cl lp c8_43 Q) := wC_seq (by kernel_rfl)
theorem w8_42 : wC Try.prog pol cl lp c8_42 env H Q = wOps Try.prog pol cl o8_42 d8_42_0 0 env H (Q .nrm) := wC_reg (i := 11) (by kernel_rfl) rfl
theorem w8_42_0 : wOps Try.prog pol cl o8_42 d8_42_0 0 (E 176 g) H R = (
 guardW (g 7) true H (fun q => q ⟨(g 2), [], []⟩) fun v1 H1 =>
 guardW (g 7) true H1 (fun q => q ⟨(g 10), [], []⟩) fun v2 H2 =>
 guardW (g 7) true H2 (wCall pol cl H2 78 37 [v1, v2]) fun v3 H3 =>
 stepW (pickO (g 7) v3 (.bool false)) H3 fun v4 H4 =>
 R (E 176 (u (u (u (u (u (u (u g 7 v4) 74 (g 7)) 75 (g 7)) 76 v1) 77 v2) 78 v3) 79 v4)) H4) := by kernel_rfl
theorem w8_43 : wC Try.prog pol cl lp c8_43 env H Q = wC Try.prog pol cl lp c8_44 env H (seqK Try.prog pol cl lp c8_45 Q) := wC_seq (by kernel_rfl)
theorem w8_44 : wC Try.prog pol cl lp c8_44 env H Q = wOps Try.prog pol cl o8_44 d8_44_0 0 env H (Q .nrm) := wC_reg (i := 12) (by kernel_rfl) rfl
theorem w8_44_0 : wOps Try.prog pol cl o8_44 d8_44_0 0 (E 176 g) H R = (
 guardW (g 8) false H (fun q => q ⟨(g 2), [], []⟩) fun v1 H1 =>
 guardW (g 8) false H1 (fun q => q ⟨(g 10), [], []⟩) fun v2 H2 =>
 guardW (g 8) false H2 (wCall pol cl H2 84 37 [v1, v2]) fun v3 H3 =>
 stepW (pickO (g 8) (.bool true) v3) H3 fun v4 H4 =>
 R (E 176 (u (u (u (u (u (u (u g 8 v4) 80 (g 8)) 81 (g 8)) 82 v1) 83 v2) 84 v3) 85 v4)) H4) := by kernel_rfl
theorem w8_45 : wC Try.prog pol cl lp c8_45 env H Q = wOps Try.prog pol cl o8_45 d8_45_0 0 env H (Q .nrm) := wC_reg (i := 13) (by kernel_rfl) rfl
theorem w8_45_0 : wOps Try.prog pol cl o8_45 d8_45_0 0 (E 176 g) H R = (
 guardW (g 9) true H (fun q => q ⟨(g 0), [], []⟩) fun v1 H1 =>
 guardW (g 9) true H1 (fun q => q ⟨(g 10), [], []⟩) fun v2 H2 =>
 guardW (g 9) true H2 (outW (evIndexAddr Try.prog 44 v1 v2)) fun v3 H3 =>
 guardW (g 9) true H3 (outW (evLoad Try.prog H3 47 v3)) fun v4 H4 =>
 guardW (g 9) true H4 (wCall pol cl H4 92 31 [v4]) fun v5 H5 =>
 stepW (pickO (g 9) v5 (.bool false)) H5 fun v6 H6 =>
 R (E 176 (u (u (u (u (u (u (u (u (u g 9 v6) 86 (g 9)) 87 (g 9)) 88 v1) 89 v2) 90 v3) 91 v4) 92 v5) 93 v6)) H6) := by kernel_rfl
theorem w8_46 : wC Try.prog pol cl lp c8_46 env H Q = wOps Try.prog pol cl o8_46 d8_46_0 0 env H (Q .nrm) := wC_reg (i := 6) (by kernel_rfl) rfl
theorem w8_46_0 : wOps Try.prog pol cl o8_46 d8_46_0 0 (E 176 g) H R = (
 stepW (liftO (evBin Try.prog 3 .add (g 10) (.int .i64 1))) H fun v1 H1 =>
 R (E 176 (u (u (u g 10 v1) 27 (g 10)) 28 v1)) H1) := by kernel_rfl
theorem w8_47 : wC Try.prog pol cl lp c8_47 env H Q = wC Try.prog pol cl lp c8_48 env H (seqK Try.prog pol cl lp c8_49 Q) := wC_seq (by kernel_rfl)
theorem w8_48 : wC Try.prog pol cl lp c8_48 env H Q = wOpsL Try.prog pol cl o8_48 d8_48_0 0 env H [] (fun env H lg => logOk o8_48 lg = true ∧ Q .nrm env H) := wC_regL (i := 14) (by kernel_rfl) rfl
theorem w8_48_0c : wOpsL Try.prog pol cl o8_48 d8_48_0 0 env H lg L = wOpsL Try.prog pol cl o8_48 p8_48_0 0 env H lg (fun env H lg => wOpsL Try.prog pol cl o8_48 d8_48_12 12 env H lg L) := wOpsL_cut (by kernel_rfl) (by kernel_rfl)
theorem w8_48_0 : wOpsL Try.prog pol cl o8_48 p8_48_0 0 (E 176 g) H lg L = (
 stepL (pureO (g 0)) H lg 0 fun v1 H1 g1 =>
 callL pol cl H1 g1 1 95 33 [v1] fun v2 H2 g2 =>
 stepL (pureO (g 0)) H2 g2 2 fun v3 H3 g3 =>
 callL pol cl H3 g3 3 97 34 [v3] fun v4 H4 g4 =>
 stepL (pureO (g 0)) H4 g4 4 fun v5 H5 g5 =>
 stepL (evIndexAddr Try.prog 44 v5 (.int .i64 0)) H5 g5 5 fun v6 H6 g6 =>
 stepL (evLoad Try.prog H6 47 v6) H6 g6 6 fun v7 H7 g7 =>
 callL pol cl H7 g7 7 101 30 [v7] fun v8 H8 g8 =>
 stepL (allocO Try.prog H8 11 47) H8 g8 8 fun v9 H9 g9 =>
 stepL (allocO Try.prog H9 12 47) H9 g9 9 fun v10 H10 g10 =>
 stepL (allocO Try.prog H10 13 47) H10 g10 10 fun v11 H11 g11 =>
 stepL (evStore Try.prog H11 47 v9 v2) H11 g11 11 fun v12 H12 g12 =>
 L (E 176 (u (u (u (u (u (u (u (u (u (u (u g 11 v9) 12 v10) 13 v11) 94 v1) 95 v2) 96 v3) 97 v4) 98 v5) 99 v6) 100 v7) 101 v8)) H12 g12) := by kernel_rfl
theorem w8_48_12 : wOpsL Try.prog pol cl o8_48 d8_48_12 12 (E 176 g) H lg L = (
 stepL (evStore Try.prog H 47 (g 12) (g 97)) H lg 12 fun v1 H1 g1 =>
 stepL (evStore Try.prog H1 47 (g 13) (g 101)) H1 g1 13 fun v2 H2 g2 =>
 L (E 176 g) H2 g2) := by kernel_rfl
theorem w8_49 : wC Try.prog pol cl lp c8_49 env H Q = wC Try.prog pol cl lp c8_50 env H (seqK Try.prog pol cl lp c8_57 Q) := wC_seq (by kernel_rfl)
theorem w8_50 : wC Try.prog pol cl lp c8_50 env H Q = wC Try.prog pol cl lp c8_51 env H (seqK Try.prog pol cl lp c8_52 Q) := wC_seq (by kernel_rfl)
theorem w8_51 : wC Try.prog pol cl lp c8_51 env H Q = wOps Try.prog pol cl o8_51 d8_51_0 0 env H (Q .nrm) := wC_reg (i := 15) (by kernel_rfl) rfl
theorem w8_51_0c : wOps Try.prog pol cl o8_51 d8_51_0 0 env H R = wOps Try.prog pol cl o8_51 p8_51_0 0 env H (fun env H => wOps Try.prog pol cl o8_51 d8_51_12 12 env H R) := wOps_cut (by kernel_rfl) (by kernel_rfl)
theorem w8_51_0 : wOps Try.prog pol cl o8_51 p8_51_0 0 (E 176 g) H R = (
 stepW (evFieldAddr Try.prog 47 (g 11) 0) H fun v1 H1 =>
 stepW (evLoad Try.prog H1 26 v1) H1 fun v2 H2 =>
 callW pol cl H2 105 26 [v2, (g 1)] fun v3 H3 =>
 guardW v3 true H3 (fun q => q ⟨(g 7), [], []⟩) fun v4 H4 =>
 guardW v3 true H4 (outW (liftO (evUn .not v4))) fun v5 H5 =>
 stepW (pickO v3 v5 (.bool false)) H5 fun v6 H6 =>
 guardW v6 false H6 (outW (evFieldAddr Try.prog 47 (g 11) 1)) fun v7 H7 =>
 guardW v6 false H7 (outW (evLoad Try.prog H7 26 v7)) fun v8 H8 =>
 guardW v6 false H8 (fun q => q ⟨(g 1), [], []⟩) fun v9 H9 =>
 R (E 176 (u (u (u (u (u (u (u (u (u (u (u (u g 102 v1) 103 v2) 104 (g 1)) 105 v3) 106 v3) 107 v4) 108 v5) 109 v6) 110 v6) 111 v7) 112 v8) 113 v9)) H9) := by kernel_rfl
theorem w8_51_12c : wOps Try.prog pol cl o8_51 d8_51_12 12 env H R = wOps Try.prog pol cl o8_51 p8_51_12 12 env H (fun env H => wOps Try.prog pol cl o8_51 d8_51_24 24 env H R) := wOps_cut (by kernel_rfl) (by kernel_rfl)
theorem w8_51_12 : wOps Try.prog pol cl o8_51 p8_51_12 12 (E 176 g) H R = (
 guardW (g 110) false H (wCall pol cl H 114 26 [(g 112), (g 113)]) fun v1 H1 =>
 guardW (g 110) false H1 (fun q => q ⟨v1, [], []⟩) fun v2 H2 =>
 guardW v2 true H2 (fun q => q ⟨(g 7), [], []⟩) fun v3 H3 =>
 guardW (g 110) false H3 (outW (pickO v2 v3 (.bool false))) fun v4 H4 =>
 stepW (pickO (g 110) (.bool true) v4) H4 fun v5 H5 =>
 guardW v5 false H5 (outW (evFieldAddr Try.prog 47 (g 12) 0)) fun v6 H6 =>
 guardW v5 false H6 (outW (evLoad Try.prog H6 26 v6)) fun v7 H7 =>
 guardW v5 false H7 (fun q => q ⟨(g 1), [], []⟩) fun v8 H8 =>
 guardW v5 false H8 (wCall pol cl H8 123 26 [v7, v8]) fun v9 H9 =>
 guardW v5 false H9 (fun q => q ⟨v9, [], []⟩) fun v10 H10 =>
 guardW v10 true H10 (fun q => q ⟨(g 8), [], []⟩) fun v11 H11 =>
 R (E 176 (u (u (u (u (u (u (u (u (u (u (u (u g 114 v1) 115 v2) 116 v3) 117 v4) 118 v5) 119 v5) 120 v6) 121 v7) 122 v8) 123 v9) 124 v10) 125 v11)) H11) := by kernel_rfl
theorem w8_51_24c : wOps Try.prog pol cl o8_51 d8_51_24 24 env H R = wOps Try.prog pol cl o8_51 p8_51_24 24 env H (fun env H => wOps Try.prog pol cl o8_51 d8_51_36 36 env H R) := wOps_cut (by kernel_rfl) (by kernel_rfl)
theorem w8_51_24 : wOps Try.prog pol cl o8_51 p8_51_24 24 (E 176 g) H R = (
 guardW (g 124) true H (outW (liftO (evUn .not (g 125)))) fun v1 H1 =>
 guardW (g 119) false H1 (outW (pickO (g 124) v1 (.bool false))) fun v2 H2 =>
 stepW (pickO (g 119) (.bool true) v2) H2 fun v3 H3 =>
 guardW v3 false H3 (outW (evFieldAddr Try.prog 47 (g 12) 1)) fun v4 H4 =>
 guardW v3 false H4 (outW (evLoad Try.prog H4 26 v4)) fun v5 H5 =>
 guardW v3 false H5 (fun q => q ⟨(g 1), [], []⟩) fun v6 H6 =>
 guardW v3 false H6 (wCall pol cl H6 133 26 [v5, v6]) fun v7 H7 =>
 guardW v3 false H7 (fun q => q ⟨v7, [], []⟩) fun v8 H8 =>
 guardW v8 true H8 (fun q => q ⟨(g 8), [], []⟩) fun v9 H9 =>
 guardW v3 false H9 (outW (pickO v8 v9 (.bool false))) fun v10 H10 =>
 stepW (pickO v3 (.bool true) v10) H10 fun v11 H11 =>
 R (E 176 (u (u (u (u (u (u (u (u (u (u (u (u g 126 v1) 127 v2) 128 v3) 129 v3) 130 v4) 131 v5) 132 v6) 133 v7) 134 v8) 135 v9) 136 v10) 137 v11)) H11) := by kernel_rfl
theorem w8_51_36c : wOps Try.prog pol cl o8_51 d8_51_36 36 env H R = wOps Try.prog pol cl o8_51 p8_51_36 36 env H (fun env H => wOps Try.prog pol cl o8_51 d8_51_48 48 env H R) := wOps_cut (by kernel_rfl) (by kernel_rfl)
theorem w8_51_36 : wOps Try.prog pol cl o8_51 p8_51_36 36 (E 176 g) H R = (
 guardW (g 137) false H (outW (evFieldAddr Try.prog 47 (g 13) 0)) fun v1 H1 =>
 guardW (g 137) false H1 (outW (evLoad Try.prog H1 26 v1)) fun v2 H2 =>
 guardW (g 137) false H2 (fun q => q ⟨(g 1), [], []⟩) fun v3 H3 =>
 guardW (g 137) false H3 (wCall pol cl H3 142 26 [v2, v3]) fun v4 H4 =>
 guardW (g 137) false H4 (fun q => q ⟨v4, [], []⟩) fun v5 H5 =>
 guardW v5 true H5 (fun q => q ⟨(g 2), [], []⟩) fun v6 H6 =>
 guardW v5 true H6 (wCall pol cl H6 145 37 [v6, (.int .i64 0)]) fun v7 H7 =>
 guardW (g 137) false H7 (outW (pickO v5 v7 (.bool false))) fun v8 H8 =>
 stepW (pickO (g 137) (.bool true) v8) H8 fun v9 H9 =>
 guardW v9 false H9 (outW (evFieldAddr Try.prog 47 (g 13) 1)) fun v10 H10 =>
 R (E 176 (u (u (u (u (u (u (u (u (u (u (u (u g 138 (g 137)) 139 v1) 140 v2) 141 v3) 142 v4) 143 v5) 144 v6) 145 v7) 146 v8) 147 v9) 148 v9) 149 v10)) H10) := by kernel_rfl
theorem w8_51_48 : wOps Try.prog pol cl o8_51 d8_51_48 48 (E 176 g) H R = (
 guardW (g 148) false H (outW (evLoad Try.prog H 26 (g 149))) fun v1 H1 =>
 guardW (g 148) false H1 (fun q => q ⟨(g 1), [], []⟩) fun v2 H2 =>
 guardW (g 148) false H2 (wCall pol cl H2 152 26 [v1, v2]) fun v3 H3 =>
 guardW (g 148) false H3 (fun q => q ⟨v3, [], []⟩) fun v4 H4 =>
 guardW v4 true H4 (fun q => q ⟨(g 2), [], []⟩) fun v5 H5 =>
 guardW v4 true H5 (wCall pol cl H5 155 37 [v5, (.int .i64 0)]) fun v6 H6 =>
 guardW v4 true H6 (outW (liftO (evUn .not v6))) fun v7 H7 =>
 guardW (g 148) false H7 (outW (pickO v4 v7 (.bool false))) fun v8 H8 =>
 stepW (pickO (g 148) (.bool true) v8) H8 fun v9 H9 =>
 R (E 176 (u (u (u (u (u (u (u (u (u g 150 v1) 151 v2) 152 v3) 153 v4) 154 v5) 155 v6) 156 v7) 157 v8) 158 v9)) H9) := by kernel_rfl
theorem w8_52 : wC Try.prog pol cl lp c8_52 env H Q = condW (evOperand env (Operand.tmp 158)) (wC Try.prog pol cl lp c8_53 env H Q) (wC Try.prog pol cl lp c8_56 env H Q) := wC_cond (by kernel_rfl)
theorem w8_53 : wC Try.prog pol cl lp c8_53 env H Q = wC Try.prog pol cl lp c8_54 env H (seqK Try.prog pol cl lp c8_55 Q) := wC_seq (by kernel_rfl)
theorem w8_54 : wC Try.prog pol cl lp c8_54 env H Q = wOps Try.prog pol cl o8_54 d8_54_0 0 env H (Q .nrm) := wC_reg (i := 16) (by kernel_rfl) rfl
theorem w8_54_0 : wOps Try.prog pol cl o8_54 d8_54_0 0 (E 176 g) H R = (
 R (E 176 (u g 6 (.bool false))) H) := by kernel_rfl
theorem w8_55 : wC Try.prog pol cl lp c8_55 env H Q = Q .ret env H := wC_ret (by kernel_rfl)
theorem w8_56 : wC Try.prog pol cl lp c8_56 env H Q = Q .nrm env H := wC_skip (by kernel_rfl)
theorem w8_57 : wC Try.prog pol cl lp c8_57 env H Q = wC Try.prog pol cl lp c8_58 env H (seqK Try.prog pol cl lp c8_59 Q) := wC_seq (by kernel_rfl)
theorem w8_58 : wC Try.prog pol cl lp c8_58 env H Q = wOps Try.prog pol cl o8_58 d8_58_0 0 env H (Q .nrm) := wC_reg (i := 17) (by kernel_rfl) rfl
theorem w8_58_0c : wOps Try.prog pol cl o8_58 d8_58_0 0 env H R = wOps Try.prog pol cl o8_58 p8_58_0 0 env H (fun env H => wOps Try.prog pol cl o8_58 d8_58_12 12 env H R) := wOps_cut (by kernel_rfl) (by kernel_rfl)
theorem w8_58_0 : wOps Try.prog pol cl o8_58 p8_58_0 0 (E 176 g) H R = (
 stepW (liftO (evUn .not (g 9))) H fun v1 H1 =>
 guardW v1 false H1 (outW (evLoad Try.prog H1 47 (g 11))) fun v2 H2 =>
 guardW v1 false H2 (wCall pol cl H2 163 31 [v2]) fun v3 H3 =>
 guardW v1 false H3 (fun q => q ⟨v3, [], []⟩) fun v4 H4 =>
 guardW v4 true H4 (outW (evLoad Try.prog H4 47 (g 12))) fun v5 H5 =>
 guardW v4 true H5 (wCall pol cl H5 166 31 [v5]) fun v6 H6 =>
 guardW v1 false H6 (outW (pickO v4 v6 (.bool false))) fun v7 H7 =>
 guardW v1 false H7 (fun q => q ⟨v7, [], []⟩) fun v8 H8 =>
 guardW v8 true H8 (outW (evLoad Try.prog H8 47 (g 13))) fun v9 H9 =>
 guardW v8 true H9 (wCall pol cl H9 170 31 [v9]) fun v10 H10 =>
 R (E 176 (u (u (u (u (u (u (u (u (u (u (u (u g 159 (g 9)) 160 v1) 161 v1) 162 v2) 163 v3) 164 v4) 165 v5) 166 v6) 167 v7) 168 v8) 169 v9) 170 v10)) H10) := by kernel_rfl
theorem w8_58_12 : wOps Try.prog pol cl o8_58 d8_58_12 12 (E 176 g) H R = (
 guardW (g 161) false H (outW (pickO (g 168) (g 170) (.bool false))) fun v1 H1 =>
 stepW (pickO (g 161) (.bool true) v1) H1 fun v2 H2 =>
 guardW v2 true H2 (wCall pol cl H2 174 10 []) fun v3 H3 =>
 stepW (pickO v2 v3 (.bool false)) H3 fun v4 H4 =>
 R (E 176 (u (u (u (u (u (u g 6 v4) 171 v1) 172 v2) 173 v2) 174 v3) 175 v4)) H4) := by kernel_rfl
theorem w8_59 : wC Try.prog pol cl lp c8_59 env H Q = Q .ret env H := wC_ret (by kernel_rfl)
end
end Go.Proofs.Ytieapebabncliaa.Iv
