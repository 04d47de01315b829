import Derived.Test.YtaiegfeppgaedaaM4
import Derived.Test.YtaiegfeppgaedaaM10
import Derived.Test.YtaiegfeppgaedaaM11
import Derived.Test.YtaiegfeppgaedaaM12
import Derived.Test.YtaiegfeppgaedaaM13
import Derived.Test.YtaiegfeppgaedaaM14
import Derived.Test.YtaiegfeppgaedaaM15
import Derived.Test.YtaiegfeppgaedaaM9
import Derived.Test.YtaiegfeppgaedaaM8
import Derived.Test.YtaiegfeppgaedaaM3
import Derived.ProofKit
import Derived.OpenShut
import Derived.DataReads
import Derived.ChangeOld
namespace Go.Proofs.Ytaiegfeppgaedaa.Iv
open Go
set_option linter.unusedVariables false
set_option linter.unusedSimpArgs false
set_option maxRecDepth 100000
section
variable {o : Option Out} {H : Heap} {Q : V → Heap → Prop}
theorem gp0 {b : Bool} {v : V} (q : Q v H) : guardW (.bool b) b H (fun q => q ⟨v, [], []⟩) Q := by cases b <;> exact q
theorem gy' {b : Bool} {v : V} {us : List (Id × Blk)} {rd : List Id} (h : o = some ⟨v, us, rd⟩) (q : Q v (H.sets us)) : guardW (.bool b) b H (outW o) Q := by subst h; cases b <;> exact q
end
theorem cond_tf {a b : Prop} {env : List V} {t : Nat} (h : evOperand env (.tmp t) = .bool false) (hb : b) : condW (evOperand env (.tmp t)) a b := by rw [h]; exact hb
set_option maxHeartbeats 1000000 in
theorem awake_ok : CallR bcfg 7 [] (fun _ => none) (fun r H' => r = .bool true) := by
  refine CallR.body' (K := bcfg) (f := 7) (fn := Try.f7) (c := c7_0) (env := [.und, .und, .und, .und, .und, .und, .und, .und, .und, .und, .und, .und, .und, .und, .und, .und, .und, .und, .und, .und, .und, .und, .und, .und, .und, .und, .und, .und, .und, .und, .und, .und, .und, .und, .und, .und, .und, .und, .und, .und, .und, .und, .und, .und, .und, .und, .und, .und, .und, .und, .und, .und, .und, .und, .und, .und, .und, .und, .und, .und, .und, .und, .und, .und, .und, .und, .und, .und, .und, .und, .und, .und, .und, .und, .und, .und, .und, .und, .und, .und]) (rs := [.tmp 0]) rfl (by kernel_rfl) (by kernel_rfl) (by kernel_rfl) (by kernel_rfl) (by kernel_rfl) (by kernel_rfl) ?_
  show wC Try.prog bcfg.pol (CallR bcfg) (LoopR bcfg) c7_0 _ _ (wRes Try.prog _ _)
  simp only [w7_0, w7_1, w7_1_0, w7_2, w7_3, w7_3_0, seqK]
  refine callW_ev (n := 400) ac0 ?_
  refine mk0 _ rfl ?_
  refine mk0 _ rfl ?_
  simp only [w7_4, w7_5, w7_6, w7_6_0, w7_7, seqK]
  refine mk0 (.bool false) (by kernel_rfl) ?_
  refine gp0 ?_
  refine gyc (n := 400) ac1 ?_
  refine gy0 (.bool false) (by kernel_rfl) ?_
  refine mk0 (.bool false) (by kernel_rfl) ?_
  refine gp0 ?_
  refine gyc (n := 400) ac2 ?_
  refine gy0 (.bool false) (by kernel_rfl) ?_
  refine mk0 (.bool false) (by kernel_rfl) ?_
  refine cond_tf rfl ?_
  simp only [w7_11, w7_12, w7_13, w7_13_0, seqK]
  refine callW_ev (n := 400) ac3 ?_
  refine mk0 _ rfl ?_
  refine mk0 _ rfl ?_
  refine mk0 _ rfl ?_
  simp only [w7_14, w7_15, w7_16, w7_16_0c, w7_16_0, w7_16_12c, w7_16_12, w7_16_24, seqK]
  refine mk0 (.bool false) (by kernel_rfl) ?_
  refine gp0 ?_
  refine gyc (n := 400) ac4 ?_
  refine gy0 (.bool false) (by kernel_rfl) ?_
  refine mk0 (.bool false) (by kernel_rfl) ?_
  refine gp0 ?_
  refine gyc (n := 400) ac5 ?_
  refine gy0 (.bool false) (by kernel_rfl) ?_
  refine mk0 (.bool false) (by kernel_rfl) ?_
  simp only [w7_16_12c, w7_16_12, seqK]
  refine gp0 ?_
  refine gy' ac6 ?_
  refine gy' ac7 ?_
  refine gyc (n := 400) ac8 ?_
  refine gy0 (.bool false) (by kernel_rfl) ?_
  refine mk0 (.bool false) (by kernel_rfl) ?_
  refine gp0 ?_
  refine gy' ac9 ?_
  refine gyc (n := 400) ac10 ?_
  refine gy0 (.bool false) (by kernel_rfl) ?_
  simp only [w7_16_24, seqK]
  refine mk0 (.bool false) (by kernel_rfl) ?_
  refine gp0 ?_
  refine gyc (n := 400) ac11 ?_
  refine gy0 (.bool false) (by kernel_rfl) ?_
  refine mk0 (.bool false) (by kernel_rfl) ?_
  simp only [w7_17, seqK]
  refine cond_tf rfl ?_
  simp only [w7_21, w7_22, w7_23, w7_23_0c, w7_23_0, seqK]
  refine callW_ev (n := 400) ac12 ?_
  refine mk0 (.bool true) (by kernel_rfl) ?_
  refine gp0 ?_
  refine gyc (n := 400) ac13 ?_
  refine gy0 (.bool true) (by kernel_rfl) ?_
  refine mk0 (.bool true) (by kernel_rfl) ?_
  refine gp0 ?_
  refine gyc (n := 400) ac14 ?_
  refine mk0 (.bool true) (by kernel_rfl) ?_
  simp only [w7_23_12, seqK]
  refine gp0 ?_
  refine gy' ac15 ?_
  refine gyc (n := 400) ac16 ?_
  refine gy0 (.bool true) (by kernel_rfl) ?_
  refine mk0 (.bool true) (by kernel_rfl) ?_
  refine gp0 ?_
  refine gyc (n := 400) ac17 ?_
  refine gy0 (.bool true) (by kernel_rfl) ?_
  refine mk0 (.bool true) (by kernel_rfl) ?_
  simp only [w7_24, wRes]
  rfl
end Go.Proofs.Ytaiegfeppgaedaa.Iv

namespace Go.Proofs.Ytaiegfeppgaedaa.Iv
open Go
set_option linter.unusedVariables false
set_option maxRecDepth 100000
def eh0 : Heap := fun _ => none
def eu0 : List (Id × Blk) := [((.own 18), ⟨0, [(.int .u64 0), (.int .i64 0), (.int .i64 0), (.int .i64 0), (.bool false), .nilp, .nils, (.int .i64 0), (.int .i64 0), (.bool false)], false, false⟩)]
def eh1 : Heap := eh0.sets eu0
def eu1 : List (Id × Blk) := [((.own 19), ⟨0, [.nilp, (.ptr (.own 18) 0 0)], false, false⟩)]
def eh2 : Heap := eh1.sets eu1
def eu7 : List (Id × Blk) := [((.own 18), ⟨0, [(.int .u64 0), (.int .i64 0), (.int .i64 0), (.int .i64 0), (.bool false), .nilp, .nils, (.int .i64 0), (.int .i64 0), (.bool false)], false, false⟩)]
def eh8 : Heap := eh2.sets eu7
def eu8 : List (Id × Blk) := [((.own 18), ⟨0, [(.int .u64 0), (.int .i64 0), (.int .i64 0), (.int .i64 0), (.bool false), .nilp, .nils, (.int .i64 0), (.int .i64 0), (.bool false)], false, false⟩)]
def eh9 : Heap := eh8.sets eu8
def eu10 : List (Id × Blk) := [((.own 18), ⟨0, [(.int .u64 0), (.int .i64 0), (.int .i64 0), (.int .i64 0), (.bool false), .nilp, .nils, (.int .i64 0), (.int .i64 0), (.bool false)], false, false⟩)]
def eh11 : Heap := eh9.sets eu10
def eu11 : List (Id × Blk) := [((.own 18), ⟨0, [(.int .u64 0), (.int .i64 0), (.int .i64 0), (.int .i64 0), (.bool false), .nilp, .nils, (.int .i64 0), (.int .i64 0), (.bool false)], false, false⟩)]
def eh12 : Heap := eh11.sets eu11
end Go.Proofs.Ytaiegfeppgaedaa.Iv

namespace Go.Proofs.Ytaiegfeppgaedaa.Iv
open Go
set_option linter.unusedVariables false
set_option maxRecDepth 100000
theorem ec0 : boxT Try.prog eh0 18 31 (.agg [(.int .u64 0), (.int .i64 0), (.int .i64 0), (.int .i64 0), (.bool false), .nilp, .nils, (.int .i64 0), (.int .i64 0), (.bool false)]) = some ⟨(.ptr (.own 18) 0 0), eu0, [(.own 18)]⟩ := by kernel_rfl
theorem ec1 : evBuildSlice Try.prog eh1 19 32 2 [(0, .nilp), (1, (.ptr (.own 18) 0 0))] = some ⟨(.sl (.own 19) 0 0 2 1 (some 2)), eu1, [(.own 19)]⟩ := by kernel_rfl
theorem ec2 {xs : List (List V)} : evCall (run bcfg 400) bcfg.pol eh2 32 8 [.nilp, (.list xs false)] = some ⟨(.int .i64 1), [], []⟩ := by kernel_rfl
theorem ec3 : evCall (run bcfg 400) bcfg.pol eh2 36 9 [.nilp] = some ⟨(.int .i64 1), [], []⟩ := by kernel_rfl
theorem ec4 : evCall (run bcfg 400) bcfg.pol eh2 41 10 [.nilp] = some ⟨(.int .i64 0), [], []⟩ := by kernel_rfl
theorem ec5 : evCall (run bcfg 400) bcfg.pol eh2 46 11 [.nilp] = some ⟨(.int .i64 0), [], []⟩ := by kernel_rfl
theorem ec6 : evCall (run bcfg 400) bcfg.pol eh2 51 12 [.nilp, (.int .i64 0), (.int .i64 0)] = some ⟨(.bool true), [], []⟩ := by kernel_rfl
theorem ec7 {xs : List (List V)} : evCall (run bcfg 400) bcfg.pol eh2 32 8 [(.ptr (.own 18) 0 0), (.list xs false)] = some ⟨(.int .i64 1), eu7, [(.own 18), (.sub 32 (.arg 0))]⟩ := by kernel_rfl
theorem ec8 : evCall (run bcfg 400) bcfg.pol eh8 36 9 [(.ptr (.own 18) 0 0)] = some ⟨(.int .i64 1), eu8, [(.own 18), (.sub 36 (.arg 0))]⟩ := by kernel_rfl
theorem ec9 : evCall (run bcfg 400) bcfg.pol eh9 41 10 [(.ptr (.own 18) 0 0)] = some ⟨(.int .i64 0), [], [(.own 18)]⟩ := by kernel_rfl
theorem ec10 : evCall (run bcfg 400) bcfg.pol eh9 46 11 [(.ptr (.own 18) 0 0)] = some ⟨(.int .i64 0), eu10, [(.own 18), (.sub 46 (.arg 0))]⟩ := by kernel_rfl
theorem ec11 : evCall (run bcfg 400) bcfg.pol eh11 51 12 [(.ptr (.own 18) 0 0), (.int .i64 0), (.int .i64 0)] = some ⟨(.bool true), eu11, [(.own 18), (.sub 51 (.arg 0))]⟩ := by kernel_rfl
theorem ec12 : evCall (run bcfg 400) bcfg.pol eh12 55 13 [.nilp] = some ⟨(.tup [.nilp, (.list [] false), (.int .i64 1)]), [], []⟩ := by kernel_rfl
theorem ec13a : evCall (run bcfg 400) bcfg.pol eh12 72 14 [.nilp, (.int .i64 (Int.ofNat 0))] = some ⟨(.int .i64 1), [], []⟩ := by kernel_rfl
theorem ec13b {k : Nat} : evCall (run bcfg 400) bcfg.pol eh12 72 14 [.nilp, (.int .i64 (Int.ofNat (k + 1)))] = some ⟨(.int .i64 1), [], []⟩ := by kernel_rfl
theorem ec13c : evCall (run bcfg 400) bcfg.pol eh12 72 14 [.nilp, (.int .i64 (Int.negSucc 0))] = some ⟨(.int .i64 1), [], []⟩ := by kernel_rfl
theorem ec13d {k : Nat} : evCall (run bcfg 400) bcfg.pol eh12 72 14 [.nilp, (.int .i64 (Int.negSucc (k + 1)))] = some ⟨(.int .i64 1), [], []⟩ := by kernel_rfl
theorem ec13 {z : Int} : evCall (run bcfg 400) bcfg.pol eh12 72 14 [.nilp, (.int .i64 z)] = some ⟨(.int .i64 1), [], []⟩ := by
  rcases z with (_ | k) | (_ | k)
  · exact ec13a
  · exact ec13b
  · exact ec13c
  · exact ec13d
end Go.Proofs.Ytaiegfeppgaedaa.Iv

namespace Go.Proofs.Ytaiegfeppgaedaa.Iv
open Go
set_option linter.unusedVariables false
set_option linter.unusedSimpArgs false
set_option maxRecDepth 100000
theorem awake_wCall {H : Heap} {d : Nat} {Q : Out → Prop} (q : Q ⟨.bool true, [], []⟩) : wCall bcfg.pol (CallR bcfg) H d 7 [] Q := by
  have e1 : callPre bcfg.pol H 7 [] = some ⟨[], fun _ => none, [], [], []⟩ := by kernel_rfl
  unfold wCall
  rw [e1]
  refine awake_ok.mono fun r H' hr => ?_
  subst hr
  have e2 : callPost bcfg.pol H d 7 ⟨[], fun _ => none, [], [], []⟩ (.bool true) H' = some ⟨.bool true, [], []⟩ := by kernel_rfl
  rw [e2]
  exact q
theorem awake_callW {H : Heap} {d : Nat} {Q : V → Heap → Prop} (q : Q (.bool true) H) : callW bcfg.pol (CallR bcfg) H d 7 [] Q := awake_wCall q
theorem gawake {H : Heap} {d : Nat} {Q : V → Heap → Prop} (q : Q (.bool true) H) : guardW (.bool true) true H (wCall bcfg.pol (CallR bcfg) H d 7 []) Q := awake_wCall q
theorem len22 {xs : List (List V)} {l : Bool} : evLen Try.prog 22 (.list xs l) = pureO (.int .i64 xs.length) := by kernel_rfl
theorem cond_tt {a b : Prop} {env : List V} {t : Nat} (h : evOperand env (.tmp t) = .bool true) (hb : a) : condW (evOperand env (.tmp t)) a b := by rw [h]; exact hb
theorem b31 : liftO (evBuild Try.prog 31 []) = pureO (.agg [(.int .u64 0), (.int .i64 0), (.int .i64 0), (.int .i64 0), (.bool false), .nilp, .nils, (.int .i64 0), (.int .i64 0), (.bool false)]) := by kernel_rfl
set_option maxHeartbeats 4000000 in
theorem nobody {xs : List (List V)} {z : Int} : CallR bcfg 3 [.list xs false, .int .i64 z] (fun _ => none) (fun r _ => r = .bool true) := by
  refine CallR.body' (K := bcfg) (f := 3) (fn := Try.f3) (c := c3_0) (env := [.list xs false, .int .i64 z, .und, .und, .und, .und, .und, .und, .und, .und, .und, .und, .und, .und, .und, .und, .und, .und, .und, .und, .und, .und, .und, .und, .und, .und, .und, .und, .und, .und, .und, .und, .und, .und, .und, .und, .und, .und, .und, .und, .und, .und, .und, .und, .und, .und, .und, .und, .und, .und, .und, .und, .und, .und, .und, .und, .und, .und, .und, .und, .und, .und, .und, .und, .und, .und, .und, .und, .und, .und, .und, .und, .und, .und, .und, .und, .und, .und]) (rs := [.tmp 4]) rfl (by kernel_rfl) (by kernel_rfl) (by kernel_rfl) (by kernel_rfl) (by kernel_rfl) (by kernel_rfl) ?_
  show wC Try.prog bcfg.pol (CallR bcfg) (LoopR bcfg) c3_0 _ _ (wRes Try.prog _ _)
  simp only [w3_0, w3_1, w3_1_0, w3_2, w3_3, w3_4, w3_4_0, w3_5, seqK, blockK]
  refine mk0 _ len22 ?_
  refine mk0 _ bin_gtr ?_
  by_cases hl : (xs.length : Int) > 3000
  · rw [decide_eq_true hl]
    refine cond_tt rfl ?_
    simp only [w3_6, w3_7, w3_7_0, w3_8, seqK, blockK]
    refine awake_callW ?_
    simp only [wRes]
    rfl
  · rw [decide_eq_false hl]
    refine cond_tf rfl ?_
    simp only [w3_9, w3_10, w3_11, w3_11_0, w3_12, w3_13, w3_13_0, w3_14, w3_15, w3_16, w3_16_0, w3_17, w3_18, seqK, blockK]
    refine mk0 _ b31 ?_
    refine mk _ _ _ ec0 ?_
    refine mk _ _ _ ec1 ?_
    refine LoopR.step ?_
    show wC Try.prog bcfg.pol (CallR bcfg) (LoopR bcfg) c3_19 _ _ _
    simp only [w3_19, w3_20, w3_21, w3_21_0, w3_22, w3_23, w3_24, seqK, blockK]
    refine mk0 (.int .i64 2) (by kernel_rfl) ?_
    refine mk0 (.bool true) (by kernel_rfl) ?_
    refine cond_tt rfl ?_
    simp only [w3_25, w3_26, w3_27, w3_28, w3_28_0, w3_29, seqK, blockK]
    simp only [w3_30, w3_30_0c, w3_30_0, seqK, blockK]
    refine mk0 (.ptr (.own 19) 0 0) (by kernel_rfl) ?_
    refine mk (.nilp) [] [.own 19] (by kernel_rfl) ?_
    simp only [sets_nil']
    refine callW_ev (n := 400) ec2 ?_
    try simp only [sets_nil']
    refine mk0 (.bool false) (by kernel_rfl) ?_
    refine gp0 ?_
    refine gyc (n := 400) ec3 ?_
    try simp only [sets_nil']
    refine gy0 (.bool false) (by kernel_rfl) ?_
    refine mk0 (.bool false) (by kernel_rfl) ?_
    refine gp0 ?_
    refine gyc (n := 400) ec4 ?_
    try simp only [sets_nil']
    simp only [w3_30_12, seqK, blockK]
    refine gy0 (.bool false) (by kernel_rfl) ?_
    refine mk0 (.bool false) (by kernel_rfl) ?_
    refine gp0 ?_
    refine gyc (n := 400) ec5 ?_
    try simp only [sets_nil']
    refine gy0 (.bool false) (by kernel_rfl) ?_
    refine mk0 (.bool false) (by kernel_rfl) ?_
    refine gp0 ?_
    refine gyc (n := 400) ec6 ?_
    try simp only [sets_nil']
    refine gy0 (.bool false) (by kernel_rfl) ?_
    refine mk0 (.bool false) (by kernel_rfl) ?_
    simp only [w3_31, seqK, blockK]
    refine cond_tf rfl ?_
    simp only [w3_35, w3_36, w3_36_0, seqK, blockK]
    refine mk0 (.int .i64 1) (by kernel_rfl) ?_
    refine LoopR.step ?_
    show wC Try.prog bcfg.pol (CallR bcfg) (LoopR bcfg) c3_19 _ _ _
    simp only [w3_19, w3_20, w3_21, w3_21_0, w3_22, w3_23, w3_24, seqK, blockK]
    refine mk0 (.int .i64 2) (by kernel_rfl) ?_
    refine mk0 (.bool true) (by kernel_rfl) ?_
    refine cond_tt rfl ?_
    simp only [w3_25, w3_26, w3_27, w3_28, w3_28_0, w3_29, seqK, blockK]
    simp only [w3_30, w3_30_0c, w3_30_0, seqK, blockK]
    refine mk0 (.ptr (.own 19) 0 1) (by kernel_rfl) ?_
    refine mk (.ptr (.own 18) 0 0) [] [.own 19] (by kernel_rfl) ?_
    simp only [sets_nil']
    refine callW_ev (n := 400) ec7 ?_
    try simp only [sets_nil']
    refine mk0 (.bool false) (by kernel_rfl) ?_
    refine gp0 ?_
    refine gyc (n := 400) ec8 ?_
    try simp only [sets_nil']
    refine gy0 (.bool false) (by kernel_rfl) ?_
    refine mk0 (.bool false) (by kernel_rfl) ?_
    refine gp0 ?_
    refine gyc (n := 400) ec9 ?_
    try simp only [sets_nil']
    simp only [w3_30_12, seqK, blockK]
    refine gy0 (.bool false) (by kernel_rfl) ?_
    refine mk0 (.bool false) (by kernel_rfl) ?_
    refine gp0 ?_
    refine gyc (n := 400) ec10 ?_
    try simp only [sets_nil']
    refine gy0 (.bool false) (by kernel_rfl) ?_
    refine mk0 (.bool false) (by kernel_rfl) ?_
    refine gp0 ?_
    refine gyc (n := 400) ec11 ?_
    try simp only [sets_nil']
    refine gy0 (.bool false) (by kernel_rfl) ?_
    refine mk0 (.bool false) (by kernel_rfl) ?_
    simp only [w3_31, seqK, blockK]
    refine cond_tf rfl ?_
    simp only [w3_35, w3_36, w3_36_0, seqK, blockK]
    refine mk0 (.int .i64 2) (by kernel_rfl) ?_
    refine LoopR.step ?_
    show wC Try.prog bcfg.pol (CallR bcfg) (LoopR bcfg) c3_19 _ _ _
    simp only [w3_19, w3_20, w3_21, w3_21_0, w3_22, w3_23, w3_24, seqK, blockK]
    refine mk0 (.int .i64 2) (by kernel_rfl) ?_
    refine mk0 (.bool false) (by kernel_rfl) ?_
    refine cond_tf rfl ?_
    simp only [if_true]
    simp only [w3_37, w3_38, w3_38_0, w3_39, w3_40, w3_40_0c, w3_40_0, seqK, blockK]
    show callW bcfg.pol (CallR bcfg) eh12 55 13 [.nilp] _
    refine callW_ev (n := 400) ec12 ?_
    try simp only [sets_nil']
    refine mk0 _ rfl ?_
    refine mk0 _ rfl ?_
    refine mk0 _ rfl ?_
    refine mk0 (.bool true) (by kernel_rfl) ?_
    refine gp0 ?_
    refine gy0 (.int .i64 0) (by kernel_rfl) ?_
    refine gy0 (.bool true) (by kernel_rfl) ?_
    refine mk0 (.bool true) (by kernel_rfl) ?_
    refine gp0 ?_
    refine gy0 (.bool true) (by kernel_rfl) ?_
    refine mk0 (.bool true) (by kernel_rfl) ?_
    simp only [w3_40_12, seqK, blockK]
    refine gp0 ?_
    refine gyc (n := 400) ec13 ?_
    try simp only [sets_nil']
    refine gy0 (.bool true) (by kernel_rfl) ?_
    refine mk0 (.bool true) (by kernel_rfl) ?_
    refine gawake ?_
    refine mk0 (.bool true) (by kernel_rfl) ?_
    simp only [w3_41, wRes]
    rfl
end Go.Proofs.Ytaiegfeppgaedaa.Iv

namespace Go.Proofs.Ytaiegfeppgaedaa.Iv
open Go
set_option linter.unusedVariables false
set_option maxRecDepth 100000
theorem cond_or {c : Bool} {a b : Pol} {X : Prop} (ha : a.seq = none ∨ X) (hb : b.seq = none ∨ X) : (cond c a b).seq = none ∨ X := by cases c <;> assumption
theorem leaf_or {g k : Nat} {a b : Pol} {X : Prop} (hb : b.seq = none) (hx : g = k → X) : (cond (Nat.beq g k) a b).seq = none ∨ X := by
  cases h : Nat.beq g k with
  | false => exact .inl hb
  | true => exact .inr (hx (Nat.eq_of_beq_eq_true h))
theorem bseq (g : Nat) : (bpol g).seq = none ∨ (g = 77 ∨ g = 88) := by
  unfold bpol
  repeat (first | exact Or.inl rfl | exact leaf_or (k := 77) rfl Or.inl | exact leaf_or (k := 88) rfl Or.inr | refine cond_or ?_ ?_)
theorem mixedB : Try.prog.follows .mixedOrders = true := by kernel_rfl
noncomputable def lexF (f : Nat) : Bool := match Try.prog.funcs[f]? with
  | some fn => (match fn.body with | some c => lexAll c | none => true)
  | none => true
theorem lex77 : lexF 77 = true := by kernel_rfl
theorem lex88 : lexF 88 = true := by kernel_rfl
theorem seqB : SeqOK Try.prog bcfg.pol := seq_gens mixedB fun g k h => by
  have key : ∀ f, lexF f = true → ∀ (fn : Func) (c : Code), Try.prog.funcs[f]? = some fn → fn.body = some c → lexAll c = true := by
    intro f hf fn c h1 h2
    unfold lexF at hf
    rw [h1] at hf
    simp only [h2] at hf
    exact hf
  rcases bseq g with h0 | rfl | rfl
  · have : (bpol g).seq = some k := h
    rw [h0] at this; cases this
  · have e : (bpol 77).seq = some (.gen 1000) := by kernel_rfl
    have : (bpol 77).seq = some k := h
    rw [e] at this; cases this
    exact ⟨⟨1000, rfl⟩, key 77 lex77⟩
  · have e : (bpol 88).seq = some (.gen 1000) := by kernel_rfl
    have : (bpol 88).seq = some k := h
    rw [e] at this; cases this
    exact ⟨⟨1000, rfl⟩, key 88 lex88⟩
end Go.Proofs.Ytaiegfeppgaedaa.Iv

namespace Go.Proofs.Ytaiegfeppgaedaa.Iv
open Go Go.RowKit
set_option linter.unusedVariables false
set_option linter.unusedSimpArgs false
/-! ### the values that a statement hands a law -/
def Cel (w : World) (rb : Nat) : Prop := ∃ o : Obj, w.heap[rb]? = some o ∧ o.isCells = true
theorem cel_of {w : World} {a : Addr} {v : Value} (h : w.cell? a = some v) : Cel w a.block ∧ a.spot = none := by
  unfold World.cell? at h
  split at h
  · rename_i c ty fr e
    split at h
    · cases h
    · rename_i hs
      refine ⟨⟨_, e, rfl⟩, ?_⟩
      cases hq : a.spot with
      | none => rfl
      | some q => rw [hq] at hs; simp at hs
  · cases h
def OpensV (P : Program) (t sz : Nat) (G : List V → Prop) : Prop :=
  ∀ (H : Type) (enc : TypeId × Value → H) (w : World) (base : Nat) (spare : Nat → Bool) (held : Bool) (fuel : Nat) (cs : List Value) (x : DataW H × List MemPlace), DataW.trod enc P w base spare held fuel t cs = some x →
    ∃ vs : List V, vs.length = sz ∧ All2 (FR w (Cel w)) vs cs ∧ G vs
section
variable {P : Program} {t : TypeId}
theorem pick_list {α : Type} (n : Nat) (R : Nat → α → Prop) (h : ∀ i, i < n → ∃ a, R i a) : ∃ l : List α, l.length = n ∧ ∀ i a, l[i]? = some a → R i a := by
  induction n with
  | zero => exact ⟨[], rfl, fun i a h => by simp at h⟩
  | succ n ih =>
    obtain ⟨l, hl, hr⟩ := ih (fun i hi => h i (by omega))
    obtain ⟨a, ha⟩ := h n (by omega)
    refine ⟨l ++ [a], by simp [hl], fun i b hb => ?_⟩
    rcases Nat.lt_trichotomy i n with hi | hi | hi
    · rw [List.getElem?_append_left (by omega)] at hb; exact hr i b hb
    · subst hi
      rw [List.getElem?_append_right (by omega), hl, Nat.sub_self, List.getElem?_cons_zero] at hb
      obtain rfl := Option.some.inj hb
      exact ha
    · rw [List.getElem?_eq_none (by simp [hl]; omega)] at hb; cases hb
theorem cells_get {w : World} {base : Nat} {a : Addr} {n : Nat} {cs : List Value} (h : w.cells? base a n = some cs) : cs.length = n ∧ ∀ i u, cs[i]? = some u → w.cell? (a.add i) = some u := by
  unfold World.cells? at h
  split at h
  · have hl := mapM_some_length h
    rw [List.length_range] at hl
    refine ⟨hl, fun i u hu => ?_⟩
    have hi : i < n := by
      rcases Nat.lt_or_ge i n with hi | hi
      · exact hi
      · rw [List.getElem?_eq_none (by omega)] at hu; cases hu
    have := mapM_some_get h i i (by rw [List.getElem?_range hi])
    rw [this]; exact hu
  · cases h
theorem opensV_int {k : IntKind} (ht : P.underlying t = some (.int k)) : OpensV P t 1 (fun vs => ∃ n, vs = [.int k n] ∧ (Lit.int k n).wf = true) := by
  intro H enc w base spare held fuel cs x h
  cases fuel with
  | zero => simp [DataW.trod] at h
  | succ fuel =>
    simp only [DataW.trod, ht] at h
    split at h <;> simp_all
    refine ⟨[.int _ _], rfl, ?_, _, rfl, h.1.2⟩
    exact ⟨.int _ _, trivial⟩
theorem add_mk (a : Addr) (h : a.spot = none) (n : Nat) : a.add n = ⟨a.block, a.off + n, none⟩ := by
  obtain ⟨b, o, s⟩ := a
  simp only at h; subst h
  unfold Addr.add
  split
  · rename_i e; subst e; rfl
  · rfl
theorem opensV_slice {e sz : Nat} {G : List V → Prop} (ht : P.underlying t = some (.slice e)) (hs : P.cellsOf e = sz) (hp : 0 < sz) (he : OpensV P e sz G) :
    OpensV P t 1 (fun vs => ∃ xs, vs = [.list xs false] ∧ xs.length ≤ maxLen ∧ ∀ x ∈ xs, x.length = sz ∧ G x) := by
  intro H enc w base spare held fuel cs x h
  cases fuel with
  | zero => simp [DataW.trod] at h
  | succ fuel =>
    simp only [DataW.trod, ht] at h
    split at h
    all_goals first | (simp_all; done) | skip
    · refine ⟨[.list [] false], rfl, ⟨?_, trivial⟩, [], rfl, Nat.zero_le _, fun x hx => by cases hx⟩
      exact FR.list [] 1 0 none (fun _ => .int .i64 0) (Nat.le_refl _) (fun x hx => by cases hx) (fun h => absurd rfl h) (fun j c h => by simp at h)
    · rename_i heq
      injection heq with heq
      injection heq with heq
      subst heq
      split at h
      · rename_i a len cap hcond
        obtain ⟨els, hels, _⟩ := Option.bind_eq_some_iff.1 h
        have hlen := mapM_some_length hels
        rw [List.length_range] at hlen
        obtain ⟨xs, hl, hr⟩ := pick_list len (fun i (b : List V) => ∃ c : List Value, c.length = sz ∧ b.length = sz ∧ All2 (FR w (Cel w)) b c ∧ G b ∧ ∀ q u, c[q]? = some u → w.cell? ((a.add (i * sz)).add q) = some u) (fun i hi => by
          have h1 := mapM_some_get hels i i (by rw [List.getElem?_range hi])
          have hi2 : i < els.length := by omega
          rw [List.getElem?_eq_getElem hi2] at h1
          obtain ⟨c, hc, ht2⟩ := Option.bind_eq_some_iff.1 h1
          obtain ⟨b, hbl, hb, hg⟩ := he H enc w base spare held fuel c _ ht2
          obtain ⟨hcl, hcc⟩ := cells_get hc
          rw [hs] at hcl hcc
          exact ⟨b, c, hcl, hbl, hb, hg, hcc⟩)
        have hz : ∀ x ∈ xs, x.length = sz ∧ G x := fun x hx => by
          obtain ⟨j, hj, rfl⟩ := List.getElem_of_mem hx
          obtain ⟨c, _, h2, _, h4, _⟩ := hr j _ (List.getElem?_eq_getElem hj)
          exact ⟨h2, h4⟩
        -- where the elements stand
        have spot : xs ≠ [] → a.spot = none := fun hne => by
          cases hx0 : xs with
          | nil => exact absurd hx0 hne
          | cons x0 r =>
            obtain ⟨c, c1, c2, c3, c4, c5⟩ := hr 0 x0 (by rw [hx0]; rfl)
            obtain ⟨u, hu⟩ : ∃ u, c[0]? = some u := ⟨c[0]'(by omega), List.getElem?_eq_getElem _⟩
            have := (cel_of (c5 0 u hu)).2
            simpa [Addr.add] using this
        have each : ∀ (hne : xs ≠ []) (j : Nat) (v : V), xs.flatten[j]? = some v → ∃ u, w.cell? ⟨a.block, a.off + j, none⟩ = some u ∧ FR w (Cel w) v u := fun hne j v hj => by
          obtain ⟨i, q, xi, h1, h2, h3⟩ : ∃ i q xi, xs[i]? = some xi ∧ xi[q]? = some v ∧ j = i * sz + q := by
            have hjl := (List.getElem?_eq_some_iff.1 hj).1
            rw [flatten_len sz xs (fun x hx => (hz x hx).1)] at hjl
            have hi : j / sz < xs.length := Nat.div_lt_of_lt_mul (by rw [Nat.mul_comm]; exact hjl)
            have hq : j % sz < (xs[j / sz]).length := by rw [(hz _ (List.getElem_mem hi)).1]; exact Nat.mod_lt _ hp
            have hg := flatten_get sz xs (fun x hx => (hz x hx).1) (j / sz) (j % sz) _ _ (List.getElem?_eq_getElem hi) (List.getElem?_eq_getElem hq)
            have e : j / sz * sz + j % sz = j := by rw [Nat.mul_comm]; exact Nat.div_add_mod j sz
            rw [e, hj] at hg
            refine ⟨j / sz, j % sz, _, List.getElem?_eq_getElem hi, ?_, e.symm⟩
            rw [List.getElem?_eq_getElem hq]; exact hg.symm
          obtain ⟨c, c1, c2, c3, c4, c5⟩ := hr i xi h1
          obtain ⟨u, hu, hfr⟩ := c3.get h2
          refine ⟨u, ?_, hfr⟩
          have := c5 q u hu
          rw [add_mk a (spot hne), add_mk _ rfl] at this
          rw [h3, ← Nat.add_assoc]; exact this
        refine ⟨[.list xs false], rfl, ⟨?_, trivial⟩, xs, rfl, ?_, hz⟩
        · have := FR.list (w := w) (S := Cel w) xs sz cap (some a) (fun j => (w.cell? ⟨a.block, a.off + j, none⟩).getD (.int .i64 0)) (by rw [hl]; exact hcond.2.1) (fun x hx => (hz x hx).1)
            (fun hne => by
              have hsp := spot hne
              refine ⟨a.block, a.off, by cases a; simp_all, ?_, fun j hj => ?_⟩
              · obtain ⟨u, hu, _⟩ := each hne 0 _ (List.getElem?_eq_getElem (by
                  rw [flatten_len sz xs (fun x hx => (hz x hx).1)]
                  have : 0 < xs.length := List.length_pos_iff.2 hne
                  exact Nat.mul_pos this hp))
                exact (cel_of hu).1
              · obtain ⟨u, hu, _⟩ := each hne j _ (List.getElem?_eq_getElem hj)
                rw [hu]; rfl)
            (fun j c hj => by
              have hne : xs ≠ [] := fun e => by subst e; simp at hj
              obtain ⟨u, hu, hfr⟩ := each hne j c hj
              rw [hu]; exact hfr)
          rw [hl] at this
          exact this
        · rw [hl]; exact Nat.le_trans hcond.2.1 hcond.2.2
      · cases h
/-- a struct of four fields, each of one cell -/
theorem opensV_four {G0 G1 G2 G3 : List V → Prop} {f0 f1 f2 f3 : Field} (ht : P.underlying t = some (.struct #[f0, f1, f2, f3])) (hn : P.cellsOf t = 4) (o0 : f0.offset = 0) (o1 : f1.offset = 1) (o2 : f2.offset = 2) (o3 : f3.offset = 3)
    (c0 : P.cellsOf f0.type = 1) (c1 : P.cellsOf f1.type = 1) (c2 : P.cellsOf f2.type = 1) (c3 : P.cellsOf f3.type = 1) (h0 : OpensV P f0.type 1 G0) (h1 : OpensV P f1.type 1 G1) (h2 : OpensV P f2.type 1 G2) (h3 : OpensV P f3.type 1 G3) :
    OpensV P t 4 (fun vs => ∃ a b c d, vs = [a, b, c, d] ∧ G0 [a] ∧ G1 [b] ∧ G2 [c] ∧ G3 [d]) := by
  intro H enc w base spare held fuel cs x h
  cases fuel with
  | zero => simp [DataW.trod] at h
  | succ fuel =>
    have h' : (if cs.length = P.cellsOf t then (#[f0, f1, f2, f3].toList.mapM fun f => DataW.trod enc P w base spare held fuel f.type ((cs.drop f.offset).take (P.cellsOf f.type))).map fun xs => ((.agg (xs.map (·.1)) : DataW H), xs.flatMap (·.2)) else none) = some x := by
      rw [← h]
      simp only [DataW.trod, ht]
    split at h'
    · rename_i hl
      rw [hn] at hl
      obtain ⟨xs, hxs, _⟩ := Option.map_eq_some_iff.1 h'
      have hlen := mapM_some_length hxs
      have g0 := mapM_some_get hxs 0 f0 rfl
      have g1 := mapM_some_get hxs 1 f1 rfl
      have g2 := mapM_some_get hxs 2 f2 rfl
      have g3 := mapM_some_get hxs 3 f3 rfl
      simp only [List.length_cons, List.length_nil] at hlen
      rw [List.getElem?_eq_getElem (by omega)] at g0 g1 g2 g3
      match cs, hl with
      | [u0, u1, u2, u3], _ =>
        obtain ⟨v0, l0, r0, q0⟩ := h0 H enc w base spare held fuel _ _ g0
        obtain ⟨v1, l1, r1, q1⟩ := h1 H enc w base spare held fuel _ _ g1
        obtain ⟨v2, l2, r2, q2⟩ := h2 H enc w base spare held fuel _ _ g2
        obtain ⟨v3, l3, r3, q3⟩ := h3 H enc w base spare held fuel _ _ g3
        rw [o0, c0] at r0; rw [o1, c1] at r1; rw [o2, c2] at r2; rw [o3, c3] at r3
        match v0, v1, v2, v3, l0, l1, l2, l3, r0, r1, r2, r3, q0, q1, q2, q3 with
        | [a], [b], [c], [d], _, _, _, _, r0, r1, r2, r3, q0, q1, q2, q3 =>
          exact ⟨[a, b, c, d], rfl, ⟨r0.1, r1.1, r2.1, r3.1, trivial⟩, a, b, c, d, rfl, q0, q1, q2, q3⟩
    · cases h'
end
end Go.Proofs.Ytaiegfeppgaedaa.Iv
