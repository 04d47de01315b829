-- Written by a program of this session out of the translation. Lean checks it.
import Derived.Test.YtieapebabncliaaX0
import Derived.Test.YtieapebabncliaaX3
import Derived.Test.YtieapebabncliaaX4
import Derived.Test.YtieapebabncliaaX10
import Derived.Test.YtieapebabncliaaX13
import Derived.Test.YtieapebabncliaaX14
import Derived.Test.YtieapebabncliaaX16
import Derived.Test.YtieapebabncliaaX19
import Derived.Test.YtieapebabncliaaX20
import Derived.Test.YtieapebabncliaaX25
import Derived.Test.YtieapebabncliaaX26
namespace Go.Proofs.Ytieapebabncliaa.X
open Go.RowKit Go.Proofs.YtieapebabncliaaW.PrintWords Go.Proofs.YtieapebabncliaaW.PrintLast Go.Proofs.YtieapebabncliaaW.PrintMore
attribute [local go_sem] max2_int min2_int max_two min_two max_three min_three max_four min_four   -- for this text's walks alone
set_option linter.unusedVariables false
set_option linter.unusedSimpArgs false

/-! ### incipitlaw19_AxisKnown: function 6 -/
mutual
def incipitlaw19_AxisKnown.j0 : Nat → List (S47) → List (List (S36)) → List (List (S36)) → Bool → Option (Bool)
 | 0, _, _, _, _ => none
 | k + 1, x0, x3, x4, x23 => if x23 = true then ((incipitlaw19_awake.f k).bind fun t652 => (some t652)) else (incipitlaw19_AxisKnown.l0 k x0 x3 x4 ([] : List (S47)) 0)
def incipitlaw19_AxisKnown.l0 : Nat → List (S47) → List (List (S36)) → List (List (S36)) → List (S47) → Int → Option (Bool)
 | 0, _, _, _, _, _ => none
 | k + 1, x0, x3, x4, x5, x6 => if x6 < (x0.length : Int) then ((some (([] : List (S36)) : List (S36))).bind fun y653 => (if 0 ≤ x6 then (if y653.length + ((rd_T47 x0 x6).f0).length < 17592186044416 then ((some (([] : List (S36)) : List (S36))).bind fun y660 => (if y660.length + ((rd_T47 x0 x6).f1).length < 17592186044416 then (if x5.length < 2932031007402 then ((some (x5 ++ [(⟨(y653 ++ ((rd_T47 x0 x6).f0)), (y660 ++ ((rd_T47 x0 x6).f1))⟩ : S47)] : List (S47))).bind fun y667 => (if x6 < (y667.length : Int) then ((axis_Not.f ((rd_T47 y667 x6).f0) ((rd_T47 y667 x6).f1)).bind fun bt671 => ((axis_Whole.f k ((rd_T47 y667 x6).f0) ((rd_T47 y667 x6).f1)).bind fun t679 => ((incipitref19_Whole.f k ((rd_T47 x0 x6).f0) ((rd_T47 x0 x6).f1)).bind fun t681 => (if (t679 != t681) = true then (some false) else (if x6 ≤ (wrap64 (x6 + 1)) then (if (wrap64 (x6 + 1)) ≤ (x4.length : Int) then ((rf_Union.f k ((x4.take ((wrap64 (x6 + 1)) : Int).toNat).drop (x6 : Int).toNat)).bind fun t687 => ((rf_Same.f k bt671.1 t687).bind fun t690 => (if t690 = true then (if (wrap64 (x6 + 1)) ≤ (x3.length : Int) then ((rf_Union.f k ((x3.take ((wrap64 (x6 + 1)) : Int).toNat).drop (x6 : Int).toNat)).bind fun t696 => ((rf_Same.f k bt671.2 t696).bind fun t699 => (if t699 = true then ((some (List.replicate bt671.1.length z36 : List (S36))).bind fun y700 => ((some (List.replicate bt671.2.length z36 : List (S36))).bind fun y703 => (incipitlaw19_AxisKnown.l0 k x0 x3 x4 y667 (wrap64 (x6 + 1))))) else (some false)))) else (none)) else (some false)))) else (none)) else (none)))))) else (none))) else (none)) else (none))) else (none)) else (none))) else ((axis_And.f k x5).bind fun bt706 => ((axis_Or.f k x5).bind fun bt712 => ((incipitref19_Meet.f k x3).bind fun t720 => ((rf_Same.f k bt706.1 t720).bind fun t723 => (if t723 = true then ((rf_Union.f k x4).bind fun t724 => ((rf_Same.f k bt706.2 t724).bind fun t727 => (if t727 = true then ((rf_Union.f k x3).bind fun t728 => ((rf_Same.f k bt712.1 t728).bind fun t731 => (if t731 = true then ((incipitref19_Meet.f k x4).bind fun t732 => ((rf_Same.f k bt712.2 t732).bind fun t735 => (incipitlaw19_AxisKnown.j2 k x3 x4 x5 (!t735)))) else (incipitlaw19_AxisKnown.j2 k x3 x4 x5 true)))) else (incipitlaw19_AxisKnown.j2 k x3 x4 x5 true)))) else (incipitlaw19_AxisKnown.j2 k x3 x4 x5 true))))))
def incipitlaw19_AxisKnown.j2 : Nat → List (List (S36)) → List (List (S36)) → List (S47) → Bool → Option (Bool)
 | 0, _, _, _, _ => none
 | k + 1, x3, x4, x5, x126 => if x126 = true then (some false) else ((incipitref19_Yes.f k x5).bind fun t736 => ((incipitlaw19_kept.f k t736 x3).bind fun t739 => (if t739 = true then ((incipitref19_No.f k x5).bind fun t740 => ((incipitlaw19_kept.f k t740 x4).bind fun t743 => (if t743 = true then ((incipitlaw19_awake.f k).bind fun t744 => (some t744)) else (some false)))) else (some false))))
end
def incipitlaw19_AxisKnown.f (k : Nat) (l0 : List (S47)) : Option (Bool) := if (l0.length : Int) > 20 then ((incipitlaw19_awake.f k).bind fun t643 => (some t643)) else ((incipitref19_Yes.f k l0).bind fun t644 => ((incipitref19_No.f k l0).bind fun t647 => ((incipitlaw19_long.f k t644).bind fun t650 => (if t650 = true then (incipitlaw19_AxisKnown.j0 k l0 t644 t647 true) else ((incipitlaw19_long.f k t647).bind fun t651 => (incipitlaw19_AxisKnown.j0 k l0 t644 t647 t651))))))
theorem incipitlaw19_AxisKnown.j2_no : ∀ (k : Nat) (x3 : List (List (S36))) (x4 : List (List (S36))) (x5 : List (S47)) (r : Bool), incipitlaw19_AxisKnown.j2 k x3 x4 x5 (true) = some r → r = false
 | 0, _, _, _, _, h => by simp only [incipitlaw19_AxisKnown.j2] at h; cases h
 | k + 1, _, _, _, _, h => by simp only [incipitlaw19_AxisKnown.j2, if_true, Bool.false_eq_true, if_false] at h; exact (Option.some.inj h).symm
def incipitlaw19_AxisKnown.T10 : Bool × List (List Nat × List Nat) := (true, [([], []), ([], []), ([], []), ([], []), ([2, 3], [2, 3]), ([4], [4]), ([5], [5]), ([1, 6], [1, 6]), ([], []), ([], []), ([], []), ([9, 10], [9, 10]), ([11], [11]), ([12], [12]), ([8, 13, 7], [8, 13]), ([7, 14], [7, 14]), ([15], [15]), ([0, 16, 14], [0, 16]), ([17, 17, 0, 1, 2, 3, 4, 5, 6, 7, 8, 9, 10, 11, 12, 13, 14, 15, 16, 17], [0, 17])])
def incipitlaw19_AxisKnown.B10 : List Nat := [0, 0, 0, 0, 12, 28, 60, 126, 0, 0, 0, 1536, 3584, 7680, 16382, 32766, 65534, 131071, 262143]
theorem incipitlaw19_AxisKnown.tab10 : rtab .any (opsOf Try.f6 10) = incipitlaw19_AxisKnown.T10 := by kernel_rfl
theorem incipitlaw19_AxisKnown.bits10 : waitsOk incipitlaw19_AxisKnown.T10.2 incipitlaw19_AxisKnown.B10 = true := by kernel_rfl
def incipitlaw19_AxisKnown.T12 : Bool × List (List Nat × List Nat) := (true, [([], []), ([], []), ([0, 1], [0, 1]), ([2], [2]), ([3], [3]), ([], []), ([], []), ([5, 6], [5, 6]), ([7], [7]), ([8, 4], [8]), ([4, 9], [4, 9]), ([10, 9], [10]), ([11], [11]), ([12, 11], [11, 12]), ([11], [11]), ([11], [11]), ([11], [11]), ([16, 11], [11, 16]), ([14, 15, 17, 11], [11, 14, 15, 17]), ([18, 11, 11], [11, 18]), ([13, 19, 19, 11], [11, 13, 19]), ([20, 11], [11, 20]), ([11, 21], [11, 21]), ([22, 20], [22]), ([23], [23]), ([24, 23], [23, 24]), ([23], [23]), ([23], [23]), ([23], [23]), ([28, 23], [23, 28]), ([26, 27, 29, 23], [23, 26, 27, 29]), ([30, 23, 23], [23, 30]), ([25, 31, 31, 23], [23, 25, 31]), ([32, 23], [23, 32]), ([23, 33], [23, 33])])
def incipitlaw19_AxisKnown.B12 : List Nat := [0, 0, 3, 7, 15, 0, 0, 96, 224, 511, 1023, 2047, 4095, 8191, 4095, 4095, 4095, 69631, 249855, 511999, 1048575, 2097151, 4194303, 8388607, 16777215, 33554431, 16777215, 16777215, 16777215, 285212671, 1023410175, 2097151999, 4294967295, 8589934591, 17179869183]
theorem incipitlaw19_AxisKnown.tab12 : rtab .any (opsOf Try.f6 12) = incipitlaw19_AxisKnown.T12 := by kernel_rfl
theorem incipitlaw19_AxisKnown.bits12 : waitsOk incipitlaw19_AxisKnown.T12.2 incipitlaw19_AxisKnown.B12 = true := by kernel_rfl
def incipitlaw19_AxisKnown.T17 : Bool × List (List Nat × List Nat) := (true, [([], []), ([0], [0]), ([], []), ([2], [2]), ([1, 3, 3], [1, 3]), ([4], [4]), ([5, 4], [5]), ([6], [6]), ([7, 6], [6, 7]), ([6], [6]), ([9, 6, 6], [6, 9]), ([8, 10, 10, 6], [6, 8, 10]), ([11, 6], [6, 11]), ([6, 12], [6, 12]), ([13, 11], [13]), ([14], [14]), ([15, 14], [14, 15]), ([14], [14]), ([17, 14, 14], [14, 17]), ([16, 18, 18, 14], [14, 16, 18]), ([19, 14], [14, 19]), ([14, 20], [14, 20]), ([21, 19], [21]), ([22], [22]), ([23, 22], [22, 23]), ([22], [22]), ([25, 22, 22], [22, 25]), ([24, 26, 26, 22], [22, 24, 26]), ([27, 22], [22, 27]), ([22, 28], [22, 28])])
def incipitlaw19_AxisKnown.B17 : List Nat := [0, 1, 0, 4, 15, 31, 63, 127, 255, 127, 639, 2047, 4095, 8191, 16383, 32767, 65535, 32767, 163839, 524287, 1048575, 2097151, 4194303, 8388607, 16777215, 8388607, 41943039, 134217727, 268435455, 536870911]
theorem incipitlaw19_AxisKnown.tab17 : rtab .any (opsOf Try.f6 17) = incipitlaw19_AxisKnown.T17 := by kernel_rfl
theorem incipitlaw19_AxisKnown.bits17 : waitsOk incipitlaw19_AxisKnown.T17.2 incipitlaw19_AxisKnown.B17 = true := by kernel_rfl
set_option maxHeartbeats 8000000 in
set_option maxRecDepth 100000 in
theorem incipitlaw19_AxisKnown.calls (k : Nat) (A0 : Option Addr) (c0 : Nat) (l0 : List (S47)) (r : Bool) (w : World) (hr0 : Kd.C k47 w A0 l0.length l0) (hc0 : l0.length ≤ c0) (hT : r = true) (h : incipitlaw19_AxisKnown.f k l0 = some r) :
  Calls Try.prog 6 #[.slice A0 l0.length c0] w fun e w' => e = .returned (.bool r) ∧ Below w.heap.size w w' := by
 have hu47 := Try.underlying47
 have HR0 := Sd.mk hr0
 have HC0 := Sd.mk hc0
 clear hr0 hc0
 have HB := Sd.mk (Below.refl w.heap.size w)
 have HT := Sd.mk hT
 clear hT
 have H : (if (l0.length : Int) > 20 then ((incipitlaw19_awake.f k).bind fun t643 => (some t643)) else ((incipitref19_Yes.f k l0).bind fun t644 => ((incipitref19_No.f k l0).bind fun t647 => ((incipitlaw19_long.f k t644).bind fun t650 => (if t650 = true then (incipitlaw19_AxisKnown.j0 k l0 t644 t647 true) else ((incipitlaw19_long.f k t647).bind fun t651 => (incipitlaw19_AxisKnown.j0 k l0 t644 t647 t651))))))) = some r := h
 clear h
 by_cases c2 : (l0.length : Int) > 20
 ·rw [if_pos c2] at H
  have c2b0 : decide (20 < (l0.length : Int)) = true := decide_eq_true c2
  have c2b1 : decide (20 < l0.length) = true := decide_eq_true (by omega)
  clear c2
  replace H := Option.bind_eq_some_iff.mp H
  obtain ⟨t643, A30, H⟩ := H
  replace H : (some t643) = some r := H
  have A3 := Sd.mk A30
  clear A30
  obtain rfl := Option.some.inj H
  go_enter Try.func6, Try.ntmps6
  go_wp2_with (first | ((with_reducible refine gate_callee (f := 10) rfl ?_); refine goesL_ (some 13) rfl rfl Try.func10 (by kernel_rfl) rfl #[] rfl (by (try simp only [List.map_toArray, List.map_cons, List.map_nil]); first | done | rfl | (simp only [List.length_drop, List.length_take]; rfl)) ?_; (with_reducible refine (incipitlaw19_awake.calls k  t643 _ ?side1 A3.out).mono ?_); (case side1 => exact HT.out); rintro e w4 ⟨rfl, hb⟩; refine ⟨_, rfl, ?_⟩; have n0_ := Sd.mk (below_step (by repeat (first | (with_reducible first | exact HB.out | apply bwA | apply pwN | apply bwD) | exact HB.out)) hb); clear HB; have HB := n0_; clear n0_; (try clear hb); (try clear hb2); (try clear hk); (try clear hi)))
  go_ret
  exact ⟨by first | rfl | (simp [errW_none, errW_some] <;> rfl) | (simp [*, errW_none, errW_some] <;> rfl), by repeat (first | (with_reducible first | exact HB.out | apply bwA | apply pwN | apply bwD) | exact HB.out)⟩
 ·rw [if_neg c2] at H
  have c2b0 : decide (20 < (l0.length : Int)) = false := decide_eq_false c2
  have c2b1 : decide (20 < l0.length) = false := decide_eq_false (by omega)
  clear c2
  replace H := Option.bind_eq_some_iff.mp H
  obtain ⟨t644, A50, H⟩ := H
  replace H : ((incipitref19_No.f k l0).bind fun t647 => ((incipitlaw19_long.f k t644).bind fun t650 => (if t650 = true then (incipitlaw19_AxisKnown.j0 k l0 t644 t647 true) else ((incipitlaw19_long.f k t647).bind fun t651 => (incipitlaw19_AxisKnown.j0 k l0 t644 t647 t651))))) = some r := H
  have A5 := Sd.mk A50
  clear A50
  replace H := Option.bind_eq_some_iff.mp H
  obtain ⟨t647, A60, H⟩ := H
  replace H : ((incipitlaw19_long.f k t644).bind fun t650 => (if t650 = true then (incipitlaw19_AxisKnown.j0 k l0 t644 t647 true) else ((incipitlaw19_long.f k t647).bind fun t651 => (incipitlaw19_AxisKnown.j0 k l0 t644 t647 t651)))) = some r := H
  have A6 := Sd.mk A60
  clear A60
  have HC7 := Sd.mk H
  clear H
  go_enter Try.func6, Try.ntmps6
  go_upto_region 4 with (first | ((with_reducible refine gate_callee (f := 28) rfl ?_); refine goesL_ (some 15) rfl rfl Try.func28 (by kernel_rfl) rfl #[.slice A0 l0.length c0] rfl (by (try simp only [List.map_toArray, List.map_cons, List.map_nil]); first | done | rfl | (simp only [List.length_drop, List.length_take]; rfl)) ?_; (with_reducible refine (incipitref19_Yes.calls k (fun k_ => k_ < w.heap.size) _ _ l0 t644 _ ?side1 A5.out).mono ?_); (case side1 => exact Kd.V_mk HC0.out (Kd.F_below (Kd.C_F k47_heap HR0.out) (by repeat (first | (with_reducible first | exact HB.out | apply bwA | apply pwN | apply bwD) | exact HB.out)))); rintro e w8 ⟨v645, rfl, ho0, hb⟩; refine ⟨_, rfl, ?_⟩; have n0_ := Sd.mk (Kd.N_lower (Kd.N_mono (ok' := fun k_ => True) ho0 (fun k_ hk_ => trivial)) (below_size (by repeat (first | (with_reducible first | exact HB.out | apply bwA | apply pwN | apply bwD) | exact HB.out)))); have n1_ := Sd.mk (below_step (by repeat (first | (with_reducible first | exact HB.out | apply bwA | apply pwN | apply bwD) | exact HB.out)) hb); clear HB; have HO646 := n0_; have HB := n1_; clear n0_ n1_; (try clear hb); (try clear hb2); (try clear hk); (try clear hi); (try clear ho0)) | ((with_reducible refine gate_callee (f := 29) rfl ?_); refine goesL_ (some 17) rfl rfl Try.func29 (by kernel_rfl) rfl #[.slice A0 l0.length c0] rfl (by (try simp only [List.map_toArray, List.map_cons, List.map_nil]); first | done | rfl | (simp only [List.length_drop, List.length_take]; rfl)) ?_; (with_reducible refine (incipitref19_No.calls k (fun k_ => k_ < w.heap.size) _ _ l0 t647 _ ?side1 A6.out).mono ?_); (case side1 => exact Kd.V_mk HC0.out (Kd.F_below (Kd.C_F k47_heap HR0.out) (by repeat (first | (with_reducible first | exact HB.out | apply bwA | apply pwN | apply bwD) | exact HB.out)))); rintro e w9 ⟨v648, rfl, ho0, hb⟩; refine ⟨_, rfl, ?_⟩; have n0_ := Sd.mk (Kd.N_elder' (by (with_reducible repeat (first | apply Kd.N_alloc | apply Kd.N_drewN | apply Kd.N_drew)); exact HO646.out) (Kd.N_base ho0) hb); have n1_ := Sd.mk (Kd.N_lower (Kd.N_mono (ok' := fun k_ => some k_ ≠ (v645 : Value).ownBlock) ho0 (fun k_ hk_ => Or.elim hk_ (fun hs_ => fun e_ => Nat.not_le.2 hs_ (Kd.N_base HO646.out k_ e_.symm)) (fun hn_ => (Kd.fresh' (Kd.N_lt (by (with_reducible repeat (first | apply Kd.N_alloc | apply Kd.N_drewN | apply Kd.N_drew)); exact HO646.out)) k_ hn_)))) (below_size (by repeat (first | (with_reducible first | exact HB.out | apply bwA | apply pwN | apply bwD) | exact HB.out)))); have n2_ := Sd.mk (below_step (by repeat (first | (with_reducible first | exact HB.out | apply bwA | apply pwN | apply bwD) | exact HB.out)) hb); clear HO646; clear HB; have HO646 := n0_; have HO649 := n1_; have HB := n2_; clear n0_ n1_ n2_; (try clear hb); (try clear hb2); (try clear hk); (try clear hi); (try clear ho0)))
  (try simp only [Act.put, List.setIfInBounds_toArray, List.set_cons_zero, List.set_cons_succ])
  go_cut [23] (fun v23 wc => ∃ (kq : Nat) (x23_6 : Bool), v23 = .bool x23_6 ∧ Sd (incipitlaw19_AxisKnown.j0 kq l0 t644 t647 x23_6 = some r) ∧ Sd (kq ≤ k) ∧ Sd (Kd.N (Kd.slice 36 k36) 26 wc w.heap.size (fun k_ => some k_ ≠ (v648 : Value).ownBlock) v645 t644) ∧ Sd (Kd.N (Kd.slice 36 k36) 26 wc w.heap.size (fun k_ => some k_ ≠ (v645 : Value).ownBlock) v648 t647) ∧ Sd (Below w.heap.size w wc))
  case first =>
   have H := HC7.out
   clear HC7
   replace H := Option.bind_eq_some_iff.mp H
   obtain ⟨t650, A100, H⟩ := H
   replace H : (if t650 = true then (incipitlaw19_AxisKnown.j0 k l0 t644 t647 true) else ((incipitlaw19_long.f k t647).bind fun t651 => (incipitlaw19_AxisKnown.j0 k l0 t644 t647 t651))) = some r := H
   have A10 := Sd.mk A100
   clear A100
   by_cases c11 : t650 = true
   ·subst c11
    have H1 : (incipitlaw19_AxisKnown.j0 k l0 t644 t647 true) = some r := by rw [if_pos rfl] at H; exact H
    clear H
    have H := H1
    clear H1
    have H' := Sd.mk H
    clear H
    obtain ⟨Ao12, co12, eo12⟩ := Kd.N_slice HO646.out
    subst eo12
    go_wp2_with (first | ((with_reducible refine gate_callee (f := 9) rfl ?_); refine goesL_ (some 19) rfl rfl Try.func9 (by kernel_rfl) rfl #[.slice Ao12 t644.length co12] rfl (by (try simp only [List.map_toArray, List.map_cons, List.map_nil]); first | done | rfl | (simp only [List.length_drop, List.length_take]; rfl)) ?_; (with_reducible refine (incipitlaw19_long.calls k _ _ t644 true _ ?side1 ?side2 A10.out).mono ?_); (case side1 => repeat (first | exact (Kd.N_reads' HO646.out).2.2 | (with_reducible refine Kd.C_alloc ?_ _) | (with_reducible refine Kd.C_drewN ?_ _) | (with_reducible refine Kd.C_drew ?_))); (case side2 => exact (Kd.N_reads' HO646.out).2.1); rintro e w' ⟨rfl, ⟨nd, rfl⟩⟩; refine ⟨_, rfl, ?_⟩))
    go_meet
    case rel => exact ⟨_, (true), (by first | rfl | (simp; done) | (simp [*]; done)), H', ⟨by first | omega | exact Nat.le_refl _⟩, ⟨by (with_reducible repeat (first | apply Kd.N_alloc | apply Kd.N_drewN | apply Kd.N_drew)); exact Kd.N_mono HO646.out (fun _ hk => hk.2)⟩, ⟨by (with_reducible repeat (first | apply Kd.N_alloc | apply Kd.N_drewN | apply Kd.N_drew)); exact HO649.out⟩, ⟨by repeat (first | (with_reducible first | exact HB.out | apply bwA | apply pwN | apply bwD) | exact HB.out)⟩⟩
   ·replace c11 := Bool.eq_false_iff.mpr c11
    subst c11
    have H1 : ((incipitlaw19_long.f k t647).bind fun t651 => (incipitlaw19_AxisKnown.j0 k l0 t644 t647 t651)) = some r := by rw [if_neg (show ¬ (false = true) by decide)] at H; exact H
    clear H
    have H := H1
    clear H1
    replace H := Option.bind_eq_some_iff.mp H
    obtain ⟨t651, A130, H⟩ := H
    replace H : (incipitlaw19_AxisKnown.j0 k l0 t644 t647 t651) = some r := H
    have A13 := Sd.mk A130
    clear A130
    have H' := Sd.mk H
    clear H
    obtain ⟨Ao14, co14, eo14⟩ := Kd.N_slice HO646.out
    subst eo14
    go_wp2_with (first | ((with_reducible refine gate_callee (f := 9) rfl ?_); refine goesL_ (some 19) rfl rfl Try.func9 (by kernel_rfl) rfl #[.slice Ao14 t644.length co14] rfl (by (try simp only [List.map_toArray, List.map_cons, List.map_nil]); first | done | rfl | (simp only [List.length_drop, List.length_take]; rfl)) ?_; (with_reducible refine (incipitlaw19_long.calls k _ _ t644 false _ ?side1 ?side2 A10.out).mono ?_); (case side1 => repeat (first | exact (Kd.N_reads' HO646.out).2.2 | (with_reducible refine Kd.C_alloc ?_ _) | (with_reducible refine Kd.C_drewN ?_ _) | (with_reducible refine Kd.C_drew ?_))); (case side2 => exact (Kd.N_reads' HO646.out).2.1); rintro e w' ⟨rfl, ⟨nd, rfl⟩⟩; refine ⟨_, rfl, ?_⟩; obtain ⟨Ao15, co15, eo15⟩ := Kd.N_slice HO649.out; subst eo15) | (go_at_call 9; (with_reducible refine (incipitlaw19_long.calls k _ _ t647 t651 _ ?side1 ?side2 A13.out).mono ?_); (case side1 => repeat (first | exact (Kd.N_reads' HO649.out).2.2 | (with_reducible refine Kd.C_alloc ?_ _) | (with_reducible refine Kd.C_drewN ?_ _) | (with_reducible refine Kd.C_drew ?_))); (case side2 => exact (Kd.N_reads' HO649.out).2.1); rintro e w' ⟨rfl, ⟨nd, rfl⟩⟩))
    go_meet
    case rel => exact ⟨_, (t651), (by first | rfl | (simp; done) | (simp [*]; done)), H', ⟨by first | omega | exact Nat.le_refl _⟩, ⟨by (with_reducible repeat (first | apply Kd.N_alloc | apply Kd.N_drewN | apply Kd.N_drew)); exact Kd.N_mono HO646.out (fun _ hk => hk.2)⟩, ⟨by (with_reducible repeat (first | apply Kd.N_alloc | apply Kd.N_drewN | apply Kd.N_drew)); exact HO649.out⟩, ⟨by repeat (first | (with_reducible first | exact HB.out | apply bwA | apply pwN | apply bwD) | exact HB.out)⟩⟩
  case rest =>
   clear HC7
   try clear c1
   try clear c2
   try clear c2b0
   try clear c2b1
   try clear p2
   try clear c6
   try clear c9
   try clear c10
   try clear c11
   obtain ⟨kq, x23_6, rfl, HA, HJ6, HO_3, HO_4, HB⟩ := hcut
   cases kq with
   | zero => exact absurd HA.out (by simp [incipitlaw19_AxisKnown.j0])
   | succ kj6 =>
    have H := HA.out
    clear HA
    simp only [incipitlaw19_AxisKnown.j0] at H
    by_cases c16 : x23_6 = true
    ·subst c16
     have H1 : ((incipitlaw19_awake.f kj6).bind fun t652 => (some t652)) = some r := by rw [if_pos rfl] at H; exact H
     clear H
     have H := H1
     clear H1
     replace H := Option.bind_eq_some_iff.mp H
     obtain ⟨t652, A170, H⟩ := H
     replace H : (some t652) = some r := H
     have A17 := Sd.mk A170
     clear A170
     obtain rfl := Option.some.inj H
     go_wp2_with (first | ((with_reducible refine gate_callee (f := 10) rfl ?_); refine goesL_ (some 24) rfl rfl Try.func10 (by kernel_rfl) rfl #[] rfl (by (try simp only [List.map_toArray, List.map_cons, List.map_nil]); first | done | rfl | (simp only [List.length_drop, List.length_take]; rfl)) ?_; (with_reducible refine (incipitlaw19_awake.calls kj6  t652 _ ?side1 A17.out).mono ?_); (case side1 => exact HT.out); rintro e w18 ⟨rfl, hb⟩; refine ⟨_, rfl, ?_⟩; have n0_ := Sd.mk (below_step (by repeat (first | (with_reducible first | exact HB.out | apply bwA | apply pwN | apply bwD) | exact HB.out)) hb); clear HB; have HB := n0_; clear n0_; (try clear hb); (try clear hb2); (try clear hk); (try clear hi)))
     go_ret
     exact ⟨by first | rfl | (simp [errW_none, errW_some] <;> rfl) | (simp [*, errW_none, errW_some] <;> rfl), by repeat (first | (with_reducible first | exact HB.out | apply bwA | apply pwN | apply bwD) | exact HB.out)⟩
    ·replace c16 := Bool.eq_false_iff.mpr c16
     subst c16
     have H1 : (incipitlaw19_AxisKnown.l0 kj6 l0 t644 t647 ([] : List (S47)) 0) = some r := by rw [if_neg (show ¬ (false = true) by decide)] at H; exact H
     clear H
     have H := H1
     clear H1
     have H' := Sd.mk H
     clear H
     go_wp2
     go_loopg [5, 6] kj6 (fun kq v5 v6 w' => ∃ (x5_2 : List (S47)) (x6_2 : Int), v6 = .int .i64 x6_2 ∧ Sd (incipitlaw19_AxisKnown.l0 kq l0 t644 t647 x5_2 x6_2 = some r) ∧ Sd (kq ≤ kj6) ∧ Sd (Kd.N (Kd.slice 36 k36) 26 w' w.heap.size (fun k_ => some k_ ≠ (v648 : Value).ownBlock ∧ some k_ ≠ (v5 : Value).ownBlock) v645 t644) ∧ Sd (Kd.N (Kd.slice 36 k36) 26 w' w.heap.size (fun k_ => some k_ ≠ (v645 : Value).ownBlock ∧ some k_ ≠ (v5 : Value).ownBlock) v648 t647) ∧ Sd (Kd.N k47 47 w' w.heap.size (fun k_ => some k_ ≠ (v645 : Value).ownBlock ∧ some k_ ≠ (v648 : Value).ownBlock) v5 x5_2) ∧ Sd (Below w.heap.size w w'))
     case atStart => exact ⟨(([] : List (S47))), (0), (by first | rfl | (simp; done) | (simp [*]; done)), H', ⟨Nat.le_refl _⟩, ⟨by (with_reducible repeat (first | apply Kd.N_alloc | apply Kd.N_drewN | apply Kd.N_drew)); exact Kd.N_mono HO_3.out (fun _ hk => ⟨hk, (by simp [Value.ownBlock])⟩)⟩, ⟨by (with_reducible repeat (first | apply Kd.N_alloc | apply Kd.N_drewN | apply Kd.N_drew)); exact Kd.N_mono HO_4.out (fun _ hk => ⟨hk, (by simp [Value.ownBlock])⟩)⟩, ⟨by first | exact Kd.S_nil _ _ _ _ _ | exact Kd.N_nil _ _ _ _ _ | exact Kd.V_nil _ _ _ _ _ | exact Kd.Q_nil _ _ _ _ _ | exact Kd.R_nil _ _ _ _ _⟩, ⟨by repeat (first | (with_reducible first | exact HB.out | apply bwA | apply pwN | apply bwD) | exact HB.out)⟩⟩
     case round =>
      clear H'
      try clear c1
      try clear c2
      try clear c2b0
      try clear c2b1
      try clear p2
      try clear c6
      try clear c9
      try clear c10
      try clear c11
      try clear c16
      try clear p2
      obtain ⟨x5_2, x6_2, rfl, HA, HK2, HO_3, HO_4, HO_5, HB⟩ := hrel
      cases gk with
      | zero => exact absurd HA.out (by simp [incipitlaw19_AxisKnown.l0])
      | succ k2 =>
       have H := HA.out
       clear HA
       simp only [incipitlaw19_AxisKnown.l0] at H
       by_cases c19 : x6_2 < (l0.length : Int)
       ·rw [if_pos c19] at H
        have c19b0 : decide (x6_2 < (l0.length : Int)) = true := decide_eq_true c19
        clear c19
        obtain ⟨y653, hy653⟩ : ∃ y_ : List (S36), y_ = (([] : List (S36))) := ⟨_, rfl⟩
        replace H : (if 0 ≤ x6_2 then (if y653.length + ((rd_T47 l0 x6_2).f0).length < 17592186044416 then ((some (([] : List (S36)) : List (S36))).bind fun y660 => (if y660.length + ((rd_T47 l0 x6_2).f1).length < 17592186044416 then (if x5_2.length < 2932031007402 then ((some (x5_2 ++ [(⟨(y653 ++ ((rd_T47 l0 x6_2).f0)), (y660 ++ ((rd_T47 l0 x6_2).f1))⟩ : S47)] : List (S47))).bind fun y667 => (if x6_2 < (y667.length : Int) then ((axis_Not.f ((rd_T47 y667 x6_2).f0) ((rd_T47 y667 x6_2).f1)).bind fun bt671 => ((axis_Whole.f k2 ((rd_T47 y667 x6_2).f0) ((rd_T47 y667 x6_2).f1)).bind fun t679 => ((incipitref19_Whole.f k2 ((rd_T47 l0 x6_2).f0) ((rd_T47 l0 x6_2).f1)).bind fun t681 => (if (t679 != t681) = true then (some false) else (if x6_2 ≤ (wrap64 (x6_2 + 1)) then (if (wrap64 (x6_2 + 1)) ≤ (t647.length : Int) then ((rf_Union.f k2 ((t647.take ((wrap64 (x6_2 + 1)) : Int).toNat).drop (x6_2 : Int).toNat)).bind fun t687 => ((rf_Same.f k2 bt671.1 t687).bind fun t690 => (if t690 = true then (if (wrap64 (x6_2 + 1)) ≤ (t644.length : Int) then ((rf_Union.f k2 ((t644.take ((wrap64 (x6_2 + 1)) : Int).toNat).drop (x6_2 : Int).toNat)).bind fun t696 => ((rf_Same.f k2 bt671.2 t696).bind fun t699 => (if t699 = true then ((some (List.replicate bt671.1.length z36 : List (S36))).bind fun y700 => ((some (List.replicate bt671.2.length z36 : List (S36))).bind fun y703 => (incipitlaw19_AxisKnown.l0 k2 l0 t644 t647 y667 (wrap64 (x6_2 + 1))))) else (some false)))) else (none)) else (some false)))) else (none)) else (none)))))) else (none))) else (none)) else (none))) else (none)) else (none)) = some r := by first | (rw [hy653]; with_reducible exact H) | (have H2_ := (Option.bind_some _ _).symm.trans H; rw [hy653]; with_reducible exact H2_) | (have H2_ := (Option.bind_some _ _).symm.trans H; with_reducible exact H2_) | with_reducible exact H | (rw [hy653]; exact H) | exact H
        have Ny653 := Sd.mk hy653
        clear hy653
        by_cases c20 : 0 ≤ x6_2
        ·rw [if_pos c20] at H
         have c20b0 : decide (0 ≤ x6_2) = true := decide_eq_true c20
         clear c20
         by_cases c21 : y653.length + ((rd_T47 l0 x6_2).f0).length < 17592186044416
         ·rw [if_pos c21] at H
          have LMc21 := Sd.mk c21
          clear c21
          obtain ⟨y657, hy657⟩ : ∃ y_ : List (S36), y_ = (y653 ++ ((rd_T47 l0 x6_2).f0)) := ⟨_, rfl⟩
          replace H : ((some (([] : List (S36)) : List (S36))).bind fun y660 => (if y660.length + ((rd_T47 l0 x6_2).f1).length < 17592186044416 then (if x5_2.length < 2932031007402 then ((some (x5_2 ++ [(⟨y657, (y660 ++ ((rd_T47 l0 x6_2).f1))⟩ : S47)] : List (S47))).bind fun y667 => (if x6_2 < (y667.length : Int) then ((axis_Not.f ((rd_T47 y667 x6_2).f0) ((rd_T47 y667 x6_2).f1)).bind fun bt671 => ((axis_Whole.f k2 ((rd_T47 y667 x6_2).f0) ((rd_T47 y667 x6_2).f1)).bind fun t679 => ((incipitref19_Whole.f k2 ((rd_T47 l0 x6_2).f0) ((rd_T47 l0 x6_2).f1)).bind fun t681 => (if (t679 != t681) = true then (some false) else (if x6_2 ≤ (wrap64 (x6_2 + 1)) then (if (wrap64 (x6_2 + 1)) ≤ (t647.length : Int) then ((rf_Union.f k2 ((t647.take ((wrap64 (x6_2 + 1)) : Int).toNat).drop (x6_2 : Int).toNat)).bind fun t687 => ((rf_Same.f k2 bt671.1 t687).bind fun t690 => (if t690 = true then (if (wrap64 (x6_2 + 1)) ≤ (t644.length : Int) then ((rf_Union.f k2 ((t644.take ((wrap64 (x6_2 + 1)) : Int).toNat).drop (x6_2 : Int).toNat)).bind fun t696 => ((rf_Same.f k2 bt671.2 t696).bind fun t699 => (if t699 = true then ((some (List.replicate bt671.1.length z36 : List (S36))).bind fun y700 => ((some (List.replicate bt671.2.length z36 : List (S36))).bind fun y703 => (incipitlaw19_AxisKnown.l0 k2 l0 t644 t647 y667 (wrap64 (x6_2 + 1))))) else (some false)))) else (none)) else (some false)))) else (none)) else (none)))))) else (none))) else (none)) else (none))) = some r := by first | (rw [hy657]; with_reducible exact H) | (have H2_ := (Option.bind_some _ _).symm.trans H; rw [hy657]; with_reducible exact H2_) | (have H2_ := (Option.bind_some _ _).symm.trans H; with_reducible exact H2_) | with_reducible exact H | (rw [hy657]; exact H) | exact H
          have Ny657 := Sd.mk hy657
          clear hy657
          obtain ⟨y660, hy660⟩ : ∃ y_ : List (S36), y_ = (([] : List (S36))) := ⟨_, rfl⟩
          replace H : (if y660.length + ((rd_T47 l0 x6_2).f1).length < 17592186044416 then (if x5_2.length < 2932031007402 then ((some (x5_2 ++ [(⟨y657, (y660 ++ ((rd_T47 l0 x6_2).f1))⟩ : S47)] : List (S47))).bind fun y667 => (if x6_2 < (y667.length : Int) then ((axis_Not.f ((rd_T47 y667 x6_2).f0) ((rd_T47 y667 x6_2).f1)).bind fun bt671 => ((axis_Whole.f k2 ((rd_T47 y667 x6_2).f0) ((rd_T47 y667 x6_2).f1)).bind fun t679 => ((incipitref19_Whole.f k2 ((rd_T47 l0 x6_2).f0) ((rd_T47 l0 x6_2).f1)).bind fun t681 => (if (t679 != t681) = true then (some false) else (if x6_2 ≤ (wrap64 (x6_2 + 1)) then (if (wrap64 (x6_2 + 1)) ≤ (t647.length : Int) then ((rf_Union.f k2 ((t647.take ((wrap64 (x6_2 + 1)) : Int).toNat).drop (x6_2 : Int).toNat)).bind fun t687 => ((rf_Same.f k2 bt671.1 t687).bind fun t690 => (if t690 = true then (if (wrap64 (x6_2 + 1)) ≤ (t644.length : Int) then ((rf_Union.f k2 ((t644.take ((wrap64 (x6_2 + 1)) : Int).toNat).drop (x6_2 : Int).toNat)).bind fun t696 => ((rf_Same.f k2 bt671.2 t696).bind fun t699 => (if t699 = true then ((some (List.replicate bt671.1.length z36 : List (S36))).bind fun y700 => ((some (List.replicate bt671.2.length z36 : List (S36))).bind fun y703 => (incipitlaw19_AxisKnown.l0 k2 l0 t644 t647 y667 (wrap64 (x6_2 + 1))))) else (some false)))) else (none)) else (some false)))) else (none)) else (none)))))) else (none))) else (none)) else (none)) = some r := by first | (rw [hy660]; with_reducible exact H) | (have H2_ := (Option.bind_some _ _).symm.trans H; rw [hy660]; with_reducible exact H2_) | (have H2_ := (Option.bind_some _ _).symm.trans H; with_reducible exact H2_) | with_reducible exact H | (rw [hy660]; exact H) | exact H
          have Ny660 := Sd.mk hy660
          clear hy660
          by_cases c22 : y660.length + ((rd_T47 l0 x6_2).f1).length < 17592186044416
          ·rw [if_pos c22] at H
           have LMc22 := Sd.mk c22
           clear c22
           obtain ⟨y664, hy664⟩ : ∃ y_ : List (S36), y_ = (y660 ++ ((rd_T47 l0 x6_2).f1)) := ⟨_, rfl⟩
           replace H : (if x5_2.length < 2932031007402 then ((some (x5_2 ++ [(⟨y657, y664⟩ : S47)] : List (S47))).bind fun y667 => (if x6_2 < (y667.length : Int) then ((axis_Not.f ((rd_T47 y667 x6_2).f0) ((rd_T47 y667 x6_2).f1)).bind fun bt671 => ((axis_Whole.f k2 ((rd_T47 y667 x6_2).f0) ((rd_T47 y667 x6_2).f1)).bind fun t679 => ((incipitref19_Whole.f k2 ((rd_T47 l0 x6_2).f0) ((rd_T47 l0 x6_2).f1)).bind fun t681 => (if (t679 != t681) = true then (some false) else (if x6_2 ≤ (wrap64 (x6_2 + 1)) then (if (wrap64 (x6_2 + 1)) ≤ (t647.length : Int) then ((rf_Union.f k2 ((t647.take ((wrap64 (x6_2 + 1)) : Int).toNat).drop (x6_2 : Int).toNat)).bind fun t687 => ((rf_Same.f k2 bt671.1 t687).bind fun t690 => (if t690 = true then (if (wrap64 (x6_2 + 1)) ≤ (t644.length : Int) then ((rf_Union.f k2 ((t644.take ((wrap64 (x6_2 + 1)) : Int).toNat).drop (x6_2 : Int).toNat)).bind fun t696 => ((rf_Same.f k2 bt671.2 t696).bind fun t699 => (if t699 = true then ((some (List.replicate bt671.1.length z36 : List (S36))).bind fun y700 => ((some (List.replicate bt671.2.length z36 : List (S36))).bind fun y703 => (incipitlaw19_AxisKnown.l0 k2 l0 t644 t647 y667 (wrap64 (x6_2 + 1))))) else (some false)))) else (none)) else (some false)))) else (none)) else (none)))))) else (none))) else (none)) = some r := by first | (rw [hy664]; with_reducible exact H) | (have H2_ := (Option.bind_some _ _).symm.trans H; rw [hy664]; with_reducible exact H2_) | (have H2_ := (Option.bind_some _ _).symm.trans H; with_reducible exact H2_) | with_reducible exact H | (rw [hy664]; exact H) | exact H
           have Ny664 := Sd.mk hy664
           clear hy664
           by_cases c23 : x5_2.length < 2932031007402
           ·rw [if_pos c23] at H
            have LMc23 := Sd.mk c23
            clear c23
            obtain ⟨y667, hy667⟩ : ∃ y_ : List (S47), y_ = (x5_2 ++ [(⟨y657, y664⟩ : S47)]) := ⟨_, rfl⟩
            replace H : (if x6_2 < (y667.length : Int) then ((axis_Not.f ((rd_T47 y667 x6_2).f0) ((rd_T47 y667 x6_2).f1)).bind fun bt671 => ((axis_Whole.f k2 ((rd_T47 y667 x6_2).f0) ((rd_T47 y667 x6_2).f1)).bind fun t679 => ((incipitref19_Whole.f k2 ((rd_T47 l0 x6_2).f0) ((rd_T47 l0 x6_2).f1)).bind fun t681 => (if (t679 != t681) = true then (some false) else (if x6_2 ≤ (wrap64 (x6_2 + 1)) then (if (wrap64 (x6_2 + 1)) ≤ (t647.length : Int) then ((rf_Union.f k2 ((t647.take ((wrap64 (x6_2 + 1)) : Int).toNat).drop (x6_2 : Int).toNat)).bind fun t687 => ((rf_Same.f k2 bt671.1 t687).bind fun t690 => (if t690 = true then (if (wrap64 (x6_2 + 1)) ≤ (t644.length : Int) then ((rf_Union.f k2 ((t644.take ((wrap64 (x6_2 + 1)) : Int).toNat).drop (x6_2 : Int).toNat)).bind fun t696 => ((rf_Same.f k2 bt671.2 t696).bind fun t699 => (if t699 = true then ((some (List.replicate bt671.1.length z36 : List (S36))).bind fun y700 => ((some (List.replicate bt671.2.length z36 : List (S36))).bind fun y703 => (incipitlaw19_AxisKnown.l0 k2 l0 t644 t647 y667 (wrap64 (x6_2 + 1))))) else (some false)))) else (none)) else (some false)))) else (none)) else (none)))))) else (none)) = some r := by first | (rw [hy667]; with_reducible exact H) | (have H2_ := (Option.bind_some _ _).symm.trans H; rw [hy667]; with_reducible exact H2_) | (have H2_ := (Option.bind_some _ _).symm.trans H; with_reducible exact H2_) | with_reducible exact H | (rw [hy667]; exact H) | exact H
            have Ny667 := Sd.mk hy667
            clear hy667
            by_cases c24 : x6_2 < (y667.length : Int)
            ·rw [if_pos c24] at H
             have c24b0 : decide (x6_2 < (y667.length : Int)) = true := decide_eq_true c24
             clear c24
             replace H := Option.bind_eq_some_iff.mp H
             obtain ⟨⟨t671, t674⟩, A250, H⟩ := H
             replace H : ((axis_Whole.f k2 ((rd_T47 y667 x6_2).f0) ((rd_T47 y667 x6_2).f1)).bind fun t679 => ((incipitref19_Whole.f k2 ((rd_T47 l0 x6_2).f0) ((rd_T47 l0 x6_2).f1)).bind fun t681 => (if (t679 != t681) = true then (some false) else (if x6_2 ≤ (wrap64 (x6_2 + 1)) then (if (wrap64 (x6_2 + 1)) ≤ (t647.length : Int) then ((rf_Union.f k2 ((t647.take ((wrap64 (x6_2 + 1)) : Int).toNat).drop (x6_2 : Int).toNat)).bind fun t687 => ((rf_Same.f k2 t671 t687).bind fun t690 => (if t690 = true then (if (wrap64 (x6_2 + 1)) ≤ (t644.length : Int) then ((rf_Union.f k2 ((t644.take ((wrap64 (x6_2 + 1)) : Int).toNat).drop (x6_2 : Int).toNat)).bind fun t696 => ((rf_Same.f k2 t674 t696).bind fun t699 => (if t699 = true then ((some (List.replicate t671.length z36 : List (S36))).bind fun y700 => ((some (List.replicate t674.length z36 : List (S36))).bind fun y703 => (incipitlaw19_AxisKnown.l0 k2 l0 t644 t647 y667 (wrap64 (x6_2 + 1))))) else (some false)))) else (none)) else (some false)))) else (none)) else (none))))) = some r := H
             have A25 := Sd.mk A250
             clear A250
             replace H := Option.bind_eq_some_iff.mp H
             obtain ⟨t679, A260, H⟩ := H
             replace H : ((incipitref19_Whole.f k2 ((rd_T47 l0 x6_2).f0) ((rd_T47 l0 x6_2).f1)).bind fun t681 => (if (t679 != t681) = true then (some false) else (if x6_2 ≤ (wrap64 (x6_2 + 1)) then (if (wrap64 (x6_2 + 1)) ≤ (t647.length : Int) then ((rf_Union.f k2 ((t647.take ((wrap64 (x6_2 + 1)) : Int).toNat).drop (x6_2 : Int).toNat)).bind fun t687 => ((rf_Same.f k2 t671 t687).bind fun t690 => (if t690 = true then (if (wrap64 (x6_2 + 1)) ≤ (t644.length : Int) then ((rf_Union.f k2 ((t644.take ((wrap64 (x6_2 + 1)) : Int).toNat).drop (x6_2 : Int).toNat)).bind fun t696 => ((rf_Same.f k2 t674 t696).bind fun t699 => (if t699 = true then ((some (List.replicate t671.length z36 : List (S36))).bind fun y700 => ((some (List.replicate t674.length z36 : List (S36))).bind fun y703 => (incipitlaw19_AxisKnown.l0 k2 l0 t644 t647 y667 (wrap64 (x6_2 + 1))))) else (some false)))) else (none)) else (some false)))) else (none)) else (none)))) = some r := H
             have A26 := Sd.mk A260
             clear A260
             replace H := Option.bind_eq_some_iff.mp H
             obtain ⟨t681, A270, H⟩ := H
             replace H : (if (t679 != t681) = true then (some false) else (if x6_2 ≤ (wrap64 (x6_2 + 1)) then (if (wrap64 (x6_2 + 1)) ≤ (t647.length : Int) then ((rf_Union.f k2 ((t647.take ((wrap64 (x6_2 + 1)) : Int).toNat).drop (x6_2 : Int).toNat)).bind fun t687 => ((rf_Same.f k2 t671 t687).bind fun t690 => (if t690 = true then (if (wrap64 (x6_2 + 1)) ≤ (t644.length : Int) then ((rf_Union.f k2 ((t644.take ((wrap64 (x6_2 + 1)) : Int).toNat).drop (x6_2 : Int).toNat)).bind fun t696 => ((rf_Same.f k2 t674 t696).bind fun t699 => (if t699 = true then ((some (List.replicate t671.length z36 : List (S36))).bind fun y700 => ((some (List.replicate t674.length z36 : List (S36))).bind fun y703 => (incipitlaw19_AxisKnown.l0 k2 l0 t644 t647 y667 (wrap64 (x6_2 + 1))))) else (some false)))) else (none)) else (some false)))) else (none)) else (none))) = some r := H
             have A27 := Sd.mk A270
             clear A270
             by_cases c28 : (t679 != t681) = true
             ·rw [if_pos c28] at H
              have c28b0 : (t679 != t681) = true := c28
              (try (have c28b1 : decide (t679 = t681) = false := by simpa using c28))
              (try (have c28b2 : (t679 == t681) = false := by simpa using c28))
              (try (have c28b3 : ¬ (t679 = t681) := by simpa using c28))
              clear c28
              exact absurd ((Option.some.inj H).trans HT.out) (by decide)
             ·rw [if_neg c28] at H
              have c28b0 : (t679 != t681) = false := by simpa using c28
              (try (have c28b1 : decide (t679 = t681) = true := by simpa using c28))
              (try (have c28b2 : (t679 == t681) = true := by simpa using c28))
              clear c28
              have c29b0 := eq_true (of_decide_eq_true (by first | (with_reducible assumption) | assumption) : 0 ≤ x6_2)
              by_cases c30 : x6_2 ≤ (wrap64 (x6_2 + 1))
              ·rw [if_pos c30] at H
               have c30b0 := eq_true c30
               have c30b1 : decide (x6_2 ≤ (wrap64 (x6_2 + 1))) = true := decide_eq_true c30
               by_cases c31 : (wrap64 (x6_2 + 1)) ≤ (t647.length : Int)
               ·rw [if_pos c31] at H
                have c31b0 := eq_true c31
                have c31b1 : decide ((wrap64 (x6_2 + 1)) ≤ (t647.length : Int)) = true := decide_eq_true c31
                obtain ⟨y682, hy682⟩ : ∃ y_ : List (List (S36)), y_ = ((t647.take ((wrap64 (x6_2 + 1)) : Int).toNat).drop (x6_2 : Int).toNat) := ⟨_, rfl⟩
                replace H : ((rf_Union.f k2 y682).bind fun t687 => ((rf_Same.f k2 t671 t687).bind fun t690 => (if t690 = true then (if (wrap64 (x6_2 + 1)) ≤ (t644.length : Int) then ((rf_Union.f k2 ((t644.take ((wrap64 (x6_2 + 1)) : Int).toNat).drop (x6_2 : Int).toNat)).bind fun t696 => ((rf_Same.f k2 t674 t696).bind fun t699 => (if t699 = true then ((some (List.replicate t671.length z36 : List (S36))).bind fun y700 => ((some (List.replicate t674.length z36 : List (S36))).bind fun y703 => (incipitlaw19_AxisKnown.l0 k2 l0 t644 t647 y667 (wrap64 (x6_2 + 1))))) else (some false)))) else (none)) else (some false)))) = some r := by first | (rw [hy682]; with_reducible exact H) | (have H2_ := (Option.bind_some _ _).symm.trans H; rw [hy682]; with_reducible exact H2_) | (have H2_ := (Option.bind_some _ _).symm.trans H; with_reducible exact H2_) | with_reducible exact H | (rw [hy682]; exact H) | exact H
                have Ny682 := Sd.mk hy682
                clear hy682
                replace H := Option.bind_eq_some_iff.mp H
                obtain ⟨t687, A320, H⟩ := H
                replace H : ((rf_Same.f k2 t671 t687).bind fun t690 => (if t690 = true then (if (wrap64 (x6_2 + 1)) ≤ (t644.length : Int) then ((rf_Union.f k2 ((t644.take ((wrap64 (x6_2 + 1)) : Int).toNat).drop (x6_2 : Int).toNat)).bind fun t696 => ((rf_Same.f k2 t674 t696).bind fun t699 => (if t699 = true then ((some (List.replicate t671.length z36 : List (S36))).bind fun y700 => ((some (List.replicate t674.length z36 : List (S36))).bind fun y703 => (incipitlaw19_AxisKnown.l0 k2 l0 t644 t647 y667 (wrap64 (x6_2 + 1))))) else (some false)))) else (none)) else (some false))) = some r := H
                have A32 := Sd.mk A320
                clear A320
                replace H := Option.bind_eq_some_iff.mp H
                obtain ⟨t690, A330, H⟩ := H
                replace H : (if t690 = true then (if (wrap64 (x6_2 + 1)) ≤ (t644.length : Int) then ((rf_Union.f k2 ((t644.take ((wrap64 (x6_2 + 1)) : Int).toNat).drop (x6_2 : Int).toNat)).bind fun t696 => ((rf_Same.f k2 t674 t696).bind fun t699 => (if t699 = true then ((some (List.replicate t671.length z36 : List (S36))).bind fun y700 => ((some (List.replicate t674.length z36 : List (S36))).bind fun y703 => (incipitlaw19_AxisKnown.l0 k2 l0 t644 t647 y667 (wrap64 (x6_2 + 1))))) else (some false)))) else (none)) else (some false)) = some r := H
                have A33 := Sd.mk A330
                clear A330
                by_cases c34 : t690 = true
                ·subst c34
                 have H1 : (if (wrap64 (x6_2 + 1)) ≤ (t644.length : Int) then ((rf_Union.f k2 ((t644.take ((wrap64 (x6_2 + 1)) : Int).toNat).drop (x6_2 : Int).toNat)).bind fun t696 => ((rf_Same.f k2 t674 t696).bind fun t699 => (if t699 = true then ((some (List.replicate t671.length z36 : List (S36))).bind fun y700 => ((some (List.replicate t674.length z36 : List (S36))).bind fun y703 => (incipitlaw19_AxisKnown.l0 k2 l0 t644 t647 y667 (wrap64 (x6_2 + 1))))) else (some false)))) else (none)) = some r := by rw [if_pos rfl] at H; exact H
                 clear H
                 have H := H1
                 clear H1
                 have c35b0 := eq_true (of_decide_eq_true (by first | (with_reducible assumption) | assumption) : 0 ≤ x6_2)
                 have c36b0 := eq_true (of_decide_eq_true (by first | (with_reducible assumption) | assumption) : x6_2 ≤ (wrap64 (x6_2 + 1)))
                 by_cases c37 : (wrap64 (x6_2 + 1)) ≤ (t644.length : Int)
                 ·rw [if_pos c37] at H
                  have c37b0 := eq_true c37
                  have c37b1 : decide ((wrap64 (x6_2 + 1)) ≤ (t644.length : Int)) = true := decide_eq_true c37
                  obtain ⟨y691, hy691⟩ : ∃ y_ : List (List (S36)), y_ = ((t644.take ((wrap64 (x6_2 + 1)) : Int).toNat).drop (x6_2 : Int).toNat) := ⟨_, rfl⟩
                  replace H : ((rf_Union.f k2 y691).bind fun t696 => ((rf_Same.f k2 t674 t696).bind fun t699 => (if t699 = true then ((some (List.replicate t671.length z36 : List (S36))).bind fun y700 => ((some (List.replicate t674.length z36 : List (S36))).bind fun y703 => (incipitlaw19_AxisKnown.l0 k2 l0 t644 t647 y667 (wrap64 (x6_2 + 1))))) else (some false)))) = some r := by first | (rw [hy691]; with_reducible exact H) | (have H2_ := (Option.bind_some _ _).symm.trans H; rw [hy691]; with_reducible exact H2_) | (have H2_ := (Option.bind_some _ _).symm.trans H; with_reducible exact H2_) | with_reducible exact H | (rw [hy691]; exact H) | exact H
                  have Ny691 := Sd.mk hy691
                  clear hy691
                  replace H := Option.bind_eq_some_iff.mp H
                  obtain ⟨t696, A380, H⟩ := H
                  replace H : ((rf_Same.f k2 t674 t696).bind fun t699 => (if t699 = true then ((some (List.replicate t671.length z36 : List (S36))).bind fun y700 => ((some (List.replicate t674.length z36 : List (S36))).bind fun y703 => (incipitlaw19_AxisKnown.l0 k2 l0 t644 t647 y667 (wrap64 (x6_2 + 1))))) else (some false))) = some r := H
                  have A38 := Sd.mk A380
                  clear A380
                  replace H := Option.bind_eq_some_iff.mp H
                  obtain ⟨t699, A390, H⟩ := H
                  replace H : (if t699 = true then ((some (List.replicate t671.length z36 : List (S36))).bind fun y700 => ((some (List.replicate t674.length z36 : List (S36))).bind fun y703 => (incipitlaw19_AxisKnown.l0 k2 l0 t644 t647 y667 (wrap64 (x6_2 + 1))))) else (some false)) = some r := H
                  have A39 := Sd.mk A390
                  clear A390
                  by_cases c40 : t699 = true
                  ·subst c40
                   have H1 : ((some (List.replicate t671.length z36 : List (S36))).bind fun y700 => ((some (List.replicate t674.length z36 : List (S36))).bind fun y703 => (incipitlaw19_AxisKnown.l0 k2 l0 t644 t647 y667 (wrap64 (x6_2 + 1))))) = some r := by rw [if_pos rfl] at H; exact H
                   clear H
                   have H := H1
                   clear H1
                   obtain ⟨y700, hy700⟩ : ∃ y_ : List (S36), y_ = (List.replicate t671.length z36) := ⟨_, rfl⟩
                   replace H : ((some (List.replicate t674.length z36 : List (S36))).bind fun y703 => (incipitlaw19_AxisKnown.l0 k2 l0 t644 t647 y667 (wrap64 (x6_2 + 1)))) = some r := by first | (rw [hy700]; with_reducible exact H) | (have H2_ := (Option.bind_some _ _).symm.trans H; rw [hy700]; with_reducible exact H2_) | (have H2_ := (Option.bind_some _ _).symm.trans H; with_reducible exact H2_) | with_reducible exact H | (rw [hy700]; exact H) | exact H
                   have Ny700 := Sd.mk hy700
                   clear hy700
                   obtain ⟨y703, hy703⟩ : ∃ y_ : List (S36), y_ = (List.replicate t674.length z36) := ⟨_, rfl⟩
                   replace H : (incipitlaw19_AxisKnown.l0 k2 l0 t644 t647 y667 (wrap64 (x6_2 + 1))) = some r := by first | (rw [hy703]; with_reducible exact H) | (have H2_ := (Option.bind_some _ _).symm.trans H; rw [hy703]; with_reducible exact H2_) | (have H2_ := (Option.bind_some _ _).symm.trans H; with_reducible exact H2_) | with_reducible exact H | (rw [hy703]; exact H) | exact H
                   have Ny703 := Sd.mk hy703
                   clear hy703
                   have H' := Sd.mk H
                   clear H
                   obtain ⟨Ao41, co41, eo41⟩ := Kd.N_slice HO_5.out
                   subst eo41
                   try go_wp2
                   replace HO_3 := Sd.mk (Kd.N_drew HO_3.out)
                   replace HO_4 := Sd.mk (Kd.N_drew HO_4.out)
                   replace HO_5 := Sd.mk (Kd.N_drew HO_5.out)
                   replace HB := Sd.mk (bwD HB.out)
                   have p656 : 0 ≤ (x6_2 : Int) := of_decide_eq_true (by first | (with_reducible assumption) | assumption)
                   have q656 : x6_2 < (l0.length : Int) := of_decide_eq_true (by first | (with_reducible assumption) | assumption)
                   obtain ⟨ad656, A656_0, c656_0, A656_1, c656_1, e656, hx656_0, hx656_1, hl656_0, hi656_0, hl656_1, hi656_1⟩ := at_T47 HR0.out x6_2 p656 q656
                   have hw656_1 := hx656_1
                   have hw656_0 := hx656_0
                   cases e656
                   replace hx656_0 := (HB.out.cell (World.block_lt_of_cell? w _ hx656_0)).trans hx656_0
                   replace hx656_1 := (HB.out.cell (World.block_lt_of_cell? w _ hx656_1)).trans hx656_1
                   have HR656_0 := Sd.mk hi656_0
                   have HC656_0 := Sd.mk hl656_0
                   clear hi656_0 hl656_0
                   have HR656_1 := Sd.mk hi656_1
                   have HC656_1 := Sd.mk hl656_1
                   clear hi656_1 hl656_1
                   replace p656 := eq_true p656
                   replace q656 := eq_true q656
                   have p663 : 0 ≤ (x6_2 : Int) := of_decide_eq_true (by first | (with_reducible assumption) | assumption)
                   have q663 : x6_2 < (l0.length : Int) := of_decide_eq_true (by first | (with_reducible assumption) | assumption)
                   obtain ⟨ad663, A663_0, c663_0, A663_1, c663_1, e663, hx663_0, hx663_1, hl663_0, hi663_0, hl663_1, hi663_1⟩ := at_T47 HR0.out x6_2 p663 q663
                   have hw663_1 := hx663_1
                   have hw663_0 := hx663_0
                   obtain rfl : ad656 = ad663 := (by injection e663)
                   replace hx663_0 := (HB.out.cell (World.block_lt_of_cell? w _ hx663_0)).trans hx663_0
                   replace hx663_1 := (HB.out.cell (World.block_lt_of_cell? w _ hx663_1)).trans hx663_1
                   have HR663_0 := Sd.mk hi663_0
                   have HC663_0 := Sd.mk hl663_0
                   clear hi663_0 hl663_0
                   have HR663_1 := Sd.mk hi663_1
                   have HC663_1 := Sd.mk hl663_1
                   clear hi663_1 hl663_1
                   replace p663 := eq_true p663
                   replace q663 := eq_true q663
                   have ea_ := Option.some.inj (hx656_0.symm.trans hx663_0)
                   injection ea_ with ea_ en_ ec_
                   subst ea_
                   subst ec_
                   clear en_
                   have ea_ := Option.some.inj (hx656_1.symm.trans hx663_1)
                   injection ea_ with ea_ en_ ec_
                   subst ea_
                   subst ec_
                   clear en_
                   refine start_ (n := 19) (S := fun w' => w'.cell? (ad656.add ((x6_2).toNat * 2)) = some (.slice A656_0 ((rd_T47 l0 x6_2).f0).length c656_0) ∧ w'.cell? ⟨(ad656.add ((x6_2).toNat * 2)).block, (ad656.add ((x6_2).toNat * 2)).off + 1, none⟩ = some (.slice A656_1 ((rd_T47 l0 x6_2).f1).length c656_1) ∧ w'.cell? (ad656.add ((x6_2).toNat * 2)) = some (.slice A656_0 ((rd_T47 l0 x6_2).f0).length c656_0) ∧ w'.cell? ⟨(ad656.add ((x6_2).toNat * 2)).block, (ad656.add ((x6_2).toNat * 2)).off + 1, none⟩ = some (.slice A656_1 ((rd_T47 l0 x6_2).f1).length c656_1)) (ds := []) #[false, false, false, false, false, false, false, false, false, false, false, false, false, false, false, false, false, false, false] (by kernel_rfl) rfl rfl ⟨((HB.out.cell (World.block_lt_of_cell? w _ hw656_0)).trans hw656_0), ((HB.out.cell (World.block_lt_of_cell? w _ hw656_1)).trans hw656_1), ((HB.out.cell (World.block_lt_of_cell? w _ hw663_0)).trans hw663_0), ((HB.out.cell (World.block_lt_of_cell? w _ hw663_1)).trans hw663_1)⟩ (fun hHeld => ?_); refine with_tabW incipitlaw19_AxisKnown.tab10 incipitlaw19_AxisKnown.bits10 (fun HT_ HW_ => ?_)
                   generalize wr.drew = w42 at HO_3 HO_4 HO_5 HB HR656_0 HR656_1 HR663_0 HR663_1 hx656_0 hx656_1 hx663_0 hx663_1 hHeld ⊢
                   refine pure_ (i := 0) (N := some 31) (v := ?_) (a' := ?_) #[true, false, false, false, false, false, false, false, false, false, false, false, false, false, false, false, false, false, false] rfl rfl (any_of HT_.out (by kernel_rfl)) (fun _ _ _ h => h) (Or.inl ⟨by rfl, ?_⟩) ?_ ?_
                   rotate_left
                   ·intro w'
                    go_simp
                    with_reducible rfl
                   rotate_left
                   ·simp only [Act.put, List.setIfInBounds_toArray, List.set_cons_zero, List.set_cons_succ, i64_w, i32_w]
                    rfl
                   refine pure_ (i := 2) (N := some 33) (v := ?_) (a' := ?_) #[true, false, true, false, false, false, false, false, false, false, false, false, false, false, false, false, false, false, false] rfl rfl (any_of HT_.out (by kernel_rfl)) (fun _ _ _ h => h) (Or.inl ⟨by rfl, ?_⟩) ?_ ?_
                   rotate_left
                   ·intro w'
                    go_simp
                    with_reducible rfl
                   rotate_left
                   ·simp only [Act.put, List.setIfInBounds_toArray, List.set_cons_zero, List.set_cons_succ, i64_w, i32_w]
                    rfl
                   refine pure_ (i := 3) (N := some 34) (v := ?_) (a' := ?_) #[true, false, true, true, false, false, false, false, false, false, false, false, false, false, false, false, false, false, false] rfl rfl (any_of HT_.out (by kernel_rfl)) (fun _ _ _ h => h) (Or.inl ⟨by rfl, ?_⟩) ?_ ?_
                   rotate_left
                   ·intro w'
                    go_simp
                    with_reducible rfl
                   rotate_left
                   ·simp only [Act.put, List.setIfInBounds_toArray, List.set_cons_zero, List.set_cons_succ, i64_w, i32_w]
                    rfl
                   refine pure_ (i := 4) (N := some 35) (v := ?_) (a' := ?_) #[true, false, true, true, true, false, false, false, false, false, false, false, false, false, false, false, false, false, false] rfl rfl (any_of HT_.out (by kernel_rfl)) (fun _ _ _ h => h) (Or.inl ⟨by rfl, ?_⟩) ?_ ?_
                   rotate_left
                   ·intro w'
                    go_simp
                    with_reducible rfl
                   rotate_left
                   ·simp only [Act.put, List.setIfInBounds_toArray, List.set_cons_zero, List.set_cons_succ, i64_w, i32_w]
                    rfl
                   refine pure_ (i := 5) (N := some 36) (v := ?_) (a' := ?_) #[true, false, true, true, true, true, false, false, false, false, false, false, false, false, false, false, false, false, false] rfl rfl (any_of HT_.out (by kernel_rfl)) (fun _ _ _ h => h) (Or.inl ⟨by rfl, ?_⟩) ?_ ?_
                   rotate_left
                   ·intro w'
                    go_simp
                    with_reducible rfl
                   rotate_left
                   ·simp only [Act.put, List.setIfInBounds_toArray, List.set_cons_zero, List.set_cons_succ, i64_w, i32_w]
                    rfl
                   refine pure_ (i := 9) (N := some 40) (v := ?_) (a' := ?_) #[true, false, true, true, true, true, false, false, false, true, false, false, false, false, false, false, false, false, false] rfl rfl (any_of HT_.out (by kernel_rfl)) (fun _ _ _ h => h) (Or.inl ⟨by rfl, ?_⟩) ?_ ?_
                   rotate_left
                   ·intro w'
                    go_simp
                    with_reducible rfl
                   rotate_left
                   ·simp only [Act.put, List.setIfInBounds_toArray, List.set_cons_zero, List.set_cons_succ, i64_w, i32_w]
                    rfl
                   refine pure_ (i := 10) (N := some 41) (v := ?_) (a' := ?_) #[true, false, true, true, true, true, false, false, false, true, true, false, false, false, false, false, false, false, false] rfl rfl (any_of HT_.out (by kernel_rfl)) (fun _ _ _ h => h) (Or.inl ⟨by rfl, ?_⟩) ?_ ?_
                   rotate_left
                   ·intro w'
                    go_simp
                    with_reducible rfl
                   rotate_left
                   ·simp only [Act.put, List.setIfInBounds_toArray, List.set_cons_zero, List.set_cons_succ, i64_w, i32_w]
                    rfl
                   refine pure_ (i := 11) (N := some 42) (v := ?_) (a' := ?_) #[true, false, true, true, true, true, false, false, false, true, true, true, false, false, false, false, false, false, false] rfl rfl (any_of HT_.out (by kernel_rfl)) (fun _ _ _ h => h) (Or.inl ⟨by rfl, ?_⟩) ?_ ?_
                   rotate_left
                   ·intro w'
                    go_simp
                    with_reducible rfl
                   rotate_left
                   ·simp only [Act.put, List.setIfInBounds_toArray, List.set_cons_zero, List.set_cons_succ, i64_w, i32_w]
                    rfl
                   refine pure_ (i := 12) (N := some 43) (v := ?_) (a' := ?_) #[true, false, true, true, true, true, false, false, false, true, true, true, true, false, false, false, false, false, false] rfl rfl (any_of HT_.out (by kernel_rfl)) (fun _ _ _ h => h) (Or.inl ⟨by rfl, ?_⟩) ?_ ?_
                   rotate_left
                   ·intro w'
                    go_simp
                    with_reducible rfl
                   rotate_left
                   ·simp only [Act.put, List.setIfInBounds_toArray, List.set_cons_zero, List.set_cons_succ, i64_w, i32_w]
                    rfl
                   refine take_ (i := 6) (N := some 37) (v := ?_) (a' := ?_) #[true, false, true, true, true, true, true, false, false, true, true, true, true, false, false, false, false, false, false] rfl rfl (take_ofW HT_.out HW_.out (by kernel_rfl)) (fun _ _ _ h => h) (Or.inl ⟨by rfl, ?_⟩) hHeld ?_ ?_
                   rotate_left
                   ·rintro w' ⟨s0, s1, s2, s3⟩
                    go_simp
                    with_reducible rfl
                   rotate_left
                   ·simp only [Act.put, List.setIfInBounds_toArray, List.set_cons_zero, List.set_cons_succ, i64_w, i32_w]
                    rfl
                   refine take_ (i := 13) (N := some 44) (v := ?_) (a' := ?_) #[true, false, true, true, true, true, true, false, false, true, true, true, true, true, false, false, false, false, false] rfl rfl (take_ofW HT_.out HW_.out (by kernel_rfl)) (fun _ _ _ h => h) (Or.inl ⟨by rfl, ?_⟩) hHeld ?_ ?_
                   rotate_left
                   ·rintro w' ⟨s0, s1, s2, s3⟩
                    go_simp
                    with_reducible rfl
                   rotate_left
                   ·simp only [Act.put, List.setIfInBounds_toArray, List.set_cons_zero, List.set_cons_succ, i64_w, i32_w]
                    rfl
                   refine join_ (σ := Value × Value × Value) 5 #[true, true, true, true, true, true, true, true, true, true, true, true, true, true, false, false, false, false, false] (fun s_ => [(32, s_.1), (38, s_.2.1), (39, s_.2.2)]) (fun s_ w' => (w'.cell? (ad656.add ((x6_2).toNat * 2)) = some (.slice A656_0 ((rd_T47 l0 x6_2).f0).length c656_0) ∧ w'.cell? ⟨(ad656.add ((x6_2).toNat * 2)).block, (ad656.add ((x6_2).toNat * 2)).off + 1, none⟩ = some (.slice A656_1 ((rd_T47 l0 x6_2).f1).length c656_1) ∧ w'.cell? (ad656.add ((x6_2).toNat * 2)) = some (.slice A656_0 ((rd_T47 l0 x6_2).f0).length c656_0) ∧ w'.cell? ⟨(ad656.add ((x6_2).toNat * 2)).block, (ad656.add ((x6_2).toNat * 2)).off + 1, none⟩ = some (.slice A656_1 ((rd_T47 l0 x6_2).f1).length c656_1)) ∧ (Kd.R k36 36 w' w.heap.size (fun k_ => some k_ ≠ (s_.2.2 : Value).ownBlock) s_.2.1 y657) ∧ (Kd.R k36 36 w' w.heap.size (fun k_ => some k_ ≠ (s_.2.1 : Value).ownBlock) s_.2.2 y660) ∧ (Kd.N (Kd.slice 36 k36) 26 w' w.heap.size (fun k_ => some k_ ≠ (s_.2.1 : Value).ownBlock ∧ some k_ ≠ (s_.2.2 : Value).ownBlock ∧ some k_ ≠ (v648 : Value).ownBlock ∧ some k_ ≠ (.slice Ao41 x5_2.length co41 : Value).ownBlock) v645 t644) ∧ (Kd.N (Kd.slice 36 k36) 26 w' w.heap.size (fun k_ => some k_ ≠ (s_.2.1 : Value).ownBlock ∧ some k_ ≠ (s_.2.2 : Value).ownBlock ∧ some k_ ≠ (v645 : Value).ownBlock ∧ some k_ ≠ (.slice Ao41 x5_2.length co41 : Value).ownBlock) v648 t647) ∧ (Kd.N k47 47 w' w.heap.size (fun k_ => some k_ ≠ (s_.2.1 : Value).ownBlock ∧ some k_ ≠ (s_.2.2 : Value).ownBlock ∧ some k_ ≠ (v645 : Value).ownBlock ∧ some k_ ≠ (v648 : Value).ownBlock) (.slice Ao41 x5_2.length co41) x5_2) ∧ (Below w.heap.size w w')) ?_ ?_
                   rotate_left
                   ·intro hCont
                    refine two_ (i := 1) (j := 8) (Ni := some 32) (Nj := some 39) #[true, true, true, true, true, true, true, false, false, true, true, true, true, true, false, false, false, false, false] #[true, false, true, true, true, true, true, false, true, true, true, true, true, true, false, false, false, false, false] rfl rfl rfl rfl (two_of HT_.out (by kernel_rfl)) (by decide) (by decide) (fun K hK => ?_) (fun K hK => ?_)
                    ·skip
                     refine Kd.R_lit_step k36 _ 36 ?hg (N := 32) ?hd (xs := ([] : List (S36))) (inner := []) (ok := fun _ => True) (okp := fun _ => True) ?hr ?hp (fun _ hk => hk) trivial (Below.refl _ _) (Nat.le_refl _) (by simp) ?_; (case hd => rfl); (case hg => rfl); (case hr => first | (go_simp; done) | (go_simp; rfl)); (case hp => exact (Reps.none _ _))
                     intro v654 w43 ho44 hb hg_ hnew_
                     clear hg_ hnew_
                     (first | rw [← Ny653.out] at ho44 | (simp only [Int.reduceToNat] at ho44; rw [← Ny653.out] at ho44))
                     have n0_ := Sd.mk (Kd.N_elder' (by (with_reducible repeat (first | apply Kd.N_alloc | apply Kd.N_drewN | apply Kd.N_drew)); exact HO_3.out) (Kd.R_base ho44) hb)
                     have n1_ := Sd.mk (Kd.N_elder' (by (with_reducible repeat (first | apply Kd.N_alloc | apply Kd.N_drewN | apply Kd.N_drew)); exact HO_4.out) (Kd.R_base ho44) hb)
                     have n2_ := Sd.mk (Kd.N_elder' (by (with_reducible repeat (first | apply Kd.N_alloc | apply Kd.N_drewN | apply Kd.N_drew)); exact HO_5.out) (Kd.R_base ho44) hb)
                     have n3_ := Sd.mk (Kd.R_lower ho44 (below_size (by repeat (first | (with_reducible first | exact HB.out | apply bwA | apply pwN | apply bwD) | exact HB.out))))
                     have n4_ := Sd.mk (below_step (by repeat (first | (with_reducible first | exact HB.out | apply bwA | apply pwN | apply bwD) | exact HB.out)) hb)
                     clear HO_3
                     clear HO_4
                     clear HO_5
                     clear HB
                     have HO_3 := n0_
                     have HO_4 := n1_
                     have HO_5 := n2_
                     have HO655 := n3_
                     have HB := n4_
                     clear n0_ n1_ n2_ n3_ n4_
                     clear hb ho44
                     refine hK.out _ _ ⟨((HB.out.cell (World.block_lt_of_cell? w _ hw656_0)).trans hw656_0), ((HB.out.cell (World.block_lt_of_cell? w _ hw656_1)).trans hw656_1), ((HB.out.cell (World.block_lt_of_cell? w _ hw663_0)).trans hw663_0), ((HB.out.cell (World.block_lt_of_cell? w _ hw663_1)).trans hw663_1)⟩ (fun hHeld => ?_)
                     clear hK K
                     refine norm_ (a' := ?_) ?_ ?_
                     rotate_left
                     ·show Act.put _ (some 32) _ = _
                      simp only [Act.put, List.setIfInBounds_toArray, List.set_cons_zero, List.set_cons_succ, i64_w, i32_w]
                      rfl
                     refine two_ (i := 7) (j := 8) (Ni := some 38) (Nj := some 39) #[true, true, true, true, true, true, true, true, false, true, true, true, true, true, false, false, false, false, false] #[true, true, true, true, true, true, true, false, true, true, true, true, true, true, false, false, false, false, false] rfl rfl rfl rfl (two_of HT_.out (by kernel_rfl)) (by decide) (by decide) (fun K hK => ?_) (fun K hK => ?_)
                     ·skip
                      refine Kd.R_append_rows_step k36 (w0 := w) w.heap.size (by rfl) (.tmp 32) (.tmp 37) 26 36 (.agg #[(.int .u32 0), (.int .u32 0)]) 8 rfl Try.underlying26 info36 rfl (by decide) (by omega) v654 y653 ((rd_T47 l0 x6_2).f0) _ _ _ (fun _ => True) (fun _ => False) rfl rfl ?aO ?aR (fun _ _ h => h) (fun _ h => h.elim) ?aF ?aB ?aS ?aL ?_
                      (case aR => repeat (first | exact (Kd.C_below HR656_0.out HB.out) | (with_reducible refine Kd.C_alloc ?_ _) | (with_reducible refine Kd.C_drewN ?_ _) | (with_reducible refine Kd.C_drew ?_)))
                      (case aB => exact (by repeat (first | (with_reducible first | exact HB.out | apply bwA | apply pwN | apply bwD) | exact HB.out)))
                      (case aF => exact (fun _ _ => trivial))
                      (case aO => exact (by (with_reducible repeat (first | apply Kd.R_alloc | apply Kd.R_drewN | apply Kd.R_drew)); exact HO655.out))
                      (case aS => exact (below_size (by repeat (first | (with_reducible first | exact HB.out | apply bwA | apply pwN | apply bwD) | exact HB.out))))
                      (case aL => have := LMc21.out; omega)
                      intro v658 w45 ho hb hg hat
                      rw [← Ny657.out] at ho
                      have n0_ := Sd.mk (Kd.N_afterv (ok := (fun k_ => some k_ ≠ (v648 : Value).ownBlock ∧ some k_ ≠ (.slice Ao41 x5_2.length co41 : Value).ownBlock)) (by (with_reducible repeat (first | apply Kd.N_alloc | apply Kd.N_drewN | apply Kd.N_drew)); exact HO_3.out) hg hat)
                      have n1_ := Sd.mk (Kd.N_afterv (ok := (fun k_ => some k_ ≠ (v645 : Value).ownBlock ∧ some k_ ≠ (.slice Ao41 x5_2.length co41 : Value).ownBlock)) (by (with_reducible repeat (first | apply Kd.N_alloc | apply Kd.N_drewN | apply Kd.N_drew)); exact HO_4.out) hg hat)
                      have n2_ := Sd.mk (Kd.N_afterv (ok := (fun k_ => some k_ ≠ (v645 : Value).ownBlock ∧ some k_ ≠ (v648 : Value).ownBlock)) (by (with_reducible repeat (first | apply Kd.N_alloc | apply Kd.N_drewN | apply Kd.N_drew)); exact HO_5.out) hg hat)
                      have n3_ := Sd.mk (hb)
                      have n4_ := Sd.mk (ho)
                      clear HO_3
                      clear HO_4
                      clear HO_5
                      clear HB
                      clear HO655
                      have HO_3 := n0_
                      have HO_4 := n1_
                      have HO_5 := n2_
                      have HB := n3_
                      have HO659 := n4_
                      clear n0_ n1_ n2_ n3_ n4_
                      clear ho hb hg hat
                      refine hK.out _ _ ⟨((HB.out.cell (World.block_lt_of_cell? w _ hw656_0)).trans hw656_0), ((HB.out.cell (World.block_lt_of_cell? w _ hw656_1)).trans hw656_1), ((HB.out.cell (World.block_lt_of_cell? w _ hw663_0)).trans hw663_0), ((HB.out.cell (World.block_lt_of_cell? w _ hw663_1)).trans hw663_1)⟩ (fun hHeld => ?_)
                      clear hK K
                      refine norm_ (a' := ?_) ?_ ?_
                      rotate_left
                      ·show Act.put _ (some 38) _ = _
                       simp only [Act.put, List.setIfInBounds_toArray, List.set_cons_zero, List.set_cons_succ, i64_w, i32_w]
                       rfl
                      refine one_ (i := 8) (N := some 39) #[true, true, true, true, true, true, true, true, true, true, true, true, true, true, false, false, false, false, false] rfl rfl (one_of HT_.out (by kernel_rfl)) (by decide) (fun K hK => ?_)
                      refine Kd.R_lit_step k36 _ 36 ?hg (N := 39) ?hd (xs := ([] : List (S36))) (inner := []) (ok := fun _ => True) (okp := fun _ => True) ?hr ?hp (fun _ hk => hk) trivial (Below.refl _ _) (Nat.le_refl _) (by simp) ?_; (case hd => rfl); (case hg => rfl); (case hr => first | (go_simp; done) | (go_simp; rfl)); (case hp => exact (Reps.none _ _))
                      intro v661 w46 ho47 hb hg_ hnew_
                      clear hg_ hnew_
                      (first | rw [← Ny660.out] at ho47 | (simp only [Int.reduceToNat] at ho47; rw [← Ny660.out] at ho47))
                      have n0_ := Sd.mk (Kd.N_elder' (by (with_reducible repeat (first | apply Kd.N_alloc | apply Kd.N_drewN | apply Kd.N_drew)); exact HO_3.out) (Kd.R_base ho47) hb)
                      have n1_ := Sd.mk (Kd.N_elder' (by (with_reducible repeat (first | apply Kd.N_alloc | apply Kd.N_drewN | apply Kd.N_drew)); exact HO_4.out) (Kd.R_base ho47) hb)
                      have n2_ := Sd.mk (Kd.N_elder' (by (with_reducible repeat (first | apply Kd.N_alloc | apply Kd.N_drewN | apply Kd.N_drew)); exact HO_5.out) (Kd.R_base ho47) hb)
                      have n3_ := Sd.mk (Kd.R_elder' (by (with_reducible repeat (first | apply Kd.R_alloc | apply Kd.R_drewN | apply Kd.R_drew)); exact HO659.out) (Kd.R_base ho47) hb)
                      have n4_ := Sd.mk (Kd.R_lower (Kd.R_new' ho47 (Kd.R_lt (by (with_reducible repeat (first | apply Kd.R_alloc | apply Kd.R_drewN | apply Kd.R_drew)); exact HO659.out))) (below_size (by repeat (first | (with_reducible first | exact HB.out | apply bwA | apply pwN | apply bwD) | exact HB.out))))
                      have n5_ := Sd.mk (below_step (by repeat (first | (with_reducible first | exact HB.out | apply bwA | apply pwN | apply bwD) | exact HB.out)) hb)
                      clear HO_3
                      clear HO_4
                      clear HO_5
                      clear HO659
                      clear HB
                      have HO_3 := n0_
                      have HO_4 := n1_
                      have HO_5 := n2_
                      have HO659 := n3_
                      have HO662 := n4_
                      have HB := n5_
                      clear n0_ n1_ n2_ n3_ n4_ n5_
                      clear hb ho47
                      refine hK.out _ _ ⟨((HB.out.cell (World.block_lt_of_cell? w _ hw656_0)).trans hw656_0), ((HB.out.cell (World.block_lt_of_cell? w _ hw656_1)).trans hw656_1), ((HB.out.cell (World.block_lt_of_cell? w _ hw663_0)).trans hw663_0), ((HB.out.cell (World.block_lt_of_cell? w _ hw663_1)).trans hw663_1)⟩ (fun hHeld => ?_)
                      clear hK K
                      refine norm_ (a' := ?_) ?_ ?_
                      rotate_left
                      ·show Act.put _ (some 39) _ = _
                       simp only [Act.put, List.setIfInBounds_toArray, List.set_cons_zero, List.set_cons_succ, i64_w, i32_w]
                       rfl
                      exact norm_ (by simp only [putAll, Act.put, List.setIfInBounds_toArray, List.set_cons_zero, List.set_cons_succ]) (hCont (v654, v658, v661) _ ⟨hHeld, (by (with_reducible repeat (first | apply Kd.R_alloc | apply Kd.R_drewN | apply Kd.R_drew)); exact Kd.R_mono HO659.out (fun _ hk => hk.2)), (by (with_reducible repeat (first | apply Kd.R_alloc | apply Kd.R_drewN | apply Kd.R_drew)); exact Kd.R_mono HO662.out (fun _ hk => hk.2)), (by (with_reducible repeat (first | apply Kd.N_alloc | apply Kd.N_drewN | apply Kd.N_drew)); exact Kd.N_mono HO_3.out (fun _ hk => ⟨hk.1.2, ⟨hk.2, ⟨hk.1.1.1, hk.1.1.2⟩⟩⟩)), (by (with_reducible repeat (first | apply Kd.N_alloc | apply Kd.N_drewN | apply Kd.N_drew)); exact Kd.N_mono HO_4.out (fun _ hk => ⟨hk.1.2, ⟨hk.2, ⟨hk.1.1.1, hk.1.1.2⟩⟩⟩)), (by (with_reducible repeat (first | apply Kd.N_alloc | apply Kd.N_drewN | apply Kd.N_drew)); exact Kd.N_mono HO_5.out (fun _ hk => ⟨hk.1.2, ⟨hk.2, ⟨hk.1.1.1, hk.1.1.2⟩⟩⟩)), (by repeat (first | (with_reducible first | exact HB.out | apply bwA | apply pwN | apply bwD) | exact HB.out))⟩)
                     ·skip
                      refine Kd.R_lit_step k36 _ 36 ?hg (N := 39) ?hd (xs := ([] : List (S36))) (inner := []) (ok := fun _ => True) (okp := fun _ => True) ?hr ?hp (fun _ hk => hk) trivial (Below.refl _ _) (Nat.le_refl _) (by simp) ?_; (case hd => rfl); (case hg => rfl); (case hr => first | (go_simp; done) | (go_simp; rfl)); (case hp => exact (Reps.none _ _))
                      intro v661 w45 ho46 hb hg_ hnew_
                      clear hg_ hnew_
                      (first | rw [← Ny660.out] at ho46 | (simp only [Int.reduceToNat] at ho46; rw [← Ny660.out] at ho46))
                      have n0_ := Sd.mk (Kd.N_elder' (by (with_reducible repeat (first | apply Kd.N_alloc | apply Kd.N_drewN | apply Kd.N_drew)); exact HO_3.out) (Kd.R_base ho46) hb)
                      have n1_ := Sd.mk (Kd.N_elder' (by (with_reducible repeat (first | apply Kd.N_alloc | apply Kd.N_drewN | apply Kd.N_drew)); exact HO_4.out) (Kd.R_base ho46) hb)
                      have n2_ := Sd.mk (Kd.N_elder' (by (with_reducible repeat (first | apply Kd.N_alloc | apply Kd.N_drewN | apply Kd.N_drew)); exact HO_5.out) (Kd.R_base ho46) hb)
                      have n3_ := Sd.mk (Kd.R_elder' (by (with_reducible repeat (first | apply Kd.R_alloc | apply Kd.R_drewN | apply Kd.R_drew)); exact HO655.out) (Kd.R_base ho46) hb)
                      have n4_ := Sd.mk (Kd.R_lower (Kd.R_new' ho46 (Kd.R_lt (by (with_reducible repeat (first | apply Kd.R_alloc | apply Kd.R_drewN | apply Kd.R_drew)); exact HO655.out))) (below_size (by repeat (first | (with_reducible first | exact HB.out | apply bwA | apply pwN | apply bwD) | exact HB.out))))
                      have n5_ := Sd.mk (below_step (by repeat (first | (with_reducible first | exact HB.out | apply bwA | apply pwN | apply bwD) | exact HB.out)) hb)
                      clear HO_3
                      clear HO_4
                      clear HO_5
                      clear HO655
                      clear HB
                      have HO_3 := n0_
                      have HO_4 := n1_
                      have HO_5 := n2_
                      have HO655 := n3_
                      have HO662 := n4_
                      have HB := n5_
                      clear n0_ n1_ n2_ n3_ n4_ n5_
                      clear hb ho46
                      refine hK.out _ _ ⟨((HB.out.cell (World.block_lt_of_cell? w _ hw656_0)).trans hw656_0), ((HB.out.cell (World.block_lt_of_cell? w _ hw656_1)).trans hw656_1), ((HB.out.cell (World.block_lt_of_cell? w _ hw663_0)).trans hw663_0), ((HB.out.cell (World.block_lt_of_cell? w _ hw663_1)).trans hw663_1)⟩ (fun hHeld => ?_)
                      clear hK K
                      refine norm_ (a' := ?_) ?_ ?_
                      rotate_left
                      ·show Act.put _ (some 39) _ = _
                       simp only [Act.put, List.setIfInBounds_toArray, List.set_cons_zero, List.set_cons_succ, i64_w, i32_w]
                       rfl
                      refine one_ (i := 7) (N := some 38) #[true, true, true, true, true, true, true, true, true, true, true, true, true, true, false, false, false, false, false] rfl rfl (one_of HT_.out (by kernel_rfl)) (by decide) (fun K hK => ?_)
                      refine Kd.R_append_rows_step k36 (w0 := w) w.heap.size (by rfl) (.tmp 32) (.tmp 37) 26 36 (.agg #[(.int .u32 0), (.int .u32 0)]) 8 rfl Try.underlying26 info36 rfl (by decide) (by omega) v654 y653 ((rd_T47 l0 x6_2).f0) _ _ _ (fun k_ => some k_ ≠ (v661 : Value).ownBlock) (fun _ => False) rfl rfl ?aO ?aR (fun _ _ h => h) (fun _ h => h.elim) ?aF ?aB ?aS ?aL ?_
                      (case aR => repeat (first | exact (Kd.C_below HR656_0.out HB.out) | (with_reducible refine Kd.C_alloc ?_ _) | (with_reducible refine Kd.C_drewN ?_ _) | (with_reducible refine Kd.C_drew ?_)))
                      (case aB => exact (by repeat (first | (with_reducible first | exact HB.out | apply bwA | apply pwN | apply bwD) | exact HB.out)))
                      (case aF => exact (fun k_ hk => Kd.fresh' (Kd.R_lt (by (with_reducible repeat (first | apply Kd.R_alloc | apply Kd.R_drewN | apply Kd.R_drew)); exact HO662.out)) k_ hk))
                      (case aO => exact (by (with_reducible repeat (first | apply Kd.R_alloc | apply Kd.R_drewN | apply Kd.R_drew)); exact Kd.R_mono HO655.out (fun _ hk => hk.2)))
                      (case aS => exact (below_size (by repeat (first | (with_reducible first | exact HB.out | apply bwA | apply pwN | apply bwD) | exact HB.out))))
                      (case aL => have := LMc21.out; omega)
                      intro v658 w47 ho hb hg hat
                      rw [← Ny657.out] at ho
                      have n0_ := Sd.mk (Kd.N_afterv (ok := (fun k_ => some k_ ≠ (v648 : Value).ownBlock ∧ some k_ ≠ (.slice Ao41 x5_2.length co41 : Value).ownBlock ∧ some k_ ≠ (v661 : Value).ownBlock)) (by (with_reducible repeat (first | apply Kd.N_alloc | apply Kd.N_drewN | apply Kd.N_drew)); exact Kd.N_mono HO_3.out (fun _ hk => ⟨⟨hk.1.1.1, ⟨hk.1.1.2, hk.2⟩⟩, hk.1.2⟩)) hg hat)
                      have n1_ := Sd.mk (Kd.N_afterv (ok := (fun k_ => some k_ ≠ (v645 : Value).ownBlock ∧ some k_ ≠ (.slice Ao41 x5_2.length co41 : Value).ownBlock ∧ some k_ ≠ (v661 : Value).ownBlock)) (by (with_reducible repeat (first | apply Kd.N_alloc | apply Kd.N_drewN | apply Kd.N_drew)); exact Kd.N_mono HO_4.out (fun _ hk => ⟨⟨hk.1.1.1, ⟨hk.1.1.2, hk.2⟩⟩, hk.1.2⟩)) hg hat)
                      have n2_ := Sd.mk (Kd.N_afterv (ok := (fun k_ => some k_ ≠ (v645 : Value).ownBlock ∧ some k_ ≠ (v648 : Value).ownBlock ∧ some k_ ≠ (v661 : Value).ownBlock)) (by (with_reducible repeat (first | apply Kd.N_alloc | apply Kd.N_drewN | apply Kd.N_drew)); exact Kd.N_mono HO_5.out (fun _ hk => ⟨⟨hk.1.1.1, ⟨hk.1.1.2, hk.2⟩⟩, hk.1.2⟩)) hg hat)
                      have n3_ := Sd.mk (Kd.R_after (ok := (fun _ => True)) (by (with_reducible repeat (first | apply Kd.R_alloc | apply Kd.R_drewN | apply Kd.R_drew)); exact HO662.out) hg hat)
                      have n4_ := Sd.mk (hb)
                      have n5_ := Sd.mk (ho)
                      clear HO_3
                      clear HO_4
                      clear HO_5
                      clear HO662
                      clear HB
                      clear HO655
                      have HO_3 := n0_
                      have HO_4 := n1_
                      have HO_5 := n2_
                      have HO662 := n3_
                      have HB := n4_
                      have HO659 := n5_
                      clear n0_ n1_ n2_ n3_ n4_ n5_
                      clear ho hb hg hat
                      refine hK.out _ _ ⟨((HB.out.cell (World.block_lt_of_cell? w _ hw656_0)).trans hw656_0), ((HB.out.cell (World.block_lt_of_cell? w _ hw656_1)).trans hw656_1), ((HB.out.cell (World.block_lt_of_cell? w _ hw663_0)).trans hw663_0), ((HB.out.cell (World.block_lt_of_cell? w _ hw663_1)).trans hw663_1)⟩ (fun hHeld => ?_)
                      clear hK K
                      refine norm_ (a' := ?_) ?_ ?_
                      rotate_left
                      ·show Act.put _ (some 38) _ = _
                       simp only [Act.put, List.setIfInBounds_toArray, List.set_cons_zero, List.set_cons_succ, i64_w, i32_w]
                       rfl
                      exact norm_ (by simp only [putAll, Act.put, List.setIfInBounds_toArray, List.set_cons_zero, List.set_cons_succ]) (hCont (v654, v658, v661) _ ⟨hHeld, (by (with_reducible repeat (first | apply Kd.R_alloc | apply Kd.R_drewN | apply Kd.R_drew)); exact HO659.out), (by (with_reducible repeat (first | apply Kd.R_alloc | apply Kd.R_drewN | apply Kd.R_drew)); exact Kd.R_mono HO662.out (fun _ hk => hk.2)), (by (with_reducible repeat (first | apply Kd.N_alloc | apply Kd.N_drewN | apply Kd.N_drew)); exact Kd.N_mono HO_3.out (fun _ hk => ⟨hk.2, ⟨hk.1.2.2, ⟨hk.1.1, hk.1.2.1⟩⟩⟩)), (by (with_reducible repeat (first | apply Kd.N_alloc | apply Kd.N_drewN | apply Kd.N_drew)); exact Kd.N_mono HO_4.out (fun _ hk => ⟨hk.2, ⟨hk.1.2.2, ⟨hk.1.1, hk.1.2.1⟩⟩⟩)), (by (with_reducible repeat (first | apply Kd.N_alloc | apply Kd.N_drewN | apply Kd.N_drew)); exact Kd.N_mono HO_5.out (fun _ hk => ⟨hk.2, ⟨hk.1.2.2, ⟨hk.1.1, hk.1.2.1⟩⟩⟩)), (by repeat (first | (with_reducible first | exact HB.out | apply bwA | apply pwN | apply bwD) | exact HB.out))⟩)
                    ·skip
                     refine Kd.R_lit_step k36 _ 36 ?hg (N := 39) ?hd (xs := ([] : List (S36))) (inner := []) (ok := fun _ => True) (okp := fun _ => True) ?hr ?hp (fun _ hk => hk) trivial (Below.refl _ _) (Nat.le_refl _) (by simp) ?_; (case hd => rfl); (case hg => rfl); (case hr => first | (go_simp; done) | (go_simp; rfl)); (case hp => exact (Reps.none _ _))
                     intro v661 w43 ho44 hb hg_ hnew_
                     clear hg_ hnew_
                     (first | rw [← Ny660.out] at ho44 | (simp only [Int.reduceToNat] at ho44; rw [← Ny660.out] at ho44))
                     have n0_ := Sd.mk (Kd.N_elder' (by (with_reducible repeat (first | apply Kd.N_alloc | apply Kd.N_drewN | apply Kd.N_drew)); exact HO_3.out) (Kd.R_base ho44) hb)
                     have n1_ := Sd.mk (Kd.N_elder' (by (with_reducible repeat (first | apply Kd.N_alloc | apply Kd.N_drewN | apply Kd.N_drew)); exact HO_4.out) (Kd.R_base ho44) hb)
                     have n2_ := Sd.mk (Kd.N_elder' (by (with_reducible repeat (first | apply Kd.N_alloc | apply Kd.N_drewN | apply Kd.N_drew)); exact HO_5.out) (Kd.R_base ho44) hb)
                     have n3_ := Sd.mk (Kd.R_lower ho44 (below_size (by repeat (first | (with_reducible first | exact HB.out | apply bwA | apply pwN | apply bwD) | exact HB.out))))
                     have n4_ := Sd.mk (below_step (by repeat (first | (with_reducible first | exact HB.out | apply bwA | apply pwN | apply bwD) | exact HB.out)) hb)
                     clear HO_3
                     clear HO_4
                     clear HO_5
                     clear HB
                     have HO_3 := n0_
                     have HO_4 := n1_
                     have HO_5 := n2_
                     have HO662 := n3_
                     have HB := n4_
                     clear n0_ n1_ n2_ n3_ n4_
                     clear hb ho44
                     refine hK.out _ _ ⟨((HB.out.cell (World.block_lt_of_cell? w _ hw656_0)).trans hw656_0), ((HB.out.cell (World.block_lt_of_cell? w _ hw656_1)).trans hw656_1), ((HB.out.cell (World.block_lt_of_cell? w _ hw663_0)).trans hw663_0), ((HB.out.cell (World.block_lt_of_cell? w _ hw663_1)).trans hw663_1)⟩ (fun hHeld => ?_)
                     clear hK K
                     refine norm_ (a' := ?_) ?_ ?_
                     rotate_left
                     ·show Act.put _ (some 39) _ = _
                      simp only [Act.put, List.setIfInBounds_toArray, List.set_cons_zero, List.set_cons_succ, i64_w, i32_w]
                      rfl
                     refine one_ (i := 1) (N := some 32) #[true, true, true, true, true, true, true, false, true, true, true, true, true, true, false, false, false, false, false] rfl rfl (one_of HT_.out (by kernel_rfl)) (by decide) (fun K hK => ?_)
                     refine Kd.R_lit_step k36 _ 36 ?hg (N := 32) ?hd (xs := ([] : List (S36))) (inner := []) (ok := fun _ => True) (okp := fun _ => True) ?hr ?hp (fun _ hk => hk) trivial (Below.refl _ _) (Nat.le_refl _) (by simp) ?_; (case hd => rfl); (case hg => rfl); (case hr => first | (go_simp; done) | (go_simp; rfl)); (case hp => exact (Reps.none _ _))
                     intro v654 w45 ho46 hb hg_ hnew_
                     clear hg_ hnew_
                     (first | rw [← Ny653.out] at ho46 | (simp only [Int.reduceToNat] at ho46; rw [← Ny653.out] at ho46))
                     have n0_ := Sd.mk (Kd.N_elder' (by (with_reducible repeat (first | apply Kd.N_alloc | apply Kd.N_drewN | apply Kd.N_drew)); exact HO_3.out) (Kd.R_base ho46) hb)
                     have n1_ := Sd.mk (Kd.N_elder' (by (with_reducible repeat (first | apply Kd.N_alloc | apply Kd.N_drewN | apply Kd.N_drew)); exact HO_4.out) (Kd.R_base ho46) hb)
                     have n2_ := Sd.mk (Kd.N_elder' (by (with_reducible repeat (first | apply Kd.N_alloc | apply Kd.N_drewN | apply Kd.N_drew)); exact HO_5.out) (Kd.R_base ho46) hb)
                     have n3_ := Sd.mk (Kd.R_elder' (by (with_reducible repeat (first | apply Kd.R_alloc | apply Kd.R_drewN | apply Kd.R_drew)); exact HO662.out) (Kd.R_base ho46) hb)
                     have n4_ := Sd.mk (Kd.R_lower (Kd.R_new' ho46 (Kd.R_lt (by (with_reducible repeat (first | apply Kd.R_alloc | apply Kd.R_drewN | apply Kd.R_drew)); exact HO662.out))) (below_size (by repeat (first | (with_reducible first | exact HB.out | apply bwA | apply pwN | apply bwD) | exact HB.out))))
                     have n5_ := Sd.mk (below_step (by repeat (first | (with_reducible first | exact HB.out | apply bwA | apply pwN | apply bwD) | exact HB.out)) hb)
                     clear HO_3
                     clear HO_4
                     clear HO_5
                     clear HO662
                     clear HB
                     have HO_3 := n0_
                     have HO_4 := n1_
                     have HO_5 := n2_
                     have HO662 := n3_
                     have HO655 := n4_
                     have HB := n5_
                     clear n0_ n1_ n2_ n3_ n4_ n5_
                     clear hb ho46
                     refine hK.out _ _ ⟨((HB.out.cell (World.block_lt_of_cell? w _ hw656_0)).trans hw656_0), ((HB.out.cell (World.block_lt_of_cell? w _ hw656_1)).trans hw656_1), ((HB.out.cell (World.block_lt_of_cell? w _ hw663_0)).trans hw663_0), ((HB.out.cell (World.block_lt_of_cell? w _ hw663_1)).trans hw663_1)⟩ (fun hHeld => ?_)
                     clear hK K
                     refine norm_ (a' := ?_) ?_ ?_
                     rotate_left
                     ·show Act.put _ (some 32) _ = _
                      simp only [Act.put, List.setIfInBounds_toArray, List.set_cons_zero, List.set_cons_succ, i64_w, i32_w]
                      rfl
                     refine one_ (i := 7) (N := some 38) #[true, true, true, true, true, true, true, true, true, true, true, true, true, true, false, false, false, false, false] rfl rfl (one_of HT_.out (by kernel_rfl)) (by decide) (fun K hK => ?_)
                     refine Kd.R_append_rows_step k36 (w0 := w) w.heap.size (by rfl) (.tmp 32) (.tmp 37) 26 36 (.agg #[(.int .u32 0), (.int .u32 0)]) 8 rfl Try.underlying26 info36 rfl (by decide) (by omega) v654 y653 ((rd_T47 l0 x6_2).f0) _ _ _ (fun k_ => some k_ ≠ (v661 : Value).ownBlock) (fun _ => False) rfl rfl ?aO ?aR (fun _ _ h => h) (fun _ h => h.elim) ?aF ?aB ?aS ?aL ?_
                     (case aR => repeat (first | exact (Kd.C_below HR656_0.out HB.out) | (with_reducible refine Kd.C_alloc ?_ _) | (with_reducible refine Kd.C_drewN ?_ _) | (with_reducible refine Kd.C_drew ?_)))
                     (case aB => exact (by repeat (first | (with_reducible first | exact HB.out | apply bwA | apply pwN | apply bwD) | exact HB.out)))
                     (case aF => exact (fun k_ hk => Kd.fresh' (Kd.R_lt (by (with_reducible repeat (first | apply Kd.R_alloc | apply Kd.R_drewN | apply Kd.R_drew)); exact HO662.out)) k_ hk))
                     (case aO => exact (by (with_reducible repeat (first | apply Kd.R_alloc | apply Kd.R_drewN | apply Kd.R_drew)); exact Kd.R_mono HO655.out (fun _ hk => hk.2)))
                     (case aS => exact (below_size (by repeat (first | (with_reducible first | exact HB.out | apply bwA | apply pwN | apply bwD) | exact HB.out))))
                     (case aL => have := LMc21.out; omega)
                     intro v658 w47 ho hb hg hat
                     rw [← Ny657.out] at ho
                     have n0_ := Sd.mk (Kd.N_afterv (ok := (fun k_ => some k_ ≠ (v648 : Value).ownBlock ∧ some k_ ≠ (.slice Ao41 x5_2.length co41 : Value).ownBlock ∧ some k_ ≠ (v661 : Value).ownBlock)) (by (with_reducible repeat (first | apply Kd.N_alloc | apply Kd.N_drewN | apply Kd.N_drew)); exact Kd.N_mono HO_3.out (fun _ hk => ⟨⟨hk.1.1.1, ⟨hk.1.1.2, hk.1.2⟩⟩, hk.2⟩)) hg hat)
                     have n1_ := Sd.mk (Kd.N_afterv (ok := (fun k_ => some k_ ≠ (v645 : Value).ownBlock ∧ some k_ ≠ (.slice Ao41 x5_2.length co41 : Value).ownBlock ∧ some k_ ≠ (v661 : Value).ownBlock)) (by (with_reducible repeat (first | apply Kd.N_alloc | apply Kd.N_drewN | apply Kd.N_drew)); exact Kd.N_mono HO_4.out (fun _ hk => ⟨⟨hk.1.1.1, ⟨hk.1.1.2, hk.1.2⟩⟩, hk.2⟩)) hg hat)
                     have n2_ := Sd.mk (Kd.N_afterv (ok := (fun k_ => some k_ ≠ (v645 : Value).ownBlock ∧ some k_ ≠ (v648 : Value).ownBlock ∧ some k_ ≠ (v661 : Value).ownBlock)) (by (with_reducible repeat (first | apply Kd.N_alloc | apply Kd.N_drewN | apply Kd.N_drew)); exact Kd.N_mono HO_5.out (fun _ hk => ⟨⟨hk.1.1.1, ⟨hk.1.1.2, hk.1.2⟩⟩, hk.2⟩)) hg hat)
                     have n3_ := Sd.mk (Kd.R_after (ok := (fun _ => True)) (by (with_reducible repeat (first | apply Kd.R_alloc | apply Kd.R_drewN | apply Kd.R_drew)); exact HO662.out) hg hat)
                     have n4_ := Sd.mk (hb)
                     have n5_ := Sd.mk (ho)
                     clear HO_3
                     clear HO_4
                     clear HO_5
                     clear HO662
                     clear HB
                     clear HO655
                     have HO_3 := n0_
                     have HO_4 := n1_
                     have HO_5 := n2_
                     have HO662 := n3_
                     have HB := n4_
                     have HO659 := n5_
                     clear n0_ n1_ n2_ n3_ n4_ n5_
                     clear ho hb hg hat
                     refine hK.out _ _ ⟨((HB.out.cell (World.block_lt_of_cell? w _ hw656_0)).trans hw656_0), ((HB.out.cell (World.block_lt_of_cell? w _ hw656_1)).trans hw656_1), ((HB.out.cell (World.block_lt_of_cell? w _ hw663_0)).trans hw663_0), ((HB.out.cell (World.block_lt_of_cell? w _ hw663_1)).trans hw663_1)⟩ (fun hHeld => ?_)
                     clear hK K
                     refine norm_ (a' := ?_) ?_ ?_
                     rotate_left
                     ·show Act.put _ (some 38) _ = _
                      simp only [Act.put, List.setIfInBounds_toArray, List.set_cons_zero, List.set_cons_succ, i64_w, i32_w]
                      rfl
                     exact norm_ (by simp only [putAll, Act.put, List.setIfInBounds_toArray, List.set_cons_zero, List.set_cons_succ]) (hCont (v654, v658, v661) _ ⟨hHeld, (by (with_reducible repeat (first | apply Kd.R_alloc | apply Kd.R_drewN | apply Kd.R_drew)); exact HO659.out), (by (with_reducible repeat (first | apply Kd.R_alloc | apply Kd.R_drewN | apply Kd.R_drew)); exact Kd.R_mono HO662.out (fun _ hk => hk.2)), (by (with_reducible repeat (first | apply Kd.N_alloc | apply Kd.N_drewN | apply Kd.N_drew)); exact Kd.N_mono HO_3.out (fun _ hk => ⟨hk.2, ⟨hk.1.2.2, ⟨hk.1.1, hk.1.2.1⟩⟩⟩)), (by (with_reducible repeat (first | apply Kd.N_alloc | apply Kd.N_drewN | apply Kd.N_drew)); exact Kd.N_mono HO_4.out (fun _ hk => ⟨hk.2, ⟨hk.1.2.2, ⟨hk.1.1, hk.1.2.1⟩⟩⟩)), (by (with_reducible repeat (first | apply Kd.N_alloc | apply Kd.N_drewN | apply Kd.N_drew)); exact Kd.N_mono HO_5.out (fun _ hk => ⟨hk.2, ⟨hk.1.2.2, ⟨hk.1.1, hk.1.2.1⟩⟩⟩)), (by repeat (first | (with_reducible first | exact HB.out | apply bwA | apply pwN | apply bwD) | exact HB.out))⟩)
                   rintro ⟨v654, v658, v661⟩ w48 ⟨hS_, h0_, h1_, h2_, h3_, h4_, h5_⟩
                   have n0_ : Sd (Kd.R k36 36 w48 w.heap.size (fun k_ => some k_ ≠ (v661 : Value).ownBlock) v658 y657) := ⟨h0_⟩
                   have n1_ : Sd (Kd.R k36 36 w48 w.heap.size (fun k_ => some k_ ≠ (v658 : Value).ownBlock) v661 y660) := ⟨h1_⟩
                   have n2_ : Sd (Kd.N (Kd.slice 36 k36) 26 w48 w.heap.size (fun k_ => some k_ ≠ (v658 : Value).ownBlock ∧ some k_ ≠ (v661 : Value).ownBlock ∧ some k_ ≠ (v648 : Value).ownBlock ∧ some k_ ≠ (.slice Ao41 x5_2.length co41 : Value).ownBlock) v645 t644) := ⟨h2_⟩
                   have n3_ : Sd (Kd.N (Kd.slice 36 k36) 26 w48 w.heap.size (fun k_ => some k_ ≠ (v658 : Value).ownBlock ∧ some k_ ≠ (v661 : Value).ownBlock ∧ some k_ ≠ (v645 : Value).ownBlock ∧ some k_ ≠ (.slice Ao41 x5_2.length co41 : Value).ownBlock) v648 t647) := ⟨h3_⟩
                   have n4_ : Sd (Kd.N k47 47 w48 w.heap.size (fun k_ => some k_ ≠ (v658 : Value).ownBlock ∧ some k_ ≠ (v661 : Value).ownBlock ∧ some k_ ≠ (v645 : Value).ownBlock ∧ some k_ ≠ (v648 : Value).ownBlock) (.slice Ao41 x5_2.length co41) x5_2) := ⟨h4_⟩
                   have n5_ : Sd (Below w.heap.size w w48) := ⟨h5_⟩
                   clear HO_3
                   clear HO_4
                   clear HO_5
                   clear HB
                   clear h0_ h1_ h2_ h3_ h4_ h5_
                   have HO659 := n0_
                   have HO662 := n1_
                   have HO_3 := n2_
                   have HO_4 := n3_
                   have HO_5 := n4_
                   have HB := n5_
                   clear n0_ n1_ n2_ n3_ n4_ n5_
                   have hHeld : w48.cell? (ad656.add ((x6_2).toNat * 2)) = some (.slice A656_0 ((rd_T47 l0 x6_2).f0).length c656_0) ∧ w48.cell? ⟨(ad656.add ((x6_2).toNat * 2)).block, (ad656.add ((x6_2).toNat * 2)).off + 1, none⟩ = some (.slice A656_1 ((rd_T47 l0 x6_2).f1).length c656_1) ∧ w48.cell? (ad656.add ((x6_2).toNat * 2)) = some (.slice A656_0 ((rd_T47 l0 x6_2).f0).length c656_0) ∧ w48.cell? ⟨(ad656.add ((x6_2).toNat * 2)).block, (ad656.add ((x6_2).toNat * 2)).off + 1, none⟩ = some (.slice A656_1 ((rd_T47 l0 x6_2).f1).length c656_1) := hS_
                   refine norm_ (a' := ?_) ?_ ?_
                   rotate_left
                   ·simp only [putAll, Act.put, List.setIfInBounds_toArray, List.set_cons_zero, List.set_cons_succ]
                    rfl
                   refine one_ (i := 14) (N := some 45) #[true, true, true, true, true, true, true, true, true, true, true, true, true, true, true, false, false, false, false] rfl rfl (one_of HT_.out (by kernel_rfl)) (by decide) (fun K hK => ?_)
                   refine Kd.R_append_rows_step k36 (w0 := w) w.heap.size (by rfl) (.tmp 39) (.tmp 44) 26 36 (.agg #[(.int .u32 0), (.int .u32 0)]) 8 rfl Try.underlying26 info36 rfl (by decide) (by omega) v661 y660 ((rd_T47 l0 x6_2).f1) _ _ _ (fun k_ => some k_ ≠ (v658 : Value).ownBlock) (fun _ => False) rfl rfl ?aO ?aR (fun _ _ h => h) (fun _ h => h.elim) ?aF ?aB ?aS ?aL ?_
                   (case aR => repeat (first | exact (Kd.C_below HR663_1.out HB.out) | (with_reducible refine Kd.C_alloc ?_ _) | (with_reducible refine Kd.C_drewN ?_ _) | (with_reducible refine Kd.C_drew ?_)))
                   (case aB => exact (by repeat (first | (with_reducible first | exact HB.out | apply bwA | apply pwN | apply bwD) | exact HB.out)))
                   (case aF => exact (fun k_ hk => Kd.fresh' (Kd.R_lt (by (with_reducible repeat (first | apply Kd.R_alloc | apply Kd.R_drewN | apply Kd.R_drew)); exact HO659.out)) k_ hk))
                   (case aO => exact (by (with_reducible repeat (first | apply Kd.R_alloc | apply Kd.R_drewN | apply Kd.R_drew)); exact HO662.out))
                   (case aS => exact (below_size (by repeat (first | (with_reducible first | exact HB.out | apply bwA | apply pwN | apply bwD) | exact HB.out))))
                   (case aL => have := LMc22.out; omega)
                   intro v665 w49 ho hb hg hat
                   rw [← Ny664.out] at ho
                   have n0_ := Sd.mk (Kd.N_afterv (ok := (fun k_ => some k_ ≠ (v648 : Value).ownBlock ∧ some k_ ≠ (.slice Ao41 x5_2.length co41 : Value).ownBlock ∧ some k_ ≠ (v658 : Value).ownBlock)) (by (with_reducible repeat (first | apply Kd.N_alloc | apply Kd.N_drewN | apply Kd.N_drew)); exact Kd.N_mono HO_3.out (fun _ hk => ⟨⟨hk.2.2.1, ⟨hk.2.2.2, hk.1⟩⟩, hk.2.1⟩)) hg hat)
                   have n1_ := Sd.mk (Kd.N_afterv (ok := (fun k_ => some k_ ≠ (v645 : Value).ownBlock ∧ some k_ ≠ (.slice Ao41 x5_2.length co41 : Value).ownBlock ∧ some k_ ≠ (v658 : Value).ownBlock)) (by (with_reducible repeat (first | apply Kd.N_alloc | apply Kd.N_drewN | apply Kd.N_drew)); exact Kd.N_mono HO_4.out (fun _ hk => ⟨⟨hk.2.2.1, ⟨hk.2.2.2, hk.1⟩⟩, hk.2.1⟩)) hg hat)
                   have n2_ := Sd.mk (Kd.N_afterv (ok := (fun k_ => some k_ ≠ (v645 : Value).ownBlock ∧ some k_ ≠ (v648 : Value).ownBlock ∧ some k_ ≠ (v658 : Value).ownBlock)) (by (with_reducible repeat (first | apply Kd.N_alloc | apply Kd.N_drewN | apply Kd.N_drew)); exact Kd.N_mono HO_5.out (fun _ hk => ⟨⟨hk.2.2.1, ⟨hk.2.2.2, hk.1⟩⟩, hk.2.1⟩)) hg hat)
                   have n3_ := Sd.mk (Kd.R_after (ok := (fun _ => True)) (by (with_reducible repeat (first | apply Kd.R_alloc | apply Kd.R_drewN | apply Kd.R_drew)); exact Kd.R_mono HO659.out (fun _ hk => ⟨trivial, hk⟩)) hg hat)
                   have n4_ := Sd.mk (hb)
                   have n5_ := Sd.mk (ho)
                   clear HO_3
                   clear HO_4
                   clear HO_5
                   clear HO659
                   clear HB
                   clear HO662
                   have HO_3 := n0_
                   have HO_4 := n1_
                   have HO_5 := n2_
                   have HO659 := n3_
                   have HB := n4_
                   have HO666 := n5_
                   clear n0_ n1_ n2_ n3_ n4_ n5_
                   clear ho hb hg hat
                   obtain ⟨Ao50, co50, eo50⟩ := Kd.R_slice HO666.out
                   (first | subst eo50 | (injection eo50 with f1_ f2_ f3_; have f4_ := f1_.symm; have f5_ := f3_.symm; clear f1_ f2_ f3_; subst f4_; subst f5_))
                   obtain ⟨Ao51, co51, eo51⟩ := Kd.R_slice HO659.out
                   (first | subst eo51 | (injection eo51 with f1_ f2_ f3_; have f4_ := f1_.symm; have f5_ := f3_.symm; clear f1_ f2_ f3_; subst f4_; subst f5_))
                   refine hK.out _ _ ⟨((HB.out.cell (World.block_lt_of_cell? w _ hw656_0)).trans hw656_0), ((HB.out.cell (World.block_lt_of_cell? w _ hw656_1)).trans hw656_1), ((HB.out.cell (World.block_lt_of_cell? w _ hw663_0)).trans hw663_0), ((HB.out.cell (World.block_lt_of_cell? w _ hw663_1)).trans hw663_1)⟩ (fun hHeld => ?_)
                   clear hK K
                   refine norm_ (a' := ?_) ?_ ?_
                   rotate_left
                   ·show Act.put _ (some 45) _ = _
                    simp only [Act.put, List.setIfInBounds_toArray, List.set_cons_zero, List.set_cons_succ, i64_w, i32_w]
                    rfl
                   refine pure_ (i := 15) (N := some 46) (v := ?_) (a' := ?_) #[true, true, true, true, true, true, true, true, true, true, true, true, true, true, true, true, false, false, false] rfl rfl (any_of HT_.out (by kernel_rfl)) (fun _ _ _ h => h) (Or.inl ⟨by rfl, ?_⟩) ?_ ?_
                   rotate_left
                   ·intro w'
                    go_simp
                    with_reducible rfl
                   rotate_left
                   ·simp only [Act.put, List.setIfInBounds_toArray, List.set_cons_zero, List.set_cons_succ, i64_w, i32_w]
                    rfl
                   refine one_ (i := 16) (N := some 47) #[true, true, true, true, true, true, true, true, true, true, true, true, true, true, true, true, true, false, false] rfl rfl (one_of HT_.out (by kernel_rfl)) (by decide) (fun K hK => ?_)
                   refine value_ (w1 := ?_) (v := ?_) (by rfl) rfl ?_ ?_
                   rotate_left 2
                   ·go_simp
                    constructor
                    ·rfl
                    ·rfl
                   refine hK.out _ _ ⟨(World.cell?_alloc_lt _ _ _ (World.block_lt_of_cell? _ _ (((HB.out.cell (World.block_lt_of_cell? w _ hw656_0)).trans hw656_0)))).trans (((HB.out.cell (World.block_lt_of_cell? w _ hw656_0)).trans hw656_0)), (World.cell?_alloc_lt _ _ _ (World.block_lt_of_cell? _ _ (((HB.out.cell (World.block_lt_of_cell? w _ hw656_1)).trans hw656_1)))).trans (((HB.out.cell (World.block_lt_of_cell? w _ hw656_1)).trans hw656_1)), (World.cell?_alloc_lt _ _ _ (World.block_lt_of_cell? _ _ (((HB.out.cell (World.block_lt_of_cell? w _ hw663_0)).trans hw663_0)))).trans (((HB.out.cell (World.block_lt_of_cell? w _ hw663_0)).trans hw663_0)), (World.cell?_alloc_lt _ _ _ (World.block_lt_of_cell? _ _ (((HB.out.cell (World.block_lt_of_cell? w _ hw663_1)).trans hw663_1)))).trans (((HB.out.cell (World.block_lt_of_cell? w _ hw663_1)).trans hw663_1))⟩ (fun hHeld => ?_)
                   clear hK K
                   refine norm_ (a' := ?_) ?_ ?_
                   rotate_left
                   ·show Act.put _ (some 47) _ = _
                    simp only [Act.put, List.setIfInBounds_toArray, List.set_cons_zero, List.set_cons_succ, i64_w, i32_w]
                    rfl
                   refine one_ (i := 17) (N := some 48) #[true, true, true, true, true, true, true, true, true, true, true, true, true, true, true, true, true, true, false] rfl rfl (one_of HT_.out (by kernel_rfl)) (by decide) (fun K hK => ?_)
                   refine Kd.N_append_step k47 (w0 := w) w.heap.size (by rfl) (.tmp 31) (.tmp 47) 44 47 (.agg #[(.slice none 0 0), (.slice none 0 0)]) 48 rfl Try.underlying44 info47 rfl (by decide) (by omega) (.slice Ao41 x5_2.length co41) x5_2 (⟨y657, y664⟩ : S47) [.slice Ao51 y657.length co51, .slice Ao50 y664.length co50] (fun k_ => some k_ ≠ (v645 : Value).ownBlock ∧ some k_ ≠ (v648 : Value).ownBlock) (fun k_ => ((fun k_ => some k_ ≠ (v645 : Value).ownBlock ∧ some k_ ≠ (v648 : Value).ownBlock)) k_ ∧ some k_ ≠ (.slice Ao41 x5_2.length co41 : Value).ownBlock) rfl rfl ?aP (fun _ hk => hk) ?aF ?aO ?aB ?aS ?aL ?_
                   (case aP => exact (k47_mkF _ _ (⟨y657, y664⟩ : S47) (Kd.R_reads' (Kd.R_mono (ok' := (fun k_ => ((fun k_ => some k_ ≠ (v645 : Value).ownBlock ∧ some k_ ≠ (v648 : Value).ownBlock)) k_ ∧ some k_ ≠ (.slice Ao41 x5_2.length co41 : Value).ownBlock)) (Kd.R_apart' (Kd.R_apart' (Kd.R_apart' (HO659.out) (Kd.N_typed HO_3.out) (by decide)) (Kd.N_typed HO_4.out) (by decide)) (Kd.N_typed HO_5.out) (by decide)) (fun k_ hk => ⟨⟨hk.1.1.2, hk.1.2⟩, hk.2⟩))).2.1 (Kd.R_F (Kd.R_mono (ok' := (fun k_ => ((fun k_ => some k_ ≠ (v645 : Value).ownBlock ∧ some k_ ≠ (v648 : Value).ownBlock)) k_ ∧ some k_ ≠ (.slice Ao41 x5_2.length co41 : Value).ownBlock)) (Kd.R_apart' (Kd.R_apart' (Kd.R_apart' (HO659.out) (Kd.N_typed HO_3.out) (by decide)) (Kd.N_typed HO_4.out) (by decide)) (Kd.N_typed HO_5.out) (by decide)) (fun k_ hk => ⟨⟨hk.1.1.2, hk.1.2⟩, hk.2⟩))) (Kd.R_reads' (Kd.R_mono (ok' := (fun k_ => ((fun k_ => some k_ ≠ (v645 : Value).ownBlock ∧ some k_ ≠ (v648 : Value).ownBlock)) k_ ∧ some k_ ≠ (.slice Ao41 x5_2.length co41 : Value).ownBlock)) (Kd.R_apart' (Kd.R_apart' (Kd.R_apart' (HO666.out) (Kd.N_typed HO_3.out) (by decide)) (Kd.N_typed HO_4.out) (by decide)) (Kd.N_typed HO_5.out) (by decide)) (fun k_ hk => ⟨⟨hk.1.1.2, hk.1.2⟩, hk.2⟩))).2.1 (Kd.R_F (Kd.R_mono (ok' := (fun k_ => ((fun k_ => some k_ ≠ (v645 : Value).ownBlock ∧ some k_ ≠ (v648 : Value).ownBlock)) k_ ∧ some k_ ≠ (.slice Ao41 x5_2.length co41 : Value).ownBlock)) (Kd.R_apart' (Kd.R_apart' (Kd.R_apart' (HO666.out) (Kd.N_typed HO_3.out) (by decide)) (Kd.N_typed HO_4.out) (by decide)) (Kd.N_typed HO_5.out) (by decide)) (fun k_ hk => ⟨⟨hk.1.1.2, hk.1.2⟩, hk.2⟩)))))
                   (case aB => exact (by repeat (first | (with_reducible first | exact HB.out | apply bwA | apply pwN | apply bwD) | exact HB.out)))
                   (case aF => exact (fun k_ hk => ⟨Kd.fresh' (Kd.N_lt (by (with_reducible repeat (first | apply Kd.N_alloc | apply Kd.N_drewN | apply Kd.N_drew)); exact HO_3.out)) k_ hk, Kd.fresh' (Kd.N_lt (by (with_reducible repeat (first | apply Kd.N_alloc | apply Kd.N_drewN | apply Kd.N_drew)); exact HO_4.out)) k_ hk⟩))
                   (case aO => exact (by (with_reducible repeat (first | apply Kd.N_alloc | apply Kd.N_drewN | apply Kd.N_drew)); exact Kd.N_mono HO_5.out (fun _ hk => ⟨hk.1.1, hk.1.2.1⟩)))
                   (case aS => exact (below_size (by repeat (first | (with_reducible first | exact HB.out | apply bwA | apply pwN | apply bwD) | exact HB.out))))
                   (case aL => have := LMc23.out; omega)
                   intro v668 w52 ho hb hg hat
                   rw [← Ny667.out] at ho
                   have n0_ := Sd.mk (Kd.N_afterv (ok := (fun k_ => some k_ ≠ (v648 : Value).ownBlock ∧ some k_ ≠ (.slice Ao51 y657.length co51 : Value).ownBlock ∧ some k_ ≠ (.slice Ao50 y664.length co50 : Value).ownBlock)) (by (with_reducible repeat (first | apply Kd.N_alloc | apply Kd.N_drewN | apply Kd.N_drew)); exact Kd.N_mono HO_3.out (fun _ hk => ⟨⟨hk.1.1, ⟨hk.1.2.2, hk.2⟩⟩, hk.1.2.1⟩)) hg hat)
                   have n1_ := Sd.mk (Kd.N_afterv (ok := (fun k_ => some k_ ≠ (v645 : Value).ownBlock ∧ some k_ ≠ (.slice Ao51 y657.length co51 : Value).ownBlock ∧ some k_ ≠ (.slice Ao50 y664.length co50 : Value).ownBlock)) (by (with_reducible repeat (first | apply Kd.N_alloc | apply Kd.N_drewN | apply Kd.N_drew)); exact Kd.N_mono HO_4.out (fun _ hk => ⟨⟨hk.1.1, ⟨hk.1.2.2, hk.2⟩⟩, hk.1.2.1⟩)) hg hat)
                   have n2_ := Sd.mk (hb)
                   have n3_ := Sd.mk (ho)
                   clear HO_3
                   clear HO_4
                   clear HB
                   clear HO_5
                   clear HO659
                   clear HO666
                   have HO_3 := n0_
                   have HO_4 := n1_
                   have HB := n2_
                   have HO669 := n3_
                   clear n0_ n1_ n2_ n3_
                   clear ho hb hg hat
                   refine hK.out _ _ ⟨((HB.out.cell (World.block_lt_of_cell? w _ hw656_0)).trans hw656_0), ((HB.out.cell (World.block_lt_of_cell? w _ hw656_1)).trans hw656_1), ((HB.out.cell (World.block_lt_of_cell? w _ hw663_0)).trans hw663_0), ((HB.out.cell (World.block_lt_of_cell? w _ hw663_1)).trans hw663_1)⟩ (fun hHeld => ?_)
                   clear hK K
                   refine norm_ (a' := ?_) ?_ ?_
                   rotate_left
                   ·show Act.put _ (some 48) _ = _
                    simp only [Act.put, List.setIfInBounds_toArray, List.set_cons_zero, List.set_cons_succ, i64_w, i32_w]
                    rfl
                   refine pure_ (i := 18) (N := some 5) (v := ?_) (a' := ?_) #[true, true, true, true, true, true, true, true, true, true, true, true, true, true, true, true, true, true, true] rfl rfl (any_of HT_.out (by kernel_rfl)) (fun _ _ _ h => h) (Or.inl ⟨by rfl, ?_⟩) ?_ ?_
                   rotate_left
                   ·intro w'
                    go_simp
                    with_reducible rfl
                   rotate_left
                   ·simp only [Act.put, List.setIfInBounds_toArray, List.set_cons_zero, List.set_cons_succ, i64_w, i32_w]
                    rfl
                   refine done_ (done_of HT_.out (by kernel_rfl)) ?_
                   obtain ⟨Ao53, co53, eo53⟩ := Kd.N_slice HO669.out
                   subst eo53
                   have p670 : 0 ≤ (x6_2 : Int) := of_decide_eq_true (by first | (with_reducible assumption) | assumption)
                   have q670 : x6_2 < (y667.length : Int) := of_decide_eq_true (by first | (with_reducible assumption) | assumption)
                   obtain ⟨ad670, A670_0, c670_0, A670_1, c670_1, e670, hx670_0, hx670_1, hl670_0, hi670_0, hl670_1, hi670_1⟩ := at_T47 (Kd.N_reads' HO669.out).2.2 x6_2 p670 q670
                   cases e670
                   obtain ⟨ce670, hce670, hMe670, hcc670⟩ := Kd.N_get HO669.out z47 x6_2 p670 (by first | exact q670 | exact of_decide_eq_true (by first | (with_reducible assumption) | assumption) | (have e_ := (Kd.N_reads' HO669.out).1; omega))
                   obtain ⟨ua670_0, uc670_0, ua670_1, uc670_1, rfl, ul670_0, ge670_0, ul670_1, ge670_1⟩ := k47_openF hMe670
                   have hv670_0 := hcc670 0 _ rfl
                   rw [Nat.add_zero] at hv670_0
                   replace hv670_0 := Option.some.inj (hv670_0.symm.trans hx670_0)
                   injection hv670_0 with hva_ hvn_ hvc_
                   rw [hva_] at ge670_0
                   rw [hvc_] at ul670_0
                   have HL670_0 := Sd.mk (show Kd.V k36 36 _ w.heap.size _ _ ((rd_T47 y667 x6_2).f0) from Kd.V_mk ul670_0 ge670_0)
                   clear hva_ hvn_ hvc_ ge670_0 ul670_0
                   have hv670_1 := hcc670 1 _ rfl
                   rw [add_field _ _ 1 (by omega)] at hv670_1
                   replace hv670_1 := Option.some.inj (hv670_1.symm.trans hx670_1)
                   injection hv670_1 with hva_ hvn_ hvc_
                   rw [hva_] at ge670_1
                   rw [hvc_] at ul670_1
                   have HL670_1 := Sd.mk (show Kd.V k36 36 _ w.heap.size _ _ ((rd_T47 y667 x6_2).f1) from Kd.V_mk ul670_1 ge670_1)
                   clear hva_ hvn_ hvc_ ge670_1 ul670_1
                   clear hcc670 hce670
                   have HR670_0 := Sd.mk hi670_0
                   have HC670_0 := Sd.mk hl670_0
                   clear hi670_0 hl670_0
                   have HR670_1 := Sd.mk hi670_1
                   have HC670_1 := Sd.mk hl670_1
                   clear hi670_1 hl670_1
                   replace p670 := eq_true p670
                   replace q670 := eq_true q670
                   try go_wp2_with (first | ((with_reducible refine gate_callee (f := 30) rfl ?_); refine goesL_ (some 53) rfl rfl Try.func30 (by kernel_rfl) rfl #[.agg #[.slice A670_0 ((rd_T47 y667 x6_2).f0).length c670_0, .slice A670_1 ((rd_T47 y667 x6_2).f1).length c670_1]] rfl (by (try simp only [List.map_toArray, List.map_cons, List.map_nil]); first | done | rfl | (simp only [List.length_drop, List.length_take]; rfl)) ?_; (with_reducible refine (axis_Not.calls (fun k_ => ((some k_ ≠ (v645 : Value).ownBlock ∧ some k_ ≠ (v648 : Value).ownBlock) ∧ some k_ ≠ (.slice (some ad670) y667.length co53 : Value).ownBlock)) _ _ ((rd_T47 y667 x6_2).f0) (fun k_ => ((some k_ ≠ (v645 : Value).ownBlock ∧ some k_ ≠ (v648 : Value).ownBlock) ∧ some k_ ≠ (.slice (some ad670) y667.length co53 : Value).ownBlock)) _ _ ((rd_T47 y667 x6_2).f1) t671 t674 _ ?side1 ?side2 A25.out).mono ?_); (case side1 => exact HL670_0.out); (case side2 => exact HL670_1.out); rintro e w54 ⟨v672, v675, rfl, ho0, ho1, hb⟩; refine ⟨_, rfl, ?_⟩; have n0_ := Sd.mk (Kd.N_mono (Kd.N_told (Kd.N_told (Kd.N_old (by (with_reducible repeat (first | apply Kd.N_alloc | apply Kd.N_drewN | apply Kd.N_drew)); exact HO_3.out) hb) (Kd.R_base ho0)) (Kd.R_base ho1)) (fun _ h_ => h_.1)); have n1_ := Sd.mk (Kd.N_mono (Kd.N_told (Kd.N_told (Kd.N_old (by (with_reducible repeat (first | apply Kd.N_alloc | apply Kd.N_drewN | apply Kd.N_drew)); exact HO_4.out) hb) (Kd.R_base ho0)) (Kd.R_base ho1)) (fun _ h_ => h_.1)); have n2_ := Sd.mk (Kd.N_mono (Kd.N_told (Kd.N_told (Kd.N_old (by (with_reducible repeat (first | apply Kd.N_alloc | apply Kd.N_drewN | apply Kd.N_drew)); exact HO669.out) hb) (Kd.R_base ho0)) (Kd.R_base ho1)) (fun _ h_ => h_.1)); have n3_ := Sd.mk (Kd.V_mono (Kd.V_told (Kd.V_told (Kd.V_old (by (with_reducible repeat (first | apply Kd.V_alloc | apply Kd.V_drewN | apply Kd.V_drew)); exact HL670_0.out) hb) (Kd.R_base ho0)) (Kd.R_base ho1)) (fun _ h_ => h_.1)); have n4_ := Sd.mk (Kd.V_mono (Kd.V_told (Kd.V_told (Kd.V_old (by (with_reducible repeat (first | apply Kd.V_alloc | apply Kd.V_drewN | apply Kd.V_drew)); exact HL670_1.out) hb) (Kd.R_base ho0)) (Kd.R_base ho1)) (fun _ h_ => h_.1)); have n5_ := Sd.mk (Kd.R_lower (Kd.R_mono (ok' := fun k_ => some k_ ≠ (v675 : Value).ownBlock) ho0 (fun _ hk_ => hk_.2)) (below_size (by repeat (first | (with_reducible first | exact HB.out | apply bwA | apply pwN | apply bwD) | exact HB.out)))); have n6_ := Sd.mk (Kd.R_lower (Kd.R_mono (ok' := fun k_ => some k_ ≠ (v672 : Value).ownBlock) ho1 (fun _ hk_ => hk_.2)) (below_size (by repeat (first | (with_reducible first | exact HB.out | apply bwA | apply pwN | apply bwD) | exact HB.out)))); have n7_ := Sd.mk (Kd.C_below (by repeat (first | (with_reducible exact HR670_0.out) | (with_reducible refine Kd.C_alloc ?_ _) | (with_reducible refine Kd.C_drewN ?_ _) | (with_reducible refine Kd.C_drew ?_) | exact HR670_0.out)) hb); have n8_ := Sd.mk (Kd.C_below (by repeat (first | (with_reducible exact HR670_1.out) | (with_reducible refine Kd.C_alloc ?_ _) | (with_reducible refine Kd.C_drewN ?_ _) | (with_reducible refine Kd.C_drew ?_) | exact HR670_1.out)) hb); have n9_ := Sd.mk (below_step (by repeat (first | (with_reducible first | exact HB.out | apply bwA | apply pwN | apply bwD) | exact HB.out)) hb); clear HO_3; clear HO_4; clear HO669; clear HL670_0; clear HL670_1; clear HR670_0; clear HR670_1; clear HB; have HO_3 := n0_; have HO_4 := n1_; have HO669 := n2_; have HL670_0 := n3_; have HL670_1 := n4_; have HO673 := n5_; have HO676 := n6_; have HR670_0 := n7_; have HR670_1 := n8_; have HB := n9_; clear n0_ n1_ n2_ n3_ n4_ n5_ n6_ n7_ n8_ n9_; (try clear hb); (try clear hb2); (try clear hk); (try clear hi); (try clear ho0); (try clear ho1)) | ((with_reducible refine gate_dst (N := 7) rfl ?_); refine box_event ?hg (N := 7) ?hd (cs := #[.slice none 0 0, .slice none 0 0]) (t := 47) ?hr ?_; (case hd => rfl); (case hg => rfl); (case hr => first | (go_simp; done) | (go_simp; rfl)); intro gb677 hg w55 hbox hb; have n0_ := Sd.mk (Kd.N_below (Kd.N_elderB (by (with_reducible repeat (first | apply Kd.N_alloc | apply Kd.N_drewN | apply Kd.N_drew)); exact HO_3.out) gb677 (Nat.le_of_eq hg.symm)) hb); have n1_ := Sd.mk (Kd.N_below (Kd.N_elderB (by (with_reducible repeat (first | apply Kd.N_alloc | apply Kd.N_drewN | apply Kd.N_drew)); exact HO_4.out) gb677 (Nat.le_of_eq hg.symm)) hb); have n2_ := Sd.mk (Kd.N_below (Kd.N_elderB (by (with_reducible repeat (first | apply Kd.N_alloc | apply Kd.N_drewN | apply Kd.N_drew)); exact HO669.out) gb677 (Nat.le_of_eq hg.symm)) hb); have n3_ := Sd.mk (Kd.R_below (by (with_reducible repeat (first | apply Kd.R_alloc | apply Kd.R_drewN | apply Kd.R_drew)); exact HO673.out) hb); have n4_ := Sd.mk (Kd.R_below (by (with_reducible repeat (first | apply Kd.R_alloc | apply Kd.R_drewN | apply Kd.R_drew)); exact HO676.out) hb); have n5_ := Sd.mk (Kd.C_below (by repeat (first | (with_reducible exact HR670_0.out) | (with_reducible refine Kd.C_alloc ?_ _) | (with_reducible refine Kd.C_drewN ?_ _) | (with_reducible refine Kd.C_drew ?_) | exact HR670_0.out)) hb); have n6_ := Sd.mk (Kd.C_below (by repeat (first | (with_reducible exact HR670_1.out) | (with_reducible refine Kd.C_alloc ?_ _) | (with_reducible refine Kd.C_drewN ?_ _) | (with_reducible refine Kd.C_drew ?_) | exact HR670_1.out)) hb); have n7_ := Sd.mk (below_step (by repeat (first | (with_reducible first | exact HB.out | apply bwA | apply pwN | apply bwD) | exact HB.out)) hb); have n8_ := Sd.mk (hbox); have n9_ := Sd.mk ((by rw [hg]; exact (below_size (by repeat (first | (with_reducible first | exact HB.out | apply bwA | apply pwN | apply bwD) | exact HB.out))) : w.heap.size ≤ gb677)); have n10_ := Sd.mk ((by rw [hg]; exact (below_size (by repeat (first | (with_reducible first | exact HB.out | apply bwA | apply pwN | apply bwD) | exact HB.out))) : w.heap.size ≤ gb677)); clear HO_3; clear HO_4; clear HO669; clear HO673; clear HO676; clear HR670_0; clear HR670_1; clear HB; have HO_3 := n0_; have HO_4 := n1_; have HO669 := n2_; have HO673 := n3_; have HO676 := n4_; have HR670_0 := n5_; have HR670_1 := n6_; have HB := n7_; have BK677 := n8_; have GW677 := n9_; have GE677 := n10_; clear n0_ n1_ n2_ n3_ n4_ n5_ n6_ n7_ n8_ n9_ n10_; clear hb hbox hg; obtain ⟨Ao56, co56, eo56⟩ := Kd.R_slice HO673.out; subst eo56; have hcz57_0 : w55.cell? ⟨gb677, 0, none⟩ = some (.slice none 0 0) := (blk_cell BK677.out 0).trans rfl; have hcz57_1 : w55.cell? ⟨gb677, 1, none⟩ = some (.slice none 0 0) := (blk_cell BK677.out 1).trans rfl; have hfz57_0 := blk_frozen BK677.out 0; have hfz57_1 := blk_frozen BK677.out 1; obtain ⟨Ao58, co58, eo58⟩ := Kd.R_slice HO676.out; subst eo58))
                   replace HO_3 : Sd (Kd.N (Kd.slice 36 k36) 26 ((w55.setCell ⟨gb677, 0, none⟩ (.slice Ao56 t671.length co56)).setCell ⟨gb677, 1, none⟩ (.slice Ao58 t674.length co58)) w.heap.size (fun k_ => some k_ ≠ (v648 : Value).ownBlock ∧ some k_ ≠ (.slice (some ad670) y667.length co53 : Value).ownBlock ∧ some k_ ≠ (.slice Ao56 t671.length co56 : Value).ownBlock ∧ some k_ ≠ (.slice Ao58 t674.length co58 : Value).ownBlock ∧ k_ ≠ gb677) v645 t644) := ⟨by (with_reducible repeat (first | apply Kd.N_alloc | apply Kd.N_drewN | apply Kd.N_drew)); exact Kd.N_mono (Kd.N_far (p := ⟨gb677, 1, none⟩) (Kd.N_far (p := ⟨gb677, 0, none⟩) (Kd.N_mono HO_3.out (fun k_ hk => (⟨hk, hk.2⟩ : _ ∧ k_ ≠ gb677))) (fun _ hk => hk.2) (.slice Ao56 t671.length co56)) (fun _ hk => hk.2) (.slice Ao58 t674.length co58)) (fun _ hk => ⟨hk.1.1.1.1.1.1, ⟨hk.1.1.1.1.2, ⟨hk.1.1.1.2, ⟨hk.1.1.2, hk.1.2⟩⟩⟩⟩)⟩
                   replace HO_4 : Sd (Kd.N (Kd.slice 36 k36) 26 ((w55.setCell ⟨gb677, 0, none⟩ (.slice Ao56 t671.length co56)).setCell ⟨gb677, 1, none⟩ (.slice Ao58 t674.length co58)) w.heap.size (fun k_ => some k_ ≠ (v645 : Value).ownBlock ∧ some k_ ≠ (.slice (some ad670) y667.length co53 : Value).ownBlock ∧ some k_ ≠ (.slice Ao56 t671.length co56 : Value).ownBlock ∧ some k_ ≠ (.slice Ao58 t674.length co58 : Value).ownBlock ∧ k_ ≠ gb677) v648 t647) := ⟨by (with_reducible repeat (first | apply Kd.N_alloc | apply Kd.N_drewN | apply Kd.N_drew)); exact Kd.N_mono (Kd.N_far (p := ⟨gb677, 1, none⟩) (Kd.N_far (p := ⟨gb677, 0, none⟩) (Kd.N_mono HO_4.out (fun k_ hk => (⟨hk, hk.2⟩ : _ ∧ k_ ≠ gb677))) (fun _ hk => hk.2) (.slice Ao56 t671.length co56)) (fun _ hk => hk.2) (.slice Ao58 t674.length co58)) (fun _ hk => ⟨hk.1.1.1.1.1.1, ⟨hk.1.1.1.1.2, ⟨hk.1.1.1.2, ⟨hk.1.1.2, hk.1.2⟩⟩⟩⟩)⟩
                   replace HO669 : Sd (Kd.N k47 47 ((w55.setCell ⟨gb677, 0, none⟩ (.slice Ao56 t671.length co56)).setCell ⟨gb677, 1, none⟩ (.slice Ao58 t674.length co58)) w.heap.size (fun k_ => some k_ ≠ (v645 : Value).ownBlock ∧ some k_ ≠ (v648 : Value).ownBlock ∧ some k_ ≠ (.slice Ao56 t671.length co56 : Value).ownBlock ∧ some k_ ≠ (.slice Ao58 t674.length co58 : Value).ownBlock ∧ k_ ≠ gb677) (.slice (some ad670) y667.length co53) y667) := ⟨by (with_reducible repeat (first | apply Kd.N_alloc | apply Kd.N_drewN | apply Kd.N_drew)); exact Kd.N_mono (Kd.N_far (p := ⟨gb677, 1, none⟩) (Kd.N_far (p := ⟨gb677, 0, none⟩) (Kd.N_mono HO669.out (fun k_ hk => (⟨hk, hk.2⟩ : _ ∧ k_ ≠ gb677))) (fun _ hk => hk.2) (.slice Ao56 t671.length co56)) (fun _ hk => hk.2) (.slice Ao58 t674.length co58)) (fun _ hk => ⟨hk.1.1.1.1.1, ⟨hk.1.1.1.1.2, ⟨hk.1.1.1.2, ⟨hk.1.1.2, hk.1.2⟩⟩⟩⟩)⟩
                   replace HO673 : Sd (Kd.R k36 36 ((w55.setCell ⟨gb677, 0, none⟩ (.slice Ao56 t671.length co56)).setCell ⟨gb677, 1, none⟩ (.slice Ao58 t674.length co58)) w.heap.size (fun k_ => some k_ ≠ (.slice Ao58 t674.length co58 : Value).ownBlock) (.slice Ao56 t671.length co56) t671) := ⟨by (with_reducible repeat (first | apply Kd.R_alloc | apply Kd.R_drewN | apply Kd.R_drew)); exact Kd.R_mono (Kd.R_far (p := ⟨gb677, 1, none⟩) (Kd.R_far (p := ⟨gb677, 0, none⟩) (Kd.R_types HO673.out BK677.out (by decide)) (fun _ hk => hk.2) (.slice Ao56 t671.length co56)) (fun _ hk => hk.2) (.slice Ao58 t674.length co58)) (fun _ hk => hk.1)⟩
                   replace HO676 : Sd (Kd.R k36 36 ((w55.setCell ⟨gb677, 0, none⟩ (.slice Ao56 t671.length co56)).setCell ⟨gb677, 1, none⟩ (.slice Ao58 t674.length co58)) w.heap.size (fun k_ => some k_ ≠ (.slice Ao56 t671.length co56 : Value).ownBlock) (.slice Ao58 t674.length co58) t674) := ⟨by (with_reducible repeat (first | apply Kd.R_alloc | apply Kd.R_drewN | apply Kd.R_drew)); exact Kd.R_mono (Kd.R_far (p := ⟨gb677, 1, none⟩) (Kd.R_far (p := ⟨gb677, 0, none⟩) (Kd.R_types HO676.out BK677.out (by decide)) (fun _ hk => hk.2) (.slice Ao56 t671.length co56)) (fun _ hk => hk.2) (.slice Ao58 t674.length co58)) (fun _ hk => hk.1)⟩
                   replace BK677 : Sd (((w55.setCell ⟨gb677, 0, none⟩ (.slice Ao56 t671.length co56)).setCell ⟨gb677, 1, none⟩ (.slice Ao58 t674.length co58)).heap[gb677]? = some (.cells #[.slice Ao56 t671.length co56, .slice Ao58 t674.length co58] 47 (0, 0))) := ⟨by (with_reducible repeat (first | refine blk_drewN ?_ _ | refine blk_drew ?_ | refine blk_alloc ?_ _)); refine blk_put (cs := #[.slice Ao56 t671.length co56, .slice none 0 0]) ?_ 1 _ rfl; (with_reducible repeat (first | refine blk_drewN ?_ _ | refine blk_drew ?_ | refine blk_alloc ?_ _)); refine blk_put (cs := #[.slice none 0 0, .slice none 0 0]) ?_ 0 _ rfl; (with_reducible repeat (first | refine blk_drewN ?_ _ | refine blk_drew ?_ | refine blk_alloc ?_ _)); exact BK677.out⟩
                   replace HB : Sd (Below w.heap.size w ((w55.setCell ⟨gb677, 0, none⟩ (.slice Ao56 t671.length co56)).setCell ⟨gb677, 1, none⟩ (.slice Ao58 t674.length co58))) := ⟨by repeat (first | (with_reducible first | exact HB.out | apply bwA | apply pwN | apply bwD | refine below_set ?_ GE677.out) | exact HB.out)⟩
                   generalize ((w55.setCell ⟨gb677, 0, none⟩ (.slice Ao56 t671.length co56)).setCell ⟨gb677, 1, none⟩ (.slice Ao58 t674.length co58)) = w59 at HO_3 HO_4 HO669 HO673 HO676 BK677 HB ⊢
                   replace HO_3 := Sd.mk (Kd.N_drew HO_3.out)
                   replace HO_4 := Sd.mk (Kd.N_drew HO_4.out)
                   replace HO669 := Sd.mk (Kd.N_drew HO669.out)
                   replace HO673 := Sd.mk (Kd.R_drew HO673.out)
                   replace HO676 := Sd.mk (Kd.R_drew HO676.out)
                   replace BK677 := Sd.mk (blk_drew BK677.out)
                   replace HB := Sd.mk (bwD HB.out)
                   have p678 : 0 ≤ (x6_2 : Int) := of_decide_eq_true (by first | (with_reducible assumption) | assumption)
                   have q678 : x6_2 < (y667.length : Int) := of_decide_eq_true (by first | (with_reducible assumption) | assumption)
                   obtain ⟨ad678, A678_0, c678_0, A678_1, c678_1, e678, hx678_0, hx678_1, hl678_0, hi678_0, hl678_1, hi678_1⟩ := at_T47 (Kd.N_reads' HO669.out).2.2 x6_2 p678 q678
                   obtain rfl : ad670 = ad678 := (by injection e678)
                   obtain ⟨ce678, hce678, hMe678, hcc678⟩ := Kd.N_get HO669.out z47 x6_2 p678 (by first | exact q678 | exact of_decide_eq_true (by first | (with_reducible assumption) | assumption) | (have e_ := (Kd.N_reads' HO669.out).1; omega))
                   obtain ⟨ua678_0, uc678_0, ua678_1, uc678_1, rfl, ul678_0, ge678_0, ul678_1, ge678_1⟩ := k47_openF hMe678
                   have hv678_0 := hcc678 0 _ rfl
                   rw [Nat.add_zero] at hv678_0
                   replace hv678_0 := Option.some.inj (hv678_0.symm.trans hx678_0)
                   injection hv678_0 with hva_ hvn_ hvc_
                   rw [hva_] at ge678_0
                   rw [hvc_] at ul678_0
                   have HL678_0 := Sd.mk (show Kd.V k36 36 _ w.heap.size _ _ ((rd_T47 y667 x6_2).f0) from Kd.V_mk ul678_0 ge678_0)
                   clear hva_ hvn_ hvc_ ge678_0 ul678_0
                   have hv678_1 := hcc678 1 _ rfl
                   rw [add_field _ _ 1 (by omega)] at hv678_1
                   replace hv678_1 := Option.some.inj (hv678_1.symm.trans hx678_1)
                   injection hv678_1 with hva_ hvn_ hvc_
                   rw [hva_] at ge678_1
                   rw [hvc_] at ul678_1
                   have HL678_1 := Sd.mk (show Kd.V k36 36 _ w.heap.size _ _ ((rd_T47 y667 x6_2).f1) from Kd.V_mk ul678_1 ge678_1)
                   clear hva_ hvn_ hvc_ ge678_1 ul678_1
                   clear hcc678 hce678
                   have HR678_0 := Sd.mk hi678_0
                   have HC678_0 := Sd.mk hl678_0
                   clear hi678_0 hl678_0
                   have HR678_1 := Sd.mk hi678_1
                   have HC678_1 := Sd.mk hl678_1
                   clear hi678_1 hl678_1
                   replace p678 := eq_true p678
                   replace q678 := eq_true q678
                   have p680 : 0 ≤ (x6_2 : Int) := of_decide_eq_true (by first | (with_reducible assumption) | assumption)
                   have q680 : x6_2 < (l0.length : Int) := of_decide_eq_true (by first | (with_reducible assumption) | assumption)
                   obtain ⟨ad680, A680_0, c680_0, A680_1, c680_1, e680, hx680_0, hx680_1, hl680_0, hi680_0, hl680_1, hi680_1⟩ := at_T47 HR0.out x6_2 p680 q680
                   have hw680_1 := hx680_1
                   have hw680_0 := hx680_0
                   obtain rfl : ad656 = ad680 := (by injection e680)
                   replace hx680_0 := (HB.out.cell (World.block_lt_of_cell? w _ hx680_0)).trans hx680_0
                   replace hx680_1 := (HB.out.cell (World.block_lt_of_cell? w _ hx680_1)).trans hx680_1
                   have HR680_0 := Sd.mk hi680_0
                   have HC680_0 := Sd.mk hl680_0
                   clear hi680_0 hl680_0
                   have HR680_1 := Sd.mk hi680_1
                   have HC680_1 := Sd.mk hl680_1
                   clear hi680_1 hl680_1
                   replace p680 := eq_true p680
                   replace q680 := eq_true q680
                   refine start_ (n := 35) (S := fun w' => w'.cell? ⟨gb677, 0, none⟩ = some (.slice Ao56 t671.length co56) ∧ w'.cell? ⟨gb677, 1, none⟩ = some (.slice Ao58 t674.length co58) ∧ w'.cell? (ad670.add ((x6_2).toNat * 2)) = some (.slice A678_0 ((rd_T47 y667 x6_2).f0).length c678_0) ∧ w'.cell? ⟨(ad670.add ((x6_2).toNat * 2)).block, (ad670.add ((x6_2).toNat * 2)).off + 1, none⟩ = some (.slice A678_1 ((rd_T47 y667 x6_2).f1).length c678_1) ∧ w'.cell? (ad656.add ((x6_2).toNat * 2)) = some (.slice A680_0 ((rd_T47 l0 x6_2).f0).length c680_0) ∧ w'.cell? ⟨(ad656.add ((x6_2).toNat * 2)).block, (ad656.add ((x6_2).toNat * 2)).off + 1, none⟩ = some (.slice A680_1 ((rd_T47 l0 x6_2).f1).length c680_1)) (ds := []) #[false, false, false, false, false, false, false, false, false, false, false, false, false, false, false, false, false, false, false, false, false, false, false, false, false, false, false, false, false, false, false, false, false, false, false] (by kernel_rfl) rfl rfl ⟨(blk_cell BK677.out 0).trans rfl, (blk_cell BK677.out 1).trans rfl, hx678_0, hx678_1, ((HB.out.cell (World.block_lt_of_cell? w _ hw680_0)).trans hw680_0), ((HB.out.cell (World.block_lt_of_cell? w _ hw680_1)).trans hw680_1)⟩ (fun hHeld => ?_); refine with_tabW incipitlaw19_AxisKnown.tab12 incipitlaw19_AxisKnown.bits12 (fun HT_ HW_ => ?_)
                   generalize w59.drew = w60 at HO_3 HO_4 HO669 HO673 HO676 BK677 HB HL678_0 HL678_1 HR678_0 HR678_1 HR680_0 HR680_1 hx678_0 hx678_1 hx680_0 hx680_1 hHeld ⊢
                   refine pure_ (i := 0) (N := some 54) (v := ?_) (a' := ?_) #[true, false, false, false, false, false, false, false, false, false, false, false, false, false, false, false, false, false, false, false, false, false, false, false, false, false, false, false, false, false, false, false, false, false, false] rfl rfl (any_of HT_.out (by kernel_rfl)) (fun _ _ _ h => h) (Or.inl ⟨by rfl, ?_⟩) ?_ ?_
                   rotate_left
                   ·intro w'
                    go_simp
                    with_reducible rfl
                   rotate_left
                   ·simp only [Act.put, List.setIfInBounds_toArray, List.set_cons_zero, List.set_cons_succ, i64_w, i32_w]
                    rfl
                   refine pure_ (i := 1) (N := some 55) (v := ?_) (a' := ?_) #[true, true, false, false, false, false, false, false, false, false, false, false, false, false, false, false, false, false, false, false, false, false, false, false, false, false, false, false, false, false, false, false, false, false, false] rfl rfl (any_of HT_.out (by kernel_rfl)) (fun _ _ _ h => h) (Or.inl ⟨by rfl, ?_⟩) ?_ ?_
                   rotate_left
                   ·intro w'
                    go_simp
                    with_reducible rfl
                   rotate_left
                   ·simp only [Act.put, List.setIfInBounds_toArray, List.set_cons_zero, List.set_cons_succ, i64_w, i32_w]
                    rfl
                   refine pure_ (i := 2) (N := some 56) (v := ?_) (a' := ?_) #[true, true, true, false, false, false, false, false, false, false, false, false, false, false, false, false, false, false, false, false, false, false, false, false, false, false, false, false, false, false, false, false, false, false, false] rfl rfl (any_of HT_.out (by kernel_rfl)) (fun _ _ _ h => h) (Or.inl ⟨by rfl, ?_⟩) ?_ ?_
                   rotate_left
                   ·intro w'
                    go_simp
                    with_reducible rfl
                   rotate_left
                   ·simp only [Act.put, List.setIfInBounds_toArray, List.set_cons_zero, List.set_cons_succ, i64_w, i32_w]
                    rfl
                   refine pure_ (i := 5) (N := some 59) (v := ?_) (a' := ?_) #[true, true, true, false, false, true, false, false, false, false, false, false, false, false, false, false, false, false, false, false, false, false, false, false, false, false, false, false, false, false, false, false, false, false, false] rfl rfl (any_of HT_.out (by kernel_rfl)) (fun _ _ _ h => h) (Or.inl ⟨by rfl, ?_⟩) ?_ ?_
                   rotate_left
                   ·intro w'
                    go_simp
                    with_reducible rfl
                   rotate_left
                   ·simp only [Act.put, List.setIfInBounds_toArray, List.set_cons_zero, List.set_cons_succ, i64_w, i32_w]
                    rfl
                   refine pure_ (i := 6) (N := some 60) (v := ?_) (a' := ?_) #[true, true, true, false, false, true, true, false, false, false, false, false, false, false, false, false, false, false, false, false, false, false, false, false, false, false, false, false, false, false, false, false, false, false, false] rfl rfl (any_of HT_.out (by kernel_rfl)) (fun _ _ _ h => h) (Or.inl ⟨by rfl, ?_⟩) ?_ ?_
                   rotate_left
                   ·intro w'
                    go_simp
                    with_reducible rfl
                   rotate_left
                   ·simp only [Act.put, List.setIfInBounds_toArray, List.set_cons_zero, List.set_cons_succ, i64_w, i32_w]
                    rfl
                   refine pure_ (i := 7) (N := some 61) (v := ?_) (a' := ?_) #[true, true, true, false, false, true, true, true, false, false, false, false, false, false, false, false, false, false, false, false, false, false, false, false, false, false, false, false, false, false, false, false, false, false, false] rfl rfl (any_of HT_.out (by kernel_rfl)) (fun _ _ _ h => h) (Or.inl ⟨by rfl, ?_⟩) ?_ ?_
                   rotate_left
                   ·intro w'
                    go_simp
                    with_reducible rfl
                   rotate_left
                   ·simp only [Act.put, List.setIfInBounds_toArray, List.set_cons_zero, List.set_cons_succ, i64_w, i32_w]
                    rfl
                   refine take_ (i := 3) (N := some 57) (v := ?_) (a' := ?_) #[true, true, true, true, false, true, true, true, false, false, false, false, false, false, false, false, false, false, false, false, false, false, false, false, false, false, false, false, false, false, false, false, false, false, false] rfl rfl (take_ofW HT_.out HW_.out (by kernel_rfl)) (fun _ _ _ h => h) (Or.inl ⟨by rfl, ?_⟩) hHeld ?_ ?_
                   rotate_left
                   ·rintro w' ⟨s0, s1, s2, s3, s4, s5⟩
                    go_simp
                    with_reducible rfl
                   rotate_left
                   ·simp only [Act.put, List.setIfInBounds_toArray, List.set_cons_zero, List.set_cons_succ, i64_w, i32_w]
                    rfl
                   refine take_ (i := 8) (N := some 62) (v := ?_) (a' := ?_) #[true, true, true, true, false, true, true, true, true, false, false, false, false, false, false, false, false, false, false, false, false, false, false, false, false, false, false, false, false, false, false, false, false, false, false] rfl rfl (take_ofW HT_.out HW_.out (by kernel_rfl)) (fun _ _ _ h => h) (Or.inl ⟨by rfl, ?_⟩) hHeld ?_ ?_
                   rotate_left
                   ·rintro w' ⟨s0, s1, s2, s3, s4, s5⟩
                    go_simp
                    with_reducible rfl
                   rotate_left
                   ·simp only [Act.put, List.setIfInBounds_toArray, List.set_cons_zero, List.set_cons_succ, i64_w, i32_w]
                    rfl
                   refine one_ (i := 4) (N := some 58) #[true, true, true, true, true, true, true, true, true, false, false, false, false, false, false, false, false, false, false, false, false, false, false, false, false, false, false, false, false, false, false, false, false, false, false] rfl rfl (one_of HT_.out (by kernel_rfl)) (by decide) (fun K hK => ?_)
                   refine goes_ Try.func31 (by kernel_rfl) rfl #[.agg #[.slice A678_0 ((rd_T47 y667 x6_2).f0).length c678_0, .slice A678_1 ((rd_T47 y667 x6_2).f1).length c678_1]] (by rfl) rfl rfl (by (try simp only [List.map_toArray, List.map_cons, List.map_nil]); first | done | rfl | (simp only [List.length_drop, List.length_take]; rfl)) ?_
                   with_reducible refine (axis_Whole.calls k2 (fun k_ => ((some k_ ≠ (v645 : Value).ownBlock ∧ (some k_ ≠ (v648 : Value).ownBlock ∧ (some k_ ≠ (.slice Ao56 t671.length co56 : Value).ownBlock ∧ (some k_ ≠ (.slice Ao58 t674.length co58 : Value).ownBlock ∧ k_ ≠ gb677)))) ∧ some k_ ≠ (.slice (some ad670) y667.length co53 : Value).ownBlock)) _ _ ((rd_T47 y667 x6_2).f0) (fun k_ => ((some k_ ≠ (v645 : Value).ownBlock ∧ (some k_ ≠ (v648 : Value).ownBlock ∧ (some k_ ≠ (.slice Ao56 t671.length co56 : Value).ownBlock ∧ (some k_ ≠ (.slice Ao58 t674.length co58 : Value).ownBlock ∧ k_ ≠ gb677)))) ∧ some k_ ≠ (.slice (some ad670) y667.length co53 : Value).ownBlock)) _ _ ((rd_T47 y667 x6_2).f1) t679 _ ?side1 ?side2 A26.out).mono ?_
                   (case side1 => exact HL678_0.out)
                   (case side2 => exact HL678_1.out)
                   rintro e w61 ⟨rfl, hb⟩
                   have HS2_ := (hb.cell (World.block_lt_of_cell? _ _ (hHeld.2.2.1))).trans (hHeld.2.2.1)
                   have HS3_ := (hb.cell (World.block_lt_of_cell? _ _ (hHeld.2.2.2.1))).trans (hHeld.2.2.2.1)
                   refine ⟨_, rfl, ?_⟩
                   replace HO_3 := Sd.mk (Kd.N_below (by (with_reducible repeat (first | apply Kd.N_alloc | apply Kd.N_drewN | apply Kd.N_drew)); exact HO_3.out) hb)
                   replace HO_4 := Sd.mk (Kd.N_below (by (with_reducible repeat (first | apply Kd.N_alloc | apply Kd.N_drewN | apply Kd.N_drew)); exact HO_4.out) hb)
                   replace HO669 := Sd.mk (Kd.N_below (by (with_reducible repeat (first | apply Kd.N_alloc | apply Kd.N_drewN | apply Kd.N_drew)); exact HO669.out) hb)
                   replace HO673 := Sd.mk (Kd.R_below (by (with_reducible repeat (first | apply Kd.R_alloc | apply Kd.R_drewN | apply Kd.R_drew)); exact HO673.out) hb)
                   replace HO676 := Sd.mk (Kd.R_below (by (with_reducible repeat (first | apply Kd.R_alloc | apply Kd.R_drewN | apply Kd.R_drew)); exact HO676.out) hb)
                   replace HL678_0 := Sd.mk (Kd.V_below (by (with_reducible repeat (first | apply Kd.V_alloc | apply Kd.V_drewN | apply Kd.V_drew)); exact HL678_0.out) hb)
                   replace HL678_1 := Sd.mk (Kd.V_below (by (with_reducible repeat (first | apply Kd.V_alloc | apply Kd.V_drewN | apply Kd.V_drew)); exact HL678_1.out) hb)
                   replace BK677 := Sd.mk (blk_below (g := gb677) (o := .cells #[.slice Ao56 t671.length co56, .slice Ao58 t674.length co58] 47 (0, 0)) (by (with_reducible repeat (first | refine blk_drewN ?_ _ | refine blk_drew ?_ | refine blk_alloc ?_ _)); exact BK677.out) hb)
                   replace HR678_0 := Sd.mk (Kd.C_below (by repeat (first | (with_reducible exact HR678_0.out) | (with_reducible refine Kd.C_alloc ?_ _) | (with_reducible refine Kd.C_drewN ?_ _) | (with_reducible refine Kd.C_drew ?_) | exact HR678_0.out)) hb)
                   replace HR678_1 := Sd.mk (Kd.C_below (by repeat (first | (with_reducible exact HR678_1.out) | (with_reducible refine Kd.C_alloc ?_ _) | (with_reducible refine Kd.C_drewN ?_ _) | (with_reducible refine Kd.C_drew ?_) | exact HR678_1.out)) hb)
                   replace HB := Sd.mk (below_step (by repeat (first | (with_reducible first | exact HB.out | apply bwA | apply pwN | apply bwD | refine below_set ?_ GE677.out) | exact HB.out)) hb)
                   (try clear hb)
                   (try clear hb2)
                   (try clear hk)
                   (try clear hi)
                   refine hK.out _ _ ⟨(blk_cell BK677.out 0).trans rfl, (blk_cell BK677.out 1).trans rfl, HS2_, HS3_, ((HB.out.cell (World.block_lt_of_cell? w _ hw680_0)).trans hw680_0), ((HB.out.cell (World.block_lt_of_cell? w _ hw680_1)).trans hw680_1)⟩ (fun hHeld => ?_)
                   clear hK K
                   refine norm_ (a' := ?_) ?_ ?_
                   rotate_left
                   ·show Act.put _ (some 58) _ = _
                    simp only [Act.put, List.setIfInBounds_toArray, List.set_cons_zero, List.set_cons_succ, i64_w, i32_w]
                    rfl
                   refine one_ (i := 9) (N := some 63) #[true, true, true, true, true, true, true, true, true, true, false, false, false, false, false, false, false, false, false, false, false, false, false, false, false, false, false, false, false, false, false, false, false, false, false] rfl rfl (one_of HT_.out (by kernel_rfl)) (by decide) (fun K hK => ?_)
                   refine goes_ Try.func32 (by kernel_rfl) rfl #[.agg #[.slice A680_0 ((rd_T47 l0 x6_2).f0).length c680_0, .slice A680_1 ((rd_T47 l0 x6_2).f1).length c680_1]] (by rfl) rfl rfl (by (try simp only [List.map_toArray, List.map_cons, List.map_nil]); first | done | rfl | (simp only [List.length_drop, List.length_take]; rfl)) ?_
                   with_reducible refine (incipitref19_Whole.calls k2 (fun k_ => k_ < w.heap.size) _ _ ((rd_T47 l0 x6_2).f0) (fun k_ => k_ < w.heap.size) _ _ ((rd_T47 l0 x6_2).f1) t681 _ ?side1 ?side2 A27.out).mono ?_
                   (case side1 => exact Kd.V_mk HC680_0.out (Kd.F_below (Kd.C_F k36_heap HR680_0.out) (by repeat (first | (with_reducible first | exact HB.out | apply bwA | apply pwN | apply bwD | refine below_set ?_ GE677.out) | exact HB.out))))
                   (case side2 => exact Kd.V_mk HC680_1.out (Kd.F_below (Kd.C_F k36_heap HR680_1.out) (by repeat (first | (with_reducible first | exact HB.out | apply bwA | apply pwN | apply bwD | refine below_set ?_ GE677.out) | exact HB.out))))
                   rintro e w62 ⟨rfl, hb⟩
                   have HS2_ := (hb.cell (World.block_lt_of_cell? _ _ (hHeld.2.2.1))).trans (hHeld.2.2.1)
                   have HS3_ := (hb.cell (World.block_lt_of_cell? _ _ (hHeld.2.2.2.1))).trans (hHeld.2.2.2.1)
                   refine ⟨_, rfl, ?_⟩
                   replace HO_3 := Sd.mk (Kd.N_below (by (with_reducible repeat (first | apply Kd.N_alloc | apply Kd.N_drewN | apply Kd.N_drew)); exact HO_3.out) hb)
                   replace HO_4 := Sd.mk (Kd.N_below (by (with_reducible repeat (first | apply Kd.N_alloc | apply Kd.N_drewN | apply Kd.N_drew)); exact HO_4.out) hb)
                   replace HO669 := Sd.mk (Kd.N_below (by (with_reducible repeat (first | apply Kd.N_alloc | apply Kd.N_drewN | apply Kd.N_drew)); exact HO669.out) hb)
                   replace HO673 := Sd.mk (Kd.R_below (by (with_reducible repeat (first | apply Kd.R_alloc | apply Kd.R_drewN | apply Kd.R_drew)); exact HO673.out) hb)
                   replace HO676 := Sd.mk (Kd.R_below (by (with_reducible repeat (first | apply Kd.R_alloc | apply Kd.R_drewN | apply Kd.R_drew)); exact HO676.out) hb)
                   replace BK677 := Sd.mk (blk_below (g := gb677) (o := .cells #[.slice Ao56 t671.length co56, .slice Ao58 t674.length co58] 47 (0, 0)) (by (with_reducible repeat (first | refine blk_drewN ?_ _ | refine blk_drew ?_ | refine blk_alloc ?_ _)); exact BK677.out) hb)
                   replace HR678_0 := Sd.mk (Kd.C_below (by repeat (first | (with_reducible exact HR678_0.out) | (with_reducible refine Kd.C_alloc ?_ _) | (with_reducible refine Kd.C_drewN ?_ _) | (with_reducible refine Kd.C_drew ?_) | exact HR678_0.out)) hb)
                   replace HR678_1 := Sd.mk (Kd.C_below (by repeat (first | (with_reducible exact HR678_1.out) | (with_reducible refine Kd.C_alloc ?_ _) | (with_reducible refine Kd.C_drewN ?_ _) | (with_reducible refine Kd.C_drew ?_) | exact HR678_1.out)) hb)
                   replace HB := Sd.mk (below_step (by repeat (first | (with_reducible first | exact HB.out | apply bwA | apply pwN | apply bwD | refine below_set ?_ GE677.out) | exact HB.out)) hb)
                   (try clear hb)
                   (try clear hb2)
                   (try clear hk)
                   (try clear hi)
                   obtain ⟨Ao64, co64, eo64⟩ := Kd.N_slice HO_4.out
                   (first | subst eo64 | (injection eo64 with f1_ f2_ f3_; have f4_ := f1_.symm; have f5_ := f3_.symm; clear f1_ f2_ f3_; subst f4_; subst f5_))
                   have q63 : ((wrap64 (x6_2 + 1)) : Int) ≤ ((t647.length : Int) : Int) := of_decide_eq_true (by first | (with_reducible assumption) | assumption)
                   obtain ⟨i063, hi063, _, hsz63, _⟩ := info_parts info26
                   have hroom63 : t647.length ≤ co64 := (Kd.N_reads' HO_4.out).2.1
                   have hC63 : Kd.F (Kd.slice 36 k36) _ _ Ao64 t647.length t647 := (Kd.V_at (base := w.heap.size) (Kd.N_V HO_4.out)).2.2
                   have ql63 : (x6_2 : Int) ≤ ((wrap64 (x6_2 + 1)) : Int) := of_decide_eq_true (by first | (with_reducible assumption) | assumption)
                   have q063 : (0 : Int) ≤ (x6_2 : Int) := of_decide_eq_true (by first | (with_reducible assumption) | assumption)
                   have hcut63 := cut_mid (P := Try.prog) 22 26 .i64 .i64 Try.underlying22 hi063 1 hsz63 Ao64 t647.length co64 x6_2 (wrap64 (x6_2 + 1)) q063 ql63 q63 hroom63
                   have hr63 := Kd.F_mid (lo := (x6_2 : Int).toNat) (hi := ((wrap64 (x6_2 + 1)) : Int).toNat) (c := co64) hC63 (by omega) (by omega) hroom63
                   obtain ⟨A63, hA63⟩ : ∃ A1, A1 = (if co64 = (x6_2 : Int).toNat then Ao64 else (Ao64 : Option Addr).map (·.add ((x6_2 : Int).toNat * 1))) := ⟨_, rfl⟩
                   obtain ⟨c63, hc63⟩ : ∃ c1, c1 = co64 - (x6_2 : Int).toNat := ⟨_, rfl⟩
                   have hy63 : y682.length = ((wrap64 (x6_2 + 1)) : Int).toNat - (x6_2 : Int).toNat := (by rw [Ny682.out, List.length_drop, List.length_take] <;> omega)
                   rw [show ((t647).take ((wrap64 (x6_2 + 1)) : Int).toNat).drop (x6_2 : Int).toNat = y682 from Ny682.out.symm] at hr63
                   replace hr63 : Kd.F (Kd.slice 36 k36) _ _ A63 y682.length y682 := (by rw [hA63]; exact hr63)
                   rw [← hy63, ← hA63, ← hc63] at hcut63
                   have HO686 := Sd.mk (show Kd.V (Kd.slice 36 k36) 26 _ w.heap.size _ (.slice A63 y682.length c63) y682 from Kd.V_mk (by rw [hy63, hc63]; exact Nat.sub_le_sub_right (Nat.le_trans (by omega) hroom63) _) hr63)
                   have HC686 := Sd.mk (show y682.length ≤ c63 from by rw [hy63, hc63]; exact Nat.sub_le_sub_right (Nat.le_trans (by omega) hroom63) _)
                   clear hr63 hC63 hroom63 hi063 hsz63 hc63
                   have KY63 := Sd.mk hy63
                   have KA63 := Sd.mk hA63
                   clear hy63 hA63
                   replace q63 := eq_true q63
                   refine hK.out _ _ ⟨(blk_cell BK677.out 0).trans rfl, (blk_cell BK677.out 1).trans rfl, HS2_, HS3_, ((HB.out.cell (World.block_lt_of_cell? w _ hw680_0)).trans hw680_0), ((HB.out.cell (World.block_lt_of_cell? w _ hw680_1)).trans hw680_1)⟩ (fun hHeld => ?_)
                   clear hK K
                   refine norm_ (a' := ?_) ?_ ?_
                   rotate_left
                   ·show Act.put _ (some 63) _ = _
                    simp only [Act.put, List.setIfInBounds_toArray, List.set_cons_zero, List.set_cons_succ, i64_w, i32_w]
                    rfl
                   refine pure_ (i := 10) (N := some 64) (v := ?_) (a' := ?_) #[true, true, true, true, true, true, true, true, true, true, true, false, false, false, false, false, false, false, false, false, false, false, false, false, false, false, false, false, false, false, false, false, false, false, false] rfl rfl (any_of HT_.out (by kernel_rfl)) (fun _ _ _ h => h) (Or.inl ⟨by rfl, ?_⟩) ?_ ?_
                   rotate_left
                   ·intro w'
                    go_simp
                    with_reducible rfl
                   rotate_left
                   ·simp only [Act.put, List.setIfInBounds_toArray, List.set_cons_zero, List.set_cons_succ, i64_w, i32_w]
                    rfl
                   refine pure_ (i := 11) (N := some 65) (v := ?_) (a' := ?_) #[true, true, true, true, true, true, true, true, true, true, true, true, false, false, false, false, false, false, false, false, false, false, false, false, false, false, false, false, false, false, false, false, false, false, false] rfl rfl (any_of HT_.out (by kernel_rfl)) (fun _ _ _ h => h) (Or.inl ⟨by rfl, ?_⟩) ?_ ?_
                   rotate_left
                   ·intro w'
                    go_simp
                    with_reducible rfl
                   rotate_left
                   ·simp only [Act.put, List.setIfInBounds_toArray, List.set_cons_zero, List.set_cons_succ, i64_w, i32_w]
                    rfl
                   refine pure_ (i := 12) (N := some 66) (v := ?_) (a' := ?_) #[true, true, true, true, true, true, true, true, true, true, true, true, true, false, false, false, false, false, false, false, false, false, false, false, false, false, false, false, false, false, false, false, false, false, false] rfl rfl (any_of HT_.out (by kernel_rfl)) (fun _ _ _ h => h) (Or.inl ⟨by rfl, ?_⟩) ?_ ?_
                   rotate_left
                   ·intro w'
                    go_simp
                    with_reducible rfl
                   rotate_left
                   ·simp only [Act.put, List.setIfInBounds_toArray, List.set_cons_zero, List.set_cons_succ, i64_w, i32_w]
                    rfl
                   refine pure_ (i := 14) (N := some 68) (v := ?_) (a' := ?_) #[true, true, true, true, true, true, true, true, true, true, true, true, true, false, true, false, false, false, false, false, false, false, false, false, false, false, false, false, false, false, false, false, false, false, false] rfl rfl (any_of HT_.out (by kernel_rfl)) (fun _ _ _ h => h) (Or.inl ⟨by rfl, ?_⟩) ?_ ?_
                   rotate_left
                   ·intro w'
                    go_simp
                    with_reducible rfl
                   rotate_left
                   ·simp only [Act.put, List.setIfInBounds_toArray, List.set_cons_zero, List.set_cons_succ, i64_w, i32_w]
                    rfl
                   refine pure_ (i := 15) (N := some 69) (v := ?_) (a' := ?_) #[true, true, true, true, true, true, true, true, true, true, true, true, true, false, true, true, false, false, false, false, false, false, false, false, false, false, false, false, false, false, false, false, false, false, false] rfl rfl (any_of HT_.out (by kernel_rfl)) (fun _ _ _ h => h) (Or.inl ⟨by rfl, ?_⟩) ?_ ?_
                   rotate_left
                   ·intro w'
                    go_simp
                    with_reducible rfl
                   rotate_left
                   ·simp only [Act.put, List.setIfInBounds_toArray, List.set_cons_zero, List.set_cons_succ, i64_w, i32_w]
                    rfl
                   refine pure_ (i := 16) (N := some 70) (v := ?_) (a' := ?_) #[true, true, true, true, true, true, true, true, true, true, true, true, true, false, true, true, true, false, false, false, false, false, false, false, false, false, false, false, false, false, false, false, false, false, false] rfl rfl (any_of HT_.out (by kernel_rfl)) (fun _ _ _ h => h) (Or.inl ⟨by rfl, ?_⟩) ?_ ?_
                   rotate_left
                   ·intro w'
                    go_simp
                    with_reducible rfl
                   rotate_left
                   ·simp only [Act.put, List.setIfInBounds_toArray, List.set_cons_zero, List.set_cons_succ, i64_w, i32_w]
                    rfl
                   refine pure_ (i := 17) (N := some 71) (v := ?_) (a' := ?_) #[true, true, true, true, true, true, true, true, true, true, true, true, true, false, true, true, true, true, false, false, false, false, false, false, false, false, false, false, false, false, false, false, false, false, false] rfl rfl (any_of HT_.out (by kernel_rfl)) (fun _ _ _ h => h) (Or.inl ⟨by rfl, ?_⟩) ?_ ?_
                   rotate_left
                   ·intro w'
                    go_simp
                    with_reducible rfl
                   rotate_left
                   ·simp only [Act.put, List.setIfInBounds_toArray, List.set_cons_zero, List.set_cons_succ, i64_w, i32_w]
                    rfl
                   refine pure_ (i := 18) (N := some 72) (v := ?_) (a' := ?_) #[true, true, true, true, true, true, true, true, true, true, true, true, true, false, true, true, true, true, true, false, false, false, false, false, false, false, false, false, false, false, false, false, false, false, false] rfl rfl (any_of HT_.out (by kernel_rfl)) (fun _ _ _ h => h) (Or.inl ⟨by rfl, ?_⟩) ?_ ?_
                   rotate_left
                   ·intro w'
                    go_simp
                    with_reducible rfl
                   rotate_left
                   ·simp only [Act.put, List.setIfInBounds_toArray, List.set_cons_zero, List.set_cons_succ, i64_w, i32_w]
                    rfl
                   refine take_ (i := 13) (N := some 67) (v := ?_) (a' := ?_) #[true, true, true, true, true, true, true, true, true, true, true, true, true, true, true, true, true, true, true, false, false, false, false, false, false, false, false, false, false, false, false, false, false, false, false] rfl rfl (take_ofW HT_.out HW_.out (by kernel_rfl)) (fun _ _ _ h => h) (Or.inl ⟨by rfl, ?_⟩) hHeld ?_ ?_
                   rotate_left
                   ·rintro w' ⟨s0, s1, s2, s3, s4, s5⟩
                    go_simp
                    with_reducible rfl
                   rotate_left
                   ·simp only [Act.put, List.setIfInBounds_toArray, List.set_cons_zero, List.set_cons_succ, i64_w, i32_w]
                    rfl
                   refine one_ (i := 19) (N := some 73) #[true, true, true, true, true, true, true, true, true, true, true, true, true, true, true, true, true, true, true, true, false, false, false, false, false, false, false, false, false, false, false, false, false, false, false] rfl rfl (one_of HT_.out (by kernel_rfl)) (by decide) (fun K hK => ?_)
                   refine goes_ Try.func15 (by kernel_rfl) rfl #[.slice A63 y682.length c63] (by rfl) rfl rfl (by (try simp only [List.map_toArray, List.map_cons, List.map_nil]); first | done | rfl | (simp only [List.length_drop, List.length_take]; rfl)) ?_
                   with_reducible refine (rf_Union.calls k2 _ _ y682 t687 _ ?side1 ?side2 A32.out).mono ?_
                   (case side1 => repeat (first | exact (Kd.V_reads' HO686.out).2.2 | (with_reducible refine Kd.C_alloc ?_ _) | (with_reducible refine Kd.C_drewN ?_ _) | (with_reducible refine Kd.C_drew ?_)))
                   (case side2 => exact (Kd.V_reads' HO686.out).2.1)
                   rintro e w65 ⟨v688, rfl, ho0, hb⟩
                   have HS2_ := (hb.cell (World.block_lt_of_cell? _ _ (hHeld.2.2.1))).trans (hHeld.2.2.1)
                   have HS3_ := (hb.cell (World.block_lt_of_cell? _ _ (hHeld.2.2.2.1))).trans (hHeld.2.2.2.1)
                   refine ⟨_, rfl, ?_⟩
                   have n0_ := Sd.mk (Kd.N_elder' (by (with_reducible repeat (first | apply Kd.N_alloc | apply Kd.N_drewN | apply Kd.N_drew)); exact HO_3.out) (Kd.R_base ho0) hb)
                   have n1_ := Sd.mk (Kd.N_elder' (by (with_reducible repeat (first | apply Kd.N_alloc | apply Kd.N_drewN | apply Kd.N_drew)); exact HO_4.out) (Kd.R_base ho0) hb)
                   have n2_ := Sd.mk (Kd.N_elder' (by (with_reducible repeat (first | apply Kd.N_alloc | apply Kd.N_drewN | apply Kd.N_drew)); exact HO669.out) (Kd.R_base ho0) hb)
                   have n3_ := Sd.mk (Kd.R_elder' (by (with_reducible repeat (first | apply Kd.R_alloc | apply Kd.R_drewN | apply Kd.R_drew)); exact HO673.out) (Kd.R_base ho0) hb)
                   have n4_ := Sd.mk (Kd.R_elder' (by (with_reducible repeat (first | apply Kd.R_alloc | apply Kd.R_drewN | apply Kd.R_drew)); exact HO676.out) (Kd.R_base ho0) hb)
                   have n5_ := Sd.mk (Kd.V_elder' (by (with_reducible repeat (first | apply Kd.V_alloc | apply Kd.V_drewN | apply Kd.V_drew)); exact HO686.out) (Kd.R_base ho0) hb)
                   have n6_ := Sd.mk (Kd.R_lower (Kd.R_new' (Kd.R_new' ho0 (Kd.R_lt (by (with_reducible repeat (first | apply Kd.R_alloc | apply Kd.R_drewN | apply Kd.R_drew)); exact HO673.out))) (Kd.R_lt (by (with_reducible repeat (first | apply Kd.R_alloc | apply Kd.R_drewN | apply Kd.R_drew)); exact HO676.out))) (below_size (by repeat (first | (with_reducible first | exact HB.out | apply bwA | apply pwN | apply bwD | refine below_set ?_ GE677.out) | exact HB.out))))
                   have n7_ := Sd.mk (blk_below (g := gb677) (o := .cells #[.slice Ao56 t671.length co56, .slice Ao58 t674.length co58] 47 (0, 0)) (by (with_reducible repeat (first | refine blk_drewN ?_ _ | refine blk_drew ?_ | refine blk_alloc ?_ _)); exact BK677.out) hb)
                   have n8_ := Sd.mk (Kd.C_below (by repeat (first | (with_reducible exact HR678_0.out) | (with_reducible refine Kd.C_alloc ?_ _) | (with_reducible refine Kd.C_drewN ?_ _) | (with_reducible refine Kd.C_drew ?_) | exact HR678_0.out)) hb)
                   have n9_ := Sd.mk (Kd.C_below (by repeat (first | (with_reducible exact HR678_1.out) | (with_reducible refine Kd.C_alloc ?_ _) | (with_reducible refine Kd.C_drewN ?_ _) | (with_reducible refine Kd.C_drew ?_) | exact HR678_1.out)) hb)
                   have n10_ := Sd.mk (below_step (by repeat (first | (with_reducible first | exact HB.out | apply bwA | apply pwN | apply bwD | refine below_set ?_ GE677.out) | exact HB.out)) hb)
                   clear HO_3
                   clear HO_4
                   clear HO669
                   clear HO673
                   clear HO676
                   clear HO686
                   clear BK677
                   clear HR678_0
                   clear HR678_1
                   clear HB
                   have HO_3 := n0_
                   have HO_4 := n1_
                   have HO669 := n2_
                   have HO673 := n3_
                   have HO676 := n4_
                   have HO686 := n5_
                   have HO689 := n6_
                   have BK677 := n7_
                   have HR678_0 := n8_
                   have HR678_1 := n9_
                   have HB := n10_
                   clear n0_ n1_ n2_ n3_ n4_ n5_ n6_ n7_ n8_ n9_ n10_
                   (try clear hb)
                   (try clear hb2)
                   (try clear hk)
                   (try clear hi)
                   (try clear ho0)
                   obtain ⟨Ao66, co66, eo66⟩ := Kd.R_slice HO689.out
                   (first | subst eo66 | (injection eo66 with f1_ f2_ f3_; have f4_ := f1_.symm; have f5_ := f3_.symm; clear f1_ f2_ f3_; subst f4_; subst f5_))
                   refine hK.out _ _ ⟨(blk_cell BK677.out 0).trans rfl, (blk_cell BK677.out 1).trans rfl, HS2_, HS3_, ((HB.out.cell (World.block_lt_of_cell? w _ hw680_0)).trans hw680_0), ((HB.out.cell (World.block_lt_of_cell? w _ hw680_1)).trans hw680_1)⟩ (fun hHeld => ?_)
                   clear hK K
                   refine norm_ (a' := ?_) ?_ ?_
                   rotate_left
                   ·show Act.put _ (some 73) _ = _
                    simp only [Act.put, List.setIfInBounds_toArray, List.set_cons_zero, List.set_cons_succ, i64_w, i32_w]
                    rfl
                   refine one_ (i := 20) (N := some 74) #[true, true, true, true, true, true, true, true, true, true, true, true, true, true, true, true, true, true, true, true, true, false, false, false, false, false, false, false, false, false, false, false, false, false, false] rfl rfl (one_of HT_.out (by kernel_rfl)) (by decide) (fun K hK => ?_)
                   refine goes_ Try.func14 (by kernel_rfl) rfl #[.slice Ao56 t671.length co56, .slice Ao66 t687.length co66] (by rfl) rfl rfl (by (try simp only [List.map_toArray, List.map_cons, List.map_nil]); first | done | rfl | (simp only [List.length_drop, List.length_take]; rfl)) ?_
                   with_reducible refine (rf_Same.calls k2 _ _ t671 _ _ t687 true _ ?side1 ?side2 ?side3 ?side4 A33.out).mono ?_
                   (case side1 => repeat (first | exact (Kd.R_reads' HO673.out).2.2 | (with_reducible refine Kd.C_alloc ?_ _) | (with_reducible refine Kd.C_drewN ?_ _) | (with_reducible refine Kd.C_drew ?_)))
                   (case side2 => exact (Kd.R_reads' HO673.out).2.1)
                   (case side3 => repeat (first | exact (Kd.R_reads' HO689.out).2.2 | (with_reducible refine Kd.C_alloc ?_ _) | (with_reducible refine Kd.C_drewN ?_ _) | (with_reducible refine Kd.C_drew ?_)))
                   (case side4 => exact (Kd.R_reads' HO689.out).2.1)
                   rintro e w' ⟨rfl, ⟨nd, rfl⟩⟩
                   refine ⟨_, rfl, ?_⟩
                   obtain ⟨Ao68, co68, eo68⟩ := Kd.N_slice HO_3.out
                   (first | subst eo68 | (injection eo68 with f1_ f2_ f3_; have f4_ := f1_.symm; have f5_ := f3_.symm; clear f1_ f2_ f3_; subst f4_; subst f5_))
                   have q67 : ((wrap64 (x6_2 + 1)) : Int) ≤ ((t644.length : Int) : Int) := of_decide_eq_true (by first | (with_reducible assumption) | assumption)
                   obtain ⟨i067, hi067, _, hsz67, _⟩ := info_parts info26
                   have hroom67 : t644.length ≤ co68 := (Kd.N_reads' HO_3.out).2.1
                   have hC67 : Kd.F (Kd.slice 36 k36) _ _ Ao68 t644.length t644 := (Kd.V_at (base := w.heap.size) (Kd.N_V HO_3.out)).2.2
                   have ql67 : (x6_2 : Int) ≤ ((wrap64 (x6_2 + 1)) : Int) := of_decide_eq_true (by first | (with_reducible assumption) | assumption)
                   have q067 : (0 : Int) ≤ (x6_2 : Int) := of_decide_eq_true (by first | (with_reducible assumption) | assumption)
                   have hcut67 := cut_mid (P := Try.prog) 22 26 .i64 .i64 Try.underlying22 hi067 1 hsz67 Ao68 t644.length co68 x6_2 (wrap64 (x6_2 + 1)) q067 ql67 q67 hroom67
                   have hr67 := Kd.F_mid (lo := (x6_2 : Int).toNat) (hi := ((wrap64 (x6_2 + 1)) : Int).toNat) (c := co68) hC67 (by omega) (by omega) hroom67
                   obtain ⟨A67, hA67⟩ : ∃ A1, A1 = (if co68 = (x6_2 : Int).toNat then Ao68 else (Ao68 : Option Addr).map (·.add ((x6_2 : Int).toNat * 1))) := ⟨_, rfl⟩
                   obtain ⟨c67, hc67⟩ : ∃ c1, c1 = co68 - (x6_2 : Int).toNat := ⟨_, rfl⟩
                   have hy67 : y691.length = ((wrap64 (x6_2 + 1)) : Int).toNat - (x6_2 : Int).toNat := (by rw [Ny691.out, List.length_drop, List.length_take] <;> omega)
                   rw [show ((t644).take ((wrap64 (x6_2 + 1)) : Int).toNat).drop (x6_2 : Int).toNat = y691 from Ny691.out.symm] at hr67
                   replace hr67 : Kd.F (Kd.slice 36 k36) _ _ A67 y691.length y691 := (by rw [hA67]; exact hr67)
                   rw [← hy67, ← hA67, ← hc67] at hcut67
                   have HO695 := Sd.mk (show Kd.V (Kd.slice 36 k36) 26 _ w.heap.size _ (.slice A67 y691.length c67) y691 from Kd.V_mk (by rw [hy67, hc67]; exact Nat.sub_le_sub_right (Nat.le_trans (by omega) hroom67) _) hr67)
                   have HC695 := Sd.mk (show y691.length ≤ c67 from by rw [hy67, hc67]; exact Nat.sub_le_sub_right (Nat.le_trans (by omega) hroom67) _)
                   clear hr67 hC67 hroom67 hi067 hsz67 hc67
                   have KY67 := Sd.mk hy67
                   have KA67 := Sd.mk hA67
                   clear hy67 hA67
                   replace q67 := eq_true q67
                   refine hK.out _ _ ⟨(blk_cell BK677.out 0).trans rfl, (blk_cell BK677.out 1).trans rfl, hHeld.2.2.1, hHeld.2.2.2.1, ((HB.out.cell (World.block_lt_of_cell? w _ hw680_0)).trans hw680_0), ((HB.out.cell (World.block_lt_of_cell? w _ hw680_1)).trans hw680_1)⟩ (fun hHeld => ?_)
                   clear hK K
                   refine norm_ (a' := ?_) ?_ ?_
                   rotate_left
                   ·show Act.put _ (some 74) _ = _
                    simp only [Act.put, List.setIfInBounds_toArray, List.set_cons_zero, List.set_cons_succ, i64_w, i32_w]
                    rfl
                   refine pure_ (i := 21) (N := some 75) (v := ?_) (a' := ?_) #[true, true, true, true, true, true, true, true, true, true, true, true, true, true, true, true, true, true, true, true, true, true, false, false, false, false, false, false, false, false, false, false, false, false, false] rfl rfl (any_of HT_.out (by kernel_rfl)) (fun _ _ _ h => h) (Or.inl ⟨by rfl, ?_⟩) ?_ ?_
                   rotate_left
                   ·intro w'
                    go_simp
                    with_reducible rfl
                   rotate_left
                   ·simp only [Act.put, List.setIfInBounds_toArray, List.set_cons_zero, List.set_cons_succ, i64_w, i32_w]
                    rfl
                   refine pure_ (i := 22) (N := some 76) (v := ?_) (a' := ?_) #[true, true, true, true, true, true, true, true, true, true, true, true, true, true, true, true, true, true, true, true, true, true, true, false, false, false, false, false, false, false, false, false, false, false, false] rfl rfl (any_of HT_.out (by kernel_rfl)) (fun _ _ _ h => h) (Or.inl ⟨by rfl, ?_⟩) ?_ ?_
                   rotate_left
                   ·intro w'
                    go_simp
                    with_reducible rfl
                   rotate_left
                   ·simp only [Act.put, List.setIfInBounds_toArray, List.set_cons_zero, List.set_cons_succ, i64_w, i32_w]
                    rfl
                   refine pure_ (i := 23) (N := some 77) (v := ?_) (a' := ?_) #[true, true, true, true, true, true, true, true, true, true, true, true, true, true, true, true, true, true, true, true, true, true, true, true, false, false, false, false, false, false, false, false, false, false, false] rfl rfl (any_of HT_.out (by kernel_rfl)) (fun _ _ _ h => h) (Or.inl ⟨by rfl, ?_⟩) ?_ ?_
                   rotate_left
                   ·intro w'
                    go_simp
                    with_reducible rfl
                   rotate_left
                   ·simp only [Act.put, List.setIfInBounds_toArray, List.set_cons_zero, List.set_cons_succ, i64_w, i32_w]
                    rfl
                   refine pure_ (i := 24) (N := some 78) (v := ?_) (a' := ?_) #[true, true, true, true, true, true, true, true, true, true, true, true, true, true, true, true, true, true, true, true, true, true, true, true, true, false, false, false, false, false, false, false, false, false, false] rfl rfl (any_of HT_.out (by kernel_rfl)) (fun _ _ _ h => h) (Or.inl ⟨by rfl, ?_⟩) ?_ ?_
                   rotate_left
                   ·intro w'
                    go_simp
                    with_reducible rfl
                   rotate_left
                   ·simp only [Act.put, List.setIfInBounds_toArray, List.set_cons_zero, List.set_cons_succ, i64_w, i32_w]
                    rfl
                   refine pure_ (i := 26) (N := some 80) (v := ?_) (a' := ?_) #[true, true, true, true, true, true, true, true, true, true, true, true, true, true, true, true, true, true, true, true, true, true, true, true, true, false, true, false, false, false, false, false, false, false, false] rfl rfl (any_of HT_.out (by kernel_rfl)) (fun _ _ _ h => h) (Or.inl ⟨by rfl, ?_⟩) ?_ ?_
                   rotate_left
                   ·intro w'
                    go_simp
                    with_reducible rfl
                   rotate_left
                   ·simp only [Act.put, List.setIfInBounds_toArray, List.set_cons_zero, List.set_cons_succ, i64_w, i32_w]
                    rfl
                   refine pure_ (i := 27) (N := some 81) (v := ?_) (a' := ?_) #[true, true, true, true, true, true, true, true, true, true, true, true, true, true, true, true, true, true, true, true, true, true, true, true, true, false, true, true, false, false, false, false, false, false, false] rfl rfl (any_of HT_.out (by kernel_rfl)) (fun _ _ _ h => h) (Or.inl ⟨by rfl, ?_⟩) ?_ ?_
                   rotate_left
                   ·intro w'
                    go_simp
                    with_reducible rfl
                   rotate_left
                   ·simp only [Act.put, List.setIfInBounds_toArray, List.set_cons_zero, List.set_cons_succ, i64_w, i32_w]
                    rfl
                   refine pure_ (i := 28) (N := some 82) (v := ?_) (a' := ?_) #[true, true, true, true, true, true, true, true, true, true, true, true, true, true, true, true, true, true, true, true, true, true, true, true, true, false, true, true, true, false, false, false, false, false, false] rfl rfl (any_of HT_.out (by kernel_rfl)) (fun _ _ _ h => h) (Or.inl ⟨by rfl, ?_⟩) ?_ ?_
                   rotate_left
                   ·intro w'
                    go_simp
                    with_reducible rfl
                   rotate_left
                   ·simp only [Act.put, List.setIfInBounds_toArray, List.set_cons_zero, List.set_cons_succ, i64_w, i32_w]
                    rfl
                   refine pure_ (i := 29) (N := some 83) (v := ?_) (a' := ?_) #[true, true, true, true, true, true, true, true, true, true, true, true, true, true, true, true, true, true, true, true, true, true, true, true, true, false, true, true, true, true, false, false, false, false, false] rfl rfl (any_of HT_.out (by kernel_rfl)) (fun _ _ _ h => h) (Or.inl ⟨by rfl, ?_⟩) ?_ ?_
                   rotate_left
                   ·intro w'
                    go_simp
                    with_reducible rfl
                   rotate_left
                   ·simp only [Act.put, List.setIfInBounds_toArray, List.set_cons_zero, List.set_cons_succ, i64_w, i32_w]
                    rfl
                   refine pure_ (i := 30) (N := some 84) (v := ?_) (a' := ?_) #[true, true, true, true, true, true, true, true, true, true, true, true, true, true, true, true, true, true, true, true, true, true, true, true, true, false, true, true, true, true, true, false, false, false, false] rfl rfl (any_of HT_.out (by kernel_rfl)) (fun _ _ _ h => h) (Or.inl ⟨by rfl, ?_⟩) ?_ ?_
                   rotate_left
                   ·intro w'
                    go_simp
                    with_reducible rfl
                   rotate_left
                   ·simp only [Act.put, List.setIfInBounds_toArray, List.set_cons_zero, List.set_cons_succ, i64_w, i32_w]
                    rfl
                   refine take_ (i := 25) (N := some 79) (v := ?_) (a' := ?_) #[true, true, true, true, true, true, true, true, true, true, true, true, true, true, true, true, true, true, true, true, true, true, true, true, true, true, true, true, true, true, true, false, false, false, false] rfl rfl (take_ofW HT_.out HW_.out (by kernel_rfl)) (fun _ _ _ h => h) (Or.inl ⟨by rfl, ?_⟩) hHeld ?_ ?_
                   rotate_left
                   ·rintro w' ⟨s0, s1, s2, s3, s4, s5⟩
                    go_simp
                    with_reducible rfl
                   rotate_left
                   ·simp only [Act.put, List.setIfInBounds_toArray, List.set_cons_zero, List.set_cons_succ, i64_w, i32_w]
                    rfl
                   refine one_ (i := 31) (N := some 85) #[true, true, true, true, true, true, true, true, true, true, true, true, true, true, true, true, true, true, true, true, true, true, true, true, true, true, true, true, true, true, true, true, false, false, false] rfl rfl (one_of HT_.out (by kernel_rfl)) (by decide) (fun K hK => ?_)
                   refine goes_ Try.func15 (by kernel_rfl) rfl #[.slice A67 y691.length c67] (by rfl) rfl rfl (by (try simp only [List.map_toArray, List.map_cons, List.map_nil]); first | done | rfl | (simp only [List.length_drop, List.length_take]; rfl)) ?_
                   with_reducible refine (rf_Union.calls k2 _ _ y691 t696 _ ?side1 ?side2 A38.out).mono ?_
                   (case side1 => repeat (first | exact (Kd.V_reads' HO695.out).2.2 | (with_reducible refine Kd.C_alloc ?_ _) | (with_reducible refine Kd.C_drewN ?_ _) | (with_reducible refine Kd.C_drew ?_)))
                   (case side2 => exact (Kd.V_reads' HO695.out).2.1)
                   rintro e w69 ⟨v697, rfl, ho0, hb⟩
                   have HS2_ := (hb.cell (World.block_lt_of_cell? _ _ (hHeld.2.2.1))).trans (hHeld.2.2.1)
                   have HS3_ := (hb.cell (World.block_lt_of_cell? _ _ (hHeld.2.2.2.1))).trans (hHeld.2.2.2.1)
                   refine ⟨_, rfl, ?_⟩
                   have n0_ := Sd.mk (Kd.N_elder' (by (with_reducible repeat (first | apply Kd.N_alloc | apply Kd.N_drewN | apply Kd.N_drew)); exact HO_3.out) (Kd.R_base ho0) hb)
                   have n1_ := Sd.mk (Kd.N_elder' (by (with_reducible repeat (first | apply Kd.N_alloc | apply Kd.N_drewN | apply Kd.N_drew)); exact HO_4.out) (Kd.R_base ho0) hb)
                   have n2_ := Sd.mk (Kd.N_elder' (by (with_reducible repeat (first | apply Kd.N_alloc | apply Kd.N_drewN | apply Kd.N_drew)); exact HO669.out) (Kd.R_base ho0) hb)
                   have n3_ := Sd.mk (Kd.R_elder' (by (with_reducible repeat (first | apply Kd.R_alloc | apply Kd.R_drewN | apply Kd.R_drew)); exact HO673.out) (Kd.R_base ho0) hb)
                   have n4_ := Sd.mk (Kd.R_elder' (by (with_reducible repeat (first | apply Kd.R_alloc | apply Kd.R_drewN | apply Kd.R_drew)); exact HO676.out) (Kd.R_base ho0) hb)
                   have n5_ := Sd.mk (Kd.V_elder' (by (with_reducible repeat (first | apply Kd.V_alloc | apply Kd.V_drewN | apply Kd.V_drew)); exact HO695.out) (Kd.R_base ho0) hb)
                   have n6_ := Sd.mk (Kd.R_lower (Kd.R_new' (Kd.R_new' ho0 (Kd.R_lt (by (with_reducible repeat (first | apply Kd.R_alloc | apply Kd.R_drewN | apply Kd.R_drew)); exact HO673.out))) (Kd.R_lt (by (with_reducible repeat (first | apply Kd.R_alloc | apply Kd.R_drewN | apply Kd.R_drew)); exact HO676.out))) (below_size (by repeat (first | (with_reducible first | exact HB.out | apply bwA | apply pwN | apply bwD | refine below_set ?_ GE677.out) | exact HB.out))))
                   have n7_ := Sd.mk (blk_below (g := gb677) (o := .cells #[.slice Ao56 t671.length co56, .slice Ao58 t674.length co58] 47 (0, 0)) (by (with_reducible repeat (first | refine blk_drewN ?_ _ | refine blk_drew ?_ | refine blk_alloc ?_ _)); exact BK677.out) hb)
                   have n8_ := Sd.mk (Kd.C_below (by repeat (first | (with_reducible exact HR678_0.out) | (with_reducible refine Kd.C_alloc ?_ _) | (with_reducible refine Kd.C_drewN ?_ _) | (with_reducible refine Kd.C_drew ?_) | exact HR678_0.out)) hb)
                   have n9_ := Sd.mk (Kd.C_below (by repeat (first | (with_reducible exact HR678_1.out) | (with_reducible refine Kd.C_alloc ?_ _) | (with_reducible refine Kd.C_drewN ?_ _) | (with_reducible refine Kd.C_drew ?_) | exact HR678_1.out)) hb)
                   have n10_ := Sd.mk (below_step (by repeat (first | (with_reducible first | exact HB.out | apply bwA | apply pwN | apply bwD | refine below_set ?_ GE677.out) | exact HB.out)) hb)
                   clear HO_3
                   clear HO_4
                   clear HO669
                   clear HO673
                   clear HO676
                   clear HO695
                   clear BK677
                   clear HR678_0
                   clear HR678_1
                   clear HB
                   have HO_3 := n0_
                   have HO_4 := n1_
                   have HO669 := n2_
                   have HO673 := n3_
                   have HO676 := n4_
                   have HO695 := n5_
                   have HO698 := n6_
                   have BK677 := n7_
                   have HR678_0 := n8_
                   have HR678_1 := n9_
                   have HB := n10_
                   clear n0_ n1_ n2_ n3_ n4_ n5_ n6_ n7_ n8_ n9_ n10_
                   (try clear hb)
                   (try clear hb2)
                   (try clear hk)
                   (try clear hi)
                   (try clear ho0)
                   obtain ⟨Ao70, co70, eo70⟩ := Kd.R_slice HO698.out
                   (first | subst eo70 | (injection eo70 with f1_ f2_ f3_; have f4_ := f1_.symm; have f5_ := f3_.symm; clear f1_ f2_ f3_; subst f4_; subst f5_))
                   refine hK.out _ _ ⟨(blk_cell BK677.out 0).trans rfl, (blk_cell BK677.out 1).trans rfl, HS2_, HS3_, ((HB.out.cell (World.block_lt_of_cell? w _ hw680_0)).trans hw680_0), ((HB.out.cell (World.block_lt_of_cell? w _ hw680_1)).trans hw680_1)⟩ (fun hHeld => ?_)
                   clear hK K
                   refine norm_ (a' := ?_) ?_ ?_
                   rotate_left
                   ·show Act.put _ (some 85) _ = _
                    simp only [Act.put, List.setIfInBounds_toArray, List.set_cons_zero, List.set_cons_succ, i64_w, i32_w]
                    rfl
                   refine one_ (i := 32) (N := some 86) #[true, true, true, true, true, true, true, true, true, true, true, true, true, true, true, true, true, true, true, true, true, true, true, true, true, true, true, true, true, true, true, true, true, false, false] rfl rfl (one_of HT_.out (by kernel_rfl)) (by decide) (fun K hK => ?_)
                   refine goes_ Try.func14 (by kernel_rfl) rfl #[.slice Ao58 t674.length co58, .slice Ao70 t696.length co70] (by rfl) rfl rfl (by (try simp only [List.map_toArray, List.map_cons, List.map_nil]); first | done | rfl | (simp only [List.length_drop, List.length_take]; rfl)) ?_
                   with_reducible refine (rf_Same.calls k2 _ _ t674 _ _ t696 true _ ?side1 ?side2 ?side3 ?side4 A39.out).mono ?_
                   (case side1 => repeat (first | exact (Kd.R_reads' HO676.out).2.2 | (with_reducible refine Kd.C_alloc ?_ _) | (with_reducible refine Kd.C_drewN ?_ _) | (with_reducible refine Kd.C_drew ?_)))
                   (case side2 => exact (Kd.R_reads' HO676.out).2.1)
                   (case side3 => repeat (first | exact (Kd.R_reads' HO698.out).2.2 | (with_reducible refine Kd.C_alloc ?_ _) | (with_reducible refine Kd.C_drewN ?_ _) | (with_reducible refine Kd.C_drew ?_)))
                   (case side4 => exact (Kd.R_reads' HO698.out).2.1)
                   rintro e w' ⟨rfl, ⟨nd, rfl⟩⟩
                   refine ⟨_, rfl, ?_⟩
                   refine hK.out _ _ ⟨(blk_cell BK677.out 0).trans rfl, (blk_cell BK677.out 1).trans rfl, hHeld.2.2.1, hHeld.2.2.2.1, ((HB.out.cell (World.block_lt_of_cell? w _ hw680_0)).trans hw680_0), ((HB.out.cell (World.block_lt_of_cell? w _ hw680_1)).trans hw680_1)⟩ (fun hHeld => ?_)
                   clear hK K
                   refine norm_ (a' := ?_) ?_ ?_
                   rotate_left
                   ·show Act.put _ (some 86) _ = _
                    simp only [Act.put, List.setIfInBounds_toArray, List.set_cons_zero, List.set_cons_succ, i64_w, i32_w]
                    rfl
                   refine pure_ (i := 33) (N := some 87) (v := ?_) (a' := ?_) #[true, true, true, true, true, true, true, true, true, true, true, true, true, true, true, true, true, true, true, true, true, true, true, true, true, true, true, true, true, true, true, true, true, true, false] rfl rfl (any_of HT_.out (by kernel_rfl)) (fun _ _ _ h => h) (Or.inl ⟨by rfl, ?_⟩) ?_ ?_
                   rotate_left
                   ·intro w'
                    go_simp
                    with_reducible rfl
                   rotate_left
                   ·simp only [Act.put, List.setIfInBounds_toArray, List.set_cons_zero, List.set_cons_succ, i64_w, i32_w]
                    rfl
                   refine pure_ (i := 34) (N := some 88) (v := ?_) (a' := ?_) #[true, true, true, true, true, true, true, true, true, true, true, true, true, true, true, true, true, true, true, true, true, true, true, true, true, true, true, true, true, true, true, true, true, true, true] rfl rfl (any_of HT_.out (by kernel_rfl)) (fun _ _ _ h => h) (Or.inl ⟨by rfl, ?_⟩) ?_ ?_
                   rotate_left
                   ·intro w'
                    go_simp
                    with_reducible rfl
                   rotate_left
                   ·simp only [Act.put, List.setIfInBounds_toArray, List.set_cons_zero, List.set_cons_succ, i64_w, i32_w]
                    rfl
                   refine done_ (done_of HT_.out (by kernel_rfl)) ?_
                   have hcz71_0 : w69.cell? ⟨gb677, 0, none⟩ = some (.slice Ao56 t671.length co56) := (blk_cell BK677.out 0).trans rfl
                   have hcz71_1 : w69.cell? ⟨gb677, 1, none⟩ = some (.slice Ao58 t674.length co58) := (blk_cell BK677.out 1).trans rfl
                   have hfz71_0 := blk_frozen BK677.out 0
                   have hfz71_1 := blk_frozen BK677.out 1
                   try go_wp2_with (first | ((with_reducible refine gate_builtin (b := .clear) (xs := #[.tmp 90]) rfl ?_); skip; refine R_clear_step k36 (w0 := w) w.heap.size rfl (.tmp 90) 26 36 (.agg #[(.int .u32 0), (.int .u32 0)]) rfl rfl Try.underlying26 Try.zeroValue36 rfl (by decide) (by decide) z36 (fun _ _ => (k36_mkM _ _ _ z36 )) (.slice Ao56 t671.length co56) t671 (fun k_ => some k_ ≠ (.slice Ao58 t674.length co58 : Value).ownBlock) rfl ?aO ?aB ?aS ?_; (case aB => exact (by repeat (first | (with_reducible first | exact HB.out | apply bwA | apply pwN | apply bwD | refine below_set ?_ GE677.out) | exact HB.out))); (case aO => exact (by (with_reducible repeat (first | apply Kd.R_alloc | apply Kd.R_drewN | apply Kd.R_drew)); exact Kd.R_mono HO673.out (fun _ hk => hk.1.1))); (case aS => exact (below_size (by repeat (first | (with_reducible first | exact HB.out | apply bwA | apply pwN | apply bwD | refine below_set ?_ GE677.out) | exact HB.out)))); intro v701 w72 ho hb hg hat; rw [← Ny700.out] at ho; have n0_ := Sd.mk (Kd.N_afterv (ok := (fun k_ => some k_ ≠ (.slice Ao64 t647.length co64 : Value).ownBlock ∧ some k_ ≠ (.slice (some ad670) y667.length co53 : Value).ownBlock ∧ some k_ ≠ (.slice Ao58 t674.length co58 : Value).ownBlock ∧ k_ ≠ gb677)) (by (with_reducible repeat (first | apply Kd.N_alloc | apply Kd.N_drewN | apply Kd.N_drew)); exact Kd.N_mono HO_3.out (fun _ hk => ⟨⟨hk.1.1.1, ⟨hk.1.1.2.1, ⟨hk.1.1.2.2.2.1, hk.1.1.2.2.2.2⟩⟩⟩, hk.1.1.2.2.1⟩)) hg hat); have n1_ := Sd.mk (Kd.N_afterv (ok := (fun k_ => some k_ ≠ (.slice Ao68 t644.length co68 : Value).ownBlock ∧ some k_ ≠ (.slice (some ad670) y667.length co53 : Value).ownBlock ∧ some k_ ≠ (.slice Ao58 t674.length co58 : Value).ownBlock ∧ k_ ≠ gb677)) (by (with_reducible repeat (first | apply Kd.N_alloc | apply Kd.N_drewN | apply Kd.N_drew)); exact Kd.N_mono HO_4.out (fun _ hk => ⟨⟨hk.1.1.1, ⟨hk.1.1.2.1, ⟨hk.1.1.2.2.2.1, hk.1.1.2.2.2.2⟩⟩⟩, hk.1.1.2.2.1⟩)) hg hat); have n2_ := Sd.mk (Kd.N_afterv (ok := (fun k_ => some k_ ≠ (.slice Ao68 t644.length co68 : Value).ownBlock ∧ some k_ ≠ (.slice Ao64 t647.length co64 : Value).ownBlock ∧ some k_ ≠ (.slice Ao58 t674.length co58 : Value).ownBlock ∧ k_ ≠ gb677)) (by (with_reducible repeat (first | apply Kd.N_alloc | apply Kd.N_drewN | apply Kd.N_drew)); exact Kd.N_mono HO669.out (fun _ hk => ⟨⟨hk.1.1.1, ⟨hk.1.1.2.1, ⟨hk.1.1.2.2.2.1, hk.1.1.2.2.2.2⟩⟩⟩, hk.1.1.2.2.1⟩)) hg hat); have n3_ := Sd.mk (Kd.R_after (ok := (fun _ => True)) (by (with_reducible repeat (first | apply Kd.R_alloc | apply Kd.R_drewN | apply Kd.R_drew)); exact Kd.R_mono HO676.out (fun _ hk => ⟨trivial, hk.1.1⟩)) hg hat); have n4_ := Sd.mk (blk_grown (g := gb677) (o := .cells #[.slice Ao56 t671.length co56, .slice Ao58 t674.length co58] 47 (0, 0)) (by (with_reducible repeat (first | refine blk_drewN ?_ _ | refine blk_drew ?_ | refine blk_alloc ?_ _)); exact BK677.out) hg (Kd.R_ne HO673.out BK677.out (by decide))); have n5_ := Sd.mk (hb); have n6_ := Sd.mk (ho); clear HO_3; clear HO_4; clear HO669; clear HO676; clear BK677; clear HB; clear HO673; have HO_3 := n0_; have HO_4 := n1_; have HO669 := n2_; have HO676 := n3_; have BK677 := n4_; have HB := n5_; have HO702 := n6_; clear n0_ n1_ n2_ n3_ n4_ n5_ n6_; clear ho hb hg hat; have hcz73_0 : w72.cell? ⟨gb677, 0, none⟩ = some (.slice Ao56 t671.length co56) := (blk_cell BK677.out 0).trans rfl; have hcz73_1 : w72.cell? ⟨gb677, 1, none⟩ = some (.slice Ao58 t674.length co58) := (blk_cell BK677.out 1).trans rfl; have hfz73_0 := blk_frozen BK677.out 0; have hfz73_1 := blk_frozen BK677.out 1) | ((with_reducible refine gate_builtin (b := .clear) (xs := #[.tmp 92]) rfl ?_); skip; refine R_clear_step k36 (w0 := w) w.heap.size rfl (.tmp 92) 26 36 (.agg #[(.int .u32 0), (.int .u32 0)]) rfl rfl Try.underlying26 Try.zeroValue36 rfl (by decide) (by decide) z36 (fun _ _ => (k36_mkM _ _ _ z36 )) (.slice Ao58 t674.length co58) t674 (fun _ => True) rfl ?aO ?aB ?aS ?_; (case aB => exact (by repeat (first | (with_reducible first | exact HB.out | apply bwA | apply pwN | apply bwD | refine below_set ?_ GE677.out) | exact HB.out))); (case aO => exact (by (with_reducible repeat (first | apply Kd.R_alloc | apply Kd.R_drewN | apply Kd.R_drew)); exact Kd.R_mono HO676.out (fun _ hk => trivial))); (case aS => exact (below_size (by repeat (first | (with_reducible first | exact HB.out | apply bwA | apply pwN | apply bwD | refine below_set ?_ GE677.out) | exact HB.out)))); intro v704 w74 ho hb hg hat; rw [← Ny703.out] at ho; have n0_ := Sd.mk (Kd.N_afterv (ok := (fun k_ => some k_ ≠ (.slice Ao64 t647.length co64 : Value).ownBlock ∧ some k_ ≠ (.slice (some ad670) y667.length co53 : Value).ownBlock ∧ k_ ≠ gb677)) (by (with_reducible repeat (first | apply Kd.N_alloc | apply Kd.N_drewN | apply Kd.N_drew)); exact Kd.N_mono HO_3.out (fun _ hk => ⟨⟨hk.1.1, ⟨hk.1.2.1, hk.1.2.2.2⟩⟩, hk.1.2.2.1⟩)) hg hat); have n1_ := Sd.mk (Kd.N_afterv (ok := (fun k_ => some k_ ≠ (.slice Ao68 t644.length co68 : Value).ownBlock ∧ some k_ ≠ (.slice (some ad670) y667.length co53 : Value).ownBlock ∧ k_ ≠ gb677)) (by (with_reducible repeat (first | apply Kd.N_alloc | apply Kd.N_drewN | apply Kd.N_drew)); exact Kd.N_mono HO_4.out (fun _ hk => ⟨⟨hk.1.1, ⟨hk.1.2.1, hk.1.2.2.2⟩⟩, hk.1.2.2.1⟩)) hg hat); have n2_ := Sd.mk (Kd.N_afterv (ok := (fun k_ => some k_ ≠ (.slice Ao68 t644.length co68 : Value).ownBlock ∧ some k_ ≠ (.slice Ao64 t647.length co64 : Value).ownBlock ∧ k_ ≠ gb677)) (by (with_reducible repeat (first | apply Kd.N_alloc | apply Kd.N_drewN | apply Kd.N_drew)); exact Kd.N_mono HO669.out (fun _ hk => ⟨⟨hk.1.1, ⟨hk.1.2.1, hk.1.2.2.2⟩⟩, hk.1.2.2.1⟩)) hg hat); have n3_ := Sd.mk (blk_grown (g := gb677) (o := .cells #[.slice Ao56 t671.length co56, .slice Ao58 t674.length co58] 47 (0, 0)) (by (with_reducible repeat (first | refine blk_drewN ?_ _ | refine blk_drew ?_ | refine blk_alloc ?_ _)); exact BK677.out) hg (Kd.R_ne HO676.out BK677.out (by decide))); have n4_ := Sd.mk (hb); have n5_ := Sd.mk (ho); clear HO_3; clear HO_4; clear HO669; clear BK677; clear HB; clear HO676; have HO_3 := n0_; have HO_4 := n1_; have HO669 := n2_; have BK677 := n3_; have HB := n4_; have HO705 := n5_; clear n0_ n1_ n2_ n3_ n4_ n5_; clear ho hb hg hat))
                   go_roundg k2
                   case measure => have := HJ6.out; have := HK2.out; omega
                   case rel => exact ⟨(y667), (wrap64 (x6_2 + 1)), (by first | rfl | (simp; done) | (simp [*]; done)), H', ⟨by have := HJ6.out; have := HK2.out; omega⟩, ⟨by (with_reducible repeat (first | apply Kd.N_alloc | apply Kd.N_drewN | apply Kd.N_drew)); exact Kd.N_mono HO_3.out (fun _ hk => ⟨hk.1.1, hk.1.2.1⟩)⟩, ⟨by (with_reducible repeat (first | apply Kd.N_alloc | apply Kd.N_drewN | apply Kd.N_drew)); exact Kd.N_mono HO_4.out (fun _ hk => ⟨hk.1.1, hk.1.2.1⟩)⟩, ⟨by (with_reducible repeat (first | apply Kd.N_alloc | apply Kd.N_drewN | apply Kd.N_drew)); exact Kd.N_mono HO669.out (fun _ hk => ⟨hk.1.1, hk.1.2.1⟩)⟩, ⟨by repeat (first | (with_reducible first | exact HB.out | apply bwA | apply pwN | apply bwD | refine below_set ?_ GE677.out) | exact HB.out)⟩⟩
                  ·replace c40 := Bool.eq_false_iff.mpr c40
                   subst c40
                   have H1 : (some false) = some r := by rw [if_neg (show ¬ (false = true) by decide)] at H; exact H
                   clear H
                   have H := H1
                   clear H1
                   exact absurd ((Option.some.inj H).trans HT.out) (by decide)
                 ·rw [if_neg c37] at H
                  exact absurd H (by simp)
                ·replace c34 := Bool.eq_false_iff.mpr c34
                 subst c34
                 have H1 : (some false) = some r := by rw [if_neg (show ¬ (false = true) by decide)] at H; exact H
                 clear H
                 have H := H1
                 clear H1
                 exact absurd ((Option.some.inj H).trans HT.out) (by decide)
               ·rw [if_neg c31] at H
                exact absurd H (by simp)
              ·rw [if_neg c30] at H
               exact absurd H (by simp)
            ·rw [if_neg c24] at H
             exact absurd H (by simp)
           ·rw [if_neg c23] at H
            exact absurd H (by simp)
          ·rw [if_neg c22] at H
           exact absurd H (by simp)
         ·rw [if_neg c21] at H
          exact absurd H (by simp)
        ·rw [if_neg c20] at H
         exact absurd H (by simp)
       ·rw [if_neg c19] at H
        have c19b0 : decide (x6_2 < (l0.length : Int)) = false := decide_eq_false c19
        clear c19
        replace H := Option.bind_eq_some_iff.mp H
        obtain ⟨⟨t706, t709⟩, A750, H⟩ := H
        replace H : ((axis_Or.f k2 x5_2).bind fun bt712 => ((incipitref19_Meet.f k2 t644).bind fun t720 => ((rf_Same.f k2 t706 t720).bind fun t723 => (if t723 = true then ((rf_Union.f k2 t647).bind fun t724 => ((rf_Same.f k2 t709 t724).bind fun t727 => (if t727 = true then ((rf_Union.f k2 t644).bind fun t728 => ((rf_Same.f k2 bt712.1 t728).bind fun t731 => (if t731 = true then ((incipitref19_Meet.f k2 t647).bind fun t732 => ((rf_Same.f k2 bt712.2 t732).bind fun t735 => (incipitlaw19_AxisKnown.j2 k2 t644 t647 x5_2 (!t735)))) else (incipitlaw19_AxisKnown.j2 k2 t644 t647 x5_2 true)))) else (incipitlaw19_AxisKnown.j2 k2 t644 t647 x5_2 true)))) else (incipitlaw19_AxisKnown.j2 k2 t644 t647 x5_2 true))))) = some r := H
        have A75 := Sd.mk A750
        clear A750
        replace H := Option.bind_eq_some_iff.mp H
        obtain ⟨⟨t712, t715⟩, A760, H⟩ := H
        replace H : ((incipitref19_Meet.f k2 t644).bind fun t720 => ((rf_Same.f k2 t706 t720).bind fun t723 => (if t723 = true then ((rf_Union.f k2 t647).bind fun t724 => ((rf_Same.f k2 t709 t724).bind fun t727 => (if t727 = true then ((rf_Union.f k2 t644).bind fun t728 => ((rf_Same.f k2 t712 t728).bind fun t731 => (if t731 = true then ((incipitref19_Meet.f k2 t647).bind fun t732 => ((rf_Same.f k2 t715 t732).bind fun t735 => (incipitlaw19_AxisKnown.j2 k2 t644 t647 x5_2 (!t735)))) else (incipitlaw19_AxisKnown.j2 k2 t644 t647 x5_2 true)))) else (incipitlaw19_AxisKnown.j2 k2 t644 t647 x5_2 true)))) else (incipitlaw19_AxisKnown.j2 k2 t644 t647 x5_2 true)))) = some r := H
        have A76 := Sd.mk A760
        clear A760
        have HC77 := Sd.mk H
        clear H
        obtain ⟨Ao78, co78, eo78⟩ := Kd.N_slice HO_5.out
        subst eo78
        go_upto_region 17 with (first | ((with_reducible refine gate_callee (f := 33) rfl ?_); refine goesL_ (some 94) rfl rfl Try.func33 (by kernel_rfl) rfl #[.slice Ao78 x5_2.length co78] rfl (by (try simp only [List.map_toArray, List.map_cons, List.map_nil]); first | done | rfl | (simp only [List.length_drop, List.length_take]; rfl)) ?_; (with_reducible refine (axis_And.calls k2 _ _ x5_2 t706 t709 _ ?side1 ?side2 A75.out).mono ?_); (case side1 => repeat (first | exact (Kd.N_reads' HO_5.out).2.2 | (with_reducible refine Kd.C_alloc ?_ _) | (with_reducible refine Kd.C_drewN ?_ _) | (with_reducible refine Kd.C_drew ?_))); (case side2 => exact (Kd.N_reads' HO_5.out).2.1); rintro e w79 ⟨v707, v710, rfl, ho0, ho1, hb⟩; refine ⟨_, rfl, ?_⟩; have n0_ := Sd.mk (Kd.N_mono (Kd.N_told (Kd.N_told (Kd.N_old (by (with_reducible repeat (first | apply Kd.N_alloc | apply Kd.N_drewN | apply Kd.N_drew)); exact HO_3.out) hb) (Kd.R_base ho0)) (Kd.R_base ho1)) (fun _ h_ => h_.1)); have n1_ := Sd.mk (Kd.N_mono (Kd.N_told (Kd.N_told (Kd.N_old (by (with_reducible repeat (first | apply Kd.N_alloc | apply Kd.N_drewN | apply Kd.N_drew)); exact HO_4.out) hb) (Kd.R_base ho0)) (Kd.R_base ho1)) (fun _ h_ => h_.1)); have n2_ := Sd.mk (Kd.N_mono (Kd.N_told (Kd.N_told (Kd.N_old (by (with_reducible repeat (first | apply Kd.N_alloc | apply Kd.N_drewN | apply Kd.N_drew)); exact HO_5.out) hb) (Kd.R_base ho0)) (Kd.R_base ho1)) (fun _ h_ => h_.1)); have n3_ := Sd.mk (Kd.R_lower ho0 (below_size (by repeat (first | (with_reducible first | exact HB.out | apply bwA | apply pwN | apply bwD) | exact HB.out)))); have n4_ := Sd.mk (Kd.R_lower ho1 (below_size (by repeat (first | (with_reducible first | exact HB.out | apply bwA | apply pwN | apply bwD) | exact HB.out)))); have n5_ := Sd.mk (below_step (by repeat (first | (with_reducible first | exact HB.out | apply bwA | apply pwN | apply bwD) | exact HB.out)) hb); clear HO_3; clear HO_4; clear HO_5; clear HB; have HO_3 := n0_; have HO_4 := n1_; have HO_5 := n2_; have HO708 := n3_; have HO711 := n4_; have HB := n5_; clear n0_ n1_ n2_ n3_ n4_ n5_; (try clear hb); (try clear hb2); (try clear hk); (try clear hi); (try clear ho0); (try clear ho1)) | ((with_reducible refine gate_callee (f := 34) rfl ?_); refine goesL_ (some 96) rfl rfl Try.func34 (by kernel_rfl) rfl #[.slice Ao78 x5_2.length co78] rfl (by (try simp only [List.map_toArray, List.map_cons, List.map_nil]); first | done | rfl | (simp only [List.length_drop, List.length_take]; rfl)) ?_; (with_reducible refine (axis_Or.calls k2 _ _ x5_2 t712 t715 _ ?side1 ?side2 A76.out).mono ?_); (case side1 => repeat (first | exact (Kd.N_reads' HO_5.out).2.2 | (with_reducible refine Kd.C_alloc ?_ _) | (with_reducible refine Kd.C_drewN ?_ _) | (with_reducible refine Kd.C_drew ?_))); (case side2 => exact (Kd.N_reads' HO_5.out).2.1); rintro e w80 ⟨v713, v716, rfl, ho0, ho1, hb⟩; refine ⟨_, rfl, ?_⟩; have n0_ := Sd.mk (Kd.N_mono (Kd.N_told (Kd.N_told (Kd.N_old (by (with_reducible repeat (first | apply Kd.N_alloc | apply Kd.N_drewN | apply Kd.N_drew)); exact HO_3.out) hb) (Kd.R_base ho0)) (Kd.R_base ho1)) (fun _ h_ => h_.1)); have n1_ := Sd.mk (Kd.N_mono (Kd.N_told (Kd.N_told (Kd.N_old (by (with_reducible repeat (first | apply Kd.N_alloc | apply Kd.N_drewN | apply Kd.N_drew)); exact HO_4.out) hb) (Kd.R_base ho0)) (Kd.R_base ho1)) (fun _ h_ => h_.1)); have n2_ := Sd.mk (Kd.N_mono (Kd.N_told (Kd.N_told (Kd.N_old (by (with_reducible repeat (first | apply Kd.N_alloc | apply Kd.N_drewN | apply Kd.N_drew)); exact HO_5.out) hb) (Kd.R_base ho0)) (Kd.R_base ho1)) (fun _ h_ => h_.1)); have n3_ := Sd.mk (Kd.R_mono (Kd.R_told (Kd.R_told (Kd.R_old (by (with_reducible repeat (first | apply Kd.R_alloc | apply Kd.R_drewN | apply Kd.R_drew)); exact HO708.out) hb) (Kd.R_base ho0)) (Kd.R_base ho1)) (fun _ h_ => h_.1)); have n4_ := Sd.mk (Kd.R_mono (Kd.R_told (Kd.R_told (Kd.R_old (by (with_reducible repeat (first | apply Kd.R_alloc | apply Kd.R_drewN | apply Kd.R_drew)); exact HO711.out) hb) (Kd.R_base ho0)) (Kd.R_base ho1)) (fun _ h_ => h_.1)); have n5_ := Sd.mk (Kd.R_lower (Kd.R_new' (Kd.R_new' ho0 (Kd.R_lt (by (with_reducible repeat (first | apply Kd.R_alloc | apply Kd.R_drewN | apply Kd.R_drew)); exact HO708.out))) (Kd.R_lt (by (with_reducible repeat (first | apply Kd.R_alloc | apply Kd.R_drewN | apply Kd.R_drew)); exact HO711.out))) (below_size (by repeat (first | (with_reducible first | exact HB.out | apply bwA | apply pwN | apply bwD) | exact HB.out)))); have n6_ := Sd.mk (Kd.R_lower (Kd.R_new' (Kd.R_new' ho1 (Kd.R_lt (by (with_reducible repeat (first | apply Kd.R_alloc | apply Kd.R_drewN | apply Kd.R_drew)); exact HO708.out))) (Kd.R_lt (by (with_reducible repeat (first | apply Kd.R_alloc | apply Kd.R_drewN | apply Kd.R_drew)); exact HO711.out))) (below_size (by repeat (first | (with_reducible first | exact HB.out | apply bwA | apply pwN | apply bwD) | exact HB.out)))); have n7_ := Sd.mk (below_step (by repeat (first | (with_reducible first | exact HB.out | apply bwA | apply pwN | apply bwD) | exact HB.out)) hb); clear HO_3; clear HO_4; clear HO_5; clear HO708; clear HO711; clear HB; have HO_3 := n0_; have HO_4 := n1_; have HO_5 := n2_; have HO708 := n3_; have HO711 := n4_; have HO714 := n5_; have HO717 := n6_; have HB := n7_; clear n0_ n1_ n2_ n3_ n4_ n5_ n6_ n7_; (try clear hb); (try clear hb2); (try clear hk); (try clear hi); (try clear ho0); (try clear ho1)) | ((with_reducible refine gate_dst (N := 8) rfl ?_); refine box_event ?hg (N := 8) ?hd (cs := #[.slice none 0 0, .slice none 0 0]) (t := 47) ?hr ?_; (case hd => rfl); (case hg => rfl); (case hr => first | (go_simp; done) | (go_simp; rfl)); intro gb718 hg w81 hbox hb; have n0_ := Sd.mk (Kd.N_below (Kd.N_elderB (by (with_reducible repeat (first | apply Kd.N_alloc | apply Kd.N_drewN | apply Kd.N_drew)); exact HO_3.out) gb718 (Nat.le_of_eq hg.symm)) hb); have n1_ := Sd.mk (Kd.N_below (Kd.N_elderB (by (with_reducible repeat (first | apply Kd.N_alloc | apply Kd.N_drewN | apply Kd.N_drew)); exact HO_4.out) gb718 (Nat.le_of_eq hg.symm)) hb); have n2_ := Sd.mk (Kd.N_below (Kd.N_elderB (by (with_reducible repeat (first | apply Kd.N_alloc | apply Kd.N_drewN | apply Kd.N_drew)); exact HO_5.out) gb718 (Nat.le_of_eq hg.symm)) hb); have n3_ := Sd.mk (Kd.R_below (by (with_reducible repeat (first | apply Kd.R_alloc | apply Kd.R_drewN | apply Kd.R_drew)); exact HO708.out) hb); have n4_ := Sd.mk (Kd.R_below (by (with_reducible repeat (first | apply Kd.R_alloc | apply Kd.R_drewN | apply Kd.R_drew)); exact HO711.out) hb); have n5_ := Sd.mk (Kd.R_below (by (with_reducible repeat (first | apply Kd.R_alloc | apply Kd.R_drewN | apply Kd.R_drew)); exact HO714.out) hb); have n6_ := Sd.mk (Kd.R_below (by (with_reducible repeat (first | apply Kd.R_alloc | apply Kd.R_drewN | apply Kd.R_drew)); exact HO717.out) hb); have n7_ := Sd.mk (below_step (by repeat (first | (with_reducible first | exact HB.out | apply bwA | apply pwN | apply bwD) | exact HB.out)) hb); have n8_ := Sd.mk (hbox); have n9_ := Sd.mk ((by rw [hg]; exact (below_size (by repeat (first | (with_reducible first | exact HB.out | apply bwA | apply pwN | apply bwD) | exact HB.out))) : w.heap.size ≤ gb718)); have n10_ := Sd.mk ((by rw [hg]; exact (below_size (by repeat (first | (with_reducible first | exact HB.out | apply bwA | apply pwN | apply bwD) | exact HB.out))) : w.heap.size ≤ gb718)); clear HO_3; clear HO_4; clear HO_5; clear HO708; clear HO711; clear HO714; clear HO717; clear HB; have HO_3 := n0_; have HO_4 := n1_; have HO_5 := n2_; have HO708 := n3_; have HO711 := n4_; have HO714 := n5_; have HO717 := n6_; have HB := n7_; have BK718 := n8_; have GW718 := n9_; have GE718 := n10_; clear n0_ n1_ n2_ n3_ n4_ n5_ n6_ n7_ n8_ n9_ n10_; clear hb hbox hg) | ((with_reducible refine gate_dst (N := 9) rfl ?_); refine box_event ?hg (N := 9) ?hd (cs := #[.slice none 0 0, .slice none 0 0]) (t := 47) ?hr ?_; (case hd => rfl); (case hg => rfl); (case hr => first | (go_simp; done) | (go_simp; rfl)); intro gb719 hg w82 hbox hb; have n0_ := Sd.mk (Kd.N_below (Kd.N_elderB (by (with_reducible repeat (first | apply Kd.N_alloc | apply Kd.N_drewN | apply Kd.N_drew)); exact HO_3.out) gb719 (Nat.le_of_eq hg.symm)) hb); have n1_ := Sd.mk (Kd.N_below (Kd.N_elderB (by (with_reducible repeat (first | apply Kd.N_alloc | apply Kd.N_drewN | apply Kd.N_drew)); exact HO_4.out) gb719 (Nat.le_of_eq hg.symm)) hb); have n2_ := Sd.mk (Kd.N_below (Kd.N_elderB (by (with_reducible repeat (first | apply Kd.N_alloc | apply Kd.N_drewN | apply Kd.N_drew)); exact HO_5.out) gb719 (Nat.le_of_eq hg.symm)) hb); have n3_ := Sd.mk (Kd.R_below (by (with_reducible repeat (first | apply Kd.R_alloc | apply Kd.R_drewN | apply Kd.R_drew)); exact HO708.out) hb); have n4_ := Sd.mk (Kd.R_below (by (with_reducible repeat (first | apply Kd.R_alloc | apply Kd.R_drewN | apply Kd.R_drew)); exact HO711.out) hb); have n5_ := Sd.mk (Kd.R_below (by (with_reducible repeat (first | apply Kd.R_alloc | apply Kd.R_drewN | apply Kd.R_drew)); exact HO714.out) hb); have n6_ := Sd.mk (Kd.R_below (by (with_reducible repeat (first | apply Kd.R_alloc | apply Kd.R_drewN | apply Kd.R_drew)); exact HO717.out) hb); have n7_ := Sd.mk (blk_below (g := gb718) (o := .cells #[.slice none 0 0, .slice none 0 0] 47 (0, 0)) (by (with_reducible repeat (first | refine blk_drewN ?_ _ | refine blk_drew ?_ | refine blk_alloc ?_ _)); exact BK718.out) hb); have n8_ := Sd.mk (below_step (by repeat (first | (with_reducible first | exact HB.out | apply bwA | apply pwN | apply bwD | refine below_set ?_ GE718.out) | exact HB.out)) hb); have n9_ := Sd.mk (hbox); have n10_ := Sd.mk ((by rw [hg]; exact (below_size (by repeat (first | (with_reducible first | exact HB.out | apply bwA | apply pwN | apply bwD | refine below_set ?_ GE718.out) | exact HB.out))) : w.heap.size ≤ gb719)); have n11_ := Sd.mk ((by rw [hg]; exact (below_size (by repeat (first | (with_reducible first | exact HB.out | apply bwA | apply pwN | apply bwD | refine below_set ?_ GE718.out) | exact HB.out))) : w.heap.size ≤ gb719)); have n12_ := Sd.mk ((by rw [hg]; exact Nat.ne_of_lt (blk_lt (g := gb718) (o := .cells #[.slice none 0 0, .slice none 0 0] 47 (0, 0)) (by (with_reducible repeat (first | refine blk_drewN ?_ _ | refine blk_drew ?_ | refine blk_alloc ?_ _)); exact BK718.out)) : gb718 ≠ gb719)); have n13_ := Sd.mk ((by rw [hg]; exact Nat.ne_of_gt (blk_lt (g := gb718) (o := .cells #[.slice none 0 0, .slice none 0 0] 47 (0, 0)) (by (with_reducible repeat (first | refine blk_drewN ?_ _ | refine blk_drew ?_ | refine blk_alloc ?_ _)); exact BK718.out)) : gb719 ≠ gb718)); clear HO_3; clear HO_4; clear HO_5; clear HO708; clear HO711; clear HO714; clear HO717; clear BK718; clear HB; have HO_3 := n0_; have HO_4 := n1_; have HO_5 := n2_; have HO708 := n3_; have HO711 := n4_; have HO714 := n5_; have HO717 := n6_; have BK718 := n7_; have HB := n8_; have BK719 := n9_; have GW719 := n10_; have GE719 := n11_; have NB718_719 := n12_; have NB719_718 := n13_; clear n0_ n1_ n2_ n3_ n4_ n5_ n6_ n7_ n8_ n9_ n10_ n11_ n12_ n13_; clear hb hbox hg; obtain ⟨Ao83, co83, eo83⟩ := Kd.R_slice HO708.out; subst eo83; have hnb84 := NB718_719.out; have hnc84 := NB719_718.out; have hcz85_0 : w82.cell? ⟨gb718, 0, none⟩ = some (.slice none 0 0) := (blk_cell BK718.out 0).trans rfl; have hcz85_1 : w82.cell? ⟨gb718, 1, none⟩ = some (.slice none 0 0) := (blk_cell BK718.out 1).trans rfl; have hfz85_0 := blk_frozen BK718.out 0; have hfz85_1 := blk_frozen BK718.out 1; obtain ⟨Ao86, co86, eo86⟩ := Kd.R_slice HO711.out; subst eo86; obtain ⟨Ao87, co87, eo87⟩ := Kd.R_slice HO714.out; subst eo87; have hcz88_0 : w82.cell? ⟨gb719, 0, none⟩ = some (.slice none 0 0) := (blk_cell BK719.out 0).trans rfl; have hcz88_1 : w82.cell? ⟨gb719, 1, none⟩ = some (.slice none 0 0) := (blk_cell BK719.out 1).trans rfl; have hfz88_0 := blk_frozen BK719.out 0; have hfz88_1 := blk_frozen BK719.out 1; obtain ⟨Ao89, co89, eo89⟩ := Kd.R_slice HO717.out; subst eo89))
        (try simp only [Act.put, List.setIfInBounds_toArray, List.set_cons_zero, List.set_cons_succ])
        go_cut [126] (fun v126 wc => ∃ (kq : Nat) (x126_76 : Bool), v126 = .bool x126_76 ∧ Sd (incipitlaw19_AxisKnown.j2 kq t644 t647 x5_2 x126_76 = some r) ∧ Sd (kq ≤ k2) ∧ Sd (Kd.N (Kd.slice 36 k36) 26 wc w.heap.size (fun k_ => some k_ ≠ (v648 : Value).ownBlock ∧ some k_ ≠ ((.slice Ao78 x5_2.length co78) : Value).ownBlock ∧ some k_ ≠ ((.slice Ao83 t706.length co83) : Value).ownBlock ∧ some k_ ≠ ((.slice Ao86 t709.length co86) : Value).ownBlock ∧ some k_ ≠ ((.slice Ao87 t712.length co87) : Value).ownBlock ∧ some k_ ≠ ((.slice Ao89 t715.length co89) : Value).ownBlock ∧ k_ ≠ gb718 ∧ k_ ≠ gb719) v645 t644) ∧ Sd (Kd.N (Kd.slice 36 k36) 26 wc w.heap.size (fun k_ => some k_ ≠ (v645 : Value).ownBlock ∧ some k_ ≠ ((.slice Ao78 x5_2.length co78) : Value).ownBlock ∧ some k_ ≠ ((.slice Ao83 t706.length co83) : Value).ownBlock ∧ some k_ ≠ ((.slice Ao86 t709.length co86) : Value).ownBlock ∧ some k_ ≠ ((.slice Ao87 t712.length co87) : Value).ownBlock ∧ some k_ ≠ ((.slice Ao89 t715.length co89) : Value).ownBlock ∧ k_ ≠ gb718 ∧ k_ ≠ gb719) v648 t647) ∧ Sd (Kd.N k47 47 wc w.heap.size (fun k_ => some k_ ≠ (v645 : Value).ownBlock ∧ some k_ ≠ (v648 : Value).ownBlock ∧ some k_ ≠ ((.slice Ao83 t706.length co83) : Value).ownBlock ∧ some k_ ≠ ((.slice Ao86 t709.length co86) : Value).ownBlock ∧ some k_ ≠ ((.slice Ao87 t712.length co87) : Value).ownBlock ∧ some k_ ≠ ((.slice Ao89 t715.length co89) : Value).ownBlock ∧ k_ ≠ gb718 ∧ k_ ≠ gb719) (.slice Ao78 x5_2.length co78) x5_2) ∧ Sd (Kd.R k36 36 wc w.heap.size (fun k_ => some k_ ≠ ((.slice Ao86 t709.length co86) : Value).ownBlock ∧ some k_ ≠ ((.slice Ao87 t712.length co87) : Value).ownBlock ∧ some k_ ≠ ((.slice Ao89 t715.length co89) : Value).ownBlock) (.slice Ao83 t706.length co83) t706) ∧ Sd (Kd.R k36 36 wc w.heap.size (fun k_ => some k_ ≠ ((.slice Ao83 t706.length co83) : Value).ownBlock ∧ some k_ ≠ ((.slice Ao87 t712.length co87) : Value).ownBlock ∧ some k_ ≠ ((.slice Ao89 t715.length co89) : Value).ownBlock) (.slice Ao86 t709.length co86) t709) ∧ Sd (Kd.R k36 36 wc w.heap.size (fun k_ => some k_ ≠ ((.slice Ao83 t706.length co83) : Value).ownBlock ∧ some k_ ≠ ((.slice Ao86 t709.length co86) : Value).ownBlock ∧ some k_ ≠ ((.slice Ao89 t715.length co89) : Value).ownBlock) (.slice Ao87 t712.length co87) t712) ∧ Sd (Kd.R k36 36 wc w.heap.size (fun k_ => some k_ ≠ ((.slice Ao83 t706.length co83) : Value).ownBlock ∧ some k_ ≠ ((.slice Ao86 t709.length co86) : Value).ownBlock ∧ some k_ ≠ ((.slice Ao87 t712.length co87) : Value).ownBlock) (.slice Ao89 t715.length co89) t715) ∧ Sd (wc.heap[gb718]? = some (.cells #[(.slice Ao83 t706.length co83), (.slice Ao86 t709.length co86)] 47 (0, 0))) ∧ Sd (wc.heap[gb719]? = some (.cells #[(.slice Ao87 t712.length co87), (.slice Ao89 t715.length co89)] 47 (0, 0))) ∧ Sd (Below w.heap.size w wc))
        case first =>
         have H := HC77.out
         clear HC77
         replace H := Option.bind_eq_some_iff.mp H
         obtain ⟨t720, A900, H⟩ := H
         replace H : ((rf_Same.f k2 t706 t720).bind fun t723 => (if t723 = true then ((rf_Union.f k2 t647).bind fun t724 => ((rf_Same.f k2 t709 t724).bind fun t727 => (if t727 = true then ((rf_Union.f k2 t644).bind fun t728 => ((rf_Same.f k2 t712 t728).bind fun t731 => (if t731 = true then ((incipitref19_Meet.f k2 t647).bind fun t732 => ((rf_Same.f k2 t715 t732).bind fun t735 => (incipitlaw19_AxisKnown.j2 k2 t644 t647 x5_2 (!t735)))) else (incipitlaw19_AxisKnown.j2 k2 t644 t647 x5_2 true)))) else (incipitlaw19_AxisKnown.j2 k2 t644 t647 x5_2 true)))) else (incipitlaw19_AxisKnown.j2 k2 t644 t647 x5_2 true))) = some r := H
         have A90 := Sd.mk A900
         clear A900
         replace H := Option.bind_eq_some_iff.mp H
         obtain ⟨t723, A910, H⟩ := H
         replace H : (if t723 = true then ((rf_Union.f k2 t647).bind fun t724 => ((rf_Same.f k2 t709 t724).bind fun t727 => (if t727 = true then ((rf_Union.f k2 t644).bind fun t728 => ((rf_Same.f k2 t712 t728).bind fun t731 => (if t731 = true then ((incipitref19_Meet.f k2 t647).bind fun t732 => ((rf_Same.f k2 t715 t732).bind fun t735 => (incipitlaw19_AxisKnown.j2 k2 t644 t647 x5_2 (!t735)))) else (incipitlaw19_AxisKnown.j2 k2 t644 t647 x5_2 true)))) else (incipitlaw19_AxisKnown.j2 k2 t644 t647 x5_2 true)))) else (incipitlaw19_AxisKnown.j2 k2 t644 t647 x5_2 true)) = some r := H
         have A91 := Sd.mk A910
         clear A910
         by_cases c92 : t723 = true
         ·subst c92
          have H1 : ((rf_Union.f k2 t647).bind fun t724 => ((rf_Same.f k2 t709 t724).bind fun t727 => (if t727 = true then ((rf_Union.f k2 t644).bind fun t728 => ((rf_Same.f k2 t712 t728).bind fun t731 => (if t731 = true then ((incipitref19_Meet.f k2 t647).bind fun t732 => ((rf_Same.f k2 t715 t732).bind fun t735 => (incipitlaw19_AxisKnown.j2 k2 t644 t647 x5_2 (!t735)))) else (incipitlaw19_AxisKnown.j2 k2 t644 t647 x5_2 true)))) else (incipitlaw19_AxisKnown.j2 k2 t644 t647 x5_2 true)))) = some r := by rw [if_pos rfl] at H; exact H
          clear H
          have H := H1
          clear H1
          replace H := Option.bind_eq_some_iff.mp H
          obtain ⟨t724, A930, H⟩ := H
          replace H : ((rf_Same.f k2 t709 t724).bind fun t727 => (if t727 = true then ((rf_Union.f k2 t644).bind fun t728 => ((rf_Same.f k2 t712 t728).bind fun t731 => (if t731 = true then ((incipitref19_Meet.f k2 t647).bind fun t732 => ((rf_Same.f k2 t715 t732).bind fun t735 => (incipitlaw19_AxisKnown.j2 k2 t644 t647 x5_2 (!t735)))) else (incipitlaw19_AxisKnown.j2 k2 t644 t647 x5_2 true)))) else (incipitlaw19_AxisKnown.j2 k2 t644 t647 x5_2 true))) = some r := H
          have A93 := Sd.mk A930
          clear A930
          replace H := Option.bind_eq_some_iff.mp H
          obtain ⟨t727, A940, H⟩ := H
          replace H : (if t727 = true then ((rf_Union.f k2 t644).bind fun t728 => ((rf_Same.f k2 t712 t728).bind fun t731 => (if t731 = true then ((incipitref19_Meet.f k2 t647).bind fun t732 => ((rf_Same.f k2 t715 t732).bind fun t735 => (incipitlaw19_AxisKnown.j2 k2 t644 t647 x5_2 (!t735)))) else (incipitlaw19_AxisKnown.j2 k2 t644 t647 x5_2 true)))) else (incipitlaw19_AxisKnown.j2 k2 t644 t647 x5_2 true)) = some r := H
          have A94 := Sd.mk A940
          clear A940
          by_cases c95 : t727 = true
          ·subst c95
           have H1 : ((rf_Union.f k2 t644).bind fun t728 => ((rf_Same.f k2 t712 t728).bind fun t731 => (if t731 = true then ((incipitref19_Meet.f k2 t647).bind fun t732 => ((rf_Same.f k2 t715 t732).bind fun t735 => (incipitlaw19_AxisKnown.j2 k2 t644 t647 x5_2 (!t735)))) else (incipitlaw19_AxisKnown.j2 k2 t644 t647 x5_2 true)))) = some r := by rw [if_pos rfl] at H; exact H
           clear H
           have H := H1
           clear H1
           replace H := Option.bind_eq_some_iff.mp H
           obtain ⟨t728, A960, H⟩ := H
           replace H : ((rf_Same.f k2 t712 t728).bind fun t731 => (if t731 = true then ((incipitref19_Meet.f k2 t647).bind fun t732 => ((rf_Same.f k2 t715 t732).bind fun t735 => (incipitlaw19_AxisKnown.j2 k2 t644 t647 x5_2 (!t735)))) else (incipitlaw19_AxisKnown.j2 k2 t644 t647 x5_2 true))) = some r := H
           have A96 := Sd.mk A960
           clear A960
           replace H := Option.bind_eq_some_iff.mp H
           obtain ⟨t731, A970, H⟩ := H
           replace H : (if t731 = true then ((incipitref19_Meet.f k2 t647).bind fun t732 => ((rf_Same.f k2 t715 t732).bind fun t735 => (incipitlaw19_AxisKnown.j2 k2 t644 t647 x5_2 (!t735)))) else (incipitlaw19_AxisKnown.j2 k2 t644 t647 x5_2 true)) = some r := H
           have A97 := Sd.mk A970
           clear A970
           by_cases c98 : t731 = true
           ·subst c98
            have H1 : ((incipitref19_Meet.f k2 t647).bind fun t732 => ((rf_Same.f k2 t715 t732).bind fun t735 => (incipitlaw19_AxisKnown.j2 k2 t644 t647 x5_2 (!t735)))) = some r := by rw [if_pos rfl] at H; exact H
            clear H
            have H := H1
            clear H1
            replace H := Option.bind_eq_some_iff.mp H
            obtain ⟨t732, A990, H⟩ := H
            replace H : ((rf_Same.f k2 t715 t732).bind fun t735 => (incipitlaw19_AxisKnown.j2 k2 t644 t647 x5_2 (!t735))) = some r := H
            have A99 := Sd.mk A990
            clear A990
            replace H := Option.bind_eq_some_iff.mp H
            obtain ⟨t735, A1000, H⟩ := H
            replace H : (incipitlaw19_AxisKnown.j2 k2 t644 t647 x5_2 (!t735)) = some r := H
            have A100 := Sd.mk A1000
            clear A1000
            have H' := Sd.mk H
            clear H
            try go_wp2
            replace HO_3 : Sd (Kd.N (Kd.slice 36 k36) 26 ((((w82.setCell ⟨gb718, 0, none⟩ (.slice Ao83 t706.length co83)).setCell ⟨gb718, 1, none⟩ (.slice Ao86 t709.length co86)).setCell ⟨gb719, 0, none⟩ (.slice Ao87 t712.length co87)).setCell ⟨gb719, 1, none⟩ (.slice Ao89 t715.length co89)) w.heap.size (fun k_ => some k_ ≠ (v648 : Value).ownBlock ∧ some k_ ≠ (.slice Ao78 x5_2.length co78 : Value).ownBlock ∧ some k_ ≠ (.slice Ao83 t706.length co83 : Value).ownBlock ∧ some k_ ≠ (.slice Ao86 t709.length co86 : Value).ownBlock ∧ some k_ ≠ (.slice Ao87 t712.length co87 : Value).ownBlock ∧ some k_ ≠ (.slice Ao89 t715.length co89 : Value).ownBlock ∧ k_ ≠ gb718 ∧ k_ ≠ gb719) v645 t644) := ⟨by (with_reducible repeat (first | apply Kd.N_alloc | apply Kd.N_drewN | apply Kd.N_drew)); exact Kd.N_mono (Kd.N_far (p := ⟨gb719, 1, none⟩) (Kd.N_far (p := ⟨gb719, 0, none⟩) (Kd.N_far (p := ⟨gb718, 1, none⟩) (Kd.N_far (p := ⟨gb718, 0, none⟩) (Kd.N_mono (Kd.N_mono HO_3.out (fun k_ hk => (⟨hk, hk.1.2⟩ : _ ∧ k_ ≠ gb718))) (fun k_ hk => (⟨hk, hk.1.2⟩ : _ ∧ k_ ≠ gb719))) (fun _ hk => hk.1.2) (.slice Ao83 t706.length co83)) (fun _ hk => hk.1.2) (.slice Ao86 t709.length co86)) (fun _ hk => hk.2) (.slice Ao87 t712.length co87)) (fun _ hk => hk.2) (.slice Ao89 t715.length co89)) (fun _ hk => ⟨hk.1.1.1.1.1.1.1.1.1, ⟨hk.1.1.1.1.1.1.1.1.2, ⟨hk.1.1.1.1.1.1.1.2, ⟨hk.1.1.1.1.1.1.2, ⟨hk.1.1.1.1.1.2, ⟨hk.1.1.1.1.2, ⟨hk.1.1.1.2, hk.1.1.2⟩⟩⟩⟩⟩⟩⟩)⟩
            replace HO_4 : Sd (Kd.N (Kd.slice 36 k36) 26 ((((w82.setCell ⟨gb718, 0, none⟩ (.slice Ao83 t706.length co83)).setCell ⟨gb718, 1, none⟩ (.slice Ao86 t709.length co86)).setCell ⟨gb719, 0, none⟩ (.slice Ao87 t712.length co87)).setCell ⟨gb719, 1, none⟩ (.slice Ao89 t715.length co89)) w.heap.size (fun k_ => some k_ ≠ (v645 : Value).ownBlock ∧ some k_ ≠ (.slice Ao78 x5_2.length co78 : Value).ownBlock ∧ some k_ ≠ (.slice Ao83 t706.length co83 : Value).ownBlock ∧ some k_ ≠ (.slice Ao86 t709.length co86 : Value).ownBlock ∧ some k_ ≠ (.slice Ao87 t712.length co87 : Value).ownBlock ∧ some k_ ≠ (.slice Ao89 t715.length co89 : Value).ownBlock ∧ k_ ≠ gb718 ∧ k_ ≠ gb719) v648 t647) := ⟨by (with_reducible repeat (first | apply Kd.N_alloc | apply Kd.N_drewN | apply Kd.N_drew)); exact Kd.N_mono (Kd.N_far (p := ⟨gb719, 1, none⟩) (Kd.N_far (p := ⟨gb719, 0, none⟩) (Kd.N_far (p := ⟨gb718, 1, none⟩) (Kd.N_far (p := ⟨gb718, 0, none⟩) (Kd.N_mono (Kd.N_mono HO_4.out (fun k_ hk => (⟨hk, hk.1.2⟩ : _ ∧ k_ ≠ gb718))) (fun k_ hk => (⟨hk, hk.1.2⟩ : _ ∧ k_ ≠ gb719))) (fun _ hk => hk.1.2) (.slice Ao83 t706.length co83)) (fun _ hk => hk.1.2) (.slice Ao86 t709.length co86)) (fun _ hk => hk.2) (.slice Ao87 t712.length co87)) (fun _ hk => hk.2) (.slice Ao89 t715.length co89)) (fun _ hk => ⟨hk.1.1.1.1.1.1.1.1.1, ⟨hk.1.1.1.1.1.1.1.1.2, ⟨hk.1.1.1.1.1.1.1.2, ⟨hk.1.1.1.1.1.1.2, ⟨hk.1.1.1.1.1.2, ⟨hk.1.1.1.1.2, ⟨hk.1.1.1.2, hk.1.1.2⟩⟩⟩⟩⟩⟩⟩)⟩
            replace HO_5 : Sd (Kd.N k47 47 ((((w82.setCell ⟨gb718, 0, none⟩ (.slice Ao83 t706.length co83)).setCell ⟨gb718, 1, none⟩ (.slice Ao86 t709.length co86)).setCell ⟨gb719, 0, none⟩ (.slice Ao87 t712.length co87)).setCell ⟨gb719, 1, none⟩ (.slice Ao89 t715.length co89)) w.heap.size (fun k_ => some k_ ≠ (v645 : Value).ownBlock ∧ some k_ ≠ (v648 : Value).ownBlock ∧ some k_ ≠ (.slice Ao83 t706.length co83 : Value).ownBlock ∧ some k_ ≠ (.slice Ao86 t709.length co86 : Value).ownBlock ∧ some k_ ≠ (.slice Ao87 t712.length co87 : Value).ownBlock ∧ some k_ ≠ (.slice Ao89 t715.length co89 : Value).ownBlock ∧ k_ ≠ gb718 ∧ k_ ≠ gb719) (.slice Ao78 x5_2.length co78) x5_2) := ⟨by (with_reducible repeat (first | apply Kd.N_alloc | apply Kd.N_drewN | apply Kd.N_drew)); exact Kd.N_mono (Kd.N_far (p := ⟨gb719, 1, none⟩) (Kd.N_far (p := ⟨gb719, 0, none⟩) (Kd.N_far (p := ⟨gb718, 1, none⟩) (Kd.N_far (p := ⟨gb718, 0, none⟩) (Kd.N_mono (Kd.N_mono HO_5.out (fun k_ hk => (⟨hk, hk.1.2⟩ : _ ∧ k_ ≠ gb718))) (fun k_ hk => (⟨hk, hk.1.2⟩ : _ ∧ k_ ≠ gb719))) (fun _ hk => hk.1.2) (.slice Ao83 t706.length co83)) (fun _ hk => hk.1.2) (.slice Ao86 t709.length co86)) (fun _ hk => hk.2) (.slice Ao87 t712.length co87)) (fun _ hk => hk.2) (.slice Ao89 t715.length co89)) (fun _ hk => ⟨hk.1.1.1.1.1.1.1.1.1, ⟨hk.1.1.1.1.1.1.1.1.2, ⟨hk.1.1.1.1.1.1.1.2, ⟨hk.1.1.1.1.1.1.2, ⟨hk.1.1.1.1.1.2, ⟨hk.1.1.1.1.2, ⟨hk.1.1.1.2, hk.1.1.2⟩⟩⟩⟩⟩⟩⟩)⟩
            replace HO708 : Sd (Kd.R k36 36 ((((w82.setCell ⟨gb718, 0, none⟩ (.slice Ao83 t706.length co83)).setCell ⟨gb718, 1, none⟩ (.slice Ao86 t709.length co86)).setCell ⟨gb719, 0, none⟩ (.slice Ao87 t712.length co87)).setCell ⟨gb719, 1, none⟩ (.slice Ao89 t715.length co89)) w.heap.size (fun k_ => some k_ ≠ (.slice Ao86 t709.length co86 : Value).ownBlock ∧ some k_ ≠ (.slice Ao87 t712.length co87 : Value).ownBlock ∧ some k_ ≠ (.slice Ao89 t715.length co89 : Value).ownBlock) (.slice Ao83 t706.length co83) t706) := ⟨by (with_reducible repeat (first | apply Kd.R_alloc | apply Kd.R_drewN | apply Kd.R_drew)); exact Kd.R_mono (Kd.R_far (p := ⟨gb719, 1, none⟩) (Kd.R_far (p := ⟨gb719, 0, none⟩) (Kd.R_far (p := ⟨gb718, 1, none⟩) (Kd.R_far (p := ⟨gb718, 0, none⟩) (Kd.R_types (Kd.R_types HO708.out BK718.out (by decide)) BK719.out (by decide)) (fun _ hk => hk.1.2) (.slice Ao83 t706.length co83)) (fun _ hk => hk.1.2) (.slice Ao86 t709.length co86)) (fun _ hk => hk.2) (.slice Ao87 t712.length co87)) (fun _ hk => hk.2) (.slice Ao89 t715.length co89)) (fun _ hk => ⟨hk.1.1.1.1, ⟨hk.1.1.1.2, hk.1.1.2⟩⟩)⟩
            replace HO711 : Sd (Kd.R k36 36 ((((w82.setCell ⟨gb718, 0, none⟩ (.slice Ao83 t706.length co83)).setCell ⟨gb718, 1, none⟩ (.slice Ao86 t709.length co86)).setCell ⟨gb719, 0, none⟩ (.slice Ao87 t712.length co87)).setCell ⟨gb719, 1, none⟩ (.slice Ao89 t715.length co89)) w.heap.size (fun k_ => some k_ ≠ (.slice Ao83 t706.length co83 : Value).ownBlock ∧ some k_ ≠ (.slice Ao87 t712.length co87 : Value).ownBlock ∧ some k_ ≠ (.slice Ao89 t715.length co89 : Value).ownBlock) (.slice Ao86 t709.length co86) t709) := ⟨by (with_reducible repeat (first | apply Kd.R_alloc | apply Kd.R_drewN | apply Kd.R_drew)); exact Kd.R_mono (Kd.R_far (p := ⟨gb719, 1, none⟩) (Kd.R_far (p := ⟨gb719, 0, none⟩) (Kd.R_far (p := ⟨gb718, 1, none⟩) (Kd.R_far (p := ⟨gb718, 0, none⟩) (Kd.R_types (Kd.R_types HO711.out BK718.out (by decide)) BK719.out (by decide)) (fun _ hk => hk.1.2) (.slice Ao83 t706.length co83)) (fun _ hk => hk.1.2) (.slice Ao86 t709.length co86)) (fun _ hk => hk.2) (.slice Ao87 t712.length co87)) (fun _ hk => hk.2) (.slice Ao89 t715.length co89)) (fun _ hk => ⟨hk.1.1.1.1, ⟨hk.1.1.1.2, hk.1.1.2⟩⟩)⟩
            replace HO714 : Sd (Kd.R k36 36 ((((w82.setCell ⟨gb718, 0, none⟩ (.slice Ao83 t706.length co83)).setCell ⟨gb718, 1, none⟩ (.slice Ao86 t709.length co86)).setCell ⟨gb719, 0, none⟩ (.slice Ao87 t712.length co87)).setCell ⟨gb719, 1, none⟩ (.slice Ao89 t715.length co89)) w.heap.size (fun k_ => some k_ ≠ (.slice Ao83 t706.length co83 : Value).ownBlock ∧ some k_ ≠ (.slice Ao86 t709.length co86 : Value).ownBlock ∧ some k_ ≠ (.slice Ao89 t715.length co89 : Value).ownBlock) (.slice Ao87 t712.length co87) t712) := ⟨by (with_reducible repeat (first | apply Kd.R_alloc | apply Kd.R_drewN | apply Kd.R_drew)); exact Kd.R_mono (Kd.R_far (p := ⟨gb719, 1, none⟩) (Kd.R_far (p := ⟨gb719, 0, none⟩) (Kd.R_far (p := ⟨gb718, 1, none⟩) (Kd.R_far (p := ⟨gb718, 0, none⟩) (Kd.R_types (Kd.R_types HO714.out BK718.out (by decide)) BK719.out (by decide)) (fun _ hk => hk.1.2) (.slice Ao83 t706.length co83)) (fun _ hk => hk.1.2) (.slice Ao86 t709.length co86)) (fun _ hk => hk.2) (.slice Ao87 t712.length co87)) (fun _ hk => hk.2) (.slice Ao89 t715.length co89)) (fun _ hk => ⟨hk.1.1.1.2, ⟨hk.1.1.2, hk.1.1.1.1⟩⟩)⟩
            replace HO717 : Sd (Kd.R k36 36 ((((w82.setCell ⟨gb718, 0, none⟩ (.slice Ao83 t706.length co83)).setCell ⟨gb718, 1, none⟩ (.slice Ao86 t709.length co86)).setCell ⟨gb719, 0, none⟩ (.slice Ao87 t712.length co87)).setCell ⟨gb719, 1, none⟩ (.slice Ao89 t715.length co89)) w.heap.size (fun k_ => some k_ ≠ (.slice Ao83 t706.length co83 : Value).ownBlock ∧ some k_ ≠ (.slice Ao86 t709.length co86 : Value).ownBlock ∧ some k_ ≠ (.slice Ao87 t712.length co87 : Value).ownBlock) (.slice Ao89 t715.length co89) t715) := ⟨by (with_reducible repeat (first | apply Kd.R_alloc | apply Kd.R_drewN | apply Kd.R_drew)); exact Kd.R_mono (Kd.R_far (p := ⟨gb719, 1, none⟩) (Kd.R_far (p := ⟨gb719, 0, none⟩) (Kd.R_far (p := ⟨gb718, 1, none⟩) (Kd.R_far (p := ⟨gb718, 0, none⟩) (Kd.R_types (Kd.R_types HO717.out BK718.out (by decide)) BK719.out (by decide)) (fun _ hk => hk.1.2) (.slice Ao83 t706.length co83)) (fun _ hk => hk.1.2) (.slice Ao86 t709.length co86)) (fun _ hk => hk.2) (.slice Ao87 t712.length co87)) (fun _ hk => hk.2) (.slice Ao89 t715.length co89)) (fun _ hk => ⟨hk.1.1.1.2, ⟨hk.1.1.2, hk.1.1.1.1⟩⟩)⟩
            replace BK718 : Sd (((((w82.setCell ⟨gb718, 0, none⟩ (.slice Ao83 t706.length co83)).setCell ⟨gb718, 1, none⟩ (.slice Ao86 t709.length co86)).setCell ⟨gb719, 0, none⟩ (.slice Ao87 t712.length co87)).setCell ⟨gb719, 1, none⟩ (.slice Ao89 t715.length co89)).heap[gb718]? = some (.cells #[.slice Ao83 t706.length co83, .slice Ao86 t709.length co86] 47 (0, 0))) := ⟨by (with_reducible repeat (first | refine blk_drewN ?_ _ | refine blk_drew ?_ | refine blk_alloc ?_ _)); refine blk_far ?_ NB718_719.out _; (with_reducible repeat (first | refine blk_drewN ?_ _ | refine blk_drew ?_ | refine blk_alloc ?_ _)); refine blk_far ?_ NB718_719.out _; (with_reducible repeat (first | refine blk_drewN ?_ _ | refine blk_drew ?_ | refine blk_alloc ?_ _)); refine blk_put (cs := #[.slice Ao83 t706.length co83, .slice none 0 0]) ?_ 1 _ rfl; (with_reducible repeat (first | refine blk_drewN ?_ _ | refine blk_drew ?_ | refine blk_alloc ?_ _)); refine blk_put (cs := #[.slice none 0 0, .slice none 0 0]) ?_ 0 _ rfl; (with_reducible repeat (first | refine blk_drewN ?_ _ | refine blk_drew ?_ | refine blk_alloc ?_ _)); exact BK718.out⟩
            replace BK719 : Sd (((((w82.setCell ⟨gb718, 0, none⟩ (.slice Ao83 t706.length co83)).setCell ⟨gb718, 1, none⟩ (.slice Ao86 t709.length co86)).setCell ⟨gb719, 0, none⟩ (.slice Ao87 t712.length co87)).setCell ⟨gb719, 1, none⟩ (.slice Ao89 t715.length co89)).heap[gb719]? = some (.cells #[.slice Ao87 t712.length co87, .slice Ao89 t715.length co89] 47 (0, 0))) := ⟨by (with_reducible repeat (first | refine blk_drewN ?_ _ | refine blk_drew ?_ | refine blk_alloc ?_ _)); refine blk_put (cs := #[.slice Ao87 t712.length co87, .slice none 0 0]) ?_ 1 _ rfl; (with_reducible repeat (first | refine blk_drewN ?_ _ | refine blk_drew ?_ | refine blk_alloc ?_ _)); refine blk_put (cs := #[.slice none 0 0, .slice none 0 0]) ?_ 0 _ rfl; (with_reducible repeat (first | refine blk_drewN ?_ _ | refine blk_drew ?_ | refine blk_alloc ?_ _)); refine blk_far ?_ NB719_718.out _; (with_reducible repeat (first | refine blk_drewN ?_ _ | refine blk_drew ?_ | refine blk_alloc ?_ _)); refine blk_far ?_ NB719_718.out _; (with_reducible repeat (first | refine blk_drewN ?_ _ | refine blk_drew ?_ | refine blk_alloc ?_ _)); exact BK719.out⟩
            replace HB : Sd (Below w.heap.size w ((((w82.setCell ⟨gb718, 0, none⟩ (.slice Ao83 t706.length co83)).setCell ⟨gb718, 1, none⟩ (.slice Ao86 t709.length co86)).setCell ⟨gb719, 0, none⟩ (.slice Ao87 t712.length co87)).setCell ⟨gb719, 1, none⟩ (.slice Ao89 t715.length co89))) := ⟨by repeat (first | (with_reducible first | exact HB.out | apply bwA | apply pwN | apply bwD | refine below_set ?_ GE718.out | refine below_set ?_ GE719.out) | exact HB.out)⟩
            generalize ((((w82.setCell ⟨gb718, 0, none⟩ (.slice Ao83 t706.length co83)).setCell ⟨gb718, 1, none⟩ (.slice Ao86 t709.length co86)).setCell ⟨gb719, 0, none⟩ (.slice Ao87 t712.length co87)).setCell ⟨gb719, 1, none⟩ (.slice Ao89 t715.length co89)) = w101 at HO_3 HO_4 HO_5 HO708 HO711 HO714 HO717 BK718 BK719 HB ⊢
            replace HO_3 := Sd.mk (Kd.N_drew HO_3.out)
            replace HO_4 := Sd.mk (Kd.N_drew HO_4.out)
            replace HO_5 := Sd.mk (Kd.N_drew HO_5.out)
            replace HO708 := Sd.mk (Kd.R_drew HO708.out)
            replace HO711 := Sd.mk (Kd.R_drew HO711.out)
            replace HO714 := Sd.mk (Kd.R_drew HO714.out)
            replace HO717 := Sd.mk (Kd.R_drew HO717.out)
            replace BK718 := Sd.mk (blk_drew BK718.out)
            replace BK719 := Sd.mk (blk_drew BK719.out)
            replace HB := Sd.mk (bwD HB.out)
            obtain ⟨Ao103, co103, eo103⟩ := Kd.N_slice HO_3.out
            (first | subst eo103 | (injection eo103 with f1_ f2_ f3_; have f4_ := f1_.symm; have f5_ := f3_.symm; clear f1_ f2_ f3_; subst f4_; subst f5_))
            refine start_ (n := 30) (S := fun w' => w'.cell? ⟨gb718, 0, none⟩ = some (.slice Ao83 t706.length co83) ∧ w'.cell? ⟨gb718, 1, none⟩ = some (.slice Ao86 t709.length co86) ∧ w'.cell? ⟨gb719, 0, none⟩ = some (.slice Ao87 t712.length co87) ∧ w'.cell? ⟨gb719, 1, none⟩ = some (.slice Ao89 t715.length co89)) (ds := []) #[false, false, false, false, false, false, false, false, false, false, false, false, false, false, false, false, false, false, false, false, false, false, false, false, false, false, false, false, false, false] (by kernel_rfl) rfl rfl ⟨(blk_cell BK718.out 0).trans rfl, (blk_cell BK718.out 1).trans rfl, (blk_cell BK719.out 0).trans rfl, (blk_cell BK719.out 1).trans rfl⟩ (fun hHeld => ?_); refine with_tabW incipitlaw19_AxisKnown.tab17 incipitlaw19_AxisKnown.bits17 (fun HT_ HW_ => ?_)
            generalize w101.drew = w102 at HO_3 HO_4 HO_5 HO708 HO711 HO714 HO717 BK718 BK719 HB hHeld ⊢
            refine pure_ (i := 0) (N := some 97) (v := ?_) (a' := ?_) #[true, false, false, false, false, false, false, false, false, false, false, false, false, false, false, false, false, false, false, false, false, false, false, false, false, false, false, false, false, false] rfl rfl (any_of HT_.out (by kernel_rfl)) (fun _ _ _ h => h) (Or.inl ⟨by rfl, ?_⟩) ?_ ?_
            rotate_left
            ·intro w'
             go_simp
             with_reducible rfl
            rotate_left
            ·simp only [Act.put, List.setIfInBounds_toArray, List.set_cons_zero, List.set_cons_succ, i64_w, i32_w]
             rfl
            refine pure_ (i := 2) (N := some 99) (v := ?_) (a' := ?_) #[true, false, true, false, false, false, false, false, false, false, false, false, false, false, false, false, false, false, false, false, false, false, false, false, false, false, false, false, false, false] rfl rfl (any_of HT_.out (by kernel_rfl)) (fun _ _ _ h => h) (Or.inl ⟨by rfl, ?_⟩) ?_ ?_
            rotate_left
            ·intro w'
             go_simp
             with_reducible rfl
            rotate_left
            ·simp only [Act.put, List.setIfInBounds_toArray, List.set_cons_zero, List.set_cons_succ, i64_w, i32_w]
             rfl
            refine take_ (i := 1) (N := some 98) (v := ?_) (a' := ?_) #[true, true, true, false, false, false, false, false, false, false, false, false, false, false, false, false, false, false, false, false, false, false, false, false, false, false, false, false, false, false] rfl rfl (take_ofW HT_.out HW_.out (by kernel_rfl)) (fun _ _ _ h => h) (Or.inl ⟨by rfl, ?_⟩) hHeld ?_ ?_
            rotate_left
            ·rintro w' ⟨s0, s1, s2, s3⟩
             go_simp
             with_reducible rfl
            rotate_left
            ·simp only [Act.put, List.setIfInBounds_toArray, List.set_cons_zero, List.set_cons_succ, i64_w, i32_w]
             rfl
            refine one_ (i := 3) (N := some 100) #[true, true, true, true, false, false, false, false, false, false, false, false, false, false, false, false, false, false, false, false, false, false, false, false, false, false, false, false, false, false] rfl rfl (one_of HT_.out (by kernel_rfl)) (by decide) (fun K hK => ?_)
            refine goes_ Try.func16 (by kernel_rfl) rfl #[.slice Ao103 t644.length co103] (by rfl) rfl rfl (by (try simp only [List.map_toArray, List.map_cons, List.map_nil]); first | done | rfl | (simp only [List.length_drop, List.length_take]; rfl)) ?_
            with_reducible refine (incipitref19_Meet.calls k2 _ _ t644 t720 _ ?side1 ?side2 A90.out).mono ?_
            (case side1 => repeat (first | exact (Kd.N_reads' HO_3.out).2.2 | (with_reducible refine Kd.C_alloc ?_ _) | (with_reducible refine Kd.C_drewN ?_ _) | (with_reducible refine Kd.C_drew ?_)))
            (case side2 => exact (Kd.N_reads' HO_3.out).2.1)
            rintro e w104 ⟨v721, rfl, ho0, hb⟩
            refine ⟨_, rfl, ?_⟩
            have n0_ := Sd.mk (Kd.N_elder' (by (with_reducible repeat (first | apply Kd.N_alloc | apply Kd.N_drewN | apply Kd.N_drew)); exact HO_3.out) (Kd.R_base ho0) hb)
            have n1_ := Sd.mk (Kd.N_elder' (by (with_reducible repeat (first | apply Kd.N_alloc | apply Kd.N_drewN | apply Kd.N_drew)); exact HO_4.out) (Kd.R_base ho0) hb)
            have n2_ := Sd.mk (Kd.N_elder' (by (with_reducible repeat (first | apply Kd.N_alloc | apply Kd.N_drewN | apply Kd.N_drew)); exact HO_5.out) (Kd.R_base ho0) hb)
            have n3_ := Sd.mk (Kd.R_elder' (by (with_reducible repeat (first | apply Kd.R_alloc | apply Kd.R_drewN | apply Kd.R_drew)); exact HO708.out) (Kd.R_base ho0) hb)
            have n4_ := Sd.mk (Kd.R_elder' (by (with_reducible repeat (first | apply Kd.R_alloc | apply Kd.R_drewN | apply Kd.R_drew)); exact HO711.out) (Kd.R_base ho0) hb)
            have n5_ := Sd.mk (Kd.R_elder' (by (with_reducible repeat (first | apply Kd.R_alloc | apply Kd.R_drewN | apply Kd.R_drew)); exact HO714.out) (Kd.R_base ho0) hb)
            have n6_ := Sd.mk (Kd.R_elder' (by (with_reducible repeat (first | apply Kd.R_alloc | apply Kd.R_drewN | apply Kd.R_drew)); exact HO717.out) (Kd.R_base ho0) hb)
            have n7_ := Sd.mk (Kd.R_lower (Kd.R_new' (Kd.R_new' (Kd.R_new' (Kd.R_new' ho0 (Kd.R_lt (by (with_reducible repeat (first | apply Kd.R_alloc | apply Kd.R_drewN | apply Kd.R_drew)); exact HO708.out))) (Kd.R_lt (by (with_reducible repeat (first | apply Kd.R_alloc | apply Kd.R_drewN | apply Kd.R_drew)); exact HO711.out))) (Kd.R_lt (by (with_reducible repeat (first | apply Kd.R_alloc | apply Kd.R_drewN | apply Kd.R_drew)); exact HO714.out))) (Kd.R_lt (by (with_reducible repeat (first | apply Kd.R_alloc | apply Kd.R_drewN | apply Kd.R_drew)); exact HO717.out))) (below_size (by repeat (first | (with_reducible first | exact HB.out | apply bwA | apply pwN | apply bwD | refine below_set ?_ GE718.out | refine below_set ?_ GE719.out) | exact HB.out))))
            have n8_ := Sd.mk (blk_below (g := gb718) (o := .cells #[.slice Ao83 t706.length co83, .slice Ao86 t709.length co86] 47 (0, 0)) (by (with_reducible repeat (first | refine blk_drewN ?_ _ | refine blk_drew ?_ | refine blk_alloc ?_ _)); exact BK718.out) hb)
            have n9_ := Sd.mk (blk_below (g := gb719) (o := .cells #[.slice Ao87 t712.length co87, .slice Ao89 t715.length co89] 47 (0, 0)) (by (with_reducible repeat (first | refine blk_drewN ?_ _ | refine blk_drew ?_ | refine blk_alloc ?_ _)); exact BK719.out) hb)
            have n10_ := Sd.mk (below_step (by repeat (first | (with_reducible first | exact HB.out | apply bwA | apply pwN | apply bwD | refine below_set ?_ GE718.out | refine below_set ?_ GE719.out) | exact HB.out)) hb)
            clear HO_3
            clear HO_4
            clear HO_5
            clear HO708
            clear HO711
            clear HO714
            clear HO717
            clear BK718
            clear BK719
            clear HB
            have HO_3 := n0_
            have HO_4 := n1_
            have HO_5 := n2_
            have HO708 := n3_
            have HO711 := n4_
            have HO714 := n5_
            have HO717 := n6_
            have HO722 := n7_
            have BK718 := n8_
            have BK719 := n9_
            have HB := n10_
            clear n0_ n1_ n2_ n3_ n4_ n5_ n6_ n7_ n8_ n9_ n10_
            (try clear hb)
            (try clear hb2)
            (try clear hk)
            (try clear hi)
            (try clear ho0)
            obtain ⟨Ao105, co105, eo105⟩ := Kd.R_slice HO722.out
            (first | subst eo105 | (injection eo105 with f1_ f2_ f3_; have f4_ := f1_.symm; have f5_ := f3_.symm; clear f1_ f2_ f3_; subst f4_; subst f5_))
            refine hK.out _ _ ⟨(blk_cell BK718.out 0).trans rfl, (blk_cell BK718.out 1).trans rfl, (blk_cell BK719.out 0).trans rfl, (blk_cell BK719.out 1).trans rfl⟩ (fun hHeld => ?_)
            clear hK K
            refine norm_ (a' := ?_) ?_ ?_
            rotate_left
            ·show Act.put _ (some 100) _ = _
             simp only [Act.put, List.setIfInBounds_toArray, List.set_cons_zero, List.set_cons_succ, i64_w, i32_w]
             rfl
            refine one_ (i := 4) (N := some 101) #[true, true, true, true, true, false, false, false, false, false, false, false, false, false, false, false, false, false, false, false, false, false, false, false, false, false, false, false, false, false] rfl rfl (one_of HT_.out (by kernel_rfl)) (by decide) (fun K hK => ?_)
            refine goes_ Try.func14 (by kernel_rfl) rfl #[.slice Ao83 t706.length co83, .slice Ao105 t720.length co105] (by rfl) rfl rfl (by (try simp only [List.map_toArray, List.map_cons, List.map_nil]); first | done | rfl | (simp only [List.length_drop, List.length_take]; rfl)) ?_
            with_reducible refine (rf_Same.calls k2 _ _ t706 _ _ t720 true _ ?side1 ?side2 ?side3 ?side4 A91.out).mono ?_
            (case side1 => repeat (first | exact (Kd.R_reads' HO708.out).2.2 | (with_reducible refine Kd.C_alloc ?_ _) | (with_reducible refine Kd.C_drewN ?_ _) | (with_reducible refine Kd.C_drew ?_)))
            (case side2 => exact (Kd.R_reads' HO708.out).2.1)
            (case side3 => repeat (first | exact (Kd.R_reads' HO722.out).2.2 | (with_reducible refine Kd.C_alloc ?_ _) | (with_reducible refine Kd.C_drewN ?_ _) | (with_reducible refine Kd.C_drew ?_)))
            (case side4 => exact (Kd.R_reads' HO722.out).2.1)
            rintro e w' ⟨rfl, ⟨nd, rfl⟩⟩
            refine ⟨_, rfl, ?_⟩
            obtain ⟨Ao106, co106, eo106⟩ := Kd.N_slice HO_4.out
            (first | subst eo106 | (injection eo106 with f1_ f2_ f3_; have f4_ := f1_.symm; have f5_ := f3_.symm; clear f1_ f2_ f3_; subst f4_; subst f5_))
            refine hK.out _ _ ⟨(blk_cell BK718.out 0).trans rfl, (blk_cell BK718.out 1).trans rfl, (blk_cell BK719.out 0).trans rfl, (blk_cell BK719.out 1).trans rfl⟩ (fun hHeld => ?_)
            clear hK K
            refine norm_ (a' := ?_) ?_ ?_
            rotate_left
            ·show Act.put _ (some 101) _ = _
             simp only [Act.put, List.setIfInBounds_toArray, List.set_cons_zero, List.set_cons_succ, i64_w, i32_w]
             rfl
            refine pure_ (i := 5) (N := some 102) (v := ?_) (a' := ?_) #[true, true, true, true, true, true, false, false, false, false, false, false, false, false, false, false, false, false, false, false, false, false, false, false, false, false, false, false, false, false] rfl rfl (any_of HT_.out (by kernel_rfl)) (fun _ _ _ h => h) (Or.inl ⟨by rfl, ?_⟩) ?_ ?_
            rotate_left
            ·intro w'
             go_simp
             with_reducible rfl
            rotate_left
            ·simp only [Act.put, List.setIfInBounds_toArray, List.set_cons_zero, List.set_cons_succ, i64_w, i32_w]
             rfl
            refine pure_ (i := 6) (N := some 103) (v := ?_) (a' := ?_) #[true, true, true, true, true, true, true, false, false, false, false, false, false, false, false, false, false, false, false, false, false, false, false, false, false, false, false, false, false, false] rfl rfl (any_of HT_.out (by kernel_rfl)) (fun _ _ _ h => h) (Or.inl ⟨by rfl, ?_⟩) ?_ ?_
            rotate_left
            ·intro w'
             go_simp
             with_reducible rfl
            rotate_left
            ·simp only [Act.put, List.setIfInBounds_toArray, List.set_cons_zero, List.set_cons_succ, i64_w, i32_w]
             rfl
            refine pure_ (i := 7) (N := some 104) (v := ?_) (a' := ?_) #[true, true, true, true, true, true, true, true, false, false, false, false, false, false, false, false, false, false, false, false, false, false, false, false, false, false, false, false, false, false] rfl rfl (any_of HT_.out (by kernel_rfl)) (fun _ _ _ h => h) (Or.inl ⟨by rfl, ?_⟩) ?_ ?_
            rotate_left
            ·intro w'
             go_simp
             with_reducible rfl
            rotate_left
            ·simp only [Act.put, List.setIfInBounds_toArray, List.set_cons_zero, List.set_cons_succ, i64_w, i32_w]
             rfl
            refine pure_ (i := 9) (N := some 106) (v := ?_) (a' := ?_) #[true, true, true, true, true, true, true, true, false, true, false, false, false, false, false, false, false, false, false, false, false, false, false, false, false, false, false, false, false, false] rfl rfl (any_of HT_.out (by kernel_rfl)) (fun _ _ _ h => h) (Or.inl ⟨by rfl, ?_⟩) ?_ ?_
            rotate_left
            ·intro w'
             go_simp
             with_reducible rfl
            rotate_left
            ·simp only [Act.put, List.setIfInBounds_toArray, List.set_cons_zero, List.set_cons_succ, i64_w, i32_w]
             rfl
            refine take_ (i := 8) (N := some 105) (v := ?_) (a' := ?_) #[true, true, true, true, true, true, true, true, true, true, false, false, false, false, false, false, false, false, false, false, false, false, false, false, false, false, false, false, false, false] rfl rfl (take_ofW HT_.out HW_.out (by kernel_rfl)) (fun _ _ _ h => h) (Or.inl ⟨by rfl, ?_⟩) hHeld ?_ ?_
            rotate_left
            ·rintro w' ⟨s0, s1, s2, s3⟩
             go_simp
             with_reducible rfl
            rotate_left
            ·simp only [Act.put, List.setIfInBounds_toArray, List.set_cons_zero, List.set_cons_succ, i64_w, i32_w]
             rfl
            refine one_ (i := 10) (N := some 107) #[true, true, true, true, true, true, true, true, true, true, true, false, false, false, false, false, false, false, false, false, false, false, false, false, false, false, false, false, false, false] rfl rfl (one_of HT_.out (by kernel_rfl)) (by decide) (fun K hK => ?_)
            refine goes_ Try.func15 (by kernel_rfl) rfl #[.slice Ao106 t647.length co106] (by rfl) rfl rfl (by (try simp only [List.map_toArray, List.map_cons, List.map_nil]); first | done | rfl | (simp only [List.length_drop, List.length_take]; rfl)) ?_
            with_reducible refine (rf_Union.calls k2 _ _ t647 t724 _ ?side1 ?side2 A93.out).mono ?_
            (case side1 => repeat (first | exact (Kd.N_reads' HO_4.out).2.2 | (with_reducible refine Kd.C_alloc ?_ _) | (with_reducible refine Kd.C_drewN ?_ _) | (with_reducible refine Kd.C_drew ?_)))
            (case side2 => exact (Kd.N_reads' HO_4.out).2.1)
            rintro e w107 ⟨v725, rfl, ho0, hb⟩
            refine ⟨_, rfl, ?_⟩
            have n0_ := Sd.mk (Kd.N_elder' (by (with_reducible repeat (first | apply Kd.N_alloc | apply Kd.N_drewN | apply Kd.N_drew)); exact HO_3.out) (Kd.R_base ho0) hb)
            have n1_ := Sd.mk (Kd.N_elder' (by (with_reducible repeat (first | apply Kd.N_alloc | apply Kd.N_drewN | apply Kd.N_drew)); exact HO_4.out) (Kd.R_base ho0) hb)
            have n2_ := Sd.mk (Kd.N_elder' (by (with_reducible repeat (first | apply Kd.N_alloc | apply Kd.N_drewN | apply Kd.N_drew)); exact HO_5.out) (Kd.R_base ho0) hb)
            have n3_ := Sd.mk (Kd.R_elder' (by (with_reducible repeat (first | apply Kd.R_alloc | apply Kd.R_drewN | apply Kd.R_drew)); exact HO708.out) (Kd.R_base ho0) hb)
            have n4_ := Sd.mk (Kd.R_elder' (by (with_reducible repeat (first | apply Kd.R_alloc | apply Kd.R_drewN | apply Kd.R_drew)); exact HO711.out) (Kd.R_base ho0) hb)
            have n5_ := Sd.mk (Kd.R_elder' (by (with_reducible repeat (first | apply Kd.R_alloc | apply Kd.R_drewN | apply Kd.R_drew)); exact HO714.out) (Kd.R_base ho0) hb)
            have n6_ := Sd.mk (Kd.R_elder' (by (with_reducible repeat (first | apply Kd.R_alloc | apply Kd.R_drewN | apply Kd.R_drew)); exact HO717.out) (Kd.R_base ho0) hb)
            have n7_ := Sd.mk (Kd.R_lower (Kd.R_new' (Kd.R_new' (Kd.R_new' (Kd.R_new' ho0 (Kd.R_lt (by (with_reducible repeat (first | apply Kd.R_alloc | apply Kd.R_drewN | apply Kd.R_drew)); exact HO708.out))) (Kd.R_lt (by (with_reducible repeat (first | apply Kd.R_alloc | apply Kd.R_drewN | apply Kd.R_drew)); exact HO711.out))) (Kd.R_lt (by (with_reducible repeat (first | apply Kd.R_alloc | apply Kd.R_drewN | apply Kd.R_drew)); exact HO714.out))) (Kd.R_lt (by (with_reducible repeat (first | apply Kd.R_alloc | apply Kd.R_drewN | apply Kd.R_drew)); exact HO717.out))) (below_size (by repeat (first | (with_reducible first | exact HB.out | apply bwA | apply pwN | apply bwD | refine below_set ?_ GE718.out | refine below_set ?_ GE719.out) | exact HB.out))))
            have n8_ := Sd.mk (blk_below (g := gb718) (o := .cells #[.slice Ao83 t706.length co83, .slice Ao86 t709.length co86] 47 (0, 0)) (by (with_reducible repeat (first | refine blk_drewN ?_ _ | refine blk_drew ?_ | refine blk_alloc ?_ _)); exact BK718.out) hb)
            have n9_ := Sd.mk (blk_below (g := gb719) (o := .cells #[.slice Ao87 t712.length co87, .slice Ao89 t715.length co89] 47 (0, 0)) (by (with_reducible repeat (first | refine blk_drewN ?_ _ | refine blk_drew ?_ | refine blk_alloc ?_ _)); exact BK719.out) hb)
            have n10_ := Sd.mk (below_step (by repeat (first | (with_reducible first | exact HB.out | apply bwA | apply pwN | apply bwD | refine below_set ?_ GE718.out | refine below_set ?_ GE719.out) | exact HB.out)) hb)
            clear HO_3
            clear HO_4
            clear HO_5
            clear HO708
            clear HO711
            clear HO714
            clear HO717
            clear BK718
            clear BK719
            clear HB
            have HO_3 := n0_
            have HO_4 := n1_
            have HO_5 := n2_
            have HO708 := n3_
            have HO711 := n4_
            have HO714 := n5_
            have HO717 := n6_
            have HO726 := n7_
            have BK718 := n8_
            have BK719 := n9_
            have HB := n10_
            clear n0_ n1_ n2_ n3_ n4_ n5_ n6_ n7_ n8_ n9_ n10_
            (try clear hb)
            (try clear hb2)
            (try clear hk)
            (try clear hi)
            (try clear ho0)
            obtain ⟨Ao108, co108, eo108⟩ := Kd.R_slice HO726.out
            (first | subst eo108 | (injection eo108 with f1_ f2_ f3_; have f4_ := f1_.symm; have f5_ := f3_.symm; clear f1_ f2_ f3_; subst f4_; subst f5_))
            refine hK.out _ _ ⟨(blk_cell BK718.out 0).trans rfl, (blk_cell BK718.out 1).trans rfl, (blk_cell BK719.out 0).trans rfl, (blk_cell BK719.out 1).trans rfl⟩ (fun hHeld => ?_)
            clear hK K
            refine norm_ (a' := ?_) ?_ ?_
            rotate_left
            ·show Act.put _ (some 107) _ = _
             simp only [Act.put, List.setIfInBounds_toArray, List.set_cons_zero, List.set_cons_succ, i64_w, i32_w]
             rfl
            refine one_ (i := 11) (N := some 108) #[true, true, true, true, true, true, true, true, true, true, true, true, false, false, false, false, false, false, false, false, false, false, false, false, false, false, false, false, false, false] rfl rfl (one_of HT_.out (by kernel_rfl)) (by decide) (fun K hK => ?_)
            refine goes_ Try.func14 (by kernel_rfl) rfl #[.slice Ao86 t709.length co86, .slice Ao108 t724.length co108] (by rfl) rfl rfl (by (try simp only [List.map_toArray, List.map_cons, List.map_nil]); first | done | rfl | (simp only [List.length_drop, List.length_take]; rfl)) ?_
            with_reducible refine (rf_Same.calls k2 _ _ t709 _ _ t724 true _ ?side1 ?side2 ?side3 ?side4 A94.out).mono ?_
            (case side1 => repeat (first | exact (Kd.R_reads' HO711.out).2.2 | (with_reducible refine Kd.C_alloc ?_ _) | (with_reducible refine Kd.C_drewN ?_ _) | (with_reducible refine Kd.C_drew ?_)))
            (case side2 => exact (Kd.R_reads' HO711.out).2.1)
            (case side3 => repeat (first | exact (Kd.R_reads' HO726.out).2.2 | (with_reducible refine Kd.C_alloc ?_ _) | (with_reducible refine Kd.C_drewN ?_ _) | (with_reducible refine Kd.C_drew ?_)))
            (case side4 => exact (Kd.R_reads' HO726.out).2.1)
            rintro e w' ⟨rfl, ⟨nd, rfl⟩⟩
            refine ⟨_, rfl, ?_⟩
            refine hK.out _ _ ⟨(blk_cell BK718.out 0).trans rfl, (blk_cell BK718.out 1).trans rfl, (blk_cell BK719.out 0).trans rfl, (blk_cell BK719.out 1).trans rfl⟩ (fun hHeld => ?_)
            clear hK K
            refine norm_ (a' := ?_) ?_ ?_
            rotate_left
            ·show Act.put _ (some 108) _ = _
             simp only [Act.put, List.setIfInBounds_toArray, List.set_cons_zero, List.set_cons_succ, i64_w, i32_w]
             rfl
            refine pure_ (i := 12) (N := some 109) (v := ?_) (a' := ?_) #[true, true, true, true, true, true, true, true, true, true, true, true, true, false, false, false, false, false, false, false, false, false, false, false, false, false, false, false, false, false] rfl rfl (any_of HT_.out (by kernel_rfl)) (fun _ _ _ h => h) (Or.inl ⟨by rfl, ?_⟩) ?_ ?_
            rotate_left
            ·intro w'
             go_simp
             with_reducible rfl
            rotate_left
            ·simp only [Act.put, List.setIfInBounds_toArray, List.set_cons_zero, List.set_cons_succ, i64_w, i32_w]
             rfl
            refine pure_ (i := 13) (N := some 110) (v := ?_) (a' := ?_) #[true, true, true, true, true, true, true, true, true, true, true, true, true, true, false, false, false, false, false, false, false, false, false, false, false, false, false, false, false, false] rfl rfl (any_of HT_.out (by kernel_rfl)) (fun _ _ _ h => h) (Or.inl ⟨by rfl, ?_⟩) ?_ ?_
            rotate_left
            ·intro w'
             go_simp
             with_reducible rfl
            rotate_left
            ·simp only [Act.put, List.setIfInBounds_toArray, List.set_cons_zero, List.set_cons_succ, i64_w, i32_w]
             rfl
            refine pure_ (i := 14) (N := some 111) (v := ?_) (a' := ?_) #[true, true, true, true, true, true, true, true, true, true, true, true, true, true, true, false, false, false, false, false, false, false, false, false, false, false, false, false, false, false] rfl rfl (any_of HT_.out (by kernel_rfl)) (fun _ _ _ h => h) (Or.inl ⟨by rfl, ?_⟩) ?_ ?_
            rotate_left
            ·intro w'
             go_simp
             with_reducible rfl
            rotate_left
            ·simp only [Act.put, List.setIfInBounds_toArray, List.set_cons_zero, List.set_cons_succ, i64_w, i32_w]
             rfl
            refine pure_ (i := 15) (N := some 112) (v := ?_) (a' := ?_) #[true, true, true, true, true, true, true, true, true, true, true, true, true, true, true, true, false, false, false, false, false, false, false, false, false, false, false, false, false, false] rfl rfl (any_of HT_.out (by kernel_rfl)) (fun _ _ _ h => h) (Or.inl ⟨by rfl, ?_⟩) ?_ ?_
            rotate_left
            ·intro w'
             go_simp
             with_reducible rfl
            rotate_left
            ·simp only [Act.put, List.setIfInBounds_toArray, List.set_cons_zero, List.set_cons_succ, i64_w, i32_w]
             rfl
            refine pure_ (i := 17) (N := some 114) (v := ?_) (a' := ?_) #[true, true, true, true, true, true, true, true, true, true, true, true, true, true, true, true, false, true, false, false, false, false, false, false, false, false, false, false, false, false] rfl rfl (any_of HT_.out (by kernel_rfl)) (fun _ _ _ h => h) (Or.inl ⟨by rfl, ?_⟩) ?_ ?_
            rotate_left
            ·intro w'
             go_simp
             with_reducible rfl
            rotate_left
            ·simp only [Act.put, List.setIfInBounds_toArray, List.set_cons_zero, List.set_cons_succ, i64_w, i32_w]
             rfl
            refine take_ (i := 16) (N := some 113) (v := ?_) (a' := ?_) #[true, true, true, true, true, true, true, true, true, true, true, true, true, true, true, true, true, true, false, false, false, false, false, false, false, false, false, false, false, false] rfl rfl (take_ofW HT_.out HW_.out (by kernel_rfl)) (fun _ _ _ h => h) (Or.inl ⟨by rfl, ?_⟩) hHeld ?_ ?_
            rotate_left
            ·rintro w' ⟨s0, s1, s2, s3⟩
             go_simp
             with_reducible rfl
            rotate_left
            ·simp only [Act.put, List.setIfInBounds_toArray, List.set_cons_zero, List.set_cons_succ, i64_w, i32_w]
             rfl
            refine one_ (i := 18) (N := some 115) #[true, true, true, true, true, true, true, true, true, true, true, true, true, true, true, true, true, true, true, false, false, false, false, false, false, false, false, false, false, false] rfl rfl (one_of HT_.out (by kernel_rfl)) (by decide) (fun K hK => ?_)
            refine goes_ Try.func15 (by kernel_rfl) rfl #[.slice Ao103 t644.length co103] (by rfl) rfl rfl (by (try simp only [List.map_toArray, List.map_cons, List.map_nil]); first | done | rfl | (simp only [List.length_drop, List.length_take]; rfl)) ?_
            with_reducible refine (rf_Union.calls k2 _ _ t644 t728 _ ?side1 ?side2 A96.out).mono ?_
            (case side1 => repeat (first | exact (Kd.N_reads' HO_3.out).2.2 | (with_reducible refine Kd.C_alloc ?_ _) | (with_reducible refine Kd.C_drewN ?_ _) | (with_reducible refine Kd.C_drew ?_)))
            (case side2 => exact (Kd.N_reads' HO_3.out).2.1)
            rintro e w109 ⟨v729, rfl, ho0, hb⟩
            refine ⟨_, rfl, ?_⟩
            have n0_ := Sd.mk (Kd.N_elder' (by (with_reducible repeat (first | apply Kd.N_alloc | apply Kd.N_drewN | apply Kd.N_drew)); exact HO_3.out) (Kd.R_base ho0) hb)
            have n1_ := Sd.mk (Kd.N_elder' (by (with_reducible repeat (first | apply Kd.N_alloc | apply Kd.N_drewN | apply Kd.N_drew)); exact HO_4.out) (Kd.R_base ho0) hb)
            have n2_ := Sd.mk (Kd.N_elder' (by (with_reducible repeat (first | apply Kd.N_alloc | apply Kd.N_drewN | apply Kd.N_drew)); exact HO_5.out) (Kd.R_base ho0) hb)
            have n3_ := Sd.mk (Kd.R_elder' (by (with_reducible repeat (first | apply Kd.R_alloc | apply Kd.R_drewN | apply Kd.R_drew)); exact HO708.out) (Kd.R_base ho0) hb)
            have n4_ := Sd.mk (Kd.R_elder' (by (with_reducible repeat (first | apply Kd.R_alloc | apply Kd.R_drewN | apply Kd.R_drew)); exact HO711.out) (Kd.R_base ho0) hb)
            have n5_ := Sd.mk (Kd.R_elder' (by (with_reducible repeat (first | apply Kd.R_alloc | apply Kd.R_drewN | apply Kd.R_drew)); exact HO714.out) (Kd.R_base ho0) hb)
            have n6_ := Sd.mk (Kd.R_elder' (by (with_reducible repeat (first | apply Kd.R_alloc | apply Kd.R_drewN | apply Kd.R_drew)); exact HO717.out) (Kd.R_base ho0) hb)
            have n7_ := Sd.mk (Kd.R_lower (Kd.R_new' (Kd.R_new' (Kd.R_new' (Kd.R_new' ho0 (Kd.R_lt (by (with_reducible repeat (first | apply Kd.R_alloc | apply Kd.R_drewN | apply Kd.R_drew)); exact HO708.out))) (Kd.R_lt (by (with_reducible repeat (first | apply Kd.R_alloc | apply Kd.R_drewN | apply Kd.R_drew)); exact HO711.out))) (Kd.R_lt (by (with_reducible repeat (first | apply Kd.R_alloc | apply Kd.R_drewN | apply Kd.R_drew)); exact HO714.out))) (Kd.R_lt (by (with_reducible repeat (first | apply Kd.R_alloc | apply Kd.R_drewN | apply Kd.R_drew)); exact HO717.out))) (below_size (by repeat (first | (with_reducible first | exact HB.out | apply bwA | apply pwN | apply bwD | refine below_set ?_ GE718.out | refine below_set ?_ GE719.out) | exact HB.out))))
            have n8_ := Sd.mk (blk_below (g := gb718) (o := .cells #[.slice Ao83 t706.length co83, .slice Ao86 t709.length co86] 47 (0, 0)) (by (with_reducible repeat (first | refine blk_drewN ?_ _ | refine blk_drew ?_ | refine blk_alloc ?_ _)); exact BK718.out) hb)
            have n9_ := Sd.mk (blk_below (g := gb719) (o := .cells #[.slice Ao87 t712.length co87, .slice Ao89 t715.length co89] 47 (0, 0)) (by (with_reducible repeat (first | refine blk_drewN ?_ _ | refine blk_drew ?_ | refine blk_alloc ?_ _)); exact BK719.out) hb)
            have n10_ := Sd.mk (below_step (by repeat (first | (with_reducible first | exact HB.out | apply bwA | apply pwN | apply bwD | refine below_set ?_ GE718.out | refine below_set ?_ GE719.out) | exact HB.out)) hb)
            clear HO_3
            clear HO_4
            clear HO_5
            clear HO708
            clear HO711
            clear HO714
            clear HO717
            clear BK718
            clear BK719
            clear HB
            have HO_3 := n0_
            have HO_4 := n1_
            have HO_5 := n2_
            have HO708 := n3_
            have HO711 := n4_
            have HO714 := n5_
            have HO717 := n6_
            have HO730 := n7_
            have BK718 := n8_
            have BK719 := n9_
            have HB := n10_
            clear n0_ n1_ n2_ n3_ n4_ n5_ n6_ n7_ n8_ n9_ n10_
            (try clear hb)
            (try clear hb2)
            (try clear hk)
            (try clear hi)
            (try clear ho0)
            obtain ⟨Ao110, co110, eo110⟩ := Kd.R_slice HO730.out
            (first | subst eo110 | (injection eo110 with f1_ f2_ f3_; have f4_ := f1_.symm; have f5_ := f3_.symm; clear f1_ f2_ f3_; subst f4_; subst f5_))
            refine hK.out _ _ ⟨(blk_cell BK718.out 0).trans rfl, (blk_cell BK718.out 1).trans rfl, (blk_cell BK719.out 0).trans rfl, (blk_cell BK719.out 1).trans rfl⟩ (fun hHeld => ?_)
            clear hK K
            refine norm_ (a' := ?_) ?_ ?_
            rotate_left
            ·show Act.put _ (some 115) _ = _
             simp only [Act.put, List.setIfInBounds_toArray, List.set_cons_zero, List.set_cons_succ, i64_w, i32_w]
             rfl
            refine one_ (i := 19) (N := some 116) #[true, true, true, true, true, true, true, true, true, true, true, true, true, true, true, true, true, true, true, true, false, false, false, false, false, false, false, false, false, false] rfl rfl (one_of HT_.out (by kernel_rfl)) (by decide) (fun K hK => ?_)
            refine goes_ Try.func14 (by kernel_rfl) rfl #[.slice Ao87 t712.length co87, .slice Ao110 t728.length co110] (by rfl) rfl rfl (by (try simp only [List.map_toArray, List.map_cons, List.map_nil]); first | done | rfl | (simp only [List.length_drop, List.length_take]; rfl)) ?_
            with_reducible refine (rf_Same.calls k2 _ _ t712 _ _ t728 true _ ?side1 ?side2 ?side3 ?side4 A97.out).mono ?_
            (case side1 => repeat (first | exact (Kd.R_reads' HO714.out).2.2 | (with_reducible refine Kd.C_alloc ?_ _) | (with_reducible refine Kd.C_drewN ?_ _) | (with_reducible refine Kd.C_drew ?_)))
            (case side2 => exact (Kd.R_reads' HO714.out).2.1)
            (case side3 => repeat (first | exact (Kd.R_reads' HO730.out).2.2 | (with_reducible refine Kd.C_alloc ?_ _) | (with_reducible refine Kd.C_drewN ?_ _) | (with_reducible refine Kd.C_drew ?_)))
            (case side4 => exact (Kd.R_reads' HO730.out).2.1)
            rintro e w' ⟨rfl, ⟨nd, rfl⟩⟩
            refine ⟨_, rfl, ?_⟩
            refine hK.out _ _ ⟨(blk_cell BK718.out 0).trans rfl, (blk_cell BK718.out 1).trans rfl, (blk_cell BK719.out 0).trans rfl, (blk_cell BK719.out 1).trans rfl⟩ (fun hHeld => ?_)
            clear hK K
            refine norm_ (a' := ?_) ?_ ?_
            rotate_left
            ·show Act.put _ (some 116) _ = _
             simp only [Act.put, List.setIfInBounds_toArray, List.set_cons_zero, List.set_cons_succ, i64_w, i32_w]
             rfl
            refine pure_ (i := 20) (N := some 117) (v := ?_) (a' := ?_) #[true, true, true, true, true, true, true, true, true, true, true, true, true, true, true, true, true, true, true, true, true, false, false, false, false, false, false, false, false, false] rfl rfl (any_of HT_.out (by kernel_rfl)) (fun _ _ _ h => h) (Or.inl ⟨by rfl, ?_⟩) ?_ ?_
            rotate_left
            ·intro w'
             go_simp
             with_reducible rfl
            rotate_left
            ·simp only [Act.put, List.setIfInBounds_toArray, List.set_cons_zero, List.set_cons_succ, i64_w, i32_w]
             rfl
            refine pure_ (i := 21) (N := some 118) (v := ?_) (a' := ?_) #[true, true, true, true, true, true, true, true, true, true, true, true, true, true, true, true, true, true, true, true, true, true, false, false, false, false, false, false, false, false] rfl rfl (any_of HT_.out (by kernel_rfl)) (fun _ _ _ h => h) (Or.inl ⟨by rfl, ?_⟩) ?_ ?_
            rotate_left
            ·intro w'
             go_simp
             with_reducible rfl
            rotate_left
            ·simp only [Act.put, List.setIfInBounds_toArray, List.set_cons_zero, List.set_cons_succ, i64_w, i32_w]
             rfl
            refine pure_ (i := 22) (N := some 119) (v := ?_) (a' := ?_) #[true, true, true, true, true, true, true, true, true, true, true, true, true, true, true, true, true, true, true, true, true, true, true, false, false, false, false, false, false, false] rfl rfl (any_of HT_.out (by kernel_rfl)) (fun _ _ _ h => h) (Or.inl ⟨by rfl, ?_⟩) ?_ ?_
            rotate_left
            ·intro w'
             go_simp
             with_reducible rfl
            rotate_left
            ·simp only [Act.put, List.setIfInBounds_toArray, List.set_cons_zero, List.set_cons_succ, i64_w, i32_w]
             rfl
            refine pure_ (i := 23) (N := some 120) (v := ?_) (a' := ?_) #[true, true, true, true, true, true, true, true, true, true, true, true, true, true, true, true, true, true, true, true, true, true, true, true, false, false, false, false, false, false] rfl rfl (any_of HT_.out (by kernel_rfl)) (fun _ _ _ h => h) (Or.inl ⟨by rfl, ?_⟩) ?_ ?_
            rotate_left
            ·intro w'
             go_simp
             with_reducible rfl
            rotate_left
            ·simp only [Act.put, List.setIfInBounds_toArray, List.set_cons_zero, List.set_cons_succ, i64_w, i32_w]
             rfl
            refine pure_ (i := 25) (N := some 122) (v := ?_) (a' := ?_) #[true, true, true, true, true, true, true, true, true, true, true, true, true, true, true, true, true, true, true, true, true, true, true, true, false, true, false, false, false, false] rfl rfl (any_of HT_.out (by kernel_rfl)) (fun _ _ _ h => h) (Or.inl ⟨by rfl, ?_⟩) ?_ ?_
            rotate_left
            ·intro w'
             go_simp
             with_reducible rfl
            rotate_left
            ·simp only [Act.put, List.setIfInBounds_toArray, List.set_cons_zero, List.set_cons_succ, i64_w, i32_w]
             rfl
            refine take_ (i := 24) (N := some 121) (v := ?_) (a' := ?_) #[true, true, true, true, true, true, true, true, true, true, true, true, true, true, true, true, true, true, true, true, true, true, true, true, true, true, false, false, false, false] rfl rfl (take_ofW HT_.out HW_.out (by kernel_rfl)) (fun _ _ _ h => h) (Or.inl ⟨by rfl, ?_⟩) hHeld ?_ ?_
            rotate_left
            ·rintro w' ⟨s0, s1, s2, s3⟩
             go_simp
             with_reducible rfl
            rotate_left
            ·simp only [Act.put, List.setIfInBounds_toArray, List.set_cons_zero, List.set_cons_succ, i64_w, i32_w]
             rfl
            refine one_ (i := 26) (N := some 123) #[true, true, true, true, true, true, true, true, true, true, true, true, true, true, true, true, true, true, true, true, true, true, true, true, true, true, true, false, false, false] rfl rfl (one_of HT_.out (by kernel_rfl)) (by decide) (fun K hK => ?_)
            refine goes_ Try.func16 (by kernel_rfl) rfl #[.slice Ao106 t647.length co106] (by rfl) rfl rfl (by (try simp only [List.map_toArray, List.map_cons, List.map_nil]); first | done | rfl | (simp only [List.length_drop, List.length_take]; rfl)) ?_
            with_reducible refine (incipitref19_Meet.calls k2 _ _ t647 t732 _ ?side1 ?side2 A99.out).mono ?_
            (case side1 => repeat (first | exact (Kd.N_reads' HO_4.out).2.2 | (with_reducible refine Kd.C_alloc ?_ _) | (with_reducible refine Kd.C_drewN ?_ _) | (with_reducible refine Kd.C_drew ?_)))
            (case side2 => exact (Kd.N_reads' HO_4.out).2.1)
            rintro e w111 ⟨v733, rfl, ho0, hb⟩
            refine ⟨_, rfl, ?_⟩
            have n0_ := Sd.mk (Kd.N_elder' (by (with_reducible repeat (first | apply Kd.N_alloc | apply Kd.N_drewN | apply Kd.N_drew)); exact HO_3.out) (Kd.R_base ho0) hb)
            have n1_ := Sd.mk (Kd.N_elder' (by (with_reducible repeat (first | apply Kd.N_alloc | apply Kd.N_drewN | apply Kd.N_drew)); exact HO_4.out) (Kd.R_base ho0) hb)
            have n2_ := Sd.mk (Kd.N_elder' (by (with_reducible repeat (first | apply Kd.N_alloc | apply Kd.N_drewN | apply Kd.N_drew)); exact HO_5.out) (Kd.R_base ho0) hb)
            have n3_ := Sd.mk (Kd.R_elder' (by (with_reducible repeat (first | apply Kd.R_alloc | apply Kd.R_drewN | apply Kd.R_drew)); exact HO708.out) (Kd.R_base ho0) hb)
            have n4_ := Sd.mk (Kd.R_elder' (by (with_reducible repeat (first | apply Kd.R_alloc | apply Kd.R_drewN | apply Kd.R_drew)); exact HO711.out) (Kd.R_base ho0) hb)
            have n5_ := Sd.mk (Kd.R_elder' (by (with_reducible repeat (first | apply Kd.R_alloc | apply Kd.R_drewN | apply Kd.R_drew)); exact HO714.out) (Kd.R_base ho0) hb)
            have n6_ := Sd.mk (Kd.R_elder' (by (with_reducible repeat (first | apply Kd.R_alloc | apply Kd.R_drewN | apply Kd.R_drew)); exact HO717.out) (Kd.R_base ho0) hb)
            have n7_ := Sd.mk (Kd.R_lower (Kd.R_new' (Kd.R_new' (Kd.R_new' (Kd.R_new' ho0 (Kd.R_lt (by (with_reducible repeat (first | apply Kd.R_alloc | apply Kd.R_drewN | apply Kd.R_drew)); exact HO708.out))) (Kd.R_lt (by (with_reducible repeat (first | apply Kd.R_alloc | apply Kd.R_drewN | apply Kd.R_drew)); exact HO711.out))) (Kd.R_lt (by (with_reducible repeat (first | apply Kd.R_alloc | apply Kd.R_drewN | apply Kd.R_drew)); exact HO714.out))) (Kd.R_lt (by (with_reducible repeat (first | apply Kd.R_alloc | apply Kd.R_drewN | apply Kd.R_drew)); exact HO717.out))) (below_size (by repeat (first | (with_reducible first | exact HB.out | apply bwA | apply pwN | apply bwD | refine below_set ?_ GE718.out | refine below_set ?_ GE719.out) | exact HB.out))))
            have n8_ := Sd.mk (blk_below (g := gb718) (o := .cells #[.slice Ao83 t706.length co83, .slice Ao86 t709.length co86] 47 (0, 0)) (by (with_reducible repeat (first | refine blk_drewN ?_ _ | refine blk_drew ?_ | refine blk_alloc ?_ _)); exact BK718.out) hb)
            have n9_ := Sd.mk (blk_below (g := gb719) (o := .cells #[.slice Ao87 t712.length co87, .slice Ao89 t715.length co89] 47 (0, 0)) (by (with_reducible repeat (first | refine blk_drewN ?_ _ | refine blk_drew ?_ | refine blk_alloc ?_ _)); exact BK719.out) hb)
            have n10_ := Sd.mk (below_step (by repeat (first | (with_reducible first | exact HB.out | apply bwA | apply pwN | apply bwD | refine below_set ?_ GE718.out | refine below_set ?_ GE719.out) | exact HB.out)) hb)
            clear HO_3
            clear HO_4
            clear HO_5
            clear HO708
            clear HO711
            clear HO714
            clear HO717
            clear BK718
            clear BK719
            clear HB
            have HO_3 := n0_
            have HO_4 := n1_
            have HO_5 := n2_
            have HO708 := n3_
            have HO711 := n4_
            have HO714 := n5_
            have HO717 := n6_
            have HO734 := n7_
            have BK718 := n8_
            have BK719 := n9_
            have HB := n10_
            clear n0_ n1_ n2_ n3_ n4_ n5_ n6_ n7_ n8_ n9_ n10_
            (try clear hb)
            (try clear hb2)
            (try clear hk)
            (try clear hi)
            (try clear ho0)
            obtain ⟨Ao112, co112, eo112⟩ := Kd.R_slice HO734.out
            (first | subst eo112 | (injection eo112 with f1_ f2_ f3_; have f4_ := f1_.symm; have f5_ := f3_.symm; clear f1_ f2_ f3_; subst f4_; subst f5_))
            refine hK.out _ _ ⟨(blk_cell BK718.out 0).trans rfl, (blk_cell BK718.out 1).trans rfl, (blk_cell BK719.out 0).trans rfl, (blk_cell BK719.out 1).trans rfl⟩ (fun hHeld => ?_)
            clear hK K
            refine norm_ (a' := ?_) ?_ ?_
            rotate_left
            ·show Act.put _ (some 123) _ = _
             simp only [Act.put, List.setIfInBounds_toArray, List.set_cons_zero, List.set_cons_succ, i64_w, i32_w]
             rfl
            refine one_ (i := 27) (N := some 124) #[true, true, true, true, true, true, true, true, true, true, true, true, true, true, true, true, true, true, true, true, true, true, true, true, true, true, true, true, false, false] rfl rfl (one_of HT_.out (by kernel_rfl)) (by decide) (fun K hK => ?_)
            refine goes_ Try.func14 (by kernel_rfl) rfl #[.slice Ao89 t715.length co89, .slice Ao112 t732.length co112] (by rfl) rfl rfl (by (try simp only [List.map_toArray, List.map_cons, List.map_nil]); first | done | rfl | (simp only [List.length_drop, List.length_take]; rfl)) ?_
            with_reducible refine (rf_Same.calls k2 _ _ t715 _ _ t732 t735 _ ?side1 ?side2 ?side3 ?side4 A100.out).mono ?_
            (case side1 => repeat (first | exact (Kd.R_reads' HO717.out).2.2 | (with_reducible refine Kd.C_alloc ?_ _) | (with_reducible refine Kd.C_drewN ?_ _) | (with_reducible refine Kd.C_drew ?_)))
            (case side2 => exact (Kd.R_reads' HO717.out).2.1)
            (case side3 => repeat (first | exact (Kd.R_reads' HO734.out).2.2 | (with_reducible refine Kd.C_alloc ?_ _) | (with_reducible refine Kd.C_drewN ?_ _) | (with_reducible refine Kd.C_drew ?_)))
            (case side4 => exact (Kd.R_reads' HO734.out).2.1)
            rintro e w' ⟨rfl, ⟨nd, rfl⟩⟩
            refine ⟨_, rfl, ?_⟩
            refine hK.out _ _ ⟨(blk_cell BK718.out 0).trans rfl, (blk_cell BK718.out 1).trans rfl, (blk_cell BK719.out 0).trans rfl, (blk_cell BK719.out 1).trans rfl⟩ (fun hHeld => ?_)
            clear hK K
            refine norm_ (a' := ?_) ?_ ?_
            rotate_left
            ·show Act.put _ (some 124) _ = _
             simp only [Act.put, List.setIfInBounds_toArray, List.set_cons_zero, List.set_cons_succ, i64_w, i32_w]
             rfl
            refine pure_ (i := 28) (N := some 125) (v := ?_) (a' := ?_) #[true, true, true, true, true, true, true, true, true, true, true, true, true, true, true, true, true, true, true, true, true, true, true, true, true, true, true, true, true, false] rfl rfl (any_of HT_.out (by kernel_rfl)) (fun _ _ _ h => h) (Or.inl ⟨by rfl, ?_⟩) ?_ ?_
            rotate_left
            ·intro w'
             go_simp
             with_reducible rfl
            rotate_left
            ·simp only [Act.put, List.setIfInBounds_toArray, List.set_cons_zero, List.set_cons_succ, i64_w, i32_w]
             rfl
            refine pure_ (i := 29) (N := some 126) (v := ?_) (a' := ?_) #[true, true, true, true, true, true, true, true, true, true, true, true, true, true, true, true, true, true, true, true, true, true, true, true, true, true, true, true, true, true] rfl rfl (any_of HT_.out (by kernel_rfl)) (fun _ _ _ h => h) (Or.inl ⟨by rfl, ?_⟩) ?_ ?_
            rotate_left
            ·intro w'
             go_simp
             with_reducible rfl
            rotate_left
            ·simp only [Act.put, List.setIfInBounds_toArray, List.set_cons_zero, List.set_cons_succ, i64_w, i32_w]
             rfl
            refine done_ (done_of HT_.out (by kernel_rfl)) ?_
            try go_wp2
            go_meet
            case rel => exact ⟨_, (!t735), (by first | rfl | (simp; done) | (simp [*]; done)), H', ⟨by have := HJ6.out; have := HK2.out; first | omega | exact Nat.le_refl _⟩, ⟨by (with_reducible repeat (first | apply Kd.N_alloc | apply Kd.N_drewN | apply Kd.N_drew)); exact Kd.N_mono HO_3.out (fun _ hk => ⟨hk.1.1.1.1.1, ⟨hk.1.1.1.1.2.1, ⟨hk.1.1.1.1.2.2.1, ⟨hk.1.1.1.1.2.2.2.1, ⟨hk.1.1.1.1.2.2.2.2.1, ⟨hk.1.1.1.1.2.2.2.2.2.1, ⟨hk.1.1.1.1.2.2.2.2.2.2.1, hk.1.1.1.1.2.2.2.2.2.2.2⟩⟩⟩⟩⟩⟩⟩)⟩, ⟨by (with_reducible repeat (first | apply Kd.N_alloc | apply Kd.N_drewN | apply Kd.N_drew)); exact Kd.N_mono HO_4.out (fun _ hk => ⟨hk.1.1.1.1.1, ⟨hk.1.1.1.1.2.1, ⟨hk.1.1.1.1.2.2.1, ⟨hk.1.1.1.1.2.2.2.1, ⟨hk.1.1.1.1.2.2.2.2.1, ⟨hk.1.1.1.1.2.2.2.2.2.1, ⟨hk.1.1.1.1.2.2.2.2.2.2.1, hk.1.1.1.1.2.2.2.2.2.2.2⟩⟩⟩⟩⟩⟩⟩)⟩, ⟨by (with_reducible repeat (first | apply Kd.N_alloc | apply Kd.N_drewN | apply Kd.N_drew)); exact Kd.N_mono HO_5.out (fun _ hk => ⟨hk.1.1.1.1.1, ⟨hk.1.1.1.1.2.1, ⟨hk.1.1.1.1.2.2.1, ⟨hk.1.1.1.1.2.2.2.1, ⟨hk.1.1.1.1.2.2.2.2.1, ⟨hk.1.1.1.1.2.2.2.2.2.1, ⟨hk.1.1.1.1.2.2.2.2.2.2.1, hk.1.1.1.1.2.2.2.2.2.2.2⟩⟩⟩⟩⟩⟩⟩)⟩, ⟨by (with_reducible repeat (first | apply Kd.R_alloc | apply Kd.R_drewN | apply Kd.R_drew)); exact Kd.R_mono HO708.out (fun _ hk => ⟨hk.1.1.1.1.1, ⟨hk.1.1.1.1.2.1, hk.1.1.1.1.2.2⟩⟩)⟩, ⟨by (with_reducible repeat (first | apply Kd.R_alloc | apply Kd.R_drewN | apply Kd.R_drew)); exact Kd.R_mono HO711.out (fun _ hk => ⟨hk.1.1.1.1.1, ⟨hk.1.1.1.1.2.1, hk.1.1.1.1.2.2⟩⟩)⟩, ⟨by (with_reducible repeat (first | apply Kd.R_alloc | apply Kd.R_drewN | apply Kd.R_drew)); exact Kd.R_mono HO714.out (fun _ hk => ⟨hk.1.1.1.1.1, ⟨hk.1.1.1.1.2.1, hk.1.1.1.1.2.2⟩⟩)⟩, ⟨by (with_reducible repeat (first | apply Kd.R_alloc | apply Kd.R_drewN | apply Kd.R_drew)); exact Kd.R_mono HO717.out (fun _ hk => ⟨hk.1.1.1.1.1, ⟨hk.1.1.1.1.2.1, hk.1.1.1.1.2.2⟩⟩)⟩, ⟨by (with_reducible repeat (first | refine blk_drewN ?_ _ | refine blk_drew ?_ | refine blk_alloc ?_ _)); exact BK718.out⟩, ⟨by (with_reducible repeat (first | refine blk_drewN ?_ _ | refine blk_drew ?_ | refine blk_alloc ?_ _)); exact BK719.out⟩, ⟨by repeat (first | (with_reducible first | exact HB.out | apply bwA | apply pwN | apply bwD | refine below_set ?_ GE718.out | refine below_set ?_ GE719.out) | exact HB.out)⟩⟩
           ·replace c98 := Bool.eq_false_iff.mpr c98
            subst c98
            have H1 : (incipitlaw19_AxisKnown.j2 k2 t644 t647 x5_2 true) = some r := by rw [if_neg (show ¬ (false = true) by decide)] at H; exact H
            clear H
            have H := H1
            clear H1
            exact absurd ((incipitlaw19_AxisKnown.j2_no _ _ _ _ _ H).symm.trans HT.out) (by decide)
          ·replace c95 := Bool.eq_false_iff.mpr c95
           subst c95
           have H1 : (incipitlaw19_AxisKnown.j2 k2 t644 t647 x5_2 true) = some r := by rw [if_neg (show ¬ (false = true) by decide)] at H; exact H
           clear H
           have H := H1
           clear H1
           exact absurd ((incipitlaw19_AxisKnown.j2_no _ _ _ _ _ H).symm.trans HT.out) (by decide)
         ·replace c92 := Bool.eq_false_iff.mpr c92
          subst c92
          have H1 : (incipitlaw19_AxisKnown.j2 k2 t644 t647 x5_2 true) = some r := by rw [if_neg (show ¬ (false = true) by decide)] at H; exact H
          clear H
          have H := H1
          clear H1
          exact absurd ((incipitlaw19_AxisKnown.j2_no _ _ _ _ _ H).symm.trans HT.out) (by decide)
        case rest =>
         clear HC77
         try clear c1
         try clear p2
         try clear c9
         try clear c14
         try clear c15
         try clear c16
         try clear c92
         try clear c95
         try clear c98
         obtain ⟨kq, x126_76, rfl, HA, HJ76, HO_3, HO_4, HO_5, HO_719000, HO_719001, HO_720000, HO_720001, BK718, BK719, HB⟩ := hcut
         cases kq with
         | zero => exact absurd HA.out (by simp [incipitlaw19_AxisKnown.j2])
         | succ kj76 =>
          have H := HA.out
          clear HA
          simp only [incipitlaw19_AxisKnown.j2] at H
          by_cases c113 : x126_76 = true
          ·subst c113
           have H1 : (some false) = some r := by rw [if_pos rfl] at H; exact H
           clear H
           have H := H1
           clear H1
           exact absurd ((Option.some.inj H).trans HT.out) (by decide)
          ·replace c113 := Bool.eq_false_iff.mpr c113
           subst c113
           have H1 : ((incipitref19_Yes.f kj76 x5_2).bind fun t736 => ((incipitlaw19_kept.f kj76 t736 t644).bind fun t739 => (if t739 = true then ((incipitref19_No.f kj76 x5_2).bind fun t740 => ((incipitlaw19_kept.f kj76 t740 t647).bind fun t743 => (if t743 = true then ((incipitlaw19_awake.f kj76).bind fun t744 => (some t744)) else (some false)))) else (some false)))) = some r := by rw [if_neg (show ¬ (false = true) by decide)] at H; exact H
           clear H
           have H := H1
           clear H1
           replace H := Option.bind_eq_some_iff.mp H
           obtain ⟨t736, A1140, H⟩ := H
           replace H : ((incipitlaw19_kept.f kj76 t736 t644).bind fun t739 => (if t739 = true then ((incipitref19_No.f kj76 x5_2).bind fun t740 => ((incipitlaw19_kept.f kj76 t740 t647).bind fun t743 => (if t743 = true then ((incipitlaw19_awake.f kj76).bind fun t744 => (some t744)) else (some false)))) else (some false))) = some r := H
           have A114 := Sd.mk A1140
           clear A1140
           replace H := Option.bind_eq_some_iff.mp H
           obtain ⟨t739, A1150, H⟩ := H
           replace H : (if t739 = true then ((incipitref19_No.f kj76 x5_2).bind fun t740 => ((incipitlaw19_kept.f kj76 t740 t647).bind fun t743 => (if t743 = true then ((incipitlaw19_awake.f kj76).bind fun t744 => (some t744)) else (some false)))) else (some false)) = some r := H
           have A115 := Sd.mk A1150
           clear A1150
           by_cases c116 : t739 = true
           ·subst c116
            have H1 : ((incipitref19_No.f kj76 x5_2).bind fun t740 => ((incipitlaw19_kept.f kj76 t740 t647).bind fun t743 => (if t743 = true then ((incipitlaw19_awake.f kj76).bind fun t744 => (some t744)) else (some false)))) = some r := by rw [if_pos rfl] at H; exact H
            clear H
            have H := H1
            clear H1
            replace H := Option.bind_eq_some_iff.mp H
            obtain ⟨t740, A1170, H⟩ := H
            replace H : ((incipitlaw19_kept.f kj76 t740 t647).bind fun t743 => (if t743 = true then ((incipitlaw19_awake.f kj76).bind fun t744 => (some t744)) else (some false))) = some r := H
            have A117 := Sd.mk A1170
            clear A1170
            replace H := Option.bind_eq_some_iff.mp H
            obtain ⟨t743, A1180, H⟩ := H
            replace H : (if t743 = true then ((incipitlaw19_awake.f kj76).bind fun t744 => (some t744)) else (some false)) = some r := H
            have A118 := Sd.mk A1180
            clear A1180
            by_cases c119 : t743 = true
            ·subst c119
             have H1 : ((incipitlaw19_awake.f kj76).bind fun t744 => (some t744)) = some r := by rw [if_pos rfl] at H; exact H
             clear H
             have H := H1
             clear H1
             replace H := Option.bind_eq_some_iff.mp H
             obtain ⟨t744, A1200, H⟩ := H
             replace H : (some t744) = some r := H
             have A120 := Sd.mk A1200
             clear A1200
             obtain rfl := Option.some.inj H
             go_wp2_with (first | ((with_reducible refine gate_callee (f := 28) rfl ?_); refine goesL_ (some 128) rfl rfl Try.func28 (by kernel_rfl) rfl #[.slice Ao78 x5_2.length co78] rfl (by (try simp only [List.map_toArray, List.map_cons, List.map_nil]); first | done | rfl | (simp only [List.length_drop, List.length_take]; rfl)) ?_; (with_reducible refine (incipitref19_Yes.calls kj76 (fun k_ => (some k_ ≠ (v645 : Value).ownBlock ∧ (some k_ ≠ (v648 : Value).ownBlock ∧ (some k_ ≠ (.slice Ao83 t706.length co83 : Value).ownBlock ∧ (some k_ ≠ (.slice Ao86 t709.length co86 : Value).ownBlock ∧ (some k_ ≠ (.slice Ao87 t712.length co87 : Value).ownBlock ∧ (some k_ ≠ (.slice Ao89 t715.length co89 : Value).ownBlock ∧ (k_ ≠ gb718 ∧ k_ ≠ gb719)))))))) _ _ x5_2 t736 _ ?side1 A114.out).mono ?_); (case side1 => exact Kd.N_V (HO_5.out)); rintro e w121 ⟨v737, rfl, ho0, hb⟩; refine ⟨_, rfl, ?_⟩; have n0_ := Sd.mk (Kd.N_elder' (by (with_reducible repeat (first | apply Kd.N_alloc | apply Kd.N_drewN | apply Kd.N_drew)); exact HO_3.out) (Kd.N_base ho0) hb); have n1_ := Sd.mk (Kd.N_elder' (by (with_reducible repeat (first | apply Kd.N_alloc | apply Kd.N_drewN | apply Kd.N_drew)); exact HO_4.out) (Kd.N_base ho0) hb); have n2_ := Sd.mk (Kd.N_elder' (by (with_reducible repeat (first | apply Kd.N_alloc | apply Kd.N_drewN | apply Kd.N_drew)); exact HO_5.out) (Kd.N_base ho0) hb); have n3_ := Sd.mk (Kd.R_below (by (with_reducible repeat (first | apply Kd.R_alloc | apply Kd.R_drewN | apply Kd.R_drew)); exact HO_719000.out) hb); have n4_ := Sd.mk (Kd.R_below (by (with_reducible repeat (first | apply Kd.R_alloc | apply Kd.R_drewN | apply Kd.R_drew)); exact HO_719001.out) hb); have n5_ := Sd.mk (Kd.R_below (by (with_reducible repeat (first | apply Kd.R_alloc | apply Kd.R_drewN | apply Kd.R_drew)); exact HO_720000.out) hb); have n6_ := Sd.mk (Kd.R_below (by (with_reducible repeat (first | apply Kd.R_alloc | apply Kd.R_drewN | apply Kd.R_drew)); exact HO_720001.out) hb); have n7_ := Sd.mk (Kd.N_lower (Kd.N_mono (ok' := fun k_ => some k_ ≠ (v645 : Value).ownBlock ∧ some k_ ≠ (v648 : Value).ownBlock ∧ some k_ ≠ (.slice Ao83 t706.length co83 : Value).ownBlock ∧ some k_ ≠ (.slice Ao86 t709.length co86 : Value).ownBlock ∧ some k_ ≠ (.slice Ao87 t712.length co87 : Value).ownBlock ∧ some k_ ≠ (.slice Ao89 t715.length co89 : Value).ownBlock ∧ k_ ≠ gb718 ∧ k_ ≠ gb719) ho0 (fun k_ hk_ => ⟨Or.elim hk_ (fun hs_ => hs_.1) (fun hn_ => (Kd.fresh' (Kd.N_lt (by (with_reducible repeat (first | apply Kd.N_alloc | apply Kd.N_drewN | apply Kd.N_drew)); exact HO_3.out)) k_ hn_)), Or.elim hk_ (fun hs_ => hs_.2.1) (fun hn_ => (Kd.fresh' (Kd.N_lt (by (with_reducible repeat (first | apply Kd.N_alloc | apply Kd.N_drewN | apply Kd.N_drew)); exact HO_4.out)) k_ hn_)), Or.elim hk_ (fun hs_ => hs_.2.2.1) (fun hn_ => (Kd.fresh' (Kd.R_lt (by (with_reducible repeat (first | apply Kd.R_alloc | apply Kd.R_drewN | apply Kd.R_drew)); exact HO_719000.out)) k_ hn_)), Or.elim hk_ (fun hs_ => hs_.2.2.2.1) (fun hn_ => (Kd.fresh' (Kd.R_lt (by (with_reducible repeat (first | apply Kd.R_alloc | apply Kd.R_drewN | apply Kd.R_drew)); exact HO_719001.out)) k_ hn_)), Or.elim hk_ (fun hs_ => hs_.2.2.2.2.1) (fun hn_ => (Kd.fresh' (Kd.R_lt (by (with_reducible repeat (first | apply Kd.R_alloc | apply Kd.R_drewN | apply Kd.R_drew)); exact HO_720000.out)) k_ hn_)), Or.elim hk_ (fun hs_ => hs_.2.2.2.2.2.1) (fun hn_ => (Kd.fresh' (Kd.R_lt (by (with_reducible repeat (first | apply Kd.R_alloc | apply Kd.R_drewN | apply Kd.R_drew)); exact HO_720001.out)) k_ hn_)), Or.elim hk_ (fun hs_ => hs_.2.2.2.2.2.2.1) (fun hn_ => (Kd.freshB (g := gb718) (o := .cells #[.slice Ao83 t706.length co83, .slice Ao86 t709.length co86] 47 (0, 0)) (by (with_reducible repeat (first | refine blk_drewN ?_ _ | refine blk_drew ?_ | refine blk_alloc ?_ _)); exact BK718.out) k_ hn_)), Or.elim hk_ (fun hs_ => hs_.2.2.2.2.2.2.2) (fun hn_ => (Kd.freshB (g := gb719) (o := .cells #[.slice Ao87 t712.length co87, .slice Ao89 t715.length co89] 47 (0, 0)) (by (with_reducible repeat (first | refine blk_drewN ?_ _ | refine blk_drew ?_ | refine blk_alloc ?_ _)); exact BK719.out) k_ hn_))⟩)) (below_size (by repeat (first | (with_reducible first | exact HB.out | apply bwA | apply pwN | apply bwD | refine below_set ?_ GE718.out | refine below_set ?_ GE719.out) | exact HB.out)))); have n8_ := Sd.mk (blk_below (g := gb718) (o := .cells #[.slice Ao83 t706.length co83, .slice Ao86 t709.length co86] 47 (0, 0)) (by (with_reducible repeat (first | refine blk_drewN ?_ _ | refine blk_drew ?_ | refine blk_alloc ?_ _)); exact BK718.out) hb); have n9_ := Sd.mk (blk_below (g := gb719) (o := .cells #[.slice Ao87 t712.length co87, .slice Ao89 t715.length co89] 47 (0, 0)) (by (with_reducible repeat (first | refine blk_drewN ?_ _ | refine blk_drew ?_ | refine blk_alloc ?_ _)); exact BK719.out) hb); have n10_ := Sd.mk (below_step (by repeat (first | (with_reducible first | exact HB.out | apply bwA | apply pwN | apply bwD | refine below_set ?_ GE718.out | refine below_set ?_ GE719.out) | exact HB.out)) hb); clear HO_3; clear HO_4; clear HO_5; clear HO_719000; clear HO_719001; clear HO_720000; clear HO_720001; clear BK718; clear BK719; clear HB; have HO_3 := n0_; have HO_4 := n1_; have HO_5 := n2_; have HO_719000 := n3_; have HO_719001 := n4_; have HO_720000 := n5_; have HO_720001 := n6_; have HO738 := n7_; have BK718 := n8_; have BK719 := n9_; have HB := n10_; clear n0_ n1_ n2_ n3_ n4_ n5_ n6_ n7_ n8_ n9_ n10_; (try clear hb); (try clear hb2); (try clear hk); (try clear hi); (try clear ho0); obtain ⟨Ao122, co122, eo122⟩ := Kd.N_slice HO738.out; subst eo122; obtain ⟨Ao123, co123, eo123⟩ := Kd.N_slice HO_3.out; subst eo123) | ((with_reducible refine gate_callee (f := 19) rfl ?_); refine goesL_ (some 130) rfl rfl Try.func19 (by kernel_rfl) rfl #[.slice Ao122 t736.length co122, .slice Ao123 t644.length co123] rfl (by (try simp only [List.map_toArray, List.map_cons, List.map_nil]); first | done | rfl | (simp only [List.length_drop, List.length_take]; rfl)) ?_; (with_reducible refine (incipitlaw19_kept.calls kj76 _ _ t736 _ _ t644 true _ ?side1 ?side2 ?side3 ?side4 A115.out).mono ?_); (case side1 => repeat (first | exact (Kd.N_reads' HO738.out).2.2 | (with_reducible refine Kd.C_alloc ?_ _) | (with_reducible refine Kd.C_drewN ?_ _) | (with_reducible refine Kd.C_drew ?_))); (case side2 => exact (Kd.N_reads' HO738.out).2.1); (case side3 => repeat (first | exact (Kd.N_reads' HO_3.out).2.2 | (with_reducible refine Kd.C_alloc ?_ _) | (with_reducible refine Kd.C_drewN ?_ _) | (with_reducible refine Kd.C_drew ?_))); (case side4 => exact (Kd.N_reads' HO_3.out).2.1); rintro e w' ⟨rfl, ⟨nd, rfl⟩⟩; refine ⟨_, rfl, ?_⟩) | (go_at_call 29; (with_reducible refine (incipitref19_No.calls kj76 (fun k_ => ((some k_ ≠ (.slice Ao123 t644.length co123 : Value).ownBlock ∧ (some k_ ≠ (v648 : Value).ownBlock ∧ (some k_ ≠ (.slice Ao83 t706.length co83 : Value).ownBlock ∧ (some k_ ≠ (.slice Ao86 t709.length co86 : Value).ownBlock ∧ (some k_ ≠ (.slice Ao87 t712.length co87 : Value).ownBlock ∧ (some k_ ≠ (.slice Ao89 t715.length co89 : Value).ownBlock ∧ (k_ ≠ gb718 ∧ k_ ≠ gb719))))))) ∧ some k_ ≠ (.slice Ao122 t736.length co122 : Value).ownBlock)) _ _ x5_2 t740 _ ?side1 A117.out).mono ?_); (case side1 => exact Kd.N_V (HO_5.out)); rintro e w124 ⟨v741, rfl, ho0, hb⟩; have n0_ := Sd.mk (Kd.N_elder' (by (with_reducible repeat (first | apply Kd.N_alloc | apply Kd.N_drewN | apply Kd.N_drew)); exact HO_4.out) (Kd.N_base ho0) hb); have n1_ := Sd.mk (Kd.N_elder' (by (with_reducible repeat (first | apply Kd.N_alloc | apply Kd.N_drewN | apply Kd.N_drew)); exact HO_5.out) (Kd.N_base ho0) hb); have n2_ := Sd.mk (Kd.R_below (by (with_reducible repeat (first | apply Kd.R_alloc | apply Kd.R_drewN | apply Kd.R_drew)); exact HO_719000.out) hb); have n3_ := Sd.mk (Kd.R_below (by (with_reducible repeat (first | apply Kd.R_alloc | apply Kd.R_drewN | apply Kd.R_drew)); exact HO_719001.out) hb); have n4_ := Sd.mk (Kd.R_below (by (with_reducible repeat (first | apply Kd.R_alloc | apply Kd.R_drewN | apply Kd.R_drew)); exact HO_720000.out) hb); have n5_ := Sd.mk (Kd.R_below (by (with_reducible repeat (first | apply Kd.R_alloc | apply Kd.R_drewN | apply Kd.R_drew)); exact HO_720001.out) hb); have n6_ := Sd.mk (Kd.N_lower (Kd.N_mono (ok' := fun k_ => some k_ ≠ (v648 : Value).ownBlock ∧ some k_ ≠ (.slice Ao83 t706.length co83 : Value).ownBlock ∧ some k_ ≠ (.slice Ao86 t709.length co86 : Value).ownBlock ∧ some k_ ≠ (.slice Ao87 t712.length co87 : Value).ownBlock ∧ some k_ ≠ (.slice Ao89 t715.length co89 : Value).ownBlock ∧ k_ ≠ gb718 ∧ k_ ≠ gb719) ho0 (fun k_ hk_ => ⟨Or.elim hk_ (fun hs_ => hs_.1.2.1) (fun hn_ => (Kd.fresh' (Kd.N_lt (by (with_reducible repeat (first | apply Kd.N_alloc | apply Kd.N_drewN | apply Kd.N_drew)); exact HO_4.out)) k_ hn_)), Or.elim hk_ (fun hs_ => hs_.1.2.2.1) (fun hn_ => (Kd.fresh' (Kd.R_lt (by (with_reducible repeat (first | apply Kd.R_alloc | apply Kd.R_drewN | apply Kd.R_drew)); exact HO_719000.out)) k_ hn_)), Or.elim hk_ (fun hs_ => hs_.1.2.2.2.1) (fun hn_ => (Kd.fresh' (Kd.R_lt (by (with_reducible repeat (first | apply Kd.R_alloc | apply Kd.R_drewN | apply Kd.R_drew)); exact HO_719001.out)) k_ hn_)), Or.elim hk_ (fun hs_ => hs_.1.2.2.2.2.1) (fun hn_ => (Kd.fresh' (Kd.R_lt (by (with_reducible repeat (first | apply Kd.R_alloc | apply Kd.R_drewN | apply Kd.R_drew)); exact HO_720000.out)) k_ hn_)), Or.elim hk_ (fun hs_ => hs_.1.2.2.2.2.2.1) (fun hn_ => (Kd.fresh' (Kd.R_lt (by (with_reducible repeat (first | apply Kd.R_alloc | apply Kd.R_drewN | apply Kd.R_drew)); exact HO_720001.out)) k_ hn_)), Or.elim hk_ (fun hs_ => hs_.1.2.2.2.2.2.2.1) (fun hn_ => (Kd.freshB (g := gb718) (o := .cells #[.slice Ao83 t706.length co83, .slice Ao86 t709.length co86] 47 (0, 0)) (by (with_reducible repeat (first | refine blk_drewN ?_ _ | refine blk_drew ?_ | refine blk_alloc ?_ _)); exact BK718.out) k_ hn_)), Or.elim hk_ (fun hs_ => hs_.1.2.2.2.2.2.2.2) (fun hn_ => (Kd.freshB (g := gb719) (o := .cells #[.slice Ao87 t712.length co87, .slice Ao89 t715.length co89] 47 (0, 0)) (by (with_reducible repeat (first | refine blk_drewN ?_ _ | refine blk_drew ?_ | refine blk_alloc ?_ _)); exact BK719.out) k_ hn_))⟩)) (below_size (by repeat (first | (with_reducible first | exact HB.out | apply bwA | apply pwN | apply bwD | refine below_set ?_ GE718.out | refine below_set ?_ GE719.out) | exact HB.out)))); have n7_ := Sd.mk (blk_below (g := gb718) (o := .cells #[.slice Ao83 t706.length co83, .slice Ao86 t709.length co86] 47 (0, 0)) (by (with_reducible repeat (first | refine blk_drewN ?_ _ | refine blk_drew ?_ | refine blk_alloc ?_ _)); exact BK718.out) hb); have n8_ := Sd.mk (blk_below (g := gb719) (o := .cells #[.slice Ao87 t712.length co87, .slice Ao89 t715.length co89] 47 (0, 0)) (by (with_reducible repeat (first | refine blk_drewN ?_ _ | refine blk_drew ?_ | refine blk_alloc ?_ _)); exact BK719.out) hb); have n9_ := Sd.mk (below_step (by repeat (first | (with_reducible first | exact HB.out | apply bwA | apply pwN | apply bwD | refine below_set ?_ GE718.out | refine below_set ?_ GE719.out) | exact HB.out)) hb); clear HO_4; clear HO_5; clear HO_719000; clear HO_719001; clear HO_720000; clear HO_720001; clear BK718; clear BK719; clear HB; have HO_4 := n0_; have HO_5 := n1_; have HO_719000 := n2_; have HO_719001 := n3_; have HO_720000 := n4_; have HO_720001 := n5_; have HO742 := n6_; have BK718 := n7_; have BK719 := n8_; have HB := n9_; clear n0_ n1_ n2_ n3_ n4_ n5_ n6_ n7_ n8_ n9_; (try clear hb); (try clear hb2); (try clear hk); (try clear hi); (try clear ho0); obtain ⟨Ao125, co125, eo125⟩ := Kd.N_slice HO742.out; subst eo125; obtain ⟨Ao126, co126, eo126⟩ := Kd.N_slice HO_4.out; subst eo126) | (go_at_call 19; (with_reducible refine (incipitlaw19_kept.calls kj76 _ _ t740 _ _ t647 true _ ?side1 ?side2 ?side3 ?side4 A118.out).mono ?_); (case side1 => repeat (first | exact (Kd.N_reads' HO742.out).2.2 | (with_reducible refine Kd.C_alloc ?_ _) | (with_reducible refine Kd.C_drewN ?_ _) | (with_reducible refine Kd.C_drew ?_))); (case side2 => exact (Kd.N_reads' HO742.out).2.1); (case side3 => repeat (first | exact (Kd.N_reads' HO_4.out).2.2 | (with_reducible refine Kd.C_alloc ?_ _) | (with_reducible refine Kd.C_drewN ?_ _) | (with_reducible refine Kd.C_drew ?_))); (case side4 => exact (Kd.N_reads' HO_4.out).2.1); rintro e w' ⟨rfl, ⟨nd, rfl⟩⟩) | (go_at_call 10; (with_reducible refine (incipitlaw19_awake.calls kj76  t744 _ ?side1 A120.out).mono ?_); (case side1 => exact HT.out); rintro e w127 ⟨rfl, hb⟩; have n0_ := Sd.mk (Kd.R_below (by (with_reducible repeat (first | apply Kd.R_alloc | apply Kd.R_drewN | apply Kd.R_drew)); exact HO_719000.out) hb); have n1_ := Sd.mk (Kd.R_below (by (with_reducible repeat (first | apply Kd.R_alloc | apply Kd.R_drewN | apply Kd.R_drew)); exact HO_719001.out) hb); have n2_ := Sd.mk (Kd.R_below (by (with_reducible repeat (first | apply Kd.R_alloc | apply Kd.R_drewN | apply Kd.R_drew)); exact HO_720000.out) hb); have n3_ := Sd.mk (Kd.R_below (by (with_reducible repeat (first | apply Kd.R_alloc | apply Kd.R_drewN | apply Kd.R_drew)); exact HO_720001.out) hb); have n4_ := Sd.mk (blk_below (g := gb718) (o := .cells #[.slice Ao83 t706.length co83, .slice Ao86 t709.length co86] 47 (0, 0)) (by (with_reducible repeat (first | refine blk_drewN ?_ _ | refine blk_drew ?_ | refine blk_alloc ?_ _)); exact BK718.out) hb); have n5_ := Sd.mk (blk_below (g := gb719) (o := .cells #[.slice Ao87 t712.length co87, .slice Ao89 t715.length co89] 47 (0, 0)) (by (with_reducible repeat (first | refine blk_drewN ?_ _ | refine blk_drew ?_ | refine blk_alloc ?_ _)); exact BK719.out) hb); have n6_ := Sd.mk (below_step (by repeat (first | (with_reducible first | exact HB.out | apply bwA | apply pwN | apply bwD | refine below_set ?_ GE718.out | refine below_set ?_ GE719.out) | exact HB.out)) hb); clear HO_719000; clear HO_719001; clear HO_720000; clear HO_720001; clear BK718; clear BK719; clear HB; have HO_719000 := n0_; have HO_719001 := n1_; have HO_720000 := n2_; have HO_720001 := n3_; have BK718 := n4_; have BK719 := n5_; have HB := n6_; clear n0_ n1_ n2_ n3_ n4_ n5_ n6_; (try clear hb); (try clear hb2); (try clear hk); (try clear hi)))
             go_ret
             exact ⟨by first | rfl | (simp [errW_none, errW_some] <;> rfl) | (simp [*, errW_none, errW_some] <;> rfl), by repeat (first | (with_reducible first | exact HB.out | apply bwA | apply pwN | apply bwD | refine below_set ?_ GE718.out | refine below_set ?_ GE719.out) | exact HB.out)⟩
            ·replace c119 := Bool.eq_false_iff.mpr c119
             subst c119
             have H1 : (some false) = some r := by rw [if_neg (show ¬ (false = true) by decide)] at H; exact H
             clear H
             have H := H1
             clear H1
             exact absurd ((Option.some.inj H).trans HT.out) (by decide)
           ·replace c116 := Bool.eq_false_iff.mpr c116
            subst c116
            have H1 : (some false) = some r := by rw [if_neg (show ¬ (false = true) by decide)] at H; exact H
            clear H
            have H := H1
            clear H1
            exact absurd ((Option.some.inj H).trans HT.out) (by decide)

/-- THE ONE PURE STATEMENT of incipitlaw19_AxisKnown: yours. -/
def incipitlaw19_AxisKnown.Pure : Prop := ∀ (l0 : List (S47)), (GAll (fun x => (GAll (fun x => (GInt .u32) x.f0 ∧ (GInt .u32) x.f1)) x.f0 ∧ (GAll (fun x => (GInt .u32) x.f0 ∧ (GInt .u32) x.f1)) x.f1)) l0 → ∃ k, incipitlaw19_AxisKnown.f k l0 = some true
theorem incipitlaw19_AxisKnown.walk (P : incipitlaw19_AxisKnown.Pure) (A0 : Option Addr) (c0 : Nat) (l0 : List (S47)) (w : World) (hr0 : Kd.C k47 w A0 l0.length l0) (hc0 : l0.length ≤ c0) (g0 : (GAll (fun x => (GAll (fun x => (GInt .u32) x.f0 ∧ (GInt .u32) x.f1)) x.f0 ∧ (GAll (fun x => (GInt .u32) x.f0 ∧ (GInt .u32) x.f1)) x.f1)) l0) :
  Calls Try.prog 6 #[.slice A0 l0.length c0] w fun e w' => e = .returned (.bool true) ∧ Below w.heap.size w w' := by
 obtain ⟨k, h⟩ := P l0 g0
 refine (incipitlaw19_AxisKnown.calls k _ _ l0 true w hr0 hc0 rfl h).mono ?_
 rintro e w' ⟨rfl, hd⟩
 exact ⟨rfl, hd⟩

end Go.Proofs.Ytieapebabncliaa.X
