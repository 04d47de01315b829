import Derived.Test.YtieapebabncliaaX0
import Derived.Test.YtieapebabncliaaX4
import Derived.Test.YtieapebabncliaaX10
import Derived.Test.YtieapebabncliaaX11
import Derived.Test.YtieapebabncliaaX14
import Derived.Test.YtieapebabncliaaX16
import Derived.Test.YtieapebabncliaaX17
import Derived.Test.YtieapebabncliaaX18
namespace Go.Proofs.Ytieapebabncliaa.X
open Go.RowKit Go.Proofs.YtieapebabncliaaW.PrintWords Go.Proofs.YtieapebabncliaaW.PrintLast Go.Proofs.YtieapebabncliaaW.PrintMore
attribute [local go_sem] max2_int min2_int max_two min_two max_three min_three max_four min_four
set_option linter.unusedVariables false
set_option linter.unusedSimpArgs false
mutual
def incipitlaw19_AxisOf.j0 : Nat → List Int → List (S36) → Int → Bool → Option (Bool)
 | 0, _, _, _, _ => none
 | k + 1, x0, x1, x2, x16 => if x16 = true then ((incipitlaw19_awake.f k).bind fun t418 => (some t418)) else ((some (([] : List Int) : List Int)).bind fun y419 => (if y419.length + x0.length < 35184372088832 then ((some (y419 ++ x0 : List Int)).bind fun y422 => ((axis_Of.f k y422).bind fun t425 => ((incipitref19_Of.f k x0).bind fun t428 => ((rf_Same.f k t425 t428).bind fun t431 => (if t431 = true then ((axis_May.f k x1).bind fun t432 => ((incipitref19_May.f k x1).bind fun t433 => (if (t432 != t433) = true then (incipitlaw19_AxisOf.j1 k x0 y422 true) else ((axis_Count.f k x1).bind fun t434 => ((incipitref19_Count.f k x1).bind fun t435 => (if t434 = t435 then ((axis_Has.f x1 x2).bind fun t436 => ((incipitref19_Has.f k x1 x2).bind fun t437 => (incipitlaw19_AxisOf.j1 k x0 y422 (t436 != t437)))) else (incipitlaw19_AxisOf.j1 k x0 y422 true))))))) else (incipitlaw19_AxisOf.j1 k x0 y422 true)))))) else (none)))
def incipitlaw19_AxisOf.j1 : Nat → List Int → List Int → Bool → Option (Bool)
 | 0, _, _, _ => none
 | k + 1, x0, x7, x49 => if x49 = true then (some false) else (incipitlaw19_AxisOf.l0 k x0 x7 0)
def incipitlaw19_AxisOf.l0 : Nat → List Int → List Int → Int → Option (Bool)
 | 0, _, _, _ => none
 | k + 1, x0, x7, x8 => if x8 < (x0.length : Int) then (if 0 ≤ x8 then (if x8 < (x7.length : Int) then (if (rd x7 x8) = (rd x0 x8) then (incipitlaw19_AxisOf.l0 k x0 x7 (wrap64 (x8 + 1))) else (some false)) else (none)) else (none)) else ((incipitlaw19_awake.f k).bind fun t440 => (some t440))
end
mutual
def incipitlaw19_long.l0 : Nat → List (List (S36)) → Int → Option (Bool)
 | 0, _, _ => none
 | k + 1, x0, x3 => if x3 < (x0.length : Int) then (incipitlaw19_long.j1 k x0 x3 (decide (x3 ≤ 40))) else (incipitlaw19_long.j1 k x0 x3 false)
def incipitlaw19_long.j1 : Nat → List (List (S36)) → Int → Bool → Option (Bool)
 | 0, _, _, _ => none
 | k + 1, x0, x3, x11 => if x11 = true then (if 0 ≤ x3 then (if x3 < (x0.length : Int) then (if ((rd_L3 x0 x3).length : Int) > 40 then (some true) else (incipitlaw19_long.l0 k x0 (wrap64 (x3 + 1)))) else (none)) else (none)) else (some (decide ((x0.length : Int) > 40)))
end
def incipitlaw19_long.f (k : Nat) (l0 : List (List (S36))) : Option (Bool) := incipitlaw19_long.l0 k l0 0
set_option maxHeartbeats 8000000 in
set_option maxRecDepth 100000 in
theorem incipitlaw19_long.calls (k : Nat) (A0 : Option Addr) (c0 : Nat) (l0 : List (List (S36))) (r : Bool) (w : World) (hr0 : Kd.C (Kd.slice 36 k36) w A0 l0.length l0) (hc0 : l0.length ≤ c0) (h : incipitlaw19_long.f k l0 = some r) :
  Calls Try.prog 9 #[.slice A0 l0.length c0] w fun e w' => e = .returned (.bool r) ∧ Drawn0 w w' := by
 have HR0 := Sd.mk hr0
 have HC0 := Sd.mk hc0
 clear hr0 hc0
 have H : (incipitlaw19_long.l0 k l0 0) = some r := h
 clear h
 have H' := Sd.mk H
 clear H
 go_enter Try.func9, Try.ntmps9
 go_wp2
 go_loopg [3] k (fun kq v3 w' => ∃ (x3_1 : Int), v3 = .int .i64 x3_1 ∧ Sd (incipitlaw19_long.l0 kq l0 x3_1 = some r) ∧ Sd (kq ≤ k) ∧ Drawn0 w w')
 case atStart => exact ⟨(0), (by first | rfl | (simp; done) | (simp [*]; done)), H', ⟨Nat.le_refl _⟩, by repeat (first | exact Drawn0.refl _ | apply Drawn0.step)⟩
 case round =>
  clear H'
  obtain ⟨x3_1, rfl, HA, HK1, ⟨m1, rfl⟩⟩ := hrel
  cases gk with
  | zero => exact absurd HA.out (by simp [incipitlaw19_long.l0])
  | succ k1 =>
   have H := HA.out
   clear HA
   simp only [incipitlaw19_long.l0] at H
   have HC2 := Sd.mk H
   clear H
   go_upto_region 2 with (fail)
   go_cut [11] (fun v11 wc => ∃ (kq : Nat) (x11_1 : Bool), v11 = .bool x11_1 ∧ Sd (incipitlaw19_long.j1 kq l0 x3_1 x11_1 = some r) ∧ Sd (kq ≤ k1) ∧ Drawn0 w wc)
   case first =>
    have H := HC2.out
    clear HC2
    by_cases c3 : x3_1 < (l0.length : Int)
    ·rw [if_pos c3] at H
     have c3b0 : decide (x3_1 < (l0.length : Int)) = true := decide_eq_true c3
     clear c3
     (first | rw [c3b0] | (simp only [i64_w, i32_w]; rw [c3b0]) | skip)
     have H' := Sd.mk H
     clear H
     go_wp2
     go_meet
     case rel => exact ⟨_, (decide (x3_1 ≤ 40)), (by first | rfl | (simp; done) | (simp [*]; done)), H', ⟨by have := HK1.out; first | omega | exact Nat.le_refl _⟩, by repeat (first | exact Drawn0.refl _ | apply Drawn0.step)⟩
    ·rw [if_neg c3] at H
     have c3b0 : decide (x3_1 < (l0.length : Int)) = false := decide_eq_false c3
     clear c3
     (first | rw [c3b0] | (simp only [i64_w, i32_w]; rw [c3b0]) | skip)
     have H' := Sd.mk H
     clear H
     go_wp2
     go_meet
     case rel => exact ⟨_, (false), (by first | rfl | (simp; done) | (simp [*]; done)), H', ⟨by have := HK1.out; first | omega | exact Nat.le_refl _⟩, by repeat (first | exact Drawn0.refl _ | apply Drawn0.step)⟩
   case rest =>
    clear HC2
    try clear p2
    try clear c3
    try clear c3b0
    obtain ⟨kq, x11_1, rfl, HA, HJ1, ⟨mc1, rfl⟩⟩ := hcut
    cases kq with
    | zero => exact absurd HA.out (by simp [incipitlaw19_long.j1])
    | succ kj1 =>
     have H := HA.out
     clear HA
     simp only [incipitlaw19_long.j1] at H
     by_cases c4 : x11_1 = true
     ·subst c4
      have H1 : (if 0 ≤ x3_1 then (if x3_1 < (l0.length : Int) then (if ((rd_L3 l0 x3_1).length : Int) > 40 then (some true) else (incipitlaw19_long.l0 kj1 l0 (wrap64 (x3_1 + 1)))) else (none)) else (none)) = some r := by rw [if_pos rfl] at H; exact H
      clear H
      have H := H1
      clear H1
      by_cases c5 : 0 ≤ x3_1
      ·rw [if_pos c5] at H
       have c5b0 : decide (0 ≤ x3_1) = true := decide_eq_true c5
       clear c5
       by_cases c6 : x3_1 < (l0.length : Int)
       ·rw [if_pos c6] at H
        have c6b0 : decide (x3_1 < (l0.length : Int)) = true := decide_eq_true c6
        clear c6
        by_cases c7 : ((rd_L3 l0 x3_1).length : Int) > 40
        ·rw [if_pos c7] at H
         have c7b0 : decide (40 < ((rd_L3 l0 x3_1).length : Int)) = true := decide_eq_true c7
         have c7b1 : decide (40 < (rd_L3 l0 x3_1).length) = true := decide_eq_true (by omega)
         clear c7
         obtain rfl := Option.some.inj H
         have p441 : 0 ≤ (x3_1 : Int) := of_decide_eq_true (by first | (with_reducible assumption) | assumption)
         have q441 : x3_1 < (l0.length : Int) := of_decide_eq_true (by first | (with_reducible assumption) | assumption)
         obtain ⟨ad441, A441_0, c441_0, e441, hx441_0, hl441_0, hi441_0⟩ := at_L3 HR0.out x3_1 p441 q441
         cases e441
         have HR441_0 := Sd.mk hi441_0
         have HC441_0 := Sd.mk hl441_0
         clear hi441_0 hl441_0
         replace p441 := eq_true p441
         replace q441 := eq_true q441
         go_wp2
         go_ret
         exact ⟨by first | rfl | (simp; done) | (simp [*]; done), by repeat (first | exact Drawn0.refl _ | apply Drawn0.step)⟩
        ·rw [if_neg c7] at H
         have c7b0 : decide (40 < ((rd_L3 l0 x3_1).length : Int)) = false := decide_eq_false c7
         have c7b1 : decide (40 < (rd_L3 l0 x3_1).length) = false := decide_eq_false (by omega)
         clear c7
         have H' := Sd.mk H
         clear H
         have p441 : 0 ≤ (x3_1 : Int) := of_decide_eq_true (by first | (with_reducible assumption) | assumption)
         have q441 : x3_1 < (l0.length : Int) := of_decide_eq_true (by first | (with_reducible assumption) | assumption)
         obtain ⟨ad441, A441_0, c441_0, e441, hx441_0, hl441_0, hi441_0⟩ := at_L3 HR0.out x3_1 p441 q441
         cases e441
         have HR441_0 := Sd.mk hi441_0
         have HC441_0 := Sd.mk hl441_0
         clear hi441_0 hl441_0
         replace p441 := eq_true p441
         replace q441 := eq_true q441
         go_wp2
         go_roundg kj1
         case measure => have := HK1.out; have := HJ1.out; omega
         case rel => exact ⟨(wrap64 (x3_1 + 1)), (by first | rfl | (simp; done) | (simp [*]; done)), H', ⟨by have := HK1.out; have := HJ1.out; omega⟩, by repeat (first | exact Drawn0.refl _ | apply Drawn0.step)⟩
       ·rw [if_neg c6] at H
        exact absurd H (by simp)
      ·rw [if_neg c5] at H
       exact absurd H (by simp)
     ·replace c4 := Bool.eq_false_iff.mpr c4
      subst c4
      have H1 : (some (decide ((l0.length : Int) > 40))) = some r := by rw [if_neg (show ¬ (false = true) by decide)] at H; exact H
      clear H
      have H := H1
      clear H1
      obtain rfl := Option.some.inj H
      go_wp2
      go_ret
      exact ⟨by first | rfl | (simp; done) | (simp [*]; done), by repeat (first | exact Drawn0.refl _ | apply Drawn0.step)⟩
end Go.Proofs.Ytieapebabncliaa.X
