import Derived.Test.YtieapebabncliaaX0
namespace Go.Proofs.Ytieapebabncliaa.X
open Go.RowKit Go.Proofs.YtieapebabncliaaW.PrintWords Go.Proofs.YtieapebabncliaaW.PrintLast Go.Proofs.YtieapebabncliaaW.PrintMore
attribute [local go_sem] max2_int min2_int max_two min_two max_three min_three max_four min_four
set_option linter.unusedVariables false
set_option linter.unusedSimpArgs false
def incipitref19_Yes.l0 : Nat → List (S47) → List (List (S36)) → Int → Option ((List (List (S36))))
 | 0, _, _, _ => none
 | k + 1, x0, x3, x4 => if x4 < (x0.length : Int) then (if 0 ≤ x4 then (if x3.length < 5864062014805 then (incipitref19_Yes.l0 k x0 (x3 ++ [(rd_T47 x0 x4).f0]) (wrap64 (x4 + 1))) else (none)) else (none)) else (some x3)
def incipitref19_Yes.f (k : Nat) (l0 : List (S47)) : Option ((List (List (S36)))) := incipitref19_Yes.l0 k l0 ([] : List (List (S36))) 0
set_option maxHeartbeats 8000000 in
set_option maxRecDepth 100000 in
theorem incipitref19_Yes.calls (k : Nat) (P0_ : Nat → Prop) (A0 : Option Addr) (c0 : Nat) (l0 : List (S47)) (r : List (List (S36))) (w : World) (hs0 : Kd.V k47 47 w w.heap.size (fun k_ => P0_ k_) (.slice A0 l0.length c0) l0) (h : incipitref19_Yes.f k l0 = some r) :
  Calls Try.prog 28 #[.slice A0 l0.length c0] w fun e w' => ∃ v0_ : Value, e = .returned (v0_) ∧ Kd.N (Kd.slice 36 k36) 26 w' w.heap.size (fun k_ => (P0_ k_ ∨ w.heap.size ≤ k_)) v0_ r ∧ Below w.heap.size w w' := by
 have HO0 := Sd.mk (show Kd.V k47 47 w w.heap.size (fun k_ => (P0_ k_ ∨ w.heap.size ≤ k_)) (.slice A0 l0.length c0) l0 from Kd.V_mono hs0 (fun k_ hk => .inl hk))
 have HB := Sd.mk (Below.refl w.heap.size w)
 have H : (incipitref19_Yes.l0 k l0 ([] : List (List (S36))) 0) = some r := h
 clear h
 have H' := Sd.mk H
 clear H
 go_enter Try.func28, Try.ntmps28
 go_wp2
 go_loopg [3, 4] k (fun kq v3 v4 w' => ∃ (x3_1 : List (List (S36))) (x4_1 : Int), v4 = .int .i64 x4_1 ∧ Sd (incipitref19_Yes.l0 kq l0 x3_1 x4_1 = some r) ∧ Sd (kq ≤ k) ∧ Sd (Kd.V k47 47 w' w.heap.size (fun k_ => (P0_ k_ ∨ w.heap.size ≤ k_) ∧ some k_ ≠ (v3 : Value).ownBlock) (.slice A0 l0.length c0) l0) ∧ Sd (Kd.N (Kd.slice 36 k36) 26 w' w.heap.size (fun k_ => (P0_ k_ ∨ w.heap.size ≤ k_)) v3 x3_1) ∧ Sd (Below w.heap.size w w'))
 case atStart => exact ⟨(([] : List (List (S36)))), (0), (by first | rfl | (simp; done) | (simp [*]; done)), H', ⟨Nat.le_refl _⟩, ⟨by (with_reducible repeat (first | apply Kd.V_alloc | apply Kd.V_drewN | apply Kd.V_drew)); exact Kd.V_mono HO0.out (fun _ hk => ⟨hk, (by simp [Value.ownBlock])⟩)⟩, ⟨by first | exact Kd.S_nil _ _ _ _ _ | exact Kd.N_nil _ _ _ _ _ | exact Kd.V_nil _ _ _ _ _ | exact Kd.Q_nil _ _ _ _ _ | exact Kd.R_nil _ _ _ _ _⟩, ⟨by repeat (first | (with_reducible first | exact HB.out | apply bwA | apply pwN | apply bwD) | exact HB.out)⟩⟩
 case round =>
  clear H'
  obtain ⟨x3_1, x4_1, rfl, HA, HK1, HO_0, HO_3, HB⟩ := hrel
  cases gk with
  | zero => exact absurd HA.out (by simp [incipitref19_Yes.l0])
  | succ k1 =>
   have H := HA.out
   clear HA
   simp only [incipitref19_Yes.l0] at H
   by_cases c2 : x4_1 < (l0.length : Int)
   ·rw [if_pos c2] at H
    have c2b0 : decide (x4_1 < (l0.length : Int)) = true := decide_eq_true c2
    clear c2
    by_cases c3 : 0 ≤ x4_1
    ·rw [if_pos c3] at H
     have c3b0 : decide (0 ≤ x4_1) = true := decide_eq_true c3
     clear c3
     by_cases c4 : x3_1.length < 5864062014805
     ·rw [if_pos c4] at H
      have LMc4 := Sd.mk c4
      clear c4
      obtain ⟨y590, hy590⟩ : ∃ y_ : List (List (S36)), y_ = (x3_1 ++ [(rd_T47 l0 x4_1).f0]) := ⟨_, rfl⟩
      replace H : (incipitref19_Yes.l0 k1 l0 y590 (wrap64 (x4_1 + 1))) = some r := by first | (rw [hy590]; with_reducible exact H) | (have H2_ := (Option.bind_some _ _).symm.trans H; rw [hy590]; with_reducible exact H2_) | (have H2_ := (Option.bind_some _ _).symm.trans H; with_reducible exact H2_) | with_reducible exact H | (rw [hy590]; exact H) | exact H
      have Ny590 := Sd.mk hy590
      clear hy590
      have H' := Sd.mk H
      clear H
      have p589 : 0 ≤ (x4_1 : Int) := of_decide_eq_true (by first | (with_reducible assumption) | assumption)
      have q589 : x4_1 < (l0.length : Int) := of_decide_eq_true (by first | (with_reducible assumption) | assumption)
      obtain ⟨ad589, A589_0, c589_0, A589_1, c589_1, e589, hx589_0, hx589_1, hl589_0, hi589_0, hl589_1, hi589_1⟩ := at_T47 (Kd.V_reads' HO_0.out).2.2 x4_1 p589 q589
      cases e589
      obtain ⟨ce589, hce589, hMe589, hcc589⟩ := Kd.V_get HO_0.out z47 x4_1 p589 (by first | exact q589 | exact of_decide_eq_true (by first | (with_reducible assumption) | assumption) | (have e_ := (Kd.V_reads' HO_0.out).1; omega))
      obtain ⟨ua589_0, uc589_0, ua589_1, uc589_1, rfl, ul589_0, ge589_0, ul589_1, ge589_1⟩ := k47_openF hMe589
      have hv589_0 := hcc589 0 _ rfl
      rw [Nat.add_zero] at hv589_0
      replace hv589_0 := Option.some.inj (hv589_0.symm.trans hx589_0)
      injection hv589_0 with hva_ hvn_ hvc_
      rw [hva_] at ge589_0
      rw [hvc_] at ul589_0
      have HL589_0 := Sd.mk (show Kd.V k36 36 _ w.heap.size _ _ ((rd_T47 l0 x4_1).f0) from Kd.V_mk ul589_0 ge589_0)
      clear hva_ hvn_ hvc_ ge589_0 ul589_0
      have hv589_1 := hcc589 1 _ rfl
      rw [add_field _ _ 1 (by omega)] at hv589_1
      replace hv589_1 := Option.some.inj (hv589_1.symm.trans hx589_1)
      injection hv589_1 with hva_ hvn_ hvc_
      rw [hva_] at ge589_1
      rw [hvc_] at ul589_1
      have HL589_1 := Sd.mk (show Kd.V k36 36 _ w.heap.size _ _ ((rd_T47 l0 x4_1).f1) from Kd.V_mk ul589_1 ge589_1)
      clear hva_ hvn_ hvc_ ge589_1 ul589_1
      clear hcc589 hce589
      have HR589_0 := Sd.mk hi589_0
      have HC589_0 := Sd.mk hl589_0
      clear hi589_0 hl589_0
      have HR589_1 := Sd.mk hi589_1
      have HC589_1 := Sd.mk hl589_1
      clear hi589_1 hl589_1
      replace p589 := eq_true p589
      replace q589 := eq_true q589
      go_wp2_with (first | ((with_reducible refine gate_builtin (b := .append) (xs := #[.tmp 11, .tmp 17]) rfl ?_); at_builtin; refine Kd.N_append (Kd.slice 36 k36) (w0 := w) w.heap.size rfl (.tmp 11) (.tmp 17) 22 26 (.slice none 0 0) 24 rfl Try.underlying22 info26 rfl (by decide) (by omega) u3 x3_1 ((rd_T47 l0 x4_1).f0) [.slice A589_0 ((rd_T47 l0 x4_1).f0).length c589_0] (fun k_ => (P0_ k_ ∨ w.heap.size ≤ k_)) (fun k_ => ((fun k_ => (P0_ k_ ∨ w.heap.size ≤ k_))) k_ ∧ some k_ ≠ (u3 : Value).ownBlock) rfl rfl ?aP (fun _ hk => hk) ?aF ?aO ?aB ?aS ?aL ?_; (case aP => exact (Kd.FK_slice_mk (Kd.V_reads' (Kd.V_mono (ok' := (fun k_ => ((fun k_ => (P0_ k_ ∨ w.heap.size ≤ k_))) k_ ∧ some k_ ≠ (u3 : Value).ownBlock)) (HL589_0.out) (fun k_ hk => ⟨hk.1, hk.2⟩))).2.1 (Kd.V_F (Kd.V_mono (ok' := (fun k_ => ((fun k_ => (P0_ k_ ∨ w.heap.size ≤ k_))) k_ ∧ some k_ ≠ (u3 : Value).ownBlock)) (HL589_0.out) (fun k_ hk => ⟨hk.1, hk.2⟩))))); (case aB => exact (by repeat (first | (with_reducible first | exact HB.out | apply bwA | apply pwN | apply bwD) | exact HB.out))); (case aF => exact (fun k_ hk => (.inr (Nat.le_trans (below_size (by repeat (first | (with_reducible first | exact HB.out | apply bwA | apply pwN | apply bwD) | exact HB.out))) hk)))); (case aO => exact (by (with_reducible repeat (first | apply Kd.N_alloc | apply Kd.N_drewN | apply Kd.N_drew)); exact HO_3.out)); (case aS => exact (below_size (by repeat (first | (with_reducible first | exact HB.out | apply bwA | apply pwN | apply bwD) | exact HB.out)))); (case aL => have := LMc4.out; omega); intro v591 w5 ho hb hg hat; rw [← Ny590.out] at ho; have n0_ := Sd.mk (Kd.V_afterv (ok := (fun k_ => (P0_ k_ ∨ w.heap.size ≤ k_))) (by (with_reducible repeat (first | apply Kd.V_alloc | apply Kd.V_drewN | apply Kd.V_drew)); exact HO_0.out) hg hat); have n1_ := Sd.mk (Kd.V_afterv (ok := (fun k_ => (P0_ k_ ∨ w.heap.size ≤ k_))) (by (with_reducible repeat (first | apply Kd.V_alloc | apply Kd.V_drewN | apply Kd.V_drew)); exact HL589_0.out) hg hat); have n2_ := Sd.mk (hb); have n3_ := Sd.mk (ho); clear HO_0; clear HL589_0; clear HB; clear HO_3; have HO_0 := n0_; have HL589_0 := n1_; have HB := n2_; have HO592 := n3_; clear n0_ n1_ n2_ n3_; clear ho hb hg hat))
      go_roundg k1
      case measure => have := HK1.out; omega
      case rel => exact ⟨(y590), (wrap64 (x4_1 + 1)), (by first | rfl | (simp; done) | (simp [*]; done)), H', ⟨by have := HK1.out; omega⟩, ⟨by (with_reducible repeat (first | apply Kd.V_alloc | apply Kd.V_drewN | apply Kd.V_drew)); exact HO_0.out⟩, ⟨by (with_reducible repeat (first | apply Kd.N_alloc | apply Kd.N_drewN | apply Kd.N_drew)); exact HO592.out⟩, ⟨by repeat (first | (with_reducible first | exact HB.out | apply bwA | apply pwN | apply bwD) | exact HB.out)⟩⟩
     ·rw [if_neg c4] at H
      exact absurd H (by simp)
    ·rw [if_neg c3] at H
     exact absurd H (by simp)
   ·rw [if_neg c2] at H
    have c2b0 : decide (x4_1 < (l0.length : Int)) = false := decide_eq_false c2
    clear c2
    obtain rfl := Option.some.inj H
    go_wp2
    go_ret
    exact ⟨_, by first | rfl | (simp [errW_none, errW_some] <;> rfl) | (simp [*, errW_none, errW_some] <;> rfl), by (with_reducible repeat (first | apply Kd.N_alloc | apply Kd.N_drewN | apply Kd.N_drew)); exact HO_3.out, by repeat (first | (with_reducible first | exact HB.out | apply bwA | apply pwN | apply bwD) | exact HB.out)⟩
def incipitref19_No.l0 : Nat → List (S47) → List (List (S36)) → Int → Option ((List (List (S36))))
 | 0, _, _, _ => none
 | k + 1, x0, x3, x4 => if x4 < (x0.length : Int) then (if 0 ≤ x4 then (if x3.length < 5864062014805 then (incipitref19_No.l0 k x0 (x3 ++ [(rd_T47 x0 x4).f1]) (wrap64 (x4 + 1))) else (none)) else (none)) else (some x3)
def incipitref19_No.f (k : Nat) (l0 : List (S47)) : Option ((List (List (S36)))) := incipitref19_No.l0 k l0 ([] : List (List (S36))) 0
set_option maxHeartbeats 8000000 in
set_option maxRecDepth 100000 in
theorem incipitref19_No.calls (k : Nat) (P0_ : Nat → Prop) (A0 : Option Addr) (c0 : Nat) (l0 : List (S47)) (r : List (List (S36))) (w : World) (hs0 : Kd.V k47 47 w w.heap.size (fun k_ => P0_ k_) (.slice A0 l0.length c0) l0) (h : incipitref19_No.f k l0 = some r) :
  Calls Try.prog 29 #[.slice A0 l0.length c0] w fun e w' => ∃ v0_ : Value, e = .returned (v0_) ∧ Kd.N (Kd.slice 36 k36) 26 w' w.heap.size (fun k_ => (P0_ k_ ∨ w.heap.size ≤ k_)) v0_ r ∧ Below w.heap.size w w' := by
 have HO0 := Sd.mk (show Kd.V k47 47 w w.heap.size (fun k_ => (P0_ k_ ∨ w.heap.size ≤ k_)) (.slice A0 l0.length c0) l0 from Kd.V_mono hs0 (fun k_ hk => .inl hk))
 have HB := Sd.mk (Below.refl w.heap.size w)
 have H : (incipitref19_No.l0 k l0 ([] : List (List (S36))) 0) = some r := h
 clear h
 have H' := Sd.mk H
 clear H
 go_enter Try.func29, Try.ntmps29
 go_wp2
 go_loopg [3, 4] k (fun kq v3 v4 w' => ∃ (x3_1 : List (List (S36))) (x4_1 : Int), v4 = .int .i64 x4_1 ∧ Sd (incipitref19_No.l0 kq l0 x3_1 x4_1 = some r) ∧ Sd (kq ≤ k) ∧ Sd (Kd.V k47 47 w' w.heap.size (fun k_ => (P0_ k_ ∨ w.heap.size ≤ k_) ∧ some k_ ≠ (v3 : Value).ownBlock) (.slice A0 l0.length c0) l0) ∧ Sd (Kd.N (Kd.slice 36 k36) 26 w' w.heap.size (fun k_ => (P0_ k_ ∨ w.heap.size ≤ k_)) v3 x3_1) ∧ Sd (Below w.heap.size w w'))
 case atStart => exact ⟨(([] : List (List (S36)))), (0), (by first | rfl | (simp; done) | (simp [*]; done)), H', ⟨Nat.le_refl _⟩, ⟨by (with_reducible repeat (first | apply Kd.V_alloc | apply Kd.V_drewN | apply Kd.V_drew)); exact Kd.V_mono HO0.out (fun _ hk => ⟨hk, (by simp [Value.ownBlock])⟩)⟩, ⟨by first | exact Kd.S_nil _ _ _ _ _ | exact Kd.N_nil _ _ _ _ _ | exact Kd.V_nil _ _ _ _ _ | exact Kd.Q_nil _ _ _ _ _ | exact Kd.R_nil _ _ _ _ _⟩, ⟨by repeat (first | (with_reducible first | exact HB.out | apply bwA | apply pwN | apply bwD) | exact HB.out)⟩⟩
 case round =>
  clear H'
  obtain ⟨x3_1, x4_1, rfl, HA, HK1, HO_0, HO_3, HB⟩ := hrel
  cases gk with
  | zero => exact absurd HA.out (by simp [incipitref19_No.l0])
  | succ k1 =>
   have H := HA.out
   clear HA
   simp only [incipitref19_No.l0] at H
   by_cases c2 : x4_1 < (l0.length : Int)
   ·rw [if_pos c2] at H
    have c2b0 : decide (x4_1 < (l0.length : Int)) = true := decide_eq_true c2
    clear c2
    by_cases c3 : 0 ≤ x4_1
    ·rw [if_pos c3] at H
     have c3b0 : decide (0 ≤ x4_1) = true := decide_eq_true c3
     clear c3
     by_cases c4 : x3_1.length < 5864062014805
     ·rw [if_pos c4] at H
      have LMc4 := Sd.mk c4
      clear c4
      obtain ⟨y594, hy594⟩ : ∃ y_ : List (List (S36)), y_ = (x3_1 ++ [(rd_T47 l0 x4_1).f1]) := ⟨_, rfl⟩
      replace H : (incipitref19_No.l0 k1 l0 y594 (wrap64 (x4_1 + 1))) = some r := by first | (rw [hy594]; with_reducible exact H) | (have H2_ := (Option.bind_some _ _).symm.trans H; rw [hy594]; with_reducible exact H2_) | (have H2_ := (Option.bind_some _ _).symm.trans H; with_reducible exact H2_) | with_reducible exact H | (rw [hy594]; exact H) | exact H
      have Ny594 := Sd.mk hy594
      clear hy594
      have H' := Sd.mk H
      clear H
      have p593 : 0 ≤ (x4_1 : Int) := of_decide_eq_true (by first | (with_reducible assumption) | assumption)
      have q593 : x4_1 < (l0.length : Int) := of_decide_eq_true (by first | (with_reducible assumption) | assumption)
      obtain ⟨ad593, A593_0, c593_0, A593_1, c593_1, e593, hx593_0, hx593_1, hl593_0, hi593_0, hl593_1, hi593_1⟩ := at_T47 (Kd.V_reads' HO_0.out).2.2 x4_1 p593 q593
      cases e593
      obtain ⟨ce593, hce593, hMe593, hcc593⟩ := Kd.V_get HO_0.out z47 x4_1 p593 (by first | exact q593 | exact of_decide_eq_true (by first | (with_reducible assumption) | assumption) | (have e_ := (Kd.V_reads' HO_0.out).1; omega))
      obtain ⟨ua593_0, uc593_0, ua593_1, uc593_1, rfl, ul593_0, ge593_0, ul593_1, ge593_1⟩ := k47_openF hMe593
      have hv593_0 := hcc593 0 _ rfl
      rw [Nat.add_zero] at hv593_0
      replace hv593_0 := Option.some.inj (hv593_0.symm.trans hx593_0)
      injection hv593_0 with hva_ hvn_ hvc_
      rw [hva_] at ge593_0
      rw [hvc_] at ul593_0
      have HL593_0 := Sd.mk (show Kd.V k36 36 _ w.heap.size _ _ ((rd_T47 l0 x4_1).f0) from Kd.V_mk ul593_0 ge593_0)
      clear hva_ hvn_ hvc_ ge593_0 ul593_0
      have hv593_1 := hcc593 1 _ rfl
      rw [add_field _ _ 1 (by omega)] at hv593_1
      replace hv593_1 := Option.some.inj (hv593_1.symm.trans hx593_1)
      injection hv593_1 with hva_ hvn_ hvc_
      rw [hva_] at ge593_1
      rw [hvc_] at ul593_1
      have HL593_1 := Sd.mk (show Kd.V k36 36 _ w.heap.size _ _ ((rd_T47 l0 x4_1).f1) from Kd.V_mk ul593_1 ge593_1)
      clear hva_ hvn_ hvc_ ge593_1 ul593_1
      clear hcc593 hce593
      have HR593_0 := Sd.mk hi593_0
      have HC593_0 := Sd.mk hl593_0
      clear hi593_0 hl593_0
      have HR593_1 := Sd.mk hi593_1
      have HC593_1 := Sd.mk hl593_1
      clear hi593_1 hl593_1
      replace p593 := eq_true p593
      replace q593 := eq_true q593
      go_wp2_with (first | ((with_reducible refine gate_builtin (b := .append) (xs := #[.tmp 11, .tmp 17]) rfl ?_); at_builtin; refine Kd.N_append (Kd.slice 36 k36) (w0 := w) w.heap.size rfl (.tmp 11) (.tmp 17) 22 26 (.slice none 0 0) 24 rfl Try.underlying22 info26 rfl (by decide) (by omega) u3 x3_1 ((rd_T47 l0 x4_1).f1) [.slice A593_1 ((rd_T47 l0 x4_1).f1).length c593_1] (fun k_ => (P0_ k_ ∨ w.heap.size ≤ k_)) (fun k_ => ((fun k_ => (P0_ k_ ∨ w.heap.size ≤ k_))) k_ ∧ some k_ ≠ (u3 : Value).ownBlock) rfl rfl ?aP (fun _ hk => hk) ?aF ?aO ?aB ?aS ?aL ?_; (case aP => exact (Kd.FK_slice_mk (Kd.V_reads' (Kd.V_mono (ok' := (fun k_ => ((fun k_ => (P0_ k_ ∨ w.heap.size ≤ k_))) k_ ∧ some k_ ≠ (u3 : Value).ownBlock)) (HL593_1.out) (fun k_ hk => ⟨hk.1, hk.2⟩))).2.1 (Kd.V_F (Kd.V_mono (ok' := (fun k_ => ((fun k_ => (P0_ k_ ∨ w.heap.size ≤ k_))) k_ ∧ some k_ ≠ (u3 : Value).ownBlock)) (HL593_1.out) (fun k_ hk => ⟨hk.1, hk.2⟩))))); (case aB => exact (by repeat (first | (with_reducible first | exact HB.out | apply bwA | apply pwN | apply bwD) | exact HB.out))); (case aF => exact (fun k_ hk => (.inr (Nat.le_trans (below_size (by repeat (first | (with_reducible first | exact HB.out | apply bwA | apply pwN | apply bwD) | exact HB.out))) hk)))); (case aO => exact (by (with_reducible repeat (first | apply Kd.N_alloc | apply Kd.N_drewN | apply Kd.N_drew)); exact HO_3.out)); (case aS => exact (below_size (by repeat (first | (with_reducible first | exact HB.out | apply bwA | apply pwN | apply bwD) | exact HB.out)))); (case aL => have := LMc4.out; omega); intro v595 w5 ho hb hg hat; rw [← Ny594.out] at ho; have n0_ := Sd.mk (Kd.V_afterv (ok := (fun k_ => (P0_ k_ ∨ w.heap.size ≤ k_))) (by (with_reducible repeat (first | apply Kd.V_alloc | apply Kd.V_drewN | apply Kd.V_drew)); exact HO_0.out) hg hat); have n1_ := Sd.mk (Kd.V_afterv (ok := (fun k_ => (P0_ k_ ∨ w.heap.size ≤ k_))) (by (with_reducible repeat (first | apply Kd.V_alloc | apply Kd.V_drewN | apply Kd.V_drew)); exact HL593_1.out) hg hat); have n2_ := Sd.mk (hb); have n3_ := Sd.mk (ho); clear HO_0; clear HL593_1; clear HB; clear HO_3; have HO_0 := n0_; have HL593_1 := n1_; have HB := n2_; have HO596 := n3_; clear n0_ n1_ n2_ n3_; clear ho hb hg hat))
      go_roundg k1
      case measure => have := HK1.out; omega
      case rel => exact ⟨(y594), (wrap64 (x4_1 + 1)), (by first | rfl | (simp; done) | (simp [*]; done)), H', ⟨by have := HK1.out; omega⟩, ⟨by (with_reducible repeat (first | apply Kd.V_alloc | apply Kd.V_drewN | apply Kd.V_drew)); exact HO_0.out⟩, ⟨by (with_reducible repeat (first | apply Kd.N_alloc | apply Kd.N_drewN | apply Kd.N_drew)); exact HO596.out⟩, ⟨by repeat (first | (with_reducible first | exact HB.out | apply bwA | apply pwN | apply bwD) | exact HB.out)⟩⟩
     ·rw [if_neg c4] at H
      exact absurd H (by simp)
    ·rw [if_neg c3] at H
     exact absurd H (by simp)
   ·rw [if_neg c2] at H
    have c2b0 : decide (x4_1 < (l0.length : Int)) = false := decide_eq_false c2
    clear c2
    obtain rfl := Option.some.inj H
    go_wp2
    go_ret
    exact ⟨_, by first | rfl | (simp [errW_none, errW_some] <;> rfl) | (simp [*, errW_none, errW_some] <;> rfl), by (with_reducible repeat (first | apply Kd.N_alloc | apply Kd.N_drewN | apply Kd.N_drew)); exact HO_3.out, by repeat (first | (with_reducible first | exact HB.out | apply bwA | apply pwN | apply bwD) | exact HB.out)⟩
end Go.Proofs.Ytieapebabncliaa.X
