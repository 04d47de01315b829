import Derived.Test.YtcamcfplcoklkaaM18
import Derived.Test.YtcamcfplcoklkaaM19
import Derived.Test.YtcamcfplcoklkaaM8
import Derived.ProofKit
import Derived.OpenShut
import Derived.DataReads
import Derived.ChangeOld
namespace Go.Proofs.Ytcamcfplcoklkaa.Iv
open Go
set_option linter.unusedVariables false
set_option linter.unusedSimpArgs false
set_option maxRecDepth 100000

theorem gcall {pol : Nat → Pol} {cl : CallW} {H : Heap} {d f : Nat} {args : List V} {Q : V → Heap → Prop} {b : Bool} (h : wCall pol cl H d f args (fun o => Q o.v (H.sets o.ups))) : guardW (.bool b) b H (wCall pol cl H d f args) Q := by cases b <;> exact h
theorem bin_sneq {P : Program} {t : Nat} {a b : List UInt8} : liftO (evBin P t .neq (.str a) (.str b)) = pureO (.bool (!(a == b))) := rfl
theorem bin_seql {P : Program} {t : Nat} {a b : List UInt8} : liftO (evBin P t .eql (.str a) (.str b)) = pureO (.bool (a == b)) := rfl
/-- the queue's name in the laws -/
def QN (qn : Option (Id × Nat)) : Prop := qn = none ∨ ∃ g, qn = some ((.sub 52 (.sub 37 (.own 49))), g)
theorem QN.acc {qn : Option (Id × Nat)} (h : QN qn) {i : Id} (hi : i ∈ accOf (.sub 21 (.own 15)) (.sub 21 (.own 13)) qn) : i = (.sub 21 (.own 15)) ∨ i = (.sub 21 (.own 13)) ∨ i = (.sub 52 (.sub 37 (.own 49))) := by
  rcases h with rfl | ⟨g, rfl⟩
  · simp only [accOf, List.mem_cons, List.not_mem_nil, or_false] at hi
    rcases hi with rfl | rfl
    · exact .inl rfl
    · exact .inr (.inl rfl)
  · simpa only [accOf, List.mem_cons, List.not_mem_nil, or_false] using hi
/-- the disk stays where it is, whatever is done elsewhere -/
theorem keepF {H H' : Heap} {gd gk : Nat} {qn : Option (Id × Nat)} {p : PD} (h : PDF H (.sub 21 (.own 15)) (.sub 21 (.own 13)) gd gk qn p) (hq : QN qn) (e1 : H' (.sub 21 (.own 15)) = H (.sub 21 (.own 15))) (e2 : H' (.sub 21 (.own 13)) = H (.sub 21 (.own 13))) (e3 : H' (.sub 52 (.sub 37 (.own 49))) = H (.sub 52 (.sub 37 (.own 49)))) : PDF H' (.sub 21 (.own 15)) (.sub 21 (.own 13)) gd gk qn p :=
  h.other (fun i hi => by
    rcases hq.acc hi with rfl | rfl | rfl
    · exact e1
    · exact e2
    · exact e3)
theorem act_keep {H : Heap} {a : Act4} {i : Id} {g : Nat} : argsIn H (dcfg.pol 12).modes [.ptr i g 0, .agg (actV a)] = some ([.ptr i g 0, .agg (actV a)], [], []) := by kernel_rfl
theorem ks_ne {p : PD} (hp : p.ok 16) : p.ks ≠ [] := fun e => by have := hp.len; rw [e] at this; simp at this
theorem ks_lt {p : PD} (hp : p.ok 16) : p.ks.length < 1048576 := by have := hp.len; omega
set_option maxHeartbeats 8000000 in
/-- the first loop of DiskRests: the acts -/
theorem rests_loop {l : List Act4} (hlen : l.length ≤ 200) (hbl : ∀ (j : Nat) a, l[j]? = some a → a.b.length ≤ 200) {gd gk : Nat} {k1 k2 : V} {Q : KQ}
    (hx : ∀ (H' : Heap) (p : PD) (qn : Option (Id × Nat)) t3 t4 t5 t8 t9 t10 t11 t12 t13 t14 t15 t16 t17 t18 t19 t20 t21 t22 t23 t24 t25 t26 t27 t28 t29 t30 t31 t32 t33 t34 t35 t36 t37 t38 t39 t40 t41 t42 t43 t44 t45 t46 t47 t48 t49 t50 t51 t52 t53 t54 t55 t56 t57 t58 t59 t60 t61 t62 t63 t64 t65 t66 t67 t68 t69 t70 t71 t72 t73 t74 t75 t76 t77 t78 t79 t80 t81 t82 t83 t84 t85 t86 t87 t88 t89 t90 t91 t92 t93 t94 t95 t96 t97 t98 t99 t100 t101 t102 t103 t104 t105 t106 t107 t108 t109 t110 t111 t112 t113 t114 t115 t116 t117 t118 t119 t120 t121 t122 t123 t124 t125 t126 t127 t128 t129 t130 t131 t132 t133 t134 t135 t136 t137 t138 t139 t140 t141 t142 t143 t144 t145 t146 t147 t148 t149 t150 t151 t152 t153 t154 t155, p.ok 16 → p.items.length ≤ 200 → QN qn → PDF H' (.sub 21 (.own 15)) (.sub 21 (.own 13)) gd gk qn p → Q (.exit 0) [actsV l, k1, k2, t3, t4, t5, .bool false, .ptr (.sub 21 (.own 15)) gd 0, t8, t9, t10, t11, t12, t13, t14, t15, t16, t17, t18, t19, t20, t21, t22, t23, t24, t25, t26, t27, t28, t29, t30, t31, t32, t33, t34, t35, t36, t37, t38, t39, t40, t41, t42, t43, t44, t45, t46, t47, t48, t49, t50, t51, t52, t53, t54, t55, t56, t57, t58, t59, t60, t61, t62, t63, t64, t65, t66, t67, t68, t69, t70, t71, t72, t73, t74, t75, t76, t77, t78, t79, t80, t81, t82, t83, t84, t85, t86, t87, t88, t89, t90, t91, t92, t93, t94, t95, t96, t97, t98, t99, t100, t101, t102, t103, t104, t105, t106, t107, t108, t109, t110, t111, t112, t113, t114, t115, t116, t117, t118, t119, t120, t121, t122, t123, t124, t125, t126, t127, t128, t129, t130, t131, t132, t133, t134, t135, t136, t137, t138, t139, t140, t141, t142, t143, t144, t145, t146, t147, t148, t149, t150, t151, t152, t153, t154, t155] H') :
    ∀ (k i : Nat), i + k = l.length → ∀ (H : Heap) (p : PD) (qn : Option (Id × Nat)) t3 t4 t5 t8 t10 t11 t12 t13 t14 t15 t16 t17 t18 t19 t20 t21 t22 t23 t24 t25 t26 t27 t28 t29 t30 t31 t32 t33 t34 t35 t36 t37 t38 t39 t40 t41 t42 t43 t44 t45 t46 t47 t48 t49 t50 t51 t52 t53 t54 t55 t56 t57 t58 t59 t60 t61 t62 t63 t64 t65 t66 t67 t68 t69 t70 t71 t72 t73 t74 t75 t76 t77 t78 t79 t80 t81 t82 t83 t84 t85 t86 t87 t88 t89 t90 t91 t92 t93 t94 t95 t96 t97 t98 t99 t100 t101 t102 t103 t104 t105 t106 t107 t108 t109 t110 t111 t112 t113 t114 t115 t116 t117 t118 t119 t120 t121 t122 t123 t124 t125 t126 t127 t128 t129 t130 t131 t132 t133 t134 t135 t136 t137 t138 t139 t140 t141 t142 t143 t144 t145 t146 t147 t148 t149 t150 t151 t152 t153 t154 t155, p.ok 16 → p.items.length ≤ i → QN qn → PDF H (.sub 21 (.own 15)) (.sub 21 (.own 13)) gd gk qn p → LoopR dcfg c6_25 [actsV l, k1, k2, t3, t4, t5, .bool false, .ptr (.sub 21 (.own 15)) gd 0, t8, .int .i64 (i : Int), t10, t11, t12, t13, t14, t15, t16, t17, t18, t19, t20, t21, t22, t23, t24, t25, t26, t27, t28, t29, t30, t31, t32, t33, t34, t35, t36, t37, t38, t39, t40, t41, t42, t43, t44, t45, t46, t47, t48, t49, t50, t51, t52, t53, t54, t55, t56, t57, t58, t59, t60, t61, t62, t63, t64, t65, t66, t67, t68, t69, t70, t71, t72, t73, t74, t75, t76, t77, t78, t79, t80, t81, t82, t83, t84, t85, t86, t87, t88, t89, t90, t91, t92, t93, t94, t95, t96, t97, t98, t99, t100, t101, t102, t103, t104, t105, t106, t107, t108, t109, t110, t111, t112, t113, t114, t115, t116, t117, t118, t119, t120, t121, t122, t123, t124, t125, t126, t127, t128, t129, t130, t131, t132, t133, t134, t135, t136, t137, t138, t139, t140, t141, t142, t143, t144, t145, t146, t147, t148, t149, t150, t151, t152, t153, t154, t155] H Q := by
  intro k
  induction k with
  | zero =>
    intro i hi H p qn t3 t4 t5 t8 t10 t11 t12 t13 t14 t15 t16 t17 t18 t19 t20 t21 t22 t23 t24 t25 t26 t27 t28 t29 t30 t31 t32 t33 t34 t35 t36 t37 t38 t39 t40 t41 t42 t43 t44 t45 t46 t47 t48 t49 t50 t51 t52 t53 t54 t55 t56 t57 t58 t59 t60 t61 t62 t63 t64 t65 t66 t67 t68 t69 t70 t71 t72 t73 t74 t75 t76 t77 t78 t79 t80 t81 t82 t83 t84 t85 t86 t87 t88 t89 t90 t91 t92 t93 t94 t95 t96 t97 t98 t99 t100 t101 t102 t103 t104 t105 t106 t107 t108 t109 t110 t111 t112 t113 t114 t115 t116 t117 t118 t119 t120 t121 t122 t123 t124 t125 t126 t127 t128 t129 t130 t131 t132 t133 t134 t135 t136 t137 t138 t139 t140 t141 t142 t143 t144 t145 t146 t147 t148 t149 t150 t151 t152 t153 t154 t155 hp hil hq hP
    refine LoopR.step ?_
    show wC Try.prog dcfg.pol (CallR dcfg) (LoopR dcfg) c6_25 _ H _
    have h1 : decide (((i : Nat) : Int) < (((l.map actV).length : Nat) : Int)) = false := by simp; omega
    simp only [w6_25, w6_26, w6_27, w6_27_0, w6_28, w6_29, w6_30, seqK, len22]
    refine mk0 _ (by simp only [actsV, lenS]; rfl) ?_
    refine mk0 _ (by rw [bin_lss, h1]) ?_
    refine condF ?_
    exact hx H p qn _ _ _ _ _ _ _ _ _ _ _ _ _ _ _ _ _ _ _ _ _ _ _ _ _ _ _ _ _ _ _ _ _ _ _ _ _ _ _ _ _ _ _ _ _ _ _ _ _ _ _ _ _ _ _ _ _ _ _ _ _ _ _ _ _ _ _ _ _ _ _ _ _ _ _ _ _ _ _ _ _ _ _ _ _ _ _ _ _ _ _ _ _ _ _ _ _ _ _ _ _ _ _ _ _ _ _ _ _ _ _ _ _ _ _ _ _ _ _ _ _ _ _ _ _ _ _ _ _ _ _ _ _ _ _ _ _ _ _ _ _ _ _ _ _ _ _ _ _ _ _ hp (by omega) hq hP
  | succ k ih =>
    intro i hi H p qn t3 t4 t5 t8 t10 t11 t12 t13 t14 t15 t16 t17 t18 t19 t20 t21 t22 t23 t24 t25 t26 t27 t28 t29 t30 t31 t32 t33 t34 t35 t36 t37 t38 t39 t40 t41 t42 t43 t44 t45 t46 t47 t48 t49 t50 t51 t52 t53 t54 t55 t56 t57 t58 t59 t60 t61 t62 t63 t64 t65 t66 t67 t68 t69 t70 t71 t72 t73 t74 t75 t76 t77 t78 t79 t80 t81 t82 t83 t84 t85 t86 t87 t88 t89 t90 t91 t92 t93 t94 t95 t96 t97 t98 t99 t100 t101 t102 t103 t104 t105 t106 t107 t108 t109 t110 t111 t112 t113 t114 t115 t116 t117 t118 t119 t120 t121 t122 t123 t124 t125 t126 t127 t128 t129 t130 t131 t132 t133 t134 t135 t136 t137 t138 t139 t140 t141 t142 t143 t144 t145 t146 t147 t148 t149 t150 t151 t152 t153 t154 t155 hp hil hq hP
    refine LoopR.step ?_
    show wC Try.prog dcfg.pol (CallR dcfg) (LoopR dcfg) c6_25 _ H _
    have h1 : decide (((i : Nat) : Int) < (((l.map actV).length : Nat) : Int)) = true := by simp; omega
    simp only [w6_25, w6_26, w6_27, w6_27_0, w6_28, w6_29, w6_30, w6_31, w6_32, w6_33, w6_34, w6_34_0, w6_35, w6_36, w6_36_0, w6_37, w6_38, w6_38_0, seqK, blockK, len22, ia22, ld36]
    refine mk0 _ (by simp only [actsV, lenS]; rfl) ?_
    refine mk0 _ (by rw [bin_lss, h1]) ?_
    refine condT ?_
    refine mkL0 (.ptr (.sub 21 (.own 15)) gd 0) [] (by rfl) ?_
    refine image_call (Q := fun o => _) hP (ks_ne hp) (ks_lt hp) (fun gi => ?_)
    have hi1 : (Heap.sets H [(.sub 40 (.sub 9 (.own 7)), ⟨gi, cellsB p.ks, false, true⟩)]) (.sub 40 (.sub 9 (.own 7))) = some ⟨gi, cellsB p.ks, false, true⟩ := by simp [Heap.sets, Heap.set]
    have hP1 : PDF (Heap.sets H [(.sub 40 (.sub 9 (.own 7)), ⟨gi, cellsB p.ks, false, true⟩)]) (.sub 21 (.own 15)) (.sub 21 (.own 13)) gd gk qn p := keepF hP hq (by simp [Heap.sets, Heap.set]) (by simp [Heap.sets, Heap.set]) (by simp [Heap.sets, Heap.set])
    generalize Heap.sets H [(.sub 40 (.sub 9 (.own 7)), ⟨gi, cellsB p.ks, false, true⟩)] = H1 at hi1 hP1 ⊢
    refine mkL (.str (toStr p.ks)) [] _ (conv_sl hi1) ?_
    refine mkL0 (.ptr (.sub 21 (.own 15)) gd 0) [] (by rfl) ?_
    simp only [sets_nilE]
    refine pending_call (Q := fun o => _) hP1 ?_
    refine mkL0 (.str (toStr p.ks)) [] (by rfl) ?_
    refine mkL0 (.int .i64 (p.items.length : Int)) [] (by rfl) ?_
    refine ⟨by rcases hq with rfl | ⟨g, rfl⟩ <;> kernel_rfl, ?_⟩
    simp only [sets_nilE]
    refine dark_call (Q := fun o => _) hP1 (fun rd => ?_)
    have hlt : i < l.length := by omega
    have hg : (l.map actV)[i]? = some (actV l[i]) := by simp [hlt]
    have hb := hbl i l[i] (by simp [hlt])
    have hia : iaR 4 (actsV l) (.int .i64 (i : Int)) = pureO (.fptr (actV l[i]) false) := ia_list hg (by rfl) (by decide)
    have hld : ∀ H : Heap, ldR 4 true H (.fptr (actV l[i]) false) = pureO (.agg (actV l[i])) := fun H => by rfl
    have hfd : faR 0 (.fptr (actV l[i]) false) = pureO (.fptr (actV l[i]) false) := by rfl
    have hl0 : ∀ H : Heap, ldR 1 false H (.fptr (actV l[i]) false) = pureO (.int .i64 l[i].d) := fun H => by rfl
    generalize l[i] = a at hb hia hld hfd hl0
    refine mk0 _ hia ?_
    refine mk0 _ (hld _) ?_
    refine did_call (Q := fun o => _) hP1 hp (by omega) hq (by simp) act_keep (fun _ _ hh => by cases hh) (fun qn' us rd2 hq' hP2 hoth => ?_)
    refine mk0 (.str (toStr (p.did a).2.1)) (by rfl) ?_
    refine mk0 (.int .i64 (p.did a).2.2) (by rfl) ?_
    simp only [sets_nilE]
    generalize Heap.sets H1 us = H2 at hP2 hoth ⊢
    have hpo := hp.did (by omega) a
    simp only [w6_39, w6_40, w6_40_0c, w6_40_0, w6_40_12c, w6_40_12, w6_40_24c, w6_40_24, w6_40_36c, w6_40_36, w6_40_48, w6_41, w6_42, w6_43, w6_43_0, w6_44, w6_45, w6_46, w6_46_0, seqK, blockK, len22, ia22, ld36, fa36_0, ld3b]
    cases hgd : p.g with
    | false =>
      refine gnf (gnf (gnf (gnf (gnf (gnf (mk0 (.bool false) (by rfl) ?_))))))
      repeat (first | refine gnf ?_ | refine gnu ?_)
      refine mk0 (.bool false) (by rfl) ?_
      refine condF ?_
      refine mk0 _ (bin_add (by omega) (by omega)) ?_
      exact ih (i + 1) (by omega) _ (p.did a).1 qn' _ _ _ _ _ _ _ _ _ _ _ _ _ _ _ _ _ _ _ _ _ _ _ _ _ _ _ _ _ _ _ _ _ _ _ _ _ _ _ _ _ _ _ _ _ _ _ _ _ _ _ _ _ _ _ _ _ _ _ _ _ _ _ _ _ _ _ _ _ _ _ _ _ _ _ _ _ _ _ _ _ _ _ _ _ _ _ _ _ _ _ _ _ _ _ _ _ _ _ _ _ _ _ _ _ _ _ _ _ _ _ _ _ _ _ _ _ _ _ _ _ _ _ _ _ _ _ _ _ _ _ _ _ _ _ _ _ _ _ _ _ _ _ _ _ _ _ _ _ _ hpo.1 (by omega) hq' hP2
    | true =>
      refine gp (gp (gy0 _ hia (gy0 _ hfd (gy0 _ (hl0 _) (gy0 _ (bin_neq ..) ?_)))))
      by_cases h5 : a.d = 5
      · have e : (a.d != 5) = false := by simpa using h5
        rw [e]
        refine mk0 (.bool false) (by rfl) ?_
        repeat (first | refine gnf ?_ | refine gnu ?_)
        refine mk0 (.bool false) (by rfl) ?_
        refine condF ?_
        refine mk0 _ (bin_add (by omega) (by omega)) ?_
        exact ih (i + 1) (by omega) _ (p.did a).1 qn' _ _ _ _ _ _ _ _ _ _ _ _ _ _ _ _ _ _ _ _ _ _ _ _ _ _ _ _ _ _ _ _ _ _ _ _ _ _ _ _ _ _ _ _ _ _ _ _ _ _ _ _ _ _ _ _ _ _ _ _ _ _ _ _ _ _ _ _ _ _ _ _ _ _ _ _ _ _ _ _ _ _ _ _ _ _ _ _ _ _ _ _ _ _ _ _ _ _ _ _ _ _ _ _ _ _ _ _ _ _ _ _ _ _ _ _ _ _ _ _ _ _ _ _ _ _ _ _ _ _ _ _ _ _ _ _ _ _ _ _ _ _ _ _ _ _ _ _ _ _ hpo.1 (by omega) hq' hP2
      · have e : (a.d != 5) = true := by simpa using h5
        obtain ⟨dk1, dk2, dk3, dk4⟩ := PD.did_dark hgd h5
        rw [e]
        refine mk0 (.bool true) (by rfl) ?_
        refine gp (gcall ?_)
        refine image_call (Q := fun o => _) hP2 (ks_ne hpo.1) (ks_lt hpo.1) (fun gi2 => ?_)
        simp only [sets_nilE]
        have hi3 : (Heap.sets H2 [(.sub 66 (.sub 9 (.own 7)), ⟨gi2, cellsB (p.did a).1.ks, false, true⟩)]) (.sub 66 (.sub 9 (.own 7))) = some ⟨gi2, cellsB (p.did a).1.ks, false, true⟩ := by simp [Heap.sets, Heap.set]
        have hP3 : PDF (Heap.sets H2 [(.sub 66 (.sub 9 (.own 7)), ⟨gi2, cellsB (p.did a).1.ks, false, true⟩)]) (.sub 21 (.own 15)) (.sub 21 (.own 13)) gd gk qn' (p.did a).1 := keepF hP2 hq' (by simp [Heap.sets, Heap.set]) (by simp [Heap.sets, Heap.set]) (by simp [Heap.sets, Heap.set])
        generalize Heap.sets H2 [(.sub 66 (.sub 9 (.own 7)), ⟨gi2, cellsB (p.did a).1.ks, false, true⟩)] = H3 at hi3 hP3 ⊢
        refine gy _ _ _ (conv_sl hi3) ?_
        refine gp ?_
        refine gy0 (.bool false) (by rw [bin_sneq, dk1]; simp) ?_
        refine gp (gp (gcall ?_))
        simp only [sets_nilE]
        refine pending_call (Q := fun o => _) hP3 ?_
        refine gp ?_
        refine gy0 (.bool false) (by rw [bin_neq, dk2]; simp) ?_
        refine gy0 (.bool false) (by rfl) ?_
        refine gp (gp (gcall ?_))
        simp only [sets_nilE]
        refine dark_call (Q := fun o => _) hP3 (fun rd => ?_)
        rw [dk3]
        refine gy0 (.bool false) (by rfl) ?_
        refine gy0 (.bool false) (by rfl) ?_
        refine gp (gp (gp (gy0 _ hia (gy0 _ hfd (gy0 _ (hl0 _) (gy0 _ (bin_geq ..) ?_))))))
        simp only [sets_nilE]
        by_cases g0 : a.d ≥ 0
        · rw [decide_eq_true g0]
          refine gp (gp (gp (gy0 _ hia (gy0 _ hfd (gy0 _ (hl0 _) (gy0 _ (bin_leq ..) ?_))))))
          simp only [sets_nilE]
          by_cases g2 : a.d ≤ 2
          · rw [decide_eq_true g2]
            refine gy0 (.bool true) (by rfl) ?_
            refine gp (gp (gy0 _ (bin_neq ..) ?_))
            rcases dk4 g0 g2 with hf | hf
            · rw [hf]
              refine gy0 (.bool false) (by rfl) ?_
              refine gp ?_
              repeat (first | refine gnf ?_ | refine gnu ?_)
              refine gy0 (.bool false) (by rfl) ?_
              refine gy0 (.bool false) (by rfl) ?_
              refine mk0 (.bool false) (by rfl) ?_
              refine condF ?_
              refine mk0 _ (bin_add (by omega) (by omega)) ?_
              exact ih (i + 1) (by omega) _ (p.did a).1 qn' _ _ _ _ _ _ _ _ _ _ _ _ _ _ _ _ _ _ _ _ _ _ _ _ _ _ _ _ _ _ _ _ _ _ _ _ _ _ _ _ _ _ _ _ _ _ _ _ _ _ _ _ _ _ _ _ _ _ _ _ _ _ _ _ _ _ _ _ _ _ _ _ _ _ _ _ _ _ _ _ _ _ _ _ _ _ _ _ _ _ _ _ _ _ _ _ _ _ _ _ _ _ _ _ _ _ _ _ _ _ _ _ _ _ _ _ _ _ _ _ _ _ _ _ _ _ _ _ _ _ _ _ _ _ _ _ _ _ _ _ _ _ _ _ _ _ _ _ _ _ hpo.1 (by omega) hq' hP3
            · rw [hf]
              refine gy0 (.bool true) (by rfl) ?_
              refine gp (gp (gy0 (.bool false) (by rfl) ?_))
              refine gy0 (.bool false) (by rfl) ?_
              refine gy0 (.bool false) (by rfl) ?_
              refine mk0 (.bool false) (by rfl) ?_
              refine condF ?_
              refine mk0 _ (bin_add (by omega) (by omega)) ?_
              exact ih (i + 1) (by omega) _ (p.did a).1 qn' _ _ _ _ _ _ _ _ _ _ _ _ _ _ _ _ _ _ _ _ _ _ _ _ _ _ _ _ _ _ _ _ _ _ _ _ _ _ _ _ _ _ _ _ _ _ _ _ _ _ _ _ _ _ _ _ _ _ _ _ _ _ _ _ _ _ _ _ _ _ _ _ _ _ _ _ _ _ _ _ _ _ _ _ _ _ _ _ _ _ _ _ _ _ _ _ _ _ _ _ _ _ _ _ _ _ _ _ _ _ _ _ _ _ _ _ _ _ _ _ _ _ _ _ _ _ _ _ _ _ _ _ _ _ _ _ _ _ _ _ _ _ _ _ _ _ _ _ _ _ hpo.1 (by omega) hq' hP3
          · rw [decide_eq_false g2]
            refine gy0 (.bool false) (by rfl) ?_
            refine gp ?_
            repeat (first | refine gnf ?_ | refine gnu ?_)
            refine gy0 (.bool false) (by rfl) ?_
            refine gp ?_
            repeat (first | refine gnf ?_ | refine gnu ?_)
            refine gy0 (.bool false) (by rfl) ?_
            refine gy0 (.bool false) (by rfl) ?_
            refine mk0 (.bool false) (by rfl) ?_
            refine condF ?_
            refine mk0 _ (bin_add (by omega) (by omega)) ?_
            exact ih (i + 1) (by omega) _ (p.did a).1 qn' _ _ _ _ _ _ _ _ _ _ _ _ _ _ _ _ _ _ _ _ _ _ _ _ _ _ _ _ _ _ _ _ _ _ _ _ _ _ _ _ _ _ _ _ _ _ _ _ _ _ _ _ _ _ _ _ _ _ _ _ _ _ _ _ _ _ _ _ _ _ _ _ _ _ _ _ _ _ _ _ _ _ _ _ _ _ _ _ _ _ _ _ _ _ _ _ _ _ _ _ _ _ _ _ _ _ _ _ _ _ _ _ _ _ _ _ _ _ _ _ _ _ _ _ _ _ _ _ _ _ _ _ _ _ _ _ _ _ _ _ _ _ _ _ _ _ _ _ _ _ hpo.1 (by omega) hq' hP3
        · rw [decide_eq_false g0]
          refine gp ?_
          repeat (first | refine gnf ?_ | refine gnu ?_)
          refine gy0 (.bool false) (by rfl) ?_
          refine gp ?_
          repeat (first | refine gnf ?_ | refine gnu ?_)
          refine gy0 (.bool false) (by rfl) ?_
          refine gp ?_
          repeat (first | refine gnf ?_ | refine gnu ?_)
          refine gy0 (.bool false) (by rfl) ?_
          refine gy0 (.bool false) (by rfl) ?_
          refine mk0 (.bool false) (by rfl) ?_
          refine condF ?_
          refine mk0 _ (bin_add (by omega) (by omega)) ?_
          exact ih (i + 1) (by omega) _ (p.did a).1 qn' _ _ _ _ _ _ _ _ _ _ _ _ _ _ _ _ _ _ _ _ _ _ _ _ _ _ _ _ _ _ _ _ _ _ _ _ _ _ _ _ _ _ _ _ _ _ _ _ _ _ _ _ _ _ _ _ _ _ _ _ _ _ _ _ _ _ _ _ _ _ _ _ _ _ _ _ _ _ _ _ _ _ _ _ _ _ _ _ _ _ _ _ _ _ _ _ _ _ _ _ _ _ _ _ _ _ _ _ _ _ _ _ _ _ _ _ _ _ _ _ _ _ _ _ _ _ _ _ _ _ _ _ _ _ _ _ _ _ _ _ _ _ _ _ _ _ _ _ _ _ hpo.1 (by omega) hq' hP3
end Go.Proofs.Ytcamcfplcoklkaa.Iv

namespace Go.Proofs.Ytcamcfplcoklkaa.Iv
open Go
set_option linter.unusedVariables false
set_option linter.unusedSimpArgs false
set_option maxRecDepth 100000

section
variable {o : Option Out} {H : Heap} {lg : Log} {k : Nat} {Q : V → Heap → Log → Prop}
theorem gpL {b : Bool} {o : Out} (q : Q o.v (H.sets o.ups) ((k, o.rd, o.ups.map (·.1)) :: lg)) : guardL (.bool b) b H lg k (fun q => q o) Q := by cases b <;> exact q
theorem gyL {b : Bool} (v : V) (us : List (Id × Blk)) (rd : List Id) (h : o = some ⟨v, us, rd⟩) (q : Q v (H.sets us) ((k, rd, us.map (·.1)) :: lg)) : guardL (.bool b) b H lg k (outW o) Q := by subst h; cases b <;> exact q
end
theorem len38 {x} : evLen Try.prog 38 x = lenS x := by cases x <;> kernel_rfl
theorem ia38 {x i} : evIndexAddr Try.prog 38 x i = iaR 1 x i := by kernel_rfl
theorem ld9 {H x} : evLoad Try.prog H 9 x = ldR 1 false H x := by kernel_rfl
theorem ia_sl {i : Id} {g n j : Nat} {lim : Option Nat} (h : j < n) : iaR 1 (.sl i g 0 n 1 lim) (.int .i64 (j : Int)) = pureO (.ptr i g (0 + j * 1)) := by
  simp [iaR, h]
theorem ld_at {H : Heap} {i : Id} {g j : Nat} {cs : List V} {fz fl : Bool} {v : V} (h : H i = some ⟨g, cs, fz, fl⟩) (hv : cs[j]? = some v) : ldR 1 false H (.ptr i g (0 + j * 1)) = some ⟨v, [], [i]⟩ := by
  have l1 : live H i g = some ⟨g, cs, fz, fl⟩ := by simp [live, h]
  have c : cut cs (0 + j * 1) 1 = some [v] := by
    obtain ⟨h1, h2⟩ := List.getElem?_eq_some_iff.1 hv
    unfold cut
    rw [Nat.mul_one, Nat.zero_add, List.drop_eq_getElem_cons h1, h2]
    simp
  unfold ldR
  simp only [l1, c, mkv]
theorem secsV_at {ks : List Int} {n j : Nat} (h : j < n) : (secsV ks n)[j]? = some (.str (secS ks j)) := by simp [secsV, h]
theorem lastI_nil {ks : List Int} {kn : Nat} {t : Int} : lastI ks [] kn t = ks := by simp [lastI, settledI]
set_option maxHeartbeats 8000000 in
/-- the second loop of DiskRests: what is read is what lasts -/
theorem rests_loop2 {l : List Act4} {gd gk gs : Nat} {keep torn : Int} {p : PD} (hp : p.ok 16) (hg : p.g = false) (hi0 : p.items = []) {Q : KQ}
    (hx : ∀ (H' : Heap) t3 t4 t5 t8 t9 t10 t11 t12 t13 t14 t16 t17 t18 t19 t20 t21 t22 t23 t24 t25 t26 t27 t28 t29 t30 t31 t32 t33 t34 t35 t36 t37 t38 t39 t40 t41 t42 t43 t44 t45 t46 t47 t48 t49 t50 t51 t52 t53 t54 t55 t56 t57 t58 t59 t60 t61 t62 t63 t64 t65 t66 t67 t68 t69 t70 t71 t72 t73 t74 t75 t76 t77 t78 t79 t80 t81 t82 t83 t84 t85 t86 t87 t88 t89 t90 t91 t92 t93 t94 t95 t96 t97 t98 t99 t100 t101 t102 t103 t104 t105 t106 t107 t108 t109 t110 t111 t112 t113 t114 t115 t116 t117 t118 t119 t120 t121 t122 t123 t124 t125 t126 t127 t128 t129 t130 t131 t132 t133 t134 t135 t136 t137 t138 t139 t140 t141 t142 t143 t144 t145 t146 t147 t148 t149 t150 t151 t152 t153 t154 t155, PDF H' (.sub 21 (.own 15)) (.sub 21 (.own 13)) gd gk none p → Q (.exit 2) [actsV l, .int .i64 keep, .int .i64 torn, t3, t4, t5, .bool false, .ptr (.sub 21 (.own 15)) gd 0, t8, t9, t10, t11, t12, t13, t14, .sl (.sub 111 (.own 23)) gs 0 16 1 none, t16, t17, t18, t19, t20, t21, t22, t23, t24, t25, t26, t27, t28, t29, t30, t31, t32, t33, t34, t35, t36, t37, t38, t39, t40, t41, t42, t43, t44, t45, t46, t47, t48, t49, t50, t51, t52, t53, t54, t55, t56, t57, t58, t59, t60, t61, t62, t63, t64, t65, t66, t67, t68, t69, t70, t71, t72, t73, t74, t75, t76, t77, t78, t79, t80, t81, t82, t83, t84, t85, t86, t87, t88, t89, t90, t91, t92, t93, t94, t95, t96, t97, t98, t99, t100, t101, t102, t103, t104, t105, t106, t107, t108, t109, t110, t111, t112, t113, t114, t115, t116, t117, t118, t119, t120, t121, t122, t123, t124, t125, t126, t127, t128, t129, t130, t131, t132, t133, t134, t135, t136, t137, t138, t139, t140, t141, t142, t143, t144, t145, t146, t147, t148, t149, t150, t151, t152, t153, t154, t155] H') :
    ∀ (k i : Nat), i + k = 16 → ∀ (H : Heap) t3 t4 t5 t8 t9 t10 t11 t12 t13 t14 t17 t18 t19 t20 t21 t22 t23 t24 t25 t26 t27 t28 t29 t30 t31 t32 t33 t34 t35 t36 t37 t38 t39 t40 t41 t42 t43 t44 t45 t46 t47 t48 t49 t50 t51 t52 t53 t54 t55 t56 t57 t58 t59 t60 t61 t62 t63 t64 t65 t66 t67 t68 t69 t70 t71 t72 t73 t74 t75 t76 t77 t78 t79 t80 t81 t82 t83 t84 t85 t86 t87 t88 t89 t90 t91 t92 t93 t94 t95 t96 t97 t98 t99 t100 t101 t102 t103 t104 t105 t106 t107 t108 t109 t110 t111 t112 t113 t114 t115 t116 t117 t118 t119 t120 t121 t122 t123 t124 t125 t126 t127 t128 t129 t130 t131 t132 t133 t134 t135 t136 t137 t138 t139 t140 t141 t142 t143 t144 t145 t146 t147 t148 t149 t150 t151 t152 t153 t154 t155, PDF H (.sub 21 (.own 15)) (.sub 21 (.own 13)) gd gk none p → H (.sub 111 (.own 23)) = some ⟨gs, secsV p.ks 16, false, true⟩ → LoopR dcfg c6_70 [actsV l, .int .i64 keep, .int .i64 torn, t3, t4, t5, .bool false, .ptr (.sub 21 (.own 15)) gd 0, t8, t9, t10, t11, t12, t13, t14, .sl (.sub 111 (.own 23)) gs 0 16 1 none, .int .i64 (i : Int), t17, t18, t19, t20, t21, t22, t23, t24, t25, t26, t27, t28, t29, t30, t31, t32, t33, t34, t35, t36, t37, t38, t39, t40, t41, t42, t43, t44, t45, t46, t47, t48, t49, t50, t51, t52, t53, t54, t55, t56, t57, t58, t59, t60, t61, t62, t63, t64, t65, t66, t67, t68, t69, t70, t71, t72, t73, t74, t75, t76, t77, t78, t79, t80, t81, t82, t83, t84, t85, t86, t87, t88, t89, t90, t91, t92, t93, t94, t95, t96, t97, t98, t99, t100, t101, t102, t103, t104, t105, t106, t107, t108, t109, t110, t111, t112, t113, t114, t115, t116, t117, t118, t119, t120, t121, t122, t123, t124, t125, t126, t127, t128, t129, t130, t131, t132, t133, t134, t135, t136, t137, t138, t139, t140, t141, t142, t143, t144, t145, t146, t147, t148, t149, t150, t151, t152, t153, t154, t155] H Q := by
  intro k
  induction k with
  | zero =>
    intro i hi H t3 t4 t5 t8 t9 t10 t11 t12 t13 t14 t17 t18 t19 t20 t21 t22 t23 t24 t25 t26 t27 t28 t29 t30 t31 t32 t33 t34 t35 t36 t37 t38 t39 t40 t41 t42 t43 t44 t45 t46 t47 t48 t49 t50 t51 t52 t53 t54 t55 t56 t57 t58 t59 t60 t61 t62 t63 t64 t65 t66 t67 t68 t69 t70 t71 t72 t73 t74 t75 t76 t77 t78 t79 t80 t81 t82 t83 t84 t85 t86 t87 t88 t89 t90 t91 t92 t93 t94 t95 t96 t97 t98 t99 t100 t101 t102 t103 t104 t105 t106 t107 t108 t109 t110 t111 t112 t113 t114 t115 t116 t117 t118 t119 t120 t121 t122 t123 t124 t125 t126 t127 t128 t129 t130 t131 t132 t133 t134 t135 t136 t137 t138 t139 t140 t141 t142 t143 t144 t145 t146 t147 t148 t149 t150 t151 t152 t153 t154 t155 hP hS
    refine LoopR.step ?_
    show wC Try.prog dcfg.pol (CallR dcfg) (LoopR dcfg) c6_70 _ H _
    simp only [w6_70, w6_71, w6_72, w6_72_0, w6_73, w6_74, w6_75, seqK]
    refine mk0 (.bool false) (by rw [bin_lss, decide_eq_false (by omega)]) ?_
    refine condF ?_
    exact hx H _ _ _ _ _ _ _ _ _ _ _ _ _ _ _ _ _ _ _ _ _ _ _ _ _ _ _ _ _ _ _ _ _ _ _ _ _ _ _ _ _ _ _ _ _ _ _ _ _ _ _ _ _ _ _ _ _ _ _ _ _ _ _ _ _ _ _ _ _ _ _ _ _ _ _ _ _ _ _ _ _ _ _ _ _ _ _ _ _ _ _ _ _ _ _ _ _ _ _ _ _ _ _ _ _ _ _ _ _ _ _ _ _ _ _ _ _ _ _ _ _ _ _ _ _ _ _ _ _ _ _ _ _ _ _ _ _ _ _ _ _ _ _ _ _ _ _ _ _ _ hP
  | succ k ih =>
    intro i hi H t3 t4 t5 t8 t9 t10 t11 t12 t13 t14 t17 t18 t19 t20 t21 t22 t23 t24 t25 t26 t27 t28 t29 t30 t31 t32 t33 t34 t35 t36 t37 t38 t39 t40 t41 t42 t43 t44 t45 t46 t47 t48 t49 t50 t51 t52 t53 t54 t55 t56 t57 t58 t59 t60 t61 t62 t63 t64 t65 t66 t67 t68 t69 t70 t71 t72 t73 t74 t75 t76 t77 t78 t79 t80 t81 t82 t83 t84 t85 t86 t87 t88 t89 t90 t91 t92 t93 t94 t95 t96 t97 t98 t99 t100 t101 t102 t103 t104 t105 t106 t107 t108 t109 t110 t111 t112 t113 t114 t115 t116 t117 t118 t119 t120 t121 t122 t123 t124 t125 t126 t127 t128 t129 t130 t131 t132 t133 t134 t135 t136 t137 t138 t139 t140 t141 t142 t143 t144 t145 t146 t147 t148 t149 t150 t151 t152 t153 t154 t155 hP hS
    refine LoopR.step ?_
    show wC Try.prog dcfg.pol (CallR dcfg) (LoopR dcfg) c6_70 _ H _
    simp only [w6_70, w6_71, w6_72, w6_72_0, w6_73, w6_74, w6_75, w6_76, w6_77, w6_78, w6_79, w6_79_0, w6_80, w6_81, w6_81_0, w6_82, w6_83, w6_84, w6_84_0, w6_85, w6_86, w6_87, w6_87_0, seqK, blockK, ia38, ld9]
    refine mk0 (.bool true) (by rw [bin_lss, decide_eq_true (by omega)]) ?_
    refine condT ?_
    have hlen := hp.len
    refine read_call (Q := fun o => _) hP (fun x hx => (hp.it' x hx).2) hp.few (by omega) (by rw [hp.secs]; omega) (fun hn rd => absurd hn (fun h => h ⟨by omega, by rw [hp.secs]; omega⟩)) (fun hn hgt rd => by rw [hg] at hgt; cases hgt) (fun hn _ bs hbs t gg rd => ?_)
    have hb2 : bs = (p.ks.take ((i + 1) * 64)).drop (i * 64) := by
      rw [hbs, hi0]
      rfl
    refine mk0 (.sl (.sub 127 (.sub t (.own 7))) gg 0 bs.length 1 none) (by rfl) ?_
    refine mk0 (.int .i64 0) (by rfl) ?_
    have hh : (Heap.sets H [(.sub 127 (.sub t (.own 7)), ⟨gg, cellsB bs, false, true⟩)]) (.sub 127 (.sub t (.own 7))) = some ⟨gg, cellsB bs, false, true⟩ := by simp [Heap.sets, Heap.set]
    have hP1 : PDF (Heap.sets H [(.sub 127 (.sub t (.own 7)), ⟨gg, cellsB bs, false, true⟩)]) (.sub 21 (.own 15)) (.sub 21 (.own 13)) gd gk none p := keepF hP (.inl rfl) (by simp [Heap.sets, Heap.set]) (by simp [Heap.sets, Heap.set]) (by simp [Heap.sets, Heap.set])
    have hS1 : (Heap.sets H [(.sub 127 (.sub t (.own 7)), ⟨gg, cellsB bs, false, true⟩)]) (.sub 111 (.own 23)) = some ⟨gs, secsV p.ks 16, false, true⟩ := by simp [Heap.sets, Heap.set]; exact hS
    simp only [sets_nilE]
    generalize Heap.sets H [(.sub 127 (.sub t (.own 7)), ⟨gg, cellsB bs, false, true⟩)] = H1 at hh hP1 hS1 ⊢
    refine mkL0 (.int .i64 0) [] (by rfl) ?_
    refine mkL0 (.bool false) [] (by rfl) ?_
    refine mkL0 (.bool false) [] (by rfl) ?_
    refine gpL ?_
    simp only [sets_nilE]
    refine gyL _ _ _ (conv_sl hh) ?_
    refine gpL ?_
    refine gpL ?_
    simp only [sets_nilE]
    refine gyL _ _ _ (ia_sl (by omega)) ?_
    refine gyL _ _ _ (ld_at hS1 (secsV_at (by omega))) ?_
    refine gyL (.bool false) [] [] (by
      have e : secS p.ks i = toStr bs := by rw [hb2]; rfl
      rw [bin_sneq, e]; simp) ?_
    refine mkL0 (.bool false) [] (by rfl) ?_
    refine ⟨by kernel_rfl, ?_⟩
    simp only [sets_nilE]
    refine condF ?_
    refine mk0 _ (bin_add (by omega) (by omega)) ?_
    exact ih (i + 1) (by omega) _ _ _ _ _ _ _ _ _ _ _ _ _ _ _ _ _ _ _ _ _ _ _ _ _ _ _ _ _ _ _ _ _ _ _ _ _ _ _ _ _ _ _ _ _ _ _ _ _ _ _ _ _ _ _ _ _ _ _ _ _ _ _ _ _ _ _ _ _ _ _ _ _ _ _ _ _ _ _ _ _ _ _ _ _ _ _ _ _ _ _ _ _ _ _ _ _ _ _ _ _ _ _ _ _ _ _ _ _ _ _ _ _ _ _ _ _ _ _ _ _ _ _ _ _ _ _ _ _ _ _ _ _ _ _ _ _ _ _ _ _ _ _ _ _ _ _ _ _ _ hP1 hS1
set_option maxHeartbeats 8000000 in
/-- DiskRests, from its Sync on -/
theorem rests_end {l : List Act4} {gd gk : Nat} {keep torn : Int} {p : PD} {qn : Option (Id × Nat)} {H : Heap} (hp : p.ok 16) (hq : QN qn) (hP : PDF H (.sub 21 (.own 15)) (.sub 21 (.own 13)) gd gk qn p) : ∀ t3 t4 t5 t8 t9 t10 t11 t12 t13 t14 t15 t16 t17 t18 t19 t20 t21 t22 t23 t24 t25 t26 t27 t28 t29 t30 t31 t32 t33 t34 t35 t36 t37 t38 t39 t40 t41 t42 t43 t44 t45 t46 t47 t48 t49 t50 t51 t52 t53 t54 t55 t56 t57 t58 t59 t60 t61 t62 t63 t64 t65 t66 t67 t68 t69 t70 t71 t72 t73 t74 t75 t76 t77 t78 t79 t80 t81 t82 t83 t84 t85 t86 t87 t88 t89 t90 t91 t92 t93 t94 t95 t96 t97 t98 t99 t100 t101 t102 t103 t104 t105 t106 t107 t108 t109 t110 t111 t112 t113 t114 t115 t116 t117 t118 t119 t120 t121 t122 t123 t124 t125 t126 t127 t128 t129 t130 t131 t132 t133 t134 t135 t136 t137 t138 t139 t140 t141 t142 t143 t144 t145 t146 t147 t148 t149 t150 t151 t152 t153 t154 t155,
    wC Try.prog dcfg.pol (CallR dcfg) (LoopR dcfg) c6_47 [actsV l, .int .i64 keep, .int .i64 torn, t3, t4, t5, .bool false, .ptr (.sub 21 (.own 15)) gd 0, t8, t9, t10, t11, t12, t13, t14, t15, t16, t17, t18, t19, t20, t21, t22, t23, t24, t25, t26, t27, t28, t29, t30, t31, t32, t33, t34, t35, t36, t37, t38, t39, t40, t41, t42, t43, t44, t45, t46, t47, t48, t49, t50, t51, t52, t53, t54, t55, t56, t57, t58, t59, t60, t61, t62, t63, t64, t65, t66, t67, t68, t69, t70, t71, t72, t73, t74, t75, t76, t77, t78, t79, t80, t81, t82, t83, t84, t85, t86, t87, t88, t89, t90, t91, t92, t93, t94, t95, t96, t97, t98, t99, t100, t101, t102, t103, t104, t105, t106, t107, t108, t109, t110, t111, t112, t113, t114, t115, t116, t117, t118, t119, t120, t121, t122, t123, t124, t125, t126, t127, t128, t129, t130, t131, t132, t133, t134, t135, t136, t137, t138, t139, t140, t141, t142, t143, t144, t145, t146, t147, t148, t149, t150, t151, t152, t153, t154, t155] H (wRes Try.prog [.tmp 6] fun r _ => r = .bool true) := by
  intro t3 t4 t5 t8 t9 t10 t11 t12 t13 t14 t15 t16 t17 t18 t19 t20 t21 t22 t23 t24 t25 t26 t27 t28 t29 t30 t31 t32 t33 t34 t35 t36 t37 t38 t39 t40 t41 t42 t43 t44 t45 t46 t47 t48 t49 t50 t51 t52 t53 t54 t55 t56 t57 t58 t59 t60 t61 t62 t63 t64 t65 t66 t67 t68 t69 t70 t71 t72 t73 t74 t75 t76 t77 t78 t79 t80 t81 t82 t83 t84 t85 t86 t87 t88 t89 t90 t91 t92 t93 t94 t95 t96 t97 t98 t99 t100 t101 t102 t103 t104 t105 t106 t107 t108 t109 t110 t111 t112 t113 t114 t115 t116 t117 t118 t119 t120 t121 t122 t123 t124 t125 t126 t127 t128 t129 t130 t131 t132 t133 t134 t135 t136 t137 t138 t139 t140 t141 t142 t143 t144 t145 t146 t147 t148 t149 t150 t151 t152 t153 t154 t155
  have hlen := hp.len
  have hsz : secOf (cellsB p.ks) ≠ 0 := by rw [hp.secOf]; omega
  simp only [w6_47, w6_48, w6_49, w6_49_0, w6_50, w6_51, w6_52, w6_52_0, w6_53, w6_54, seqK]
  refine sync_call (Q := fun o => _) hP hp.few (by rw [cellsB_len]; omega) (by rw [cellsB_len]; exact hp.it2) (fun hz => absurd hz hsz) (fun _ hg us rd hB => ?_) (fun _ hg us rd hB => ?_)
  · refine mk0 (.bool true) (by rfl) ?_
    refine condT ?_
    refine awake_callW ?_
    rfl
  · refine mk0 (.bool false) (by rfl) ?_
    refine condF ?_
    rw [settled_I] at hB
    have hw : p.sync.1 = ⟨left' p.l, false, p.b, settledI p.ks p.items, []⟩ := by unfold PD.sync; rw [if_neg (by rw [hg]; simp)]
    have hp1 := hp.sync.1
    rw [hw] at hp1
    have hP1 : PDF (H.sets us) (.sub 21 (.own 15)) (.sub 21 (.own 13)) gd gk none ⟨left' p.l, false, p.b, settledI p.ks p.items, []⟩ := hB.1
    generalize hp2 : (⟨left' p.l, false, p.b, settledI p.ks p.items, []⟩ : PD) = p2 at hp1 hP1
    have g2 : p2.g = false := by rw [← hp2]
    have i2 : p2.items = [] := by rw [← hp2]
    have hlen2 := hp1.len
    have hsz2 : secOf (cellsB p2.ks) ≠ 0 := by rw [hp1.secOf]; omega
    simp only [w6_55, w6_56, w6_56_0, w6_57, w6_58, w6_59, w6_59_0, w6_60, w6_61, w6_62, w6_62_0, w6_63, w6_64, w6_65, w6_66, w6_67, w6_67_0, w6_68, w6_69, seqK, len38]
    generalize H.sets us = H1 at hP1 ⊢
    refine secs_call (Q := fun o => _) hP1 hp1 (fun gs rd1 => ?_)
    refine mk0 (.int .i64 16) (by rfl) ?_
    refine mk0 (.bool false) (by rfl) ?_
    refine gp (gcall ?_)
    simp only [sets_nilE]
    have hP2 : PDF (Heap.sets H1 [((.sub 111 (.own 23)), ⟨gs, secsV p2.ks 16, false, true⟩)]) (.sub 21 (.own 15)) (.sub 21 (.own 13)) gd gk none p2 := keepF hP1 (.inl rfl) (by simp [Heap.sets, Heap.set]) (by simp [Heap.sets, Heap.set]) (by simp [Heap.sets, Heap.set])
    have hS2 : (Heap.sets H1 [((.sub 111 (.own 23)), ⟨gs, secsV p2.ks 16, false, true⟩)]) (.sub 111 (.own 23)) = some ⟨gs, secsV p2.ks 16, false, true⟩ := by simp [Heap.sets, Heap.set]
    generalize Heap.sets H1 [((.sub 111 (.own 23)), ⟨gs, secsV p2.ks 16, false, true⟩)] = H2 at hP2 hS2 ⊢
    refine pending_call (Q := fun o => _) hP2 ?_
    refine gy0 (.bool false) (by rw [i2]; rfl) ?_
    refine mk0 (.bool false) (by rfl) ?_
    refine condF ?_
    simp only [sets_nilE]
    refine rests_loop2 (i := 0) (k := 16) hp1 g2 i2 (fun H3 t3 t4 t5 t8 t9 t10 t11 t12 t13 t14 t16 t17 t18 t19 t20 t21 t22 t23 t24 t25 t26 t27 t28 t29 t30 t31 t32 t33 t34 t35 t36 t37 t38 t39 t40 t41 t42 t43 t44 t45 t46 t47 t48 t49 t50 t51 t52 t53 t54 t55 t56 t57 t58 t59 t60 t61 t62 t63 t64 t65 t66 t67 t68 t69 t70 t71 t72 t73 t74 t75 t76 t77 t78 t79 t80 t81 t82 t83 t84 t85 t86 t87 t88 t89 t90 t91 t92 t93 t94 t95 t96 t97 t98 t99 t100 t101 t102 t103 t104 t105 t106 t107 t108 t109 t110 t111 t112 t113 t114 t115 t116 t117 t118 t119 t120 t121 t122 t123 t124 t125 t126 t127 t128 t129 t130 t131 t132 t133 t134 t135 t136 t137 t138 t139 t140 t141 t142 t143 t144 t145 t146 t147 t148 t149 t150 t151 t152 t153 t154 t155 hP3 => ?_) (by omega) H2 _ _ _ _ _ _ _ _ _ _ _ _ _ _ _ _ _ _ _ _ _ _ _ _ _ _ _ _ _ _ _ _ _ _ _ _ _ _ _ _ _ _ _ _ _ _ _ _ _ _ _ _ _ _ _ _ _ _ _ _ _ _ _ _ _ _ _ _ _ _ _ _ _ _ _ _ _ _ _ _ _ _ _ _ _ _ _ _ _ _ _ _ _ _ _ _ _ _ _ _ _ _ _ _ _ _ _ _ _ _ _ _ _ _ _ _ _ _ _ _ _ _ _ _ _ _ _ _ _ _ _ _ _ _ _ _ _ _ _ _ _ _ _ _ _ _ _ _ _ hP2 hS2
    simp only [w6_88, w6_89, w6_89_0, w6_90, w6_91, w6_91_0, w6_92, w6_93, w6_93_0, w6_94, seqK, blockK, if_true]
    refine image_call (Q := fun o => _) hP3 (ks_ne hp1) (ks_lt hp1) (fun gi => ?_)
    have hi1 : (Heap.sets H3 [(.sub 142 (.sub 9 (.own 7)), ⟨gi, cellsB p2.ks, false, true⟩)]) (.sub 142 (.sub 9 (.own 7))) = some ⟨gi, cellsB p2.ks, false, true⟩ := by simp [Heap.sets, Heap.set]
    have hP4 : PDF (Heap.sets H3 [(.sub 142 (.sub 9 (.own 7)), ⟨gi, cellsB p2.ks, false, true⟩)]) (.sub 21 (.own 15)) (.sub 21 (.own 13)) gd gk none p2 := keepF hP3 (.inl rfl) (by simp [Heap.sets, Heap.set]) (by simp [Heap.sets, Heap.set]) (by simp [Heap.sets, Heap.set])
    generalize Heap.sets H3 [(.sub 142 (.sub 9 (.own 7)), ⟨gi, cellsB p2.ks, false, true⟩)] = H4 at hi1 hP4 ⊢
    refine mk _ _ _ (conv_sl hi1) ?_
    simp only [sets_nilE]
    refine crash_call (Q := fun o => _) hP4 hp1.few (by rw [cellsB_len]; omega) (by rw [cellsB_len]; exact hp1.it') (fun hz => absurd hz hsz2) (fun _ us4 rd4 hB4 => ?_)
    rw [last_I, i2, lastI_nil] at hB4
    have hp5 := hp1.crash keep torn
    have hks : (p2.crash keep torn).ks = p2.ks := by
      show lastI p2.ks p2.items (min keep.toNat p2.items.length) torn = p2.ks
      rw [i2]; exact lastI_nil
    have hP5 : PDF (H4.sets us4) (.sub 21 (.own 15)) (.sub 21 (.own 13)) gd gk none (p2.crash keep torn) := by
      have := hB4.1
      rw [← hks] at this
      exact this
    generalize H4.sets us4 = H5 at hP5 ⊢
    refine image_call (Q := fun o => _) hP5 (ks_ne hp5) (ks_lt hp5) (fun gi2 => ?_)
    rw [hks]
    have hi6 : (Heap.sets H5 [(.sub 149 (.sub 9 (.own 7)), ⟨gi2, cellsB p2.ks, false, true⟩)]) (.sub 149 (.sub 9 (.own 7))) = some ⟨gi2, cellsB p2.ks, false, true⟩ := by simp [Heap.sets, Heap.set]
    refine mk _ _ _ (conv_sl hi6) ?_
    refine mk0 (.bool true) (by rw [bin_seql]; simp) ?_
    refine gcall ?_
    refine awake_call (Q := fun o => _) ?_
    refine mk0 (.bool true) (by rfl) ?_
    rfl
set_option maxHeartbeats 8000000 in
/-- DiskRests answers true -/
theorem rests {l : List Act4} (hlen : l.length ≤ 9223372036854775807) (keep torn : Int) : CallR dcfg 6 [actsV l, .int .i64 keep, .int .i64 torn] (fun _ => none) (fun r _ => r = .bool true) := by
  refine CallR.body' (K := dcfg) (f := 6) (fn := Try.f6) (c := c6_0) (env := [actsV l, .int .i64 keep, .int .i64 torn, .und, .und, .und, .und, .und, .und, .und, .und, .und, .und, .und, .und, .und, .und, .und, .und, .und, .und, .und, .und, .und, .und, .und, .und, .und, .und, .und, .und, .und, .und, .und, .und, .und, .und, .und, .und, .und, .und, .und, .und, .und, .und, .und, .und, .und, .und, .und, .und, .und, .und, .und, .und, .und, .und, .und, .und, .und, .und, .und, .und, .und, .und, .und, .und, .und, .und, .und, .und, .und, .und, .und, .und, .und, .und, .und, .und, .und, .und, .und, .und, .und, .und, .und, .und, .und, .und, .und, .und, .und, .und, .und, .und, .und, .und, .und, .und, .und, .und, .und, .und, .und, .und, .und, .und, .und, .und, .und, .und, .und, .und, .und, .und, .und, .und, .und, .und, .und, .und, .und, .und, .und, .und, .und, .und, .und, .und, .und, .und, .und, .und, .und, .und, .und, .und, .und, .und, .und, .und, .und, .und, .und, .und, .und, .und, .und, .und, .und, .und, .und, .und, .und, .und, .und]) (rs := [.tmp 6]) rfl (by kernel_rfl) (by kernel_rfl) (by kernel_rfl) (by kernel_rfl) (by kernel_rfl) (by kernel_rfl) ?_
  show wC Try.prog dcfg.pol (CallR dcfg) (LoopR dcfg) c6_0 _ _ _
  simp only [w6_0, w6_1, w6_1_0, w6_2, w6_3, w6_3_0, w6_4, w6_5, w6_6, w6_6_0, w6_7, w6_8, w6_9, w6_9_0, w6_10, w6_11, w6_12, w6_13, w6_14, w6_14_0, w6_15, w6_16, w6_17, w6_17_0, w6_18, w6_19, seqK]
  refine new_call (Q := fun o => _) (N := 16) (by omega) (by omega) (fun gd gk rd => ?_)
  refine mk0 (.ptr (.sub 21 (.own 15)) gd 0) (by rfl) ?_
  refine mk0 (.int .i64 0) (by rfl) ?_
  refine mk0 (.bool false) (by rfl) ?_
  refine gp (gy0 (.bool false) (by kernel_rfl) ?_)
  refine mk0 (.bool false) (by rfl) ?_
  refine condF ?_
  simp only [sets_nilE]
  refine long_callW hlen (fun b hb => ?_)
  cases b with
  | true =>
    refine condT ?_
    refine awake_callW ?_
    rfl
  | false =>
    obtain ⟨h1, h2⟩ := hb rfl
    refine condF ?_
    have hp0 : (PD.new 16).ok 16 := ⟨by simp [PD.new], by omega, by omega, by simp [PD.new], fun x hx => by cases hx⟩
    have hP0 : PDF (Heap.sets (fun _ => none) [((.sub 21 (.own 15)), ⟨gd, [.int .i64 (-1), .bool false, .int .i64 (-1), .sl (.sub 21 (.own 13)) gk 0 (16 * 64) 1 none, .nils], false, false⟩), ((.sub 21 (.own 13)), ⟨gk, cellsB (List.replicate (16 * 64) 0), false, true⟩)]) (.sub 21 (.own 15)) (.sub 21 (.own 13)) gd gk none (PD.new 16) :=
      ⟨by simp [Heap.sets, Heap.set, PD.new, dq, cellsB_len], by simp [Heap.sets, Heap.set, PD.new], fun Q gq e => (by cases e), fun _ => rfl, by simp⟩
    generalize Heap.sets (fun _ => none) [((.sub 21 (.own 15)), ⟨gd, [.int .i64 (-1), .bool false, .int .i64 (-1), .sl (.sub 21 (.own 13)) gk 0 (16 * 64) 1 none, .nils], false, false⟩), ((.sub 21 (.own 13)), ⟨gk, cellsB (List.replicate (16 * 64) 0), false, true⟩)] = H0 at hP0 ⊢
    simp only [w6_20, w6_21, w6_22, w6_22_0, w6_23, w6_24, seqK]
    refine rests_loop (i := 0) (k := l.length) h1 h2 (fun H' p qn t3 t4 t5 t8 t9 t10 t11 t12 t13 t14 t15 t16 t17 t18 t19 t20 t21 t22 t23 t24 t25 t26 t27 t28 t29 t30 t31 t32 t33 t34 t35 t36 t37 t38 t39 t40 t41 t42 t43 t44 t45 t46 t47 t48 t49 t50 t51 t52 t53 t54 t55 t56 t57 t58 t59 t60 t61 t62 t63 t64 t65 t66 t67 t68 t69 t70 t71 t72 t73 t74 t75 t76 t77 t78 t79 t80 t81 t82 t83 t84 t85 t86 t87 t88 t89 t90 t91 t92 t93 t94 t95 t96 t97 t98 t99 t100 t101 t102 t103 t104 t105 t106 t107 t108 t109 t110 t111 t112 t113 t114 t115 t116 t117 t118 t119 t120 t121 t122 t123 t124 t125 t126 t127 t128 t129 t130 t131 t132 t133 t134 t135 t136 t137 t138 t139 t140 t141 t142 t143 t144 t145 t146 t147 t148 t149 t150 t151 t152 t153 t154 t155 hp hil hq hP => ?_) (by omega) H0 (PD.new 16) none _ _ _ _ _ _ _ _ _ _ _ _ _ _ _ _ _ _ _ _ _ _ _ _ _ _ _ _ _ _ _ _ _ _ _ _ _ _ _ _ _ _ _ _ _ _ _ _ _ _ _ _ _ _ _ _ _ _ _ _ _ _ _ _ _ _ _ _ _ _ _ _ _ _ _ _ _ _ _ _ _ _ _ _ _ _ _ _ _ _ _ _ _ _ _ _ _ _ _ _ _ _ _ _ _ _ _ _ _ _ _ _ _ _ _ _ _ _ _ _ _ _ _ _ _ _ _ _ _ _ _ _ _ _ _ _ _ _ _ _ _ _ _ _ _ _ _ _ _ _ hp0 (by simp [PD.new]) (.inl rfl) hP0
    simp only [blockK, if_true, seqK]
    exact rests_end hp hq hP _ _ _ _ _ _ _ _ _ _ _ _ _ _ _ _ _ _ _ _ _ _ _ _ _ _ _ _ _ _ _ _ _ _ _ _ _ _ _ _ _ _ _ _ _ _ _ _ _ _ _ _ _ _ _ _ _ _ _ _ _ _ _ _ _ _ _ _ _ _ _ _ _ _ _ _ _ _ _ _ _ _ _ _ _ _ _ _ _ _ _ _ _ _ _ _ _ _ _ _ _ _ _ _ _ _ _ _ _ _ _ _ _ _ _ _ _ _ _ _ _ _ _ _ _ _ _ _ _ _ _ _ _ _ _ _ _ _ _ _ _ _ _ _ _ _ _ _ _ _ _
end Go.Proofs.Ytcamcfplcoklkaa.Iv

namespace Go.Proofs.Ytcamcfplcoklkaa.Iv
open Go Go.RowKit
set_option linter.unusedVariables false
set_option linter.unusedSimpArgs false
/-! ### the values that a statement hands a law -/
def Cel (w : World) (rb : Nat) : Prop := ∃ o : Obj, w.heap[rb]? = some o ∧ o.isCells = true
theorem cel_of {w : World} {a : Addr} {v : Value} (h : w.cell? a = some v) : Cel w a.block ∧ a.spot = none := by
  unfold World.cell? at h
  split at h
  · rename_i c ty fr e
    split at h
    · cases h
    · rename_i hs
      refine ⟨⟨_, e, rfl⟩, ?_⟩
      cases hq : a.spot with
      | none => rfl
      | some q => rw [hq] at hs; simp at hs
  · cases h
def OpensV (P : Program) (t sz : Nat) (G : List V → Prop) : Prop :=
  ∀ (H : Type) (enc : TypeId × Value → H) (w : World) (base : Nat) (spare : Nat → Bool) (held : Bool) (fuel : Nat) (cs : List Value) (x : DataW H × List MemPlace), DataW.trod enc P w base spare held fuel t cs = some x →
    ∃ vs : List V, vs.length = sz ∧ All2 (FR w (Cel w)) vs cs ∧ G vs
section
variable {P : Program} {t : TypeId}
theorem pick_list {α : Type} (n : Nat) (R : Nat → α → Prop) (h : ∀ i, i < n → ∃ a, R i a) : ∃ l : List α, l.length = n ∧ ∀ i a, l[i]? = some a → R i a := by
  induction n with
  | zero => exact ⟨[], rfl, fun i a h => by simp at h⟩
  | succ n ih =>
    obtain ⟨l, hl, hr⟩ := ih (fun i hi => h i (by omega))
    obtain ⟨a, ha⟩ := h n (by omega)
    refine ⟨l ++ [a], by simp [hl], fun i b hb => ?_⟩
    rcases Nat.lt_trichotomy i n with hi | hi | hi
    · rw [List.getElem?_append_left (by omega)] at hb; exact hr i b hb
    · subst hi
      rw [List.getElem?_append_right (by omega), hl, Nat.sub_self, List.getElem?_cons_zero] at hb
      obtain rfl := Option.some.inj hb
      exact ha
    · rw [List.getElem?_eq_none (by simp [hl]; omega)] at hb; cases hb
theorem cells_get {w : World} {base : Nat} {a : Addr} {n : Nat} {cs : List Value} (h : w.cells? base a n = some cs) : cs.length = n ∧ ∀ i u, cs[i]? = some u → w.cell? (a.add i) = some u := by
  unfold World.cells? at h
  split at h
  · have hl := mapM_some_length h
    rw [List.length_range] at hl
    refine ⟨hl, fun i u hu => ?_⟩
    have hi : i < n := by
      rcases Nat.lt_or_ge i n with hi | hi
      · exact hi
      · rw [List.getElem?_eq_none (by omega)] at hu; cases hu
    have := mapM_some_get h i i (by rw [List.getElem?_range hi])
    rw [this]; exact hu
  · cases h
theorem opensV_int {k : IntKind} (ht : P.underlying t = some (.int k)) : OpensV P t 1 (fun vs => ∃ n, vs = [.int k n] ∧ (Lit.int k n).wf = true) := by
  intro H enc w base spare held fuel cs x h
  cases fuel with
  | zero => simp [DataW.trod] at h
  | succ fuel =>
    simp only [DataW.trod, ht] at h
    split at h <;> simp_all
    refine ⟨[.int _ _], rfl, ?_, _, rfl, h.1.2⟩
    exact ⟨.int _ _, trivial⟩
theorem add_mk (a : Addr) (h : a.spot = none) (n : Nat) : a.add n = ⟨a.block, a.off + n, none⟩ := by
  obtain ⟨b, o, s⟩ := a
  simp only at h; subst h
  unfold Addr.add
  split
  · rename_i e; subst e; rfl
  · rfl
theorem opensV_slice {e sz : Nat} {G : List V → Prop} (ht : P.underlying t = some (.slice e)) (hs : P.cellsOf e = sz) (hp : 0 < sz) (he : OpensV P e sz G) :
    OpensV P t 1 (fun vs => ∃ xs, vs = [.list xs false] ∧ xs.length ≤ maxLen ∧ ∀ x ∈ xs, x.length = sz ∧ G x) := by
  intro H enc w base spare held fuel cs x h
  cases fuel with
  | zero => simp [DataW.trod] at h
  | succ fuel =>
    simp only [DataW.trod, ht] at h
    split at h
    all_goals first | (simp_all; done) | skip
    · refine ⟨[.list [] false], rfl, ⟨?_, trivial⟩, [], rfl, Nat.zero_le _, fun x hx => by cases hx⟩
      exact FR.list [] 1 0 none (fun _ => .int .i64 0) (Nat.le_refl _) (fun x hx => by cases hx) (fun h => absurd rfl h) (fun j c h => by simp at h)
    · rename_i heq
      injection heq with heq
      injection heq with heq
      subst heq
      split at h
      · rename_i a len cap hcond
        obtain ⟨els, hels, _⟩ := Option.bind_eq_some_iff.1 h
        have hlen := mapM_some_length hels
        rw [List.length_range] at hlen
        obtain ⟨xs, hl, hr⟩ := pick_list len (fun i (b : List V) => ∃ c : List Value, c.length = sz ∧ b.length = sz ∧ All2 (FR w (Cel w)) b c ∧ G b ∧ ∀ q u, c[q]? = some u → w.cell? ((a.add (i * sz)).add q) = some u) (fun i hi => by
          have h1 := mapM_some_get hels i i (by rw [List.getElem?_range hi])
          have hi2 : i < els.length := by omega
          rw [List.getElem?_eq_getElem hi2] at h1
          obtain ⟨c, hc, ht2⟩ := Option.bind_eq_some_iff.1 h1
          obtain ⟨b, hbl, hb, hg⟩ := he H enc w base spare held fuel c _ ht2
          obtain ⟨hcl, hcc⟩ := cells_get hc
          rw [hs] at hcl hcc
          exact ⟨b, c, hcl, hbl, hb, hg, hcc⟩)
        have hz : ∀ x ∈ xs, x.length = sz ∧ G x := fun x hx => by
          obtain ⟨j, hj, rfl⟩ := List.getElem_of_mem hx
          obtain ⟨c, _, h2, _, h4, _⟩ := hr j _ (List.getElem?_eq_getElem hj)
          exact ⟨h2, h4⟩
        -- where the elements stand
        have spot : xs ≠ [] → a.spot = none := fun hne => by
          cases hx0 : xs with
          | nil => exact absurd hx0 hne
          | cons x0 r =>
            obtain ⟨c, c1, c2, c3, c4, c5⟩ := hr 0 x0 (by rw [hx0]; rfl)
            obtain ⟨u, hu⟩ : ∃ u, c[0]? = some u := ⟨c[0]'(by omega), List.getElem?_eq_getElem _⟩
            have := (cel_of (c5 0 u hu)).2
            simpa [Addr.add] using this
        have each : ∀ (hne : xs ≠ []) (j : Nat) (v : V), xs.flatten[j]? = some v → ∃ u, w.cell? ⟨a.block, a.off + j, none⟩ = some u ∧ FR w (Cel w) v u := fun hne j v hj => by
          obtain ⟨i, q, xi, h1, h2, h3⟩ : ∃ i q xi, xs[i]? = some xi ∧ xi[q]? = some v ∧ j = i * sz + q := by
            have hjl := (List.getElem?_eq_some_iff.1 hj).1
            rw [flatten_len sz xs (fun x hx => (hz x hx).1)] at hjl
            have hi : j / sz < xs.length := Nat.div_lt_of_lt_mul (by rw [Nat.mul_comm]; exact hjl)
            have hq : j % sz < (xs[j / sz]).length := by rw [(hz _ (List.getElem_mem hi)).1]; exact Nat.mod_lt _ hp
            have hg := flatten_get sz xs (fun x hx => (hz x hx).1) (j / sz) (j % sz) _ _ (List.getElem?_eq_getElem hi) (List.getElem?_eq_getElem hq)
            have e : j / sz * sz + j % sz = j := by rw [Nat.mul_comm]; exact Nat.div_add_mod j sz
            rw [e, hj] at hg
            refine ⟨j / sz, j % sz, _, List.getElem?_eq_getElem hi, ?_, e.symm⟩
            rw [List.getElem?_eq_getElem hq]; exact hg.symm
          obtain ⟨c, c1, c2, c3, c4, c5⟩ := hr i xi h1
          obtain ⟨u, hu, hfr⟩ := c3.get h2
          refine ⟨u, ?_, hfr⟩
          have := c5 q u hu
          rw [add_mk a (spot hne), add_mk _ rfl] at this
          rw [h3, ← Nat.add_assoc]; exact this
        refine ⟨[.list xs false], rfl, ⟨?_, trivial⟩, xs, rfl, ?_, hz⟩
        · have := FR.list (w := w) (S := Cel w) xs sz cap (some a) (fun j => (w.cell? ⟨a.block, a.off + j, none⟩).getD (.int .i64 0)) (by rw [hl]; exact hcond.2.1) (fun x hx => (hz x hx).1)
            (fun hne => by
              have hsp := spot hne
              refine ⟨a.block, a.off, by cases a; simp_all, ?_, fun j hj => ?_⟩
              · obtain ⟨u, hu, _⟩ := each hne 0 _ (List.getElem?_eq_getElem (by
                  rw [flatten_len sz xs (fun x hx => (hz x hx).1)]
                  have : 0 < xs.length := List.length_pos_iff.2 hne
                  exact Nat.mul_pos this hp))
                exact (cel_of hu).1
              · obtain ⟨u, hu, _⟩ := each hne j _ (List.getElem?_eq_getElem hj)
                rw [hu]; rfl)
            (fun j c hj => by
              have hne : xs ≠ [] := fun e => by subst e; simp at hj
              obtain ⟨u, hu, hfr⟩ := each hne j c hj
              rw [hu]; exact hfr)
          rw [hl] at this
          exact this
        · rw [hl]; exact Nat.le_trans hcond.2.1 hcond.2.2
      · cases h
/-- a struct of four fields, each of one cell -/
theorem opensV_four {G0 G1 G2 G3 : List V → Prop} {f0 f1 f2 f3 : Field} (ht : P.underlying t = some (.struct #[f0, f1, f2, f3])) (hn : P.cellsOf t = 4) (o0 : f0.offset = 0) (o1 : f1.offset = 1) (o2 : f2.offset = 2) (o3 : f3.offset = 3)
    (c0 : P.cellsOf f0.type = 1) (c1 : P.cellsOf f1.type = 1) (c2 : P.cellsOf f2.type = 1) (c3 : P.cellsOf f3.type = 1) (h0 : OpensV P f0.type 1 G0) (h1 : OpensV P f1.type 1 G1) (h2 : OpensV P f2.type 1 G2) (h3 : OpensV P f3.type 1 G3) :
    OpensV P t 4 (fun vs => ∃ a b c d, vs = [a, b, c, d] ∧ G0 [a] ∧ G1 [b] ∧ G2 [c] ∧ G3 [d]) := by
  intro H enc w base spare held fuel cs x h
  cases fuel with
  | zero => simp [DataW.trod] at h
  | succ fuel =>
    have h' : (if cs.length = P.cellsOf t then (#[f0, f1, f2, f3].toList.mapM fun f => DataW.trod enc P w base spare held fuel f.type ((cs.drop f.offset).take (P.cellsOf f.type))).map fun xs => ((.agg (xs.map (·.1)) : DataW H), xs.flatMap (·.2)) else none) = some x := by
      rw [← h]
      simp only [DataW.trod, ht]
    split at h'
    · rename_i hl
      rw [hn] at hl
      obtain ⟨xs, hxs, _⟩ := Option.map_eq_some_iff.1 h'
      have hlen := mapM_some_length hxs
      have g0 := mapM_some_get hxs 0 f0 rfl
      have g1 := mapM_some_get hxs 1 f1 rfl
      have g2 := mapM_some_get hxs 2 f2 rfl
      have g3 := mapM_some_get hxs 3 f3 rfl
      simp only [List.length_cons, List.length_nil] at hlen
      rw [List.getElem?_eq_getElem (by omega)] at g0 g1 g2 g3
      match cs, hl with
      | [u0, u1, u2, u3], _ =>
        obtain ⟨v0, l0, r0, q0⟩ := h0 H enc w base spare held fuel _ _ g0
        obtain ⟨v1, l1, r1, q1⟩ := h1 H enc w base spare held fuel _ _ g1
        obtain ⟨v2, l2, r2, q2⟩ := h2 H enc w base spare held fuel _ _ g2
        obtain ⟨v3, l3, r3, q3⟩ := h3 H enc w base spare held fuel _ _ g3
        rw [o0, c0] at r0; rw [o1, c1] at r1; rw [o2, c2] at r2; rw [o3, c3] at r3
        match v0, v1, v2, v3, l0, l1, l2, l3, r0, r1, r2, r3, q0, q1, q2, q3 with
        | [a], [b], [c], [d], _, _, _, _, r0, r1, r2, r3, q0, q1, q2, q3 =>
          exact ⟨[a, b, c, d], rfl, ⟨r0.1, r1.1, r2.1, r3.1, trivial⟩, a, b, c, d, rfl, q0, q1, q2, q3⟩
    · cases h'
end
end Go.Proofs.Ytcamcfplcoklkaa.Iv
