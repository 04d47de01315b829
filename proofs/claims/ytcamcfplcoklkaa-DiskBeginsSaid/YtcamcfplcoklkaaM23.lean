import Derived.Test.YtcamcfplcoklkaaM22
namespace Go.Proofs.Ytcamcfplcoklkaa.Iv
open Go
set_option linter.unusedVariables false
set_option linter.unusedSimpArgs false
set_option maxRecDepth 100000

/-- what holds at each round of the first loop of DiskBegins -/
structure BI (H : Heap) (gd gk gw : Nat) (qn : Option (Id × Nat)) (p : PD) (q : V) (qs : List Act4) (i : Nat) : Prop where
  hF : BF H gd gk gw qn p q qs p.ks
  hp : p.ok 16
  hl : p.l = -1
  hg : p.g = false
  hb : p.b = -1
  hi : p.items = itemsOf qs
  hq : goodQ qs
  hs : qs.length ≤ i
theorem BF.back {H : Heap} {gd gk gw : Nat} {qn qn' : Option (Id × Nat)} {p p' : PD} {q : V} {qs : List Act4} {ks : List Int} {us : List (Id × Blk)} {tc : List Id} (h : BF H gd gk gw qn p q qs ks) (htc : ∀ i ∈ tc, i = (.sub 23 (.own 15)) ∨ i = (.sub 23 (.own 13)) ∨ i = (.sub 81 (.own 49))) (hn' : qn' = none ∨ ∃ g, qn' = some ((.sub 81 (.own 49)), g))
    (hB : Back H (.sub 23 (.own 15)) (.sub 23 (.own 13)) gd gk qn' p'.l p'.g p'.b (cellsB p'.ks) p'.items tc us) : BF (H.sets us) gd gk gw qn' p' q qs ks ∧ (H.sets us) (.own 12) = H (.own 12) := by
  have ho : ∀ i, i ≠ (.sub 23 (.own 15)) → i ≠ (.sub 23 (.own 13)) → i ≠ (.sub 81 (.own 49)) → (H.sets us) i = H i := fun i h1 h2 h3 => hB.2.1 i (fun hi => by
    rcases htc i hi with e | e | e
    · exact h1 e
    · exact h2 e
    · exact h3 e)
  exact ⟨⟨hB.1, hn', by rw [ho _ (by simp) (by simp) (by simp)]; exact h.hw, h.hl, h.hb.other (ho _ (by simp) (by simp) (by simp))⟩, ho _ (by simp) (by simp) (by simp)⟩
theorem left_m1 : left' (-1) = -1 := by decide
theorem box_at {H : Heap} {a : Act4} {g f : Nat} {v : V} (h : H (.own 12) = some ⟨g, actV a, false, false⟩) (hv : (actV a)[f]? = some v) : ldR 1 false H (.ptr (.own 12) g (0 + f)) = some ⟨v, [], [.own 12]⟩ := by
  rw [Nat.zero_add]; exact ld_cell h hv
theorem box_all {H : Heap} {i : Id} {a : Act4} {g : Nat} (h : H i = some ⟨g, actV a, false, false⟩) : ldR 4 true H (.ptr i g 0) = some ⟨.agg (actV a), [], [i]⟩ := by
  have l1 : live H i g = some ⟨g, actV a, false, false⟩ := by simp [live, h]
  unfold ldR
  simp only [l1]
  rfl
theorem box_st {H : Heap} {i : Id} {a : Act4} {g : Nat} {cs : List V} (h : H i = some ⟨g, cs, false, false⟩) (hc : cs.length = 4) : stR 4 H (.ptr i g 0) (.agg (actV a)) = some ⟨.und, [(i, ⟨g, actV a, false, false⟩)], [i]⟩ := by
  have l1 : live H i g = some ⟨g, cs, false, false⟩ := by simp [live, h]
  have e : splice cs 0 (actV a) = actV a := by
    simp [splice, actV, hc]
  have c : True ∧ (actV a).length = 4 ∧ 0 + 4 ≤ cs.length ∧ (actV a).all (fits false) = true := ⟨trivial, rfl, by omega, by kernel_rfl⟩
  simp only [stR, l1, V.cells]
  rw [if_pos c, e]
theorem itemsOf_app {qs : List Act4} {a : Act4} : itemsOf qs ++ [(a.n.toNat, a.b)] = itemsOf (qs ++ [a]) := by simp [itemsOf]
set_option maxHeartbeats 16000000 in
/-- the first loop of DiskBegins: writes and syncs -/
theorem begins_loop {l : List Act4} {gd gk gw : Nat} {keep torn : Int} (hlen : l.length ≤ 200) {Q : KQ}
    (hx : ∀ (H' : Heap) (p : PD) (qn : Option (Id × Nat)) (q : V) (qs : List Act4) t3 t4 t5 t8 t11 t12 t13 t14 t15 t16 t17 t18 t19 t20 t21 t22 t23 t24 t25 t26 t27 t28 t29 t30 t31 t32 t33 t34 t35 t36 t37 t38 t39 t40 t41 t42 t43 t44 t45 t46 t47 t48 t49 t50 t51 t52 t53 t54 t55 t56 t57 t58 t59 t60 t61 t62 t63 t64 t65 t66 t67 t68 t69 t70 t71 t72 t73 t74 t75 t76 t77 t78 t79 t80 t81 t82 t83 t84 t85 t86 t87 t88 t89 t90 t91 t92 t93 t94 t95 t96 t97 t98 t99 t100 t101 t102 t103 t104 t105 t106 t107 t108 t109 t110 t111 t112 t113 t114 t115 t116 t117 t118 t119 t120 t121 t122 t123 t124 t125 t126 t127 t128 t129 t130 t131 t132 t133 t134 t135 t136 t137 t138 t139 t140 t141 t142 t143 t144 t145 t146 t147 t148 t149 t150 t151 t152 t153 t154 t155 t156 t157 t158 t159 t160 t161 t162 t163 t164 t165 t166 t167 t168 t169 t170 t171 t172 t173 t174 t175 t176 t177 t178 t179 t180 t181 t182 t183 t184 t185 t186 t187 t188 t189 t190 t191 t192 t193 t194 t195 t196 t197 t198 t199 t200 t201 t202 t203 t204 t205 t206 t207 t208 t209 t210 t211 t212 t213, BI H' gd gk gw qn p q qs 200 → Q (.exit 0) [actsV l, .int .i64 keep, .int .i64 torn, t3, t4, t5, .bool false, .ptr (.sub 23 (.own 15)) gd 0, t8, .sl (.sub 36 (.own 23)) gw 0 16 1 none, q, t11, t12, t13, t14, t15, t16, t17, t18, t19, t20, t21, t22, t23, t24, t25, t26, t27, t28, t29, t30, t31, t32, t33, t34, t35, t36, t37, t38, t39, t40, t41, t42, t43, t44, t45, t46, t47, t48, t49, t50, t51, t52, t53, t54, t55, t56, t57, t58, t59, t60, t61, t62, t63, t64, t65, t66, t67, t68, t69, t70, t71, t72, t73, t74, t75, t76, t77, t78, t79, t80, t81, t82, t83, t84, t85, t86, t87, t88, t89, t90, t91, t92, t93, t94, t95, t96, t97, t98, t99, t100, t101, t102, t103, t104, t105, t106, t107, t108, t109, t110, t111, t112, t113, t114, t115, t116, t117, t118, t119, t120, t121, t122, t123, t124, t125, t126, t127, t128, t129, t130, t131, t132, t133, t134, t135, t136, t137, t138, t139, t140, t141, t142, t143, t144, t145, t146, t147, t148, t149, t150, t151, t152, t153, t154, t155, t156, t157, t158, t159, t160, t161, t162, t163, t164, t165, t166, t167, t168, t169, t170, t171, t172, t173, t174, t175, t176, t177, t178, t179, t180, t181, t182, t183, t184, t185, t186, t187, t188, t189, t190, t191, t192, t193, t194, t195, t196, t197, t198, t199, t200, t201, t202, t203, t204, t205, t206, t207, t208, t209, t210, t211, t212, t213] H') :
    ∀ (k i : Nat), i + k = l.length → ∀ (H : Heap) (p : PD) (qn : Option (Id × Nat)) (q : V) (qs : List Act4) t3 t4 t5 t8 t12 t13 t14 t15 t16 t17 t18 t19 t20 t21 t22 t23 t24 t25 t26 t27 t28 t29 t30 t31 t32 t33 t34 t35 t36 t37 t38 t39 t40 t41 t42 t43 t44 t45 t46 t47 t48 t49 t50 t51 t52 t53 t54 t55 t56 t57 t58 t59 t60 t61 t62 t63 t64 t65 t66 t67 t68 t69 t70 t71 t72 t73 t74 t75 t76 t77 t78 t79 t80 t81 t82 t83 t84 t85 t86 t87 t88 t89 t90 t91 t92 t93 t94 t95 t96 t97 t98 t99 t100 t101 t102 t103 t104 t105 t106 t107 t108 t109 t110 t111 t112 t113 t114 t115 t116 t117 t118 t119 t120 t121 t122 t123 t124 t125 t126 t127 t128 t129 t130 t131 t132 t133 t134 t135 t136 t137 t138 t139 t140 t141 t142 t143 t144 t145 t146 t147 t148 t149 t150 t151 t152 t153 t154 t155 t156 t157 t158 t159 t160 t161 t162 t163 t164 t165 t166 t167 t168 t169 t170 t171 t172 t173 t174 t175 t176 t177 t178 t179 t180 t181 t182 t183 t184 t185 t186 t187 t188 t189 t190 t191 t192 t193 t194 t195 t196 t197 t198 t199 t200 t201 t202 t203 t204 t205 t206 t207 t208 t209 t210 t211 t212 t213, BI H gd gk gw qn p q qs i → LoopR dcfg c5_29 [actsV l, .int .i64 keep, .int .i64 torn, t3, t4, t5, .bool false, .ptr (.sub 23 (.own 15)) gd 0, t8, .sl (.sub 36 (.own 23)) gw 0 16 1 none, q, .int .i64 (i : Int), t12, t13, t14, t15, t16, t17, t18, t19, t20, t21, t22, t23, t24, t25, t26, t27, t28, t29, t30, t31, t32, t33, t34, t35, t36, t37, t38, t39, t40, t41, t42, t43, t44, t45, t46, t47, t48, t49, t50, t51, t52, t53, t54, t55, t56, t57, t58, t59, t60, t61, t62, t63, t64, t65, t66, t67, t68, t69, t70, t71, t72, t73, t74, t75, t76, t77, t78, t79, t80, t81, t82, t83, t84, t85, t86, t87, t88, t89, t90, t91, t92, t93, t94, t95, t96, t97, t98, t99, t100, t101, t102, t103, t104, t105, t106, t107, t108, t109, t110, t111, t112, t113, t114, t115, t116, t117, t118, t119, t120, t121, t122, t123, t124, t125, t126, t127, t128, t129, t130, t131, t132, t133, t134, t135, t136, t137, t138, t139, t140, t141, t142, t143, t144, t145, t146, t147, t148, t149, t150, t151, t152, t153, t154, t155, t156, t157, t158, t159, t160, t161, t162, t163, t164, t165, t166, t167, t168, t169, t170, t171, t172, t173, t174, t175, t176, t177, t178, t179, t180, t181, t182, t183, t184, t185, t186, t187, t188, t189, t190, t191, t192, t193, t194, t195, t196, t197, t198, t199, t200, t201, t202, t203, t204, t205, t206, t207, t208, t209, t210, t211, t212, t213] H Q := by
  intro k
  induction k with
  | zero =>
    intro i hi H p qn q qs t3 t4 t5 t8 t12 t13 t14 t15 t16 t17 t18 t19 t20 t21 t22 t23 t24 t25 t26 t27 t28 t29 t30 t31 t32 t33 t34 t35 t36 t37 t38 t39 t40 t41 t42 t43 t44 t45 t46 t47 t48 t49 t50 t51 t52 t53 t54 t55 t56 t57 t58 t59 t60 t61 t62 t63 t64 t65 t66 t67 t68 t69 t70 t71 t72 t73 t74 t75 t76 t77 t78 t79 t80 t81 t82 t83 t84 t85 t86 t87 t88 t89 t90 t91 t92 t93 t94 t95 t96 t97 t98 t99 t100 t101 t102 t103 t104 t105 t106 t107 t108 t109 t110 t111 t112 t113 t114 t115 t116 t117 t118 t119 t120 t121 t122 t123 t124 t125 t126 t127 t128 t129 t130 t131 t132 t133 t134 t135 t136 t137 t138 t139 t140 t141 t142 t143 t144 t145 t146 t147 t148 t149 t150 t151 t152 t153 t154 t155 t156 t157 t158 t159 t160 t161 t162 t163 t164 t165 t166 t167 t168 t169 t170 t171 t172 t173 t174 t175 t176 t177 t178 t179 t180 t181 t182 t183 t184 t185 t186 t187 t188 t189 t190 t191 t192 t193 t194 t195 t196 t197 t198 t199 t200 t201 t202 t203 t204 t205 t206 t207 t208 t209 t210 t211 t212 t213 hI
    refine LoopR.step ?_
    show wC Try.prog dcfg.pol (CallR dcfg) (LoopR dcfg) c5_29 _ H _
    have h1 : decide (((i : Nat) : Int) < (((l.map actV).length : Nat) : Int)) = false := by simp; omega
    simp only [w5_29, w5_30, w5_31, w5_31_0, w5_32, w5_33, w5_34, seqK, len22]
    refine mk0 _ (by simp only [actsV, lenS]; rfl) ?_
    refine mk0 _ (by rw [bin_lss, h1]) ?_
    refine condF ?_
    exact hx H p qn q qs _ _ _ _ _ _ _ _ _ _ _ _ _ _ _ _ _ _ _ _ _ _ _ _ _ _ _ _ _ _ _ _ _ _ _ _ _ _ _ _ _ _ _ _ _ _ _ _ _ _ _ _ _ _ _ _ _ _ _ _ _ _ _ _ _ _ _ _ _ _ _ _ _ _ _ _ _ _ _ _ _ _ _ _ _ _ _ _ _ _ _ _ _ _ _ _ _ _ _ _ _ _ _ _ _ _ _ _ _ _ _ _ _ _ _ _ _ _ _ _ _ _ _ _ _ _ _ _ _ _ _ _ _ _ _ _ _ _ _ _ _ _ _ _ _ _ _ _ _ _ _ _ _ _ _ _ _ _ _ _ _ _ _ _ _ _ _ _ _ _ _ _ _ _ _ _ _ _ _ _ _ _ _ _ _ _ _ _ _ _ _ _ _ _ _ _ _ _ _ _ _ _ _ _ _ _ _ ⟨hI.hF, hI.hp, hI.hl, hI.hg, hI.hb, hI.hi, hI.hq, by have := hI.hs; omega⟩
  | succ k ih =>
    intro i hi H p qn q qs t3 t4 t5 t8 t12 t13 t14 t15 t16 t17 t18 t19 t20 t21 t22 t23 t24 t25 t26 t27 t28 t29 t30 t31 t32 t33 t34 t35 t36 t37 t38 t39 t40 t41 t42 t43 t44 t45 t46 t47 t48 t49 t50 t51 t52 t53 t54 t55 t56 t57 t58 t59 t60 t61 t62 t63 t64 t65 t66 t67 t68 t69 t70 t71 t72 t73 t74 t75 t76 t77 t78 t79 t80 t81 t82 t83 t84 t85 t86 t87 t88 t89 t90 t91 t92 t93 t94 t95 t96 t97 t98 t99 t100 t101 t102 t103 t104 t105 t106 t107 t108 t109 t110 t111 t112 t113 t114 t115 t116 t117 t118 t119 t120 t121 t122 t123 t124 t125 t126 t127 t128 t129 t130 t131 t132 t133 t134 t135 t136 t137 t138 t139 t140 t141 t142 t143 t144 t145 t146 t147 t148 t149 t150 t151 t152 t153 t154 t155 t156 t157 t158 t159 t160 t161 t162 t163 t164 t165 t166 t167 t168 t169 t170 t171 t172 t173 t174 t175 t176 t177 t178 t179 t180 t181 t182 t183 t184 t185 t186 t187 t188 t189 t190 t191 t192 t193 t194 t195 t196 t197 t198 t199 t200 t201 t202 t203 t204 t205 t206 t207 t208 t209 t210 t211 t212 t213 hI
    refine LoopR.step ?_
    show wC Try.prog dcfg.pol (CallR dcfg) (LoopR dcfg) c5_29 _ H _
    have h1 : decide (((i : Nat) : Int) < (((l.map actV).length : Nat) : Int)) = true := by simp; omega
    simp only [w5_29, w5_30, w5_31, w5_31_0, w5_32, w5_33, w5_34, w5_35, w5_36, w5_37, w5_38, w5_38_0, w5_39, w5_40, w5_41, w5_41_0, w5_42, seqK, blockK, len22, ia22, ld36, st36, fa36_0, ld3b]
    refine mk0 _ (by simp only [actsV, lenS]; rfl) ?_
    refine mk0 _ (by rw [bin_lss, h1]) ?_
    refine condT ?_
    have hlt : i < l.length := by omega
    have hg : (l.map actV)[i]? = some (actV l[i]) := by simp [hlt]
    have hia : iaR 4 (actsV l) (.int .i64 (i : Int)) = pureO (.fptr (actV l[i]) false) := ia_list hg (by rfl) (by decide)
    have hld : ∀ H : Heap, ldR 4 true H (.fptr (actV l[i]) false) = pureO (.agg (actV l[i])) := fun H => by rfl
    generalize l[i] = a at hia hld
    refine mk0 _ hia ?_
    refine mk0 _ (hld _) ?_
    refine mk (.ptr (.own 12) (nextGen H (.own 12)) 0) [(.own 12, ⟨nextGen H (.own 12), [.int .i64 0, .int .i64 0, .int .i64 0, .nils], false, false⟩)] [.own 12] (by kernel_rfl) ?_
    generalize nextGen H (.own 12) = gx
    have hF0 := hI.hF.other (H' := Heap.sets H [(.own 12, ⟨gx, [.int .i64 0, .int .i64 0, .int .i64 0, .nils], false, false⟩)]) (by simp [Heap.sets, Heap.set]) (by simp [Heap.sets, Heap.set]) (by simp [Heap.sets, Heap.set]) (by simp [Heap.sets, Heap.set]) (by simp [Heap.sets, Heap.set])
    have hX0 : (Heap.sets H [(.own 12, ⟨gx, [.int .i64 0, .int .i64 0, .int .i64 0, .nils], false, false⟩)]) (.own 12) = some ⟨gx, [.int .i64 0, .int .i64 0, .int .i64 0, .nils], false, false⟩ := by simp [Heap.sets, Heap.set]
    generalize Heap.sets H [(.own 12, ⟨gx, [.int .i64 0, .int .i64 0, .int .i64 0, .nils], false, false⟩)] = H0 at hF0 hX0 ⊢
    refine mk .und [(.own 12, ⟨gx, actV a, false, false⟩)] [.own 12] (box_st hX0 rfl) ?_
    have hF1 := hF0.other (H' := Heap.sets H0 [(.own 12, ⟨gx, actV a, false, false⟩)]) (by simp [Heap.sets, Heap.set]) (by simp [Heap.sets, Heap.set]) (by simp [Heap.sets, Heap.set]) (by simp [Heap.sets, Heap.set]) (by simp [Heap.sets, Heap.set])
    have hX1 : (Heap.sets H0 [(.own 12, ⟨gx, actV a, false, false⟩)]) (.own 12) = some ⟨gx, actV a, false, false⟩ := by simp [Heap.sets, Heap.set]
    generalize Heap.sets H0 [(.own 12, ⟨gx, actV a, false, false⟩)] = H1 at hF1 hX1 ⊢
    have hlen2 := hI.hp.len
    have hsz : secOf (cellsB p.ks) ≠ 0 := by rw [hI.hp.secOf]; omega
    have hgl : (p.g || (p.l == 0)) = false := by rw [hI.hg, hI.hl]; rfl
    have hacc : ∀ j ∈ accOf (.sub 23 (.own 15)) (.sub 23 (.own 13)) qn, j = (.sub 23 (.own 15)) ∨ j = (.sub 23 (.own 13)) ∨ j = (.sub 81 (.own 49)) := fun j hj => hF1.acc hj
    refine mk0 (.ptr (.own 12) gx (0 + 0)) (by rfl) ?_
    refine mk (.int .i64 a.d) [] [.own 12] (box_at hX1 rfl) ?_
    refine mk0 _ (bin_eql ..) ?_
    simp only [sets_nilE]
    by_cases h2 : a.d = 2
    · have e : (a.d == 2) = true := by simpa using h2
      rw [e]
      refine condT ?_
      simp only [w5_43, w5_44, w5_45, w5_45_0, w5_46, w5_47, w5_48, w5_48_0, w5_49, w5_50, w5_51, w5_52, w5_53, w5_53_0, w5_54, w5_55, seqK]
      refine sync_call (Q := fun o => _) hF1.hP hI.hp.few (by rw [cellsB_len]; omega) (by rw [cellsB_len]; exact hI.hp.it2) (fun hz => absurd hz hsz) (fun _ hgt _ _ _ => by rw [hgl] at hgt; cases hgt) (fun _ _ us2 rd2 hB => ?_)
      refine mk0 (.bool false) (by rfl) ?_
      refine condF ?_
      rw [settled_I] at hB
      have hw : p.sync.1 = ⟨left' p.l, false, p.b, settledI p.ks p.items, []⟩ := by unfold PD.sync; rw [if_neg (by rw [hgl]; simp)]
      have hp1 := hI.hp.sync.1
      rw [hw] at hp1
      obtain ⟨hF2, hX2⟩ := hF1.back (p' := ⟨left' p.l, false, p.b, settledI p.ks p.items, []⟩) hacc (.inl rfl) hB
      rw [hX1] at hX2
      generalize H1.sets us2 = H2 at hF2 hX2 ⊢
      refine begins_put (m := 0) (k := 0) (r := qs.length) hI.hq (by have := hI.hs; omega) hlen2 (by omega) (fun H3 t3 t4 t5 t8 t13 t14 t15 t16 t17 t18 t19 t20 t21 t22 t23 t24 t25 t26 t27 t28 t29 t30 t31 t32 t33 t34 t35 t36 t37 t38 t39 t40 t41 t42 t43 t44 t45 t46 t47 t48 t49 t50 t51 t52 t53 t54 t55 t56 t57 t58 t59 t60 t61 t62 t63 t64 t65 t66 t67 t68 t69 t70 t71 t72 t73 t74 t75 t76 t77 t78 t79 t80 t81 t82 t83 t84 t85 t86 t87 t88 t89 t90 t91 t92 t93 t94 t95 t96 t97 t98 t99 t100 t101 t102 t103 t104 t105 t106 t107 t108 t109 t110 t111 t112 t113 t114 t115 t116 t117 t118 t119 t120 t121 t122 t123 t124 t125 t126 t127 t128 t129 t130 t131 t132 t133 t134 t135 t136 t137 t138 t139 t140 t141 t142 t143 t144 t145 t146 t147 t148 t149 t150 t151 t152 t153 t154 t155 t156 t157 t158 t159 t160 t161 t162 t163 t164 t165 t166 t167 t168 t169 t170 t171 t172 t173 t174 t175 t176 t177 t178 t179 t180 t181 t182 t183 t184 t185 t186 t187 t188 t189 t190 t191 t192 t193 t194 t195 t196 t197 t198 t199 t200 t201 t202 t203 t204 t205 t206 t207 t208 t209 t210 t211 t212 t213 hF3 hX3 => ?_) (by omega) H2 _ _ _ _ _ _ _ _ _ _ _ _ _ _ _ _ _ _ _ _ _ _ _ _ _ _ _ _ _ _ _ _ _ _ _ _ _ _ _ _ _ _ _ _ _ _ _ _ _ _ _ _ _ _ _ _ _ _ _ _ _ _ _ _ _ _ _ _ _ _ _ _ _ _ _ _ _ _ _ _ _ _ _ _ _ _ _ _ _ _ _ _ _ _ _ _ _ _ _ _ _ _ _ _ _ _ _ _ _ _ _ _ _ _ _ _ _ _ _ _ _ _ _ _ _ _ _ _ _ _ _ _ _ _ _ _ _ _ _ _ _ _ _ _ _ _ _ _ _ _ _ _ _ _ _ _ _ _ _ _ _ _ _ _ _ _ _ _ _ _ _ _ _ _ _ _ _ _ _ _ _ _ _ _ _ _ _ _ _ _ _ _ _ _ _ _ _ _ _ _ _ _ _ _ hF2 hX2
      simp only [w5_66, w5_66_0, w5_68, w5_69, w5_69_0, w5_70, w5_80, w5_81, w5_81_0, seqK, blockK, if_true, fa36_0, ld3b]
      have hes : settledI p.ks ((itemsOf qs).take qs.length) = settledI p.ks p.items := by
        rw [hI.hi, List.take_of_length_le (by simp [itemsOf])]
      rw [hes] at hF3
      have hF4 : BF H3 gd gk gw none ⟨left' p.l, false, p.b, settledI p.ks p.items, []⟩ .nils [] (settledI p.ks p.items) := ⟨hF3.hP, .inl rfl, hF3.hw, hF3.hl, .inl ⟨rfl, rfl⟩⟩
      refine mk0 (.ptr (.own 12) gx (0 + 0)) (by rfl) ?_
      refine mk (.int .i64 a.d) [] [.own 12] (box_at hX3 rfl) ?_
      refine mk0 (.bool false) (by rw [bin_eql, h2]; rfl) ?_
      repeat (first | refine gnf ?_ | refine gnu ?_)
      refine mk0 (.bool false) (by rfl) ?_
      refine condF ?_
      refine mk0 _ (bin_add (by omega) (by omega)) ?_
      exact ih (i + 1) (by omega) _ ⟨left' p.l, false, p.b, settledI p.ks p.items, []⟩ none .nils [] _ _ _ _ _ _ _ _ _ _ _ _ _ _ _ _ _ _ _ _ _ _ _ _ _ _ _ _ _ _ _ _ _ _ _ _ _ _ _ _ _ _ _ _ _ _ _ _ _ _ _ _ _ _ _ _ _ _ _ _ _ _ _ _ _ _ _ _ _ _ _ _ _ _ _ _ _ _ _ _ _ _ _ _ _ _ _ _ _ _ _ _ _ _ _ _ _ _ _ _ _ _ _ _ _ _ _ _ _ _ _ _ _ _ _ _ _ _ _ _ _ _ _ _ _ _ _ _ _ _ _ _ _ _ _ _ _ _ _ _ _ _ _ _ _ _ _ _ _ _ _ _ _ _ _ _ _ _ _ _ _ _ _ _ _ _ _ _ _ _ _ _ _ _ _ _ _ _ _ _ _ _ _ _ _ _ _ _ _ _ _ _ _ _ _ _ _ _ _ _ _ _ _ _ _ _ ⟨hF4, hp1, (by rw [hI.hl]; rfl), rfl, hI.hb, rfl, (fun x hx => by cases hx), by simp⟩
    · have e : (a.d == 2) = false := by simpa using h2
      rw [e]
      refine condF ?_
      simp only [w5_67, w5_68, w5_69, w5_69_0, w5_70, seqK, fa36_0, fa36_1, fa36_3, ld3b, ld34]
      refine mk0 (.ptr (.own 12) gx (0 + 0)) (by rfl) ?_
      refine mk (.int .i64 a.d) [] [.own 12] (box_at hX1 rfl) ?_
      refine mk0 _ (bin_eql ..) ?_
      simp only [sets_nilE]
      by_cases h3 : a.d = 1
      · have e : (a.d == 1) = true := by simpa using h3
        rw [e]
        refine gp (gy0 (.ptr (.own 12) gx (0 + 1)) (by rfl) (gy (.int .i64 a.n) [] [.own 12] (box_at hX1 rfl) (gy0 (.ptr (.own 12) gx (0 + 3)) (by rfl) (gy (bytesV a.b) [] [.own 12] (box_at hX1 rfl) (gcall ?_)))))
        simp only [sets_nilE]
        have hA : argsIn H1 (dcfg.pol 20).modes [.ptr (.sub 23 (.own 15)) gd 0, .int .i64 a.n, bytesV a.b] = some ([.ptr (.sub 23 (.own 15)) gd 0, .int .i64 a.n, .list (bytesL a.b) true], [], []) := by kernel_rfl
        have hgo := hI.hp.write (by have := hI.hs; have := congrArg List.length hI.hi; simp [itemsOf] at this; omega) a.n a.b
        refine write_call (Q := fun o => _) hF1.hP hI.hp.few ⟨by simp, by simp⟩ hA (fun _ _ hh => by cases hh) (fun hz us2 rd2 hB => ?_) (fun _ hgt _ _ _ => by rw [hgl] at hgt; cases hgt) (fun _ _ hb7 _ _ _ => by rw [hI.hb] at hb7; omega) (fun hz hgt hb7 qn' us2 rd2 hq1 hq2 hB => ?_)
        · obtain ⟨hF2, hX2⟩ := hF1.back hacc hF1.hn hB
          refine gy0 (.bool false) (by rfl) ?_
          refine mk0 (.bool false) (by rfl) ?_
          refine condF ?_
          simp only [w5_80, w5_81, w5_81_0, seqK, blockK, if_true]
          refine mk0 _ (bin_add (by omega) (by omega)) ?_
          exact ih (i + 1) (by omega) _ p qn q qs _ _ _ _ _ _ _ _ _ _ _ _ _ _ _ _ _ _ _ _ _ _ _ _ _ _ _ _ _ _ _ _ _ _ _ _ _ _ _ _ _ _ _ _ _ _ _ _ _ _ _ _ _ _ _ _ _ _ _ _ _ _ _ _ _ _ _ _ _ _ _ _ _ _ _ _ _ _ _ _ _ _ _ _ _ _ _ _ _ _ _ _ _ _ _ _ _ _ _ _ _ _ _ _ _ _ _ _ _ _ _ _ _ _ _ _ _ _ _ _ _ _ _ _ _ _ _ _ _ _ _ _ _ _ _ _ _ _ _ _ _ _ _ _ _ _ _ _ _ _ _ _ _ _ _ _ _ _ _ _ _ _ _ _ _ _ _ _ _ _ _ _ _ _ _ _ _ _ _ _ _ _ _ _ _ _ _ _ _ _ _ _ _ _ _ _ _ _ _ _ _ _ _ _ _ _ ⟨hF2, hI.hp, hI.hl, hI.hg, hI.hb, hI.hi, hI.hq, by have := hI.hs; omega⟩
        · have hqn : qn' = none ∨ ∃ g, qn' = some ((.sub 81 (.own 49)), g) := by
            rcases hF1.hn with e | ⟨g, e⟩
            · exact .inr ⟨_, hq2 e⟩
            · exact .inr ⟨_, hq1 _ e⟩
          have hacc' : ∀ j ∈ accOf (.sub 23 (.own 15)) (.sub 23 (.own 13)) qn', j = (.sub 23 (.own 15)) ∨ j = (.sub 23 (.own 13)) ∨ j = (.sub 81 (.own 49)) := fun j hj => by
            rcases hqn with rfl | ⟨g, rfl⟩
            · simp only [accOf, List.mem_cons, List.not_mem_nil, or_false] at hj
              rcases hj with rfl | rfl
              · exact .inl rfl
              · exact .inr (.inl rfl)
            · simpa only [accOf, List.mem_cons, List.not_mem_nil, or_false] using hj
          obtain ⟨hF2, hX2⟩ := hF1.back (p' := ⟨left' p.l, false, p.b, p.ks, p.items ++ [(a.n.toNat, a.b)]⟩) hacc' hqn hB
          rw [hX1] at hX2
          rw [hI.hp.secOf] at hz
          obtain ⟨⟨hz0, hz1⟩, hz2⟩ := hz
          have hw : (p.write a.n a.b).1 = ⟨left' p.l, false, p.b, p.ks, p.items ++ [(a.n.toNat, a.b)]⟩ := by
            have hN := hI.hp.n
            unfold PD.write
            rw [if_neg (fun h => h ⟨⟨hz0, by rw [hN]; exact hz1⟩, hz2⟩), if_neg (by rw [hgl]; simp), if_neg hb7]
          rw [hw] at hgo
          generalize H1.sets us2 = H2 at hF2 hX2 ⊢
          refine gy0 (.bool true) (by rfl) ?_
          refine mk0 (.bool true) (by rfl) ?_
          refine condT ?_
          simp only [w5_71, w5_72, w5_73, w5_73_0c, w5_73_0, w5_73_12, w5_74, w5_75, w5_76, w5_76_0, w5_77, w5_78, w5_79, w5_79_0, w5_81, w5_81_0, seqK, blockK, if_true, fa36_1, fa36_3, ld3b, ld34, len38, len34b, ld36, sets_nilE]
          refine mk0 (.ptr (.own 12) gx (0 + 1)) (by rfl) ?_
          refine mk (.int .i64 a.n) [] [.own 12] (box_at hX2 rfl) ?_
          refine mk0 (.bool false) (by rw [bin_lss, decide_eq_false (by omega)]) ?_
          simp only [sets_nilE]
          refine gy0 (.ptr (.own 12) gx (0 + 1)) (by rfl) ?_
          refine gy (.int .i64 a.n) [] [.own 12] (box_at hX2 rfl) ?_
          refine gp ?_
          refine gy0 (.int .i64 16) (by rfl) ?_
          refine gy0 (.bool false) (by rw [bin_geq, decide_eq_false (by omega)]) ?_
          refine mk0 (.bool false) (by rfl) ?_
          refine gy0 (.ptr (.own 12) gx (0 + 3)) (by rfl) ?_
          simp only [sets_nilE]
          refine gy (bytesV a.b) [] [.own 12] (box_at hX2 rfl) ?_
          refine gy0 (.int .i64 64) (by simp only [bytesV, lenS, List.length_map, hz2]; rfl) ?_
          refine gy0 (.bool false) (by rfl) ?_
          refine mk0 (.bool false) (by rfl) ?_
          refine condF ?_
          simp only [sets_nilE]
          refine mk (.agg (actV a)) [] [.own 12] (box_all hX2) ?_
          refine mk (.sl (.own 102) (nextGen H2 (.own 102)) 0 1 4 (some 1)) [(.own 102, ⟨nextGen H2 (.own 102), actV a, false, true⟩)] [.own 102] (by kernel_rfl) ?_
          simp only [sets_nilE]
          generalize nextGen H2 (.own 102) = g2
          have hF3 := hF2.other (H' := Heap.sets H2 [(.own 102, ⟨g2, actV a, false, true⟩)]) (by simp [Heap.sets, Heap.set]) (by simp [Heap.sets, Heap.set]) (by simp [Heap.sets, Heap.set]) (by simp [Heap.sets, Heap.set]) (by simp [Heap.sets, Heap.set])
          have hX3 : (Heap.sets H2 [(.own 102, ⟨g2, actV a, false, true⟩)]) (.own 102) = some ⟨g2, actV a, false, true⟩ := by simp [Heap.sets, Heap.set]
          generalize Heap.sets H2 [(.own 102, ⟨g2, actV a, false, true⟩)] = H3 at hF3 hX3 ⊢
          obtain ⟨y, g3, rd3, hap, hy⟩ := app_act hF3.hb hX3 (by have := hI.hs; omega)
          refine mk _ _ _ hap ?_
          have hF4 : BF (Heap.sets H3 [(.own 103, ⟨g3, qaC (qs ++ [a]), false, true⟩)]) gd gk gw qn' ⟨left' p.l, false, p.b, p.ks, p.items ++ [(a.n.toNat, a.b)]⟩ y (qs ++ [a]) p.ks :=
            ⟨hF3.hP.other (fun j hj => by rcases hacc' j hj with rfl | rfl | rfl <;> simp [Heap.sets, Heap.set]), hqn, by simp [Heap.sets, Heap.set]; exact hF3.hw, hF3.hl, .inr ⟨g3, hy, by simp [Heap.sets, Heap.set]⟩⟩
          refine mk0 _ (bin_add (by omega) (by omega)) ?_
          exact ih (i + 1) (by omega) _ ⟨left' p.l, false, p.b, p.ks, p.items ++ [(a.n.toNat, a.b)]⟩ qn' y (qs ++ [a]) _ _ _ _ _ _ _ _ _ _ _ _ _ _ _ _ _ _ _ _ _ _ _ _ _ _ _ _ _ _ _ _ _ _ _ _ _ _ _ _ _ _ _ _ _ _ _ _ _ _ _ _ _ _ _ _ _ _ _ _ _ _ _ _ _ _ _ _ _ _ _ _ _ _ _ _ _ _ _ _ _ _ _ _ _ _ _ _ _ _ _ _ _ _ _ _ _ _ _ _ _ _ _ _ _ _ _ _ _ _ _ _ _ _ _ _ _ _ _ _ _ _ _ _ _ _ _ _ _ _ _ _ _ _ _ _ _ _ _ _ _ _ _ _ _ _ _ _ _ _ _ _ _ _ _ _ _ _ _ _ _ _ _ _ _ _ _ _ _ _ _ _ _ _ _ _ _ _ _ _ _ _ _ _ _ _ _ _ _ _ _ _ _ _ _ _ _ _ _ _ _ _ _ _ _ _ ⟨hF4, hgo.1, (by rw [hI.hl]; rfl), rfl, hI.hb, (by rw [hI.hi, itemsOf_app]), (fun x hx => by rw [List.mem_append, List.mem_singleton] at hx; rcases hx with hx | rfl; exact hI.hq x hx; exact ⟨hz0, hz1, hz2⟩), (by have := hI.hs; simp; omega)⟩
      · have e : (a.d == 1) = false := by simpa using h3
        rw [e]
        repeat (first | refine gnf ?_ | refine gnu ?_)
        refine mk0 (.bool false) (by rfl) ?_
        refine condF ?_
        simp only [w5_80, w5_81, w5_81_0, seqK, blockK, if_true]
        refine mk0 _ (bin_add (by omega) (by omega)) ?_
        exact ih (i + 1) (by omega) _ p qn q qs _ _ _ _ _ _ _ _ _ _ _ _ _ _ _ _ _ _ _ _ _ _ _ _ _ _ _ _ _ _ _ _ _ _ _ _ _ _ _ _ _ _ _ _ _ _ _ _ _ _ _ _ _ _ _ _ _ _ _ _ _ _ _ _ _ _ _ _ _ _ _ _ _ _ _ _ _ _ _ _ _ _ _ _ _ _ _ _ _ _ _ _ _ _ _ _ _ _ _ _ _ _ _ _ _ _ _ _ _ _ _ _ _ _ _ _ _ _ _ _ _ _ _ _ _ _ _ _ _ _ _ _ _ _ _ _ _ _ _ _ _ _ _ _ _ _ _ _ _ _ _ _ _ _ _ _ _ _ _ _ _ _ _ _ _ _ _ _ _ _ _ _ _ _ _ _ _ _ _ _ _ _ _ _ _ _ _ _ _ _ _ _ _ _ _ _ _ _ _ _ _ _ _ _ _ _ ⟨hF1, hI.hp, hI.hl, hI.hg, hI.hb, hI.hi, hI.hq, by have := hI.hs; omega⟩
end Go.Proofs.Ytcamcfplcoklkaa.Iv
