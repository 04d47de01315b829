import Derived.Test.YtcamcfplcoklkaaM23
namespace Go.Proofs.Ytcamcfplcoklkaa.Iv
open Go
set_option linter.unusedVariables false
set_option linter.unusedSimpArgs false
set_option maxRecDepth 100000

set_option maxHeartbeats 8000000 in
/-- the last loop of DiskBegins: what is read, and what lasts, are what is wanted -/
theorem begins_loop3 {l : List Act4} {gd gk gw : Nat} {keep torn : Int} {gs : Nat} {p : PD} {q : V} {qs : List Act4} (hp : p.ok 16) (hg : p.g = false) (hi0 : p.items = []) {Q : KQ}
    (hx : ∀ (H' : Heap) t3 t4 t5 t8 t10 t11 t12 t13 t14 t15 t16 t17 t19 t20 t21 t22 t23 t24 t25 t26 t27 t28 t29 t30 t31 t32 t33 t34 t35 t36 t37 t38 t39 t40 t41 t42 t43 t44 t45 t46 t47 t48 t49 t50 t51 t52 t53 t54 t55 t56 t57 t58 t59 t60 t61 t62 t63 t64 t65 t66 t67 t68 t69 t70 t71 t72 t73 t74 t75 t76 t77 t78 t79 t80 t81 t82 t83 t84 t85 t86 t87 t88 t89 t90 t91 t92 t93 t94 t95 t96 t97 t98 t99 t100 t101 t102 t103 t104 t105 t106 t107 t108 t109 t110 t111 t112 t113 t114 t115 t116 t117 t118 t119 t120 t121 t122 t123 t124 t125 t126 t127 t128 t129 t130 t131 t132 t133 t134 t135 t136 t137 t138 t139 t140 t141 t142 t143 t144 t145 t146 t147 t148 t149 t150 t151 t152 t153 t154 t155 t156 t157 t158 t159 t160 t161 t162 t163 t164 t165 t166 t167 t168 t169 t170 t171 t172 t173 t174 t175 t176 t177 t178 t179 t180 t181 t182 t183 t184 t185 t186 t187 t188 t189 t190 t191 t192 t193 t194 t195 t196 t197 t198 t199 t200 t201 t202 t203 t204 t205 t206 t207 t208 t209 t210 t211 t212 t213, BF H' gd gk gw none p q qs p.ks → Q (.exit 6) [actsV l, .int .i64 keep, .int .i64 torn, t3, t4, t5, .bool false, .ptr (.sub 23 (.own 15)) gd 0, t8, .sl (.sub 36 (.own 23)) gw 0 16 1 none, t10, t11, t12, t13, t14, t15, t16, t17, .sl (.sub 170 (.own 23)) gs 0 16 1 none, t19, t20, t21, t22, t23, t24, t25, t26, t27, t28, t29, t30, t31, t32, t33, t34, t35, t36, t37, t38, t39, t40, t41, t42, t43, t44, t45, t46, t47, t48, t49, t50, t51, t52, t53, t54, t55, t56, t57, t58, t59, t60, t61, t62, t63, t64, t65, t66, t67, t68, t69, t70, t71, t72, t73, t74, t75, t76, t77, t78, t79, t80, t81, t82, t83, t84, t85, t86, t87, t88, t89, t90, t91, t92, t93, t94, t95, t96, t97, t98, t99, t100, t101, t102, t103, t104, t105, t106, t107, t108, t109, t110, t111, t112, t113, t114, t115, t116, t117, t118, t119, t120, t121, t122, t123, t124, t125, t126, t127, t128, t129, t130, t131, t132, t133, t134, t135, t136, t137, t138, t139, t140, t141, t142, t143, t144, t145, t146, t147, t148, t149, t150, t151, t152, t153, t154, t155, t156, t157, t158, t159, t160, t161, t162, t163, t164, t165, t166, t167, t168, t169, t170, t171, t172, t173, t174, t175, t176, t177, t178, t179, t180, t181, t182, t183, t184, t185, t186, t187, t188, t189, t190, t191, t192, t193, t194, t195, t196, t197, t198, t199, t200, t201, t202, t203, t204, t205, t206, t207, t208, t209, t210, t211, t212, t213] H') :
    ∀ (k i : Nat), i + k = 16 → ∀ (H : Heap) t3 t4 t5 t8 t10 t11 t12 t13 t14 t15 t16 t17 t20 t21 t22 t23 t24 t25 t26 t27 t28 t29 t30 t31 t32 t33 t34 t35 t36 t37 t38 t39 t40 t41 t42 t43 t44 t45 t46 t47 t48 t49 t50 t51 t52 t53 t54 t55 t56 t57 t58 t59 t60 t61 t62 t63 t64 t65 t66 t67 t68 t69 t70 t71 t72 t73 t74 t75 t76 t77 t78 t79 t80 t81 t82 t83 t84 t85 t86 t87 t88 t89 t90 t91 t92 t93 t94 t95 t96 t97 t98 t99 t100 t101 t102 t103 t104 t105 t106 t107 t108 t109 t110 t111 t112 t113 t114 t115 t116 t117 t118 t119 t120 t121 t122 t123 t124 t125 t126 t127 t128 t129 t130 t131 t132 t133 t134 t135 t136 t137 t138 t139 t140 t141 t142 t143 t144 t145 t146 t147 t148 t149 t150 t151 t152 t153 t154 t155 t156 t157 t158 t159 t160 t161 t162 t163 t164 t165 t166 t167 t168 t169 t170 t171 t172 t173 t174 t175 t176 t177 t178 t179 t180 t181 t182 t183 t184 t185 t186 t187 t188 t189 t190 t191 t192 t193 t194 t195 t196 t197 t198 t199 t200 t201 t202 t203 t204 t205 t206 t207 t208 t209 t210 t211 t212 t213, BF H gd gk gw none p q qs p.ks → H (.sub 170 (.own 23)) = some ⟨gs, secsV p.ks 16, false, true⟩ → LoopR dcfg c5_126 [actsV l, .int .i64 keep, .int .i64 torn, t3, t4, t5, .bool false, .ptr (.sub 23 (.own 15)) gd 0, t8, .sl (.sub 36 (.own 23)) gw 0 16 1 none, t10, t11, t12, t13, t14, t15, t16, t17, .sl (.sub 170 (.own 23)) gs 0 16 1 none, .int .i64 (i : Int), t20, t21, t22, t23, t24, t25, t26, t27, t28, t29, t30, t31, t32, t33, t34, t35, t36, t37, t38, t39, t40, t41, t42, t43, t44, t45, t46, t47, t48, t49, t50, t51, t52, t53, t54, t55, t56, t57, t58, t59, t60, t61, t62, t63, t64, t65, t66, t67, t68, t69, t70, t71, t72, t73, t74, t75, t76, t77, t78, t79, t80, t81, t82, t83, t84, t85, t86, t87, t88, t89, t90, t91, t92, t93, t94, t95, t96, t97, t98, t99, t100, t101, t102, t103, t104, t105, t106, t107, t108, t109, t110, t111, t112, t113, t114, t115, t116, t117, t118, t119, t120, t121, t122, t123, t124, t125, t126, t127, t128, t129, t130, t131, t132, t133, t134, t135, t136, t137, t138, t139, t140, t141, t142, t143, t144, t145, t146, t147, t148, t149, t150, t151, t152, t153, t154, t155, t156, t157, t158, t159, t160, t161, t162, t163, t164, t165, t166, t167, t168, t169, t170, t171, t172, t173, t174, t175, t176, t177, t178, t179, t180, t181, t182, t183, t184, t185, t186, t187, t188, t189, t190, t191, t192, t193, t194, t195, t196, t197, t198, t199, t200, t201, t202, t203, t204, t205, t206, t207, t208, t209, t210, t211, t212, t213] H Q := by
  intro k
  induction k with
  | zero =>
    intro i hi H t3 t4 t5 t8 t10 t11 t12 t13 t14 t15 t16 t17 t20 t21 t22 t23 t24 t25 t26 t27 t28 t29 t30 t31 t32 t33 t34 t35 t36 t37 t38 t39 t40 t41 t42 t43 t44 t45 t46 t47 t48 t49 t50 t51 t52 t53 t54 t55 t56 t57 t58 t59 t60 t61 t62 t63 t64 t65 t66 t67 t68 t69 t70 t71 t72 t73 t74 t75 t76 t77 t78 t79 t80 t81 t82 t83 t84 t85 t86 t87 t88 t89 t90 t91 t92 t93 t94 t95 t96 t97 t98 t99 t100 t101 t102 t103 t104 t105 t106 t107 t108 t109 t110 t111 t112 t113 t114 t115 t116 t117 t118 t119 t120 t121 t122 t123 t124 t125 t126 t127 t128 t129 t130 t131 t132 t133 t134 t135 t136 t137 t138 t139 t140 t141 t142 t143 t144 t145 t146 t147 t148 t149 t150 t151 t152 t153 t154 t155 t156 t157 t158 t159 t160 t161 t162 t163 t164 t165 t166 t167 t168 t169 t170 t171 t172 t173 t174 t175 t176 t177 t178 t179 t180 t181 t182 t183 t184 t185 t186 t187 t188 t189 t190 t191 t192 t193 t194 t195 t196 t197 t198 t199 t200 t201 t202 t203 t204 t205 t206 t207 t208 t209 t210 t211 t212 t213 hP hS
    refine LoopR.step ?_
    show wC Try.prog dcfg.pol (CallR dcfg) (LoopR dcfg) c5_126 _ H _
    simp only [w5_126, w5_127, w5_128, w5_128_0, w5_129, w5_130, w5_131, seqK]
    refine mk0 (.bool false) (by rw [bin_lss, decide_eq_false (by omega)]) ?_
    refine condF ?_
    exact hx H _ _ _ _ _ _ _ _ _ _ _ _ _ _ _ _ _ _ _ _ _ _ _ _ _ _ _ _ _ _ _ _ _ _ _ _ _ _ _ _ _ _ _ _ _ _ _ _ _ _ _ _ _ _ _ _ _ _ _ _ _ _ _ _ _ _ _ _ _ _ _ _ _ _ _ _ _ _ _ _ _ _ _ _ _ _ _ _ _ _ _ _ _ _ _ _ _ _ _ _ _ _ _ _ _ _ _ _ _ _ _ _ _ _ _ _ _ _ _ _ _ _ _ _ _ _ _ _ _ _ _ _ _ _ _ _ _ _ _ _ _ _ _ _ _ _ _ _ _ _ _ _ _ _ _ _ _ _ _ _ _ _ _ _ _ _ _ _ _ _ _ _ _ _ _ _ _ _ _ _ _ _ _ _ _ _ _ _ _ _ _ _ _ _ _ _ _ _ _ _ _ _ _ _ _ _ _ hP
  | succ k ih =>
    intro i hi H t3 t4 t5 t8 t10 t11 t12 t13 t14 t15 t16 t17 t20 t21 t22 t23 t24 t25 t26 t27 t28 t29 t30 t31 t32 t33 t34 t35 t36 t37 t38 t39 t40 t41 t42 t43 t44 t45 t46 t47 t48 t49 t50 t51 t52 t53 t54 t55 t56 t57 t58 t59 t60 t61 t62 t63 t64 t65 t66 t67 t68 t69 t70 t71 t72 t73 t74 t75 t76 t77 t78 t79 t80 t81 t82 t83 t84 t85 t86 t87 t88 t89 t90 t91 t92 t93 t94 t95 t96 t97 t98 t99 t100 t101 t102 t103 t104 t105 t106 t107 t108 t109 t110 t111 t112 t113 t114 t115 t116 t117 t118 t119 t120 t121 t122 t123 t124 t125 t126 t127 t128 t129 t130 t131 t132 t133 t134 t135 t136 t137 t138 t139 t140 t141 t142 t143 t144 t145 t146 t147 t148 t149 t150 t151 t152 t153 t154 t155 t156 t157 t158 t159 t160 t161 t162 t163 t164 t165 t166 t167 t168 t169 t170 t171 t172 t173 t174 t175 t176 t177 t178 t179 t180 t181 t182 t183 t184 t185 t186 t187 t188 t189 t190 t191 t192 t193 t194 t195 t196 t197 t198 t199 t200 t201 t202 t203 t204 t205 t206 t207 t208 t209 t210 t211 t212 t213 hP hS
    refine LoopR.step ?_
    show wC Try.prog dcfg.pol (CallR dcfg) (LoopR dcfg) c5_126 _ H _
    simp only [w5_126, w5_127, w5_128, w5_128_0, w5_129, w5_130, w5_131, w5_132, w5_133, w5_134, w5_135, w5_135_0, w5_136, w5_137, w5_137_0c, w5_137_0, w5_137_12, w5_138, w5_142, w5_143, w5_143_0, seqK, blockK, ia38, ld9]
    refine mk0 (.bool true) (by rw [bin_lss, decide_eq_true (by omega)]) ?_
    refine condT ?_
    have hlen := hp.len
    refine read_call (Q := fun o => _) hP.hP (fun x hx => (hp.it' x hx).2) hp.few (by omega) (by rw [hp.secs]; omega) (fun hn rd => absurd hn (fun h => h ⟨by omega, by rw [hp.secs]; omega⟩)) (fun hn hgt rd => by rw [hg] at hgt; cases hgt) (fun hn _ bs hbs t gg rd => ?_)
    have hb2 : bs = (p.ks.take ((i + 1) * 64)).drop (i * 64) := by
      rw [hbs, hi0]
      rfl
    have e : secS p.ks i = toStr bs := by rw [hb2]; rfl
    refine mk0 (.sl (.sub 178 (.sub t (.own 7))) gg 0 bs.length 1 none) (by rfl) ?_
    refine mk0 (.int .i64 0) (by rfl) ?_
    have hh : (Heap.sets H [(.sub 178 (.sub t (.own 7)), ⟨gg, cellsB bs, false, true⟩)]) (.sub 178 (.sub t (.own 7))) = some ⟨gg, cellsB bs, false, true⟩ := by simp [Heap.sets, Heap.set]
    have hP1 := hP.other (H' := Heap.sets H [(.sub 178 (.sub t (.own 7)), ⟨gg, cellsB bs, false, true⟩)]) (by simp [Heap.sets, Heap.set]) (by simp [Heap.sets, Heap.set]) (by simp [Heap.sets, Heap.set]) (by simp [Heap.sets, Heap.set]) (by simp [Heap.sets, Heap.set])
    have hS1 : (Heap.sets H [(.sub 178 (.sub t (.own 7)), ⟨gg, cellsB bs, false, true⟩)]) (.sub 170 (.own 23)) = some ⟨gs, secsV p.ks 16, false, true⟩ := by simp [Heap.sets, Heap.set]; exact hS
    simp only [sets_nilE]
    generalize Heap.sets H [(.sub 178 (.sub t (.own 7)), ⟨gg, cellsB bs, false, true⟩)] = H1 at hh hP1 hS1 ⊢
    refine mkL0 (.int .i64 0) [] (by rfl) ?_
    refine mkL0 (.bool false) [] (by rfl) ?_
    refine mkL0 (.bool false) [] (by rfl) ?_
    refine gpL ?_
    simp only [sets_nilE]
    refine gyL _ _ _ (conv_sl hh) ?_
    refine gpL ?_
    refine gpL ?_
    simp only [sets_nilE]
    refine gyL _ _ _ (ia_sl (by omega)) ?_
    refine gyL _ _ _ (ld_at hP1.hw (secsV_at (by omega))) ?_
    refine gyL (.bool false) [] [] (by rw [bin_sneq, e]; simp) ?_
    refine mkL0 (.bool false) [] (by rfl) ?_
    refine mkL0 (.bool false) [] (by rfl) ?_
    refine gpL ?_
    refine gpL ?_
    simp only [sets_nilE]
    refine gyL _ _ _ (ia_sl (by omega)) ?_
    refine gyL _ _ _ (ld_at hS1 (secsV_at (by omega))) ?_
    refine gpL ?_
    refine gpL ?_
    simp only [sets_nilE]
    refine gyL _ _ _ (ia_sl (by omega)) ?_
    refine gyL _ _ _ (ld_at hP1.hw (secsV_at (by omega))) ?_
    refine gyL (.bool false) [] [] (by rw [bin_sneq]; simp) ?_
    refine mkL0 (.bool false) [] (by rfl) ?_
    refine ⟨by kernel_rfl, ?_⟩
    simp only [sets_nilE]
    refine condF ?_
    refine mk0 _ (bin_add (by omega) (by omega)) ?_
    exact ih (i + 1) (by omega) _ _ _ _ _ _ _ _ _ _ _ _ _ _ _ _ _ _ _ _ _ _ _ _ _ _ _ _ _ _ _ _ _ _ _ _ _ _ _ _ _ _ _ _ _ _ _ _ _ _ _ _ _ _ _ _ _ _ _ _ _ _ _ _ _ _ _ _ _ _ _ _ _ _ _ _ _ _ _ _ _ _ _ _ _ _ _ _ _ _ _ _ _ _ _ _ _ _ _ _ _ _ _ _ _ _ _ _ _ _ _ _ _ _ _ _ _ _ _ _ _ _ _ _ _ _ _ _ _ _ _ _ _ _ _ _ _ _ _ _ _ _ _ _ _ _ _ _ _ _ _ _ _ _ _ _ _ _ _ _ _ _ _ _ _ _ _ _ _ _ _ _ _ _ _ _ _ _ _ _ _ _ _ _ _ _ _ _ _ _ _ _ _ _ _ _ _ _ _ _ _ _ _ _ _ _ _ hP1 hS1
set_option maxHeartbeats 8000000 in
theorem begins_tail {l : List Act4} {gd gk gw : Nat} {keep torn : Int} {p : PD} {q : V} {qs : List Act4} {H : Heap} (hp : p.ok 16) (hg : p.g = false) (hi0 : p.items = []) (hF : BF H gd gk gw none p q qs p.ks) : ∀ t3 t4 t5 t8 t10 t11 t12 t13 t14 t15 t16 t17 t18 t19 t20 t21 t22 t23 t24 t25 t26 t27 t28 t29 t30 t31 t32 t33 t34 t35 t36 t37 t38 t39 t40 t41 t42 t43 t44 t45 t46 t47 t48 t49 t50 t51 t52 t53 t54 t55 t56 t57 t58 t59 t60 t61 t62 t63 t64 t65 t66 t67 t68 t69 t70 t71 t72 t73 t74 t75 t76 t77 t78 t79 t80 t81 t82 t83 t84 t85 t86 t87 t88 t89 t90 t91 t92 t93 t94 t95 t96 t97 t98 t99 t100 t101 t102 t103 t104 t105 t106 t107 t108 t109 t110 t111 t112 t113 t114 t115 t116 t117 t118 t119 t120 t121 t122 t123 t124 t125 t126 t127 t128 t129 t130 t131 t132 t133 t134 t135 t136 t137 t138 t139 t140 t141 t142 t143 t144 t145 t146 t147 t148 t149 t150 t151 t152 t153 t154 t155 t156 t157 t158 t159 t160 t161 t162 t163 t164 t165 t166 t167 t168 t169 t170 t171 t172 t173 t174 t175 t176 t177 t178 t179 t180 t181 t182 t183 t184 t185 t186 t187 t188 t189 t190 t191 t192 t193 t194 t195 t196 t197 t198 t199 t200 t201 t202 t203 t204 t205 t206 t207 t208 t209 t210 t211 t212 t213, wC Try.prog dcfg.pol (CallR dcfg) (LoopR dcfg) c5_119 [actsV l, .int .i64 keep, .int .i64 torn, t3, t4, t5, .bool false, .ptr (.sub 23 (.own 15)) gd 0, t8, .sl (.sub 36 (.own 23)) gw 0 16 1 none, t10, t11, t12, t13, t14, t15, t16, t17, t18, t19, t20, t21, t22, t23, t24, t25, t26, t27, t28, t29, t30, t31, t32, t33, t34, t35, t36, t37, t38, t39, t40, t41, t42, t43, t44, t45, t46, t47, t48, t49, t50, t51, t52, t53, t54, t55, t56, t57, t58, t59, t60, t61, t62, t63, t64, t65, t66, t67, t68, t69, t70, t71, t72, t73, t74, t75, t76, t77, t78, t79, t80, t81, t82, t83, t84, t85, t86, t87, t88, t89, t90, t91, t92, t93, t94, t95, t96, t97, t98, t99, t100, t101, t102, t103, t104, t105, t106, t107, t108, t109, t110, t111, t112, t113, t114, t115, t116, t117, t118, t119, t120, t121, t122, t123, t124, t125, t126, t127, t128, t129, t130, t131, t132, t133, t134, t135, t136, t137, t138, t139, t140, t141, t142, t143, t144, t145, t146, t147, t148, t149, t150, t151, t152, t153, t154, t155, t156, t157, t158, t159, t160, t161, t162, t163, t164, t165, t166, t167, t168, t169, t170, t171, t172, t173, t174, t175, t176, t177, t178, t179, t180, t181, t182, t183, t184, t185, t186, t187, t188, t189, t190, t191, t192, t193, t194, t195, t196, t197, t198, t199, t200, t201, t202, t203, t204, t205, t206, t207, t208, t209, t210, t211, t212, t213] H (wRes Try.prog [.tmp 6] fun r _ => r = .bool true) := by
  intro t3 t4 t5 t8 t10 t11 t12 t13 t14 t15 t16 t17 t18 t19 t20 t21 t22 t23 t24 t25 t26 t27 t28 t29 t30 t31 t32 t33 t34 t35 t36 t37 t38 t39 t40 t41 t42 t43 t44 t45 t46 t47 t48 t49 t50 t51 t52 t53 t54 t55 t56 t57 t58 t59 t60 t61 t62 t63 t64 t65 t66 t67 t68 t69 t70 t71 t72 t73 t74 t75 t76 t77 t78 t79 t80 t81 t82 t83 t84 t85 t86 t87 t88 t89 t90 t91 t92 t93 t94 t95 t96 t97 t98 t99 t100 t101 t102 t103 t104 t105 t106 t107 t108 t109 t110 t111 t112 t113 t114 t115 t116 t117 t118 t119 t120 t121 t122 t123 t124 t125 t126 t127 t128 t129 t130 t131 t132 t133 t134 t135 t136 t137 t138 t139 t140 t141 t142 t143 t144 t145 t146 t147 t148 t149 t150 t151 t152 t153 t154 t155 t156 t157 t158 t159 t160 t161 t162 t163 t164 t165 t166 t167 t168 t169 t170 t171 t172 t173 t174 t175 t176 t177 t178 t179 t180 t181 t182 t183 t184 t185 t186 t187 t188 t189 t190 t191 t192 t193 t194 t195 t196 t197 t198 t199 t200 t201 t202 t203 t204 t205 t206 t207 t208 t209 t210 t211 t212 t213
  simp only [w5_119, w5_120, w5_120_0, w5_121, w5_122, w5_123, w5_123_0, w5_124, w5_125, seqK]
  refine secs_call (Q := fun o => _) hF.hP hp (fun gs rd1 => ?_)
  have hF1 := hF.other (H' := Heap.sets H [((.sub 170 (.own 23)), ⟨gs, secsV p.ks 16, false, true⟩)]) (by simp [Heap.sets, Heap.set]) (by simp [Heap.sets, Heap.set]) (by simp [Heap.sets, Heap.set]) (by simp [Heap.sets, Heap.set]) (by simp [Heap.sets, Heap.set])
  have hS1 : (Heap.sets H [((.sub 170 (.own 23)), ⟨gs, secsV p.ks 16, false, true⟩)]) (.sub 170 (.own 23)) = some ⟨gs, secsV p.ks 16, false, true⟩ := by simp [Heap.sets, Heap.set]
  generalize Heap.sets H [((.sub 170 (.own 23)), ⟨gs, secsV p.ks 16, false, true⟩)] = H1 at hF1 hS1 ⊢
  refine begins_loop3 (i := 0) (k := 16) hp hg hi0 (fun H3 t3 t4 t5 t8 t10 t11 t12 t13 t14 t15 t16 t17 t19 t20 t21 t22 t23 t24 t25 t26 t27 t28 t29 t30 t31 t32 t33 t34 t35 t36 t37 t38 t39 t40 t41 t42 t43 t44 t45 t46 t47 t48 t49 t50 t51 t52 t53 t54 t55 t56 t57 t58 t59 t60 t61 t62 t63 t64 t65 t66 t67 t68 t69 t70 t71 t72 t73 t74 t75 t76 t77 t78 t79 t80 t81 t82 t83 t84 t85 t86 t87 t88 t89 t90 t91 t92 t93 t94 t95 t96 t97 t98 t99 t100 t101 t102 t103 t104 t105 t106 t107 t108 t109 t110 t111 t112 t113 t114 t115 t116 t117 t118 t119 t120 t121 t122 t123 t124 t125 t126 t127 t128 t129 t130 t131 t132 t133 t134 t135 t136 t137 t138 t139 t140 t141 t142 t143 t144 t145 t146 t147 t148 t149 t150 t151 t152 t153 t154 t155 t156 t157 t158 t159 t160 t161 t162 t163 t164 t165 t166 t167 t168 t169 t170 t171 t172 t173 t174 t175 t176 t177 t178 t179 t180 t181 t182 t183 t184 t185 t186 t187 t188 t189 t190 t191 t192 t193 t194 t195 t196 t197 t198 t199 t200 t201 t202 t203 t204 t205 t206 t207 t208 t209 t210 t211 t212 t213 hF3 => ?_) (by omega) H1 _ _ _ _ _ _ _ _ _ _ _ _ _ _ _ _ _ _ _ _ _ _ _ _ _ _ _ _ _ _ _ _ _ _ _ _ _ _ _ _ _ _ _ _ _ _ _ _ _ _ _ _ _ _ _ _ _ _ _ _ _ _ _ _ _ _ _ _ _ _ _ _ _ _ _ _ _ _ _ _ _ _ _ _ _ _ _ _ _ _ _ _ _ _ _ _ _ _ _ _ _ _ _ _ _ _ _ _ _ _ _ _ _ _ _ _ _ _ _ _ _ _ _ _ _ _ _ _ _ _ _ _ _ _ _ _ _ _ _ _ _ _ _ _ _ _ _ _ _ _ _ _ _ _ _ _ _ _ _ _ _ _ _ _ _ _ _ _ _ _ _ _ _ _ _ _ _ _ _ _ _ _ _ _ _ _ _ _ _ _ _ _ _ _ _ _ _ _ _ _ _ _ _ _ _ _ hF1 hS1
  simp only [w5_144, w5_145, w5_145_0, w5_146, seqK, blockK, if_true]
  refine pending_call (Q := fun o => _) hF3.hP ?_
  refine mk0 (.bool true) (by rw [hi0]; rfl) ?_
  refine gp (gcall ?_)
  simp only [sets_nilE]
  refine dark_call (Q := fun o => _) hF3.hP (fun rd => ?_)
  rw [hg]
  refine gy0 (.bool true) (by rfl) ?_
  refine mk0 (.bool true) (by rfl) ?_
  refine gcall ?_
  refine awake_call (Q := fun o => _) ?_
  refine mk0 (.bool true) (by rfl) ?_
  rfl
theorem qa_all {H : Heap} {g : Nat} {qs : List Act4} {k : Nat} {a : Act4} (h : H (.own 103) = some ⟨g, qaC qs, false, true⟩) (hk : qs[k]? = some a) : ldR 4 true H (.ptr (.own 103) g (0 + k * 4)) = some ⟨.agg (actV a), [], [.own 103]⟩ := by
  have l1 : live H (.own 103) g = some ⟨g, qaC qs, false, true⟩ := by simp [live, h]
  unfold ldR
  simp only [l1, qaC_cut hk]
  rfl
theorem box17 {H : Heap} {a : Act4} {g f : Nat} {v : V} (h : H (.own 17) = some ⟨g, actV a, false, false⟩) (hv : (actV a)[f]? = some v) : ldR 1 false H (.ptr (.own 17) g (0 + f)) = some ⟨v, [], [.own 17]⟩ := by
  rw [Nat.zero_add]; exact ld_cell h hv
theorem slice34b {H : Heap} {bs : List Int} {h : Nat} (h2 : h ≤ bs.length) : evSlice Try.prog H 34 (bytesV bs) none (some (.int .i64 (h : Int))) none = pureO (.list (bytesL (bs.take h)) false) := slice34f h2
set_option maxHeartbeats 8000000 in
/-- of the next write its first bytes are there -/
theorem begins_torn {l : List Act4} {gd gk gw : Nat} {keep torn : Int} {p2 : PD} {q : V} {qs : List Act4} (hgq : goodQ qs) (hsz : qs.length ≤ 200) {ks : List Int} (hks : ks.length = 16 * 64) {kn : Nat} {H : Heap} (hp : p2.ok 16) (hg : p2.g = false) (hi0 : p2.items = []) (hk2 : p2.ks = lastI ks (itemsOf qs) kn torn) (hkn : kn ≤ qs.length)
    (hF : BF H gd gk gw none p2 q qs (settledI ks ((itemsOf qs).take kn))) : ∀ t3 t4 t5 t8 t11 t12 t13 t15 t16 t17 t18 t19 t20 t21 t22 t23 t24 t25 t26 t27 t28 t29 t30 t31 t32 t33 t34 t35 t36 t37 t38 t39 t40 t41 t42 t43 t44 t45 t46 t47 t48 t49 t50 t51 t52 t53 t54 t55 t56 t57 t58 t59 t60 t61 t62 t63 t64 t65 t66 t67 t68 t69 t70 t71 t72 t73 t74 t75 t76 t77 t78 t79 t80 t81 t82 t83 t84 t85 t86 t87 t88 t89 t90 t91 t92 t93 t94 t95 t96 t97 t98 t99 t100 t101 t102 t103 t104 t105 t106 t107 t108 t109 t110 t111 t112 t113 t114 t115 t116 t117 t118 t119 t120 t121 t122 t123 t124 t125 t126 t127 t128 t129 t130 t131 t132 t133 t134 t135 t136 t137 t138 t139 t140 t141 t142 t143 t144 t145 t146 t147 t148 t149 t150 t151 t152 t153 t154 t155 t156 t157 t158 t159 t160 t161 t162 t163 t164 t165 t166 t167 t168 t169 t170 t171 t172 t173 t174 t175 t176 t177 t178 t179 t180 t181 t182 t183 t184 t185 t186 t187 t188 t189 t190 t191 t192 t193 t194 t195 t196 t197 t198 t199 t200 t201 t202 t203 t204 t205 t206 t207 t208 t209 t210 t211 t212 t213, wC Try.prog dcfg.pol (CallR dcfg) (LoopR dcfg) c5_109 [actsV l, .int .i64 keep, .int .i64 torn, t3, t4, t5, .bool false, .ptr (.sub 23 (.own 15)) gd 0, t8, .sl (.sub 36 (.own 23)) gw 0 16 1 none, q, t11, t12, t13, .int .i64 (kn : Int), t15, t16, t17, t18, t19, t20, t21, t22, t23, t24, t25, t26, t27, t28, t29, t30, t31, t32, t33, t34, t35, t36, t37, t38, t39, t40, t41, t42, t43, t44, t45, t46, t47, t48, t49, t50, t51, t52, t53, t54, t55, t56, t57, t58, t59, t60, t61, t62, t63, t64, t65, t66, t67, t68, t69, t70, t71, t72, t73, t74, t75, t76, t77, t78, t79, t80, t81, t82, t83, t84, t85, t86, t87, t88, t89, t90, t91, t92, t93, t94, t95, t96, t97, t98, t99, t100, t101, t102, t103, t104, t105, t106, t107, t108, t109, t110, t111, t112, t113, t114, t115, t116, t117, t118, t119, t120, t121, t122, t123, t124, t125, t126, t127, t128, t129, t130, t131, t132, t133, t134, t135, t136, t137, t138, t139, t140, t141, t142, t143, t144, t145, t146, t147, t148, t149, t150, t151, t152, t153, t154, t155, t156, t157, t158, t159, t160, t161, t162, t163, t164, t165, t166, t167, t168, t169, t170, t171, t172, t173, t174, t175, t176, t177, t178, t179, t180, t181, t182, t183, t184, t185, t186, t187, t188, t189, t190, t191, t192, t193, t194, t195, t196, t197, t198, t199, t200, t201, t202, t203, t204, t205, t206, t207, t208, t209, t210, t211, t212, t213] H (wRes Try.prog [.tmp 6] fun r _ => r = .bool true) := by
  intro t3 t4 t5 t8 t11 t12 t13 t15 t16 t17 t18 t19 t20 t21 t22 t23 t24 t25 t26 t27 t28 t29 t30 t31 t32 t33 t34 t35 t36 t37 t38 t39 t40 t41 t42 t43 t44 t45 t46 t47 t48 t49 t50 t51 t52 t53 t54 t55 t56 t57 t58 t59 t60 t61 t62 t63 t64 t65 t66 t67 t68 t69 t70 t71 t72 t73 t74 t75 t76 t77 t78 t79 t80 t81 t82 t83 t84 t85 t86 t87 t88 t89 t90 t91 t92 t93 t94 t95 t96 t97 t98 t99 t100 t101 t102 t103 t104 t105 t106 t107 t108 t109 t110 t111 t112 t113 t114 t115 t116 t117 t118 t119 t120 t121 t122 t123 t124 t125 t126 t127 t128 t129 t130 t131 t132 t133 t134 t135 t136 t137 t138 t139 t140 t141 t142 t143 t144 t145 t146 t147 t148 t149 t150 t151 t152 t153 t154 t155 t156 t157 t158 t159 t160 t161 t162 t163 t164 t165 t166 t167 t168 t169 t170 t171 t172 t173 t174 t175 t176 t177 t178 t179 t180 t181 t182 t183 t184 t185 t186 t187 t188 t189 t190 t191 t192 t193 t194 t195 t196 t197 t198 t199 t200 t201 t202 t203 t204 t205 t206 t207 t208 t209 t210 t211 t212 t213
  simp only [w5_109, w5_110, w5_111, w5_111_0, w5_112, seqK]
  refine mk0 _ hF.hb.len ?_
  refine mk0 _ (bin_lss ..) ?_
  by_cases hlt : kn < qs.length
  · rw [decide_eq_true (by omega)]
    refine condT ?_
    obtain ⟨a, hka⟩ : ∃ a, qs[kn]? = some a := ⟨qs[kn], by simp [hlt]⟩
    have hma : a ∈ qs := List.mem_of_getElem? hka
    obtain ⟨ha0, ha16, hab⟩ := hgq a hma
    obtain ⟨gq, rfl, hq, _⟩ := hF.hb.at hka
    obtain ⟨na, hna⟩ : ∃ na : Nat, a.n = (na : Int) := ⟨a.n.toNat, by omega⟩
    simp only [w5_113, w5_114, w5_114_0, w5_115, w5_116, w5_116_0, w5_117, w5_117_0c, w5_117_0, w5_117_12, seqK, ia22, ia38, ld36, st36, fa36_1, fa36_3, ld3b, ld34, ld9, st9]
    refine mk0 (.int .i64 (if (0 : Int) > torn then 0 else torn)) (by rfl) ?_
    refine mk0 (.int .i64 ((min torn.toNat 64 : Nat) : Int)) (by
      have : (if (64 : Int) < (if (0 : Int) > torn then 0 else torn) then (64 : Int) else (if (0 : Int) > torn then 0 else torn)) = ((min torn.toNat 64 : Nat) : Int) := by
        split <;> split <;> omega
      rw [← this]; rfl) ?_
    have htn : min torn.toNat 64 ≤ a.b.length := by omega
    refine mk0 (.ptr (.own 103) gq (0 + kn * 4)) (ia_sl4 hlt) ?_
    refine mk (.agg (actV a)) [] [.own 103] (qa_all hq hka) ?_
    simp only [sets_nilE]
    refine mk (.ptr (.own 17) (nextGen H (.own 17)) 0) [(.own 17, ⟨nextGen H (.own 17), [.int .i64 0, .int .i64 0, .int .i64 0, .nils], false, false⟩)] [.own 17] (by kernel_rfl) ?_
    generalize nextGen H (.own 17) = gx
    have hF0 := hF.other (H' := Heap.sets H [(.own 17, ⟨gx, [.int .i64 0, .int .i64 0, .int .i64 0, .nils], false, false⟩)]) (by simp [Heap.sets, Heap.set]) (by simp [Heap.sets, Heap.set]) (by simp [Heap.sets, Heap.set]) (by simp [Heap.sets, Heap.set]) (by simp [Heap.sets, Heap.set])
    have hX0 : (Heap.sets H [(.own 17, ⟨gx, [.int .i64 0, .int .i64 0, .int .i64 0, .nils], false, false⟩)]) (.own 17) = some ⟨gx, [.int .i64 0, .int .i64 0, .int .i64 0, .nils], false, false⟩ := by simp [Heap.sets, Heap.set]
    generalize Heap.sets H [(.own 17, ⟨gx, [.int .i64 0, .int .i64 0, .int .i64 0, .nils], false, false⟩)] = H0 at hF0 hX0 ⊢
    refine mk .und [(.own 17, ⟨gx, actV a, false, false⟩)] [.own 17] (box_st hX0 rfl) ?_
    have hF1 := hF0.other (H' := Heap.sets H0 [(.own 17, ⟨gx, actV a, false, false⟩)]) (by simp [Heap.sets, Heap.set]) (by simp [Heap.sets, Heap.set]) (by simp [Heap.sets, Heap.set]) (by simp [Heap.sets, Heap.set]) (by simp [Heap.sets, Heap.set])
    have hX1 : (Heap.sets H0 [(.own 17, ⟨gx, actV a, false, false⟩)]) (.own 17) = some ⟨gx, actV a, false, false⟩ := by simp [Heap.sets, Heap.set]
    generalize Heap.sets H0 [(.own 17, ⟨gx, actV a, false, false⟩)] = H1 at hF1 hX1 ⊢
    have hst : (settledI ks ((itemsOf qs).take kn)).length = 16 * 64 := by rw [settledI_len (itemsOf_ok2 hgq hks), hks]
    have hsl := secS_len hst (i := na) (by omega)
    generalize hks1 : settledI ks ((itemsOf qs).take kn) = ks1 at *
    generalize hmn : min torn.toNat 64 = mn at *
    refine mkL0 (.sl (.sub 36 (.own 23)) gw 0 16 1 none) [] (by rfl) ?_
    refine mkL0 (.ptr (.own 17) gx (0 + 1)) [] (by rfl) ?_
    refine mkL (.int .i64 a.n) [] [.own 17] (box17 hX1 rfl) ?_
    refine mkL0 (.ptr (.own 17) gx (0 + 3)) [] (by rfl) ?_
    simp only [sets_nilE]
    refine mkL (bytesV a.b) [] [.own 17] (box17 hX1 rfl) ?_
    refine mkL0 (.int .i64 (mn : Int)) [] (by rfl) ?_
    refine mkL0 _ [] (slice34b htn) ?_
    refine mkL (.str (toStr (a.b.take mn))) [] [] conv_list ?_
    refine mkL0 (.sl (.sub 36 (.own 23)) gw 0 16 1 none) [] (by rfl) ?_
    refine mkL0 (.ptr (.own 17) gx (0 + 1)) [] (by rfl) ?_
    simp only [sets_nilE]
    refine mkL (.int .i64 a.n) [] [.own 17] (box17 hX1 rfl) ?_
    rw [hna]
    refine mkL0 (.ptr (.sub 36 (.own 23)) gw (0 + na * 1)) [] (ia_sl (by omega)) ?_
    simp only [sets_nilE]
    refine mkL (.str (secS ks1 na)) [] [(.sub 36 (.own 23))] (ld_at hF1.hw (secsV_at (by omega))) ?_
    refine mkL0 (.int .i64 (mn : Int)) [] (by rfl) ?_
    refine mkL0 _ [] (slice9 (by omega)) ?_
    refine mkL0 _ [] (bin_sadd (by simp [toStr]; omega)) ?_
    refine mkL0 (.ptr (.sub 36 (.own 23)) gw (0 + na * 1)) [] (ia_sl (by omega)) ?_
    simp only [sets_nilE]
    refine mkL .und _ _ (st_cell hF1.hw (by rw [secsV_len]; omega)) ?_
    refine ⟨by kernel_rfl, ?_⟩
    have hnat : a.n.toNat = na := by omega
    have htl : (a.b.take mn).length = mn := by simp; omega
    have e1 : p2.ks = putI ks1 (na, a.b.take mn) := by
      rw [hk2]
      unfold lastI
      rw [itemsOf_at hka]
      simp only [hnat, hmn, hks1]
    have e2 : (secsV ks1 16).set na (.str (toStr (a.b.take mn) ++ (secS ks1 na).drop mn)) = secsV p2.ks 16 := by
      rw [e1, secsV_putI hst (by omega) (by omega), htl]
    rw [e2]
    exact begins_tail hp hg hi0 (hF1.put hp.len) _ _ _ _ _ _ _ _ _ _ _ _ _ _ _ _ _ _ _ _ _ _ _ _ _ _ _ _ _ _ _ _ _ _ _ _ _ _ _ _ _ _ _ _ _ _ _ _ _ _ _ _ _ _ _ _ _ _ _ _ _ _ _ _ _ _ _ _ _ _ _ _ _ _ _ _ _ _ _ _ _ _ _ _ _ _ _ _ _ _ _ _ _ _ _ _ _ _ _ _ _ _ _ _ _ _ _ _ _ _ _ _ _ _ _ _ _ _ _ _ _ _ _ _ _ _ _ _ _ _ _ _ _ _ _ _ _ _ _ _ _ _ _ _ _ _ _ _ _ _ _ _ _ _ _ _ _ _ _ _ _ _ _ _ _ _ _ _ _ _ _ _ _ _ _ _ _ _ _ _ _ _ _ _ _ _ _ _ _ _ _ _ _ _ _ _ _ _ _ _ _ _ _ _ _ _ _ _
  · rw [decide_eq_false (by omega)]
    refine condF ?_
    simp only [w5_118, seqK]
    have hk3 : kn = qs.length := by omega
    have e1 : p2.ks = settledI ks ((itemsOf qs).take kn) := by
      rw [hk2]
      unfold lastI
      rw [List.getElem?_eq_none (by simp [itemsOf]; omega)]
    rw [← e1] at hF
    exact begins_tail hp hg hi0 hF _ _ _ _ _ _ _ _ _ _ _ _ _ _ _ _ _ _ _ _ _ _ _ _ _ _ _ _ _ _ _ _ _ _ _ _ _ _ _ _ _ _ _ _ _ _ _ _ _ _ _ _ _ _ _ _ _ _ _ _ _ _ _ _ _ _ _ _ _ _ _ _ _ _ _ _ _ _ _ _ _ _ _ _ _ _ _ _ _ _ _ _ _ _ _ _ _ _ _ _ _ _ _ _ _ _ _ _ _ _ _ _ _ _ _ _ _ _ _ _ _ _ _ _ _ _ _ _ _ _ _ _ _ _ _ _ _ _ _ _ _ _ _ _ _ _ _ _ _ _ _ _ _ _ _ _ _ _ _ _ _ _ _ _ _ _ _ _ _ _ _ _ _ _ _ _ _ _ _ _ _ _ _ _ _ _ _ _ _ _ _ _ _ _ _ _ _ _ _ _ _ _ _ _ _ _ _ _
set_option maxHeartbeats 8000000 in
/-- DiskBegins, from its end of the loop on -/
theorem begins_end {l : List Act4} {gd gk gw : Nat} {keep torn : Int} {p : PD} {qn : Option (Id × Nat)} {q : V} {qs : List Act4} {H : Heap} (hI : BI H gd gk gw qn p q qs 200) : ∀ t3 t4 t5 t8 t11 t12 t13 t14 t15 t16 t17 t18 t19 t20 t21 t22 t23 t24 t25 t26 t27 t28 t29 t30 t31 t32 t33 t34 t35 t36 t37 t38 t39 t40 t41 t42 t43 t44 t45 t46 t47 t48 t49 t50 t51 t52 t53 t54 t55 t56 t57 t58 t59 t60 t61 t62 t63 t64 t65 t66 t67 t68 t69 t70 t71 t72 t73 t74 t75 t76 t77 t78 t79 t80 t81 t82 t83 t84 t85 t86 t87 t88 t89 t90 t91 t92 t93 t94 t95 t96 t97 t98 t99 t100 t101 t102 t103 t104 t105 t106 t107 t108 t109 t110 t111 t112 t113 t114 t115 t116 t117 t118 t119 t120 t121 t122 t123 t124 t125 t126 t127 t128 t129 t130 t131 t132 t133 t134 t135 t136 t137 t138 t139 t140 t141 t142 t143 t144 t145 t146 t147 t148 t149 t150 t151 t152 t153 t154 t155 t156 t157 t158 t159 t160 t161 t162 t163 t164 t165 t166 t167 t168 t169 t170 t171 t172 t173 t174 t175 t176 t177 t178 t179 t180 t181 t182 t183 t184 t185 t186 t187 t188 t189 t190 t191 t192 t193 t194 t195 t196 t197 t198 t199 t200 t201 t202 t203 t204 t205 t206 t207 t208 t209 t210 t211 t212 t213, wC Try.prog dcfg.pol (CallR dcfg) (LoopR dcfg) c5_82 [actsV l, .int .i64 keep, .int .i64 torn, t3, t4, t5, .bool false, .ptr (.sub 23 (.own 15)) gd 0, t8, .sl (.sub 36 (.own 23)) gw 0 16 1 none, q, t11, t12, t13, t14, t15, t16, t17, t18, t19, t20, t21, t22, t23, t24, t25, t26, t27, t28, t29, t30, t31, t32, t33, t34, t35, t36, t37, t38, t39, t40, t41, t42, t43, t44, t45, t46, t47, t48, t49, t50, t51, t52, t53, t54, t55, t56, t57, t58, t59, t60, t61, t62, t63, t64, t65, t66, t67, t68, t69, t70, t71, t72, t73, t74, t75, t76, t77, t78, t79, t80, t81, t82, t83, t84, t85, t86, t87, t88, t89, t90, t91, t92, t93, t94, t95, t96, t97, t98, t99, t100, t101, t102, t103, t104, t105, t106, t107, t108, t109, t110, t111, t112, t113, t114, t115, t116, t117, t118, t119, t120, t121, t122, t123, t124, t125, t126, t127, t128, t129, t130, t131, t132, t133, t134, t135, t136, t137, t138, t139, t140, t141, t142, t143, t144, t145, t146, t147, t148, t149, t150, t151, t152, t153, t154, t155, t156, t157, t158, t159, t160, t161, t162, t163, t164, t165, t166, t167, t168, t169, t170, t171, t172, t173, t174, t175, t176, t177, t178, t179, t180, t181, t182, t183, t184, t185, t186, t187, t188, t189, t190, t191, t192, t193, t194, t195, t196, t197, t198, t199, t200, t201, t202, t203, t204, t205, t206, t207, t208, t209, t210, t211, t212, t213] H (wRes Try.prog [.tmp 6] fun r _ => r = .bool true) := by
  intro t3 t4 t5 t8 t11 t12 t13 t14 t15 t16 t17 t18 t19 t20 t21 t22 t23 t24 t25 t26 t27 t28 t29 t30 t31 t32 t33 t34 t35 t36 t37 t38 t39 t40 t41 t42 t43 t44 t45 t46 t47 t48 t49 t50 t51 t52 t53 t54 t55 t56 t57 t58 t59 t60 t61 t62 t63 t64 t65 t66 t67 t68 t69 t70 t71 t72 t73 t74 t75 t76 t77 t78 t79 t80 t81 t82 t83 t84 t85 t86 t87 t88 t89 t90 t91 t92 t93 t94 t95 t96 t97 t98 t99 t100 t101 t102 t103 t104 t105 t106 t107 t108 t109 t110 t111 t112 t113 t114 t115 t116 t117 t118 t119 t120 t121 t122 t123 t124 t125 t126 t127 t128 t129 t130 t131 t132 t133 t134 t135 t136 t137 t138 t139 t140 t141 t142 t143 t144 t145 t146 t147 t148 t149 t150 t151 t152 t153 t154 t155 t156 t157 t158 t159 t160 t161 t162 t163 t164 t165 t166 t167 t168 t169 t170 t171 t172 t173 t174 t175 t176 t177 t178 t179 t180 t181 t182 t183 t184 t185 t186 t187 t188 t189 t190 t191 t192 t193 t194 t195 t196 t197 t198 t199 t200 t201 t202 t203 t204 t205 t206 t207 t208 t209 t210 t211 t212 t213
  have hlen := hI.hp.len
  have hsz2 : secOf (cellsB p.ks) ≠ 0 := by rw [hI.hp.secOf]; omega
  have hil : p.items.length = qs.length := by rw [hI.hi]; simp [itemsOf]
  simp only [w5_82, w5_83, w5_84, w5_84_0, w5_85, w5_89, w5_90, w5_91, w5_91_0, seqK, len38]
  refine mk0 (.int .i64 16) (by rfl) ?_
  refine mk0 (.bool false) (by rfl) ?_
  refine gp (gcall ?_)
  simp only [sets_nilE]
  refine pending_call (Q := fun o => _) hI.hF.hP ?_
  refine gp ?_
  refine gy0 _ hI.hF.hb.len ?_
  refine gy0 (.bool false) (by rw [bin_neq, hil]; simp) ?_
  refine mk0 (.bool false) (by rfl) ?_
  refine condF ?_
  simp only [sets_nilE]
  refine crash_call (Q := fun o => _) hI.hF.hP hI.hp.few (by rw [cellsB_len]; omega) (by rw [cellsB_len]; exact hI.hp.it') (fun hz => absurd hz hsz2) (fun _ us2 rd2 hB => ?_)
  rw [last_I] at hB
  obtain ⟨hF2, _⟩ := hI.hF.back (p' := p.crash keep torn) (fun j hj => hI.hF.acc hj) (.inl rfl) hB
  generalize H.sets us2 = H2 at hF2 ⊢
  simp only [w5_92, w5_93, w5_93_0, w5_94, w5_95, w5_96, w5_96_0, w5_97, w5_98, seqK]
  refine mk0 (.int .i64 (if (0 : Int) > keep then 0 else keep)) (by rfl) ?_
  refine mk0 _ hF2.hb.len ?_
  refine mk0 (.int .i64 ((min keep.toNat qs.length : Nat) : Int)) (by
    have : (if ((qs.length : Nat) : Int) < (if (0 : Int) > keep then 0 else keep) then ((qs.length : Nat) : Int) else (if (0 : Int) > keep then 0 else keep)) = ((min keep.toNat qs.length : Nat) : Int) := by
      split <;> split <;> omega
    rw [← this]; rfl) ?_
  refine begins_put2 (m := min keep.toNat qs.length) (k := 0) (r := min keep.toNat qs.length) hI.hq (by have := hI.hs; omega) hlen (by omega) (fun H3 t3 t4 t5 t8 t13 t15 t16 t17 t18 t19 t20 t21 t22 t23 t24 t25 t26 t27 t28 t29 t30 t31 t32 t33 t34 t35 t36 t37 t38 t39 t40 t41 t42 t43 t44 t45 t46 t47 t48 t49 t50 t51 t52 t53 t54 t55 t56 t57 t58 t59 t60 t61 t62 t63 t64 t65 t66 t67 t68 t69 t70 t71 t72 t73 t74 t75 t76 t77 t78 t79 t80 t81 t82 t83 t84 t85 t86 t87 t88 t89 t90 t91 t92 t93 t94 t95 t96 t97 t98 t99 t100 t101 t102 t103 t104 t105 t106 t107 t108 t109 t110 t111 t112 t113 t114 t115 t116 t117 t118 t119 t120 t121 t122 t123 t124 t125 t126 t127 t128 t129 t130 t131 t132 t133 t134 t135 t136 t137 t138 t139 t140 t141 t142 t143 t144 t145 t146 t147 t148 t149 t150 t151 t152 t153 t154 t155 t156 t157 t158 t159 t160 t161 t162 t163 t164 t165 t166 t167 t168 t169 t170 t171 t172 t173 t174 t175 t176 t177 t178 t179 t180 t181 t182 t183 t184 t185 t186 t187 t188 t189 t190 t191 t192 t193 t194 t195 t196 t197 t198 t199 t200 t201 t202 t203 t204 t205 t206 t207 t208 t209 t210 t211 t212 t213 hF3 _ => ?_) (by omega) H2 _ _ _ _ _ _ _ _ _ _ _ _ _ _ _ _ _ _ _ _ _ _ _ _ _ _ _ _ _ _ _ _ _ _ _ _ _ _ _ _ _ _ _ _ _ _ _ _ _ _ _ _ _ _ _ _ _ _ _ _ _ _ _ _ _ _ _ _ _ _ _ _ _ _ _ _ _ _ _ _ _ _ _ _ _ _ _ _ _ _ _ _ _ _ _ _ _ _ _ _ _ _ _ _ _ _ _ _ _ _ _ _ _ _ _ _ _ _ _ _ _ _ _ _ _ _ _ _ _ _ _ _ _ _ _ _ _ _ _ _ _ _ _ _ _ _ _ _ _ _ _ _ _ _ _ _ _ _ _ _ _ _ _ _ _ _ _ _ _ _ _ _ _ _ _ _ _ _ _ _ _ _ _ _ _ _ _ _ _ _ _ _ _ _ _ _ _ _ _ _ _ _ _ hF2 rfl
  simp only [blockK, if_true, seqK]
  refine begins_torn hI.hq (by have := hI.hs; omega) hlen (hI.hp.crash keep torn) rfl rfl ?_ (by omega) hF3 _ _ _ _ _ _ _ _ _ _ _ _ _ _ _ _ _ _ _ _ _ _ _ _ _ _ _ _ _ _ _ _ _ _ _ _ _ _ _ _ _ _ _ _ _ _ _ _ _ _ _ _ _ _ _ _ _ _ _ _ _ _ _ _ _ _ _ _ _ _ _ _ _ _ _ _ _ _ _ _ _ _ _ _ _ _ _ _ _ _ _ _ _ _ _ _ _ _ _ _ _ _ _ _ _ _ _ _ _ _ _ _ _ _ _ _ _ _ _ _ _ _ _ _ _ _ _ _ _ _ _ _ _ _ _ _ _ _ _ _ _ _ _ _ _ _ _ _ _ _ _ _ _ _ _ _ _ _ _ _ _ _ _ _ _ _ _ _ _ _ _ _ _ _ _ _ _ _ _ _ _ _ _ _ _ _ _ _ _ _ _ _ _ _ _ _ _ _ _ _ _ _ _ _ _ _
  show lastI p.ks p.items (min keep.toNat p.items.length) torn = _
  rw [hil, hI.hi]
end Go.Proofs.Ytcamcfplcoklkaa.Iv

namespace Go.Proofs.Ytcamcfplcoklkaa.Iv
open Go
set_option linter.unusedVariables false
set_option linter.unusedSimpArgs false
set_option maxRecDepth 100000

set_option maxHeartbeats 8000000 in
/-- DiskBegins answers true -/
theorem begins {l : List Act4} (hlen : l.length ≤ 9223372036854775807) (keep torn : Int) : CallR dcfg 5 [actsV l, .int .i64 keep, .int .i64 torn] (fun _ => none) (fun r _ => r = .bool true) := by
  refine CallR.body' (K := dcfg) (f := 5) (fn := Try.f5) (c := c5_0) (env := [actsV l, .int .i64 keep, .int .i64 torn, .und, .und, .und, .und, .und, .und, .und, .und, .und, .und, .und, .und, .und, .und, .und, .und, .und, .und, .und, .und, .und, .und, .und, .und, .und, .und, .und, .und, .und, .und, .und, .und, .und, .und, .und, .und, .und, .und, .und, .und, .und, .und, .und, .und, .und, .und, .und, .und, .und, .und, .und, .und, .und, .und, .und, .und, .und, .und, .und, .und, .und, .und, .und, .und, .und, .und, .und, .und, .und, .und, .und, .und, .und, .und, .und, .und, .und, .und, .und, .und, .und, .und, .und, .und, .und, .und, .und, .und, .und, .und, .und, .und, .und, .und, .und, .und, .und, .und, .und, .und, .und, .und, .und, .und, .und, .und, .und, .und, .und, .und, .und, .und, .und, .und, .und, .und, .und, .und, .und, .und, .und, .und, .und, .und, .und, .und, .und, .und, .und, .und, .und, .und, .und, .und, .und, .und, .und, .und, .und, .und, .und, .und, .und, .und, .und, .und, .und, .und, .und, .und, .und, .und, .und, .und, .und, .und, .und, .und, .und, .und, .und, .und, .und, .und, .und, .und, .und, .und, .und, .und, .und, .und, .und, .und, .und, .und, .und, .und, .und, .und, .und, .und, .und, .und, .und, .und, .und, .und, .und, .und, .und, .und, .und, .und, .und, .und, .und, .und, .und, .und, .und, .und, .und, .und, .und, .und, .und, .und, .und, .und, .und]) (rs := [.tmp 6]) rfl (by kernel_rfl) (by kernel_rfl) (by kernel_rfl) (by kernel_rfl) (by kernel_rfl) (by kernel_rfl) ?_
  show wC Try.prog dcfg.pol (CallR dcfg) (LoopR dcfg) c5_0 _ _ _
  simp only [w5_0, w5_1, w5_1_0, w5_2, w5_3, w5_3_0, w5_4, w5_5, w5_6, w5_6_0, w5_7, w5_8, w5_9, w5_9_0, w5_10, w5_11, w5_12, w5_13, w5_14, w5_14_0, w5_15, w5_16, w5_17, w5_17_0, w5_18, w5_19, seqK]
  refine new_call (Q := fun o => _) (N := 16) (by omega) (by omega) (fun gd gk rd => ?_)
  refine mk0 (.ptr (.sub 23 (.own 15)) gd 0) (by rfl) ?_
  refine mk0 (.int .i64 0) (by rfl) ?_
  refine mk0 (.bool false) (by rfl) ?_
  refine gp (gy0 (.bool false) (by kernel_rfl) ?_)
  refine mk0 (.bool false) (by rfl) ?_
  refine condF ?_
  simp only [sets_nilE]
  refine long_callW hlen (fun b hb => ?_)
  cases b with
  | true =>
    refine condT ?_
    refine awake_callW ?_
    rfl
  | false =>
    obtain ⟨h1, h2⟩ := hb rfl
    refine condF ?_
    have hp0 : (PD.new 16).ok 16 := ⟨by simp [PD.new], by omega, by omega, by simp [PD.new], fun x hx => by cases hx⟩
    have hP0 : PDF (Heap.sets (fun _ => none) [((.sub 23 (.own 15)), ⟨gd, [.int .i64 (-1), .bool false, .int .i64 (-1), .sl (.sub 23 (.own 13)) gk 0 (16 * 64) 1 none, .nils], false, false⟩), ((.sub 23 (.own 13)), ⟨gk, cellsB (List.replicate (16 * 64) 0), false, true⟩)]) (.sub 23 (.own 15)) (.sub 23 (.own 13)) gd gk none (PD.new 16) :=
      ⟨by simp [Heap.sets, Heap.set, PD.new, dq, cellsB_len], by simp [Heap.sets, Heap.set, PD.new], fun Q gq e => (by cases e), fun _ => rfl, by simp⟩
    generalize Heap.sets (fun _ => none) [((.sub 23 (.own 15)), ⟨gd, [.int .i64 (-1), .bool false, .int .i64 (-1), .sl (.sub 23 (.own 13)) gk 0 (16 * 64) 1 none, .nils], false, false⟩), ((.sub 23 (.own 13)), ⟨gk, cellsB (List.replicate (16 * 64) 0), false, true⟩)] = H0 at hP0 ⊢
    simp only [w5_20, w5_21, w5_21_0, w5_22, w5_23, w5_23_0, w5_24, w5_25, w5_26, w5_26_0, w5_27, w5_28, seqK]
    refine secs_call (Q := fun o => _) hP0 hp0 (fun gw rd1 => ?_)
    have hP1 : PDF (Heap.sets H0 [((.sub 36 (.own 23)), ⟨gw, secsV (PD.new 16).ks 16, false, true⟩)]) (.sub 23 (.own 15)) (.sub 23 (.own 13)) gd gk none (PD.new 16) := hP0.other (fun j hj => by
      simp only [accOf, List.mem_cons, List.not_mem_nil, or_false] at hj
      rcases hj with rfl | rfl <;> simp [Heap.sets, Heap.set])
    have hF : BF (Heap.sets H0 [((.sub 36 (.own 23)), ⟨gw, secsV (PD.new 16).ks 16, false, true⟩)]) gd gk gw none (PD.new 16) .nils [] (PD.new 16).ks := ⟨hP1, .inl rfl, by simp [Heap.sets, Heap.set], hp0.len, .inl ⟨rfl, rfl⟩⟩
    generalize Heap.sets H0 [((.sub 36 (.own 23)), ⟨gw, secsV (PD.new 16).ks 16, false, true⟩)] = H1 at hF ⊢
    refine begins_loop (keep := keep) (torn := torn) (i := 0) (k := l.length) h1 (fun H' p qn q qs t3 t4 t5 t8 t11 t12 t13 t14 t15 t16 t17 t18 t19 t20 t21 t22 t23 t24 t25 t26 t27 t28 t29 t30 t31 t32 t33 t34 t35 t36 t37 t38 t39 t40 t41 t42 t43 t44 t45 t46 t47 t48 t49 t50 t51 t52 t53 t54 t55 t56 t57 t58 t59 t60 t61 t62 t63 t64 t65 t66 t67 t68 t69 t70 t71 t72 t73 t74 t75 t76 t77 t78 t79 t80 t81 t82 t83 t84 t85 t86 t87 t88 t89 t90 t91 t92 t93 t94 t95 t96 t97 t98 t99 t100 t101 t102 t103 t104 t105 t106 t107 t108 t109 t110 t111 t112 t113 t114 t115 t116 t117 t118 t119 t120 t121 t122 t123 t124 t125 t126 t127 t128 t129 t130 t131 t132 t133 t134 t135 t136 t137 t138 t139 t140 t141 t142 t143 t144 t145 t146 t147 t148 t149 t150 t151 t152 t153 t154 t155 t156 t157 t158 t159 t160 t161 t162 t163 t164 t165 t166 t167 t168 t169 t170 t171 t172 t173 t174 t175 t176 t177 t178 t179 t180 t181 t182 t183 t184 t185 t186 t187 t188 t189 t190 t191 t192 t193 t194 t195 t196 t197 t198 t199 t200 t201 t202 t203 t204 t205 t206 t207 t208 t209 t210 t211 t212 t213 hI => ?_) (by omega) H1 (PD.new 16) none .nils [] _ _ _ _ _ _ _ _ _ _ _ _ _ _ _ _ _ _ _ _ _ _ _ _ _ _ _ _ _ _ _ _ _ _ _ _ _ _ _ _ _ _ _ _ _ _ _ _ _ _ _ _ _ _ _ _ _ _ _ _ _ _ _ _ _ _ _ _ _ _ _ _ _ _ _ _ _ _ _ _ _ _ _ _ _ _ _ _ _ _ _ _ _ _ _ _ _ _ _ _ _ _ _ _ _ _ _ _ _ _ _ _ _ _ _ _ _ _ _ _ _ _ _ _ _ _ _ _ _ _ _ _ _ _ _ _ _ _ _ _ _ _ _ _ _ _ _ _ _ _ _ _ _ _ _ _ _ _ _ _ _ _ _ _ _ _ _ _ _ _ _ _ _ _ _ _ _ _ _ _ _ _ _ _ _ _ _ _ _ _ _ _ _ _ _ _ _ _ _ _ _ _ _ _ _ _ ⟨hF, hp0, rfl, rfl, rfl, rfl, (fun x hx => by cases hx), by simp⟩
    simp only [blockK, if_true, seqK]
    exact begins_end hI _ _ _ _ _ _ _ _ _ _ _ _ _ _ _ _ _ _ _ _ _ _ _ _ _ _ _ _ _ _ _ _ _ _ _ _ _ _ _ _ _ _ _ _ _ _ _ _ _ _ _ _ _ _ _ _ _ _ _ _ _ _ _ _ _ _ _ _ _ _ _ _ _ _ _ _ _ _ _ _ _ _ _ _ _ _ _ _ _ _ _ _ _ _ _ _ _ _ _ _ _ _ _ _ _ _ _ _ _ _ _ _ _ _ _ _ _ _ _ _ _ _ _ _ _ _ _ _ _ _ _ _ _ _ _ _ _ _ _ _ _ _ _ _ _ _ _ _ _ _ _ _ _ _ _ _ _ _ _ _ _ _ _ _ _ _ _ _ _ _ _ _ _ _ _ _ _ _ _ _ _ _ _ _ _ _ _ _ _ _ _ _ _ _ _ _ _ _ _ _ _ _ _ _ _ _ _
end Go.Proofs.Ytcamcfplcoklkaa.Iv
