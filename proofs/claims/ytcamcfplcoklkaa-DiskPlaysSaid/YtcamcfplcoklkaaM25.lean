import Derived.Test.YtcamcfplcoklkaaM23
import Derived.Test.YtcamcfplcoklkaaM24
import Derived.Test.YtcamcfplcoklkaaM8
import Derived.ProofKit
import Derived.OpenShut
import Derived.DataReads
import Derived.ChangeOld
namespace Go.Proofs.Ytcamcfplcoklkaa.Iv
open Go
set_option linter.unusedVariables false
set_option linter.unusedSimpArgs false
set_option maxRecDepth 100000

/-- where the reference's sectors may lie in the law, and its queue -/
def k1 : Id := .sub 27 (.sub 12 (.own 11))
def k2 : Id := .sub 51 (.sub 19 (.own 11))
def w1 : Id := .sub 23 (.own 45)
def w2 : Id := .sub 23 (.own 51)
def SA : List Id := [.sub 54 (.own 25), .sub 76 k1, .sub 76 (.sub 999999 k1), .sub 76 k2, .sub 76 (.sub 999999 k2)]
def SB : List Id := [.sub 76 w1, .sub 76 (.sub 999999 w1), .sub 76 w2, .sub 76 (.sub 999999 w2)]
def ALL : List Id := [(.sub 16 (.own 15)), (.sub 16 (.own 13)), (.sub 67 (.sub 37 (.own 49))), (.sub 54 (.own 12))] ++ (SA ++ SB)
theorem nm_sq : ∀ A ∈ SA, ∀ q ∈ [w1, w2], newName 76 [(.sub 54 (.own 12)), A] q ∉ [(.sub 54 (.own 12)), A] ∧ newName 76 [(.sub 54 (.own 12)), A] q ∈ SB := by decide +kernel
theorem nm_sq2 : ∀ A ∈ SA, ∀ B ∈ SB, ∀ q ∈ [w1, w2], newName 76 [(.sub 54 (.own 12)), A, B] q ∉ [(.sub 54 (.own 12)), A, B] ∧ newName 76 [(.sub 54 (.own 12)), A, B] q ∈ SB := by decide +kernel
theorem nm_kn : ∀ A ∈ SA, ∀ q ∈ [k1, k2], newName 76 [(.sub 54 (.own 12)), A] q ∉ [(.sub 54 (.own 12)), A] ∧ newName 76 [(.sub 54 (.own 12)), A] q ∈ SA := by decide +kernel
theorem nm_kn2 : ∀ A ∈ SA, ∀ B ∈ SB, ∀ q ∈ [k1, k2], newName 76 [(.sub 54 (.own 12)), A, B] q ∉ [(.sub 54 (.own 12)), A, B] ∧ newName 76 [(.sub 54 (.own 12)), A, B] q ∈ SA := by decide +kernel
theorem apart : ∀ i ∈ [(.sub 16 (.own 15)), (.sub 16 (.own 13)), (.sub 67 (.sub 37 (.own 49)))], ∀ j ∈ (.sub 54 (.own 12)) :: (SA ++ SB), i ≠ j := by decide +kernel
structure PFr (H : Heap) (gd gk gr : Nat) (qn : Option (Id × Nat)) (A : Id) (ga : Nat) (bn : Option (Id × Nat)) (p : PD) (r : RD) : Prop where
  hP : PDF H (.sub 16 (.own 15)) (.sub 16 (.own 13)) gd gk qn p
  hq : qn = none ∨ ∃ g, qn = some ((.sub 67 (.sub 37 (.own 49))), g)
  hR : RF H (.sub 54 (.own 12)) A gr ga bn r
  hA : A ∈ SA
  hB : bn = none ∨ ∃ B g, bn = some (B, g) ∧ B ∈ SB
section
variable {H H' : Heap} {gd gk gr : Nat} {qn : Option (Id × Nat)} {A : Id} {ga : Nat} {bn : Option (Id × Nat)} {p : PD} {r : RD}
theorem PFr.accD (h : PFr H gd gk gr qn A ga bn p r) {i : Id} (hi : i ∈ accOf (.sub 16 (.own 15)) (.sub 16 (.own 13)) qn) : i ∈ [(.sub 16 (.own 15)), (.sub 16 (.own 13)), (.sub 67 (.sub 37 (.own 49)))] := by
  rcases h.hq with rfl | ⟨g, rfl⟩
  · simp only [accOf, List.mem_cons, List.not_mem_nil, or_false] at hi
    rcases hi with rfl | rfl <;> simp
  · exact hi
theorem PFr.accR (h : PFr H gd gk gr qn A ga bn p r) {i : Id} (hi : i ∈ accOf (.sub 54 (.own 12)) A bn) : i ∈ (.sub 54 (.own 12)) :: (SA ++ SB) := by
  rcases h.hB with rfl | ⟨B, g, rfl, hb⟩
  · simp only [accOf, List.mem_cons, List.not_mem_nil, or_false] at hi
    rcases hi with rfl | rfl
    · simp
    · exact List.mem_cons_of_mem _ (List.mem_append_left _ h.hA)
  · simp only [accOf, List.mem_cons, List.not_mem_nil, or_false] at hi
    rcases hi with rfl | rfl | rfl
    · simp
    · exact List.mem_cons_of_mem _ (List.mem_append_left _ h.hA)
    · exact List.mem_cons_of_mem _ (List.mem_append_right _ hb)
theorem all_D {i : Id} (h : i ∈ [(.sub 16 (.own 15)), (.sub 16 (.own 13)), (.sub 67 (.sub 37 (.own 49)))]) : i ∈ ALL := by
  simp only [List.mem_cons, List.not_mem_nil, or_false] at h
  rcases h with rfl | rfl | rfl <;> simp [ALL]
theorem all_R {i : Id} (h : i ∈ (.sub 54 (.own 12)) :: (SA ++ SB)) : i ∈ ALL := by
  rcases List.mem_cons.1 h with rfl | h
  · simp [ALL]
  · exact List.mem_append_right _ h
theorem PFr.other (h : PFr H gd gk gr qn A ga bn p r) (e : ∀ i ∈ ALL, H' i = H i) : PFr H' gd gk gr qn A ga bn p r :=
  ⟨h.hP.other (fun i hi => e i (all_D (h.accD hi))), h.hq, h.hR.other (fun i hi => e i (all_R (h.accR hi))), h.hA, h.hB⟩
/-- a block elsewhere is set -/
theorem PFr.set (h : PFr H gd gk gr qn A ga bn p r) {x : Id} {b : Blk} (hx : ∀ i ∈ ALL, i ≠ x) : PFr (H.sets [(x, b)]) gd gk gr qn A ga bn p r :=
  h.other (fun i hi => by simp [Heap.sets, Heap.set, hx i hi])
/-- did, in the law -/
theorem didP (h : PFr H gd gk gr qn A ga bn p r) {N : Nat} (hp : p.ok N) {a : Act4} (hb : a.b.length ≤ 1000) {Q : Out → Prop}
    (hQ : ∀ qn' us rd, PFr (H.sets us) gd gk gr qn' A ga bn (p.did a).1 r → Q ⟨.tup [.str (toStr (p.did a).2.1), .int .i64 (p.did a).2.2], us, rd⟩) : wCall dcfg.pol (CallR dcfg) H 67 12 [.ptr (.sub 16 (.own 15)) gd 0, .agg (actV a)] Q := by
  refine did_call h.hP hp hb h.hq (by simp) act_keep (fun _ _ hh => by cases hh) (fun qn' us rd hq' hP' ho => hQ qn' us rd ⟨hP', hq', h.hR.other (fun i hi => ?_), h.hA, h.hB⟩)
  have hi2 := h.accR hi
  exact ho i (fun e => apart (.sub 16 (.own 15)) (by simp) i hi2 e.symm) (fun e => apart (.sub 16 (.own 13)) (by simp) i hi2 e.symm) (fun e => apart (.sub 67 (.sub 37 (.own 49))) (by simp) i hi2 e.symm)
theorem nSQ_mem {i : Id} (h : nSQ i) : i ∈ [w1, w2] := by rcases h with rfl | rfl <;> simp [w1, w2]
theorem nKN_mem {i : Id} (h : nKN i) : i ∈ [k1, k2] := by rcases h with rfl | rfl <;> simp [k1, k2]
theorem sq_name (h : PFr H gd gk gr qn A ga bn p r) {i : Id} (hi : nSQ i) : newName 76 (accOf (.sub 54 (.own 12)) A bn) i ∉ accOf (.sub 54 (.own 12)) A bn ∧ newName 76 (accOf (.sub 54 (.own 12)) A bn) i ∈ SB := by
  rcases h.hB with rfl | ⟨B, g, rfl, hb⟩
  · exact nm_sq A h.hA i (nSQ_mem hi)
  · exact nm_sq2 A h.hA B hb i (nSQ_mem hi)
theorem kn_name (h : PFr H gd gk gr qn A ga bn p r) {i : Id} (hi : nKN i) : newName 76 (accOf (.sub 54 (.own 12)) A bn) i ∉ accOf (.sub 54 (.own 12)) A bn ∧ newName 76 (accOf (.sub 54 (.own 12)) A bn) i ∈ SA := by
  rcases h.hB with rfl | ⟨B, g, rfl, hb⟩
  · exact nm_kn A h.hA i (nKN_mem hi)
  · exact nm_kn2 A h.hA B hb i (nKN_mem hi)
theorem PFr.notR (h : PFr H gd gk gr qn A ga bn p r) {i : Id} (hi : i ∈ [(.sub 16 (.own 15)), (.sub 16 (.own 13)), (.sub 67 (.sub 37 (.own 49)))]) : i ∉ accOf (.sub 54 (.own 12)) A bn := fun hj => apart i hi i (h.accR hj) rfl
set_option maxHeartbeats 2000000 in
/-- meant, in the law -/
theorem meantP (h : PFr H gd gk gr qn A ga bn p r) (hk : ROk r) {a : Act4} {Q : Out → Prop}
    (hQ : ∀ A' ga' bn' us rd, PFr (H.sets us) gd gk gr qn A' ga' bn' p (rmeant r a).1 → Q ⟨.tup [.str (rmeant r a).2.1, .int .i64 (rmeant r a).2.2], us, rd⟩) : wCall dcfg.pol (CallR dcfg) H 76 13 [.ptr (.sub 54 (.own 12)) gr 0, .agg (actV a)] Q := by
  have hm : argsIn H (dcfg.pol 13).modes [.ptr (.sub 54 (.own 12)) gr 0, .agg (actV a)] = some ([.ptr (.sub 54 (.own 12)) gr 0, .agg (actV a)], [], []) := by kernel_rfl
  have ho : (dcfg.pol 13).own = false := by kernel_rfl
  have hret : ∀ H' : Heap, retIn (dcfg.pol 13).own H' (.tup [.str (rmeant r a).2.1, .int .i64 (rmeant r a).2.2]) = some (.tup [.str (rmeant r a).2.1, .int .i64 (rmeant r a).2.2], []) := fun H' => by rw [ho]; rfl
  have hac : refsL [.agg (actV a)] = [] := by kernel_rfl
  by_cases k1' : kSQ r a
  · have nk : ¬ kKN r a := fun hh => by
      have := k1'.1
      rcases hh with hh | hh <;> omega
    refine rcall_sq (x := .tup [.str (rmeant r a).2.1, .int .i64 (rmeant r a).2.2]) (r2 := (rmeant r a).1) h.hR (rest := [.agg (actV a)]) (rd := []) hm hac (fun _ _ hh => by cases hh) hret rfl rfl (Pq := nSQ) (fun i hi => ?_) (fun Hin hI => ?_) (fun qa g' us rd' hqa hF hoth _ => ?_)
    · exact ⟨by rcases hi with rfl | rfl <;> simp, by rcases hi with rfl | rfl <;> rfl, (sq_name h hi).1⟩
    · exact meant_spec hI hk (fun hh => absurd k1' hh) (fun _ H' qa qg hq hO => ⟨rfl, qa, qg, hq, hO⟩) (fun hh => absurd hh nk)
    · obtain ⟨n1, n2⟩ := sq_name h hqa
      refine hQ A ga _ us rd' ⟨h.hP.other (fun i hi => ?_), h.hq, hF, h.hA, .inr ⟨_, _, rfl, n2⟩⟩
      have hi2 := h.accD hi
      exact hoth i (h.notR hi2) (fun e => apart i hi2 _ (List.mem_cons_of_mem _ (List.mem_append_right _ n2)) e)
  by_cases k2' : kKN r a
  · refine rcall_kn (x := .tup [.str (rmeant r a).2.1, .int .i64 (rmeant r a).2.2]) (r2 := (rmeant r a).1) h.hR (rest := [.agg (actV a)]) (rd := []) hm hac (fun _ _ hh => by cases hh) hret rfl rfl (Pk := nKN) (fun i hi => ?_) (fun Hin hI => ?_) (fun ka g' us rd' hka hF hoth _ _ => ?_)
    · exact ⟨by rcases hi with rfl | rfl <;> simp, by rcases hi with rfl | rfl <;> rfl, (kn_name h hi).1⟩
    · exact meant_spec hI hk (fun _ hh => absurd k2' hh) (fun hh => absurd hh k1') (fun _ H' ka kg hq hO => ⟨rfl, ka, kg, hq, hO⟩)
    · obtain ⟨n1, n2⟩ := kn_name h hka
      refine hQ _ g' none us rd' ⟨h.hP.other (fun i hi => ?_), h.hq, hF, n2, .inl rfl⟩
      have hi2 := h.accD hi
      exact hoth i (h.notR hi2) (fun e => apart i hi2 _ (List.mem_cons_of_mem _ (List.mem_append_left _ n2)) e)
  · refine rcall_ss (x := .tup [.str (rmeant r a).2.1, .int .i64 (rmeant r a).2.2]) (r2 := (rmeant r a).1) h.hR (rest := [.agg (actV a)]) (rd := []) hm hac (fun _ _ hh => by cases hh) hret rfl rfl (fun Hin hI => ?_) (fun us rd' hF hoth => ?_)
    · exact meant_spec hI hk (fun _ _ H' hO => ⟨rfl, hO⟩) (fun hh => absurd hh k1') (fun hh => absurd hh k2')
    · exact hQ A ga bn us rd' ⟨h.hP.other (fun i hi => hoth i (h.notR (h.accD hi))), h.hq, hF, h.hA, h.hB⟩
end
end Go.Proofs.Ytcamcfplcoklkaa.Iv

namespace Go.Proofs.Ytcamcfplcoklkaa.Iv
open Go
set_option linter.unusedVariables false
set_option linter.unusedSimpArgs false
set_option maxRecDepth 100000

theorem gcallL {pol : Nat → Pol} {cl : CallW} {H : Heap} {lg : Log} {k d f : Nat} {args : List V} {Q : V → Heap → Log → Prop} {b : Bool} (h : wCall pol cl H d f args (fun o => Q o.v (H.sets o.ups) ((k, o.rd, o.ups.map (·.1)) :: lg))) : guardL (.bool b) b H lg k (wCall pol cl H d f args) Q := by cases b <;> exact h
theorem bin_bneq {a b : Bool} : liftO (evBin Try.prog 4 .neq (.bool a) (.bool b)) = pureO (.bool (!(a == b))) := by cases a <;> cases b <;> kernel_rfl
theorem bin_rem8 {P : Program} {t : Nat} {i : Nat} (h : i ≤ 1000000) : liftO (evBin P t .rem (.int .i64 (i : Int)) (.int .i64 8)) = pureO (.int .i64 ((i % 8 : Nat) : Int)) := by
  have e : ((i : Int).tmod 8) = ((i % 8 : Nat) : Int) := by
    rw [Int.tmod_eq_emod_of_nonneg (by omega)]; omega
  have : IntKind.i64.wrap ((i % 8 : Nat) : Int) = ((i % 8 : Nat) : Int) := i64_wrap (by omega) (by omega)
  simp [evBin, evInt, liftO, e]
theorem notimg : ∀ i ∈ ALL, i ≠ (.sub 117 (.sub 9 (.own 7))) ∧ i ≠ (.sub 125 (.sub 9 (.own 7))) := by decide +kernel
theorem sk_ne {p : PD} {N : Nat} (hp : p.ok N) : p.ks ≠ [] := fun e => by have := hp.len; have := hp.pos; rw [e] at *; simp at *; omega
theorem sk_lt {p : PD} {N : Nat} (hp : p.ok N) : p.ks.length < 1048576 := by have := hp.len; have := hp.le; omega
set_option maxHeartbeats 4000000 in
/-- the images, compared -/
theorem plays_img {l : List Act4} {N gd gk gr : Nat} {H : Heap} {p : PD} {r : RD} {qn : Option (Id × Nat)} {A : Id} {ga : Nat} {bn : Option (Id × Nat)} {x8 : V} (hS : Sim p r N) (hF : PFr H gd gk gr qn A ga bn p r) {K : KQ}
    (hK : ∀ (H' : Heap) t2 t3 t6 t9 t10 t11 t12 t13 t14 t15 t16 t17 t18 t19 t20 t21 t22 t23 t24 t25 t26 t27 t28 t29 t30 t31 t32 t33 t34 t35 t36 t37 t38 t39 t40 t41 t42 t43 t44 t45 t46 t47 t48 t49 t50 t51 t52 t53 t54 t55 t56 t57 t58 t59 t60 t61 t62 t63 t64 t65 t66 t67 t68 t69 t70 t71 t72 t73 t74 t75 t76 t77 t78 t79 t80 t81 t82 t83 t84 t85 t86 t87 t88 t89 t90 t91 t92 t93 t94 t95 t96 t97 t98 t99 t100 t101 t102 t103 t104 t105 t106 t107 t108 t109 t110 t111 t112 t113 t114 t115 t116 t117 t118 t119 t120 t121 t122 t123 t124 t125 t126 t127 t128 t129 t130 t131 t132, PFr H' gd gk gr qn A ga bn p r → K .nrm [.int .i64 (N : Int), actsV l, t2, t3, .bool false, .ptr (.sub 16 (.own 15)) gd 0, t6, .ptr (.sub 54 (.own 12)) gr 0, x8, t9, t10, t11, t12, t13, t14, t15, t16, t17, t18, t19, t20, t21, t22, t23, t24, t25, t26, t27, t28, t29, t30, t31, t32, t33, t34, t35, t36, t37, t38, t39, t40, t41, t42, t43, t44, t45, t46, t47, t48, t49, t50, t51, t52, t53, t54, t55, t56, t57, t58, t59, t60, t61, t62, t63, t64, t65, t66, t67, t68, t69, t70, t71, t72, t73, t74, t75, t76, t77, t78, t79, t80, t81, t82, t83, t84, t85, t86, t87, t88, t89, t90, t91, t92, t93, t94, t95, t96, t97, t98, t99, t100, t101, t102, t103, t104, t105, t106, t107, t108, t109, t110, t111, t112, t113, t114, t115, t116, t117, t118, t119, t120, t121, t122, t123, t124, t125, t126, t127, t128, t129, t130, t131, t132] H') : ∀ t2 t3 t6 t9 t10 t11 t12 t13 t14 t15 t16 t17 t18 t19 t20 t21 t22 t23 t24 t25 t26 t27 t28 t29 t30 t31 t32 t33 t34 t35 t36 t37 t38 t39 t40 t41 t42 t43 t44 t45 t46 t47 t48 t49 t50 t51 t52 t53 t54 t55 t56 t57 t58 t59 t60 t61 t62 t63 t64 t65 t66 t67 t68 t69 t70 t71 t72 t73 t74 t75 t76 t77 t78 t79 t80 t81 t82 t83 t84 t85 t86 t87 t88 t89 t90 t91 t92 t93 t94 t95 t96 t97 t98 t99 t100 t101 t102 t103 t104 t105 t106 t107 t108 t109 t110 t111 t112 t113 t114 t115 t116 t117 t118 t119 t120 t121 t122 t123 t124 t125 t126 t127 t128 t129 t130 t131 t132, wC Try.prog dcfg.pol (CallR dcfg) (LoopR dcfg) c3_58 [.int .i64 (N : Int), actsV l, t2, t3, .bool false, .ptr (.sub 16 (.own 15)) gd 0, t6, .ptr (.sub 54 (.own 12)) gr 0, x8, t9, t10, t11, t12, t13, t14, t15, t16, t17, t18, t19, t20, t21, t22, t23, t24, t25, t26, t27, t28, t29, t30, t31, t32, t33, t34, t35, t36, t37, t38, t39, t40, t41, t42, t43, t44, t45, t46, t47, t48, t49, t50, t51, t52, t53, t54, t55, t56, t57, t58, t59, t60, t61, t62, t63, t64, t65, t66, t67, t68, t69, t70, t71, t72, t73, t74, t75, t76, t77, t78, t79, t80, t81, t82, t83, t84, t85, t86, t87, t88, t89, t90, t91, t92, t93, t94, t95, t96, t97, t98, t99, t100, t101, t102, t103, t104, t105, t106, t107, t108, t109, t110, t111, t112, t113, t114, t115, t116, t117, t118, t119, t120, t121, t122, t123, t124, t125, t126, t127, t128, t129, t130, t131, t132] H K := by
  intro t2 t3 t6 t9 t10 t11 t12 t13 t14 t15 t16 t17 t18 t19 t20 t21 t22 t23 t24 t25 t26 t27 t28 t29 t30 t31 t32 t33 t34 t35 t36 t37 t38 t39 t40 t41 t42 t43 t44 t45 t46 t47 t48 t49 t50 t51 t52 t53 t54 t55 t56 t57 t58 t59 t60 t61 t62 t63 t64 t65 t66 t67 t68 t69 t70 t71 t72 t73 t74 t75 t76 t77 t78 t79 t80 t81 t82 t83 t84 t85 t86 t87 t88 t89 t90 t91 t92 t93 t94 t95 t96 t97 t98 t99 t100 t101 t102 t103 t104 t105 t106 t107 t108 t109 t110 t111 t112 t113 t114 t115 t116 t117 t118 t119 t120 t121 t122 t123 t124 t125 t126 t127 t128 t129 t130 t131 t132
  have hrk := hS.rok
  simp only [w3_58, w3_59, w3_59_0, w3_60, w3_61, w3_62, w3_62_0, w3_63, w3_67, w3_68, w3_68_0, seqK]
  refine image_call (Q := fun o => _) hF.hP (sk_ne hS.ok) (sk_lt hS.ok) (fun gi => ?_)
  have hi1 : (Heap.sets H [((.sub 117 (.sub 9 (.own 7))), ⟨gi, cellsB p.ks, false, true⟩)]) (.sub 117 (.sub 9 (.own 7))) = some ⟨gi, cellsB p.ks, false, true⟩ := by simp [Heap.sets, Heap.set]
  have hF1 := hF.set (x := (.sub 117 (.sub 9 (.own 7)))) (b := ⟨gi, cellsB p.ks, false, true⟩) (fun i hi => (notimg i hi).1)
  generalize Heap.sets H [((.sub 117 (.sub 9 (.own 7))), ⟨gi, cellsB p.ks, false, true⟩)] = H1 at hi1 hF1 ⊢
  refine mkL0 (.sl (.sub 117 (.sub 9 (.own 7))) gi 0 p.ks.length 1 none) [] (by rfl) ?_
  try simp only [sets_nilE]
  refine mkL (.str (toStr p.ks)) [] [(.sub 117 (.sub 9 (.own 7)))] (conv_sl hi1) ?_
  refine mkL0 (.ptr (.sub 54 (.own 12)) gr 0) [] (by rfl) ?_
  try simp only [sets_nilE]
  refine rimage_call (Q := fun o => _) hF1.hR hrk.l2 hrk.k ?_
  rw [sim_image hS]
  refine mkL0 (.bool false) [] (by rw [bin_sneq]; simp) ?_
  refine ⟨by kernel_rfl, ?_⟩
  try simp only [sets_nilE]
  refine condF ?_
  obtain ⟨cs, hc⟩ := clear_sl (lim := none) hi1
  refine mk _ _ _ hc ?_
  exact hK _ _ _ _ _ _ _ _ _ _ _ _ _ _ _ _ _ _ _ _ _ _ _ _ _ _ _ _ _ _ _ _ _ _ _ _ _ _ _ _ _ _ _ _ _ _ _ _ _ _ _ _ _ _ _ _ _ _ _ _ _ _ _ _ _ _ _ _ _ _ _ _ _ _ _ _ _ _ _ _ _ _ _ _ _ _ _ _ _ _ _ _ _ _ _ _ _ _ _ _ _ _ _ _ _ _ _ _ _ _ _ _ _ _ _ _ _ _ _ _ _ _ _ _ _ _ _ _ (hF1.set (fun i hi => (notimg i hi).1))
set_option maxHeartbeats 16000000 in
/-- the loop of DiskPlays -/
theorem plays_loop {l : List Act4} {N gd gk gr : Nat} (hlen : l.length ≤ 200) (hbl : ∀ (j : Nat) a, l[j]? = some a → a.b.length ≤ 200) {Q : KQ}
    (hx : ∀ (H' : Heap) (p : PD) (r : RD) qn A ga bn t2 t3 t6 t8 t9 t10 t11 t12 t13 t14 t15 t16 t17 t18 t19 t20 t21 t22 t23 t24 t25 t26 t27 t28 t29 t30 t31 t32 t33 t34 t35 t36 t37 t38 t39 t40 t41 t42 t43 t44 t45 t46 t47 t48 t49 t50 t51 t52 t53 t54 t55 t56 t57 t58 t59 t60 t61 t62 t63 t64 t65 t66 t67 t68 t69 t70 t71 t72 t73 t74 t75 t76 t77 t78 t79 t80 t81 t82 t83 t84 t85 t86 t87 t88 t89 t90 t91 t92 t93 t94 t95 t96 t97 t98 t99 t100 t101 t102 t103 t104 t105 t106 t107 t108 t109 t110 t111 t112 t113 t114 t115 t116 t117 t118 t119 t120 t121 t122 t123 t124 t125 t126 t127 t128 t129 t130 t131 t132, Sim p r N → PFr H' gd gk gr qn A ga bn p r → Q (.exit 0) [.int .i64 (N : Int), actsV l, t2, t3, .bool false, .ptr (.sub 16 (.own 15)) gd 0, t6, .ptr (.sub 54 (.own 12)) gr 0, t8, t9, t10, t11, t12, t13, t14, t15, t16, t17, t18, t19, t20, t21, t22, t23, t24, t25, t26, t27, t28, t29, t30, t31, t32, t33, t34, t35, t36, t37, t38, t39, t40, t41, t42, t43, t44, t45, t46, t47, t48, t49, t50, t51, t52, t53, t54, t55, t56, t57, t58, t59, t60, t61, t62, t63, t64, t65, t66, t67, t68, t69, t70, t71, t72, t73, t74, t75, t76, t77, t78, t79, t80, t81, t82, t83, t84, t85, t86, t87, t88, t89, t90, t91, t92, t93, t94, t95, t96, t97, t98, t99, t100, t101, t102, t103, t104, t105, t106, t107, t108, t109, t110, t111, t112, t113, t114, t115, t116, t117, t118, t119, t120, t121, t122, t123, t124, t125, t126, t127, t128, t129, t130, t131, t132] H') :
    ∀ (k i : Nat), i + k = l.length → ∀ (H : Heap) (p : PD) (r : RD) qn A ga bn t2 t3 t6 t9 t10 t11 t12 t13 t14 t15 t16 t17 t18 t19 t20 t21 t22 t23 t24 t25 t26 t27 t28 t29 t30 t31 t32 t33 t34 t35 t36 t37 t38 t39 t40 t41 t42 t43 t44 t45 t46 t47 t48 t49 t50 t51 t52 t53 t54 t55 t56 t57 t58 t59 t60 t61 t62 t63 t64 t65 t66 t67 t68 t69 t70 t71 t72 t73 t74 t75 t76 t77 t78 t79 t80 t81 t82 t83 t84 t85 t86 t87 t88 t89 t90 t91 t92 t93 t94 t95 t96 t97 t98 t99 t100 t101 t102 t103 t104 t105 t106 t107 t108 t109 t110 t111 t112 t113 t114 t115 t116 t117 t118 t119 t120 t121 t122 t123 t124 t125 t126 t127 t128 t129 t130 t131 t132, Sim p r N → p.items.length ≤ i → PFr H gd gk gr qn A ga bn p r → LoopR dcfg c3_35 [.int .i64 (N : Int), actsV l, t2, t3, .bool false, .ptr (.sub 16 (.own 15)) gd 0, t6, .ptr (.sub 54 (.own 12)) gr 0, .int .i64 (i : Int), t9, t10, t11, t12, t13, t14, t15, t16, t17, t18, t19, t20, t21, t22, t23, t24, t25, t26, t27, t28, t29, t30, t31, t32, t33, t34, t35, t36, t37, t38, t39, t40, t41, t42, t43, t44, t45, t46, t47, t48, t49, t50, t51, t52, t53, t54, t55, t56, t57, t58, t59, t60, t61, t62, t63, t64, t65, t66, t67, t68, t69, t70, t71, t72, t73, t74, t75, t76, t77, t78, t79, t80, t81, t82, t83, t84, t85, t86, t87, t88, t89, t90, t91, t92, t93, t94, t95, t96, t97, t98, t99, t100, t101, t102, t103, t104, t105, t106, t107, t108, t109, t110, t111, t112, t113, t114, t115, t116, t117, t118, t119, t120, t121, t122, t123, t124, t125, t126, t127, t128, t129, t130, t131, t132] H Q := by
  intro k
  induction k with
  | zero =>
    intro i hi H p r qn A ga bn t2 t3 t6 t9 t10 t11 t12 t13 t14 t15 t16 t17 t18 t19 t20 t21 t22 t23 t24 t25 t26 t27 t28 t29 t30 t31 t32 t33 t34 t35 t36 t37 t38 t39 t40 t41 t42 t43 t44 t45 t46 t47 t48 t49 t50 t51 t52 t53 t54 t55 t56 t57 t58 t59 t60 t61 t62 t63 t64 t65 t66 t67 t68 t69 t70 t71 t72 t73 t74 t75 t76 t77 t78 t79 t80 t81 t82 t83 t84 t85 t86 t87 t88 t89 t90 t91 t92 t93 t94 t95 t96 t97 t98 t99 t100 t101 t102 t103 t104 t105 t106 t107 t108 t109 t110 t111 t112 t113 t114 t115 t116 t117 t118 t119 t120 t121 t122 t123 t124 t125 t126 t127 t128 t129 t130 t131 t132 hS hil hF
    refine LoopR.step ?_
    show wC Try.prog dcfg.pol (CallR dcfg) (LoopR dcfg) c3_35 _ H _
    have h1 : decide (((i : Nat) : Int) < (((l.map actV).length : Nat) : Int)) = false := by simp; omega
    simp only [w3_35, w3_36, w3_37, w3_37_0, w3_38, w3_39, w3_40, seqK, len22]
    refine mk0 _ (by simp only [actsV, lenS]; rfl) ?_
    refine mk0 _ (by rw [bin_lss, h1]) ?_
    refine condF ?_
    exact hx H p r qn A ga bn _ _ _ _ _ _ _ _ _ _ _ _ _ _ _ _ _ _ _ _ _ _ _ _ _ _ _ _ _ _ _ _ _ _ _ _ _ _ _ _ _ _ _ _ _ _ _ _ _ _ _ _ _ _ _ _ _ _ _ _ _ _ _ _ _ _ _ _ _ _ _ _ _ _ _ _ _ _ _ _ _ _ _ _ _ _ _ _ _ _ _ _ _ _ _ _ _ _ _ _ _ _ _ _ _ _ _ _ _ _ _ _ _ _ _ _ _ _ _ _ _ _ _ _ _ _ _ _ hS hF
  | succ k ih =>
    intro i hi H p r qn A ga bn t2 t3 t6 t9 t10 t11 t12 t13 t14 t15 t16 t17 t18 t19 t20 t21 t22 t23 t24 t25 t26 t27 t28 t29 t30 t31 t32 t33 t34 t35 t36 t37 t38 t39 t40 t41 t42 t43 t44 t45 t46 t47 t48 t49 t50 t51 t52 t53 t54 t55 t56 t57 t58 t59 t60 t61 t62 t63 t64 t65 t66 t67 t68 t69 t70 t71 t72 t73 t74 t75 t76 t77 t78 t79 t80 t81 t82 t83 t84 t85 t86 t87 t88 t89 t90 t91 t92 t93 t94 t95 t96 t97 t98 t99 t100 t101 t102 t103 t104 t105 t106 t107 t108 t109 t110 t111 t112 t113 t114 t115 t116 t117 t118 t119 t120 t121 t122 t123 t124 t125 t126 t127 t128 t129 t130 t131 t132 hS hil hF
    refine LoopR.step ?_
    show wC Try.prog dcfg.pol (CallR dcfg) (LoopR dcfg) c3_35 _ H _
    have h1 : decide (((i : Nat) : Int) < (((l.map actV).length : Nat) : Int)) = true := by simp; omega
    simp only [w3_35, w3_36, w3_37, w3_37_0, w3_38, w3_39, w3_40, w3_41, w3_42, w3_43, w3_44, w3_44_0, w3_45, w3_46, w3_46_0, seqK, blockK, len22, ia22, ld36]
    refine mk0 _ (by simp only [actsV, lenS]; rfl) ?_
    refine mk0 _ (by rw [bin_lss, h1]) ?_
    refine condT ?_
    have hlt : i < l.length := by omega
    have hg : (l.map actV)[i]? = some (actV l[i]) := by simp [hlt]
    have hb := hbl i l[i] (by simp [hlt])
    have hia : iaR 4 (actsV l) (.int .i64 (i : Int)) = pureO (.fptr (actV l[i]) false) := ia_list hg (by rfl) (by decide)
    have hld : ∀ H : Heap, ldR 4 true H (.fptr (actV l[i]) false) = pureO (.agg (actV l[i])) := fun H => by rfl
    generalize l[i] = a at hb hia hld
    refine mk0 _ hia ?_
    refine mk0 _ (hld _) ?_
    refine didP (Q := fun o => _) hF hS.ok (by omega) (fun qn1 us1 rd1 hF1 => ?_)
    generalize H.sets us1 = H1 at hF1 ⊢
    refine mk0 (.str (toStr (p.did a).2.1)) (by rfl) ?_
    refine mk0 (.int .i64 (p.did a).2.2) (by rfl) ?_
    refine mk0 _ hia ?_
    refine mk0 _ (hld _) ?_
    refine meantP (Q := fun o => _) hF1 hS.rok (fun A1 ga1 bn1 us2 rd2 hF2 => ?_)
    generalize H1.sets us2 = H2 at hF2 ⊢
    refine mk0 (.str (rmeant r a).2.1) (by rfl) ?_
    refine mk0 (.int .i64 (rmeant r a).2.2) (by rfl) ?_
    obtain ⟨hS2, hs1, hs2⟩ := sim_did hS (by omega) a
    have hpo := hS.ok.did (by omega) a
    rw [hs1, hs2]
    generalize (rmeant r a).2.1 = rs
    generalize (rmeant r a).2.2 = re
    have hil2 : (p.did a).1.items.length ≤ i + 1 := by omega
    clear hs1 hs2 hpo
    generalize (p.did a).1 = p2 at hF2 hS2 hil2
    generalize (rmeant r a).1 = r2 at hF2 hS2
    have hql : p2.items.length = r2.queue.length := by rw [hS2.q]; simp
    simp only [w3_47, w3_48, w3_49, w3_49_0c, w3_49_0, w3_49_12c, w3_49_12, w3_49_24, w3_50, seqK, fa41_1, fa41_4, ld39, ld4, len39]
    refine mkL0 (.str rs) [] (by rfl) ?_
    refine mkL0 (.str rs) [] (by rfl) ?_
    refine mkL0 (.bool false) [] (by rw [bin_sneq]; simp) ?_
    refine mkL0 (.bool false) [] (by rfl) ?_
    refine gpL ?_
    refine gpL ?_
    try simp only [sets_nilE]
    refine gyL (.bool false) [] [] (by rw [bin_neq]; simp) ?_
    refine mkL0 (.bool false) [] (by rfl) ?_
    refine mkL0 (.bool false) [] (by rfl) ?_
    refine gpL ?_
    refine gcallL ?_
    try simp only [sets_nilE]
    refine pending_call (Q := fun o => _) hF2.hP ?_
    refine gpL ?_
    try simp only [sets_nilE]
    refine gyL (.ptr (.sub 54 (.own 12)) gr 0) [] [] (by rfl) ?_
    refine gyL (.ptr (.sub 54 (.own 12)) gr (0 + 1)) [] [] (by rfl) ?_
    try simp only [sets_nilE]
    refine gyL (rq bn1 r2.queue.length) [] [(.sub 54 (.own 12))] (ld_cell (j := 0 + 1) hF2.hR.hR (by rfl)) ?_
    refine gyL (.int .i64 (r2.queue.length : Int)) [] [] (rq_len hF2.hR) ?_
    refine gyL (.bool false) [] [] (by rw [bin_neq, hql]; simp) ?_
    refine mkL0 (.bool false) [] (by rfl) ?_
    refine mkL0 (.bool false) [] (by rfl) ?_
    refine gpL ?_
    refine gcallL ?_
    try simp only [sets_nilE]
    refine dark_call (Q := fun o => _) hF2.hP (fun rd3 => ?_)
    refine gpL ?_
    try simp only [sets_nilE]
    refine gyL (.ptr (.sub 54 (.own 12)) gr 0) [] [] (by rfl) ?_
    refine gyL (.ptr (.sub 54 (.own 12)) gr (0 + 4)) [] [] (by rfl) ?_
    try simp only [sets_nilE]
    refine gyL (.bool r2.dark) [] [(.sub 54 (.own 12))] (ld_cell (j := 0 + 4) hF2.hR.hR (by rfl)) ?_
    refine gyL (.bool false) [] [] (by rw [bin_bneq, hS2.d]; simp) ?_
    refine mkL0 (.bool false) [] (by rfl) ?_
    refine ⟨by kernel_rfl, ?_⟩
    try simp only [sets_nilE]
    refine condF ?_
    simp only [w3_54, w3_55, w3_56, w3_56_0, w3_57, w3_70, w3_70_0, seqK, len22]
    refine mk0 _ (bin_rem8 (by omega)) ?_
    refine mk0 _ (bin_eql ..) ?_
    have last : ∀ (H3 : Heap) t2 t3 t6 t9 t10 t11 t12 t13 t14 t15 t16 t17 t18 t19 t20 t21 t22 t23 t24 t25 t26 t27 t28 t29 t30 t31 t32 t33 t34 t35 t36 t37 t38 t39 t40 t41 t42 t43 t44 t45 t46 t47 t48 t49 t50 t51 t52 t53 t54 t55 t56 t57 t58 t59 t60 t61 t62 t63 t64 t65 t66 t67 t68 t69 t70 t71 t72 t73 t74 t75 t76 t77 t78 t79 t80 t81 t82 t83 t84 t85 t86 t87 t88 t89 t90 t91 t92 t93 t94 t95 t96 t97 t98 t99 t100 t101 t102 t103 t104 t105 t106 t107 t108 t109 t110 t111 t112 t113 t114 t115 t116 t117 t118 t119 t120 t121 t122 t123 t124 t125 t126 t127 t128 t129 t130 t131 t132, PFr H3 gd gk gr qn1 A1 ga1 bn1 p2 r2 → LoopR dcfg c3_35 [.int .i64 (N : Int), actsV l, t2, t3, .bool false, .ptr (.sub 16 (.own 15)) gd 0, t6, .ptr (.sub 54 (.own 12)) gr 0, .int .i64 ((i : Int) + 1), t9, t10, t11, t12, t13, t14, t15, t16, t17, t18, t19, t20, t21, t22, t23, t24, t25, t26, t27, t28, t29, t30, t31, t32, t33, t34, t35, t36, t37, t38, t39, t40, t41, t42, t43, t44, t45, t46, t47, t48, t49, t50, t51, t52, t53, t54, t55, t56, t57, t58, t59, t60, t61, t62, t63, t64, t65, t66, t67, t68, t69, t70, t71, t72, t73, t74, t75, t76, t77, t78, t79, t80, t81, t82, t83, t84, t85, t86, t87, t88, t89, t90, t91, t92, t93, t94, t95, t96, t97, t98, t99, t100, t101, t102, t103, t104, t105, t106, t107, t108, t109, t110, t111, t112, t113, t114, t115, t116, t117, t118, t119, t120, t121, t122, t123, t124, t125, t126, t127, t128, t129, t130, t131, t132] H3 Q := fun H3 t2 t3 t6 t9 t10 t11 t12 t13 t14 t15 t16 t17 t18 t19 t20 t21 t22 t23 t24 t25 t26 t27 t28 t29 t30 t31 t32 t33 t34 t35 t36 t37 t38 t39 t40 t41 t42 t43 t44 t45 t46 t47 t48 t49 t50 t51 t52 t53 t54 t55 t56 t57 t58 t59 t60 t61 t62 t63 t64 t65 t66 t67 t68 t69 t70 t71 t72 t73 t74 t75 t76 t77 t78 t79 t80 t81 t82 t83 t84 t85 t86 t87 t88 t89 t90 t91 t92 t93 t94 t95 t96 t97 t98 t99 t100 t101 t102 t103 t104 t105 t106 t107 t108 t109 t110 t111 t112 t113 t114 t115 t116 t117 t118 t119 t120 t121 t122 t123 t124 t125 t126 t127 t128 t129 t130 t131 t132 hF3 => by
      have := ih (i + 1) (by omega) H3 p2 r2 qn1 A1 ga1 bn1 t2 t3 t6 t9 t10 t11 t12 t13 t14 t15 t16 t17 t18 t19 t20 t21 t22 t23 t24 t25 t26 t27 t28 t29 t30 t31 t32 t33 t34 t35 t36 t37 t38 t39 t40 t41 t42 t43 t44 t45 t46 t47 t48 t49 t50 t51 t52 t53 t54 t55 t56 t57 t58 t59 t60 t61 t62 t63 t64 t65 t66 t67 t68 t69 t70 t71 t72 t73 t74 t75 t76 t77 t78 t79 t80 t81 t82 t83 t84 t85 t86 t87 t88 t89 t90 t91 t92 t93 t94 t95 t96 t97 t98 t99 t100 t101 t102 t103 t104 t105 t106 t107 t108 t109 t110 t111 t112 t113 t114 t115 t116 t117 t118 t119 t120 t121 t122 t123 t124 t125 t126 t127 t128 t129 t130 t131 t132 hS2 hil2 hF3
      exact this
    by_cases h8 : ((i % 8 : Nat) : Int) = 0
    · have e : (((i % 8 : Nat) : Int) == 0) = true := by simpa using h8
      rw [e]
      repeat (first | refine gnt ?_ | refine gnu ?_)
      refine mk0 (.bool true) (by rfl) ?_
      refine condT ?_
      refine plays_img hS2 hF2 (fun H3 t2 t3 t6 t9 t10 t11 t12 t13 t14 t15 t16 t17 t18 t19 t20 t21 t22 t23 t24 t25 t26 t27 t28 t29 t30 t31 t32 t33 t34 t35 t36 t37 t38 t39 t40 t41 t42 t43 t44 t45 t46 t47 t48 t49 t50 t51 t52 t53 t54 t55 t56 t57 t58 t59 t60 t61 t62 t63 t64 t65 t66 t67 t68 t69 t70 t71 t72 t73 t74 t75 t76 t77 t78 t79 t80 t81 t82 t83 t84 t85 t86 t87 t88 t89 t90 t91 t92 t93 t94 t95 t96 t97 t98 t99 t100 t101 t102 t103 t104 t105 t106 t107 t108 t109 t110 t111 t112 t113 t114 t115 t116 t117 t118 t119 t120 t121 t122 t123 t124 t125 t126 t127 t128 t129 t130 t131 t132 hF3 => ?_) _ _ _ _ _ _ _ _ _ _ _ _ _ _ _ _ _ _ _ _ _ _ _ _ _ _ _ _ _ _ _ _ _ _ _ _ _ _ _ _ _ _ _ _ _ _ _ _ _ _ _ _ _ _ _ _ _ _ _ _ _ _ _ _ _ _ _ _ _ _ _ _ _ _ _ _ _ _ _ _ _ _ _ _ _ _ _ _ _ _ _ _ _ _ _ _ _ _ _ _ _ _ _ _ _ _ _ _ _ _ _ _ _ _ _ _ _ _ _ _ _ _ _ _ _ _ _
      simp only [w3_70, w3_70_0, seqK, blockK]
      refine mk0 _ (bin_add (by omega) (by omega)) ?_
      exact last H3 _ _ _ _ _ _ _ _ _ _ _ _ _ _ _ _ _ _ _ _ _ _ _ _ _ _ _ _ _ _ _ _ _ _ _ _ _ _ _ _ _ _ _ _ _ _ _ _ _ _ _ _ _ _ _ _ _ _ _ _ _ _ _ _ _ _ _ _ _ _ _ _ _ _ _ _ _ _ _ _ _ _ _ _ _ _ _ _ _ _ _ _ _ _ _ _ _ _ _ _ _ _ _ _ _ _ _ _ _ _ _ _ _ _ _ _ _ _ _ _ _ _ _ _ _ _ _ hF3
    · have e : (((i % 8 : Nat) : Int) == 0) = false := by simpa using h8
      rw [e]
      refine gp (gy0 _ (bin_add (by omega) (by omega)) (gp (gy0 (.int .i64 (l.length : Int)) (by simp [actsV, lenS]) (gy0 _ (bin_eql ..) ?_))))
      refine mk0 (.bool ((i : Int) + 1 == (l.length : Int))) (by rfl) ?_
      try simp only [sets_nilE]
      cases hc : ((i : Int) + 1 == (l.length : Int)) with
      | true =>
        refine condT ?_
        refine plays_img hS2 hF2 (fun H3 t2 t3 t6 t9 t10 t11 t12 t13 t14 t15 t16 t17 t18 t19 t20 t21 t22 t23 t24 t25 t26 t27 t28 t29 t30 t31 t32 t33 t34 t35 t36 t37 t38 t39 t40 t41 t42 t43 t44 t45 t46 t47 t48 t49 t50 t51 t52 t53 t54 t55 t56 t57 t58 t59 t60 t61 t62 t63 t64 t65 t66 t67 t68 t69 t70 t71 t72 t73 t74 t75 t76 t77 t78 t79 t80 t81 t82 t83 t84 t85 t86 t87 t88 t89 t90 t91 t92 t93 t94 t95 t96 t97 t98 t99 t100 t101 t102 t103 t104 t105 t106 t107 t108 t109 t110 t111 t112 t113 t114 t115 t116 t117 t118 t119 t120 t121 t122 t123 t124 t125 t126 t127 t128 t129 t130 t131 t132 hF3 => ?_) _ _ _ _ _ _ _ _ _ _ _ _ _ _ _ _ _ _ _ _ _ _ _ _ _ _ _ _ _ _ _ _ _ _ _ _ _ _ _ _ _ _ _ _ _ _ _ _ _ _ _ _ _ _ _ _ _ _ _ _ _ _ _ _ _ _ _ _ _ _ _ _ _ _ _ _ _ _ _ _ _ _ _ _ _ _ _ _ _ _ _ _ _ _ _ _ _ _ _ _ _ _ _ _ _ _ _ _ _ _ _ _ _ _ _ _ _ _ _ _ _ _ _ _ _ _ _
        simp only [w3_70, w3_70_0, seqK, blockK]
        refine mk0 _ (bin_add (by omega) (by omega)) ?_
        exact last H3 _ _ _ _ _ _ _ _ _ _ _ _ _ _ _ _ _ _ _ _ _ _ _ _ _ _ _ _ _ _ _ _ _ _ _ _ _ _ _ _ _ _ _ _ _ _ _ _ _ _ _ _ _ _ _ _ _ _ _ _ _ _ _ _ _ _ _ _ _ _ _ _ _ _ _ _ _ _ _ _ _ _ _ _ _ _ _ _ _ _ _ _ _ _ _ _ _ _ _ _ _ _ _ _ _ _ _ _ _ _ _ _ _ _ _ _ _ _ _ _ _ _ _ _ _ _ _ hF3
      | false =>
        refine condF ?_
        simp only [w3_69, w3_70, w3_70_0, seqK, blockK]
        refine mk0 _ (bin_add (by omega) (by omega)) ?_
        exact last H2 _ _ _ _ _ _ _ _ _ _ _ _ _ _ _ _ _ _ _ _ _ _ _ _ _ _ _ _ _ _ _ _ _ _ _ _ _ _ _ _ _ _ _ _ _ _ _ _ _ _ _ _ _ _ _ _ _ _ _ _ _ _ _ _ _ _ _ _ _ _ _ _ _ _ _ _ _ _ _ _ _ _ _ _ _ _ _ _ _ _ _ _ _ _ _ _ _ _ _ _ _ _ _ _ _ _ _ _ _ _ _ _ _ _ _ _ _ _ _ _ _ _ _ _ _ _ _ hF2
end Go.Proofs.Ytcamcfplcoklkaa.Iv

namespace Go.Proofs.Ytcamcfplcoklkaa.Iv
open Go
set_option linter.unusedVariables false
set_option linter.unusedSimpArgs false
set_option maxRecDepth 100000

theorem new_bad {H : Heap} {d : Nat} {k : Int} (hb : k < 1 ∨ k > 4096) {Q : Out → Prop} (hQ : Q ⟨.tup [.nilp, .int .i64 1], [], []⟩) : wCall dcfg.pol (CallR dcfg) H d 7 [.int .i64 k] Q := by
  have e1 : callPre dcfg.pol H 7 [.int .i64 k] = some ⟨[.int .i64 k], fun _ => none, [], [], []⟩ := by kernel_rfl
  unfold wCall
  rw [e1]
  have e2 : ∀ H' : Heap, callPost dcfg.pol H d 7 ⟨[.int .i64 k], fun _ => none, [], [], []⟩ (.tup [.nilp, .int .i64 1]) H' = some ⟨.tup [.nilp, .int .i64 1], [], []⟩ := fun H' => by kernel_rfl
  have fin : ∀ H' : Heap, outW (callPost dcfg.pol H d 7 ⟨[.int .i64 k], fun _ => none, [], [], []⟩ (.tup [.nilp, .int .i64 1]) H') Q := fun H' => by rw [e2]; exact hQ
  refine CallR.body' (K := dcfg) (f := 7) (fn := Try.f7) (c := c7_0) (env := [.int .i64 k, .und, .und, .und, .und, .und, .und, .und, .und, .und, .und, .und, .und, .und, .und, .und]) (rs := [.tmp 2, .tmp 3]) rfl (by kernel_rfl) (by kernel_rfl) (by kernel_rfl) (by kernel_rfl) (by kernel_rfl) (by kernel_rfl) ?_
  show wC Try.prog dcfg.pol (CallR dcfg) (LoopR dcfg) c7_0 _ _ (wRes Try.prog _ _)
  simp only [w7_0, w7_1, w7_1_0, w7_2, w7_3, w7_4, w7_4_0, w7_5, w7_6, w7_7, w7_7_0, w7_8, seqK]
  refine mk0 _ (bin_lss ..) ?_
  by_cases h1 : k < 1
  · rw [decide_eq_true h1]
    repeat (first | refine gnt ?_ | refine gnu ?_)
    refine mk0 (.bool true) (by rfl) ?_
    refine condT ?_
    exact fin (fun _ => none)
  · rw [decide_eq_false h1]
    refine gp (gy0 (.bool true) (by rw [bin_gtr, decide_eq_true (by omega)]) (mk0 (.bool true) (by rfl) ?_))
    refine condT ?_
    exact fin (fun _ => none)
theorem secOf_new {N : Nat} (h : N ≤ 4096) : secOf (cellsB (PD.new N).ks) = N := by
  have e : (bytesL (PD.new N).ks).length = N * 64 := by simp [bytesL, PD.new]
  unfold secOf
  rw [chunk_b]
  unfold secs
  rw [e]
  have e2 : (((N * 64 : Nat) : Int).tdiv 64) = N := by
    rw [show ((N * 64 : Nat) : Int) = (N : Int) * 64 by omega]
    exact Int.mul_tdiv_cancel _ (by omega)
  rw [e2, i64_wrap (by omega) (by omega)]
theorem plays_log : ∀ A ∈ SA, ∀ b : List Id, (b = [] ∨ ∃ B ∈ SB, b = [B]) → ∀ q : List Id, (q = [] ∨ q = [(.sub 67 (.sub 37 (.own 49)))]) →
    logOk o3_72 [(9, [], []), (8, [], []), (7, [], []), (6, [], []), (5, [], []), (4, (.sub 54 (.own 12)) :: A :: b, []), (3, [], []), (2, [(.sub 125 (.sub 9 (.own 7)))], []), (1, (.sub 16 (.own 15)) :: (.sub 16 (.own 13)) :: q ++ [] ++ [(.sub 125 (.sub 9 (.own 7)))], [(.sub 125 (.sub 9 (.own 7)))]), (0, [], [])] = true := by
  intro A hA b hb q hq
  simp only [SA, k1, k2, List.mem_cons, List.not_mem_nil, or_false] at hA
  simp only [SB, w1, w2, List.mem_cons, List.not_mem_nil, or_false] at hb
  rcases hq with rfl | rfl
  · rcases hb with rfl | ⟨B, hb, rfl⟩
    · rcases hA with rfl | rfl | rfl | rfl | rfl <;> kernel_rfl
    · rcases hA with rfl | rfl | rfl | rfl | rfl <;> rcases hb with rfl | rfl | rfl | rfl <;> kernel_rfl
  · rcases hb with rfl | ⟨B, hb, rfl⟩
    · rcases hA with rfl | rfl | rfl | rfl | rfl <;> kernel_rfl
    · rcases hA with rfl | rfl | rfl | rfl | rfl <;> rcases hb with rfl | rfl | rfl | rfl <;> kernel_rfl
theorem long_call {l : List Act4} (hlen : l.length ≤ 9223372036854775807) {H : Heap} {d : Nat} {Q : Out → Prop} (hq : ∀ b, (b = false → l.length ≤ 200 ∧ ∀ (j : Nat) a, l[j]? = some a → a.b.length ≤ 200) → Q ⟨.bool b, [], []⟩) : wCall dcfg.pol (CallR dcfg) H d 10 [actsV l] Q := by
  have e1 : callPre dcfg.pol H 10 [actsV l] = some ⟨[actsV l], fun _ => none, [], [], []⟩ := by kernel_rfl
  unfold wCall
  rw [e1]
  refine long_ok hlen (fun b hb => ?_)
  have e2 : callPost dcfg.pol H d 10 ⟨[actsV l], fun _ => none, [], [], []⟩ (.bool b) (fun _ => none) = some ⟨.bool b, [], []⟩ := by kernel_rfl
  show outW (callPost dcfg.pol H d 10 ⟨[actsV l], fun _ => none, [], [], []⟩ (.bool b) (fun _ => none)) Q
  rw [e2]
  exact hq b hb
set_option maxHeartbeats 8000000 in
/-- DiskPlays, behind its loop -/
theorem plays_end {l : List Act4} {N gd gk gr : Nat} {H : Heap} {p : PD} {r : RD} {qn : Option (Id × Nat)} {A : Id} {ga : Nat} {bn : Option (Id × Nat)} (hS : Sim p r N) (hF : PFr H gd gk gr qn A ga bn p r) : ∀ t2 t3 t6 t8 t9 t10 t11 t12 t13 t14 t15 t16 t17 t18 t19 t20 t21 t22 t23 t24 t25 t26 t27 t28 t29 t30 t31 t32 t33 t34 t35 t36 t37 t38 t39 t40 t41 t42 t43 t44 t45 t46 t47 t48 t49 t50 t51 t52 t53 t54 t55 t56 t57 t58 t59 t60 t61 t62 t63 t64 t65 t66 t67 t68 t69 t70 t71 t72 t73 t74 t75 t76 t77 t78 t79 t80 t81 t82 t83 t84 t85 t86 t87 t88 t89 t90 t91 t92 t93 t94 t95 t96 t97 t98 t99 t100 t101 t102 t103 t104 t105 t106 t107 t108 t109 t110 t111 t112 t113 t114 t115 t116 t117 t118 t119 t120 t121 t122 t123 t124 t125 t126 t127 t128 t129 t130 t131 t132, wC Try.prog dcfg.pol (CallR dcfg) (LoopR dcfg) c3_71 [.int .i64 (N : Int), actsV l, t2, t3, .bool false, .ptr (.sub 16 (.own 15)) gd 0, t6, .ptr (.sub 54 (.own 12)) gr 0, t8, t9, t10, t11, t12, t13, t14, t15, t16, t17, t18, t19, t20, t21, t22, t23, t24, t25, t26, t27, t28, t29, t30, t31, t32, t33, t34, t35, t36, t37, t38, t39, t40, t41, t42, t43, t44, t45, t46, t47, t48, t49, t50, t51, t52, t53, t54, t55, t56, t57, t58, t59, t60, t61, t62, t63, t64, t65, t66, t67, t68, t69, t70, t71, t72, t73, t74, t75, t76, t77, t78, t79, t80, t81, t82, t83, t84, t85, t86, t87, t88, t89, t90, t91, t92, t93, t94, t95, t96, t97, t98, t99, t100, t101, t102, t103, t104, t105, t106, t107, t108, t109, t110, t111, t112, t113, t114, t115, t116, t117, t118, t119, t120, t121, t122, t123, t124, t125, t126, t127, t128, t129, t130, t131, t132] H (wRes Try.prog [.tmp 4] fun r _ => r = .bool true) := by
  intro t2 t3 t6 t8 t9 t10 t11 t12 t13 t14 t15 t16 t17 t18 t19 t20 t21 t22 t23 t24 t25 t26 t27 t28 t29 t30 t31 t32 t33 t34 t35 t36 t37 t38 t39 t40 t41 t42 t43 t44 t45 t46 t47 t48 t49 t50 t51 t52 t53 t54 t55 t56 t57 t58 t59 t60 t61 t62 t63 t64 t65 t66 t67 t68 t69 t70 t71 t72 t73 t74 t75 t76 t77 t78 t79 t80 t81 t82 t83 t84 t85 t86 t87 t88 t89 t90 t91 t92 t93 t94 t95 t96 t97 t98 t99 t100 t101 t102 t103 t104 t105 t106 t107 t108 t109 t110 t111 t112 t113 t114 t115 t116 t117 t118 t119 t120 t121 t122 t123 t124 t125 t126 t127 t128 t129 t130 t131 t132
  have hrk := hS.rok
  simp only [w3_71, w3_72, w3_72_0, w3_73, seqK]
  refine mkL0 (.ptr (.sub 16 (.own 15)) gd 0) [] (by rfl) ?_
  refine image_call (Q := fun o => _) hF.hP (sk_ne hS.ok) (sk_lt hS.ok) (fun gi => ?_)
  have hi1 : (Heap.sets H [((.sub 125 (.sub 9 (.own 7))), ⟨gi, cellsB p.ks, false, true⟩)]) (.sub 125 (.sub 9 (.own 7))) = some ⟨gi, cellsB p.ks, false, true⟩ := by simp [Heap.sets, Heap.set]
  have hF1 := hF.set (x := (.sub 125 (.sub 9 (.own 7)))) (b := ⟨gi, cellsB p.ks, false, true⟩) (fun i hi => (notimg i hi).2)
  generalize Heap.sets H [((.sub 125 (.sub 9 (.own 7))), ⟨gi, cellsB p.ks, false, true⟩)] = H1 at hi1 hF1 ⊢
  refine mkL (.str (toStr p.ks)) [] [(.sub 125 (.sub 9 (.own 7)))] (conv_sl hi1) ?_
  refine mkL0 (.ptr (.sub 54 (.own 12)) gr 0) [] (by rfl) ?_
  try simp only [sets_nilE]
  refine rimage_call (Q := fun o => _) hF1.hR hrk.l2 hrk.k ?_
  rw [sim_image hS]
  refine mkL0 (.bool true) [] (by rw [bin_seql]; simp) ?_
  refine mkL0 (.bool true) [] (by rfl) ?_
  refine gcallL ?_
  refine awake_call (Q := fun o => _) ?_
  refine mkL0 (.bool true) [] (by rfl) ?_
  refine mkL0 (.bool true) [] (by rfl) ?_
  have hb : rqRd bn = [] ∨ ∃ B ∈ SB, rqRd bn = [B] := by
    rcases hF.hB with e | ⟨B, g, e, hb⟩
    · rw [e]; exact .inl rfl
    · rw [e]; exact .inr ⟨B, hb, rfl⟩
  have hq : qRd qn = [] ∨ qRd qn = [(.sub 67 (.sub 37 (.own 49)))] := by
    rcases hF.hq with e | ⟨g, e⟩
    · rw [e]; exact .inl rfl
    · rw [e]; exact .inr rfl
  exact ⟨plays_log A hF.hA (rqRd bn) hb (qRd qn) hq, rfl⟩
set_option maxHeartbeats 16000000 in
/-- DiskPlays answers true -/
theorem plays {l : List Act4} (hlen : l.length ≤ 9223372036854775807) (k : Int) : CallR dcfg 3 [.int .i64 k, actsV l] (fun _ => none) (fun r _ => r = .bool true) := by
  refine CallR.body' (K := dcfg) (f := 3) (fn := Try.f3) (c := c3_0) (env := [.int .i64 k, actsV l, .und, .und, .und, .und, .und, .und, .und, .und, .und, .und, .und, .und, .und, .und, .und, .und, .und, .und, .und, .und, .und, .und, .und, .und, .und, .und, .und, .und, .und, .und, .und, .und, .und, .und, .und, .und, .und, .und, .und, .und, .und, .und, .und, .und, .und, .und, .und, .und, .und, .und, .und, .und, .und, .und, .und, .und, .und, .und, .und, .und, .und, .und, .und, .und, .und, .und, .und, .und, .und, .und, .und, .und, .und, .und, .und, .und, .und, .und, .und, .und, .und, .und, .und, .und, .und, .und, .und, .und, .und, .und, .und, .und, .und, .und, .und, .und, .und, .und, .und, .und, .und, .und, .und, .und, .und, .und, .und, .und, .und, .und, .und, .und, .und, .und, .und, .und, .und, .und, .und, .und, .und, .und, .und, .und, .und, .und, .und, .und, .und, .und, .und]) (rs := [.tmp 4]) rfl (by kernel_rfl) (by kernel_rfl) (by kernel_rfl) (by kernel_rfl) (by kernel_rfl) (by kernel_rfl) ?_
  show wC Try.prog dcfg.pol (CallR dcfg) (LoopR dcfg) c3_0 _ _ (wRes Try.prog _ _)
  simp only [w3_0, w3_1, w3_1_0, w3_2, w3_3, w3_3_0, w3_4, w3_5, w3_6, w3_6_0, w3_7, seqK]
  by_cases hb : k < 1 ∨ k > 4096
  · refine new_bad (Q := fun o => _) hb ?_
    refine mk0 .nilp (by rfl) ?_
    refine mk0 (.int .i64 1) (by rfl) ?_
    refine mk0 _ (bin_lss ..) ?_
    have body : ∀ (x : Prop), x → x := fun _ h => h
    simp only [w3_8, w3_9, w3_9_0, w3_10, seqK]
    by_cases h1 : k < 1
    · rw [decide_eq_true h1]
      repeat (first | refine gnt ?_ | refine gnu ?_)
      refine mk0 (.bool true) (by rfl) ?_
      refine condT ?_
      refine mk0 (.bool true) (by kernel_rfl) ?_
      refine gp (gy0 (.bool true) (by rfl) ?_)
      refine mk0 (.bool true) (by rfl) ?_
      refine gcall ?_
      refine awake_call (Q := fun o => _) ?_
      refine mk0 (.bool true) (by rfl) ?_
      rfl
    · rw [decide_eq_false h1]
      refine gp (gy0 (.bool true) (by rw [bin_gtr, decide_eq_true (by omega)]) (mk0 (.bool true) (by rfl) ?_))
      refine condT ?_
      refine mk0 (.bool true) (by kernel_rfl) ?_
      refine gp (gy0 (.bool true) (by rfl) ?_)
      refine mk0 (.bool true) (by rfl) ?_
      refine gcall ?_
      refine awake_call (Q := fun o => _) ?_
      refine mk0 (.bool true) (by rfl) ?_
      rfl
  obtain ⟨N, rfl⟩ : ∃ N : Nat, k = (N : Int) := ⟨k.toNat, by omega⟩
  have hN1 : 1 ≤ N := by omega
  have hN2 : N ≤ 4096 := by omega
  refine new_call (Q := fun o => _) hN1 hN2 (fun gd gk rd => ?_)
  refine mk0 (.ptr (.sub 16 (.own 15)) gd 0) (by rfl) ?_
  refine mk0 (.int .i64 0) (by rfl) ?_
  refine mk0 (.bool false) (by rw [bin_lss, decide_eq_false (by omega)]) ?_
  refine gp (gy0 (.bool false) (by rw [bin_gtr, decide_eq_false (by omega)]) (mk0 (.bool false) (by rfl) ?_))
  refine condF ?_
  have hP0 : PDF (Heap.sets (fun _ => none) [((.sub 16 (.own 15)), ⟨gd, [.int .i64 (-1), .bool false, .int .i64 (-1), .sl (.sub 16 (.own 13)) gk 0 (N * 64) 1 none, .nils], false, false⟩), ((.sub 16 (.own 13)), ⟨gk, cellsB (List.replicate (N * 64) 0), false, true⟩)]) (.sub 16 (.own 15)) (.sub 16 (.own 13)) gd gk none (PD.new N) :=
    ⟨by simp [Heap.sets, Heap.set, PD.new, dq, cellsB_len], by simp [Heap.sets, Heap.set, PD.new], fun Q gq e => (by cases e), fun _ => rfl, by simp⟩
  simp only [w3_11, w3_12, w3_13, w3_14, w3_14_0, w3_15, seqK]
  try simp only [sets_nilE]
  generalize Heap.sets (fun _ => none) [((.sub 16 (.own 15)), ⟨gd, [.int .i64 (-1), .bool false, .int .i64 (-1), .sl (.sub 16 (.own 13)) gk 0 (N * 64) 1 none, .nils], false, false⟩), ((.sub 16 (.own 13)), ⟨gk, cellsB (List.replicate (N * 64) 0), false, true⟩)] = H0 at hP0 ⊢
  refine mk0 (.bool false) (by rfl) ?_
  refine gp (gy0 (.bool false) (by kernel_rfl) ?_)
  refine mk0 (.bool false) (by rfl) ?_
  refine gp (gcall ?_)
  try simp only [sets_nilE]
  refine sectors_call (Q := fun o => _) hP0 (fun rd1 => ?_)
  rw [secOf_new hN2]
  refine gp (gy0 (.bool false) (by rw [bin_neq]; simp) ?_)
  refine mk0 (.bool false) (by rfl) ?_
  refine condF ?_
  simp only [w3_19, w3_20, w3_21, w3_22, w3_22_0, w3_23, w3_24, w3_25, w3_25_0, w3_26, w3_27, seqK]
  try simp only [sets_nilE]
  by_cases h64 : N > 64
  · refine mk0 (.bool true) (by rw [bin_gtr, decide_eq_true (by omega)]) ?_
    repeat (first | refine gnt ?_ | refine gnu ?_)
    refine mk0 (.bool true) (by rfl) ?_
    refine condT ?_
    refine awake_callW ?_
    rfl
  refine mk0 (.bool false) (by rw [bin_gtr, decide_eq_false (by omega)]) ?_
  refine gp (gcall ?_)
  try simp only [sets_nilE]
  refine long_call (Q := fun o => _) hlen (fun b hbl => ?_)
  refine mk0 (.bool b) (by rfl) ?_
  cases b with
  | true =>
    refine condT ?_
    refine awake_callW ?_
    rfl
  | false =>
    obtain ⟨h1, h2⟩ := hbl rfl
    refine condF ?_
    simp only [w3_28, w3_29, w3_29_0, w3_30, w3_31, w3_32, w3_32_0, w3_33, w3_34, seqK, sets_nilE]
    refine rnew_call (Q := fun o => _) hN1 hN2 (fun gr ga rd2 => ?_)
    have hF : PFr (Heap.sets H0 [((.sub 54 (.own 12)), ⟨gr, rcells (.sub 54 (.own 25)) ga none (RD.new N), false, false⟩), ((.sub 54 (.own 25)), ⟨ga, keptV (RD.new N).kept, false, true⟩)]) gd gk gr none (.sub 54 (.own 25)) ga none (PD.new N) (RD.new N) := by
      refine ⟨hP0.other (fun i hi => ?_), .inl rfl, ⟨by simp [Heap.sets, Heap.set], by simp [Heap.sets, Heap.set], fun B gb e => (by cases e), fun _ => rfl, by simp⟩, by simp [SA], .inl rfl⟩
      simp only [accOf, List.mem_cons, List.not_mem_nil, or_false] at hi
      rcases hi with rfl | rfl <;> simp [Heap.sets, Heap.set]
    generalize Heap.sets H0 [((.sub 54 (.own 12)), ⟨gr, rcells (.sub 54 (.own 25)) ga none (RD.new N), false, false⟩), ((.sub 54 (.own 25)), ⟨ga, keptV (RD.new N).kept, false, true⟩)] = H1 at hF ⊢
    refine plays_loop (i := 0) (k := l.length) h1 h2 (fun H' p r qn A ga bn t2 t3 t6 t8 t9 t10 t11 t12 t13 t14 t15 t16 t17 t18 t19 t20 t21 t22 t23 t24 t25 t26 t27 t28 t29 t30 t31 t32 t33 t34 t35 t36 t37 t38 t39 t40 t41 t42 t43 t44 t45 t46 t47 t48 t49 t50 t51 t52 t53 t54 t55 t56 t57 t58 t59 t60 t61 t62 t63 t64 t65 t66 t67 t68 t69 t70 t71 t72 t73 t74 t75 t76 t77 t78 t79 t80 t81 t82 t83 t84 t85 t86 t87 t88 t89 t90 t91 t92 t93 t94 t95 t96 t97 t98 t99 t100 t101 t102 t103 t104 t105 t106 t107 t108 t109 t110 t111 t112 t113 t114 t115 t116 t117 t118 t119 t120 t121 t122 t123 t124 t125 t126 t127 t128 t129 t130 t131 t132 hS hF' => ?_) (by omega) H1 (PD.new N) (RD.new N) none (.sub 54 (.own 25)) ga none _ _ _ _ _ _ _ _ _ _ _ _ _ _ _ _ _ _ _ _ _ _ _ _ _ _ _ _ _ _ _ _ _ _ _ _ _ _ _ _ _ _ _ _ _ _ _ _ _ _ _ _ _ _ _ _ _ _ _ _ _ _ _ _ _ _ _ _ _ _ _ _ _ _ _ _ _ _ _ _ _ _ _ _ _ _ _ _ _ _ _ _ _ _ _ _ _ _ _ _ _ _ _ _ _ _ _ _ _ _ _ _ _ _ _ _ _ _ _ _ _ _ _ _ _ _ _ (sim_new hN1 (by omega)) (by simp [PD.new]) hF
    simp only [blockK, if_true, seqK]
    exact plays_end hS hF' _ _ _ _ _ _ _ _ _ _ _ _ _ _ _ _ _ _ _ _ _ _ _ _ _ _ _ _ _ _ _ _ _ _ _ _ _ _ _ _ _ _ _ _ _ _ _ _ _ _ _ _ _ _ _ _ _ _ _ _ _ _ _ _ _ _ _ _ _ _ _ _ _ _ _ _ _ _ _ _ _ _ _ _ _ _ _ _ _ _ _ _ _ _ _ _ _ _ _ _ _ _ _ _ _ _ _ _ _ _ _ _ _ _ _ _ _ _ _ _ _ _ _ _ _ _ _ _
end Go.Proofs.Ytcamcfplcoklkaa.Iv

namespace Go.Proofs.Ytcamcfplcoklkaa.Iv
open Go Go.RowKit
set_option linter.unusedVariables false
set_option linter.unusedSimpArgs false
/-! ### the values that a statement hands a law -/
def Cel (w : World) (rb : Nat) : Prop := ∃ o : Obj, w.heap[rb]? = some o ∧ o.isCells = true
theorem cel_of {w : World} {a : Addr} {v : Value} (h : w.cell? a = some v) : Cel w a.block ∧ a.spot = none := by
  unfold World.cell? at h
  split at h
  · rename_i c ty fr e
    split at h
    · cases h
    · rename_i hs
      refine ⟨⟨_, e, rfl⟩, ?_⟩
      cases hq : a.spot with
      | none => rfl
      | some q => rw [hq] at hs; simp at hs
  · cases h
def OpensV (P : Program) (t sz : Nat) (G : List V → Prop) : Prop :=
  ∀ (H : Type) (enc : TypeId × Value → H) (w : World) (base : Nat) (spare : Nat → Bool) (held : Bool) (fuel : Nat) (cs : List Value) (x : DataW H × List MemPlace), DataW.trod enc P w base spare held fuel t cs = some x →
    ∃ vs : List V, vs.length = sz ∧ All2 (FR w (Cel w)) vs cs ∧ G vs
section
variable {P : Program} {t : TypeId}
theorem pick_list {α : Type} (n : Nat) (R : Nat → α → Prop) (h : ∀ i, i < n → ∃ a, R i a) : ∃ l : List α, l.length = n ∧ ∀ i a, l[i]? = some a → R i a := by
  induction n with
  | zero => exact ⟨[], rfl, fun i a h => by simp at h⟩
  | succ n ih =>
    obtain ⟨l, hl, hr⟩ := ih (fun i hi => h i (by omega))
    obtain ⟨a, ha⟩ := h n (by omega)
    refine ⟨l ++ [a], by simp [hl], fun i b hb => ?_⟩
    rcases Nat.lt_trichotomy i n with hi | hi | hi
    · rw [List.getElem?_append_left (by omega)] at hb; exact hr i b hb
    · subst hi
      rw [List.getElem?_append_right (by omega), hl, Nat.sub_self, List.getElem?_cons_zero] at hb
      obtain rfl := Option.some.inj hb
      exact ha
    · rw [List.getElem?_eq_none (by simp [hl]; omega)] at hb; cases hb
theorem cells_get {w : World} {base : Nat} {a : Addr} {n : Nat} {cs : List Value} (h : w.cells? base a n = some cs) : cs.length = n ∧ ∀ i u, cs[i]? = some u → w.cell? (a.add i) = some u := by
  unfold World.cells? at h
  split at h
  · have hl := mapM_some_length h
    rw [List.length_range] at hl
    refine ⟨hl, fun i u hu => ?_⟩
    have hi : i < n := by
      rcases Nat.lt_or_ge i n with hi | hi
      · exact hi
      · rw [List.getElem?_eq_none (by omega)] at hu; cases hu
    have := mapM_some_get h i i (by rw [List.getElem?_range hi])
    rw [this]; exact hu
  · cases h
theorem opensV_int {k : IntKind} (ht : P.underlying t = some (.int k)) : OpensV P t 1 (fun vs => ∃ n, vs = [.int k n] ∧ (Lit.int k n).wf = true) := by
  intro H enc w base spare held fuel cs x h
  cases fuel with
  | zero => simp [DataW.trod] at h
  | succ fuel =>
    simp only [DataW.trod, ht] at h
    split at h <;> simp_all
    refine ⟨[.int _ _], rfl, ?_, _, rfl, h.1.2⟩
    exact ⟨.int _ _, trivial⟩
theorem add_mk (a : Addr) (h : a.spot = none) (n : Nat) : a.add n = ⟨a.block, a.off + n, none⟩ := by
  obtain ⟨b, o, s⟩ := a
  simp only at h; subst h
  unfold Addr.add
  split
  · rename_i e; subst e; rfl
  · rfl
theorem opensV_slice {e sz : Nat} {G : List V → Prop} (ht : P.underlying t = some (.slice e)) (hs : P.cellsOf e = sz) (hp : 0 < sz) (he : OpensV P e sz G) :
    OpensV P t 1 (fun vs => ∃ xs, vs = [.list xs false] ∧ xs.length ≤ maxLen ∧ ∀ x ∈ xs, x.length = sz ∧ G x) := by
  intro H enc w base spare held fuel cs x h
  cases fuel with
  | zero => simp [DataW.trod] at h
  | succ fuel =>
    simp only [DataW.trod, ht] at h
    split at h
    all_goals first | (simp_all; done) | skip
    · refine ⟨[.list [] false], rfl, ⟨?_, trivial⟩, [], rfl, Nat.zero_le _, fun x hx => by cases hx⟩
      exact FR.list [] 1 0 none (fun _ => .int .i64 0) (Nat.le_refl _) (fun x hx => by cases hx) (fun h => absurd rfl h) (fun j c h => by simp at h)
    · rename_i heq
      injection heq with heq
      injection heq with heq
      subst heq
      split at h
      · rename_i a len cap hcond
        obtain ⟨els, hels, _⟩ := Option.bind_eq_some_iff.1 h
        have hlen := mapM_some_length hels
        rw [List.length_range] at hlen
        obtain ⟨xs, hl, hr⟩ := pick_list len (fun i (b : List V) => ∃ c : List Value, c.length = sz ∧ b.length = sz ∧ All2 (FR w (Cel w)) b c ∧ G b ∧ ∀ q u, c[q]? = some u → w.cell? ((a.add (i * sz)).add q) = some u) (fun i hi => by
          have h1 := mapM_some_get hels i i (by rw [List.getElem?_range hi])
          have hi2 : i < els.length := by omega
          rw [List.getElem?_eq_getElem hi2] at h1
          obtain ⟨c, hc, ht2⟩ := Option.bind_eq_some_iff.1 h1
          obtain ⟨b, hbl, hb, hg⟩ := he H enc w base spare held fuel c _ ht2
          obtain ⟨hcl, hcc⟩ := cells_get hc
          rw [hs] at hcl hcc
          exact ⟨b, c, hcl, hbl, hb, hg, hcc⟩)
        have hz : ∀ x ∈ xs, x.length = sz ∧ G x := fun x hx => by
          obtain ⟨j, hj, rfl⟩ := List.getElem_of_mem hx
          obtain ⟨c, _, h2, _, h4, _⟩ := hr j _ (List.getElem?_eq_getElem hj)
          exact ⟨h2, h4⟩
        -- where the elements stand
        have spot : xs ≠ [] → a.spot = none := fun hne => by
          cases hx0 : xs with
          | nil => exact absurd hx0 hne
          | cons x0 r =>
            obtain ⟨c, c1, c2, c3, c4, c5⟩ := hr 0 x0 (by rw [hx0]; rfl)
            obtain ⟨u, hu⟩ : ∃ u, c[0]? = some u := ⟨c[0]'(by omega), List.getElem?_eq_getElem _⟩
            have := (cel_of (c5 0 u hu)).2
            simpa [Addr.add] using this
        have each : ∀ (hne : xs ≠ []) (j : Nat) (v : V), xs.flatten[j]? = some v → ∃ u, w.cell? ⟨a.block, a.off + j, none⟩ = some u ∧ FR w (Cel w) v u := fun hne j v hj => by
          obtain ⟨i, q, xi, h1, h2, h3⟩ : ∃ i q xi, xs[i]? = some xi ∧ xi[q]? = some v ∧ j = i * sz + q := by
            have hjl := (List.getElem?_eq_some_iff.1 hj).1
            rw [flatten_len sz xs (fun x hx => (hz x hx).1)] at hjl
            have hi : j / sz < xs.length := Nat.div_lt_of_lt_mul (by rw [Nat.mul_comm]; exact hjl)
            have hq : j % sz < (xs[j / sz]).length := by rw [(hz _ (List.getElem_mem hi)).1]; exact Nat.mod_lt _ hp
            have hg := flatten_get sz xs (fun x hx => (hz x hx).1) (j / sz) (j % sz) _ _ (List.getElem?_eq_getElem hi) (List.getElem?_eq_getElem hq)
            have e : j / sz * sz + j % sz = j := by rw [Nat.mul_comm]; exact Nat.div_add_mod j sz
            rw [e, hj] at hg
            refine ⟨j / sz, j % sz, _, List.getElem?_eq_getElem hi, ?_, e.symm⟩
            rw [List.getElem?_eq_getElem hq]; exact hg.symm
          obtain ⟨c, c1, c2, c3, c4, c5⟩ := hr i xi h1
          obtain ⟨u, hu, hfr⟩ := c3.get h2
          refine ⟨u, ?_, hfr⟩
          have := c5 q u hu
          rw [add_mk a (spot hne), add_mk _ rfl] at this
          rw [h3, ← Nat.add_assoc]; exact this
        refine ⟨[.list xs false], rfl, ⟨?_, trivial⟩, xs, rfl, ?_, hz⟩
        · have := FR.list (w := w) (S := Cel w) xs sz cap (some a) (fun j => (w.cell? ⟨a.block, a.off + j, none⟩).getD (.int .i64 0)) (by rw [hl]; exact hcond.2.1) (fun x hx => (hz x hx).1)
            (fun hne => by
              have hsp := spot hne
              refine ⟨a.block, a.off, by cases a; simp_all, ?_, fun j hj => ?_⟩
              · obtain ⟨u, hu, _⟩ := each hne 0 _ (List.getElem?_eq_getElem (by
                  rw [flatten_len sz xs (fun x hx => (hz x hx).1)]
                  have : 0 < xs.length := List.length_pos_iff.2 hne
                  exact Nat.mul_pos this hp))
                exact (cel_of hu).1
              · obtain ⟨u, hu, _⟩ := each hne j _ (List.getElem?_eq_getElem hj)
                rw [hu]; rfl)
            (fun j c hj => by
              have hne : xs ≠ [] := fun e => by subst e; simp at hj
              obtain ⟨u, hu, hfr⟩ := each hne j c hj
              rw [hu]; exact hfr)
          rw [hl] at this
          exact this
        · rw [hl]; exact Nat.le_trans hcond.2.1 hcond.2.2
      · cases h
/-- a struct of four fields, each of one cell -/
theorem opensV_four {G0 G1 G2 G3 : List V → Prop} {f0 f1 f2 f3 : Field} (ht : P.underlying t = some (.struct #[f0, f1, f2, f3])) (hn : P.cellsOf t = 4) (o0 : f0.offset = 0) (o1 : f1.offset = 1) (o2 : f2.offset = 2) (o3 : f3.offset = 3)
    (c0 : P.cellsOf f0.type = 1) (c1 : P.cellsOf f1.type = 1) (c2 : P.cellsOf f2.type = 1) (c3 : P.cellsOf f3.type = 1) (h0 : OpensV P f0.type 1 G0) (h1 : OpensV P f1.type 1 G1) (h2 : OpensV P f2.type 1 G2) (h3 : OpensV P f3.type 1 G3) :
    OpensV P t 4 (fun vs => ∃ a b c d, vs = [a, b, c, d] ∧ G0 [a] ∧ G1 [b] ∧ G2 [c] ∧ G3 [d]) := by
  intro H enc w base spare held fuel cs x h
  cases fuel with
  | zero => simp [DataW.trod] at h
  | succ fuel =>
    have h' : (if cs.length = P.cellsOf t then (#[f0, f1, f2, f3].toList.mapM fun f => DataW.trod enc P w base spare held fuel f.type ((cs.drop f.offset).take (P.cellsOf f.type))).map fun xs => ((.agg (xs.map (·.1)) : DataW H), xs.flatMap (·.2)) else none) = some x := by
      rw [← h]
      simp only [DataW.trod, ht]
    split at h'
    · rename_i hl
      rw [hn] at hl
      obtain ⟨xs, hxs, _⟩ := Option.map_eq_some_iff.1 h'
      have hlen := mapM_some_length hxs
      have g0 := mapM_some_get hxs 0 f0 rfl
      have g1 := mapM_some_get hxs 1 f1 rfl
      have g2 := mapM_some_get hxs 2 f2 rfl
      have g3 := mapM_some_get hxs 3 f3 rfl
      simp only [List.length_cons, List.length_nil] at hlen
      rw [List.getElem?_eq_getElem (by omega)] at g0 g1 g2 g3
      match cs, hl with
      | [u0, u1, u2, u3], _ =>
        obtain ⟨v0, l0, r0, q0⟩ := h0 H enc w base spare held fuel _ _ g0
        obtain ⟨v1, l1, r1, q1⟩ := h1 H enc w base spare held fuel _ _ g1
        obtain ⟨v2, l2, r2, q2⟩ := h2 H enc w base spare held fuel _ _ g2
        obtain ⟨v3, l3, r3, q3⟩ := h3 H enc w base spare held fuel _ _ g3
        rw [o0, c0] at r0; rw [o1, c1] at r1; rw [o2, c2] at r2; rw [o3, c3] at r3
        match v0, v1, v2, v3, l0, l1, l2, l3, r0, r1, r2, r3, q0, q1, q2, q3 with
        | [a], [b], [c], [d], _, _, _, _, r0, r1, r2, r3, q0, q1, q2, q3 =>
          exact ⟨[a, b, c, d], rfl, ⟨r0.1, r1.1, r2.1, r3.1, trivial⟩, a, b, c, d, rfl, q0, q1, q2, q3⟩
    · cases h'
end
end Go.Proofs.Ytcamcfplcoklkaa.Iv
