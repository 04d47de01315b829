import Derived.Test.YtcamcfplcoklkaaM21
namespace Go.Proofs.Ytcamcfplcoklkaa.Iv
open Go
set_option linter.unusedVariables false
set_option linter.unusedSimpArgs false
set_option maxRecDepth 100000

theorem u39s : Try.prog.underlying 39 = some (.slice 72) := by kernel_rfl
theorem sz72 : szOf Try.prog 72 = some 2 := by kernel_rfl
theorem by72 : byOf Try.prog 72 = some 24 := by kernel_rfl
theorem z72 : zOf Try.prog 72 = some [.int .i64 0, .str []] := by kernel_rfl
section
variable {H : Heap} {g : Nat} {q : List (Nat × List UInt8)} {na : Nat} {s : List UInt8} {g5 : Nat}
theorem app_e1 (h : H (.own 40) = some ⟨g, [], false, true⟩) : evAppend Try.prog H 45 39 39 (.sl (.own 40) g 0 0 2 (some 0)) .nils = some ⟨.sl (.own 40) g 0 0 2 (some 0), [(.own 40, ⟨g, [], false, true⟩)], [.own 40]⟩ := by
  have l : live H (.own 40) g = some ⟨g, [], false, true⟩ := by simp [live, h]
  have hs : appSrc Try.prog H 2 [.int .i64 0, .str []] 39 .nils = some ([], 0, true, []) := by simp only [appSrc, u39s, src]
  unfold evAppend
  simp only [u39s, sz72, by72, z72, hs, l]
  rfl
theorem app_e2 (h : H (.own 40) = some ⟨g, [], false, true⟩) (h2 : H (.arg 2) = some ⟨0, queueV q, false, true⟩) (hq : q = []) : evAppend Try.prog H 45 39 39 (.sl (.own 40) g 0 0 2 (some 0)) (.sl (.arg 2) 0 0 q.length 2 none) = some ⟨.sl (.own 40) g 0 0 2 (some 0), [(.own 40, ⟨g, [], false, true⟩)], [.own 40, .arg 2]⟩ := by
  subst hq
  have l : live H (.own 40) g = some ⟨g, [], false, true⟩ := by simp [live, h]
  have l2 : live H (.arg 2) 0 = some ⟨0, [], false, true⟩ := by simp [live, h2, queueV]
  have hs : appSrc Try.prog H 2 [.int .i64 0, .str []] 39 (.sl (.arg 2) 0 0 ([] : List (Nat × List UInt8)).length 2 none) = some ([], 0, true, [.arg 2]) := by
    simp only [appSrc, u39s, src, l2]
    rfl
  unfold evAppend
  simp only [u39s, sz72, by72, z72, hs, l]
  rfl
theorem app_n1 (h : H (.own 40) = some ⟨g, [], false, true⟩) (h2 : H (.arg 2) = some ⟨0, queueV q, false, true⟩) (hq : q ≠ []) (hn : q.length ≤ 1000000) : evAppend Try.prog H 45 39 39 (.sl (.own 40) g 0 0 2 (some 0)) (.sl (.arg 2) 0 0 q.length 2 none) = some ⟨.sl (.own 45) (nextGen H (.own 45)) 0 q.length 2 none, [(.own 45, ⟨nextGen H (.own 45), queueV q, false, true⟩)], [.own 40, .own 45, .arg 2]⟩ := by
  have l : live H (.own 40) g = some ⟨g, [], false, true⟩ := by simp [live, h]
  have l2 : live H (.arg 2) 0 = some ⟨0, queueV q, false, true⟩ := by simp [live, h2]
  have ca : cut (queueV q) 0 (q.length * 2) = some (queueV q) := by rw [← queueV_len]; exact cut_all _
  have hs : appSrc Try.prog H 2 [.int .i64 0, .str []] 39 (.sl (.arg 2) 0 0 q.length 2 none) = some (queueV q, q.length, true, [.arg 2]) := by
    simp only [appSrc, u39s, src, l2, ca, if_true]
  have c1 : q.length * 24 ≤ lim47 := by unfold lim47; omega
  unfold evAppend
  simp only [u39s, sz72, by72, z72, hs, l]
  simp [c1, cut, hq]
theorem app_e3 (h : H (.own 40) = some ⟨g, [], false, true⟩) (h2 : H (.own 50) = some ⟨g5, [.int .i64 (na : Int), .str s], false, true⟩) : evAppend Try.prog H 51 39 39 (.sl (.own 40) g 0 0 2 (some 0)) (.sl (.own 50) g5 0 1 2 (some 1)) = some ⟨.sl (.own 51) (nextGen H (.own 51)) 0 (0 + 1) 2 none, [(.own 51, ⟨nextGen H (.own 51), [.int .i64 (na : Int), .str s], false, true⟩)], [.own 40, .own 51, .own 50]⟩ := by
  have l : live H (.own 40) g = some ⟨g, [], false, true⟩ := by simp [live, h]
  have l2 : live H (.own 50) g5 = some ⟨g5, [.int .i64 (na : Int), .str s], false, true⟩ := by simp [live, h2]
  have hs : appSrc Try.prog H 2 [.int .i64 0, .str []] 39 (.sl (.own 50) g5 0 1 2 (some 1)) = some ([.int .i64 (na : Int), .str s], 1, true, [.own 50]) := by
    simp only [appSrc, u39s, src, l2]
    rfl
  unfold evAppend
  simp only [u39s, sz72, by72, z72, hs, l]
  simp [cut, lim47]
theorem app_n2 (h : H (.own 45) = some ⟨g, queueV q, false, true⟩) (h2 : H (.own 50) = some ⟨g5, [.int .i64 (na : Int), .str s], false, true⟩) (hn : q.length ≤ 1000000) : evAppend Try.prog H 51 39 39 (.sl (.own 45) g 0 q.length 2 none) (.sl (.own 50) g5 0 1 2 (some 1)) = some ⟨.sl (.own 45) (g + 1) 0 (q.length + 1) 2 none, [(.own 45, ⟨g + 1, queueV q ++ [.int .i64 (na : Int), .str s], false, true⟩)], [.own 45, .own 50]⟩ := by
  have l : live H (.own 45) g = some ⟨g, queueV q, false, true⟩ := by simp [live, h]
  have l2 : live H (.own 50) g5 = some ⟨g5, [.int .i64 (na : Int), .str s], false, true⟩ := by simp [live, h2]
  have hs : appSrc Try.prog H 2 [.int .i64 0, .str []] 39 (.sl (.own 50) g5 0 1 2 (some 1)) = some ([.int .i64 (na : Int), .str s], 1, true, [.own 50]) := by
    simp only [appSrc, u39s, src, l2]
    rfl
  have c1 : (q.length + 1) * 24 ≤ lim47 := by unfold lim47; omega
  have c2 : cut (queueV q) 0 (q.length * 2) = some (queueV q) := by rw [← queueV_len]; exact cut_all _
  have c3 : ¬ ((q.length + 1) * 2 ≤ (queueV q).length) := by rw [queueV_len]; omega
  unfold evAppend
  simp only [u39s, sz72, by72, z72, hs, l]
  simp [c1, c2, c3]
end
def rwrite (r : RD) (n : Int) (bs : List Int) : RD × Int :=
  if ¬ ((0 ≤ n ∧ n < (r.kept.length : Int)) ∧ bs.length = 64) then (r, 1)
  else if (rpow r).dark = true then (rpow r, 11)
  else if 0 ≤ r.cap ∧ r.cap ≤ n then (rpow r, 7)
  else ({ rpow r with queue := r.queue ++ [(n.toNat, toStr bs)] }, 0)
set_option maxHeartbeats 8000000 in
/-- Write, of the reference -/
theorem rwrite_spec {H : Heap} {bn : Option (Id × Nat)} {r : RD} (h : RI H bn r) (hk : ROk r) {n : Int} {bs : List Int} {Q : V → Heap → Prop}
    (h1 : (rwrite r n bs).2 ≠ 0 → ∀ H', RO H' bn none none (rwrite r n bs).1 → Q (.int .i64 (rwrite r n bs).2) H')
    (h0 : (rwrite r n bs).2 = 0 → ∀ H' qa qg, (qa = .own 45 ∨ qa = .own 51) → RO H' bn none (some (some (qa, qg))) (rwrite r n bs).1 → Q (.int .i64 0) H') : CallR dcfg 28 [.ptr (.arg 0) 0 0, .int .i64 n, .list (bytesL bs) true] H Q := by
  refine CallR.body' (K := dcfg) (f := 28) (fn := Try.f28) (c := c28_0) (env := [.ptr (.arg 0) 0 0, .int .i64 n, .list (bytesL bs) true, .und, .und, .und, .und, .und, .und, .und, .und, .und, .und, .und, .und, .und, .und, .und, .und, .und, .und, .und, .und, .und, .und, .und, .und, .und, .und, .und, .und, .und, .und, .und, .und, .und, .und, .und, .und, .und, .und, .und, .und, .und, .und, .und, .und, .und, .und, .und, .und, .und, .und, .und]) (rs := [.tmp 6]) rfl (by kernel_rfl) (by kernel_rfl) (by kernel_rfl) (by kernel_rfl) (by kernel_rfl) (by kernel_rfl) ?_
  show wC Try.prog dcfg.pol (CallR dcfg) (LoopR dcfg) c28_0 _ _ (wRes Try.prog _ _)
  simp only [w28_0, w28_1, w28_1_0, w28_2, w28_3, w28_4, w28_4_0c, w28_4_0, w28_4_12, w28_5, seqK, fa41_0, ld38, len38, len34b]
  refine mk0 _ (bin_lss ..) ?_
  have hl2 := hk.l2
  have bad : ¬ ((0 ≤ n ∧ n < (r.kept.length : Int)) ∧ bs.length = 64) → ∀ H', RO H' bn none none r → Q (.int .i64 1) H' := fun hb H' ho => by
    have e : rwrite r n bs = (r, 1) := by unfold rwrite; rw [if_pos hb]
    have := h1 (by rw [e]; simp) H'
    rw [e] at this
    exact this ho
  by_cases n0 : n < 0
  · rw [decide_eq_true n0]
    repeat (first | refine gnt ?_ | refine gnu ?_)
    refine mk0 (.bool true) (by rfl) ?_
    repeat (first | refine gnt ?_ | refine gnu ?_)
    refine mk0 (.bool true) (by rfl) ?_
    refine condT ?_
    simp only [w28_6, w28_7, w28_7_0, w28_8, seqK]
    exact bad (by omega) H (RI.out h)
  rw [decide_eq_false n0]
  refine gp (gp (gy0 (.ptr (.arg 0) 0 0) (by rfl) (gy0 (.ptr (.arg 0) 0 (0 + 0)) (by rfl) (gy (.sl (.arg 1) 0 0 r.kept.length 1 none) [] [.arg 0] (ld_cell (j := 0 + 0) h.hR (by rfl)) (gy0 (.int .i64 (r.kept.length : Int)) (by rfl) (gy0 _ (bin_geq ..) ?_))))))
  simp only [sets_nilE]
  by_cases n1 : n ≥ (r.kept.length : Int)
  · rw [decide_eq_true n1]
    refine mk0 (.bool true) (by rfl) ?_
    repeat (first | refine gnt ?_ | refine gnu ?_)
    refine mk0 (.bool true) (by rfl) ?_
    refine condT ?_
    simp only [w28_6, w28_7, w28_7_0, w28_8, seqK]
    exact bad (by omega) H (RI.out h)
  rw [decide_eq_false n1]
  refine mk0 (.bool false) (by rfl) ?_
  refine gp (gy0 (.int .i64 (bs.length : Int)) (by simp [lenS, bytesL]) (gy0 _ (bin_neq ..) ?_))
  simp only [sets_nilE]
  by_cases hb : ¬ bs.length = 64
  · have e : ((bs.length : Int) != 64) = true := by simp; omega
    rw [e]
    refine mk0 (.bool true) (by rfl) ?_
    refine condT ?_
    simp only [w28_6, w28_7, w28_7_0, w28_8, seqK]
    exact bad (fun h => hb h.2) H (RI.out h)
  have hb := Classical.not_not.1 hb
  have e : ((bs.length : Int) != 64) = false := by simp; omega
  rw [e]
  refine mk0 (.bool false) (by rfl) ?_
  refine condF ?_
  have good : ¬ ¬ ((0 ≤ n ∧ n < (r.kept.length : Int)) ∧ bs.length = 64) := fun hh => hh ⟨by omega, hb⟩
  simp only [w28_9, w28_10, w28_11, w28_12, w28_12_0, w28_13, seqK]
  refine power_call (Q := fun o => _) h (fun us rd hP ho => ?_)
  generalize H.sets us = H1 at hP ho ⊢
  refine mk0 (.bool (!(!(rpow r).dark))) (by rfl) ?_
  rw [Bool.not_not]
  cases hd : (rpow r).dark with
  | true =>
    refine condT ?_
    simp only [w28_14, w28_15, w28_15_0, w28_16, seqK]
    have e : rwrite r n bs = (rpow r, 11) := by unfold rwrite; rw [if_neg good, if_pos hd]
    have := h1 (by rw [e]; simp) H1
    rw [e] at this
    exact this (RI.out hP)
  | false =>
  refine condF ?_
  simp only [w28_17, w28_18, w28_19, w28_20, w28_20_0c, w28_20_0, w28_20_12, w28_21, seqK, fa41_3, ld3b]
  refine mk0 (.ptr (.arg 0) 0 0) (by rfl) ?_
  refine mk0 (.ptr (.arg 0) 0 (0 + 3)) (by rfl) ?_
  refine mk (.int .i64 r.cap) [] [.arg 0] (ld_cell (j := 0 + 3) hP.hR (by rfl)) ?_
  refine mk0 _ (bin_geq ..) ?_
  simp only [sets_nilE]
  have tail : ¬ (0 ≤ r.cap ∧ r.cap ≤ n) → ∀ t7 t8 t9 t10 t11 t12 t13 t14 t15 t16 t17 t18 t19 t20 t21 t22 t23 t24 t25 t26 t27 t28 t29 t30 t31 t32 t33 t34 t35 t36 t37 t38 t39 t40 t41 t42 t43 t44 t45 t46 t47 t48 t49 t50 t51 t52 t53, wC Try.prog dcfg.pol (CallR dcfg) (LoopR dcfg) c28_26 [.ptr (.arg 0) 0 0, .int .i64 n, .list (bytesL bs) true, .und, .und, .und, .int .i64 0, t7, t8, t9, t10, t11, t12, t13, t14, t15, t16, t17, t18, t19, t20, t21, t22, t23, t24, t25, t26, t27, t28, t29, t30, t31, t32, t33, t34, t35, t36, t37, t38, t39, t40, t41, t42, t43, t44, t45, t46, t47, t48, t49, t50, t51, t52, t53] H1 (wRes Try.prog [.tmp 6] Q) := by
    intro hcap t7 t8 t9 t10 t11 t12 t13 t14 t15 t16 t17 t18 t19 t20 t21 t22 t23 t24 t25 t26 t27 t28 t29 t30 t31 t32 t33 t34 t35 t36 t37 t38 t39 t40 t41 t42 t43 t44 t45 t46 t47 t48 t49 t50 t51 t52 t53
    obtain ⟨na, rfl⟩ : ∃ na : Nat, n = (na : Int) := ⟨n.toNat, by omega⟩
    have e : rwrite r (na : Int) bs = ({ rpow r with queue := r.queue ++ [(na, toStr bs)] }, 0) := by
      unfold rwrite; rw [if_neg good, if_neg (by rw [hd]; simp), if_neg hcap]; rfl
    have hw : (rwrite r (na : Int) bs).2 = 0 := by rw [e]
    have hw1 : (rwrite r (na : Int) bs).1 = { rpow r with queue := (rpow r).queue ++ [(na, toStr bs)] } := by rw [e]; rfl
    have hk2 := hk.pow
    clear e h1 bad
    generalize rpow r = r2 at hP hk2 hw1
    simp only [w28_26, w28_27, w28_27_0c, w28_27_0, w28_27_12, seqK, fa41_1, ld39, st39]
    obtain ⟨hbn, hbn2⟩ | ⟨hbn, hbn2⟩ := rinn_cases bn
    · have hq0 : r2.queue = [] := hP.hn hbn
      refine mkL0 (.ptr (.arg 0) 0 0) [] (by rfl) ?_
      refine mkL (.sl (.own 40) (nextGen H1 (.own 40)) 0 0 2 (some 0)) [(.own 40, ⟨nextGen H1 (.own 40), [], false, true⟩)] [.own 40] (by kernel_rfl) ?_
      generalize nextGen H1 (.own 40) = g40
      have a40 : (Heap.sets H1 [(.own 40, ⟨g40, [], false, true⟩)]) (.own 40) = some ⟨g40, [], false, true⟩ := (by simp [Heap.sets, Heap.set])
      have hP2 : RI (Heap.sets H1 [(.own 40, ⟨g40, [], false, true⟩)]) bn r2 := hP.other (fun i hi => by
        have hne : i ≠ .own 40 := fun e => not_in_acc (by simp) (e ▸ hi)
        simp [Heap.sets, Heap.set, hne])
      generalize Heap.sets H1 [(.own 40, ⟨g40, [], false, true⟩)] = H2 at a40 hP2 ⊢
      refine mkL0 (.ptr (.arg 0) 0 0) [] (by rfl) ?_
      refine mkL0 (.ptr (.arg 0) 0 0) [] (by rfl) ?_
      refine mkL0 (.ptr (.arg 0) 0 (0 + 1)) [] (by rfl) ?_
      refine mkL (.nils) [] [.arg 0] (ld_cell (j := 0 + 1) hP2.hR (by rw [hbn]; rfl)) ?_
      try simp only [sets_nilE]
      refine mkL (.sl (.own 40) g40 0 0 2 (some 0)) [(.own 40, ⟨g40, [], false, true⟩)] [.own 40] (app_e1 a40) ?_
      have a40' : (Heap.sets H2 [(.own 40, ⟨g40, [], false, true⟩)]) (.own 40) = some ⟨g40, [], false, true⟩ := (by simp [Heap.sets, Heap.set])
      have hP3 : RI (Heap.sets H2 [(.own 40, ⟨g40, [], false, true⟩)]) bn r2 := hP2.other (fun i hi => by
        have hne : i ≠ .own 40 := fun e => not_in_acc (by simp) (e ▸ hi)
        simp [Heap.sets, Heap.set, hne])
      generalize Heap.sets H2 [(.own 40, ⟨g40, [], false, true⟩)] = H3 at a40' hP3 ⊢
      refine mkL0 (.int .i64 (na : Int)) [] (by rfl) ?_
      refine mkL0 (.list (bytesL bs) true) [] (by rfl) ?_
      try simp only [sets_nilE]
      refine mkL (.str (toStr bs)) [] [] conv_list ?_
      refine mkL0 (.agg [.int .i64 (na : Int), .str (toStr bs)]) [] (by kernel_rfl) ?_
      try simp only [sets_nilE]
      refine mkL (.sl (.own 50) (nextGen H3 (.own 50)) 0 1 2 (some 1)) [(.own 50, ⟨nextGen H3 (.own 50), [.int .i64 (na : Int), .str (toStr bs)], false, true⟩)] [.own 50] (by kernel_rfl) ?_
      generalize nextGen H3 (.own 50) = g50
      have a50 : (Heap.sets H3 [(.own 50, ⟨g50, [.int .i64 (na : Int), .str (toStr bs)], false, true⟩)]) (.own 50) = some ⟨g50, [.int .i64 (na : Int), .str (toStr bs)], false, true⟩ := (by simp [Heap.sets, Heap.set])
      have b4 : (Heap.sets H3 [(.own 50, ⟨g50, [.int .i64 (na : Int), .str (toStr bs)], false, true⟩)]) (.own 40) = some ⟨g40, [], false, true⟩ := by simp [Heap.sets, Heap.set]; exact a40'
      have hP4 : RI (Heap.sets H3 [(.own 50, ⟨g50, [.int .i64 (na : Int), .str (toStr bs)], false, true⟩)]) bn r2 := hP3.other (fun i hi => by
        have hne : i ≠ .own 50 := fun e => not_in_acc (by simp) (e ▸ hi)
        simp [Heap.sets, Heap.set, hne])
      generalize Heap.sets H3 [(.own 50, ⟨g50, [.int .i64 (na : Int), .str (toStr bs)], false, true⟩)] = H4 at a50 b4 hP4 ⊢
      refine mkL (.sl (.own 51) (nextGen H4 (.own 51)) 0 (0 + 1) 2 none) [(.own 51, ⟨nextGen H4 (.own 51), [.int .i64 (na : Int), .str (toStr bs)], false, true⟩)] [.own 40, .own 51, .own 50] (app_e3 b4 a50) ?_
      generalize nextGen H4 (.own 51) = gq
      have hP5 : RI (Heap.sets H4 [(.own 51, ⟨gq, [.int .i64 (na : Int), .str (toStr bs)], false, true⟩)]) bn r2 := hP4.other (fun i hi => by
        have hne : i ≠ .own 51 := fun e => not_in_acc (by simp) (e ▸ hi)
        simp [Heap.sets, Heap.set, hne])
      have aq : (Heap.sets H4 [(.own 51, ⟨gq, [.int .i64 (na : Int), .str (toStr bs)], false, true⟩)]) (.own 51) = some ⟨gq, [.int .i64 (na : Int), .str (toStr bs)], false, true⟩ := (by simp [Heap.sets, Heap.set])
      generalize Heap.sets H4 [(.own 51, ⟨gq, [.int .i64 (na : Int), .str (toStr bs)], false, true⟩)] = H5 at hP5 aq ⊢
      refine mkL0 (.ptr (.arg 0) 0 0) [] (by rfl) ?_
      refine mkL0 (.ptr (.arg 0) 0 (0 + 1)) [] (by rfl) ?_
      try simp only [sets_nilE]
      refine mkL _ _ _ (st_fld (k := 1) (v := .sl (.own 51) gq 0 (0 + 1) 2 none) hP5.hR (show 1 < 5 by decide) rfl rfl) ?_
      refine ⟨by kernel_rfl, ?_⟩
      simp only [w28_28, w28_29, w28_29_0, w28_30, seqK]
      refine h0 hw _ (.own 51) gq (by simp) ?_
      rw [hw1]
      have hqv : queueV (r2.queue ++ [(na, toStr bs)]) = [.int .i64 (na : Int), .str (toStr bs)] := by
        rw [queueV_app]; rw [hq0]; rfl
      have hlen : (r2.queue ++ [(na, toStr bs)]).length = (0 + 1) := by simp [hq0]
      refine ⟨⟨?_, ?_, fun B gb e => ?_, fun e => (by cases e), by simp⟩, ⟨⟨0, keptV r2.kept, false, true⟩, ?_, rfl⟩, fun hb => ?_⟩
      · simp [Heap.sets, Heap.set, rcells, rq, hlen]
      · have := hP5.hA
        simp [Heap.sets, Heap.set]
        exact this
      · cases e
        refine ⟨?_, by simp, by simp⟩
        simp only [Heap.sets, Heap.set, hqv]
        rw [if_neg (by simp)]
        exact aq
      · simp [Heap.sets, Heap.set]
        exact hP5.hA
      · obtain ⟨_, hb2⟩ | ⟨hb1, _⟩ := rinn_cases bn
        · exact absurd hb2 hb
        · obtain ⟨z1, z2, z3⟩ := hP5.hB (.arg 2) 0 hb1
          exact ⟨_, by simp [Heap.sets, Heap.set]; exact z1, rfl⟩
    · by_cases hq0 : r2.queue = []
      · have _x := trivial
        refine mkL0 (.ptr (.arg 0) 0 0) [] (by rfl) ?_
        refine mkL (.sl (.own 40) (nextGen H1 (.own 40)) 0 0 2 (some 0)) [(.own 40, ⟨nextGen H1 (.own 40), [], false, true⟩)] [.own 40] (by kernel_rfl) ?_
        generalize nextGen H1 (.own 40) = g40
        have a40 : (Heap.sets H1 [(.own 40, ⟨g40, [], false, true⟩)]) (.own 40) = some ⟨g40, [], false, true⟩ := (by simp [Heap.sets, Heap.set])
        have hP2 : RI (Heap.sets H1 [(.own 40, ⟨g40, [], false, true⟩)]) bn r2 := hP.other (fun i hi => by
          have hne : i ≠ .own 40 := fun e => not_in_acc (by simp) (e ▸ hi)
          simp [Heap.sets, Heap.set, hne])
        generalize Heap.sets H1 [(.own 40, ⟨g40, [], false, true⟩)] = H2 at a40 hP2 ⊢
        refine mkL0 (.ptr (.arg 0) 0 0) [] (by rfl) ?_
        refine mkL0 (.ptr (.arg 0) 0 0) [] (by rfl) ?_
        refine mkL0 (.ptr (.arg 0) 0 (0 + 1)) [] (by rfl) ?_
        refine mkL (.sl (.arg 2) 0 0 r2.queue.length 2 none) [] [.arg 0] (ld_cell (j := 0 + 1) hP2.hR (by rw [hbn]; rfl)) ?_
        try simp only [sets_nilE]
        refine mkL (.sl (.own 40) g40 0 0 2 (some 0)) [(.own 40, ⟨g40, [], false, true⟩)] [.own 40, .arg 2] (app_e2 a40 (hP2.hB (.arg 2) 0 hbn).1 hq0) ?_
        have a40' : (Heap.sets H2 [(.own 40, ⟨g40, [], false, true⟩)]) (.own 40) = some ⟨g40, [], false, true⟩ := (by simp [Heap.sets, Heap.set])
        have hP3 : RI (Heap.sets H2 [(.own 40, ⟨g40, [], false, true⟩)]) bn r2 := hP2.other (fun i hi => by
          have hne : i ≠ .own 40 := fun e => not_in_acc (by simp) (e ▸ hi)
          simp [Heap.sets, Heap.set, hne])
        generalize Heap.sets H2 [(.own 40, ⟨g40, [], false, true⟩)] = H3 at a40' hP3 ⊢
        refine mkL0 (.int .i64 (na : Int)) [] (by rfl) ?_
        refine mkL0 (.list (bytesL bs) true) [] (by rfl) ?_
        try simp only [sets_nilE]
        refine mkL (.str (toStr bs)) [] [] conv_list ?_
        refine mkL0 (.agg [.int .i64 (na : Int), .str (toStr bs)]) [] (by kernel_rfl) ?_
        try simp only [sets_nilE]
        refine mkL (.sl (.own 50) (nextGen H3 (.own 50)) 0 1 2 (some 1)) [(.own 50, ⟨nextGen H3 (.own 50), [.int .i64 (na : Int), .str (toStr bs)], false, true⟩)] [.own 50] (by kernel_rfl) ?_
        generalize nextGen H3 (.own 50) = g50
        have a50 : (Heap.sets H3 [(.own 50, ⟨g50, [.int .i64 (na : Int), .str (toStr bs)], false, true⟩)]) (.own 50) = some ⟨g50, [.int .i64 (na : Int), .str (toStr bs)], false, true⟩ := (by simp [Heap.sets, Heap.set])
        have b4 : (Heap.sets H3 [(.own 50, ⟨g50, [.int .i64 (na : Int), .str (toStr bs)], false, true⟩)]) (.own 40) = some ⟨g40, [], false, true⟩ := by simp [Heap.sets, Heap.set]; exact a40'
        have hP4 : RI (Heap.sets H3 [(.own 50, ⟨g50, [.int .i64 (na : Int), .str (toStr bs)], false, true⟩)]) bn r2 := hP3.other (fun i hi => by
          have hne : i ≠ .own 50 := fun e => not_in_acc (by simp) (e ▸ hi)
          simp [Heap.sets, Heap.set, hne])
        generalize Heap.sets H3 [(.own 50, ⟨g50, [.int .i64 (na : Int), .str (toStr bs)], false, true⟩)] = H4 at a50 b4 hP4 ⊢
        refine mkL (.sl (.own 51) (nextGen H4 (.own 51)) 0 (0 + 1) 2 none) [(.own 51, ⟨nextGen H4 (.own 51), [.int .i64 (na : Int), .str (toStr bs)], false, true⟩)] [.own 40, .own 51, .own 50] (app_e3 b4 a50) ?_
        generalize nextGen H4 (.own 51) = gq
        have hP5 : RI (Heap.sets H4 [(.own 51, ⟨gq, [.int .i64 (na : Int), .str (toStr bs)], false, true⟩)]) bn r2 := hP4.other (fun i hi => by
          have hne : i ≠ .own 51 := fun e => not_in_acc (by simp) (e ▸ hi)
          simp [Heap.sets, Heap.set, hne])
        have aq : (Heap.sets H4 [(.own 51, ⟨gq, [.int .i64 (na : Int), .str (toStr bs)], false, true⟩)]) (.own 51) = some ⟨gq, [.int .i64 (na : Int), .str (toStr bs)], false, true⟩ := (by simp [Heap.sets, Heap.set])
        generalize Heap.sets H4 [(.own 51, ⟨gq, [.int .i64 (na : Int), .str (toStr bs)], false, true⟩)] = H5 at hP5 aq ⊢
        refine mkL0 (.ptr (.arg 0) 0 0) [] (by rfl) ?_
        refine mkL0 (.ptr (.arg 0) 0 (0 + 1)) [] (by rfl) ?_
        try simp only [sets_nilE]
        refine mkL _ _ _ (st_fld (k := 1) (v := .sl (.own 51) gq 0 (0 + 1) 2 none) hP5.hR (show 1 < 5 by decide) rfl rfl) ?_
        refine ⟨by kernel_rfl, ?_⟩
        simp only [w28_28, w28_29, w28_29_0, w28_30, seqK]
        refine h0 hw _ (.own 51) gq (by simp) ?_
        rw [hw1]
        have hqv : queueV (r2.queue ++ [(na, toStr bs)]) = [.int .i64 (na : Int), .str (toStr bs)] := by
          rw [queueV_app]; rw [hq0]; rfl
        have hlen : (r2.queue ++ [(na, toStr bs)]).length = (0 + 1) := by simp [hq0]
        refine ⟨⟨?_, ?_, fun B gb e => ?_, fun e => (by cases e), by simp⟩, ⟨⟨0, keptV r2.kept, false, true⟩, ?_, rfl⟩, fun hb => ?_⟩
        · simp [Heap.sets, Heap.set, rcells, rq, hlen]
        · have := hP5.hA
          simp [Heap.sets, Heap.set]
          exact this
        · cases e
          refine ⟨?_, by simp, by simp⟩
          simp only [Heap.sets, Heap.set, hqv]
          rw [if_neg (by simp)]
          exact aq
        · simp [Heap.sets, Heap.set]
          exact hP5.hA
        · obtain ⟨_, hb2⟩ | ⟨hb1, _⟩ := rinn_cases bn
          · exact absurd hb2 hb
          · obtain ⟨z1, z2, z3⟩ := hP5.hB (.arg 2) 0 hb1
            exact ⟨_, by simp [Heap.sets, Heap.set]; exact z1, rfl⟩
      · have _x := trivial
        refine mkL0 (.ptr (.arg 0) 0 0) [] (by rfl) ?_
        refine mkL (.sl (.own 40) (nextGen H1 (.own 40)) 0 0 2 (some 0)) [(.own 40, ⟨nextGen H1 (.own 40), [], false, true⟩)] [.own 40] (by kernel_rfl) ?_
        generalize nextGen H1 (.own 40) = g40
        have a40 : (Heap.sets H1 [(.own 40, ⟨g40, [], false, true⟩)]) (.own 40) = some ⟨g40, [], false, true⟩ := (by simp [Heap.sets, Heap.set])
        have hP2 : RI (Heap.sets H1 [(.own 40, ⟨g40, [], false, true⟩)]) bn r2 := hP.other (fun i hi => by
          have hne : i ≠ .own 40 := fun e => not_in_acc (by simp) (e ▸ hi)
          simp [Heap.sets, Heap.set, hne])
        generalize Heap.sets H1 [(.own 40, ⟨g40, [], false, true⟩)] = H2 at a40 hP2 ⊢
        refine mkL0 (.ptr (.arg 0) 0 0) [] (by rfl) ?_
        refine mkL0 (.ptr (.arg 0) 0 0) [] (by rfl) ?_
        refine mkL0 (.ptr (.arg 0) 0 (0 + 1)) [] (by rfl) ?_
        refine mkL (.sl (.arg 2) 0 0 r2.queue.length 2 none) [] [.arg 0] (ld_cell (j := 0 + 1) hP2.hR (by rw [hbn]; rfl)) ?_
        try simp only [sets_nilE]
        refine mkL (.sl (.own 45) (nextGen H2 (.own 45)) 0 r2.queue.length 2 none) [(.own 45, ⟨nextGen H2 (.own 45), queueV r2.queue, false, true⟩)] [.own 40, .own 45, .arg 2] (app_n1 a40 (hP2.hB (.arg 2) 0 hbn).1 hq0 hk2.n) ?_
        generalize nextGen H2 (.own 45) = g45
        have a45 : (Heap.sets H2 [(.own 45, ⟨g45, queueV r2.queue, false, true⟩)]) (.own 45) = some ⟨g45, queueV r2.queue, false, true⟩ := (by simp [Heap.sets, Heap.set])
        have hP3 : RI (Heap.sets H2 [(.own 45, ⟨g45, queueV r2.queue, false, true⟩)]) bn r2 := hP2.other (fun i hi => by
          have hne : i ≠ .own 45 := fun e => not_in_acc (by simp) (e ▸ hi)
          simp [Heap.sets, Heap.set, hne])
        generalize Heap.sets H2 [(.own 45, ⟨g45, queueV r2.queue, false, true⟩)] = H3 at a45 hP3 ⊢
        refine mkL0 (.int .i64 (na : Int)) [] (by rfl) ?_
        refine mkL0 (.list (bytesL bs) true) [] (by rfl) ?_
        try simp only [sets_nilE]
        refine mkL (.str (toStr bs)) [] [] conv_list ?_
        refine mkL0 (.agg [.int .i64 (na : Int), .str (toStr bs)]) [] (by kernel_rfl) ?_
        try simp only [sets_nilE]
        refine mkL (.sl (.own 50) (nextGen H3 (.own 50)) 0 1 2 (some 1)) [(.own 50, ⟨nextGen H3 (.own 50), [.int .i64 (na : Int), .str (toStr bs)], false, true⟩)] [.own 50] (by kernel_rfl) ?_
        generalize nextGen H3 (.own 50) = g50
        have a50 : (Heap.sets H3 [(.own 50, ⟨g50, [.int .i64 (na : Int), .str (toStr bs)], false, true⟩)]) (.own 50) = some ⟨g50, [.int .i64 (na : Int), .str (toStr bs)], false, true⟩ := (by simp [Heap.sets, Heap.set])
        have b4 : (Heap.sets H3 [(.own 50, ⟨g50, [.int .i64 (na : Int), .str (toStr bs)], false, true⟩)]) (.own 45) = some ⟨g45, queueV r2.queue, false, true⟩ := by simp [Heap.sets, Heap.set]; exact a45
        have hP4 : RI (Heap.sets H3 [(.own 50, ⟨g50, [.int .i64 (na : Int), .str (toStr bs)], false, true⟩)]) bn r2 := hP3.other (fun i hi => by
          have hne : i ≠ .own 50 := fun e => not_in_acc (by simp) (e ▸ hi)
          simp [Heap.sets, Heap.set, hne])
        generalize Heap.sets H3 [(.own 50, ⟨g50, [.int .i64 (na : Int), .str (toStr bs)], false, true⟩)] = H4 at a50 b4 hP4 ⊢
        refine mkL (.sl (.own 45) (g45 + 1) 0 (r2.queue.length + 1) 2 none) [(.own 45, ⟨g45 + 1, queueV r2.queue ++ [.int .i64 (na : Int), .str (toStr bs)], false, true⟩)] [.own 45, .own 50] (app_n2 b4 a50 hk2.n) ?_
        have hP5 : RI (Heap.sets H4 [(.own 45, ⟨(g45 + 1), queueV r2.queue ++ [.int .i64 (na : Int), .str (toStr bs)], false, true⟩)]) bn r2 := hP4.other (fun i hi => by
          have hne : i ≠ .own 45 := fun e => not_in_acc (by simp) (e ▸ hi)
          simp [Heap.sets, Heap.set, hne])
        have aq : (Heap.sets H4 [(.own 45, ⟨(g45 + 1), queueV r2.queue ++ [.int .i64 (na : Int), .str (toStr bs)], false, true⟩)]) (.own 45) = some ⟨(g45 + 1), queueV r2.queue ++ [.int .i64 (na : Int), .str (toStr bs)], false, true⟩ := (by simp [Heap.sets, Heap.set])
        generalize Heap.sets H4 [(.own 45, ⟨(g45 + 1), queueV r2.queue ++ [.int .i64 (na : Int), .str (toStr bs)], false, true⟩)] = H5 at hP5 aq ⊢
        refine mkL0 (.ptr (.arg 0) 0 0) [] (by rfl) ?_
        refine mkL0 (.ptr (.arg 0) 0 (0 + 1)) [] (by rfl) ?_
        try simp only [sets_nilE]
        refine mkL _ _ _ (st_fld (k := 1) (v := .sl (.own 45) (g45 + 1) 0 (r2.queue.length + 1) 2 none) hP5.hR (show 1 < 5 by decide) rfl rfl) ?_
        refine ⟨by kernel_rfl, ?_⟩
        simp only [w28_28, w28_29, w28_29_0, w28_30, seqK]
        refine h0 hw _ (.own 45) (g45 + 1) (by simp) ?_
        rw [hw1]
        have hqv : queueV (r2.queue ++ [(na, toStr bs)]) = queueV r2.queue ++ [.int .i64 (na : Int), .str (toStr bs)] := by
          rw [queueV_app]
        have hlen : (r2.queue ++ [(na, toStr bs)]).length = (r2.queue.length + 1) := by simp
        refine ⟨⟨?_, ?_, fun B gb e => ?_, fun e => (by cases e), by simp⟩, ⟨⟨0, keptV r2.kept, false, true⟩, ?_, rfl⟩, fun hb => ?_⟩
        · simp [Heap.sets, Heap.set, rcells, rq, hlen]
        · have := hP5.hA
          simp [Heap.sets, Heap.set]
          exact this
        · cases e
          refine ⟨?_, by simp, by simp⟩
          simp only [Heap.sets, Heap.set, hqv]
          rw [if_neg (by simp)]
          exact aq
        · simp [Heap.sets, Heap.set]
          exact hP5.hA
        · obtain ⟨_, hb2⟩ | ⟨hb1, _⟩ := rinn_cases bn
          · exact absurd hb2 hb
          · obtain ⟨z1, z2, z3⟩ := hP5.hB (.arg 2) 0 hb1
            exact ⟨_, by simp [Heap.sets, Heap.set]; exact z1, rfl⟩
  by_cases hc0 : r.cap ≥ 0
  · rw [decide_eq_true hc0]
    refine gp (gp (gy0 (.ptr (.arg 0) 0 0) (by rfl) (gy0 (.ptr (.arg 0) 0 (0 + 3)) (by rfl) (gy (.int .i64 r.cap) [] [.arg 0] (ld_cell (j := 0 + 3) hP.hR (by rfl)) (gy0 _ (bin_geq ..) ?_)))))
    try simp only [sets_nilE]
    by_cases hc1 : n ≥ r.cap
    · rw [decide_eq_true hc1]
      refine mk0 (.bool true) (by rfl) ?_
      refine condT ?_
      simp only [w28_22, w28_23, w28_23_0, w28_24, seqK]
      have e : rwrite r n bs = (rpow r, 7) := by unfold rwrite; rw [if_neg good, if_neg (by rw [hd]; simp), if_pos ⟨hc0, hc1⟩]
      have := h1 (by rw [e]; simp) H1
      rw [e] at this
      exact this (RI.out hP)
    · rw [decide_eq_false hc1]
      refine mk0 (.bool false) (by rfl) ?_
      refine condF ?_
      simp only [w28_25, seqK]
      exact tail (fun h => hc1 h.2) _ _ _ _ _ _ _ _ _ _ _ _ _ _ _ _ _ _ _ _ _ _ _ _ _ _ _ _ _ _ _ _ _ _ _ _ _ _ _ _ _ _ _ _ _ _ _
  · rw [decide_eq_false hc0]
    repeat (first | refine gnf ?_ | refine gnu ?_)
    refine mk0 (.bool false) (by rfl) ?_
    refine condF ?_
    simp only [w28_25, seqK]
    exact tail (fun h => hc0 h.1) _ _ _ _ _ _ _ _ _ _ _ _ _ _ _ _ _ _ _ _ _ _ _ _ _ _ _ _ _ _ _ _ _ _ _ _ _ _ _ _ _ _ _ _ _ _ _
end Go.Proofs.Ytcamcfplcoklkaa.Iv

namespace Go.Proofs.Ytcamcfplcoklkaa.Iv
open Go
set_option linter.unusedVariables false
set_option linter.unusedSimpArgs false
set_option maxRecDepth 100000

def rmeant (r : RD) (a : Act4) : RD × List UInt8 × Int :=
  if a.d = 0 then (r, r.read a.n)
  else if a.d = 1 then ((rwrite r a.n a.b).1, [], (rwrite r a.n a.b).2)
  else if a.d = 2 then ((rsync r).1, [], (rsync r).2)
  else if a.d = 3 then ({ r with trip := maxm a.n }, [], 0)
  else if a.d = 4 then ({ r with cap := maxm a.n }, [], 0)
  else if a.d = 5 then (rcrash r a.n a.m, [], 0)
  else (r, [], 0)
/-- where what is left lies -/
def kSQ (r : RD) (a : Act4) : Prop := a.d = 1 ∧ (rwrite r a.n a.b).2 = 0
def kKN (r : RD) (a : Act4) : Prop := (a.d = 2 ∧ (rpow r).dark = false) ∨ a.d = 5
def nSQ (i : Id) : Prop := i = .sub 23 (.own 45) ∨ i = .sub 23 (.own 51)
def nKN (i : Id) : Prop := i = .sub 27 (.sub 12 (.own 11)) ∨ i = .sub 51 (.sub 19 (.own 11))
theorem RF.old {H : Heap} {bn : Option (Id × Nat)} (h : ∀ B gb, rInn bn = some (B, gb) → ∃ b, H B = some b ∧ b.flat = true) : bn ≠ none → ∃ b, H (.arg 2) = some b ∧ b.flat = true := fun hb => by
  obtain ⟨_, hb2⟩ | ⟨hb1, _⟩ := rinn_cases bn
  · exact absurd hb2 hb
  · exact h (.arg 2) 0 hb1
set_option maxHeartbeats 8000000 in
/-- meant: an act at the reference -/
theorem meant_body {H : Heap} {bn : Option (Id × Nat)} {r : RD} {a : Act4} {g3 : Nat} (h : RI H bn r) (ha : H (.own 3) = some ⟨g3, actV a, false, false⟩) (hk : ROk r) {Q : V → Heap → Prop}
    (hSS : ¬ kSQ r a → ¬ kKN r a → ∀ H', RO H' bn none none (rmeant r a).1 → Q (.tup [.str (rmeant r a).2.1, .int .i64 (rmeant r a).2.2]) H')
    (hSQ : kSQ r a → ∀ H' qa qg, nSQ qa → RO H' bn none (some (some (qa, qg))) (rmeant r a).1 → Q (.tup [.str (rmeant r a).2.1, .int .i64 (rmeant r a).2.2]) H')
    (hKN : kKN r a → ∀ H' ka kg, nKN ka → RO H' bn (some (ka, kg)) (some none) (rmeant r a).1 → Q (.tup [.str (rmeant r a).2.1, .int .i64 (rmeant r a).2.2]) H') : ∀ t1 t2 t4 t5 t6 t7 t8 t9 t10 t11 t12 t13 t14 t15 t16 t17 t18 t19 t20 t21 t22 t23 t24 t25 t26 t27 t28 t29 t30 t31 t32 t33 t34 t35 t36 t37 t38 t39 t40 t41 t42 t43 t44 t45 t46 t47 t48 t49 t50 t51,
    wC Try.prog dcfg.pol (CallR dcfg) (LoopR dcfg) c13_2 [.ptr (.arg 0) 0 0, t1, t2, .ptr (.own 3) g3 0, t4, t5, t6, t7, t8, t9, t10, t11, t12, t13, t14, t15, t16, t17, t18, t19, t20, t21, t22, t23, t24, t25, t26, t27, t28, t29, t30, t31, t32, t33, t34, t35, t36, t37, t38, t39, t40, t41, t42, t43, t44, t45, t46, t47, t48, t49, t50, t51] H (wRes Try.prog [.tmp 4, .tmp 5] Q) := by
  intro t1 t2 t4 t5 t6 t7 t8 t9 t10 t11 t12 t13 t14 t15 t16 t17 t18 t19 t20 t21 t22 t23 t24 t25 t26 t27 t28 t29 t30 t31 t32 t33 t34 t35 t36 t37 t38 t39 t40 t41 t42 t43 t44 t45 t46 t47 t48 t49 t50 t51
  have fin : ∀ (env : List V) (H' : Heap) (s : List UInt8) (e : Int) (ex : Ex), (ex = .ret ∨ ex = .nrm) → env.getD 4 .und = .str s → env.getD 5 .und = .int .i64 e → Q (.tup [.str s, .int .i64 e]) H' → wRes Try.prog [.tmp 4, .tmp 5] Q ex env H' := by
    intro env H' s e ex he h4 h5 hq
    rcases he with rfl | rfl <;> simp only [wRes, evResults, evResult, h4, h5] <;> exact hq
  have ld : ∀ {k : Nat} {v : V}, (actV a)[k]? = some v → ldR 1 false H (.ptr (.own 3) g3 (0 + k)) = some ⟨v, [], [.own 3]⟩ := fun hv => by rw [Nat.zero_add]; exact ld_cell ha hv
  simp only [w13_2, w13_3, w13_4, w13_4_0, w13_5, w13_6, w13_7, w13_7_0, w13_8, seqK, blockK, fa36_0, ld3b]
  refine mk0 (.ptr (.own 3) g3 (0 + 0)) (by rfl) ?_
  refine mk (.int .i64 a.d) [] [.own 3] (ld rfl) ?_
  simp only [sets_nilE]
  refine mk0 _ (bin_eql ..) ?_
  by_cases d0 : a.d = 0
  · have e : (a.d == 0) = true := by simpa using d0
    rw [e]
    refine condT ?_
    have hd : rmeant r a = (r, r.read a.n) := by simp only [rmeant, if_pos d0]
    rw [hd] at hSS
    simp only [w13_9, w13_10, w13_10_0, w13_11, seqK, blockK, fa36_1, ld3b]
    refine mk0 (.ptr (.own 3) g3 (0 + 1)) (by rfl) ?_
    refine mk (.int .i64 a.n) [] [.own 3] (ld rfl) ?_
    simp only [sets_nilE]
    refine rread_call (Q := fun o => _) h hk.n hk.l2 (fun rd => ?_)
    refine mk0 (.str (r.read a.n).1) (by rfl) ?_
    refine mk0 (.int .i64 (r.read a.n).2) (by rfl) ?_
    refine fin _ _ (r.read a.n).1 (r.read a.n).2 _ (.inl rfl) (by rfl) (by rfl) ?_
    exact hSS (fun hh => by have := hh.1; omega) (fun hh => by rcases hh with hh | hh <;> omega) H (RI.out h)
  have e : (a.d == 0) = false := by simpa using d0
  rw [e]
  refine condF ?_
  simp only [w13_12, w13_13, w13_13_0, w13_14, seqK, blockK]
  refine mk0 _ (bin_eql ..) ?_
  by_cases d1 : a.d = 1
  · have e : (a.d == 1) = true := by simpa using d1
    rw [e]
    refine condT ?_
    have hd : rmeant r a = ((rwrite r a.n a.b).1, [], (rwrite r a.n a.b).2) := by simp only [rmeant, if_neg d0, if_pos d1]
    rw [hd] at hSS hSQ
    simp only [w13_15, w13_16, w13_16_0, w13_17, seqK, blockK, fa36_1, fa36_3, ld3b, ld34]
    refine mk0 (.ptr (.own 3) g3 (0 + 1)) (by rfl) ?_
    refine mk (.int .i64 a.n) [] [.own 3] (ld rfl) ?_
    simp only [sets_nilE]
    refine mk0 (.ptr (.own 3) g3 (0 + 3)) (by rfl) ?_
    refine mk (bytesV a.b) [] [.own 3] (ld rfl) ?_
    simp only [sets_nilE]
    have ho : (dcfg.pol 28).own = false := by kernel_rfl
    have hA : argsIn H (dcfg.pol 28).modes [.ptr (.arg 0) 0 0, .int .i64 a.n, bytesV a.b] = some ([.ptr (.arg 0) 0 0, .int .i64 a.n, .list (bytesL a.b) true], [], []) := by kernel_rfl
    by_cases hw : (rwrite r a.n a.b).2 = 0
    · refine rcall_sq (Q := fun o => _) (x := .int .i64 0) (r2 := (rwrite r a.n a.b).1) h hA rfl (fun _ _ hh => by cases hh) (fun H' => by rw [ho]; rfl) rfl rfl (Pq := fun i => i = .own 45 ∨ i = .own 51) (fun i hi => ?_) (fun Hin hI => ?_) (fun qa g' us rd' hqa hF _ hB => ?_)
      · refine ⟨by rcases hi with rfl | rfl <;> simp, by rcases hi with rfl | rfl <;> rfl, ?_⟩
        rw [newName_arg]; exact not_in_acc (by simp)
      · have hI2 : RI Hin (rInn bn) r := hI
        exact rwrite_spec hI2 hk (fun hne => absurd hw hne) (fun _ H' qa qg hq hO => ⟨rfl, qa, qg, hq, hO⟩)
      · rw [newName_arg] at hF
        refine fin _ _ [] 0 _ (.inl rfl) (by rfl) (by rfl) ?_
        have hRO : RO (H.sets us) bn none (some (some (.sub 23 qa, g'))) (rwrite r a.n a.b).1 := ⟨hF, ⟨_, hF.hA, rfl⟩, RF.old hB⟩
        have := hSQ ⟨d1, hw⟩ _ _ g' (by rcases hqa with rfl | rfl; exact .inl rfl; exact .inr rfl) hRO
        rw [hw] at this
        exact this
    · refine rcall_ss (Q := fun o => _) (x := .int .i64 (rwrite r a.n a.b).2) (r2 := (rwrite r a.n a.b).1) h hA rfl (fun _ _ hh => by cases hh) (fun H' => by rw [ho]; rfl) rfl rfl (fun Hin hI => ?_) (fun us rd' hF _ => ?_)
      · have hI2 : RI Hin (rInn bn) r := hI
        exact rwrite_spec hI2 hk (fun _ H' hO => ⟨rfl, hO⟩) (fun he => absurd he hw)
      · refine fin _ _ [] (rwrite r a.n a.b).2 _ (.inl rfl) (by rfl) (by rfl) ?_
        exact hSS (fun hh => hw hh.2) (fun hh => by rcases hh with hh | hh <;> omega) _ (RI.out hF)
  have e : (a.d == 1) = false := by simpa using d1
  rw [e]
  refine condF ?_
  simp only [w13_18, w13_19, w13_19_0, w13_20, seqK, blockK]
  refine mk0 _ (bin_eql ..) ?_
  by_cases d2 : a.d = 2
  · have e : (a.d == 2) = true := by simpa using d2
    rw [e]
    refine condT ?_
    have hd : rmeant r a = ((rsync r).1, [], (rsync r).2) := by simp only [rmeant, if_neg d0, if_neg d1, if_pos d2]
    rw [hd] at hSS hKN
    simp only [w13_21, w13_22, w13_22_0, w13_23, seqK, blockK]
    have ho : (dcfg.pol 29).own = false := by kernel_rfl
    have hA : argsIn H (dcfg.pol 29).modes [.ptr (.arg 0) 0 0] = some ([.ptr (.arg 0) 0 0], [], []) := by kernel_rfl
    by_cases hw : (rpow r).dark = true
    · have hs : rsync r = (rpow r, 11) := by unfold rsync; rw [if_pos hw]
      rw [hs] at hSS
      refine rcall_ss (Q := fun o => _) (x := .int .i64 11) (r2 := rpow r) h hA rfl (fun _ _ hh => by cases hh) (fun H' => by rw [ho]; rfl) rfl rfl (fun Hin hI => ?_) (fun us rd' hF _ => ?_)
      · have hI2 : RI Hin (rInn bn) r := hI
        exact rsync_spec hI2 hk (fun _ H' hO => ⟨rfl, hO⟩) (fun he => by rw [hw] at he; cases he)
      · refine fin _ _ [] 11 _ (.inl rfl) (by rfl) (by rfl) ?_
        exact hSS (fun hh => by have := hh.1; omega) (fun hh => by rcases hh with hh | hh; rw [hw] at hh; cases hh.2; omega) _ (RI.out hF)
    · have hw' : (rpow r).dark = false := by simpa using hw
      have hs : rsync r = ({ rlast (rpow r) (rpow r).queue.length with queue := [] }, 0) := by unfold rsync; rw [if_neg hw]
      rw [hs] at hKN
      refine rcall_kn (Q := fun o => _) (x := .int .i64 0) (r2 := { rlast (rpow r) (rpow r).queue.length with queue := [] }) h hA rfl (fun _ _ hh => by cases hh) (fun H' => by rw [ho]; rfl) rfl rfl (Pk := fun i => i = .sub 12 (.own 11)) (fun i hi => ?_) (fun Hin hI => ?_) (fun ka g' us rd' hka hF _ hA1 hB => ?_)
      · subst hi
        refine ⟨by simp, rfl, ?_⟩
        rw [newName_arg]; exact not_in_acc (by simp)
      · have hI2 : RI Hin (rInn bn) r := hI
        exact rsync_spec hI2 hk (fun he => absurd he hw) (fun _ H' kg hO => ⟨rfl, _, kg, rfl, hO⟩)
      · subst hka
        rw [newName_arg] at hF
        refine fin _ _ [] 0 _ (.inl rfl) (by rfl) (by rfl) ?_
        have hRO : RO (H.sets us) bn (some (.sub 27 (.sub 12 (.own 11)), g')) (some none) { rlast (rpow r) (rpow r).queue.length with queue := [] } := ⟨hF, hA1, RF.old hB⟩
        exact hKN (.inl ⟨d2, hw'⟩) _ _ g' (.inl rfl) hRO
  have e : (a.d == 2) = false := by simpa using d2
  rw [e]
  refine condF ?_
  simp only [w13_24, w13_25, w13_25_0, w13_26, seqK, blockK]
  refine mk0 _ (bin_eql ..) ?_
  have nsq : ¬ kSQ r a := fun hh => d1 hh.1
  by_cases d3 : a.d = 3
  · have e : (a.d == 3) = true := by simpa using d3
    rw [e]
    refine condT ?_
    have hd : rmeant r a = ({ r with trip := maxm a.n }, [], 0) := by simp only [rmeant, if_neg d0, if_neg d1, if_neg d2, if_pos d3]
    rw [hd] at hSS
    simp only [w13_27, w13_27_0, w13_37, w13_38, w13_38_0, w13_39, seqK, blockK, fa36_1, fa41_2, ld3b, st3b]
    refine mk0 (.ptr (.own 3) g3 (0 + 1)) (by rfl) ?_
    refine mk (.int .i64 a.n) [] [.own 3] (ld rfl) ?_
    refine mk0 (.int .i64 (maxm a.n)) (by rfl) ?_
    refine mk0 (.ptr (.arg 0) 0 0) (by rfl) ?_
    refine mk0 (.ptr (.arg 0) 0 (0 + 2)) (by rfl) ?_
    simp only [sets_nilE]
    refine mk _ _ _ (st_fld (k := 2) (v := .int .i64 (maxm a.n)) h.hR (show 2 < 5 by decide) rfl rfl) ?_
    rw [rc_set2]
    refine fin _ _ [] 0 _ (.inl rfl) (by rfl) (by rfl) ?_
    have h2 : RI (H.sets [(.arg 0, ⟨0, rcells (.arg 1) 0 (rInn bn) { r with trip := maxm a.n }, false, false⟩)]) bn { r with trip := maxm a.n } := h.set rfl rfl
    exact hSS nsq (fun hh => by rcases hh with hh | hh <;> omega) _ (RI.out h2)
  have e : (a.d == 3) = false := by simpa using d3
  rw [e]
  refine condF ?_
  simp only [w13_28, w13_29, w13_29_0, w13_30, seqK, blockK]
  refine mk0 _ (bin_eql ..) ?_
  by_cases d4 : a.d = 4
  · have e : (a.d == 4) = true := by simpa using d4
    rw [e]
    refine condT ?_
    have hd : rmeant r a = ({ r with cap := maxm a.n }, [], 0) := by simp only [rmeant, if_neg d0, if_neg d1, if_neg d2, if_neg d3, if_pos d4]
    rw [hd] at hSS
    simp only [w13_31, w13_31_0, w13_37, w13_38, w13_38_0, w13_39, seqK, blockK, fa36_1, fa41_3, ld3b, st3b]
    refine mk0 (.ptr (.own 3) g3 (0 + 1)) (by rfl) ?_
    refine mk (.int .i64 a.n) [] [.own 3] (ld rfl) ?_
    refine mk0 (.int .i64 (maxm a.n)) (by rfl) ?_
    refine mk0 (.ptr (.arg 0) 0 0) (by rfl) ?_
    refine mk0 (.ptr (.arg 0) 0 (0 + 3)) (by rfl) ?_
    simp only [sets_nilE]
    refine mk _ _ _ (st_fld (k := 3) (v := .int .i64 (maxm a.n)) h.hR (show 3 < 5 by decide) rfl rfl) ?_
    rw [rc_set3]
    refine fin _ _ [] 0 _ (.inl rfl) (by rfl) (by rfl) ?_
    have h2 : RI (H.sets [(.arg 0, ⟨0, rcells (.arg 1) 0 (rInn bn) { r with cap := maxm a.n }, false, false⟩)]) bn { r with cap := maxm a.n } := h.set rfl rfl
    exact hSS nsq (fun hh => by rcases hh with hh | hh <;> omega) _ (RI.out h2)
  have e : (a.d == 4) = false := by simpa using d4
  rw [e]
  refine condF ?_
  simp only [w13_32, w13_33, w13_33_0, w13_34, seqK, blockK]
  refine mk0 _ (bin_eql ..) ?_
  by_cases d5 : a.d = 5
  · have e : (a.d == 5) = true := by simpa using d5
    rw [e]
    refine condT ?_
    have hd : rmeant r a = (rcrash r a.n a.m, [], 0) := by simp only [rmeant, if_neg d0, if_neg d1, if_neg d2, if_neg d3, if_neg d4, if_pos d5]
    rw [hd] at hKN
    simp only [w13_35, w13_35_0, w13_37, w13_38, w13_38_0, w13_39, seqK, blockK, fa36_1, fa36_2, ld3b]
    refine mk0 (.ptr (.own 3) g3 (0 + 1)) (by rfl) ?_
    refine mk (.int .i64 a.n) [] [.own 3] (ld rfl) ?_
    simp only [sets_nilE]
    refine mk0 (.ptr (.own 3) g3 (0 + 2)) (by rfl) ?_
    refine mk (.int .i64 a.m) [] [.own 3] (ld rfl) ?_
    simp only [sets_nilE]
    have ho : (dcfg.pol 30).own = false := by kernel_rfl
    have hA : argsIn H (dcfg.pol 30).modes [.ptr (.arg 0) 0 0, .int .i64 a.n, .int .i64 a.m] = some ([.ptr (.arg 0) 0 0, .int .i64 a.n, .int .i64 a.m], [], []) := by kernel_rfl
    refine rcall_kn (Q := fun o => _) (x := .tup []) (r2 := rcrash r a.n a.m) h hA rfl (fun _ _ hh => by cases hh) (fun H' => by rw [ho]; rfl) rfl rfl (Pk := fun i => i = .sub 19 (.own 11)) (fun i hi => ?_) (fun Hin hI => ?_) (fun ka g' us rd' hka hF _ hA1 hB => ?_)
    · subst hi
      refine ⟨by simp, rfl, ?_⟩
      rw [newName_arg]; exact not_in_acc (by simp)
    · have hI2 : RI Hin (rInn bn) r := hI
      exact rcrash_spec hI2 hk (fun H' kg hO => ⟨rfl, _, kg, rfl, hO⟩)
    · subst hka
      rw [newName_arg] at hF
      refine fin _ _ [] 0 _ (.inl rfl) (by rfl) (by rfl) ?_
      have hRO : RO (H.sets us) bn (some (.sub 51 (.sub 19 (.own 11)), g')) (some none) (rcrash r a.n a.m) := ⟨hF, hA1, RF.old hB⟩
      exact hKN (.inr d5) _ _ g' (.inr rfl) hRO
  have e : (a.d == 5) = false := by simpa using d5
  rw [e]
  refine condF ?_
  simp only [w13_36, w13_37, w13_38, w13_38_0, w13_39, seqK, blockK]
  have hd : rmeant r a = (r, [], 0) := by simp only [rmeant, if_neg d0, if_neg d1, if_neg d2, if_neg d3, if_neg d4, if_neg d5]
  rw [hd] at hSS
  refine fin _ _ [] 0 _ (.inl rfl) (by rfl) (by rfl) ?_
  exact hSS nsq (fun hh => by rcases hh with hh | hh <;> omega) H (RI.out h)
theorem meant_spec {H : Heap} {bn : Option (Id × Nat)} {r : RD} {a : Act4} (h : RI H bn r) (hk : ROk r) {Q : V → Heap → Prop}
    (hSS : ¬ kSQ r a → ¬ kKN r a → ∀ H', RO H' bn none none (rmeant r a).1 → Q (.tup [.str (rmeant r a).2.1, .int .i64 (rmeant r a).2.2]) H')
    (hSQ : kSQ r a → ∀ H' qa qg, nSQ qa → RO H' bn none (some (some (qa, qg))) (rmeant r a).1 → Q (.tup [.str (rmeant r a).2.1, .int .i64 (rmeant r a).2.2]) H')
    (hKN : kKN r a → ∀ H' ka kg, nKN ka → RO H' bn (some (ka, kg)) (some none) (rmeant r a).1 → Q (.tup [.str (rmeant r a).2.1, .int .i64 (rmeant r a).2.2]) H') : CallR dcfg 13 [.ptr (.arg 0) 0 0, .agg (actV a)] H Q := by
  refine CallR.body' (K := dcfg) (f := 13) (fn := Try.f13) (c := c13_0) (env := [.ptr (.arg 0) 0 0, .agg (actV a), .und, .und, .und, .und, .und, .und, .und, .und, .und, .und, .und, .und, .und, .und, .und, .und, .und, .und, .und, .und, .und, .und, .und, .und, .und, .und, .und, .und, .und, .und, .und, .und, .und, .und, .und, .und, .und, .und, .und, .und, .und, .und, .und, .und, .und, .und, .und, .und, .und, .und]) (rs := [.tmp 4, .tmp 5]) rfl (by kernel_rfl) (by kernel_rfl) (by kernel_rfl) (by kernel_rfl) (by kernel_rfl) (by kernel_rfl) ?_
  show wC Try.prog dcfg.pol (CallR dcfg) (LoopR dcfg) c13_0 _ _ (wRes Try.prog _ _)
  simp only [w13_0, w13_1, w13_1_0, seqK]
  have hbox : boxO H 3 (.agg (actV a)) = some ⟨.ptr (.own 3) (nextGen H (.own 3)) 0, [(.own 3, ⟨nextGen H (.own 3), actV a, false, false⟩)], [.own 3]⟩ := by kernel_rfl
  refine mk _ _ _ hbox ?_
  refine meant_body (h.other (fun i hi => ?_)) (by simp [Heap.sets, Heap.set]) hk hSS hSQ hKN _ _ _ _ _ _ _ _ _ _ _ _ _ _ _ _ _ _ _ _ _ _ _ _ _ _ _ _ _ _ _ _ _ _ _ _ _ _ _ _ _ _ _ _ _ _ _ _ _ _
  have hne : i ≠ .own 3 := fun e => not_in_acc (by simp) (e ▸ hi)
  simp [Heap.sets, Heap.set, hne]
end Go.Proofs.Ytcamcfplcoklkaa.Iv

namespace Go.Proofs.Ytcamcfplcoklkaa.Iv
open Go
set_option linter.unusedVariables false
set_option linter.unusedSimpArgs false
set_option maxRecDepth 100000

def z64 : List UInt8 := List.replicate 64 0
theorem nought_ev {H : Heap} : evCall (run dcfg 40) dcfg.pol H 23 26 [] = some ⟨.str z64, [], []⟩ := by kernel_rfl
/-- the sectors as they grow -/
def OutK (H : Heap) (x : V) (cs : List V) : Prop := (x = .nils ∧ cs = []) ∨ ∃ g, x = .sl (.own 25) g 0 cs.length 1 none ∧ H (.own 25) = some ⟨g, cs, false, true⟩
theorem app_k {H : Heap} {x : V} {cs : List V} {s : List UInt8} {gg : Nat} (h : OutK H x cs) (h2 : H (.own 24) = some ⟨gg, [.str s], false, true⟩) (hl : cs.length ≤ 1000000) : ∃ g, evAppend Try.prog H 25 38 38 x (.sl (.own 24) gg 0 1 1 (some 1)) = some ⟨.sl (.own 25) g 0 (cs ++ [V.str s]).length 1 none, [(.own 25, ⟨g, cs ++ [.str s], false, true⟩)], [.own 25, .own 24]⟩ := by
  have l2 : live H (.own 24) gg = some ⟨gg, [.str s], false, true⟩ := by simp [live, h2]
  have hs : appSrc Try.prog H 1 [.str []] 38 (.sl (.own 24) gg 0 1 1 (some 1)) = some ([.str s], 1, true, [.own 24]) := by
    simp only [appSrc, u38s, src, l2]
    rfl
  rcases h with ⟨rfl, rfl⟩ | ⟨g, rfl, h1⟩
  · refine ⟨nextGen H (.own 25), ?_⟩
    unfold evAppend
    simp only [u38s, sz9, by9, z9, hs]
    simp [lim47]
  · have l1 : live H (.own 25) g = some ⟨g, cs, false, true⟩ := by simp [live, h1]
    have c1 : (cs.length + 1) * 16 ≤ lim47 := by unfold lim47; omega
    have c2 : cut cs 0 cs.length = some cs := cut_all cs
    refine ⟨g + 1, ?_⟩
    unfold evAppend
    simp only [u38s, sz9, by9, z9, hs, l1]
    simp [c1, c2]
structure NI (H : Heap) (x : V) (k : Nat) : Prop where
  h12 : H (.own 12) = some ⟨0, [x, .nils, .int .i64 (-1), .int .i64 (-1), .bool false], false, false⟩
  hx : OutK H x (keptV (List.replicate k z64))
theorem rep_succ {k : Nat} : keptV (List.replicate k z64) ++ [V.str z64] = keptV (List.replicate (k + 1) z64) := by
  rw [List.replicate_succ']; simp [keptV]
set_option maxHeartbeats 4000000 in
theorem rnew_loop {N : Nat} (hN : N ≤ 4096) {Q : KQ} (hx : ∀ (H' : Heap) (x : V) t1 t4 t5 t6 t7 t8 t9 t10 t11 t12 t13 t14 t15 t16 t17 t18 t19 t20 t21 t22 t23 t24 t25 t26 t27 t28, NI H' x N → Q (.exit 0) [.int .i64 (N : Int), t1, .nilp, .ptr (.own 12) 0 0, t4, t5, t6, t7, t8, t9, t10, t11, t12, t13, t14, t15, t16, t17, t18, t19, t20, t21, t22, t23, t24, t25, t26, t27, t28] H') :
    ∀ (m k : Nat), k + m = N → ∀ (H : Heap) (x : V) t1 t5 t6 t7 t8 t9 t10 t11 t12 t13 t14 t15 t16 t17 t18 t19 t20 t21 t22 t23 t24 t25 t26 t27 t28, NI H x k → LoopR dcfg c11_17 [.int .i64 (N : Int), t1, .nilp, .ptr (.own 12) 0 0, .int .i64 (k : Int), t5, t6, t7, t8, t9, t10, t11, t12, t13, t14, t15, t16, t17, t18, t19, t20, t21, t22, t23, t24, t25, t26, t27, t28] H Q := by
  intro m
  induction m with
  | zero =>
    intro k hk H x t1 t5 t6 t7 t8 t9 t10 t11 t12 t13 t14 t15 t16 t17 t18 t19 t20 t21 t22 t23 t24 t25 t26 t27 t28 hI
    have : k = N := by omega
    subst this
    refine LoopR.step ?_
    show wC Try.prog dcfg.pol (CallR dcfg) (LoopR dcfg) c11_17 _ H _
    simp only [w11_17, w11_18, w11_19, w11_19_0, w11_20, w11_21, w11_22, seqK]
    refine mk0 (.bool false) (by rw [bin_lss, decide_eq_false (by omega)]) ?_
    refine condF ?_
    exact hx H x _ _ _ _ _ _ _ _ _ _ _ _ _ _ _ _ _ _ _ _ _ _ _ _ _ _ hI
  | succ m ih =>
    intro k hk H x t1 t5 t6 t7 t8 t9 t10 t11 t12 t13 t14 t15 t16 t17 t18 t19 t20 t21 t22 t23 t24 t25 t26 t27 t28 hI
    refine LoopR.step ?_
    show wC Try.prog dcfg.pol (CallR dcfg) (LoopR dcfg) c11_17 _ H _
    simp only [w11_17, w11_18, w11_19, w11_19_0, w11_20, w11_21, w11_22, w11_23, w11_24, w11_25, w11_25_0, w11_26, w11_26_0, seqK, blockK, fa41_0, ld38, st38]
    refine mk0 (.bool true) (by rw [bin_lss, decide_eq_true (by omega)]) ?_
    refine condT ?_
    refine mkL0 (.ptr (.own 12) 0 0) [] (by rfl) ?_
    refine mkL0 (.ptr (.own 12) 0 0) [] (by rfl) ?_
    refine mkL0 (.ptr (.own 12) 0 0) [] (by rfl) ?_
    refine mkL0 (.ptr (.own 12) 0 (0 + 0)) [] (by rfl) ?_
    refine mkL x [] [.own 12] (ld_cell (j := 0 + 0) hI.h12 (by rfl)) ?_
    refine callL_ev nought_ev ?_
    try simp only [sets_nilE]
    refine mkL (.sl (.own 24) (nextGen H (.own 24)) 0 1 1 (some 1)) [(.own 24, ⟨nextGen H (.own 24), [.str z64], false, true⟩)] [.own 24] (by kernel_rfl) ?_
    generalize nextGen H (.own 24) = g4
    have a24 : (Heap.sets H [(.own 24, ⟨g4, [.str z64], false, true⟩)]) (.own 24) = some ⟨g4, [.str z64], false, true⟩ := by simp [Heap.sets, Heap.set]
    have hI2 : NI (Heap.sets H [(.own 24, ⟨g4, [.str z64], false, true⟩)]) x k := by
      refine ⟨by simp [Heap.sets, Heap.set]; exact hI.h12, ?_⟩
      rcases hI.hx with h | ⟨g, h1, h2⟩
      · exact .inl h
      · exact .inr ⟨g, h1, by simp [Heap.sets, Heap.set]; exact h2⟩
    generalize Heap.sets H [(.own 24, ⟨g4, [.str z64], false, true⟩)] = H2 at a24 hI2 ⊢
    obtain ⟨g, hap⟩ := app_k hI2.hx a24 (by rw [keptV_len]; simp; omega)
    rw [rep_succ] at hap
    refine mkL _ _ _ hap ?_
    have h12 : (Heap.sets H2 [(.own 25, ⟨g, keptV (List.replicate (k + 1) z64), false, true⟩)]) (.own 12) = some ⟨0, [x, .nils, .int .i64 (-1), .int .i64 (-1), .bool false], false, false⟩ := by
      simp [Heap.sets, Heap.set]; exact hI2.h12
    have a25 : (Heap.sets H2 [(.own 25, ⟨g, keptV (List.replicate (k + 1) z64), false, true⟩)]) (.own 25) = some ⟨g, keptV (List.replicate (k + 1) z64), false, true⟩ := by simp [Heap.sets, Heap.set]
    generalize Heap.sets H2 [(.own 25, ⟨g, keptV (List.replicate (k + 1) z64), false, true⟩)] = H3 at h12 a25 ⊢
    refine mkL0 (.ptr (.own 12) 0 0) [] (by rfl) ?_
    refine mkL0 (.ptr (.own 12) 0 (0 + 0)) [] (by rfl) ?_
    try simp only [sets_nilE]
    refine mkL _ _ _ (st_fld (k := 0) (v := .sl (.own 25) g 0 (keptV (List.replicate (k + 1) z64)).length 1 none) h12 (show 0 < 5 by decide) rfl rfl) ?_
    refine ⟨by kernel_rfl, ?_⟩
    refine mk0 _ (bin_add (by omega) (by omega)) ?_
    refine ih (k + 1) (by omega) _ (.sl (.own 25) g 0 (keptV (List.replicate (k + 1) z64)).length 1 none) _ _ _ _ _ _ _ _ _ _ _ _ _ _ _ _ _ _ _ _ _ _ _ _ _ ⟨by simp [Heap.sets, Heap.set], .inr ⟨g, rfl, by simp [Heap.sets, Heap.set]; exact a25⟩⟩
def RD.new (N : Nat) : RD := ⟨List.replicate N z64, [], -1, -1, false⟩
set_option maxHeartbeats 4000000 in
theorem rnew_spec {N : Nat} (h1 : 1 ≤ N) (hN : N ≤ 4096) {Q : V → Heap → Prop} (hQ : ∀ (H' : Heap) g, RF H' (.own 12) (.own 25) 0 g none (RD.new N) → Q (.ptr (.own 12) 0 0) H') : CallR dcfg 11 [.int .i64 (N : Int)] (fun _ => none) Q := by
  refine CallR.body' (K := dcfg) (f := 11) (fn := Try.f11) (c := c11_0) (env := [.int .i64 (N : Int), .und, .und, .und, .und, .und, .und, .und, .und, .und, .und, .und, .und, .und, .und, .und, .und, .und, .und, .und, .und, .und, .und, .und, .und, .und, .und, .und, .und]) (rs := [.tmp 2]) rfl (by kernel_rfl) (by kernel_rfl) (by kernel_rfl) (by kernel_rfl) (by kernel_rfl) (by kernel_rfl) ?_
  show wC Try.prog dcfg.pol (CallR dcfg) (LoopR dcfg) c11_0 _ _ (wRes Try.prog _ _)
  simp only [w11_0, w11_1, w11_1_0, w11_2, w11_3, w11_4, w11_4_0, w11_5, seqK]
  refine mk0 _ (bin_lss ..) ?_
  rw [decide_eq_false (by omega)]
  refine gp (gy0 (.bool false) (by rw [bin_gtr, decide_eq_false (by omega)]) (mk0 (.bool false) (by rfl) ?_))
  refine condF ?_
  simp only [w11_9, w11_10, w11_11, w11_11_0, w11_12, w11_13, w11_14, w11_14_0, w11_15, w11_16, seqK]
  refine mk0 (.agg [.nils, .nils, .int .i64 (-1), .int .i64 (-1), .bool false]) (by kernel_rfl) ?_
  refine mk (.ptr (.own 12) 0 0) [(.own 12, ⟨0, [.nils, .nils, .int .i64 (-1), .int .i64 (-1), .bool false], false, false⟩)] [.own 12] (by kernel_rfl) ?_
  refine rnew_loop (k := 0) (m := N) hN (fun H' x t1 t4 t5 t6 t7 t8 t9 t10 t11 t12 t13 t14 t15 t16 t17 t18 t19 t20 t21 t22 t23 t24 t25 t26 t27 t28 hI => ?_) (by omega) _ .nils _ _ _ _ _ _ _ _ _ _ _ _ _ _ _ _ _ _ _ _ _ _ _ _ _ ⟨by simp [Heap.sets, Heap.set], .inl ⟨rfl, rfl⟩⟩
  simp only [w11_27, w11_28, w11_28_0, w11_29, seqK, blockK, if_true]
  rcases hI.hx with ⟨_, e⟩ | ⟨g, e1, e2⟩
  · have := congrArg List.length e
    rw [keptV_len] at this; simp at this; omega
  · have h12 := hI.h12
    subst e1
    exact hQ H' g ⟨by rw [h12, keptV_len]; rfl, e2, fun B gb e => (by cases e), fun _ => rfl, by simp⟩
theorem rnew_call {H : Heap} {d N : Nat} (h1 : 1 ≤ N) (hN : N ≤ 4096) {Q : Out → Prop} (hQ : ∀ gr g rd, Q ⟨.ptr (.sub d (.own 12)) gr 0, [(.sub d (.own 12), ⟨gr, rcells (.sub d (.own 25)) g none (RD.new N), false, false⟩), (.sub d (.own 25), ⟨g, keptV (RD.new N).kept, false, true⟩)], rd⟩) : wCall dcfg.pol (CallR dcfg) H d 11 [.int .i64 (N : Int)] Q := by
  have e1 : callPre dcfg.pol H 11 [.int .i64 (N : Int)] = some ⟨[.int .i64 (N : Int)], fun _ => none, [], [], []⟩ := by kernel_rfl
  unfold wCall
  rw [e1]
  refine rnew_spec h1 hN (fun H' g hF => ?_)
  have a12 := hF.hR
  have a25 := hF.hA
  have l12 : live H' (.own 12) 0 = some ⟨0, rcells (.own 25) g none (RD.new N), false, false⟩ := by simp [live, a12]
  have l25 : live H' (.own 25) g = some ⟨g, keptV (RD.new N).kept, false, true⟩ := by simp [live, a25]
  have c : collect H' 200 [(.own 12, 0)] [] = some [.own 12, .own 25] := by simp [collect, l12, l25, rcells, rq, refsL, refs]
  have ho : (dcfg.pol 11).own = false := by kernel_rfl
  have hret : retIn (dcfg.pol 11).own H' (.ptr (.own 12) 0 0) = some (.ptr (.own 12) 0 0, []) := by rw [ho]; rfl
  have hn1 : newName d [] (.own 12) = .sub d (.own 12) := rfl
  have hn2 : newName d [] (.own 25) = .sub d (.own 25) := rfl
  have e2 : callPost dcfg.pol H d 11 ⟨[.int .i64 (N : Int)], fun _ => none, [], [], []⟩ (.ptr (.own 12) 0 0) H' = some ⟨.ptr (.sub d (.own 12)) (nextGen H (.sub d (.own 12)) + 0) 0, [(.sub d (.own 12), ⟨nextGen H (.sub d (.own 12)) + 0, rcells (.sub d (.own 25)) (nextGen H (.sub d (.own 25)) + g) none (RD.new N), false, false⟩), (.sub d (.own 25), ⟨nextGen H (.sub d (.own 25)) + g, keptV (RD.new N).kept, false, true⟩)], [.sub d (.own 12), .sub d (.own 25)]⟩ := by
    unfold callPost
    rw [hret]
    simp [hn1, hn2, Id.alt, Heap.sets, refs, refsL, argIds, c, backUps, backName, a12, a25, rcells, rq, outKept, V.keptR, V.kept, V.kept0, freshSubs, renIfV, ren, renL, backRen]
  show outW (callPost dcfg.pol H d 11 ⟨[.int .i64 (N : Int)], fun _ => none, [], [], []⟩ (.ptr (.own 12) 0 0) H') Q
  rw [e2]
  exact hQ _ _ _
end Go.Proofs.Ytcamcfplcoklkaa.Iv
