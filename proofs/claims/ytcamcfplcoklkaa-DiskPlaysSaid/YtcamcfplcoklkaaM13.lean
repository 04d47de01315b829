import Derived.Test.YtcamcfplcoklkaaM12
namespace Go.Proofs.Ytcamcfplcoklkaa.Iv
open Go
set_option linter.unusedVariables false
set_option linter.unusedSimpArgs false
set_option maxRecDepth 100000
def lateV (x : Nat × List Int) : List V := [.int .i64 (x.1 : Int), .list (bytesL x.2) false]
theorem chunk_q : ∀ (l : List (Nat × List Int)), chunk 2 l.length (qcells l) = l.map lateV
  | [] => rfl
  | x :: r => by
    have := chunk_q r
    simp only [List.length_cons, chunk, qcells, List.map_cons]
    congr 1
def backL (l : List (Nat × List Int)) : Nat → List (List V)
  | 0 => []
  | n + 1 => [.int .i64 (n : Int), .agg (lateV (l.getD n (0, [])))] :: backL l n
theorem back_items (l : List (Nat × List Int)) : ∀ n, n ≤ l.length → backItems true 2 (l.map lateV) n = some (backL l n)
  | 0, _ => rfl
  | n + 1, h => by
    have e : (l.map lateV)[n]? = some (lateV (l.getD n (0, []))) := by
      have : n < l.length := by omega
      simp [List.getD, this]
    simp only [backItems, e, back_items l n (by omega), backL]
    rfl
/-- the heap of Read -/
def RH (n : Int) (rb : V) (re : Int) (ow : Option Blk) : Heap
  | .own 3 => some ⟨0, [.int .i64 n], false, false⟩
  | .own 4 => some ⟨0, [rb], false, false⟩
  | .own 5 => some ⟨0, [.int .i64 re], false, false⟩
  | .own 7 => ow
  | _ => none
theorem RH_own7 {n : Int} {rb : V} {re : Int} {ow : Option Blk} {x : Blk} : (RH n rb re ow).sets [(.own 7, x)] = RH n rb re (some x) := by
  funext i
  simp only [Heap.sets, Heap.set]
  by_cases h2 : i = .own 7
  · subst h2; rfl
  · rw [if_neg h2]
    unfold RH
    split <;> first | rfl | (exfalso; exact h2 rfl)
/-- has, on a disk that is looked at -/
theorem has_v {H : Heap} {d : Nat} {l b n : Int} {g : Bool} {ks : List Int} {q : V} {Q : Out → Prop} (hQ : Q ⟨.bool (decide (0 ≤ n ∧ n < secs (bytesL ks))), [], []⟩) : wCall dcfg.pol (CallR dcfg) H d 34 [vD l g b (bytesL ks) q, .int .i64 n] Q := by
  have e1 : callPre dcfg.pol H 34 [vD l g b (bytesL ks) q, .int .i64 n] = some ⟨[vD l g b (bytesL ks) q, .int .i64 n], fun _ => none, [], [], []⟩ := by kernel_rfl
  have hr : (run dcfg 40 34 [vD l g b (bytesL ks) q, .int .i64 n] (fun _ => none)).map (·.1) = some (.bool (decide (0 ≤ n ∧ n < secs (bytesL ks)))) := by
    rcases n with n | n
    · have e : decide (0 ≤ Int.ofNat n ∧ Int.ofNat n < secs (bytesL ks)) = decide (Int.ofNat n < secs (bytesL ks)) := by simp
      rw [e]; exact r_has ..
    · have e : decide (0 ≤ Int.negSucc n ∧ Int.negSucc n < secs (bytesL ks)) = false := by
        simp only [decide_eq_false_iff_not]; omega
      rw [e]; exact r_has0 ..
  unfold wCall
  rw [e1]
  refine CallR.of_run _ hr (fun H' _ => ?_)
  have e2 : callPost dcfg.pol H d 34 ⟨[vD l g b (bytesL ks) q, .int .i64 n], fun _ => none, [], [], []⟩ (.bool (decide (0 ≤ n ∧ n < secs (bytesL ks)))) H' = some ⟨.bool (decide (0 ≤ n ∧ n < secs (bytesL ks))), [], []⟩ := by kernel_rfl
  show outW (callPost dcfg.pol H d 34 ⟨[vD l g b (bytesL ks) q, .int .i64 n], fun _ => none, [], [], []⟩ (.bool (decide (0 ≤ n ∧ n < secs (bytesL ks)))) H') Q
  rw [e2]
  exact hQ
def seen (items : List (Nat × List Int)) (n : Int) : Nat → Option (List Int)
  | 0 => none
  | k + 1 => if ((items.getD k (0, [])).1 : Int) = n then some (items.getD k (0, [])).2 else seen items n k
theorem seen_skip {items : List (Nat × List Int)} {n : Int} : ∀ (m k : Nat), k ≤ m → (∀ j, k ≤ j → j < m → ((items.getD j (0, [])).1 : Int) ≠ n) → seen items n m = seen items n k
  | 0, k, h, _ => by have : k = 0 := by omega
                     subst this; rfl
  | m + 1, k, h, hj => by
    by_cases e : k = m + 1
    · subst e; rfl
    · simp only [seen]
      rw [if_neg (hj m (by omega) (by omega))]
      exact seen_skip m k (by omega) (fun j h1 h2 => hj j h1 (by omega))
theorem st34 {H x v} : evStore Try.prog H 34 x v = stR 1 H x v := by kernel_rfl
theorem st24 {H x v} : evStore Try.prog H 24 x v = stR 1 H x v := by kernel_rfl
theorem clone_any {H : Heap} {d : Nat} {bs : List Int} {fl : Bool} (hn : bs ≠ []) (hb : bs.length < 1048576) {Q : Out → Prop}
    (hQ : Q ⟨.sl (.sub d (.own 7)) (nextGen H (.sub d (.own 7)) + 0) 0 bs.length 1 none, [(.sub d (.own 7), ⟨nextGen H (.sub d (.own 7)) + 0, cellsB bs, false, true⟩)], [.sub d (.own 7)]⟩) : wCall dcfg.pol (CallR dcfg) H d 31 [.list (bytesL bs) fl] Q := by
  have e1 : callPre dcfg.pol H 31 [.list (bytesL bs) fl] = callPre dcfg.pol H 31 [.list (bytesL bs) true] := by cases fl <;> kernel_rfl
  unfold wCall
  rw [e1]
  exact clone_call hn hb hQ
set_option maxHeartbeats 2000000 in
theorem read_items {l b n : Int} {g : Bool} {ks : List Int} {q : V} {items : List (Nat × List Int)} (hit : ∀ x ∈ items, x.2.length = 64) {t1 t2 t6 t7 t8 t9 t10 t11 t12 t13 t14 t15 t16 t17 t18 t19 t20 t21 t22 t23 t24 t25 t26 t27 t28 t29 t30 t31 t32 t33 t34 t35 t36 : V} {Q : KQ}
    (hf : ∀ bs, seen items n items.length = some bs → ∀ H' : Heap, H' (.own 4) = some ⟨0, [.sl (.sub 32 (.own 7)) 0 0 bs.length 1 none], false, false⟩ → H' (.own 5) = some ⟨0, [.int .i64 0], false, false⟩ → H' (.sub 32 (.own 7)) = some ⟨0, cellsB bs, false, true⟩ → Q .ret [vD l g b (bytesL ks) q, t1, t2, .ptr (.own 3) 0 0, .ptr (.own 4) 0 0, .ptr (.own 5) 0 0, t6, t7, t8, t9, t10, t11, t12, t13, t14, t15, t16, t17, t18, t19, t20, t21, t22, t23, t24, t25, t26, t27, t28, t29, t30, t31, t32, t33, t34, t35, t36] H')
    (hn : seen items n items.length = none → ∀ ow, Q .nrm [vD l g b (bytesL ks) q, t1, t2, .ptr (.own 3) 0 0, .ptr (.own 4) 0 0, .ptr (.own 5) 0 0, t6, t7, t8, t9, t10, t11, t12, t13, t14, t15, t16, t17, t18, t19, t20, t21, t22, t23, t24, t25, t26, t27, t28, t29, t30, t31, t32, t33, t34, t35, t36] (RH n .nils 0 ow)) :
    ∀ k, k ≤ items.length → (∀ j, k ≤ j → j < items.length → ((items.getD j (0, [])).1 : Int) ≠ n) → ∀ ow,
      wItems [vD l g b (bytesL ks) q, t1, t2, .ptr (.own 3) 0 0, .ptr (.own 4) 0 0, .ptr (.own 5) 0 0, t6, t7, t8, t9, t10, t11, t12, t13, t14, t15, t16, t17, t18, t19, t20, t21, t22, t23, t24, t25, t26, t27, t28, t29, t30, t31, t32, t33, t34, t35, t36] (twoW [24, 25] [vD l g b (bytesL ks) q, t1, t2, .ptr (.own 3) 0 0, .ptr (.own 4) 0 0, .ptr (.own 5) 0 0, t6, t7, t8, t9, t10, t11, t12, t13, t14, t15, t16, t17, t18, t19, t20, t21, t22, t23, t24, t25, t26, t27, t28, t29, t30, t31, t32, t33, t34, t35, t36] (wC Try.prog dcfg.pol (CallR dcfg) (LoopR dcfg) c22_22) (wC Try.prog dcfg.pol (CallR dcfg) (LoopR dcfg) c22_23)) (backL items k) (RH n .nils 0 ow) Q
  | 0, hk, hall, ow => by
    refine hn ?_ ow
    rw [seen_skip items.length 0 (by omega) hall]
    rfl
  | k + 1, hk, hall, ow => by
    have hlt : k < items.length := by omega
    have hmem : items.getD k (0, []) ∈ items := by
      have : items.getD k (0, []) = items[k] := by simp [List.getD, hlt]
      rw [this]; exact List.getElem_mem hlt
    have h64 := hit _ hmem
    have hsk := seen_skip (n := n) items.length (k + 1) (by omega) hall
    simp only [backL, wItems]
    generalize hx : items.getD k (0, []) = x at h64
    unfold twoW
    simp only [putAll, List.set]
    simp only [w22_22, w22_22_0, w22_23, w22_24, w22_25, w22_25_0, w22_26, w22_27, w22_28, w22_28_0, w22_29, w22_30, seqK, blockK, st65, st34, st24, fa65_0, fa65_1, ld3b, ld34b]
    refine mk (.ptr (.own 7) (nextGen (RH n .nils 0 ow) (.own 7)) 0) [(.own 7, ⟨nextGen (RH n .nils 0 ow) (.own 7), [.int .i64 0, .nils], false, false⟩)] [.own 7] (by kernel_rfl) ?_
    generalize nextGen (RH n .nils 0 ow) (.own 7) = gg
    simp only [RH_own7]
    refine mk .und [(.own 7, ⟨gg, lateV x, false, false⟩)] [.own 7] (by simp [stR, live, RH, V.cells, fits, V.kept, V.kept0, splice, lateV]) ?_
    simp only [RH_own7]
    refine mk0 (.ptr (.own 7) gg 0) (by rfl) ?_
    refine mk (.int .i64 (x.1 : Int)) [] [.own 7] (by simp [ldR, live, RH, cut, mkv, lateV]) ?_
    refine mk (.int .i64 n) [] [.own 3] (by rfl) ?_
    simp only [sets_nilE]
    refine mk0 _ (bin_eql ..) ?_
    by_cases he : (x.1 : Int) = n
    · have e : ((x.1 : Int) == n) = true := by simpa using he
      rw [e]
      refine condT ?_
      refine mk0 (.ptr (.own 7) gg 1) (by rfl) ?_
      refine mk (.list (bytesL x.2) false) [] [.own 7] (by simp [ldR, live, RH, cut, mkv, lateV]) ?_
      simp only [sets_nilE]
      refine clone_any (Q := fun o => _) (fun e => by rw [e] at h64; simp at h64) (by omega) ?_
      refine mk .und [(.own 4, ⟨0, [.sl (.sub 32 (.own 7)) 0 0 x.2.length 1 none], false, false⟩)] [.own 4] (by kernel_rfl) ?_
      refine mk .und [(.own 5, ⟨0, [.int .i64 0], false, false⟩)] [.own 5] (by kernel_rfl) ?_
      have hs : seen items n items.length = some x.2 := by
        rw [hsk]; simp only [seen]; rw [hx, if_pos he]
      exact hf _ hs _ (by kernel_rfl) (by kernel_rfl) (by kernel_rfl)
    · have e : ((x.1 : Int) == n) = false := by simpa using he
      rw [e]
      refine condF ?_
      exact read_items hit hf hn k (by omega) (fun j h1 h2 => by
        by_cases ej : j = k
        · subst ej; rw [hx]; exact he
        · exact hall j (by omega) h2) _
end Go.Proofs.Ytcamcfplcoklkaa.Iv

namespace Go.Proofs.Ytcamcfplcoklkaa.Iv
open Go
set_option linter.unusedVariables false
set_option linter.unusedSimpArgs false
set_option maxRecDepth 100000
theorem slice34l {H : Heap} {ks : List Int} {l h : Nat} (h1 : l ≤ h) (h2 : h ≤ ks.length) : evSlice Try.prog H 34 (.list (bytesL ks) true) (some (.int .i64 (l : Int))) (some (.int .i64 (h : Int))) none = pureO (.list (bytesL ((ks.take h).drop l)) true) := by
  have e : (bytesL ks).all (fun x => x.length == 1) = true := by simp [bytesL]
  have e2 : ((bytesL ks).take h).drop l = bytesL ((ks.take h).drop l) := by simp [bytesL, List.map_take, List.map_drop]
  have e3 : h ≤ (bytesL ks).length := by simpa [bytesL] using h2
  simp [evSlice, u34b, sz5, bnd, h1, e3, e, e2]
/-- a sector as it lasts, of a disk that is looked at -/
theorem lasting_v {l b : Int} {g : Bool} {ks : List Int} {q : V} {a : Nat} (ha : (a + 1) * 64 ≤ ks.length) (hk : ks.length < 1152921504606846976) {Q : V → Heap → Prop}
    (hQ : Q (.list (bytesL ((ks.take ((a + 1) * 64)).drop (a * 64))) true) (fun _ => none)) : CallR dcfg 36 [vD l g b (bytesL ks) q, .int .i64 (a : Int)] (fun _ => none) Q := by
  refine CallR.body' (K := dcfg) (f := 36) (fn := Try.f36) (c := c36_0) (env := [vD l g b (bytesL ks) q, .int .i64 (a : Int), .und, .und, .und, .und, .und, .und, .und, .und, .und, .und, .und, .und, .und]) (rs := [.tmp 4]) rfl (by kernel_rfl) (by kernel_rfl) (by kernel_rfl) (by kernel_rfl) (by kernel_rfl) (by kernel_rfl) ?_
  show wC Try.prog dcfg.pol (CallR dcfg) (LoopR dcfg) c36_0 _ _ _
  simp only [w36_0, w36_1, w36_1_0, w36_2, w36_3, w36_3_0, w36_4, seqK, fa49_1, ld34b]
  refine mk0 (vD l g b (bytesL ks) q) (by rfl) ?_
  refine mk0 (.fptr [.list (bytesL ks) true, q] true) (by rfl) ?_
  refine mk0 (.list (bytesL ks) true) (by rfl) ?_
  refine mk0 _ (bin_mul (by omega) (by omega)) ?_
  refine mk0 _ (bin_add (by omega) (by omega)) ?_
  refine mk0 _ (bin_mul (by omega) (by omega)) ?_
  have e1 : ((a : Int) * 64) = ((a * 64 : Nat) : Int) := by omega
  have e2 : (((a : Int) + 1) * 64) = (((a + 1) * 64 : Nat) : Int) := by omega
  rw [e1, e2]
  refine mk0 _ (slice34l (by omega) ha) ?_
  exact hQ
theorem lasting_vcall {H : Heap} {d : Nat} {l b : Int} {g : Bool} {ks : List Int} {q : V} {a : Nat} (ha : (a + 1) * 64 ≤ ks.length) (hk : ks.length < 1152921504606846976) {Q : Out → Prop}
    (hQ : Q ⟨.list (bytesL ((ks.take ((a + 1) * 64)).drop (a * 64))) true, [], []⟩) : wCall dcfg.pol (CallR dcfg) H d 36 [vD l g b (bytesL ks) q, .int .i64 (a : Int)] Q := by
  have e1 : callPre dcfg.pol H 36 [vD l g b (bytesL ks) q, .int .i64 (a : Int)] = some ⟨[vD l g b (bytesL ks) q, .int .i64 (a : Int)], fun _ => none, [], [], []⟩ := by kernel_rfl
  unfold wCall
  rw [e1]
  refine lasting_v ha hk ?_
  have e2 : callPost dcfg.pol H d 36 ⟨[vD l g b (bytesL ks) q, .int .i64 (a : Int)], fun _ => none, [], [], []⟩ (.list (bytesL ((ks.take ((a + 1) * 64)).drop (a * 64))) true) (fun _ => none) = some ⟨.list (bytesL ((ks.take ((a + 1) * 64)).drop (a * 64))) true, [], []⟩ := by kernel_rfl
  show outW (callPost dcfg.pol H d 36 ⟨[vD l g b (bytesL ks) q, .int .i64 (a : Int)], fun _ => none, [], [], []⟩ (.list (bytesL ((ks.take ((a + 1) * 64)).drop (a * 64))) true) (fun _ => none)) Q
  rw [e2]
  exact hQ
/-- the queue of a disk that is looked at -/
inductive QV : V → List (Nat × List Int) → Prop
  | nil : QV .nils []
  | list (items : List (Nat × List Int)) : QV (.list (items.map lateV) true) items
theorem back_call {H : Heap} {q : V} {items : List (Nat × List Int)} (h : QV q items) : evCall (run dcfg 40) dcfg.pol H 23 35 [q] = some ⟨.fn 40 [.fptr [.list (items.map lateV) true] true], [], []⟩ := by
  cases h <;> kernel_rfl
theorem fa46_1 {x} : evFieldAddr Try.prog 46 x 1 = faR 1 x := by kernel_rfl
theorem ld4 {H x} : evLoad Try.prog H 4 x = ldR 1 false H x := by kernel_rfl
theorem seq_items {items : List (Nat × List Int)} (h : items.length < 1000000) : seqOf dcfg.pol 40 [.fptr [.list (items.map lateV) true] true] = some (backL items items.length) := by
  have e : (dcfg.pol 40).seq = some (.backward true 2) := by kernel_rfl
  unfold seqOf
  rw [e]
  simp only [seqItems, List.length_map]
  rw [if_pos (by omega)]
  exact back_items items _ (Nat.le_refl _)
set_option maxHeartbeats 4000000 in
/-- Read, on a disk that is looked at -/
theorem read_spec {l b n : Int} {g : Bool} {ks : List Int} {q : V} {items : List (Nat × List Int)} (h : QV q items) (hit : ∀ x ∈ items, x.2.length = 64) (hil : items.length < 1000000) (hk : ks.length < 1000000) (hsec : secs (bytesL ks) * 64 = ks.length) {Q : V → Heap → Prop}
    (h1 : ¬ (0 ≤ n ∧ n < secs (bytesL ks)) → ∀ H', Q (.tup [.nils, .int .i64 1]) H')
    (h11 : (0 ≤ n ∧ n < secs (bytesL ks)) → g = true → ∀ H', Q (.tup [.nils, .int .i64 11]) H')
    (h0 : (0 ≤ n ∧ n < secs (bytesL ks)) → g = false → ∀ bs, bs = (seen items n items.length).getD ((ks.take ((n.toNat + 1) * 64)).drop (n.toNat * 64)) → ∀ (H' : Heap) (t : Nat), t ≠ 999999 → H' (.sub t (.own 7)) = some ⟨0, cellsB bs, false, true⟩ → Q (.tup [.sl (.sub t (.own 7)) 0 0 bs.length 1 none, .int .i64 0]) H') :
    CallR dcfg 22 [vD l g b (bytesL ks) q, .int .i64 n] (fun _ => none) Q := by
  refine CallR.body' (K := dcfg) (f := 22) (fn := Try.f22) (c := c22_0) (env := [vD l g b (bytesL ks) q, .int .i64 n, .und, .und, .und, .und, .und, .und, .und, .und, .und, .und, .und, .und, .und, .und, .und, .und, .und, .und, .und, .und, .und, .und, .und, .und, .und, .und, .und, .und, .und, .und, .und, .und, .und, .und, .und]) (rs := [.cell 4 34, .cell 5 24]) rfl (by kernel_rfl) (by kernel_rfl) (by kernel_rfl) (by kernel_rfl) (by kernel_rfl) (by kernel_rfl) ?_
  show wC Try.prog dcfg.pol (CallR dcfg) (LoopR dcfg) c22_0 _ _ _
  have res : ∀ (rv : V) (re : Int) (env : List V) (H' : Heap), env.getD 4 .und = .ptr (.own 4) 0 0 → env.getD 5 .und = .ptr (.own 5) 0 0 → H' (.own 4) = some ⟨0, [rv], false, false⟩ → H' (.own 5) = some ⟨0, [.int .i64 re], false, false⟩ → Q (.tup [rv, .int .i64 re]) H' →
      wRes Try.prog [.cell 4 34, .cell 5 24] Q .ret env H' := by
    intro rv re env H' a1 a2 a3 a4 hq
    have l4 : live H' (.own 4) 0 = some ⟨0, [rv], false, false⟩ := by simp [live, a3]
    have l5 : live H' (.own 5) 0 = some ⟨0, [.int .i64 re], false, false⟩ := by simp [live, a4]
    have e24 : evLoad Try.prog H' 24 (.ptr (.own 5) 0 0) = ldR 1 false H' (.ptr (.own 5) 0 0) := by kernel_rfl
    have e34 : evLoad Try.prog H' 34 (.ptr (.own 4) 0 0) = ldR 1 false H' (.ptr (.own 4) 0 0) := by kernel_rfl
    simp only [wRes, evResults, evResult, a1, a2, e24, e34, ldR, l4, l5, cut, mkv, List.drop_zero, List.take, List.length_cons, List.length_nil, Nat.zero_add, if_true, Option.map_some]
    exact hq
  simp only [w22_0, w22_1, w22_1_0, w22_2, w22_3, w22_4, w22_5, w22_5_0, w22_6, w22_7, w22_8, w22_8_0, w22_9, w22_10, w22_11, w22_11_0, w22_12, w22_13, w22_14, w22_14_0, w22_15, w22_16, seqK, blockK, fa49_0, ld3b, st34, st24]
  refine mk (.ptr (.own 3) 0 0) [(.own 3, ⟨0, [.int .i64 n], false, false⟩)] [.own 3] (by kernel_rfl) ?_
  refine mk (.ptr (.own 4) 0 0) [(.own 4, ⟨0, [.nils], false, false⟩)] [.own 4] (by kernel_rfl) ?_
  refine mk (.ptr (.own 5) 0 0) [(.own 5, ⟨0, [.int .i64 0], false, false⟩)] [.own 5] (by kernel_rfl) ?_
  refine mk (.int .i64 n) [] [.own 3] (by rfl) ?_
  refine has_v (Q := fun o => _) ?_
  refine mk0 (.bool !(decide (0 ≤ n ∧ n < secs (bytesL ks)))) (by rfl) ?_
  by_cases ha : ¬ (0 ≤ n ∧ n < secs (bytesL ks))
  · rw [decide_eq_false ha]
    refine condT ?_
    refine mk .und [(.own 4, ⟨0, [.nils], false, false⟩)] [.own 4] (by kernel_rfl) ?_
    refine mk .und [(.own 5, ⟨0, [.int .i64 1], false, false⟩)] [.own 5] (by kernel_rfl) ?_
    exact res .nils 1 _ _ (by rfl) (by rfl) (by kernel_rfl) (by kernel_rfl) (h1 ha _)
  have ha := Classical.not_not.1 ha
  rw [decide_eq_true ha]
  refine condF ?_
  simp only [fa46_1, ld4]
  refine mk0 (vD l g b (bytesL ks) q) (by rfl) ?_
  refine mk0 (vD l g b (bytesL ks) q) (by rfl) ?_
  refine mk0 (.fptr [.bool g, .int .i64 b, .list (bytesL ks) true, q] true) (by rfl) ?_
  refine mk0 (.bool g) (by rfl) ?_
  cases hg : g with
  | true =>
    refine condT ?_
    refine mk .und [(.own 4, ⟨0, [.nils], false, false⟩)] [.own 4] (by kernel_rfl) ?_
    refine mk .und [(.own 5, ⟨0, [.int .i64 11], false, false⟩)] [.own 5] (by kernel_rfl) ?_
    exact res .nils 11 _ _ (by rfl) (by rfl) (by kernel_rfl) (by kernel_rfl) (h11 ha hg _)
  | false =>
    refine condF ?_
    simp only [w22_17, w22_18, w22_19, w22_19_0, w22_20, seqK, blockK, fa49_2, ld47]
    refine mk0 (vD l false b (bytesL ks) q) (by rfl) ?_
    refine mk0 (.fptr [q] true) (by rfl) ?_
    refine mk0 q (by rfl) ?_
    refine callW_ev (back_call h) ?_
    rw [w22_21 (k := 40) (by rfl) (seq_items hil)]
    have eH : Heap.sets (Heap.sets (Heap.sets (fun _ => none) [(.own 3, ⟨0, [.int .i64 n], false, false⟩)]) [(.own 4, ⟨0, [.nils], false, false⟩)]) [(.own 5, ⟨0, [.int .i64 0], false, false⟩)] = RH n .nils 0 none := by
      funext i
      match i with
      | .own 0 => rfl
      | .own 1 => rfl
      | .own 2 => rfl
      | .own 3 => rfl
      | .own 4 => rfl
      | .own 5 => rfl
      | .own 6 => rfl
      | .own 7 => rfl
      | .own (t + 8) => rfl
      | .arg _ => rfl
      | .sub _ _ => rfl
    simp only [sets_nilE, eH]
    refine read_items hit (fun bs hs H' c1 c2 c3 => ?_) (fun hs ow => ?_) items.length (Nat.le_refl _) (fun j h1 h2 => by omega) none
    · exact res _ 0 _ _ (by rfl) (by rfl) c1 c2 (h0 ha hg bs (by rw [hs]; rfl) H' 32 (by decide) c3)
    · simp only [blockK, seqK, w22_31, w22_32, w22_32_0, w22_33, ld3b, st34, st24]
      obtain ⟨a, rfl⟩ : ∃ a : Nat, n = (a : Int) := ⟨n.toNat, by omega⟩
      have hsz : (a + 1) * 64 ≤ ks.length := by omega
      refine mk (.int .i64 (a : Int)) [] [.own 3] (by rfl) ?_
      refine lasting_vcall (Q := fun o => _) hsz (by omega) ?_
      have hl : ((ks.take ((a + 1) * 64)).drop (a * 64)).length = 64 := by simp; omega
      simp only [sets_nilE]
      refine clone_call (Q := fun o => _) (fun e => by simp [e] at hl) (by omega) ?_
      refine mk .und [(.own 4, ⟨0, [.sl (.sub 36 (.own 7)) 0 0 ((ks.take ((a + 1) * 64)).drop (a * 64)).length 1 none], false, false⟩)] [.own 4] (by kernel_rfl) ?_
      refine mk .und [(.own 5, ⟨0, [.int .i64 0], false, false⟩)] [.own 5] (by kernel_rfl) ?_
      refine res _ 0 _ _ (by rfl) (by rfl) (by kernel_rfl) (by kernel_rfl) (h0 ha hg _ (by rw [hs]) _ 36 (by decide) (by kernel_rfl))
end Go.Proofs.Ytcamcfplcoklkaa.Iv

namespace Go.Proofs.Ytcamcfplcoklkaa.Iv
open Go
set_option linter.unusedVariables false
set_option linter.unusedSimpArgs false
set_option maxRecDepth 100000
theorem settled_len : ∀ {items : List (Nat × List Int)} {kc : List V}, (∀ x ∈ items, (x.1 + 1) * 64 ≤ kc.length ∧ x.2.length ≤ 64) → (settled kc items).length = kc.length
  | [], kc, _ => rfl
  | x :: r, kc, hit => by
    have h1 := hit x (by simp)
    have h2 := put1_len (kc := kc) (x := x) (by omega)
    have := settled_len (items := r) (kc := put1 kc x) (fun y hy => by rw [h2]; exact hit y (by simp [hy]))
    show (settled (put1 kc x) r).length = _
    rw [this, h2]
/-- settle, of the first so many of the queue -/
theorem call_settle_n {l b : Int} {g : Bool} {items : List (Nat × List Int)} {n : Nat} (hn : n ≤ items.length) (hn2 : items.length < 1000000) {kc : List V} (hN : kc.length < 1152921504606846976) (hit : ∀ x ∈ items, (x.1 + 1) * 64 ≤ kc.length ∧ x.2.length ≤ 64) {d : Nat} {Q : V → Heap → Prop}
    (hQ : ∀ v, Q v (WH l g b (settled kc (items.take n)) (.sl (.arg 2) 0 0 items.length 2 none) (some ⟨0, qcells items, false, true⟩))) : callW dcfg.pol (CallR dcfg) (WH l g b kc (.sl (.arg 2) 0 0 items.length 2 none) (some ⟨0, qcells items, false, true⟩)) d 33 [.ptr (.arg 0) 0 0, .sl (.arg 2) 0 0 n 2 none] Q := by
  have hlen : (settled kc (items.take n)).length = kc.length := settled_len (fun x hx => hit x (List.mem_of_mem_take hx))
  unfold callW wCall
  have e1 : callPre dcfg.pol (WH l g b kc (.sl (.arg 2) 0 0 items.length 2 none) (some ⟨0, qcells items, false, true⟩)) 33 [.ptr (.arg 0) 0 0, .sl (.arg 2) 0 0 n 2 none] =
      some ⟨[.ptr (.arg 0) 0 0, .sl (.arg 2) 0 0 n 2 none], enterH (WH l g b kc (.sl (.arg 2) 0 0 items.length 2 none) (some ⟨0, qcells items, false, true⟩)) [.arg 0, .arg 1, .arg 2], [.arg 0, .arg 1, .arg 2], [], []⟩ := by kernel_rfl
  rw [e1]
  simp only [WH_enter (QI.sl items)]
  rw [WH_SH]
  refine settle_spec hn hn2 hN hit (fun _ _ => rfl) (fun ob => ?_)
  have e3 : callPost dcfg.pol (SH l g b kc items.length (qcells items) none none) d 33 ⟨[.ptr (.arg 0) 0 0, .sl (.arg 2) 0 0 n 2 none], SH l g b kc items.length (qcells items) none none, [.arg 0, .arg 1, .arg 2], [], []⟩ (.tup []) (SH l g b (settled kc (items.take n)) items.length (qcells items) ob none) =
      some ⟨.tup [], [(.arg 0, pblk l g b (kslice (settled kc (items.take n))) (.sl (.arg 2) 0 0 items.length 2 none)), (.arg 1, ⟨0, settled kc (items.take n), false, true⟩), (.arg 2, ⟨0, qcells items, false, true⟩)], [.arg 0, .arg 1, .arg 2, .sub d (.arg 0), .sub d (.arg 1), .sub d (.arg 2)]⟩ := by kernel_rfl
  show outW (callPost dcfg.pol (SH l g b kc items.length (qcells items) none none) d 33 ⟨[.ptr (.arg 0) 0 0, .sl (.arg 2) 0 0 n 2 none], SH l g b kc items.length (qcells items) none none, [.arg 0, .arg 1, .arg 2], [], []⟩ (.tup []) (SH l g b (settled kc (items.take n)) items.length (qcells items) ob none)) _
  rw [e3]
  show Q (.tup []) ((SH l g b kc items.length (qcells items) none none).sets _)
  have e4 : (SH l g b kc items.length (qcells items) none none).sets [(.arg 0, pblk l g b (kslice (settled kc (items.take n))) (.sl (.arg 2) 0 0 items.length 2 none)), (.arg 1, ⟨0, settled kc (items.take n), false, true⟩), (.arg 2, ⟨0, qcells items, false, true⟩)] =
      SH l g b (settled kc (items.take n)) items.length (qcells items) none none := by
    funext i
    simp only [Heap.sets, Heap.set]
    by_cases h2 : i = .arg 2
    · subst h2; rfl
    · rw [if_neg h2]
      by_cases h1 : i = .arg 1
      · subst h1; rfl
      · rw [if_neg h1]
        by_cases h0 : i = .arg 0
        · subst h0; rfl
        · rw [if_neg h0]
          unfold SH
          split <;> first | rfl | contradiction
  rw [e4, ← WH_SH]
  exact hQ _
/-! ### the heap of Crash -/
def XH (l : Int) (g : Bool) (b : Int) (kc : List V) (m : Nat) (qc : List V) (o6 o50 : Option Blk) : Heap
  | .arg 0 => some (pblk l g b (kslice kc) (.sl (.arg 2) 0 0 m 2 none))
  | .arg 1 => some ⟨0, kc, false, true⟩
  | .arg 2 => some ⟨0, qc, false, true⟩
  | .own 6 => o6
  | .own 50 => o50
  | _ => none
theorem call_settle_lit {l b : Int} {g : Bool} {m : Nat} {qc : List V} {x : Nat × List Int} {kc : List V} (hN : kc.length < 1152921504606846976) (hx : (x.1 + 1) * 64 ≤ kc.length ∧ x.2.length ≤ 64) {o6 : Option Blk} {lg : Log} {k : Nat} {Q : V → Heap → Log → Prop}
    (hQ : ∀ v, Q v (XH l g b (put1 kc x) m qc o6 (some ⟨0, qcells [x], false, true⟩)) ((k, [.arg 0, .arg 1, .arg 2, .own 50, .sub 51 (.arg 0), .sub 51 (.arg 1), .sub 51 (.arg 2), .sub 51 (.arg 3)], [.arg 0, .arg 1, .arg 2, .own 50]) :: lg)) :
    callL dcfg.pol (CallR dcfg) (XH l g b kc m qc o6 (some ⟨0, qcells [x], false, true⟩)) lg k 51 33 [.ptr (.arg 0) 0 0, .sl (.own 50) 0 0 1 2 (some 1)] Q := by
  have hlen : (put1 kc x).length = kc.length := put1_len (by omega)
  unfold callL wCall
  have e1 : callPre dcfg.pol (XH l g b kc m qc o6 (some ⟨0, qcells [x], false, true⟩)) 33 [.ptr (.arg 0) 0 0, .sl (.own 50) 0 0 1 2 (some 1)] =
      some ⟨[.ptr (.arg 0) 0 0, .sl (.arg 3) 0 0 1 2 (some 1)], enterH (XH l g b kc m qc o6 (some ⟨0, qcells [x], false, true⟩)) [.arg 0, .arg 1, .arg 2, .own 50], [.arg 0, .arg 1, .arg 2, .own 50], [], []⟩ := by kernel_rfl
  have e2 : enterH (XH l g b kc m qc o6 (some ⟨0, qcells [x], false, true⟩)) [.arg 0, .arg 1, .arg 2, .own 50] = SH l g b kc m qc none (some ⟨0, qcells [x], false, true⟩) := by
    funext i
    match i with
    | .arg 0 => rfl
    | .arg 1 => rfl
    | .arg 2 => rfl
    | .arg 3 => rfl
    | .arg (j + 4) => rfl
    | .own t => unfold enterH SH; split <;> first | rfl | (split <;> first | rfl | contradiction) | contradiction
    | .sub _ _ => rfl
  rw [e1]
  simp only [e2]
  refine settle_spec (items := [x]) (n := 1) (by simp) (by simp) hN (fun y hy => by simp at hy; subst hy; exact hx) (fun _ _ => rfl) (fun ob => ?_)
  have e3 : callPost dcfg.pol (XH l g b kc m qc o6 (some ⟨0, qcells [x], false, true⟩)) 51 33 ⟨[.ptr (.arg 0) 0 0, .sl (.arg 3) 0 0 1 2 (some 1)], SH l g b kc m qc none (some ⟨0, qcells [x], false, true⟩), [.arg 0, .arg 1, .arg 2, .own 50], [], []⟩ (.tup []) (SH l g b (put1 kc x) m qc ob (some ⟨0, qcells [x], false, true⟩)) =
      some ⟨.tup [], [(.arg 0, pblk l g b (kslice (put1 kc x)) (.sl (.arg 2) 0 0 m 2 none)), (.arg 1, ⟨0, put1 kc x, false, true⟩), (.arg 2, ⟨0, qc, false, true⟩), (.own 50, ⟨0, qcells [x], false, true⟩)], [.arg 0, .arg 1, .arg 2, .own 50, .sub 51 (.arg 0), .sub 51 (.arg 1), .sub 51 (.arg 2), .sub 51 (.arg 3)]⟩ := by kernel_rfl
  show outW (callPost dcfg.pol (XH l g b kc m qc o6 (some ⟨0, qcells [x], false, true⟩)) 51 33 ⟨[.ptr (.arg 0) 0 0, .sl (.arg 3) 0 0 1 2 (some 1)], SH l g b kc m qc none (some ⟨0, qcells [x], false, true⟩), [.arg 0, .arg 1, .arg 2, .own 50], [], []⟩ (.tup []) (SH l g b (put1 kc x) m qc ob (some ⟨0, qcells [x], false, true⟩))) _
  rw [e3]
  show Q (.tup []) ((XH l g b kc m qc o6 (some ⟨0, qcells [x], false, true⟩)).sets _) _
  have e4 : (XH l g b kc m qc o6 (some ⟨0, qcells [x], false, true⟩)).sets [(.arg 0, pblk l g b (kslice (put1 kc x)) (.sl (.arg 2) 0 0 m 2 none)), (.arg 1, ⟨0, put1 kc x, false, true⟩), (.arg 2, ⟨0, qc, false, true⟩), (.own 50, ⟨0, qcells [x], false, true⟩)] =
      XH l g b (put1 kc x) m qc o6 (some ⟨0, qcells [x], false, true⟩) := by
    funext i
    simp only [Heap.sets, Heap.set]
    by_cases h5 : i = .own 50
    · subst h5; rfl
    · rw [if_neg h5]
      by_cases h2 : i = .arg 2
      · subst h2; rfl
      · rw [if_neg h2]
        by_cases h1 : i = .arg 1
        · subst h1; rfl
        · rw [if_neg h1]
          by_cases h0 : i = .arg 0
          · subst h0; rfl
          · rw [if_neg h0]
            unfold XH
            split <;> first | rfl | contradiction
  rw [e4]
  exact hQ _
end Go.Proofs.Ytcamcfplcoklkaa.Iv

namespace Go.Proofs.Ytcamcfplcoklkaa.Iv
open Go
set_option linter.unusedVariables false
set_option linter.unusedSimpArgs false
set_option maxRecDepth 100000
theorem st4 {H x v} : evStore Try.prog H 4 x v = stR 1 H x v := by kernel_rfl
theorem sz65b : szOf Try.prog 65 = some 2 := szE
theorem slice47 {H : Heap} {i : Id} {n h : Nat} (h2 : h ≤ n) : evSlice Try.prog H 47 (.sl i 0 0 n 2 none) none (some (.int .i64 (h : Int))) none = pureO (.sl i 0 0 h 2 none) := by
  simp [evSlice, uQ, szE, bnd, h2]
theorem slice34f {H : Heap} {bs : List Int} {h : Nat} (h2 : h ≤ bs.length) : evSlice Try.prog H 34 (.list (bytesL bs) false) none (some (.int .i64 (h : Int))) none = pureO (.list (bytesL (bs.take h)) false) := by
  have e : (bytesL bs).all (fun x => x.length == 1) = true := by simp [bytesL]
  have e2 : (bytesL bs).take h = bytesL (bs.take h) := by simp [bytesL, List.map_take]
  have e3 : h ≤ (bytesL bs).length := by simpa [bytesL] using h2
  simp [evSlice, u34b, sz5, bnd, e3, e, e2]
/-- what lasts behind a crash -/
def crashed (kc : List V) (items : List (Nat × List Int)) (keep torn : Int) : List V :=
  let n := min keep.toNat items.length
  let kc1 := settled kc (items.take n)
  match items[n]? with
  | some x => put1 kc1 (x.1, x.2.take (min torn.toNat 64))
  | none => kc1
def afterC (b : Int) (kc : List V) (qb : Option Blk) (H' : Heap) : Prop :=
  H' (.arg 0) = some (pblk (-1) false b (kslice kc) .nils) ∧ H' (.arg 1) = some ⟨0, kc, false, true⟩ ∧ H' (.arg 2) = qb ∧ ∀ j, 2 < j → H' (.arg j) = none
theorem call_settle_nil {l b : Int} {g : Bool} {kc : List V} (hN : kc.length < 1152921504606846976) {d : Nat} {Q : V → Heap → Prop} (hQ : ∀ v, Q v (WH l g b kc .nils none)) : callW dcfg.pol (CallR dcfg) (WH l g b kc .nils none) d 33 [.ptr (.arg 0) 0 0, .nils] Q := by
  have h : ([] : List (Nat × List Int)).length < 1000000 := by simp
  have hi : ∀ x ∈ ([] : List (Nat × List Int)), (x.1 + 1) * 64 ≤ kc.length ∧ x.2.length ≤ 64 := by simp
  exact call_settle h hN hi QI.nil hQ
/-- the last part of Crash -/
theorem crash_end {l b : Int} {g : Bool} {k q : V} {H : Heap} (h0 : H (.arg 0) = some (pblk l g b k q)) {Q : V → Heap → Prop}
    (hQ : ∀ H' : Heap, H' (.arg 0) = some (pblk (-1) false b k .nils) → (∀ i, i ≠ .arg 0 → H' i = H i) → Q (.tup []) H') : ∀ t1 t2 t3 t4 t5 t6 t7 t8 t9 t10 t11 t12 t13 t14 t15 t16 t17 t18 t19 t20 t21 t22 t23 t24 t25 t26 t27 t28 t29 t30 t31 t32 t33 t34 t35 t36 t37 t38 t39 t40 t41 t42 t43 t44 t45 t46 t47 t48 t49 t50 t51 t52 t53 t54 t55 t56 t57 t58 t59 t60 t61 t62,
    wC Try.prog dcfg.pol (CallR dcfg) (LoopR dcfg) c21_18 [.ptr (.arg 0) 0 0, t1, t2, t3, t4, t5, t6, t7, t8, t9, t10, t11, t12, t13, t14, t15, t16, t17, t18, t19, t20, t21, t22, t23, t24, t25, t26, t27, t28, t29, t30, t31, t32, t33, t34, t35, t36, t37, t38, t39, t40, t41, t42, t43, t44, t45, t46, t47, t48, t49, t50, t51, t52, t53, t54, t55, t56, t57, t58, t59, t60, t61, t62] H (wRes Try.prog [] Q) := by
  intro t1 t2 t3 t4 t5 t6 t7 t8 t9 t10 t11 t12 t13 t14 t15 t16 t17 t18 t19 t20 t21 t22 t23 t24 t25 t26 t27 t28 t29 t30 t31 t32 t33 t34 t35 t36 t37 t38 t39 t40 t41 t42 t43 t44 t45 t46 t47 t48 t49 t50 t51 t52 t53 t54 t55 t56 t57 t58 t59 t60 t61 t62
  simp only [w21_18, w21_18_0c, w21_18_0, w21_18_12, fa49_2, fa49_0, fa46_1, fa46_0, st47, st4, st3b]
  refine mk0 (.ptr (.arg 0) 0 0) (by rfl) ?_
  refine mk0 (.ptr (.arg 0) 0 4) (by rfl) ?_
  refine mk .und [(.arg 0, pblk l g b k .nils)] [.arg 0] (by simp [stR, live, h0, pblk, V.cells, fits, V.kept, V.kept0, splice]) ?_
  refine mk0 (.ptr (.arg 0) 0 0) (by rfl) ?_
  refine mk0 (.ptr (.arg 0) 0 0) (by rfl) ?_
  refine mk0 (.ptr (.arg 0) 0 1) (by rfl) ?_
  refine mk .und [(.arg 0, pblk l false b k .nils)] [.arg 0] (by simp [stR, live, Heap.sets, Heap.set, pblk, V.cells, fits, V.kept, V.kept0, splice]) ?_
  refine mk0 (.ptr (.arg 0) 0 0) (by rfl) ?_
  refine mk0 (.ptr (.arg 0) 0 0) (by rfl) ?_
  refine mk0 (.ptr (.arg 0) 0 0) (by rfl) ?_
  refine mk .und [(.arg 0, pblk (-1) false b k .nils)] [.arg 0] (by simp [stR, live, Heap.sets, Heap.set, pblk, V.cells, fits, V.kept, V.kept0, splice]) ?_
  refine hQ _ (by simp [Heap.sets, Heap.set]) (fun i hi => by simp [Heap.sets, Heap.set, hi])
end Go.Proofs.Ytcamcfplcoklkaa.Iv

namespace Go.Proofs.Ytcamcfplcoklkaa.Iv
open Go
set_option linter.unusedVariables false
set_option linter.unusedSimpArgs false
set_option maxRecDepth 100000
theorem WH_at0 (l b : Int) (g : Bool) (kc : List V) (q : V) (qb : Option Blk) : WH l g b kc q qb (.arg 0) = some (pblk l g b (kslice kc) q) := rfl
theorem WH_at1 (l b : Int) (g : Bool) (kc : List V) (q : V) (qb : Option Blk) : WH l g b kc q qb (.arg 1) = some ⟨0, kc, false, true⟩ := rfl
theorem WH_at2 (l b : Int) (g : Bool) (kc : List V) (q : V) (qb : Option Blk) : WH l g b kc q qb (.arg 2) = qb := rfl
theorem WH_at3 {l b : Int} {g : Bool} {kc : List V} {q : V} {qb : Option Blk} {j : Nat} (h : 2 < j) : WH l g b kc q qb (.arg j) = none := by
  match j, h with
  | j + 3, _ => rfl
set_option maxHeartbeats 4000000 in
/-- Crash, where nothing is queued -/
theorem crash_nil {l b torn : Int} {g : Bool} {kc : List V} (hN : kc.length < 1152921504606846976) {Q : V → Heap → Prop} (hQ : ∀ H', afterC b kc none H' → Q (.tup []) H') : ∀ t3 t4 t5 t6 t7 t8 t9 t10 t11 t12 t13 t14 t15 t16 t17 t18 t19 t20 t21 t22 t23 t24 t25 t26 t27 t28 t29 t30 t31 t32 t33 t34 t35 t36 t37 t38 t39 t40 t41 t42 t43 t44 t45 t46 t47 t48 t49 t50 t51 t52 t53 t54 t55 t56 t57 t58 t59 t60 t61 t62,
    wC Try.prog dcfg.pol (CallR dcfg) (LoopR dcfg) c21_8 [.ptr (.arg 0) 0 0, .int .i64 0, .int .i64 torn, t3, t4, t5, t6, t7, t8, t9, t10, t11, t12, t13, t14, t15, t16, t17, t18, t19, t20, t21, t22, t23, t24, t25, t26, t27, t28, t29, t30, t31, t32, t33, t34, t35, t36, t37, t38, t39, t40, t41, t42, t43, t44, t45, t46, t47, t48, t49, t50, t51, t52, t53, t54, t55, t56, t57, t58, t59, t60, t61, t62] (WH l g b kc .nils none) (wRes Try.prog [] Q) := by
  intro t3 t4 t5 t6 t7 t8 t9 t10 t11 t12 t13 t14 t15 t16 t17 t18 t19 t20 t21 t22 t23 t24 t25 t26 t27 t28 t29 t30 t31 t32 t33 t34 t35 t36 t37 t38 t39 t40 t41 t42 t43 t44 t45 t46 t47 t48 t49 t50 t51 t52 t53 t54 t55 t56 t57 t58 t59 t60 t61 t62
  have hq : ∀ H' : Heap, H' (.arg 0) = some (pblk (-1) false b (kslice kc) .nils) → (∀ i, i ≠ .arg 0 → H' i = WH l g b kc .nils none i) → Q (.tup []) H' := by
    intro H' a1 a2
    refine hQ H' ⟨a1, ?_, ?_, fun j hj => ?_⟩
    · rw [a2 _ (by simp)]; exact WH_at1 ..
    · rw [a2 _ (by simp)]; exact WH_at2 ..
    · rw [a2 _ (by simp; omega)]; exact WH_at3 hj
  have fin := crash_end (WH_at0 l b g kc .nils none) hq
  simp only [w21_8, w21_9, w21_9_0, w21_10, w21_11, w21_12, w21_12_0, w21_13, w21_17, seqK, fa49_2, ld47, len47]
  generalize wC Try.prog dcfg.pol (CallR dcfg) (LoopR dcfg) c21_14 = W14
  generalize wC Try.prog dcfg.pol (CallR dcfg) (LoopR dcfg) c21_18 = W18 at fin ⊢
  refine mk0 (.ptr (.arg 0) 0 0) (by rfl) ?_
  refine mk0 (.ptr (.arg 0) 0 4) (by rfl) ?_
  refine mk .nils [] [.arg 0] (by rfl) ?_
  refine mk0 .nils (by kernel_rfl) ?_
  refine call_settle_nil hN (fun v => ?_)
  refine mk0 (.ptr (.arg 0) 0 0) (by rfl) ?_
  refine mk0 (.ptr (.arg 0) 0 4) (by rfl) ?_
  refine mk .nils [] [.arg 0] (by rfl) ?_
  refine mk0 (.int .i64 0) (by rfl) ?_
  refine mk0 (.bool false) (by kernel_rfl) ?_
  refine condF ?_
  exact fin _ _ _ _ _ _ _ _ _ _ _ _ _ _ _ _ _ _ _ _ _ _ _ _ _ _ _ _ _ _ _ _ _ _ _ _ _ _ _ _ _ _ _ _ _ _ _ _ _ _ _ _ _ _ _ _ _ _ _ _ _ _ 
end Go.Proofs.Ytcamcfplcoklkaa.Iv

namespace Go.Proofs.Ytcamcfplcoklkaa.Iv
open Go
set_option linter.unusedVariables false
set_option linter.unusedSimpArgs false
set_option maxRecDepth 100000
theorem WH_XH {l b : Int} {g : Bool} {kc : List V} {m : Nat} {qc : List V} : WH l g b kc (.sl (.arg 2) 0 0 m 2 none) (some ⟨0, qc, false, true⟩) = XH l g b kc m qc none none := by
  funext i
  match i with
  | .arg 0 => rfl
  | .arg 1 => rfl
  | .arg 2 => rfl
  | .arg (j + 3) => rfl
  | .own t => unfold WH XH; split <;> first | rfl | (split <;> first | rfl | contradiction) | contradiction
  | .sub _ _ => rfl
theorem XH_own6 {l b : Int} {g : Bool} {kc : List V} {m : Nat} {qc : List V} {o6 o50 : Option Blk} {x : Blk} : (XH l g b kc m qc o6 o50).sets [(.own 6, x)] = XH l g b kc m qc (some x) o50 := by
  funext i
  simp only [Heap.sets, Heap.set]
  by_cases h2 : i = .own 6
  · subst h2; rfl
  · rw [if_neg h2]
    unfold XH
    split <;> first | rfl | (exfalso; exact h2 rfl)
theorem XH_own50 {l b : Int} {g : Bool} {kc : List V} {m : Nat} {qc : List V} {o6 o50 : Option Blk} {x : Blk} : (XH l g b kc m qc o6 o50).sets [(.own 50, x)] = XH l g b kc m qc o6 (some x) := by
  funext i
  simp only [Heap.sets, Heap.set]
  by_cases h2 : i = .own 50
  · subst h2; rfl
  · rw [if_neg h2]
    unfold XH
    split <;> first | rfl | (exfalso; exact h2 rfl)
theorem XH_at3 {l b : Int} {g : Bool} {kc : List V} {m : Nat} {qc : List V} {o6 o50 : Option Blk} {j : Nat} (h : 2 < j) : XH l g b kc m qc o6 o50 (.arg j) = none := by
  match j, h with
  | j + 3, _ => rfl
set_option maxHeartbeats 8000000 in
/-- Crash, the torn write -/
theorem crash_torn {l b torn : Int} {g : Bool} {kc : List V} {items : List (Nat × List Int)} {kn : Nat} {x : Nat × List Int} (hx : items[kn]? = some x) (hN : kc.length < 1152921504606846976) (hx1 : (x.1 + 1) * 64 ≤ kc.length ∧ x.2.length = 64) {K : KQ}
    (hK : ∀ o6 o50 t1 t2 t3 t4 t5 t6 t7 t8 t9 t10 t11 t12 t13 t14 t15 t16 t17 t18 t19 t20 t21 t22 t23 t24 t25 t26 t27 t28 t29 t30 t31 t32 t33 t34 t35 t36 t37 t38 t39 t40 t41 t42 t43 t44 t45 t46 t47 t48 t49 t50 t51 t52 t53 t54 t55 t56 t57 t58 t59 t60 t61 t62, K .nrm [.ptr (.arg 0) 0 0, t1, t2, t3, t4, t5, t6, t7, t8, t9, t10, t11, t12, t13, t14, t15, t16, t17, t18, t19, t20, t21, t22, t23, t24, t25, t26, t27, t28, t29, t30, t31, t32, t33, t34, t35, t36, t37, t38, t39, t40, t41, t42, t43, t44, t45, t46, t47, t48, t49, t50, t51, t52, t53, t54, t55, t56, t57, t58, t59, t60, t61, t62] (XH l g b (put1 kc (x.1, x.2.take (min torn.toNat 64))) items.length (qcells items) o6 o50)) : ∀ t3 t4 t5 t6 t7 t8 t9 t10 t11 t12 t13 t14 t15 t16 t17 t18 t19 t20 t21 t22 t23 t24 t25 t26 t27 t28 t29 t30 t31 t32 t33 t34 t35 t36 t37 t38 t39 t40 t41 t42 t43 t44 t45 t46 t47 t48 t49 t50 t51 t52 t53 t54 t55 t56 t57 t58 t59 t60 t61 t62,
    wC Try.prog dcfg.pol (CallR dcfg) (LoopR dcfg) c21_14 [.ptr (.arg 0) 0 0, .int .i64 (kn : Int), .int .i64 torn, t3, t4, t5, t6, t7, t8, t9, t10, t11, t12, t13, t14, t15, t16, t17, t18, t19, t20, t21, t22, t23, t24, t25, t26, t27, t28, t29, t30, t31, t32, t33, t34, t35, t36, t37, t38, t39, t40, t41, t42, t43, t44, t45, t46, t47, t48, t49, t50, t51, t52, t53, t54, t55, t56, t57, t58, t59, t60, t61, t62] (XH l g b kc items.length (qcells items) none none) K := by
  intro t3 t4 t5 t6 t7 t8 t9 t10 t11 t12 t13 t14 t15 t16 t17 t18 t19 t20 t21 t22 t23 t24 t25 t26 t27 t28 t29 t30 t31 t32 t33 t34 t35 t36 t37 t38 t39 t40 t41 t42 t43 t44 t45 t46 t47 t48 t49 t50 t51 t52 t53 t54 t55 t56 t57 t58 t59 t60 t61 t62
  have hlt : kn < items.length := (List.getElem?_eq_some_iff.1 hx).1
  have hq := qcells_cut items kn x hx
  simp only [w21_14, w21_15, w21_15_0, w21_16, w21_16_0, seqK, fa49_2, ld47, ia47, ld65, st65, fa65_0, fa65_1, ld3b, ld34b]
  refine mk0 (.ptr (.arg 0) 0 0) (by rfl) ?_
  refine mk0 (.ptr (.arg 0) 0 4) (by rfl) ?_
  refine mk (.sl (.arg 2) 0 0 items.length 2 none) [] [.arg 0] (by rfl) ?_
  refine mk0 (.ptr (.arg 2) 0 (kn * 2)) (by simp [iaR]; omega) ?_
  refine mk (.agg [.int .i64 (x.1 : Int), .list (bytesL x.2) false]) [] [.arg 2] (by simp [ldR, live, sets_nilE, XH, hq, mkv]) ?_
  refine mk (.ptr (.own 6) 0 0) [(.own 6, ⟨0, [.int .i64 0, .nils], false, false⟩)] [.own 6] (by kernel_rfl) ?_
  simp only [sets_nilE, XH_own6]
  refine mk .und [(.own 6, ⟨0, [.int .i64 (x.1 : Int), .list (bytesL x.2) false], false, false⟩)] [.own 6] (by simp [stR, live, XH, V.cells, fits, V.kept, V.kept0, splice]) ?_
  simp only [XH_own6]
  refine mkL0 (.ptr (.arg 0) 0 0) [] (by rfl) ?_
  refine mkL0 (.ptr (.own 6) 0 0) [] (by rfl) ?_
  refine mkL0 (.int .i64 (x.1 : Int)) [.own 6] (by rfl) ?_
  refine mkL0 (.ptr (.own 6) 0 1) [] (by rfl) ?_
  refine mkL0 (.list (bytesL x.2) false) [.own 6] (by rfl) ?_
  refine mkL0 (.int .i64 torn) [] (by rfl) ?_
  refine mkL0 (.int .i64 (if (0 : Int) > torn then 0 else torn)) [] (by rfl) ?_
  refine mkL0 (.int .i64 ((min torn.toNat 64 : Nat) : Int)) [] (by
    have : (if (64 : Int) < (if (0 : Int) > torn then 0 else torn) then (64 : Int) else (if (0 : Int) > torn then 0 else torn)) = ((min torn.toNat 64 : Nat) : Int) := by
      split <;> split <;> omega
    rw [← this]; rfl) ?_
  refine mkL0 _ [] (slice34f (by omega)) ?_
  refine mkL0 (.agg [.int .i64 (x.1 : Int), .list (bytesL (x.2.take (min torn.toNat 64))) false]) [] (by kernel_rfl) ?_
  refine mkL (.sl (.own 50) 0 0 1 2 (some 1)) [(.own 50, ⟨0, qcells [(x.1, x.2.take (min torn.toNat 64))], false, true⟩)] [.own 50] (by kernel_rfl) ?_
  simp only [XH_own50]
  refine call_settle_lit (x := (x.1, x.2.take (min torn.toNat 64))) hN ⟨hx1.1, by simp; omega⟩ (fun v => ?_)
  refine ⟨by kernel_rfl, ?_⟩
  exact hK ..
end Go.Proofs.Ytcamcfplcoklkaa.Iv

namespace Go.Proofs.Ytcamcfplcoklkaa.Iv
open Go
set_option linter.unusedVariables false
set_option linter.unusedSimpArgs false
set_option maxRecDepth 100000
/-- what lasts, if the first kn writes do, and of the next one a part -/
def lastC (kc : List V) (items : List (Nat × List Int)) (kn : Nat) (torn : Int) : List V :=
  match items[kn]? with
  | some x => put1 (settled kc (items.take kn)) (x.1, x.2.take (min torn.toNat 64))
  | none => settled kc (items.take kn)
set_option maxHeartbeats 8000000 in
/-- Crash, where something is queued -/
theorem crash_sl {l b torn : Int} {g : Bool} {kc : List V} {items : List (Nat × List Int)} {kn : Nat} (hk : kn ≤ items.length) (hn2 : items.length < 1000000) (hN : kc.length < 1152921504606846976) (hit : ∀ x ∈ items, (x.1 + 1) * 64 ≤ kc.length ∧ x.2.length = 64) {Q : V → Heap → Prop}
    (hQ : ∀ H', afterC b (lastC kc items kn torn) (some ⟨0, qcells items, false, true⟩) H' → Q (.tup []) H') : ∀ t3 t4 t5 t6 t7 t8 t9 t10 t11 t12 t13 t14 t15 t16 t17 t18 t19 t20 t21 t22 t23 t24 t25 t26 t27 t28 t29 t30 t31 t32 t33 t34 t35 t36 t37 t38 t39 t40 t41 t42 t43 t44 t45 t46 t47 t48 t49 t50 t51 t52 t53 t54 t55 t56 t57 t58 t59 t60 t61 t62,
    wC Try.prog dcfg.pol (CallR dcfg) (LoopR dcfg) c21_8 [.ptr (.arg 0) 0 0, .int .i64 (kn : Int), .int .i64 torn, t3, t4, t5, t6, t7, t8, t9, t10, t11, t12, t13, t14, t15, t16, t17, t18, t19, t20, t21, t22, t23, t24, t25, t26, t27, t28, t29, t30, t31, t32, t33, t34, t35, t36, t37, t38, t39, t40, t41, t42, t43, t44, t45, t46, t47, t48, t49, t50, t51, t52, t53, t54, t55, t56, t57, t58, t59, t60, t61, t62] (WH l g b kc (.sl (.arg 2) 0 0 items.length 2 none) (some ⟨0, qcells items, false, true⟩)) (wRes Try.prog [] Q) := by
  intro t3 t4 t5 t6 t7 t8 t9 t10 t11 t12 t13 t14 t15 t16 t17 t18 t19 t20 t21 t22 t23 t24 t25 t26 t27 t28 t29 t30 t31 t32 t33 t34 t35 t36 t37 t38 t39 t40 t41 t42 t43 t44 t45 t46 t47 t48 t49 t50 t51 t52 t53 t54 t55 t56 t57 t58 t59 t60 t61 t62
  have hit' : ∀ x ∈ items, (x.1 + 1) * 64 ≤ kc.length ∧ x.2.length ≤ 64 := fun x hx => ⟨(hit x hx).1, by have := (hit x hx).2; omega⟩
  have hlen : (settled kc (items.take kn)).length = kc.length := settled_len (fun x hx => hit' x (List.mem_of_mem_take hx))
  simp only [w21_8, w21_9, w21_9_0, w21_10, w21_11, w21_12, w21_12_0, w21_13, w21_17, seqK, fa49_2, ld47, len47]
  refine mk0 (.ptr (.arg 0) 0 0) (by rfl) ?_
  refine mk0 (.ptr (.arg 0) 0 4) (by rfl) ?_
  refine mk (.sl (.arg 2) 0 0 items.length 2 none) [] [.arg 0] (by rfl) ?_
  refine mk0 _ (slice47 hk) ?_
  refine call_settle_n hk hn2 hN hit' (fun v => ?_)
  refine mk0 (.ptr (.arg 0) 0 0) (by rfl) ?_
  refine mk0 (.ptr (.arg 0) 0 4) (by rfl) ?_
  refine mk (.sl (.arg 2) 0 0 items.length 2 none) [] [.arg 0] (by rfl) ?_
  refine mk0 (.int .i64 (items.length : Int)) (by rfl) ?_
  refine mk0 _ (bin_lss ..) ?_
  simp only [sets_nilE]
  by_cases hlt : kn < items.length
  · rw [decide_eq_true (show (kn : Int) < (items.length : Int) by omega)]
    refine condT ?_
    have hx : items[kn]? = some items[kn] := List.getElem?_eq_getElem hlt
    have hm := hit _ (List.getElem_mem hlt)
    rw [WH_XH]
    refine crash_torn hx (by rw [hlen]; exact hN) (by rw [hlen]; exact hm) (fun o6 o50 u1 u2 u3 u4 u5 u6 u7 u8 u9 u10 u11 u12 u13 u14 u15 u16 u17 u18 u19 u20 u21 u22 u23 u24 u25 u26 u27 u28 u29 u30 u31 u32 u33 u34 u35 u36 u37 u38 u39 u40 u41 u42 u43 u44 u45 u46 u47 u48 u49 u50 u51 u52 u53 u54 u55 u56 u57 u58 u59 u60 u61 u62 => ?_) _ _ _ _ _ _ _ _ _ _ _ _ _ _ _ _ _ _ _ _ _ _ _ _ _ _ _ _ _ _ _ _ _ _ _ _ _ _ _ _ _ _ _ _ _ _ _ _ _ _ _ _ _ _ _ _ _ _ _ _ 
    have hq : ∀ H' : Heap, H' (.arg 0) = some (pblk (-1) false b (kslice (lastC kc items kn torn)) .nils) → (∀ i, i ≠ .arg 0 → H' i = XH l g b (lastC kc items kn torn) items.length (qcells items) o6 o50 i) → Q (.tup []) H' := by
      intro H' a1 a2
      refine hQ H' ⟨a1, ?_, ?_, fun j hj => ?_⟩
      · rw [a2 _ (by simp)]; rfl
      · rw [a2 _ (by simp)]; rfl
      · rw [a2 _ (by simp; omega)]; exact XH_at3 hj
    have e : put1 (settled kc (items.take kn)) (items[kn].1, items[kn].2.take (min torn.toNat 64)) = lastC kc items kn torn := by unfold lastC; rw [hx]
    rw [e]
    have fin := crash_end (l := l) (b := b) (g := g) (k := kslice (lastC kc items kn torn)) (q := .sl (.arg 2) 0 0 items.length 2 none) (H := XH l g b (lastC kc items kn torn) items.length (qcells items) o6 o50) rfl hq
    exact fin _ _ _ _ _ _ _ _ _ _ _ _ _ _ _ _ _ _ _ _ _ _ _ _ _ _ _ _ _ _ _ _ _ _ _ _ _ _ _ _ _ _ _ _ _ _ _ _ _ _ _ _ _ _ _ _ _ _ _ _ _ _ 
  · rw [decide_eq_false (show ¬ (kn : Int) < (items.length : Int) by omega)]
    refine condF ?_
    have e : settled kc (items.take kn) = lastC kc items kn torn := by unfold lastC; rw [List.getElem?_eq_none (by omega)]
    rw [e]
    have hq : ∀ H' : Heap, H' (.arg 0) = some (pblk (-1) false b (kslice (lastC kc items kn torn)) .nils) → (∀ i, i ≠ .arg 0 → H' i = WH l g b (lastC kc items kn torn) (.sl (.arg 2) 0 0 items.length 2 none) (some ⟨0, qcells items, false, true⟩) i) → Q (.tup []) H' := by
      intro H' a1 a2
      refine hQ H' ⟨a1, ?_, ?_, fun j hj => ?_⟩
      · rw [a2 _ (by simp)]; exact WH_at1 ..
      · rw [a2 _ (by simp)]; exact WH_at2 ..
      · rw [a2 _ (by simp; omega)]; exact WH_at3 hj
    have fin := crash_end (WH_at0 l b g (lastC kc items kn torn) (.sl (.arg 2) 0 0 items.length 2 none) (some ⟨0, qcells items, false, true⟩)) hq
    exact fin _ _ _ _ _ _ _ _ _ _ _ _ _ _ _ _ _ _ _ _ _ _ _ _ _ _ _ _ _ _ _ _ _ _ _ _ _ _ _ _ _ _ _ _ _ _ _ _ _ _ _ _ _ _ _ _ _ _ _ _ _ _ 
end Go.Proofs.Ytcamcfplcoklkaa.Iv

namespace Go.Proofs.Ytcamcfplcoklkaa.Iv
open Go
set_option linter.unusedVariables false
set_option linter.unusedSimpArgs false
set_option maxRecDepth 100000
set_option maxHeartbeats 4000000 in
/-- Crash, on a disk -/
theorem crash_spec {l b keep torn : Int} {g : Bool} {kc : List V} {q : V} {qb : Option Blk} {items : List (Nat × List Int)} (h : QI q qb items) (hn2 : items.length < 1000000) (hN : kc.length < 1152921504606846976) (hit : ∀ x ∈ items, (x.1 + 1) * 64 ≤ kc.length ∧ x.2.length = 64) {Q : V → Heap → Prop}
    (h1 : secOf kc = 0 → Q (.tup []) (WH l g b kc q qb)) (h0 : secOf kc ≠ 0 → ∀ H', afterC b (lastC kc items (min keep.toNat items.length) torn) qb H' → Q (.tup []) H') : CallR dcfg 21 [.ptr (.arg 0) 0 0, .int .i64 keep, .int .i64 torn] (WH l g b kc q qb) Q := by
  obtain ⟨qv, rq, hv⟩ := view_q (l := l) (b := b) (g := g) (kc := kc) h
  have hit' : ∀ x ∈ items, (x.1 + 1) * 64 ≤ kc.length ∧ x.2.length ≤ 64 := fun x hx => ⟨(hit x hx).1, by have := (hit x hx).2; omega⟩
  refine CallR.body' (K := dcfg) (f := 21) (fn := Try.f21) (c := c21_0) (env := [.ptr (.arg 0) 0 0, .int .i64 keep, .int .i64 torn, .und, .und, .und, .und, .und, .und, .und, .und, .und, .und, .und, .und, .und, .und, .und, .und, .und, .und, .und, .und, .und, .und, .und, .und, .und, .und, .und, .und, .und, .und, .und, .und, .und, .und, .und, .und, .und, .und, .und, .und, .und, .und, .und, .und, .und, .und, .und, .und, .und, .und, .und, .und, .und, .und, .und, .und, .und, .und, .und, .und]) (rs := []) rfl (by kernel_rfl) (by kernel_rfl) (by kernel_rfl) (by kernel_rfl) (by kernel_rfl) (by kernel_rfl) ?_
  show wC Try.prog dcfg.pol (CallR dcfg) (LoopR dcfg) c21_0 _ _ _
  simp only [w21_0, w21_1, w21_2, w21_2_0, w21_3, w21_4, w21_5, w21_6, w21_7, w21_7_0, seqK, fa49_2, ld47, len47]
  refine call_view (Q := fun o => _) (dsk_of hv) (by kernel_rfl) (by kernel_rfl) (r_sectors ..) ⟨false, .inr ⟨_, _, rfl⟩⟩ ?_
  refine mk0 _ (bin_eql ..) ?_
  by_cases hz : secOf kc = 0
  · have e : (secs (chunk 1 kc.length kc) == 0) = true := by simpa [secOf] using hz
    rw [e]
    exact condT (h1 hz)
  have e : (secs (chunk 1 kc.length kc) == 0) = false := by simpa [secOf] using hz
  rw [e]
  refine condF ?_
  refine mk0 (.int .i64 (if (0 : Int) > keep then 0 else keep)) (by rfl) ?_
  refine mk0 (.ptr (.arg 0) 0 0) (by rfl) ?_
  refine mk0 (.ptr (.arg 0) 0 4) (by rfl) ?_
  refine mk q [] [.arg 0] (by rfl) ?_
  simp only [sets_nilE]
  refine mk0 (.int .i64 (items.length : Int)) (by cases h <;> rfl) ?_
  refine mk0 (.int .i64 ((min keep.toNat items.length : Nat) : Int)) (by
    have : (if ((items.length : Nat) : Int) < (if (0 : Int) > keep then 0 else keep) then ((items.length : Nat) : Int) else (if (0 : Int) > keep then 0 else keep)) = ((min keep.toNat items.length : Nat) : Int) := by
      split <;> split <;> omega
    rw [← this]; rfl) ?_
  cases h with
  | nil =>
    have e0 : min keep.toNat ([] : List (Nat × List Int)).length = 0 := by simp
    have hQ : ∀ H', afterC b kc none H' → Q (.tup []) H' := fun H' hH => h0 hz H' (by rw [e0]; exact hH)
    have fin := crash_nil (l := l) (g := g) (torn := torn) hN hQ
    rw [e0]
    exact fin _ _ _ _ _ _ _ _ _ _ _ _ _ _ _ _ _ _ _ _ _ _ _ _ _ _ _ _ _ _ _ _ _ _ _ _ _ _ _ _ _ _ _ _ _ _ _ _ _ _ _ _ _ _ _ _ _ _ _ _ 
  | sl =>
    have fin := crash_sl (l := l) (g := g) (kn := min keep.toNat items.length) (by omega) hn2 hN hit (h0 hz)
    exact fin _ _ _ _ _ _ _ _ _ _ _ _ _ _ _ _ _ _ _ _ _ _ _ _ _ _ _ _ _ _ _ _ _ _ _ _ _ _ _ _ _ _ _ _ _ _ _ _ _ _ _ _ _ _ _ _ _ _ _ _ 
end Go.Proofs.Ytcamcfplcoklkaa.Iv

namespace Go.Proofs.Ytcamcfplcoklkaa.Iv
open Go
set_option linter.unusedVariables false
set_option linter.unusedSimpArgs false
set_option maxRecDepth 100000
/-! ### a frame that holds a disk, under any names -/
def dq (qn : Option (Id × Nat)) (m : Nat) : V := match qn with | none => .nils | some (Q, gq) => .sl Q gq 0 m 2 none
structure DFr (H : Heap) (D K : Id) (gd gk : Nat) (qn : Option (Id × Nat)) (l : Int) (g : Bool) (b : Int) (kc : List V) (items : List (Nat × List Int)) : Prop where
  hD : H D = some ⟨gd, [.int .i64 l, .bool g, .int .i64 b, .sl K gk 0 kc.length 1 none, dq qn items.length], false, false⟩
  hK : H K = some ⟨gk, kc, false, true⟩
  hQ : ∀ Q gq, qn = some (Q, gq) → H Q = some ⟨gq, qcells items, false, true⟩ ∧ Q ≠ D ∧ Q ≠ K
  hn : qn = none → items = []
  dk : D ≠ K
def accOf (D K : Id) (qn : Option (Id × Nat)) : List Id := match qn with | none => [D, K] | some (Q, _) => [D, K, Q]
def qIn (qn : Option (Id × Nat)) (items : List (Nat × List Int)) : V := match qn with | none => .nils | some _ => .sl (.arg 2) 0 0 items.length 2 none
def qbIn (qn : Option (Id × Nat)) (items : List (Nat × List Int)) : Option Blk := match qn with | none => none | some _ => some ⟨0, qcells items, false, true⟩
theorem DFr.qi {H : Heap} {D K : Id} {gd gk : Nat} {qn : Option (Id × Nat)} {l b : Int} {g : Bool} {kc : List V} {items : List (Nat × List Int)} (h : DFr H D K gd gk qn l g b kc items) : QI (qIn qn items) (qbIn qn items) items := by
  cases qn with
  | none => have := h.hn rfl; subst this; exact .nil
  | some p => exact .sl items
theorem coll_d {H : Heap} {D K : Id} {gd gk : Nat} {qn : Option (Id × Nat)} {l b : Int} {g : Bool} {kc : List V} {items : List (Nat × List Int)} (h : DFr H D K gd gk qn l g b kc items) : collect H 200 [(D, gd)] [] = some (accOf D K qn) := by
  have l1 : live H D gd = some ⟨gd, [.int .i64 l, .bool g, .int .i64 b, .sl K gk 0 kc.length 1 none, dq qn items.length], false, false⟩ := by simp [live, h.hD]
  have l2 : live H K gk = some ⟨gk, kc, false, true⟩ := by simp [live, h.hK]
  have dk := h.dk
  cases qn with
  | none => simp [collect, l1, l2, refsL, refs, dq, accOf, dk, Ne.symm dk]
  | some p =>
    obtain ⟨Q, gq⟩ := p
    obtain ⟨q1, q2, q3⟩ := h.hQ Q gq rfl
    have l3 : live H Q gq = some ⟨gq, qcells items, false, true⟩ := by simp [live, q1]
    simp [collect, l1, l2, l3, refsL, refs, dq, accOf, dk, Ne.symm dk, q2, q3]
theorem enter_d {H : Heap} {D K : Id} {gd gk : Nat} {qn : Option (Id × Nat)} {l b : Int} {g : Bool} {kc : List V} {items : List (Nat × List Int)} (h : DFr H D K gd gk qn l g b kc items) : enterH H (accOf D K qn) = WH l g b kc (qIn qn items) (qbIn qn items) := by
  have dk := h.dk
  have l1 : live H D gd = some ⟨gd, [.int .i64 l, .bool g, .int .i64 b, .sl K gk 0 kc.length 1 none, dq qn items.length], false, false⟩ := by simp [live, h.hD]
  have l2 : live H K gk = some ⟨gk, kc, false, true⟩ := by simp [live, h.hK]
  funext i
  cases qn with
  | none =>
    match i with
    | .arg 0 => simp [enterH, accOf, h.hD, WH, pblk, kslice, qIn, renL, ren, intoRen, pos, dk, l2, dq]
    | .arg 1 => simp [enterH, accOf, h.hK, WH]
    | .arg (j + 2) =>
      cases j with
      | zero => rfl
      | succ j => rfl
    | .own _ => rfl
    | .sub _ _ => rfl
  | some p =>
    obtain ⟨Q, gq⟩ := p
    obtain ⟨q1, q2, q3⟩ := h.hQ Q gq rfl
    have l3 : live H Q gq = some ⟨gq, qcells items, false, true⟩ := by simp [live, q1]
    match i with
    | .arg 0 => simp [enterH, accOf, h.hD, WH, pblk, kslice, qIn, renL, ren, intoRen, pos, dk, l2, l3, dq, Ne.symm q2, Ne.symm q3]
    | .arg 1 => simp [enterH, accOf, h.hK, WH]
    | .arg 2 => simp [enterH, accOf, q1, WH, qbIn]
    | .arg (j + 3) => rfl
    | .own _ => rfl
    | .sub _ _ => rfl
end Go.Proofs.Ytcamcfplcoklkaa.Iv

namespace Go.Proofs.Ytcamcfplcoklkaa.Iv
open Go
set_option linter.unusedVariables false
set_option linter.unusedSimpArgs false
set_option maxRecDepth 100000
theorem pre_d {H : Heap} {D K : Id} {gd gk : Nat} {qn : Option (Id × Nat)} {l b : Int} {g : Bool} {kc : List V} {items : List (Nat × List Int)} (h : DFr H D K gd gk qn l g b kc items) {f : Nat} {args rest : List V} {rd : List Id}
    (ha : argsIn H (dcfg.pol f).modes args = some (.ptr D gd 0 :: rest, [], rd)) (hr : refsL rest = []) (hd : ∀ i ∈ accOf D K qn, i ∉ rd) :
    callPre dcfg.pol H f args = some ⟨.ptr (.arg 0) 0 0 :: rest, WH l g b kc (qIn qn items) (qbIn qn items), accOf D K qn, [], rd⟩ := by
  have e0 : refsL (.ptr D gd 0 :: rest) = [(D, gd)] := by simp [refsL, refs, hr]
  have hany : ((accOf D K qn).any fun i => rd.contains i && !([] : List (Id × Blk)).any fun x => x.1 == i) = false := by
    rw [List.any_eq_false]
    intro i hi
    simp [hd i hi]
  have hren : renIf (accOf D K qn) (intoRen H (accOf D K qn)) (.ptr D gd 0 :: rest) = .ptr (.arg 0) 0 0 :: rest := by
    have l1 : live H D gd = some ⟨gd, [.int .i64 l, .bool g, .int .i64 b, .sl K gk 0 kc.length 1 none, dq qn items.length], false, false⟩ := by simp [live, h.hD]
    cases qn with
    | none => simp [renIf, accOf, renL, ren, intoRen, pos, l1, renL_norefs _ _ hr]
    | some p => simp [renIf, accOf, renL, ren, intoRen, pos, l1, renL_norefs _ _ hr]
  unfold callPre
  rw [ha]
  simp only [Heap.sets, e0, coll_d h, hany, hren, enter_d h]
  rfl
/-- what a function leaves of the disk it was handed -/
structure DOut (H' : Heap) (n : Nat) (qo : Option (Id × Nat)) (l : Int) (g : Bool) (b : Int) (kc : List V) (items : List (Nat × List Int)) : Prop where
  h0 : H' (.arg 0) = some ⟨0, [.int .i64 l, .bool g, .int .i64 b, .sl (.arg 1) 0 0 kc.length 1 none, dq qo items.length], false, false⟩
  h1 : H' (.arg 1) = some ⟨0, kc, false, true⟩
  hq : ∀ Q gq, qo = some (Q, gq) → H' Q = some ⟨gq, qcells items, false, true⟩
  hn : qo = none → items = []
theorem post_nn {H H' : Heap} {D K : Id} {gd gk : Nat} {l b l2 b2 : Int} {g g2 : Bool} {kc kc2 : List V} {items : List (Nat × List Int)} (h : DFr H D K gd gk none l g b kc items) (o : DOut H' 2 none l2 g2 b2 kc2 []) {d f : Nat} {r : V} {as0 : List V} {rd : List Id}
    (hret : retIn (dcfg.pol f).own H' r = some (r, [])) (hrr : refs r = []) (hk : outKept r = true) :
    callPost dcfg.pol H d f ⟨as0, WH l g b kc .nils none, [D, K], [], rd⟩ r H' = some ⟨r, [(D, ⟨gd, [.int .i64 l2, .bool g2, .int .i64 b2, .sl K gk 0 kc2.length 1 none, .nils], false, false⟩), (K, ⟨gk, kc2, false, true⟩)], rd ++ [D, K] ++ [Id.arg 0, Id.arg 1].map (newName d [D, K])⟩ := by
  have l0 : live H' (.arg 0) 0 = some ⟨0, [.int .i64 l2, .bool g2, .int .i64 b2, .sl (.arg 1) 0 0 kc2.length 1 none, .nils], false, false⟩ := by simp [live, o.h0, dq]
  have l1 : live H' (.arg 1) 0 = some ⟨0, kc2, false, true⟩ := by simp [live, o.h1]
  have hr' : ∀ fn, ren fn r = r := fun fn => ren_norefs _ _ hrr
  have a0 := o.h0
  have a1 := o.h1
  have c : collect H' 200 [(.arg 0, 0), (.arg 1, 0)] [] = some [.arg 0, .arg 1] := by simp [collect, l0, l1, refsL, refs]
  unfold callPost
  rw [hret]
  simp [Heap.sets, hrr, argIds, a0, a1, c, backUps, backName, h.hD, h.hK, V.kept, V.kept0, renL, ren, backRen, renIfV, hr', hk, freshSubs, dq]
end Go.Proofs.Ytcamcfplcoklkaa.Iv
