import Derived.Test.YtcamcfplcoklkaaM20
namespace Go.Proofs.Ytcamcfplcoklkaa.Iv
open Go
set_option linter.unusedVariables false
set_option linter.unusedSimpArgs false
set_option maxRecDepth 100000

/-! ### the reference's disk, looked at -/
def strL (l : List (List UInt8)) : List (List V) := l.map fun s => [V.str s]
def wL (l : List (Nat × List UInt8)) : List (List V) := l.map fun x => [V.int .i64 (x.1 : Int), .str x.2]
theorem chunk_k : ∀ (l : List (List UInt8)), chunk 1 l.length (keptV l) = strL l
  | [] => rfl
  | x :: r => by
    have := chunk_k r
    simp only [keptV, List.map_cons, List.length_cons, chunk, strL] at this ⊢
    congr 1
theorem chunk_w : ∀ (l : List (Nat × List UInt8)), chunk 2 l.length (queueV l) = wL l
  | [] => rfl
  | x :: r => by
    have := chunk_w r
    simp only [List.length_cons, chunk, queueV, wL, List.map_cons] at this ⊢
    congr 1
inductive QW : V → List (Nat × List UInt8) → Prop
  | nil : QW .nils []
  | list (l : List (Nat × List UInt8)) : QW (.list (wL l) true) l
theorem QW.shape {qv : V} {q : List (Nat × List UInt8)} (h : QW qv q) : qv = .nils ∧ q = [] ∨ qv = .list (wL q) true := by
  cases h with
  | nil => exact .inl ⟨rfl, rfl⟩
  | list => exact .inr rfl
def vR (r : RD) (qv : V) : V := .fptr [.list (strL r.kept) true, qv, .int .i64 r.trip, .int .i64 r.cap, .bool r.dark] true
def rqRd (bn : Option (Id × Nat)) : List Id := match bn with | none => [] | some (B, _) => [B]
theorem view_R {H : Heap} {R A : Id} {gr ga : Nat} {bn : Option (Id × Nat)} {r : RD} (h : RF H R A gr ga bn r) : ∃ qv, QW qv r.queue ∧ view1 H (.ptr R gr 0) = some ⟨vR r qv, [], R :: A :: rqRd bn⟩ := by
  have l1 : live H R gr = some ⟨gr, rcells A ga bn r, false, false⟩ := by simp [live, h.hR]
  have l2 : live H A ga = some ⟨ga, keptV r.kept, false, true⟩ := by simp [live, h.hA]
  have ca : cut (keptV r.kept) 0 (r.kept.length * 1) = some (keptV r.kept) := by rw [Nat.mul_one, ← keptV_len]; exact cut_all _
  have e2 : viewC H (.sl A ga 0 r.kept.length 1 none) = some (.list (strL r.kept) true, [A]) := by
    simp only [viewC, l2, ca, chunk_k]
    simp
  have e0 : viewL H [.int .i64 r.trip, .int .i64 r.cap, .bool r.dark] = some ([.int .i64 r.trip, .int .i64 r.cap, .bool r.dark], []) := by rfl
  cases bn with
  | none =>
    refine ⟨.nils, by rw [h.hn rfl]; exact .nil, ?_⟩
    simp only [view1, l1, List.drop_zero, rcells, rq]
    rw [viewL, e2]
    simp only
    rw [viewL]
    simp only [viewC, V.plain, if_true]
    rw [e0]
    rfl
  | some q =>
    obtain ⟨B, gb⟩ := q
    obtain ⟨q1, _, _⟩ := h.hB B gb rfl
    have l3 : live H B gb = some ⟨gb, queueV r.queue, false, true⟩ := by simp [live, q1]
    have cb : cut (queueV r.queue) 0 (r.queue.length * 2) = some (queueV r.queue) := by rw [← queueV_len]; exact cut_all _
    have e3 : viewC H (.sl B gb 0 r.queue.length 2 none) = some (.list (wL r.queue) true, [B]) := by
      simp only [viewC, l3, cb, chunk_w]
      simp
    refine ⟨.list (wL r.queue) true, .list _, ?_⟩
    simp only [view1, l1, List.drop_zero, rcells, rq]
    rw [viewL, e2]
    simp only
    rw [viewL, e3]
    simp only
    rw [e0]
    rfl
theorem flat_take {l : List (List UInt8)} {k : Nat} {s : List UInt8} (h : l[k]? = some s) : (l.take (k + 1)).flatten = (l.take k).flatten ++ s := by
  rw [List.take_add_one, h]; simp
theorem flat_len {l : List (List UInt8)} (h : ∀ s ∈ l, s.length = 64) : l.flatten.length = l.length * 64 := by
  induction l with
  | nil => rfl
  | cons x r ih =>
    have h1 := h x (by simp)
    have h2 := ih (fun s hs => h s (by simp [hs]))
    simp [h1, h2]; omega
theorem strL_at {l : List (List UInt8)} {k : Nat} {s : List UInt8} (h : l[k]? = some s) : (strL l)[k]? = some [V.str s] := by simp [strL, h]
theorem wL_at {l : List (Nat × List UInt8)} {k : Nat} {x : Nat × List UInt8} (h : l[k]? = some x) : (wL l)[k]? = some [V.int .i64 (x.1 : Int), .str x.2] := by simp [wL, h]
set_option maxHeartbeats 2000000 in
theorem rimage_loop {r : RD} {qv : V} (hl2 : r.kept.length ≤ 64) (h64 : ∀ s ∈ r.kept, s.length = 64) {H : Heap} {Q : KQ}
    (hx : ∀ t4 t1 t5 t6 t7 t8 t9 t10 t11 t12 t13 t14 t15 t16 t17 t18 t19 t20 t21 t22 t23, Q (.exit 0) [vR r qv, t1, .str [], .str r.kept.flatten, t4, t5, t6, t7, t8, t9, t10, t11, t12, t13, t14, t15, t16, t17, t18, t19, t20, t21, t22, t23] H) :
    ∀ (m k : Nat), k + m = r.kept.length → ∀ t1 t5 t6 t7 t8 t9 t10 t11 t12 t13 t14 t15 t16 t17 t18 t19 t20 t21 t22 t23, LoopR dcfg c17_9 [vR r qv, t1, .str [], .str (r.kept.take k).flatten, .int .i64 (k : Int), t5, t6, t7, t8, t9, t10, t11, t12, t13, t14, t15, t16, t17, t18, t19, t20, t21, t22, t23] H Q := by
  intro m
  induction m with
  | zero =>
    intro k hk t1 t5 t6 t7 t8 t9 t10 t11 t12 t13 t14 t15 t16 t17 t18 t19 t20 t21 t22 t23
    refine LoopR.step ?_
    show wC Try.prog dcfg.pol (CallR dcfg) (LoopR dcfg) c17_9 _ H _
    simp only [w17_9, w17_10, w17_11, w17_11_0, w17_12, w17_13, w17_14, seqK, fa41_0, ld38, len38]
    refine mk0 (vR r qv) (by rfl) ?_
    refine mk0 (vR r qv) (by rfl) ?_
    refine mk0 (.list (strL r.kept) true) (by rfl) ?_
    refine mk0 (.int .i64 (r.kept.length : Int)) (by simp [lenS, strL]) ?_
    refine mk0 (.bool false) (by rw [bin_lss, decide_eq_false (by omega)]) ?_
    refine condF ?_
    have e : r.kept.take k = r.kept := List.take_of_length_le (by omega)
    rw [e]
    exact hx _ _ _ _ _ _ _ _ _ _ _ _ _ _ _ _ _ _ _ _ _
  | succ m ih =>
    intro k hk t1 t5 t6 t7 t8 t9 t10 t11 t12 t13 t14 t15 t16 t17 t18 t19 t20 t21 t22 t23
    have hlt : k < r.kept.length := by omega
    obtain ⟨s, hs⟩ : ∃ s, r.kept[k]? = some s := ⟨r.kept[k], by simp [hlt]⟩
    have hs64 := h64 s (List.mem_of_getElem? hs)
    have hfl : (r.kept.take k).flatten.length ≤ 4096 := by
      rw [flat_len (fun s hs => h64 s (List.mem_of_mem_take hs))]
      have : (r.kept.take k).length ≤ 64 := by simp; omega
      omega
    refine LoopR.step ?_
    show wC Try.prog dcfg.pol (CallR dcfg) (LoopR dcfg) c17_9 _ H _
    simp only [w17_9, w17_10, w17_11, w17_11_0, w17_12, w17_13, w17_14, w17_15, w17_16, w17_17, w17_17_0, w17_18, w17_18_0, seqK, blockK, fa41_0, ld38, len38, ia38, ld9]
    refine mk0 (vR r qv) (by rfl) ?_
    refine mk0 (vR r qv) (by rfl) ?_
    refine mk0 (.list (strL r.kept) true) (by rfl) ?_
    refine mk0 (.int .i64 (r.kept.length : Int)) (by simp [lenS, strL]) ?_
    refine mk0 (.bool true) (by rw [bin_lss, decide_eq_true (by omega)]) ?_
    refine condT ?_
    refine mk0 (vR r qv) (by rfl) ?_
    refine mk0 (vR r qv) (by rfl) ?_
    refine mk0 (.list (strL r.kept) true) (by rfl) ?_
    refine mk0 _ (ia_list (strL_at hs) (by rfl) (by decide)) ?_
    refine mk0 (.str s) (by rfl) ?_
    refine mk0 _ (bin_sadd (by omega)) ?_
    refine mk0 _ (bin_add (by omega) (by omega)) ?_
    rw [← flat_take hs]
    exact ih (k + 1) (by omega) _ _ _ _ _ _ _ _ _ _ _ _ _ _ _ _ _ _ _ _
/-- Image, of a disk that is looked at -/
theorem rimage_spec {r : RD} {qv : V} (hl2 : r.kept.length ≤ 64) (h64 : ∀ s ∈ r.kept, s.length = 64) {H : Heap} {Q : V → Heap → Prop} (hQ : Q (.str r.kept.flatten) H) : CallR dcfg 17 [vR r qv] H Q := by
  refine CallR.body' (K := dcfg) (f := 17) (fn := Try.f17) (c := c17_0) (env := [vR r qv, .und, .und, .und, .und, .und, .und, .und, .und, .und, .und, .und, .und, .und, .und, .und, .und, .und, .und, .und, .und, .und, .und, .und]) (rs := [.tmp 2]) rfl (by kernel_rfl) (by kernel_rfl) (by kernel_rfl) (by kernel_rfl) (by kernel_rfl) (by kernel_rfl) ?_
  show wC Try.prog dcfg.pol (CallR dcfg) (LoopR dcfg) c17_0 _ _ (wRes Try.prog _ _)
  simp only [w17_0, w17_1, w17_1_0, w17_2, w17_3, w17_3_0, w17_4, w17_5, w17_6, w17_6_0, w17_7, w17_8, seqK]
  refine rimage_loop (k := 0) (m := r.kept.length) hl2 h64 (fun t4 t1 t5 t6 t7 t8 t9 t10 t11 t12 t13 t14 t15 t16 t17 t18 t19 t20 t21 t22 t23 => ?_) (by omega) _ _ _ _ _ _ _ _ _ _ _ _ _ _ _ _ _ _ _ _
  simp only [w17_19, w17_20, w17_20_0, w17_21, seqK, blockK, if_true]
  exact hQ
/-- Image, at a frame -/
theorem rimage_call {H : Heap} {R A : Id} {gr ga : Nat} {bn : Option (Id × Nat)} {r : RD} (h : RF H R A gr ga bn r) (hl2 : r.kept.length ≤ 64) (h64 : ∀ s ∈ r.kept, s.length = 64) {d : Nat} {Q : Out → Prop} (hQ : Q ⟨.str r.kept.flatten, [], R :: A :: rqRd bn⟩) : wCall dcfg.pol (CallR dcfg) H d 17 [.ptr R gr 0] Q := by
  obtain ⟨qv, hqv, hv⟩ := view_R h
  have hm : (dcfg.pol 17).modes = [.view] := by kernel_rfl
  have e1 : callPre dcfg.pol H 17 [.ptr R gr 0] = some ⟨[vR r qv], fun _ => none, [], [], R :: A :: rqRd bn⟩ := by
    unfold callPre
    rw [hm]
    simp only [argsIn, List.headD, argIn, hv, List.tail, List.append_nil, List.nil_append]
    rcases hqv.shape with ⟨rfl, _⟩ | rfl <;> cases bn <;> rfl
  unfold wCall
  rw [e1]
  refine rimage_spec hl2 h64 ?_
  have e2 : callPost dcfg.pol H d 17 ⟨[vR r qv], fun _ => none, [], [], R :: A :: rqRd bn⟩ (.str r.kept.flatten) (fun _ => none) = some ⟨.str r.kept.flatten, [], (R :: A :: rqRd bn) ++ [] ++ []⟩ := by kernel_rfl
  show outW (callPost dcfg.pol H d 17 ⟨[vR r qv], fun _ => none, [], [], R :: A :: rqRd bn⟩ (.str r.kept.flatten) (fun _ => none)) Q
  rw [e2, List.append_nil, List.append_nil]
  exact hQ
/-- what is seen of a sector: the last write to it, or what lasts -/
def rseen (s : List UInt8) (q : List (Nat × List UInt8)) (n : Nat) : List UInt8 := q.foldl (fun s x => if x.1 = n then x.2 else s) s
theorem rseen_succ {s : List UInt8} {q : List (Nat × List UInt8)} {n k : Nat} {x : Nat × List UInt8} (h : q[k]? = some x) : rseen s (q.take (k + 1)) n = if x.1 = n then x.2 else rseen s (q.take k) n := by
  have e : q.take (k + 1) = q.take k ++ [x] := by rw [List.take_add_one, h]; rfl
  unfold rseen
  rw [e, List.foldl_append]
  rfl
set_option maxHeartbeats 2000000 in
theorem rseen_loop {r : RD} {qv : V} (hqv : QW qv r.queue) (hql : r.queue.length ≤ 1000000) {at_ : Nat} {s : List UInt8} {H : Heap} {Q : KQ}
    (hx : ∀ t6 t2 t3 t7 t8 t9 t10 t11 t12 t13 t14 t15 t16 t17 t18 t19 t20 t21 t22 t23 t24 t25 t26 t27 t28 t29 t30 t31 t32 t33 t34 t35 t36 t37 t38 t39 t40 t41, Q (.exit 0) [vR r qv, .int .i64 (at_ : Int), t2, t3, .str [], .str (rseen s r.queue at_), t6, t7, t8, t9, t10, t11, t12, t13, t14, t15, t16, t17, t18, t19, t20, t21, t22, t23, t24, t25, t26, t27, t28, t29, t30, t31, t32, t33, t34, t35, t36, t37, t38, t39, t40, t41] H) :
    ∀ (m k : Nat), k + m = r.queue.length → ∀ t2 t3 t7 t8 t9 t10 t11 t12 t13 t14 t15 t16 t17 t18 t19 t20 t21 t22 t23 t24 t25 t26 t27 t28 t29 t30 t31 t32 t33 t34 t35 t36 t37 t38 t39 t40 t41, LoopR dcfg c37_9 [vR r qv, .int .i64 (at_ : Int), t2, t3, .str [], .str (rseen s (r.queue.take k) at_), .int .i64 (k : Int), t7, t8, t9, t10, t11, t12, t13, t14, t15, t16, t17, t18, t19, t20, t21, t22, t23, t24, t25, t26, t27, t28, t29, t30, t31, t32, t33, t34, t35, t36, t37, t38, t39, t40, t41] H Q := by
  have hlen : lenS qv = pureO (.int .i64 (r.queue.length : Int)) := by
    rcases hqv.shape with ⟨rfl, e⟩ | rfl
    · simp [lenS, e]
    · simp [lenS, wL]
  have hq1 : ldR 1 false H (.fptr [qv, .int .i64 r.trip, .int .i64 r.cap, .bool r.dark] true) = pureO qv := by rfl
  intro m
  induction m with
  | zero =>
    intro k hk t2 t3 t7 t8 t9 t10 t11 t12 t13 t14 t15 t16 t17 t18 t19 t20 t21 t22 t23 t24 t25 t26 t27 t28 t29 t30 t31 t32 t33 t34 t35 t36 t37 t38 t39 t40 t41
    refine LoopR.step ?_
    show wC Try.prog dcfg.pol (CallR dcfg) (LoopR dcfg) c37_9 _ H _
    simp only [w37_9, w37_10, w37_11, w37_11_0, w37_12, w37_13, w37_14, seqK, fa41_1, ld39, len39]
    refine mk0 (vR r qv) (by rfl) ?_
    refine mk0 (.fptr [qv, .int .i64 r.trip, .int .i64 r.cap, .bool r.dark] true) (by rfl) ?_
    refine mk0 qv hq1 ?_
    refine mk0 _ hlen ?_
    refine mk0 (.bool false) (by rw [bin_lss, decide_eq_false (by omega)]) ?_
    refine condF ?_
    have e : r.queue.take k = r.queue := List.take_of_length_le (by omega)
    rw [e]
    exact hx _ _ _ _ _ _ _ _ _ _ _ _ _ _ _ _ _ _ _ _ _ _ _ _ _ _ _ _ _ _ _ _ _ _ _ _ _ _
  | succ m ih =>
    intro k hk t2 t3 t7 t8 t9 t10 t11 t12 t13 t14 t15 t16 t17 t18 t19 t20 t21 t22 t23 t24 t25 t26 t27 t28 t29 t30 t31 t32 t33 t34 t35 t36 t37 t38 t39 t40 t41
    have hlt : k < r.queue.length := by omega
    obtain ⟨x, hqx⟩ : ∃ x, r.queue[k]? = some x := ⟨r.queue[k], by simp [hlt]⟩
    have hqw : qv = .list (wL r.queue) true := by
      generalize r.queue = q at hqv hlt
      cases hqv with
      | nil => simp at hlt
      | list => rfl
    refine LoopR.step ?_
    show wC Try.prog dcfg.pol (CallR dcfg) (LoopR dcfg) c37_9 _ H _
    simp only [w37_9, w37_10, w37_11, w37_11_0, w37_12, w37_13, w37_14, w37_15, w37_16, w37_17, w37_18, w37_18_0, w37_19, w37_22, w37_22_0, seqK, blockK, fa41_1, ld39, len39, ia39, fa72_0, ld3b]
    refine mk0 (vR r qv) (by rfl) ?_
    refine mk0 (.fptr [qv, .int .i64 r.trip, .int .i64 r.cap, .bool r.dark] true) (by rfl) ?_
    refine mk0 qv hq1 ?_
    refine mk0 _ hlen ?_
    refine mk0 (.bool true) (by rw [bin_lss, decide_eq_true (by omega)]) ?_
    refine condT ?_
    refine mk0 (vR r qv) (by rfl) ?_
    refine mk0 (.fptr [qv, .int .i64 r.trip, .int .i64 r.cap, .bool r.dark] true) (by rfl) ?_
    refine mk0 qv hq1 ?_
    have hia : iaR 2 qv (.int .i64 (k : Int)) = pureO (.fptr [.int .i64 (x.1 : Int), .str x.2] true) := by
      rw [hqw]; exact ia_list (wL_at hqx) (by rfl) (by decide)
    refine mk0 _ hia ?_
    refine mk0 (.fptr [.int .i64 (x.1 : Int), .str x.2] true) (by rfl) ?_
    refine mk0 (.int .i64 (x.1 : Int)) (by rfl) ?_
    refine mk0 _ (bin_eql ..) ?_
    by_cases he : x.1 = at_
    · have e : ((x.1 : Int) == (at_ : Int)) = true := by simp [he]
      rw [e]
      refine condT ?_
      simp only [w37_20, w37_20_0, w37_22, w37_22_0, seqK, blockK, fa41_1, ld39, ia39, fa72_1, ld9]
      refine mk0 (vR r qv) (by rfl) ?_
      refine mk0 (.fptr [qv, .int .i64 r.trip, .int .i64 r.cap, .bool r.dark] true) (by rfl) ?_
      refine mk0 qv hq1 ?_
      refine mk0 _ hia ?_
      refine mk0 (.fptr [.str x.2] true) (by rfl) ?_
      refine mk0 (.str x.2) (by rfl) ?_
      refine mk0 _ (bin_add (by omega) (by omega)) ?_
      have e2 : rseen s (r.queue.take (k + 1)) at_ = x.2 := by rw [rseen_succ hqx, if_pos he]
      rw [← e2]
      exact ih (k + 1) (by omega) _ _ _ _ _ _ _ _ _ _ _ _ _ _ _ _ _ _ _ _ _ _ _ _ _ _ _ _ _ _ _ _ _ _ _ _ _
    · have e : ((x.1 : Int) == (at_ : Int)) = false := by
        simp only [beq_eq_false_iff_ne, ne_eq]; omega
      rw [e]
      refine condF ?_
      simp only [w37_21, w37_22, w37_22_0, seqK, blockK]
      refine mk0 _ (bin_add (by omega) (by omega)) ?_
      have e2 : rseen s (r.queue.take (k + 1)) at_ = rseen s (r.queue.take k) at_ := by rw [rseen_succ hqx, if_neg he]
      rw [← e2]
      exact ih (k + 1) (by omega) _ _ _ _ _ _ _ _ _ _ _ _ _ _ _ _ _ _ _ _ _ _ _ _ _ _ _ _ _ _ _ _ _ _ _ _ _
theorem seen_spec {r : RD} {qv : V} (hqv : QW qv r.queue) (hql : r.queue.length ≤ 1000000) {at_ : Nat} {s : List UInt8} (hs : r.kept[at_]? = some s) {H : Heap} {Q : V → Heap → Prop} (hQ : Q (.str (rseen s r.queue at_)) H) : CallR dcfg 37 [vR r qv, .int .i64 (at_ : Int)] H Q := by
  refine CallR.body' (K := dcfg) (f := 37) (fn := Try.f37) (c := c37_0) (env := [vR r qv, .int .i64 (at_ : Int), .und, .und, .und, .und, .und, .und, .und, .und, .und, .und, .und, .und, .und, .und, .und, .und, .und, .und, .und, .und, .und, .und, .und, .und, .und, .und, .und, .und, .und, .und, .und, .und, .und, .und, .und, .und, .und, .und, .und, .und]) (rs := [.tmp 4]) rfl (by kernel_rfl) (by kernel_rfl) (by kernel_rfl) (by kernel_rfl) (by kernel_rfl) (by kernel_rfl) ?_
  show wC Try.prog dcfg.pol (CallR dcfg) (LoopR dcfg) c37_0 _ _ (wRes Try.prog _ _)
  simp only [w37_0, w37_1, w37_1_0, w37_2, w37_3, w37_3_0, w37_4, w37_5, w37_6, w37_6_0, w37_7, w37_8, seqK, fa41_0, ld38, ia38, ld9]
  refine mk0 (vR r qv) (by rfl) ?_
  refine mk0 (vR r qv) (by rfl) ?_
  refine mk0 (.list (strL r.kept) true) (by rfl) ?_
  refine mk0 _ (ia_list (strL_at hs) (by rfl) (by decide)) ?_
  refine mk0 (.str s) (by rfl) ?_
  refine rseen_loop (s := s) (k := 0) (m := r.queue.length) hqv hql (fun t6 t2 t3 t7 t8 t9 t10 t11 t12 t13 t14 t15 t16 t17 t18 t19 t20 t21 t22 t23 t24 t25 t26 t27 t28 t29 t30 t31 t32 t33 t34 t35 t36 t37 t38 t39 t40 t41 => ?_) (by omega) _ _ _ _ _ _ _ _ _ _ _ _ _ _ _ _ _ _ _ _ _ _ _ _ _ _ _ _ _ _ _ _ _ _ _ _ _
  simp only [w37_23, w37_24, w37_24_0, w37_25, seqK, blockK, if_true]
  exact hQ
theorem seen_call {r : RD} {qv : V} (hqv : QW qv r.queue) (hql : r.queue.length ≤ 1000000) {at_ : Nat} {s : List UInt8} (hs : r.kept[at_]? = some s) {H : Heap} {d : Nat} {Q : Out → Prop} (hQ : Q ⟨.str (rseen s r.queue at_), [], []⟩) : wCall dcfg.pol (CallR dcfg) H d 37 [vR r qv, .int .i64 (at_ : Int)] Q := by
  have e1 : callPre dcfg.pol H 37 [vR r qv, .int .i64 (at_ : Int)] = some ⟨[vR r qv, .int .i64 (at_ : Int)], fun _ => none, [], [], []⟩ := by rcases hqv.shape with ⟨rfl, _⟩ | rfl <;> kernel_rfl
  unfold wCall
  rw [e1]
  refine seen_spec hqv hql hs ?_
  have e2 : callPost dcfg.pol H d 37 ⟨[vR r qv, .int .i64 (at_ : Int)], fun _ => none, [], [], []⟩ (.str (rseen s r.queue at_)) (fun _ => none) = some ⟨.str (rseen s r.queue at_), [], []⟩ := by kernel_rfl
  show outW (callPost dcfg.pol H d 37 ⟨[vR r qv, .int .i64 (at_ : Int)], fun _ => none, [], [], []⟩ (.str (rseen s r.queue at_)) (fun _ => none)) Q
  rw [e2]
  exact hQ
/-- what the reference reads -/
def RD.read (r : RD) (n : Int) : List UInt8 × Int :=
  if ¬ (0 ≤ n ∧ n < (r.kept.length : Int)) then ([], 1) else if r.dark = true then ([], 11) else (rseen (r.kept.getD n.toNat []) r.queue n.toNat, 0)
set_option maxHeartbeats 2000000 in
theorem rread_spec {r : RD} {qv : V} (hqv : QW qv r.queue) (hql : r.queue.length ≤ 1000000) (hl2 : r.kept.length ≤ 64) {n : Int} {H : Heap} {Q : V → Heap → Prop} (hQ : Q (.tup [.str (r.read n).1, .int .i64 (r.read n).2]) H) : CallR dcfg 27 [vR r qv, .int .i64 n] H Q := by
  refine CallR.body' (K := dcfg) (f := 27) (fn := Try.f27) (c := c27_0) (env := [vR r qv, .int .i64 n, .und, .und, .und, .und, .und, .und, .und, .und, .und, .und, .und, .und, .und, .und, .und, .und, .und, .und, .und, .und, .und, .und]) (rs := [.tmp 4, .tmp 5]) rfl (by kernel_rfl) (by kernel_rfl) (by kernel_rfl) (by kernel_rfl) (by kernel_rfl) (by kernel_rfl) ?_
  show wC Try.prog dcfg.pol (CallR dcfg) (LoopR dcfg) c27_0 _ _ (wRes Try.prog _ _)
  simp only [w27_0, w27_1, w27_1_0, w27_2, w27_3, w27_4, w27_4_0, w27_5, seqK, fa41_0, ld38, len38]
  refine mk0 _ (bin_lss ..) ?_
  by_cases h0 : n < 0
  · rw [decide_eq_true h0]
    repeat (first | refine gnt ?_ | refine gnu ?_)
    refine mk0 (.bool true) (by rfl) ?_
    refine condT ?_
    simp only [w27_6, w27_7, w27_7_0, w27_8, seqK]
    have e : r.read n = ([], 1) := by unfold RD.read; rw [if_pos (by omega)]
    rw [e] at hQ
    exact hQ
  rw [decide_eq_false h0]
  refine gp (gp (gy0 (vR r qv) (by rfl) (gy0 (vR r qv) (by rfl) (gy0 (.list (strL r.kept) true) (by rfl) (gy0 (.int .i64 (r.kept.length : Int)) (by simp [lenS, strL]) (gy0 _ (bin_geq ..) ?_))))))
  by_cases h1 : n ≥ (r.kept.length : Int)
  · rw [decide_eq_true h1]
    refine mk0 (.bool true) (by rfl) ?_
    refine condT ?_
    simp only [w27_6, w27_7, w27_7_0, w27_8, seqK]
    have e : r.read n = ([], 1) := by unfold RD.read; rw [if_pos (by omega)]
    rw [e] at hQ
    exact hQ
  rw [decide_eq_false h1]
  refine mk0 (.bool false) (by rfl) ?_
  refine condF ?_
  simp only [w27_9, w27_10, w27_11, w27_12, w27_12_0, w27_13, seqK, fa41_4, ld4]
  refine mk0 (vR r qv) (by rfl) ?_
  refine mk0 (.fptr [.bool r.dark] true) (by rfl) ?_
  refine mk0 (.bool r.dark) (by rfl) ?_
  cases hd : r.dark with
  | true =>
    refine condT ?_
    simp only [w27_14, w27_15, w27_15_0, w27_16, seqK]
    have e : r.read n = ([], 11) := by unfold RD.read; rw [if_neg (by omega), if_pos hd]
    rw [e] at hQ
    exact hQ
  | false =>
    refine condF ?_
    simp only [w27_17, w27_18, w27_19, w27_19_0, w27_20, seqK]
    obtain ⟨a, rfl⟩ : ∃ a : Nat, n = (a : Int) := ⟨n.toNat, by omega⟩
    have hlt : a < r.kept.length := by omega
    have hs : r.kept[a]? = some r.kept[a] := by simp [hlt]
    have e : r.read (a : Int) = (rseen r.kept[a] r.queue a, 0) := by
      unfold RD.read
      rw [if_neg (by omega), if_neg (by rw [hd]; simp)]
      simp [List.getD, hlt]
    rw [e] at hQ
    refine seen_call (Q := fun o => _) hqv hql hs ?_
    exact hQ
/-- Read, at a frame -/
theorem rread_call {H : Heap} {R A : Id} {gr ga : Nat} {bn : Option (Id × Nat)} {r : RD} (h : RF H R A gr ga bn r) (hql : r.queue.length ≤ 1000000) (hl2 : r.kept.length ≤ 64) {n : Int} {d : Nat} {Q : Out → Prop} (hQ : ∀ rd, Q ⟨.tup [.str (r.read n).1, .int .i64 (r.read n).2], [], rd⟩) : wCall dcfg.pol (CallR dcfg) H d 27 [.ptr R gr 0, .int .i64 n] Q := by
  obtain ⟨qv, hqv, hv⟩ := view_R h
  have hm : (dcfg.pol 27).modes = [.view] := by kernel_rfl
  have e1 : callPre dcfg.pol H 27 [.ptr R gr 0, .int .i64 n] = some ⟨[vR r qv, .int .i64 n], fun _ => none, [], [], R :: A :: rqRd bn⟩ := by
    unfold callPre
    rw [hm]
    simp only [argsIn, List.headD, argIn, hv, List.tail, List.append_nil, List.nil_append]
    rcases hqv.shape with ⟨rfl, _⟩ | rfl <;> cases bn <;> rfl
  unfold wCall
  rw [e1]
  refine rread_spec hqv hql hl2 ?_
  have e2 : callPost dcfg.pol H d 27 ⟨[vR r qv, .int .i64 n], fun _ => none, [], [], R :: A :: rqRd bn⟩ (.tup [.str (r.read n).1, .int .i64 (r.read n).2]) (fun _ => none) = some ⟨.tup [.str (r.read n).1, .int .i64 (r.read n).2], [], (R :: A :: rqRd bn) ++ [] ++ []⟩ := by kernel_rfl
  show outW (callPost dcfg.pol H d 27 ⟨[vR r qv, .int .i64 n], fun _ => none, [], [], R :: A :: rqRd bn⟩ (.tup [.str (r.read n).1, .int .i64 (r.read n).2]) (fun _ => none)) Q
  rw [e2]
  exact hQ _
end Go.Proofs.Ytcamcfplcoklkaa.Iv

namespace Go.Proofs.Ytcamcfplcoklkaa.Iv
open Go
set_option linter.unusedVariables false
set_option linter.unusedSimpArgs false
set_option maxRecDepth 100000
/-- a call behind which all lies where it lay -/
theorem rcall_ss {H : Heap} {R A : Id} {gr ga : Nat} {bn : Option (Id × Nat)} {r r2 : RD} (h : RF H R A gr ga bn r) {d f : Nat} {args rest : List V} {rd : List Id} {x : V}
    (ha : argsIn H (dcfg.pol f).modes args = some (.ptr R gr 0 :: rest, [], rd)) (hr : refsL rest = []) (hd : ∀ i ∈ accOf R A bn, i ∉ rd) (hret : ∀ H', retIn (dcfg.pol f).own H' x = some (x, [])) (hrr : refs x = []) (hk : outKept x = true)
    (spec : ∀ Hin, RI Hin bn r → CallR dcfg f (.ptr (.arg 0) 0 0 :: rest) Hin (fun y H' => y = x ∧ RO H' bn none none r2)) {Q : Out → Prop}
    (hQ : ∀  us rd', RF (H.sets us) R A gr ga bn r2 → (∀ i, i ∉ accOf R A bn → (H.sets us) i = H i) → Q ⟨x, us, rd'⟩) : wCall dcfg.pol (CallR dcfg) H d f args Q := by
  unfold wCall
  rw [pre_r h ha hr hd]
  refine (spec _ (enter_r h).1).mono (fun y H' hy => ?_)
  obtain ⟨rfl, o⟩ := hy
  have ra := h.ra
  show outW (callPost dcfg.pol H d f _ _ _) Q
  cases bn with
  | none =>
    rw [show accOf R A none = [R, A] from rfl] at *
    rw [rpost000 h o (hret _) hrr hk]
    refine hQ  _ _ ⟨by simp [Heap.sets, Heap.set, ra, Ne.symm ra], by simp [Heap.sets, Heap.set, ra, Ne.symm ra], fun B' gb' e => (by cases e), o.h.hn, ra⟩ (fun i hi => ?_)
    simp only [List.mem_cons, List.not_mem_nil, or_false, not_or] at hi
    simp [Heap.sets, Heap.set, hi.1, hi.2]
  | some p =>
    obtain ⟨B, gb⟩ := p
    obtain ⟨w1, w2, w3⟩ := h.hB B gb rfl
    rw [show accOf R A (some (B, gb)) = [R, A, B] from rfl] at *
    rw [rpost100 h o (hret _) hrr hk]
    refine hQ  _ _ ⟨by simp [Heap.sets, Heap.set, ra, Ne.symm ra, w2, w3, Ne.symm w2, Ne.symm w3], by simp [Heap.sets, Heap.set, ra, Ne.symm ra, w2, w3, Ne.symm w2, Ne.symm w3], fun B' gb' e => by cases e; exact ⟨by simp [Heap.sets, Heap.set, ra, Ne.symm ra, w2, w3, Ne.symm w2, Ne.symm w3], w2, w3⟩, fun e => (by cases e), ra⟩ (fun i hi => ?_)
    simp only [List.mem_cons, List.not_mem_nil, or_false, not_or] at hi
    simp [Heap.sets, Heap.set, hi.1, hi.2.1, hi.2.2]
/-- a call that makes the queue anew -/
theorem rcall_sq {H : Heap} {R A : Id} {gr ga : Nat} {bn : Option (Id × Nat)} {r r2 : RD} (h : RF H R A gr ga bn r) {d f : Nat} {args rest : List V} {rd : List Id} {x : V}
    (ha : argsIn H (dcfg.pol f).modes args = some (.ptr R gr 0 :: rest, [], rd)) (hr : refsL rest = []) (hd : ∀ i ∈ accOf R A bn, i ∉ rd) (hret : ∀ H', retIn (dcfg.pol f).own H' x = some (x, [])) (hrr : refs x = []) (hk : outKept x = true) {Pq : Id → Prop} (hPq : ∀ a, Pq a → (∀ j, a ≠ .arg j) ∧ a.alt = false ∧ newName d (accOf R A bn) a ∉ accOf R A bn)
    (spec : ∀ Hin, RI Hin bn r → CallR dcfg f (.ptr (.arg 0) 0 0 :: rest) Hin (fun y H' => y = x ∧ ∃ qa qg, Pq qa ∧ RO H' bn none (some (some (qa, qg))) r2)) {Q : Out → Prop}
    (hQ : ∀ qa g' us rd', Pq qa → RF (H.sets us) R A gr ga (some (newName d (accOf R A bn) qa, g')) r2 → (∀ i, i ∉ accOf R A bn → i ≠ (newName d (accOf R A bn) qa) → (H.sets us) i = H i) → (∀ B gb, bn = some (B, gb) → ∃ b, (H.sets us) B = some b ∧ b.flat = true) → Q ⟨x, us, rd'⟩) : wCall dcfg.pol (CallR dcfg) H d f args Q := by
  unfold wCall
  rw [pre_r h ha hr hd]
  refine (spec _ (enter_r h).1).mono (fun y H' hy => ?_)
  obtain ⟨rfl, qa, qg, hqa, o⟩ := hy
  obtain ⟨qa0, qa1, qa2⟩ := hPq qa hqa
  have ra := h.ra
  show outW (callPost dcfg.pol H d f _ _ _) Q
  cases bn with
  | none =>
    rw [show accOf R A none = [R, A] from rfl] at *
    rw [rpost002 h o qa0 qa1 qa2 (hret _) hrr hk]
    have f1 : newName d [R, A] qa ≠ R := fun e => qa2 (by rw [e]; simp)
    have f2 : newName d [R, A] qa ≠ A := fun e => qa2 (by rw [e]; simp)
    replace hQ := hQ qa
    generalize hnq : newName d [R, A] qa = NQ at *
    refine hQ (nextGen H NQ + qg) _ _ hqa ⟨by simp [Heap.sets, Heap.set, ra, Ne.symm ra, f1, f2, Ne.symm f1, Ne.symm f2], by simp [Heap.sets, Heap.set, ra, Ne.symm ra, f1, f2, Ne.symm f1, Ne.symm f2], fun B' gb' e => by cases e; exact ⟨by simp [Heap.sets, Heap.set, ra, Ne.symm ra, f1, f2, Ne.symm f1, Ne.symm f2], f1, f2⟩, fun e => (by cases e), ra⟩ (fun i hi h2 => ?_) (fun B' gb' e => by cases e)
    simp only [List.mem_cons, List.not_mem_nil, or_false, not_or] at hi
    simp [Heap.sets, Heap.set, hi.1, hi.2, h2]
  | some p =>
    obtain ⟨B, gb⟩ := p
    obtain ⟨w1, w2, w3⟩ := h.hB B gb rfl
    obtain ⟨b2, hb2, hf2⟩ := o.h2 (by simp)
    rw [show accOf R A (some (B, gb)) = [R, A, B] from rfl] at *
    rw [rpost102 h o qa0 qa1 qa2 hb2 hf2 (hret _) hrr hk]
    have f1 : newName d [R, A, B] qa ≠ R := fun e => qa2 (by rw [e]; simp)
    have f2 : newName d [R, A, B] qa ≠ A := fun e => qa2 (by rw [e]; simp)
    have f3 : newName d [R, A, B] qa ≠ B := fun e => qa2 (by rw [e]; simp)
    replace hQ := hQ qa
    generalize hnq : newName d [R, A, B] qa = NQ at *
    refine hQ (nextGen H NQ + qg) _ _ hqa ⟨by simp [Heap.sets, Heap.set, ra, Ne.symm ra, w2, w3, Ne.symm w2, Ne.symm w3, f1, f2, Ne.symm f1, Ne.symm f2, f3, Ne.symm f3], by simp [Heap.sets, Heap.set, ra, Ne.symm ra, w2, w3, Ne.symm w2, Ne.symm w3, f1, f2, Ne.symm f1, Ne.symm f2, f3, Ne.symm f3], fun B' gb' e => by cases e; exact ⟨by simp [Heap.sets, Heap.set, ra, Ne.symm ra, w2, w3, Ne.symm w2, Ne.symm w3, f1, f2, Ne.symm f1, Ne.symm f2, f3, Ne.symm f3], f1, f2⟩, fun e => (by cases e), ra⟩ (fun i hi h2 => ?_) (fun B' gb' e => by cases e; exact ⟨⟨gb + b2.gen, b2.cells, b2.frz, true⟩, by simp [Heap.sets, Heap.set, ra, Ne.symm ra, w2, w3, Ne.symm w2, Ne.symm w3, f1, f2, Ne.symm f1, Ne.symm f2, f3, Ne.symm f3], rfl⟩)
    simp only [List.mem_cons, List.not_mem_nil, or_false, not_or] at hi
    simp [Heap.sets, Heap.set, hi.1, hi.2.1, hi.2.2, h2]
/-- a call that makes the sectors anew and empties the queue -/
theorem rcall_kn {H : Heap} {R A : Id} {gr ga : Nat} {bn : Option (Id × Nat)} {r r2 : RD} (h : RF H R A gr ga bn r) {d f : Nat} {args rest : List V} {rd : List Id} {x : V}
    (ha : argsIn H (dcfg.pol f).modes args = some (.ptr R gr 0 :: rest, [], rd)) (hr : refsL rest = []) (hd : ∀ i ∈ accOf R A bn, i ∉ rd) (hret : ∀ H', retIn (dcfg.pol f).own H' x = some (x, [])) (hrr : refs x = []) (hk : outKept x = true) {Pk : Id → Prop} (hPk : ∀ a, Pk a → (∀ j, a ≠ .arg j) ∧ a.alt = false ∧ newName d (accOf R A bn) a ∉ accOf R A bn)
    (spec : ∀ Hin, RI Hin bn r → CallR dcfg f (.ptr (.arg 0) 0 0 :: rest) Hin (fun y H' => y = x ∧ ∃ ka kg, Pk ka ∧ RO H' bn (some (ka, kg)) (some none) r2)) {Q : Out → Prop}
    (hQ : ∀ ka g' us rd', Pk ka → RF (H.sets us) R (newName d (accOf R A bn) ka) gr g' none r2 → (∀ i, i ∉ accOf R A bn → i ≠ (newName d (accOf R A bn) ka) → (H.sets us) i = H i) → (∃ b, (H.sets us) A = some b ∧ b.flat = true) → (∀ B gb, bn = some (B, gb) → ∃ b, (H.sets us) B = some b ∧ b.flat = true) → Q ⟨x, us, rd'⟩) : wCall dcfg.pol (CallR dcfg) H d f args Q := by
  unfold wCall
  rw [pre_r h ha hr hd]
  refine (spec _ (enter_r h).1).mono (fun y H' hy => ?_)
  obtain ⟨rfl, ka, kg, hka, o⟩ := hy
  obtain ⟨ka0, ka1, ka2⟩ := hPk ka hka
  obtain ⟨b1, hb1, hf1⟩ := o.h1
  have ra := h.ra
  show outW (callPost dcfg.pol H d f _ _ _) Q
  cases bn with
  | none =>
    rw [show accOf R A none = [R, A] from rfl] at *
    rw [rpost011 h o ka0 ka1 ka2 hb1 hf1 (hret _) hrr hk]
    have e1 : newName d [R, A] ka ≠ R := fun e => ka2 (by rw [e]; simp)
    have e2 : newName d [R, A] ka ≠ A := fun e => ka2 (by rw [e]; simp)
    replace hQ := hQ ka
    generalize hnk : newName d [R, A] ka = NK at *
    refine hQ (nextGen H NK + kg) _ _ hka ⟨by simp [Heap.sets, Heap.set, ra, Ne.symm ra, e1, e2, Ne.symm e1, Ne.symm e2], by simp [Heap.sets, Heap.set, ra, Ne.symm ra, e1, e2, Ne.symm e1, Ne.symm e2], fun B' gb' e => (by cases e), o.h.hn, Ne.symm e1⟩ (fun i hi h1 => ?_) ⟨⟨ga + b1.gen, b1.cells, b1.frz, true⟩, by simp [Heap.sets, Heap.set, ra, Ne.symm ra, e1, e2, Ne.symm e1, Ne.symm e2], rfl⟩ (fun B' gb' e => by cases e)
    simp only [List.mem_cons, List.not_mem_nil, or_false, not_or] at hi
    simp [Heap.sets, Heap.set, hi.1, hi.2, h1]
  | some p =>
    obtain ⟨B, gb⟩ := p
    obtain ⟨w1, w2, w3⟩ := h.hB B gb rfl
    obtain ⟨b2, hb2, hf2⟩ := o.h2 (by simp)
    rw [show accOf R A (some (B, gb)) = [R, A, B] from rfl] at *
    rw [rpost111 h o ka0 ka1 ka2 hb1 hf1 hb2 hf2 (hret _) hrr hk]
    have e1 : newName d [R, A, B] ka ≠ R := fun e => ka2 (by rw [e]; simp)
    have e2 : newName d [R, A, B] ka ≠ A := fun e => ka2 (by rw [e]; simp)
    have e3 : newName d [R, A, B] ka ≠ B := fun e => ka2 (by rw [e]; simp)
    replace hQ := hQ ka
    generalize hnk : newName d [R, A, B] ka = NK at *
    refine hQ (nextGen H NK + kg) _ _ hka ⟨by simp [Heap.sets, Heap.set, ra, Ne.symm ra, w2, w3, Ne.symm w2, Ne.symm w3, e1, e2, Ne.symm e1, Ne.symm e2, e3, Ne.symm e3], by simp [Heap.sets, Heap.set, ra, Ne.symm ra, w2, w3, Ne.symm w2, Ne.symm w3, e1, e2, Ne.symm e1, Ne.symm e2, e3, Ne.symm e3], fun B' gb' e => (by cases e), o.h.hn, Ne.symm e1⟩ (fun i hi h1 => ?_) ⟨⟨ga + b1.gen, b1.cells, b1.frz, true⟩, by simp [Heap.sets, Heap.set, ra, Ne.symm ra, w2, w3, Ne.symm w2, Ne.symm w3, e1, e2, Ne.symm e1, Ne.symm e2, e3, Ne.symm e3], rfl⟩ (fun B' gb' e => by cases e; exact ⟨⟨gb + b2.gen, b2.cells, b2.frz, true⟩, by simp [Heap.sets, Heap.set, ra, Ne.symm ra, w2, w3, Ne.symm w2, Ne.symm w3, e1, e2, Ne.symm e1, Ne.symm e2, e3, Ne.symm e3], rfl⟩)
    simp only [List.mem_cons, List.not_mem_nil, or_false, not_or] at hi
    simp [Heap.sets, Heap.set, hi.1, hi.2.1, hi.2.2, h1]
/-- a call that makes the sectors anew -/
theorem rcall_ks {H : Heap} {R A : Id} {gr ga : Nat} {bn : Option (Id × Nat)} {r r2 : RD} (h : RF H R A gr ga bn r) {d f : Nat} {args rest : List V} {rd : List Id} {x : V}
    (ha : argsIn H (dcfg.pol f).modes args = some (.ptr R gr 0 :: rest, [], rd)) (hr : refsL rest = []) (hd : ∀ i ∈ accOf R A bn, i ∉ rd) (hret : ∀ H', retIn (dcfg.pol f).own H' x = some (x, [])) (hrr : refs x = []) (hk : outKept x = true) {Pk : Id → Prop} (hPk : ∀ a, Pk a → (∀ j, a ≠ .arg j) ∧ a.alt = false ∧ newName d (accOf R A bn) a ∉ accOf R A bn)
    (spec : ∀ Hin, RI Hin bn r → CallR dcfg f (.ptr (.arg 0) 0 0 :: rest) Hin (fun y H' => y = x ∧ ∃ ka kg, Pk ka ∧ RO H' bn (some (ka, kg)) none r2)) {Q : Out → Prop}
    (hQ : ∀ ka g' us rd', Pk ka → RF (H.sets us) R (newName d (accOf R A bn) ka) gr g' bn r2 → (∀ i, i ∉ accOf R A bn → i ≠ (newName d (accOf R A bn) ka) → (H.sets us) i = H i) → (∃ b, (H.sets us) A = some b ∧ b.flat = true) → Q ⟨x, us, rd'⟩) : wCall dcfg.pol (CallR dcfg) H d f args Q := by
  unfold wCall
  rw [pre_r h ha hr hd]
  refine (spec _ (enter_r h).1).mono (fun y H' hy => ?_)
  obtain ⟨rfl, ka, kg, hka, o⟩ := hy
  obtain ⟨ka0, ka1, ka2⟩ := hPk ka hka
  obtain ⟨b1, hb1, hf1⟩ := o.h1
  have ra := h.ra
  show outW (callPost dcfg.pol H d f _ _ _) Q
  cases bn with
  | none =>
    rw [show accOf R A none = [R, A] from rfl] at *
    rw [rpost010 h o ka0 ka1 ka2 hb1 hf1 (hret _) hrr hk]
    have e1 : newName d [R, A] ka ≠ R := fun e => ka2 (by rw [e]; simp)
    have e2 : newName d [R, A] ka ≠ A := fun e => ka2 (by rw [e]; simp)
    replace hQ := hQ ka
    generalize hnk : newName d [R, A] ka = NK at *
    refine hQ (nextGen H NK + kg) _ _ hka ⟨by simp [Heap.sets, Heap.set, ra, Ne.symm ra, e1, e2, Ne.symm e1, Ne.symm e2], by simp [Heap.sets, Heap.set, ra, Ne.symm ra, e1, e2, Ne.symm e1, Ne.symm e2], fun B' gb' e => (by cases e), o.h.hn, Ne.symm e1⟩ (fun i hi h1 => ?_) ⟨⟨ga + b1.gen, b1.cells, b1.frz, true⟩, by simp [Heap.sets, Heap.set, ra, Ne.symm ra, e1, e2, Ne.symm e1, Ne.symm e2], rfl⟩
    simp only [List.mem_cons, List.not_mem_nil, or_false, not_or] at hi
    simp [Heap.sets, Heap.set, hi.1, hi.2, h1]
  | some p =>
    obtain ⟨B, gb⟩ := p
    obtain ⟨w1, w2, w3⟩ := h.hB B gb rfl
    rw [show accOf R A (some (B, gb)) = [R, A, B] from rfl] at *
    rw [rpost110 h o ka0 ka1 ka2 hb1 hf1 (hret _) hrr hk]
    have e1 : newName d [R, A, B] ka ≠ R := fun e => ka2 (by rw [e]; simp)
    have e2 : newName d [R, A, B] ka ≠ A := fun e => ka2 (by rw [e]; simp)
    have e3 : newName d [R, A, B] ka ≠ B := fun e => ka2 (by rw [e]; simp)
    replace hQ := hQ ka
    generalize hnk : newName d [R, A, B] ka = NK at *
    refine hQ (nextGen H NK + kg) _ _ hka ⟨by simp [Heap.sets, Heap.set, ra, Ne.symm ra, w2, w3, Ne.symm w2, Ne.symm w3, e1, e2, Ne.symm e1, Ne.symm e2, e3, Ne.symm e3], by simp [Heap.sets, Heap.set, ra, Ne.symm ra, w2, w3, Ne.symm w2, Ne.symm w3, e1, e2, Ne.symm e1, Ne.symm e2, e3, Ne.symm e3], fun B' gb' e => by cases e; exact ⟨by simp [Heap.sets, Heap.set, ra, Ne.symm ra, w2, w3, Ne.symm w2, Ne.symm w3, e1, e2, Ne.symm e1, Ne.symm e2, e3, Ne.symm e3], w2, Ne.symm e3⟩, fun e => (by cases e), Ne.symm e1⟩ (fun i hi h1 => ?_) ⟨⟨ga + b1.gen, b1.cells, b1.frz, true⟩, by simp [Heap.sets, Heap.set, ra, Ne.symm ra, w2, w3, Ne.symm w2, Ne.symm w3, e1, e2, Ne.symm e1, Ne.symm e2, e3, Ne.symm e3], rfl⟩
    simp only [List.mem_cons, List.not_mem_nil, or_false, not_or] at hi
    simp [Heap.sets, Heap.set, hi.1, hi.2.1, hi.2.2, h1]
end Go.Proofs.Ytcamcfplcoklkaa.Iv

namespace Go.Proofs.Ytcamcfplcoklkaa.Iv
open Go
set_option linter.unusedVariables false
set_option linter.unusedSimpArgs false
set_option maxRecDepth 100000

theorem not_in_acc {bn : Option (Id × Nat)} {i : Id} (h : ∀ j, i ≠ .arg j) : i ∉ accOf (.arg 0) (.arg 1) (rInn bn) := by
  intro hi
  cases bn with
  | none =>
    simp only [accOf, rInn, List.mem_cons, List.not_mem_nil, or_false] at hi
    rcases hi with e | e <;> exact h _ e
  | some q =>
    simp only [accOf, rInn, List.mem_cons, List.not_mem_nil, or_false] at hi
    rcases hi with e | e | e <;> exact h _ e
theorem newName_arg {bn : Option (Id × Nat)} {d : Nat} {i : Id} : newName d (accOf (.arg 0) (.arg 1) (rInn bn)) i = .sub d i := by
  unfold newName
  rw [if_neg]
  rw [List.contains_iff_mem]
  exact not_in_acc (by simp)
/-- power, at a frame -/
theorem power_call {H : Heap} {R A : Id} {gr ga : Nat} {bn : Option (Id × Nat)} {r : RD} (h : RF H R A gr ga bn r) {d : Nat} {Q : Out → Prop} (hQ : ∀ us rd, RF (H.sets us) R A gr ga bn (rpow r) → (∀ i, i ∉ accOf R A bn → (H.sets us) i = H i) → Q ⟨.bool (!(rpow r).dark), us, rd⟩) : wCall dcfg.pol (CallR dcfg) H d 38 [.ptr R gr 0] Q := by
  have hm : (dcfg.pol 38).modes = [.byref] := by kernel_rfl
  have ho : (dcfg.pol 38).own = false := by kernel_rfl
  exact rcall_ss h (rest := []) (rd := []) (by rw [hm]; rfl) rfl (fun _ _ hh => by cases hh) (fun H' => by rw [ho]; rfl) rfl rfl (fun Hin hI => power_spec hI (fun H' h1 _ => ⟨rfl, h1.out⟩)) hQ
/-- lasts, at the frame of a method -/
theorem lasts_call {H : Heap} {bn : Option (Id × Nat)} {r : RD} (h : RI H bn r) {d n : Nat} (hn : n ≤ r.queue.length) (hql : r.queue.length ≤ 1000000) (hk : ∀ x ∈ r.queue, x.1 < r.kept.length) (hl : 1 ≤ r.kept.length) (hl2 : r.kept.length ≤ 64) {Q : Out → Prop}
    (hQ : ∀ g' us rd, RF (H.sets us) (.arg 0) (.sub d (.own 11)) 0 g' (rInn bn) (rlast r n) → (∃ b, (H.sets us) (.arg 1) = some b ∧ b.flat = true) → Q ⟨.tup [], us, rd⟩) : wCall dcfg.pol (CallR dcfg) H d 39 [.ptr (.arg 0) 0 0, .int .i64 (n : Int)] Q := by
  have hm : (dcfg.pol 39).modes = [.byref] := by kernel_rfl
  have ho : (dcfg.pol 39).own = false := by kernel_rfl
  refine rcall_ks (x := .tup []) (r2 := rlast r n) h (rest := [.int .i64 (n : Int)]) (rd := []) (by rw [hm]; rfl) rfl (fun _ _ hh => by cases hh) (fun H' => by rw [ho]; rfl) rfl rfl (Pk := fun a => a = .own 11) (fun a ha => ?_) (fun Hin hI => ?_) (fun ka g' us rd' hka hF _ hA => ?_)
  · subst ha
    refine ⟨by simp, rfl, ?_⟩
    rw [newName_arg]; exact not_in_acc (by simp)
  · have hI2 : RI Hin (rInn bn) r := hI
    refine lasts_spec hI2 hn hql hk hl hl2 (fun H' kg hO => ⟨rfl, .own 11, kg, rfl, hO⟩)
  · subst hka
    rw [newName_arg] at hF
    exact hQ g' us rd' hF hA
def rsync (r : RD) : RD × Int := if (rpow r).dark = true then (rpow r, 11) else ({ rlast (rpow r) (rpow r).queue.length with queue := [] }, 0)
structure ROk (r : RD) : Prop where
  l1 : 1 ≤ r.kept.length
  l2 : r.kept.length ≤ 64
  k : ∀ s ∈ r.kept, s.length = 64
  q : ∀ x ∈ r.queue, x.1 < r.kept.length ∧ x.2.length = 64
  n : r.queue.length ≤ 1000000
theorem ROk.pow {r : RD} (h : ROk r) : ROk (rpow r) := ⟨h.l1, h.l2, h.k, h.q, h.n⟩
theorem rq_len {H : Heap} {R A : Id} {gr ga : Nat} {bn : Option (Id × Nat)} {r : RD} (h : RF H R A gr ga bn r) : lenS (rq bn r.queue.length) = pureO (.int .i64 (r.queue.length : Int)) := by
  cases bn with
  | none => rw [h.hn rfl]; rfl
  | some q => rfl
/-- the struct's queue is set to nil -/
theorem RF.nilq {H : Heap} {R A : Id} {gr ga : Nat} {bn : Option (Id × Nat)} {r : RD} (h : RF H R A gr ga bn r) : RF (H.sets [(R, ⟨gr, (rcells A ga bn r).set 1 .nils, false, false⟩)]) R A gr ga none { r with queue := [] } := by
  refine ⟨by simp [Heap.sets, Heap.set, rcells, rq], ?_, fun B gb e => (by cases e), fun _ => rfl, h.ra⟩
  have := h.hA
  simp only [Heap.sets, Heap.set]
  rw [if_neg (Ne.symm h.ra)]
  exact this
set_option maxHeartbeats 4000000 in
/-- Sync, of the reference -/
theorem rsync_spec {H : Heap} {bn : Option (Id × Nat)} {r : RD} (h : RI H bn r) (hk : ROk r) {Q : V → Heap → Prop}
    (h11 : (rpow r).dark = true → ∀ H', RO H' bn none none (rpow r) → Q (.int .i64 11) H')
    (h0 : (rpow r).dark = false → ∀ H' kg, RO H' bn (some (.sub 12 (.own 11), kg)) (some none) { rlast (rpow r) (rpow r).queue.length with queue := [] } → Q (.int .i64 0) H') : CallR dcfg 29 [.ptr (.arg 0) 0 0] H Q := by
  refine CallR.body' (K := dcfg) (f := 29) (fn := Try.f29) (c := c29_0) (env := [.ptr (.arg 0) 0 0, .und, .und, .und, .und, .und, .und, .und, .und, .und, .und, .und, .und, .und, .und, .und]) (rs := [.tmp 2]) rfl (by kernel_rfl) (by kernel_rfl) (by kernel_rfl) (by kernel_rfl) (by kernel_rfl) (by kernel_rfl) ?_
  show wC Try.prog dcfg.pol (CallR dcfg) (LoopR dcfg) c29_0 _ _ (wRes Try.prog _ _)
  simp only [w29_0, w29_1, w29_1_0, w29_2, w29_3, w29_4, w29_4_0, w29_5, seqK]
  refine power_call (Q := fun o => _) h (fun us rd hP ho => ?_)
  generalize H.sets us = H1 at hP ho ⊢
  refine mk0 (.bool (!(!(rpow r).dark))) (by rfl) ?_
  rw [Bool.not_not]
  cases hd : (rpow r).dark with
  | true =>
    refine condT ?_
    simp only [w29_6, w29_7, w29_7_0, w29_8, seqK]
    exact h11 hd H1 (RI.out hP)
  | false =>
    refine condF ?_
    simp only [w29_9, w29_10, w29_11, w29_11_0, w29_12, w29_13, w29_13_0, w29_14, w29_15, w29_15_0, w29_16, seqK, fa41_1, ld39, len39, st39]
    refine mk0 (.ptr (.arg 0) 0 0) (by rfl) ?_
    refine mk0 (.ptr (.arg 0) 0 (0 + 1)) (by rfl) ?_
    refine mk (rq (rInn bn) (rpow r).queue.length) [] [.arg 0] (ld_cell (j := 0 + 1) hP.hR (by rfl)) ?_
    refine mk0 _ (rq_len hP) ?_
    simp only [sets_nilE]
    have hk2 := hk.pow
    refine lasts_call (Q := fun o => _) (r := rpow r) hP (Nat.le_refl _) hk2.n (fun x hx => (hk2.q x hx).1) hk2.l1 hk2.l2 (fun g' us2 rd2 hF hA => ?_)
    generalize H1.sets us2 = H2 at hF hA ⊢
    refine mk0 (.ptr (.arg 0) 0 0) (by rfl) ?_
    refine mk0 (.ptr (.arg 0) 0 (0 + 1)) (by rfl) ?_
    refine mk _ _ _ (st_fld (k := 1) (v := .nils) hF.hR (show 1 < 5 by decide) rfl rfl) ?_
    have hF3 := hF.nilq
    refine h0 hd _ g' ⟨hF3, ?_, fun hb => ?_⟩
    · obtain ⟨b, hb, hf⟩ := hA
      exact ⟨b, by simp [Heap.sets, Heap.set]; exact hb, hf⟩
    · obtain ⟨_, hb2⟩ | ⟨hb1, _⟩ := rinn_cases bn
      · exact absurd hb2 hb
      · obtain ⟨z1, z2, z3⟩ := hF.hB (.arg 2) 0 hb1
        exact ⟨_, by simp [Heap.sets, Heap.set]; exact z1, rfl⟩
def rtorn (r : RD) (kn : Nat) (torn : Int) : List (List UInt8) :=
  match r.queue[kn]? with
  | some x => (rlast r kn).kept.set x.1 (x.2.take (min torn.toNat 64) ++ ((rlast r kn).kept.getD x.1 []).drop (min torn.toNat 64))
  | none => (rlast r kn).kept
def rcrash (r : RD) (keep torn : Int) : RD := ⟨rtorn r (min keep.toNat r.queue.length) torn, [], -1, r.cap, false⟩
theorem slice9t {H : Heap} {s : List UInt8} {h : Nat} (h1 : h ≤ s.length) : evSlice Try.prog H 9 (.str s) none (some (.int .i64 (h : Int))) none = pureO (.str (s.take h)) := by
  simp [evSlice, u9s, bnd, h1]
theorem rlast_k64 {r : RD} (h : ROk r) {n : Nat} : ∀ s ∈ (rlast r n).kept, s.length = 64 := by
  have : ∀ (q : List (Nat × List UInt8)) (k : List (List UInt8)), (∀ x ∈ q, x.2.length = 64) → (∀ s ∈ k, s.length = 64) → ∀ s ∈ q.foldl rput k, s.length = 64 := by
    intro q
    induction q with
    | nil => exact fun k _ h2 => h2
    | cons x q ih =>
      intro k h1 h2
      rw [List.foldl_cons]
      refine ih _ (fun y hy => h1 y (by simp [hy])) (fun s hs => ?_)
      rcases List.mem_or_eq_of_mem_set hs with hs | rfl
      · exact h2 s hs
      · exact h1 x (by simp)
  exact this _ _ (fun x hx => (h.q x (List.mem_of_mem_take hx)).2) h.k
set_option maxHeartbeats 8000000 in
/-- Crash, of the reference -/
theorem rcrash_spec {H : Heap} {bn : Option (Id × Nat)} {r : RD} (h : RI H bn r) (hk : ROk r) {keep torn : Int} {Q : V → Heap → Prop}
    (h0 : ∀ H' kg, RO H' bn (some (.sub 19 (.own 11), kg)) (some none) (rcrash r keep torn) → Q (.tup []) H') : CallR dcfg 30 [.ptr (.arg 0) 0 0, .int .i64 keep, .int .i64 torn] H Q := by
  refine CallR.body' (K := dcfg) (f := 30) (fn := Try.f30) (c := c30_0) (env := [.ptr (.arg 0) 0 0, .int .i64 keep, .int .i64 torn, .und, .und, .und, .und, .und, .und, .und, .und, .und, .und, .und, .und, .und, .und, .und, .und, .und, .und, .und, .und, .und, .und, .und, .und, .und, .und, .und, .und, .und, .und, .und, .und, .und, .und, .und, .und, .und, .und, .und, .und, .und, .und, .und, .und, .und, .und, .und, .und, .und, .und, .und, .und, .und, .und, .und, .und, .und, .und, .und, .und, .und, .und, .und, .und, .und, .und, .und, .und, .und, .und]) (rs := []) rfl (by kernel_rfl) (by kernel_rfl) (by kernel_rfl) (by kernel_rfl) (by kernel_rfl) (by kernel_rfl) ?_
  show wC Try.prog dcfg.pol (CallR dcfg) (LoopR dcfg) c30_0 _ _ (wRes Try.prog _ _)
  simp only [w30_0, w30_1, w30_1_0, w30_2, w30_3, w30_3_0, w30_4, w30_5, w30_6, w30_6_0, w30_7, seqK, fa41_1, ld39, len39]
  refine mk0 (.int .i64 (if (0 : Int) > keep then 0 else keep)) (by rfl) ?_
  refine mk0 (.ptr (.arg 0) 0 0) (by rfl) ?_
  refine mk0 (.ptr (.arg 0) 0 (0 + 1)) (by rfl) ?_
  refine mk (rq (rInn bn) r.queue.length) [] [.arg 0] (ld_cell (j := 0 + 1) h.hR (by rfl)) ?_
  refine mk0 _ (rq_len h) ?_
  simp only [sets_nilE]
  refine mk0 (.int .i64 ((min keep.toNat r.queue.length : Nat) : Int)) (by
    have : (if ((r.queue.length : Nat) : Int) < (if (0 : Int) > keep then 0 else keep) then ((r.queue.length : Nat) : Int) else (if (0 : Int) > keep then 0 else keep)) = ((min keep.toNat r.queue.length : Nat) : Int) := by
      split <;> split <;> omega
    rw [← this]; rfl) ?_
  have hkq : min keep.toNat r.queue.length ≤ r.queue.length := by omega
  have hrc : rcrash r keep torn = ⟨rtorn r (min keep.toNat r.queue.length) torn, [], -1, r.cap, false⟩ := rfl
  generalize min keep.toNat r.queue.length = kn at hkq hrc ⊢
  refine lasts_call (Q := fun o => _) h hkq hk.n (fun x hx => (hk.q x hx).1) hk.l1 hk.l2 (fun g' us rd hF hA => ?_)
  generalize H.sets us = H1 at hF hA ⊢
  refine mk0 (.ptr (.arg 0) 0 0) (by rfl) ?_
  refine mk0 (.ptr (.arg 0) 0 (0 + 1)) (by rfl) ?_
  refine mk (rq (rInn bn) r.queue.length) [] [.arg 0] (ld_cell (j := 0 + 1) hF.hR (by rfl)) ?_
  refine mk0 _ (rq_len (r := rlast r kn) hF) ?_
  refine mk0 _ (bin_lss ..) ?_
  simp only [sets_nilE]
  have hq0 : (rlast r kn).queue = r.queue := rfl
  have tail : ∀ (H2 : Heap) (r2 : RD) t7 t8 t9 t10 t11 t12 t13 t14 t15 t16 t17 t18 t19 t20 t21 t22 t23 t24 t25 t26 t27 t28 t29 t30 t31 t32 t33 t34 t35 t36 t37 t38 t39 t40 t41 t42 t43 t44 t45 t46 t47 t48 t49 t50 t51 t52 t53 t54 t55 t56 t57 t58 t59 t60 t61 t62 t63 t64 t65 t66 t67 t68 t69 t70 t71 t72, RF H2 (.arg 0) (.sub 19 (.own 11)) 0 g' (rInn bn) r2 → (∃ b, H2 (.arg 1) = some b ∧ b.flat = true) → ({ r2 with queue := [], dark := false, trip := -1 } : RD) = rcrash r keep torn →
      wC Try.prog dcfg.pol (CallR dcfg) (LoopR dcfg) c30_14 [.ptr (.arg 0) 0 0, .int .i64 keep, .int .i64 torn, .und, .und, .und, .int .i64 (kn : Int), t7, t8, t9, t10, t11, t12, t13, t14, t15, t16, t17, t18, t19, t20, t21, t22, t23, t24, t25, t26, t27, t28, t29, t30, t31, t32, t33, t34, t35, t36, t37, t38, t39, t40, t41, t42, t43, t44, t45, t46, t47, t48, t49, t50, t51, t52, t53, t54, t55, t56, t57, t58, t59, t60, t61, t62, t63, t64, t65, t66, t67, t68, t69, t70, t71, t72] H2 (wRes Try.prog [] Q) := by
    intro H2 r2 t7 t8 t9 t10 t11 t12 t13 t14 t15 t16 t17 t18 t19 t20 t21 t22 t23 t24 t25 t26 t27 t28 t29 t30 t31 t32 t33 t34 t35 t36 t37 t38 t39 t40 t41 t42 t43 t44 t45 t46 t47 t48 t49 t50 t51 t52 t53 t54 t55 t56 t57 t58 t59 t60 t61 t62 t63 t64 t65 t66 t67 t68 t69 t70 t71 t72 h2 hA2 he
    simp only [w30_14, w30_15, w30_15_0, w30_16, w30_17, w30_17_0, w30_18, w30_18_0, seqK, fa41_1, fa41_2, fa41_4, st39, st4, st3b]
    refine mk0 (.ptr (.arg 0) 0 0) (by rfl) ?_
    refine mk0 (.ptr (.arg 0) 0 (0 + 1)) (by rfl) ?_
    refine mk _ _ _ (st_fld (k := 1) (v := .nils) h2.hR (show 1 < 5 by decide) rfl rfl) ?_
    have h3 := h2.nilq
    have hB : bn ≠ none → ∃ b, (H2.sets [(.arg 0, ⟨0, (rcells (.sub 19 (.own 11)) g' (rInn bn) r2).set 1 .nils, false, false⟩)]) (.arg 2) = some b ∧ b.flat = true := fun hb => by
      obtain ⟨_, hb2⟩ | ⟨hb1, _⟩ := rinn_cases bn
      · exact absurd hb2 hb
      · obtain ⟨z1, z2, z3⟩ := h2.hB (.arg 2) 0 hb1
        exact ⟨_, by simp [Heap.sets, Heap.set]; exact z1, rfl⟩
    have hA3 : ∃ b, (H2.sets [(.arg 0, ⟨0, (rcells (.sub 19 (.own 11)) g' (rInn bn) r2).set 1 .nils, false, false⟩)]) (.arg 1) = some b ∧ b.flat = true := by
      obtain ⟨b, hb, hf⟩ := hA2
      exact ⟨b, by simp [Heap.sets, Heap.set]; exact hb, hf⟩
    generalize H2.sets [(.arg 0, ⟨0, (rcells (.sub 19 (.own 11)) g' (rInn bn) r2).set 1 .nils, false, false⟩)] = H3 at h3 hB hA3 ⊢
    refine mk0 (.ptr (.arg 0) 0 0) (by rfl) ?_
    refine mk0 (.ptr (.arg 0) 0 (0 + 4)) (by rfl) ?_
    refine mk _ _ _ (st_fld (k := 4) (v := .bool false) h3.hR (show 4 < 5 by decide) rfl rfl) ?_
    have h4 : RF (H3.sets [(.arg 0, ⟨0, (rcells (.sub 19 (.own 11)) g' none { r2 with queue := [] }).set 4 (.bool false), false, false⟩)]) (.arg 0) (.sub 19 (.own 11)) 0 g' none { r2 with queue := [], dark := false } :=
      ⟨by simp [Heap.sets, Heap.set, rcells], by have := h3.hA; simp [Heap.sets, Heap.set]; exact this, fun B gb e => (by cases e), fun _ => rfl, by simp⟩
    have o4 : ∀ i, i ≠ .arg 0 → (H3.sets [(.arg 0, ⟨0, (rcells (.sub 19 (.own 11)) g' none { r2 with queue := [] }).set 4 (.bool false), false, false⟩)]) i = H3 i := fun i hi => by simp [Heap.sets, Heap.set, hi]
    generalize H3.sets [(.arg 0, ⟨0, (rcells (.sub 19 (.own 11)) g' none { r2 with queue := [] }).set 4 (.bool false), false, false⟩)] = H4 at h4 o4 ⊢
    refine mk0 (.ptr (.arg 0) 0 0) (by rfl) ?_
    refine mk0 (.ptr (.arg 0) 0 (0 + 2)) (by rfl) ?_
    refine mk _ _ _ (st_fld (k := 2) (v := .int .i64 (-1)) h4.hR (show 2 < 5 by decide) rfl rfl) ?_
    have h5 : RF (H4.sets [(.arg 0, ⟨0, (rcells (.sub 19 (.own 11)) g' none { r2 with queue := [], dark := false }).set 2 (.int .i64 (-1)), false, false⟩)]) (.arg 0) (.sub 19 (.own 11)) 0 g' none { r2 with queue := [], dark := false, trip := -1 } :=
      ⟨by simp [Heap.sets, Heap.set, rcells], by have := h4.hA; simp [Heap.sets, Heap.set]; exact this, fun B gb e => (by cases e), fun _ => rfl, by simp⟩
    rw [he] at h5
    refine h0 _ g' ⟨h5, ?_, fun hb => ?_⟩
    · obtain ⟨b, hb, hf⟩ := hA3
      exact ⟨b, by simp [Heap.sets, Heap.set]; rw [o4 _ (by simp)]; exact hb, hf⟩
    · obtain ⟨b, hb', hf⟩ := hB hb
      exact ⟨b, by simp [Heap.sets, Heap.set]; rw [o4 _ (by simp)]; exact hb', hf⟩
  by_cases hlt : kn < r.queue.length
  · rw [hq0, decide_eq_true (by omega)]
    refine condT ?_
    obtain ⟨x, hqx⟩ : ∃ x, r.queue[kn]? = some x := ⟨r.queue[kn], by simp [hlt]⟩
    obtain ⟨hx1, hx2⟩ := hk.q x (List.mem_of_getElem? hqx)
    obtain ⟨q0, q1⟩ := queueV_at r.queue hqx
    have hkl : (rlast r kn).kept.length = r.kept.length := rlast_len
    obtain ⟨hb1, hb2⟩ | ⟨hb1, hb2⟩ := rinn_cases bn
    · have e : r.queue = [] := hF.hn hb1
      rw [e] at hlt; simp at hlt
    obtain ⟨hB, _, _⟩ := hF.hB (.arg 2) 0 hb1
    have hR : H1 (.arg 0) = some ⟨0, [.sl (.sub 19 (.own 11)) g' 0 (rlast r kn).kept.length 1 none, .sl (.arg 2) 0 0 r.queue.length 2 none, .int .i64 r.trip, .int .i64 r.cap, .bool r.dark], false, false⟩ := by
      have := hF.hR
      rw [hb1] at this
      exact this
    obtain ⟨s, hs⟩ : ∃ s, (rlast r kn).kept[x.1]? = some s := ⟨(rlast r kn).kept[x.1]'(by rw [hkl]; exact hx1), by simp [hkl, hx1]⟩
    have hs64 : s.length = 64 := rlast_k64 hk s (List.mem_of_getElem? hs)
    simp only [w30_8, w30_9, w30_9_0, w30_10, w30_11, w30_11_0, w30_12, w30_12_0c, w30_12_0, w30_12_12c, w30_12_12, w30_12_24, seqK, fa41_0, fa41_1, ld38, ld39, ia39, fa72_0, fa72_1, ld3b, ld9, ia38, st9]
    refine mk0 (.int .i64 (if (0 : Int) > torn then 0 else torn)) (by rfl) ?_
    refine mk0 (.int .i64 ((min torn.toNat 64 : Nat) : Int)) (by
      have : (if (64 : Int) < (if (0 : Int) > torn then 0 else torn) then (64 : Int) else (if (0 : Int) > torn then 0 else torn)) = ((min torn.toNat 64 : Nat) : Int) := by
        split <;> split <;> omega
      rw [← this]; rfl) ?_
    have hrt : rtorn r kn torn = (rlast r kn).kept.set x.1 (x.2.take (min torn.toNat 64) ++ s.drop (min torn.toNat 64)) := by
      unfold rtorn
      rw [hqx]
      simp only [List.getD, hs, Option.getD_some]
    have htn : min torn.toNat 64 ≤ 64 := by omega
    generalize min torn.toNat 64 = tn at htn hrt ⊢
    refine mk0 (.ptr (.arg 0) 0 0) (by rfl) ?_
    refine mk0 (.ptr (.arg 0) 0 (0 + 1)) (by rfl) ?_
    refine mk (.sl (.arg 2) 0 0 r.queue.length 2 none) [] [.arg 0] (ld_cell (j := 0 + 1) hR (by rfl)) ?_
    refine mk0 (.ptr (.arg 2) 0 (0 + kn * 2)) (ia_sl2 hlt) ?_
    refine mk0 (.ptr (.arg 2) 0 (0 + kn * 2 + 0)) (by rfl) ?_
    simp only [sets_nilE]
    refine mk (.int .i64 (x.1 : Int)) [] [.arg 2] (ld_cell (j := 0 + kn * 2 + 0) hB (by rw [Nat.zero_add]; exact q0)) ?_
    simp only [sets_nilE]
    refine mkL0 (.ptr (.arg 0) 0 0) [] (by rfl) ?_
    refine mkL0 (.ptr (.arg 0) 0 0) [] (by rfl) ?_
    refine mkL0 (.ptr (.arg 0) 0 (0 + 0)) [] (by rfl) ?_
    refine mkL (.sl (.sub 19 (.own 11)) g' 0 (rlast r kn).kept.length 1 none) [] [.arg 0] (ld_cell (j := 0 + 0) hR (by rfl)) ?_
    refine mkL0 (.int .i64 (x.1 : Int)) [] (by rfl) ?_
    refine mkL0 (.ptr (.arg 0) 0 0) [] (by rfl) ?_
    refine mkL0 (.ptr (.arg 0) 0 0) [] (by rfl) ?_
    refine mkL0 (.ptr (.arg 0) 0 (0 + 1)) [] (by rfl) ?_
    simp only [sets_nilE]
    refine mkL (.sl (.arg 2) 0 0 r.queue.length 2 none) [] [.arg 0] (ld_cell (j := 0 + 1) hR (by rfl)) ?_
    refine mkL0 (.int .i64 (kn : Int)) [] (by rfl) ?_
    refine mkL0 (.ptr (.arg 2) 0 (0 + kn * 2)) [] (ia_sl2 hlt) ?_
    refine mkL0 (.ptr (.arg 2) 0 (0 + kn * 2 + 1)) [] (by rfl) ?_
    simp only [sets_nilE]
    refine mkL (.str x.2) [] [.arg 2] (ld_cell (j := 0 + kn * 2 + 1) hB (by rw [Nat.zero_add]; exact q1)) ?_
    refine mkL0 (.int .i64 (tn : Int)) [] (by rfl) ?_
    refine mkL0 (.str (x.2.take tn)) [] (slice9t (by omega)) ?_
    refine mkL0 (.ptr (.arg 0) 0 0) [] (by rfl) ?_
    refine mkL0 (.ptr (.arg 0) 0 0) [] (by rfl) ?_
    refine mkL0 (.ptr (.arg 0) 0 (0 + 0)) [] (by rfl) ?_
    simp only [sets_nilE]
    refine mkL (.sl (.sub 19 (.own 11)) g' 0 (rlast r kn).kept.length 1 none) [] [.arg 0] (ld_cell (j := 0 + 0) hR (by rfl)) ?_
    refine mkL0 (.int .i64 (x.1 : Int)) [] (by rfl) ?_
    refine mkL0 (.ptr (.sub 19 (.own 11)) g' (0 + x.1 * 1)) [] (ia_sl (by rw [hkl]; exact hx1)) ?_
    simp only [sets_nilE]
    refine mkL (.str s) [] [.sub 19 (.own 11)] (ld_at hF.hA (by simp only [keptV, List.getElem?_map, hs]; rfl)) ?_
    refine mkL0 (.int .i64 (tn : Int)) [] (by rfl) ?_
    refine mkL0 (.str (s.drop tn)) [] (slice9 (by omega)) ?_
    refine mkL0 (.str (x.2.take tn ++ s.drop tn)) [] (bin_sadd (by simp; omega)) ?_
    refine mkL0 (.ptr (.sub 19 (.own 11)) g' (0 + x.1 * 1)) [] (ia_sl (by rw [hkl]; exact hx1)) ?_
    simp only [sets_nilE]
    refine mkL .und [(.sub 19 (.own 11), ⟨g', (keptV (rlast r kn).kept).set x.1 (.str (x.2.take tn ++ s.drop tn)), false, true⟩)] [.sub 19 (.own 11)] (st_cell hF.hA (by rw [keptV_len, hkl]; exact hx1)) ?_
    refine ⟨by kernel_rfl, ?_⟩
    rw [keptV_set]
    refine tail _ { rlast r kn with kept := (rlast r kn).kept.set x.1 (x.2.take tn ++ s.drop tn) } _ _ _ _ _ _ _ _ _ _ _ _ _ _ _ _ _ _ _ _ _ _ _ _ _ _ _ _ _ _ _ _ _ _ _ _ _ _ _ _ _ _ _ _ _ _ _ _ _ _ _ _ _ _ _ _ _ _ _ _ _ _ _ _ _ _ ⟨?_, by simp [Heap.sets, Heap.set], fun B gb ee => ?_, hF.hn, by simp⟩ ?_ (by rw [hrc, hrt]; rfl)
    · have := hF.hR
      simp only [Heap.sets, Heap.set, rcells, List.length_set] at this ⊢
      rw [if_neg (by simp)]
      exact this
    · obtain ⟨z1, z2, z3⟩ := hF.hB B gb ee
      refine ⟨?_, z2, z3⟩
      simp only [Heap.sets, Heap.set]
      rw [if_neg z3]
      exact z1
    · obtain ⟨b, hb, hf⟩ := hA
      exact ⟨b, by simp [Heap.sets, Heap.set]; exact hb, hf⟩
  · rw [hq0, decide_eq_false (by omega)]
    refine condF ?_
    simp only [w30_13, seqK]
    refine tail H1 (rlast r kn) _ _ _ _ _ _ _ _ _ _ _ _ _ _ _ _ _ _ _ _ _ _ _ _ _ _ _ _ _ _ _ _ _ _ _ _ _ _ _ _ _ _ _ _ _ _ _ _ _ _ _ _ _ _ _ _ _ _ _ _ _ _ _ _ _ _ hF hA ?_
    rw [hrc]
    have e : rtorn r kn torn = (rlast r kn).kept := by
      unfold rtorn
      rw [List.getElem?_eq_none (by omega)]
    rw [e]
    rfl
end Go.Proofs.Ytcamcfplcoklkaa.Iv
