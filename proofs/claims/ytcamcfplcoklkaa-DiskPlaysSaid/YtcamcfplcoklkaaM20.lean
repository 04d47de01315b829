import Derived.Test.YtcamcfplcoklkaaM17
import Derived.Test.YtcamcfplcoklkaaM18
import Derived.Test.YtcamcfplcoklkaaM19
namespace Go.Proofs.Ytcamcfplcoklkaa.Iv
open Go
set_option linter.unusedVariables false
set_option linter.unusedSimpArgs false
set_option maxRecDepth 100000

/-! ### the reference's disk, in a frame -/
structure RD where
  kept : List (List UInt8)
  queue : List (Nat × List UInt8)
  trip : Int
  cap : Int
  dark : Bool
def keptV (l : List (List UInt8)) : List V := l.map V.str
def queueV : List (Nat × List UInt8) → List V
  | [] => []
  | x :: r => .int .i64 (x.1 : Int) :: .str x.2 :: queueV r
theorem queueV_len : ∀ l, (queueV l).length = l.length * 2
  | [] => rfl
  | x :: r => by simp [queueV, queueV_len r]; omega
theorem queueV_app : ∀ l x, queueV (l ++ [x]) = queueV l ++ [.int .i64 (x.1 : Int), .str x.2]
  | [], x => rfl
  | y :: r, x => by simp [queueV, queueV_app r x]
theorem keptV_len (l : List (List UInt8)) : (keptV l).length = l.length := by simp [keptV]
def rq (bn : Option (Id × Nat)) (m : Nat) : V := match bn with | none => .nils | some (B, gb) => .sl B gb 0 m 2 none
def rcells (A : Id) (ga : Nat) (bn : Option (Id × Nat)) (r : RD) : List V := [.sl A ga 0 r.kept.length 1 none, rq bn r.queue.length, .int .i64 r.trip, .int .i64 r.cap, .bool r.dark]
structure RF (H : Heap) (R A : Id) (gr ga : Nat) (bn : Option (Id × Nat)) (r : RD) : Prop where
  hR : H R = some ⟨gr, rcells A ga bn r, false, false⟩
  hA : H A = some ⟨ga, keptV r.kept, false, true⟩
  hB : ∀ B gb, bn = some (B, gb) → H B = some ⟨gb, queueV r.queue, false, true⟩ ∧ B ≠ R ∧ B ≠ A
  hn : bn = none → r.queue = []
  ra : R ≠ A
theorem RF.other {H H' : Heap} {R A : Id} {gr ga : Nat} {bn : Option (Id × Nat)} {r : RD} (h : RF H R A gr ga bn r) (e : ∀ i ∈ accOf R A bn, H' i = H i) : RF H' R A gr ga bn r := by
  have e0 : H' R = H R := e R (by cases bn <;> simp [accOf])
  have e1 : H' A = H A := e A (by cases bn <;> simp [accOf])
  refine ⟨by rw [e0]; exact h.hR, by rw [e1]; exact h.hA, fun Q gq hq => ?_, h.hn, h.ra⟩
  subst hq
  obtain ⟨q1, q2, q3⟩ := h.hB Q gq rfl
  exact ⟨by rw [e Q (by simp [accOf])]; exact q1, q2, q3⟩
def rInn (bn : Option (Id × Nat)) : Option (Id × Nat) := match bn with | none => none | some _ => some (.arg 2, 0)
section
variable {H : Heap} {R A : Id} {gr ga : Nat} {bn : Option (Id × Nat)} {r : RD}
theorem coll_r (h : RF H R A gr ga bn r) : collect H 200 [(R, gr)] [] = some (accOf R A bn) := by
  have l1 : live H R gr = some ⟨gr, rcells A ga bn r, false, false⟩ := by simp [live, h.hR]
  have l2 : live H A ga = some ⟨ga, keptV r.kept, false, true⟩ := by simp [live, h.hA]
  have dk := h.ra
  cases bn with
  | none => simp [collect, l1, l2, rcells, refsL, refs, rq, accOf, dk, Ne.symm dk]
  | some p =>
    obtain ⟨Q, gq⟩ := p
    obtain ⟨q1, q2, q3⟩ := h.hB Q gq rfl
    have l3 : live H Q gq = some ⟨gq, queueV r.queue, false, true⟩ := by simp [live, q1]
    simp [collect, l1, l2, l3, rcells, refsL, refs, rq, accOf, dk, Ne.symm dk, q2, q3]
theorem enter_r (h : RF H R A gr ga bn r) : RF (enterH H (accOf R A bn)) (.arg 0) (.arg 1) 0 0 (rInn bn) r ∧ (∀ t, enterH H (accOf R A bn) (.own t) = none) ∧ ∀ t i, enterH H (accOf R A bn) (.sub t i) = none := by
  have dk := h.ra
  have l1 : live H R gr = some ⟨gr, rcells A ga bn r, false, false⟩ := by simp [live, h.hR]
  have l2 : live H A ga = some ⟨ga, keptV r.kept, false, true⟩ := by simp [live, h.hA]
  cases bn with
  | none =>
    refine ⟨⟨?_, ?_, fun Q gq e => (by cases e), h.hn, by simp⟩, fun t => rfl, fun t i => rfl⟩
    · simp [enterH, accOf, h.hR, rcells, rInn, renL, ren, intoRen, pos, dk, l2, rq]
    · simp [enterH, accOf, h.hA]
  | some p =>
    obtain ⟨Q, gq⟩ := p
    obtain ⟨q1, q2, q3⟩ := h.hB Q gq rfl
    have l3 : live H Q gq = some ⟨gq, queueV r.queue, false, true⟩ := by simp [live, q1]
    refine ⟨⟨?_, ?_, fun Q gq e => (by cases e; exact ⟨by simp [enterH, accOf, q1], by simp, by simp⟩), fun e => (by cases e), by simp⟩, fun t => rfl, fun t i => rfl⟩
    · simp [enterH, accOf, h.hR, rcells, rInn, renL, ren, intoRen, pos, dk, l2, l3, rq, Ne.symm q2, Ne.symm q3]
    · simp [enterH, accOf, h.hA]
theorem pre_r (h : RF H R A gr ga bn r) {f : Nat} {args rest : List V} {rd : List Id}
    (ha : argsIn H (dcfg.pol f).modes args = some (.ptr R gr 0 :: rest, [], rd)) (hr : refsL rest = []) (hd : ∀ i ∈ accOf R A bn, i ∉ rd) :
    callPre dcfg.pol H f args = some ⟨.ptr (.arg 0) 0 0 :: rest, enterH H (accOf R A bn), accOf R A bn, [], rd⟩ := by
  have e0 : refsL (.ptr R gr 0 :: rest) = [(R, gr)] := by simp [refsL, refs, hr]
  have hany : ((accOf R A bn).any fun i => rd.contains i && !([] : List (Id × Blk)).any fun x => x.1 == i) = false := by
    rw [List.any_eq_false]
    intro i hi
    simp [hd i hi]
  have hren : renIf (accOf R A bn) (intoRen H (accOf R A bn)) (.ptr R gr 0 :: rest) = .ptr (.arg 0) 0 0 :: rest := by
    have l1 : live H R gr = some ⟨gr, rcells A ga bn r, false, false⟩ := by simp [live, h.hR]
    cases bn with
    | none => simp [renIf, accOf, renL, ren, intoRen, pos, l1, renL_norefs _ _ hr]
    | some p => simp [renIf, accOf, renL, ren, intoRen, pos, l1, renL_norefs _ _ hr]
  unfold callPre
  rw [ha]
  simp only [Heap.sets, e0, coll_r h, hany, hren]
  rfl
end
/-- what a function leaves of the reference that it was handed: where the sectors lie, where the queue -/
structure RO (H' : Heap) (bn : Option (Id × Nat)) (kn : Option (Id × Nat)) (qn : Option (Option (Id × Nat))) (r : RD) : Prop where
  h : RF H' (.arg 0) (match kn with | none => .arg 1 | some (a, _) => a) 0 (match kn with | none => 0 | some (_, g) => g) (match qn with | none => rInn bn | some q => q) r
  h1 : ∃ b, H' (.arg 1) = some b ∧ b.flat = true
  h2 : bn ≠ none → ∃ b, H' (.arg 2) = some b ∧ b.flat = true
theorem rpost000 {H H' : Heap} {R A : Id} {gr ga : Nat} {r r2 : RD} {d f : Nat} {x : V} {as0 : List V} {rd : List Id} {Hin : Heap} (h : RF H R A gr ga none r) (o : RO H' none none none r2)
    (hret : retIn (dcfg.pol f).own H' x = some (x, [])) (hrr : refs x = []) (hk : outKept x = true) :
    callPost dcfg.pol H d f ⟨as0, Hin, [R, A], [], rd⟩ x H' = some ⟨x, [(R, ⟨gr, rcells A ga none r2, false, false⟩), (A, ⟨ga, keptV r2.kept, false, true⟩)], rd ++ [R, A] ++ [Id.arg 0, Id.arg 1].map (newName d [R, A])⟩ := by
  have hx : ∀ fn, ren fn x = x := fun fn => ren_norefs _ _ hrr
  have a0 := o.h.hR
  have aA := o.h.hA
  simp only [rInn] at *
  have l0 : live H' (.arg 0) 0 = some ⟨0, rcells (.arg 1) 0 none r2, false, false⟩ := by simp [live, a0]
  have l1 : live H' (.arg 1) 0 = some ⟨0, keptV r2.kept, false, true⟩ := by simp [live, aA]
  have c : collect H' 200 [(.arg 0, 0), (.arg 1, 0)] [] = some [.arg 0, .arg 1] := by simp [collect, l0, l1, rcells, rq, refsL, refs]
  unfold callPost
  rw [hret]
  have n0 : ∀ X, backName X d [R, A] (.arg 0) = (X R).map fun b => (R, b.gen) := fun X => by simp only [backName, List.getElem?_cons_zero]; cases X R <;> rfl
  have n1 : ∀ X, backName X d [R, A] (.arg 1) = (X A).map fun b => (A, b.gen) := fun X => by simp only [backName, List.getElem?_cons_succ, List.getElem?_cons_zero]; cases X A <;> rfl
  have fs : freshSubs d [R, A] [.arg 0, .arg 1] = true := by
    rfl
  have ai : argIds 2 H' [] = [(.arg 0, 0), (.arg 1, 0)] := by simp [argIds, a0, aA]
  simp only [Heap.sets, hrr, List.length_cons, List.length_nil, Nat.zero_add, ai, c, fs]
  simp [backUps, n0, n1, a0, aA, h.hR, h.hA, rcells, rq, V.kept, V.kept0, renL, ren, backRen, renIfV, hx, hk]
theorem rpost100 {H H' : Heap} {R A B : Id} {gr ga gb : Nat} {r r2 : RD} {d f : Nat} {x : V} {as0 : List V} {rd : List Id} {Hin : Heap} (h : RF H R A gr ga (some (B, gb)) r) (o : RO H' (some (B, gb)) none none r2)
    (hret : retIn (dcfg.pol f).own H' x = some (x, [])) (hrr : refs x = []) (hk : outKept x = true) :
    callPost dcfg.pol H d f ⟨as0, Hin, [R, A, B], [], rd⟩ x H' = some ⟨x, [(R, ⟨gr, rcells A ga (some (B, gb)) r2, false, false⟩), (A, ⟨ga, keptV r2.kept, false, true⟩), (B, ⟨gb, queueV r2.queue, false, true⟩)], rd ++ [R, A, B] ++ [Id.arg 0, Id.arg 1, Id.arg 2].map (newName d [R, A, B])⟩ := by
  have hx : ∀ fn, ren fn x = x := fun fn => ren_norefs _ _ hrr
  have a0 := o.h.hR
  have aA := o.h.hA
  obtain ⟨aB, nB1, nB2⟩ := o.h.hB _ _ rfl
  simp only [rInn] at *
  have l0 : live H' (.arg 0) 0 = some ⟨0, rcells (.arg 1) 0 (some (.arg 2, 0)) r2, false, false⟩ := by simp [live, a0]
  have l1 : live H' (.arg 1) 0 = some ⟨0, keptV r2.kept, false, true⟩ := by simp [live, aA]
  have l2 : live H' (.arg 2) 0 = some ⟨0, queueV r2.queue, false, true⟩ := by simp [live, aB]
  have c : collect H' 200 [(.arg 0, 0), (.arg 1, 0), (.arg 2, 0)] [] = some [.arg 0, .arg 1, .arg 2] := by simp [collect, l0, l1, l2, rcells, rq, refsL, refs]
  obtain ⟨w1, w2, w3⟩ := h.hB _ _ rfl
  unfold callPost
  rw [hret]
  have n0 : ∀ X, backName X d [R, A, B] (.arg 0) = (X R).map fun b => (R, b.gen) := fun X => by simp only [backName, List.getElem?_cons_zero]; cases X R <;> rfl
  have n1 : ∀ X, backName X d [R, A, B] (.arg 1) = (X A).map fun b => (A, b.gen) := fun X => by simp only [backName, List.getElem?_cons_succ, List.getElem?_cons_zero]; cases X A <;> rfl
  have n2 : ∀ X, backName X d [R, A, B] (.arg 2) = (X B).map fun b => (B, b.gen) := fun X => by simp only [backName, List.getElem?_cons_succ, List.getElem?_cons_zero]; cases X B <;> rfl
  have fs : freshSubs d [R, A, B] [.arg 0, .arg 1, .arg 2] = true := by
    rfl
  have ai : argIds 3 H' [] = [(.arg 0, 0), (.arg 1, 0), (.arg 2, 0)] := by simp [argIds, a0, aA, aB]
  simp only [Heap.sets, hrr, List.length_cons, List.length_nil, Nat.zero_add, ai, c, fs]
  simp [backUps, n0, n1, n2, a0, aA, aB, h.hR, h.hA, w1, rcells, rq, V.kept, V.kept0, renL, ren, backRen, renIfV, hx, hk]
theorem rpost002 {H H' : Heap} {R A : Id} {gr ga : Nat} {r r2 : RD} {qa : Id} {qg : Nat} {d f : Nat} {x : V} {as0 : List V} {rd : List Id} {Hin : Heap} (h : RF H R A gr ga none r) (o : RO H' none none (some (some (qa, qg))) r2) (qa0 : ∀ j, qa ≠ .arg j) (qa1 : qa.alt = false) (qa2 : newName d [R, A] qa ∉ [R, A])
    (hret : retIn (dcfg.pol f).own H' x = some (x, [])) (hrr : refs x = []) (hk : outKept x = true) :
    callPost dcfg.pol H d f ⟨as0, Hin, [R, A], [], rd⟩ x H' = some ⟨x, [(R, ⟨gr, rcells A ga (some (newName d [R, A] qa, nextGen H (newName d [R, A] qa) + qg)) r2, false, false⟩), (A, ⟨ga, keptV r2.kept, false, true⟩), (newName d [R, A] qa, ⟨nextGen H (newName d [R, A] qa) + qg, queueV r2.queue, false, true⟩)], rd ++ [R, A] ++ [Id.arg 0, Id.arg 1, qa].map (newName d [R, A])⟩ := by
  have hx : ∀ fn, ren fn x = x := fun fn => ren_norefs _ _ hrr
  have a0 := o.h.hR
  have aA := o.h.hA
  obtain ⟨aB, nB1, nB2⟩ := o.h.hB _ _ rfl
  simp only [rInn] at *
  have l0 : live H' (.arg 0) 0 = some ⟨0, rcells (.arg 1) 0 (some (qa, qg)) r2, false, false⟩ := by simp [live, a0]
  have l1 : live H' (.arg 1) 0 = some ⟨0, keptV r2.kept, false, true⟩ := by simp [live, aA]
  have l2 : live H' qa qg = some ⟨qg, queueV r2.queue, false, true⟩ := by simp [live, aB]
  have q0 := qa0 0
  have q1 := qa0 1
  have q2 := qa0 2
  have c : collect H' 200 [(.arg 0, 0), (.arg 1, 0)] [] = some [.arg 0, .arg 1, qa] := by simp [collect, l0, l1, l2, q0, q1, q2, Ne.symm q0, Ne.symm q1, Ne.symm q2, rcells, rq, refsL, refs]
  unfold callPost
  rw [hret]
  have nq : ∀ X, backName X d [R, A] qa = some (newName d [R, A] qa, nextGen X (newName d [R, A] qa)) := fun X => by cases qa with | arg j => exact absurd rfl (qa0 j) | own j => rfl | sub j i => rfl
  have n0 : ∀ X, backName X d [R, A] (.arg 0) = (X R).map fun b => (R, b.gen) := fun X => by simp only [backName, List.getElem?_cons_zero]; cases X R <;> rfl
  have n1 : ∀ X, backName X d [R, A] (.arg 1) = (X A).map fun b => (A, b.gen) := fun X => by simp only [backName, List.getElem?_cons_succ, List.getElem?_cons_zero]; cases X A <;> rfl
  have fs : freshSubs d [R, A] [.arg 0, .arg 1, qa] = true := by
    have z2 : ([R, A] : List Id).contains (newName d [R, A] qa) = false := by rw [← Bool.not_eq_true, List.contains_iff_mem]; exact qa2
    cases qa with
    | arg j => exact absurd rfl (qa0 j)
    | own j => simp only [freshSubs, z2, qa1, Bool.not_false, Bool.and_true, Bool.true_and]
    | sub j i => simp only [freshSubs, z2, qa1, Bool.not_false, Bool.and_true, Bool.true_and]
  have ai : argIds 2 H' [] = [(.arg 0, 0), (.arg 1, 0)] := by simp [argIds, a0, aA]
  simp only [Heap.sets, hrr, List.length_cons, List.length_nil, Nat.zero_add, ai, c, fs]
  simp [backUps, nq, n0, n1, a0, aA, aB, h.hR, h.hA, rcells, rq, V.kept, V.kept0, renL, ren, backRen, renIfV, hx, hk, q0, q1, q2, Ne.symm q0, Ne.symm q1, Ne.symm q2]
theorem rpost102 {H H' : Heap} {R A B : Id} {gr ga gb : Nat} {r r2 : RD} {qa : Id} {qg : Nat} {d f : Nat} {x : V} {as0 : List V} {rd : List Id} {Hin : Heap} (h : RF H R A gr ga (some (B, gb)) r) (o : RO H' (some (B, gb)) none (some (some (qa, qg))) r2) (qa0 : ∀ j, qa ≠ .arg j) (qa1 : qa.alt = false) (qa2 : newName d [R, A, B] qa ∉ [R, A, B]) {b2 : Blk} (hb2 : H' (.arg 2) = some b2) (hf2 : b2.flat = true)
    (hret : retIn (dcfg.pol f).own H' x = some (x, [])) (hrr : refs x = []) (hk : outKept x = true) :
    callPost dcfg.pol H d f ⟨as0, Hin, [R, A, B], [], rd⟩ x H' = some ⟨x, [(R, ⟨gr, rcells A ga (some (newName d [R, A, B] qa, nextGen H (newName d [R, A, B] qa) + qg)) r2, false, false⟩), (A, ⟨ga, keptV r2.kept, false, true⟩), (newName d [R, A, B] qa, ⟨nextGen H (newName d [R, A, B] qa) + qg, queueV r2.queue, false, true⟩), (B, ⟨gb + b2.gen, b2.cells, b2.frz, true⟩)], rd ++ [R, A, B] ++ [Id.arg 0, Id.arg 1, qa, Id.arg 2].map (newName d [R, A, B])⟩ := by
  have hx : ∀ fn, ren fn x = x := fun fn => ren_norefs _ _ hrr
  have a0 := o.h.hR
  have aA := o.h.hA
  obtain ⟨aB, nB1, nB2⟩ := o.h.hB _ _ rfl
  simp only [rInn] at *
  have l0 : live H' (.arg 0) 0 = some ⟨0, rcells (.arg 1) 0 (some (qa, qg)) r2, false, false⟩ := by simp [live, a0]
  have l1 : live H' (.arg 1) 0 = some ⟨0, keptV r2.kept, false, true⟩ := by simp [live, aA]
  have l2 : live H' qa qg = some ⟨qg, queueV r2.queue, false, true⟩ := by simp [live, aB]
  have l4 : live H' (.arg 2) b2.gen = some b2 := by simp [live, hb2]
  have q0 := qa0 0
  have q1 := qa0 1
  have q2 := qa0 2
  have c : collect H' 200 [(.arg 0, 0), (.arg 1, 0), (.arg 2, b2.gen)] [] = some [.arg 0, .arg 1, qa, .arg 2] := by simp [collect, l0, l1, l2, l4, q0, q1, q2, Ne.symm q0, Ne.symm q1, Ne.symm q2, hb2, hf2, rcells, rq, refsL, refs]
  obtain ⟨w1, w2, w3⟩ := h.hB _ _ rfl
  unfold callPost
  rw [hret]
  have nq : ∀ X, backName X d [R, A, B] qa = some (newName d [R, A, B] qa, nextGen X (newName d [R, A, B] qa)) := fun X => by cases qa with | arg j => exact absurd rfl (qa0 j) | own j => rfl | sub j i => rfl
  have n0 : ∀ X, backName X d [R, A, B] (.arg 0) = (X R).map fun b => (R, b.gen) := fun X => by simp only [backName, List.getElem?_cons_zero]; cases X R <;> rfl
  have n1 : ∀ X, backName X d [R, A, B] (.arg 1) = (X A).map fun b => (A, b.gen) := fun X => by simp only [backName, List.getElem?_cons_succ, List.getElem?_cons_zero]; cases X A <;> rfl
  have n2 : ∀ X, backName X d [R, A, B] (.arg 2) = (X B).map fun b => (B, b.gen) := fun X => by simp only [backName, List.getElem?_cons_succ, List.getElem?_cons_zero]; cases X B <;> rfl
  have fs : freshSubs d [R, A, B] [.arg 0, .arg 1, qa, .arg 2] = true := by
    have z2 : ([R, A, B] : List Id).contains (newName d [R, A, B] qa) = false := by rw [← Bool.not_eq_true, List.contains_iff_mem]; exact qa2
    cases qa with
    | arg j => exact absurd rfl (qa0 j)
    | own j => simp only [freshSubs, z2, qa1, Bool.not_false, Bool.and_true, Bool.true_and]
    | sub j i => simp only [freshSubs, z2, qa1, Bool.not_false, Bool.and_true, Bool.true_and]
  have ai : argIds 3 H' [] = [(.arg 0, 0), (.arg 1, 0), (.arg 2, b2.gen)] := by simp [argIds, a0, aA, hb2]
  simp only [Heap.sets, hrr, List.length_cons, List.length_nil, Nat.zero_add, ai, c, fs]
  simp [backUps, nq, n0, n1, n2, a0, aA, aB, hb2, hf2, h.hR, h.hA, w1, rcells, rq, V.kept, V.kept0, renL, ren, backRen, renIfV, hx, hk, q0, q1, q2, Ne.symm q0, Ne.symm q1, Ne.symm q2]
theorem rpost011 {H H' : Heap} {R A : Id} {gr ga : Nat} {r r2 : RD} {ka : Id} {kg : Nat} {d f : Nat} {x : V} {as0 : List V} {rd : List Id} {Hin : Heap} (h : RF H R A gr ga none r) (o : RO H' none (some (ka, kg)) (some none) r2) (ka0 : ∀ j, ka ≠ .arg j) (ka1 : ka.alt = false) (ka2 : newName d [R, A] ka ∉ [R, A]) {b1 : Blk} (hb1 : H' (.arg 1) = some b1) (hf1 : b1.flat = true)
    (hret : retIn (dcfg.pol f).own H' x = some (x, [])) (hrr : refs x = []) (hk : outKept x = true) :
    callPost dcfg.pol H d f ⟨as0, Hin, [R, A], [], rd⟩ x H' = some ⟨x, [(R, ⟨gr, rcells (newName d [R, A] ka) (nextGen H (newName d [R, A] ka) + kg) none r2, false, false⟩), (newName d [R, A] ka, ⟨nextGen H (newName d [R, A] ka) + kg, keptV r2.kept, false, true⟩), (A, ⟨ga + b1.gen, b1.cells, b1.frz, true⟩)], rd ++ [R, A] ++ [Id.arg 0, ka, Id.arg 1].map (newName d [R, A])⟩ := by
  have hx : ∀ fn, ren fn x = x := fun fn => ren_norefs _ _ hrr
  have a0 := o.h.hR
  have aA := o.h.hA
  simp only [rInn] at *
  have l0 : live H' (.arg 0) 0 = some ⟨0, rcells ka kg none r2, false, false⟩ := by simp [live, a0]
  have l1 : live H' ka kg = some ⟨kg, keptV r2.kept, false, true⟩ := by simp [live, aA]
  have l3 : live H' (.arg 1) b1.gen = some b1 := by simp [live, hb1]
  have k0 := ka0 0
  have k1 := ka0 1
  have k2 := ka0 2
  have hkn : ¬ (ka = .arg 0) := k0
  have c : collect H' 200 [(.arg 0, 0), (.arg 1, b1.gen)] [] = some [.arg 0, ka, .arg 1] := by simp [collect, l0, l1, l3, k0, k1, k2, Ne.symm k0, Ne.symm k1, Ne.symm k2, hb1, hf1, rcells, rq, refsL, refs]
  unfold callPost
  rw [hret]
  have nk : ∀ X, backName X d [R, A] ka = some (newName d [R, A] ka, nextGen X (newName d [R, A] ka)) := fun X => by cases ka with | arg j => exact absurd rfl (ka0 j) | own j => rfl | sub j i => rfl
  have n0 : ∀ X, backName X d [R, A] (.arg 0) = (X R).map fun b => (R, b.gen) := fun X => by simp only [backName, List.getElem?_cons_zero]; cases X R <;> rfl
  have n1 : ∀ X, backName X d [R, A] (.arg 1) = (X A).map fun b => (A, b.gen) := fun X => by simp only [backName, List.getElem?_cons_succ, List.getElem?_cons_zero]; cases X A <;> rfl
  have fs : freshSubs d [R, A] [.arg 0, ka, .arg 1] = true := by
    have z1 : ([R, A] : List Id).contains (newName d [R, A] ka) = false := by rw [← Bool.not_eq_true, List.contains_iff_mem]; exact ka2
    cases ka with
    | arg j => exact absurd rfl (ka0 j)
    | own j => simp only [freshSubs, z1, ka1, Bool.not_false, Bool.and_true, Bool.true_and]
    | sub j i => simp only [freshSubs, z1, ka1, Bool.not_false, Bool.and_true, Bool.true_and]
  have ai : argIds 2 H' [] = [(.arg 0, 0), (.arg 1, b1.gen)] := by simp [argIds, a0, hb1]
  simp only [Heap.sets, hrr, List.length_cons, List.length_nil, Nat.zero_add, ai, c, fs]
  simp [backUps, nk, n0, n1, a0, aA, hb1, hf1, h.hR, h.hA, rcells, rq, V.kept, V.kept0, renL, ren, backRen, renIfV, hx, hk, k0, k1, k2, Ne.symm k0, Ne.symm k1, Ne.symm k2]
theorem rpost111 {H H' : Heap} {R A B : Id} {gr ga gb : Nat} {r r2 : RD} {ka : Id} {kg : Nat} {d f : Nat} {x : V} {as0 : List V} {rd : List Id} {Hin : Heap} (h : RF H R A gr ga (some (B, gb)) r) (o : RO H' (some (B, gb)) (some (ka, kg)) (some none) r2) (ka0 : ∀ j, ka ≠ .arg j) (ka1 : ka.alt = false) (ka2 : newName d [R, A, B] ka ∉ [R, A, B]) {b1 : Blk} (hb1 : H' (.arg 1) = some b1) (hf1 : b1.flat = true) {b2 : Blk} (hb2 : H' (.arg 2) = some b2) (hf2 : b2.flat = true)
    (hret : retIn (dcfg.pol f).own H' x = some (x, [])) (hrr : refs x = []) (hk : outKept x = true) :
    callPost dcfg.pol H d f ⟨as0, Hin, [R, A, B], [], rd⟩ x H' = some ⟨x, [(R, ⟨gr, rcells (newName d [R, A, B] ka) (nextGen H (newName d [R, A, B] ka) + kg) none r2, false, false⟩), (newName d [R, A, B] ka, ⟨nextGen H (newName d [R, A, B] ka) + kg, keptV r2.kept, false, true⟩), (A, ⟨ga + b1.gen, b1.cells, b1.frz, true⟩), (B, ⟨gb + b2.gen, b2.cells, b2.frz, true⟩)], rd ++ [R, A, B] ++ [Id.arg 0, ka, Id.arg 1, Id.arg 2].map (newName d [R, A, B])⟩ := by
  have hx : ∀ fn, ren fn x = x := fun fn => ren_norefs _ _ hrr
  have a0 := o.h.hR
  have aA := o.h.hA
  simp only [rInn] at *
  have l0 : live H' (.arg 0) 0 = some ⟨0, rcells ka kg none r2, false, false⟩ := by simp [live, a0]
  have l1 : live H' ka kg = some ⟨kg, keptV r2.kept, false, true⟩ := by simp [live, aA]
  have l3 : live H' (.arg 1) b1.gen = some b1 := by simp [live, hb1]
  have l4 : live H' (.arg 2) b2.gen = some b2 := by simp [live, hb2]
  have k0 := ka0 0
  have k1 := ka0 1
  have k2 := ka0 2
  have hkn : ¬ (ka = .arg 0) := k0
  have c : collect H' 200 [(.arg 0, 0), (.arg 1, b1.gen), (.arg 2, b2.gen)] [] = some [.arg 0, ka, .arg 1, .arg 2] := by simp [collect, l0, l1, l3, l4, k0, k1, k2, Ne.symm k0, Ne.symm k1, Ne.symm k2, hb1, hf1, hb2, hf2, rcells, rq, refsL, refs]
  obtain ⟨w1, w2, w3⟩ := h.hB _ _ rfl
  unfold callPost
  rw [hret]
  have nk : ∀ X, backName X d [R, A, B] ka = some (newName d [R, A, B] ka, nextGen X (newName d [R, A, B] ka)) := fun X => by cases ka with | arg j => exact absurd rfl (ka0 j) | own j => rfl | sub j i => rfl
  have n0 : ∀ X, backName X d [R, A, B] (.arg 0) = (X R).map fun b => (R, b.gen) := fun X => by simp only [backName, List.getElem?_cons_zero]; cases X R <;> rfl
  have n1 : ∀ X, backName X d [R, A, B] (.arg 1) = (X A).map fun b => (A, b.gen) := fun X => by simp only [backName, List.getElem?_cons_succ, List.getElem?_cons_zero]; cases X A <;> rfl
  have n2 : ∀ X, backName X d [R, A, B] (.arg 2) = (X B).map fun b => (B, b.gen) := fun X => by simp only [backName, List.getElem?_cons_succ, List.getElem?_cons_zero]; cases X B <;> rfl
  have fs : freshSubs d [R, A, B] [.arg 0, ka, .arg 1, .arg 2] = true := by
    have z1 : ([R, A, B] : List Id).contains (newName d [R, A, B] ka) = false := by rw [← Bool.not_eq_true, List.contains_iff_mem]; exact ka2
    cases ka with
    | arg j => exact absurd rfl (ka0 j)
    | own j => simp only [freshSubs, z1, ka1, Bool.not_false, Bool.and_true, Bool.true_and]
    | sub j i => simp only [freshSubs, z1, ka1, Bool.not_false, Bool.and_true, Bool.true_and]
  have ai : argIds 3 H' [] = [(.arg 0, 0), (.arg 1, b1.gen), (.arg 2, b2.gen)] := by simp [argIds, a0, hb1, hb2]
  simp only [Heap.sets, hrr, List.length_cons, List.length_nil, Nat.zero_add, ai, c, fs]
  simp [backUps, nk, n0, n1, n2, a0, aA, hb1, hf1, hb2, hf2, h.hR, h.hA, w1, rcells, rq, V.kept, V.kept0, renL, ren, backRen, renIfV, hx, hk, k0, k1, k2, Ne.symm k0, Ne.symm k1, Ne.symm k2]
theorem rpost010 {H H' : Heap} {R A : Id} {gr ga : Nat} {r r2 : RD} {ka : Id} {kg : Nat} {d f : Nat} {x : V} {as0 : List V} {rd : List Id} {Hin : Heap} (h : RF H R A gr ga none r) (o : RO H' none (some (ka, kg)) none r2) (ka0 : ∀ j, ka ≠ .arg j) (ka1 : ka.alt = false) (ka2 : newName d [R, A] ka ∉ [R, A]) {b1 : Blk} (hb1 : H' (.arg 1) = some b1) (hf1 : b1.flat = true)
    (hret : retIn (dcfg.pol f).own H' x = some (x, [])) (hrr : refs x = []) (hk : outKept x = true) :
    callPost dcfg.pol H d f ⟨as0, Hin, [R, A], [], rd⟩ x H' = some ⟨x, [(R, ⟨gr, rcells (newName d [R, A] ka) (nextGen H (newName d [R, A] ka) + kg) none r2, false, false⟩), (newName d [R, A] ka, ⟨nextGen H (newName d [R, A] ka) + kg, keptV r2.kept, false, true⟩), (A, ⟨ga + b1.gen, b1.cells, b1.frz, true⟩)], rd ++ [R, A] ++ [Id.arg 0, ka, Id.arg 1].map (newName d [R, A])⟩ := by
  have hx : ∀ fn, ren fn x = x := fun fn => ren_norefs _ _ hrr
  have a0 := o.h.hR
  have aA := o.h.hA
  simp only [rInn] at *
  have l0 : live H' (.arg 0) 0 = some ⟨0, rcells ka kg none r2, false, false⟩ := by simp [live, a0]
  have l1 : live H' ka kg = some ⟨kg, keptV r2.kept, false, true⟩ := by simp [live, aA]
  have l3 : live H' (.arg 1) b1.gen = some b1 := by simp [live, hb1]
  have k0 := ka0 0
  have k1 := ka0 1
  have k2 := ka0 2
  have hkn : ¬ (ka = .arg 0) := k0
  have c : collect H' 200 [(.arg 0, 0), (.arg 1, b1.gen)] [] = some [.arg 0, ka, .arg 1] := by simp [collect, l0, l1, l3, k0, k1, k2, Ne.symm k0, Ne.symm k1, Ne.symm k2, hb1, hf1, rcells, rq, refsL, refs]
  unfold callPost
  rw [hret]
  have nk : ∀ X, backName X d [R, A] ka = some (newName d [R, A] ka, nextGen X (newName d [R, A] ka)) := fun X => by cases ka with | arg j => exact absurd rfl (ka0 j) | own j => rfl | sub j i => rfl
  have n0 : ∀ X, backName X d [R, A] (.arg 0) = (X R).map fun b => (R, b.gen) := fun X => by simp only [backName, List.getElem?_cons_zero]; cases X R <;> rfl
  have n1 : ∀ X, backName X d [R, A] (.arg 1) = (X A).map fun b => (A, b.gen) := fun X => by simp only [backName, List.getElem?_cons_succ, List.getElem?_cons_zero]; cases X A <;> rfl
  have fs : freshSubs d [R, A] [.arg 0, ka, .arg 1] = true := by
    have z1 : ([R, A] : List Id).contains (newName d [R, A] ka) = false := by rw [← Bool.not_eq_true, List.contains_iff_mem]; exact ka2
    cases ka with
    | arg j => exact absurd rfl (ka0 j)
    | own j => simp only [freshSubs, z1, ka1, Bool.not_false, Bool.and_true, Bool.true_and]
    | sub j i => simp only [freshSubs, z1, ka1, Bool.not_false, Bool.and_true, Bool.true_and]
  have ai : argIds 2 H' [] = [(.arg 0, 0), (.arg 1, b1.gen)] := by simp [argIds, a0, hb1]
  simp only [Heap.sets, hrr, List.length_cons, List.length_nil, Nat.zero_add, ai, c, fs]
  simp [backUps, nk, n0, n1, a0, aA, hb1, hf1, h.hR, h.hA, rcells, rq, V.kept, V.kept0, renL, ren, backRen, renIfV, hx, hk, k0, k1, k2, Ne.symm k0, Ne.symm k1, Ne.symm k2]
theorem rpost110 {H H' : Heap} {R A B : Id} {gr ga gb : Nat} {r r2 : RD} {ka : Id} {kg : Nat} {d f : Nat} {x : V} {as0 : List V} {rd : List Id} {Hin : Heap} (h : RF H R A gr ga (some (B, gb)) r) (o : RO H' (some (B, gb)) (some (ka, kg)) none r2) (ka0 : ∀ j, ka ≠ .arg j) (ka1 : ka.alt = false) (ka2 : newName d [R, A, B] ka ∉ [R, A, B]) {b1 : Blk} (hb1 : H' (.arg 1) = some b1) (hf1 : b1.flat = true)
    (hret : retIn (dcfg.pol f).own H' x = some (x, [])) (hrr : refs x = []) (hk : outKept x = true) :
    callPost dcfg.pol H d f ⟨as0, Hin, [R, A, B], [], rd⟩ x H' = some ⟨x, [(R, ⟨gr, rcells (newName d [R, A, B] ka) (nextGen H (newName d [R, A, B] ka) + kg) (some (B, gb)) r2, false, false⟩), (newName d [R, A, B] ka, ⟨nextGen H (newName d [R, A, B] ka) + kg, keptV r2.kept, false, true⟩), (B, ⟨gb, queueV r2.queue, false, true⟩), (A, ⟨ga + b1.gen, b1.cells, b1.frz, true⟩)], rd ++ [R, A, B] ++ [Id.arg 0, ka, Id.arg 2, Id.arg 1].map (newName d [R, A, B])⟩ := by
  have hx : ∀ fn, ren fn x = x := fun fn => ren_norefs _ _ hrr
  have a0 := o.h.hR
  have aA := o.h.hA
  obtain ⟨aB, nB1, nB2⟩ := o.h.hB _ _ rfl
  simp only [rInn] at *
  have l0 : live H' (.arg 0) 0 = some ⟨0, rcells ka kg (some (.arg 2, 0)) r2, false, false⟩ := by simp [live, a0]
  have l1 : live H' ka kg = some ⟨kg, keptV r2.kept, false, true⟩ := by simp [live, aA]
  have l2 : live H' (.arg 2) 0 = some ⟨0, queueV r2.queue, false, true⟩ := by simp [live, aB]
  have l3 : live H' (.arg 1) b1.gen = some b1 := by simp [live, hb1]
  have k0 := ka0 0
  have k1 := ka0 1
  have k2 := ka0 2
  have hkn : ¬ (ka = .arg 0) := k0
  have c : collect H' 200 [(.arg 0, 0), (.arg 1, b1.gen), (.arg 2, 0)] [] = some [.arg 0, ka, .arg 2, .arg 1] := by simp [collect, l0, l1, l2, l3, k0, k1, k2, Ne.symm k0, Ne.symm k1, Ne.symm k2, hb1, hf1, rcells, rq, refsL, refs]
  obtain ⟨w1, w2, w3⟩ := h.hB _ _ rfl
  unfold callPost
  rw [hret]
  have nk : ∀ X, backName X d [R, A, B] ka = some (newName d [R, A, B] ka, nextGen X (newName d [R, A, B] ka)) := fun X => by cases ka with | arg j => exact absurd rfl (ka0 j) | own j => rfl | sub j i => rfl
  have n0 : ∀ X, backName X d [R, A, B] (.arg 0) = (X R).map fun b => (R, b.gen) := fun X => by simp only [backName, List.getElem?_cons_zero]; cases X R <;> rfl
  have n1 : ∀ X, backName X d [R, A, B] (.arg 1) = (X A).map fun b => (A, b.gen) := fun X => by simp only [backName, List.getElem?_cons_succ, List.getElem?_cons_zero]; cases X A <;> rfl
  have n2 : ∀ X, backName X d [R, A, B] (.arg 2) = (X B).map fun b => (B, b.gen) := fun X => by simp only [backName, List.getElem?_cons_succ, List.getElem?_cons_zero]; cases X B <;> rfl
  have fs : freshSubs d [R, A, B] [.arg 0, ka, .arg 2, .arg 1] = true := by
    have z1 : ([R, A, B] : List Id).contains (newName d [R, A, B] ka) = false := by rw [← Bool.not_eq_true, List.contains_iff_mem]; exact ka2
    cases ka with
    | arg j => exact absurd rfl (ka0 j)
    | own j => simp only [freshSubs, z1, ka1, Bool.not_false, Bool.and_true, Bool.true_and]
    | sub j i => simp only [freshSubs, z1, ka1, Bool.not_false, Bool.and_true, Bool.true_and]
  have ai : argIds 3 H' [] = [(.arg 0, 0), (.arg 1, b1.gen), (.arg 2, 0)] := by simp [argIds, a0, hb1, aB]
  simp only [Heap.sets, hrr, List.length_cons, List.length_nil, Nat.zero_add, ai, c, fs]
  simp [backUps, nk, n0, n1, n2, a0, aA, aB, hb1, hf1, h.hR, h.hA, w1, rcells, rq, V.kept, V.kept0, renL, ren, backRen, renIfV, hx, hk, k0, k1, k2, Ne.symm k0, Ne.symm k1, Ne.symm k2]
end Go.Proofs.Ytcamcfplcoklkaa.Iv

namespace Go.Proofs.Ytcamcfplcoklkaa.Iv
open Go
set_option linter.unusedVariables false
set_option linter.unusedSimpArgs false
set_option maxRecDepth 100000

theorem fa41_0 {x} : evFieldAddr Try.prog 41 x 0 = faR 0 x := by kernel_rfl
theorem fa41_1 {x} : evFieldAddr Try.prog 41 x 1 = faR 1 x := by kernel_rfl
theorem fa41_2 {x} : evFieldAddr Try.prog 41 x 2 = faR 2 x := by kernel_rfl
theorem fa41_3 {x} : evFieldAddr Try.prog 41 x 3 = faR 3 x := by kernel_rfl
theorem fa41_4 {x} : evFieldAddr Try.prog 41 x 4 = faR 4 x := by kernel_rfl
theorem fa72_0 {x} : evFieldAddr Try.prog 72 x 0 = faR 0 x := by kernel_rfl
theorem fa72_1 {x} : evFieldAddr Try.prog 72 x 1 = faR 1 x := by kernel_rfl
theorem ld38 {H x} : evLoad Try.prog H 38 x = ldR 1 false H x := by kernel_rfl
theorem ld39 {H x} : evLoad Try.prog H 39 x = ldR 1 false H x := by kernel_rfl
theorem st38 {H x v} : evStore Try.prog H 38 x v = stR 1 H x v := by kernel_rfl
theorem st39 {H x v} : evStore Try.prog H 39 x v = stR 1 H x v := by kernel_rfl
theorem ia39 {x i} : evIndexAddr Try.prog 39 x i = iaR 2 x i := by kernel_rfl
theorem len39 {x} : evLen Try.prog 39 x = lenS x := by cases x <;> kernel_rfl
theorem bin_subw {P : Program} {t : Nat} {a b : Int} : liftO (evBin P t .sub (.int .i64 a) (.int .i64 b)) = pureO (.int .i64 (IntKind.i64.wrap (a - b))) := by simp [evBin, evInt, liftO]
theorem max_m1 {x : Int} : liftO (foldO max2 (.int .i64 x) [.int .i64 (-1)]) = pureO (.int .i64 (if (-1 : Int) > x then -1 else x)) := by rfl
/-- a field of the struct is stored -/
theorem st_fld {H : Heap} {i : Id} {g k : Nat} {cs : List V} {v : V} (h : H i = some ⟨g, cs, false, false⟩) (hk : k < cs.length) (hv : v.cells = [v]) (hf : fits false v = true) : stR 1 H (.ptr i g (0 + k)) v = some ⟨.und, [(i, ⟨g, cs.set k v, false, false⟩)], [i]⟩ := by
  have l1 : live H i g = some ⟨g, cs, false, false⟩ := by simp [live, h]
  have e : splice cs k [v] = cs.set k v := by
    rw [List.set_eq_take_append_cons_drop, if_pos hk]
    simp [splice]
  have c : True ∧ [v].length = 1 ∧ k + 1 ≤ cs.length ∧ [v].all (fits false) = true := ⟨trivial, rfl, by omega, by simp [hf]⟩
  simp only [stR, l1, hv, Nat.zero_add]
  rw [if_pos c, e]
/-- the frame of the reference's methods: at the names of the arguments -/
abbrev RI (H : Heap) (bn : Option (Id × Nat)) (r : RD) : Prop := RF H (.arg 0) (.arg 1) 0 0 (rInn bn) r
theorem rinn_cases (bn : Option (Id × Nat)) : rInn bn = none ∧ bn = none ∨ rInn bn = some (.arg 2, 0) ∧ bn ≠ none := by
  cases bn with
  | none => exact .inl ⟨rfl, rfl⟩
  | some q => exact .inr ⟨rfl, by simp⟩
/-- the struct is set; all else stays -/
theorem RI.set {H : Heap} {bn : Option (Id × Nat)} {r r' : RD} (h : RI H bn r) (hk : r'.kept = r.kept) (hq : r'.queue = r.queue) : RI (H.sets [(.arg 0, ⟨0, rcells (.arg 1) 0 (rInn bn) r', false, false⟩)]) bn r' := by
  refine ⟨by simp [Heap.sets, Heap.set], ?_, fun B gb e => ?_, fun e => by rw [hq]; exact h.hn e, by simp⟩
  · have := h.hA
    simp [Heap.sets, Heap.set, hk, this]
  · obtain ⟨h1, h2, h3⟩ := h.hB B gb e
    exact ⟨by simp [Heap.sets, Heap.set, h2, hq, h1], h2, h3⟩
theorem RI.out {H : Heap} {bn : Option (Id × Nat)} {r : RD} (h : RI H bn r) : RO H bn none none r := by
  refine ⟨h, ⟨_, h.hA, rfl⟩, fun hb => ?_⟩
  cases bn with
  | none => exact absurd rfl hb
  | some q => exact ⟨_, (h.hB (.arg 2) 0 rfl).1, rfl⟩
def rpow (r : RD) : RD := { r with dark := r.dark || (r.trip == 0), trip := left' r.trip }
theorem rc_set4 {A : Id} {ga : Nat} {bn : Option (Id × Nat)} {r : RD} {b : Bool} : (rcells A ga bn r).set 4 (.bool b) = rcells A ga bn { r with dark := b } := rfl
theorem rc_set2 {A : Id} {ga : Nat} {bn : Option (Id × Nat)} {r : RD} {b : Int} : (rcells A ga bn r).set 2 (.int .i64 b) = rcells A ga bn { r with trip := b } := rfl
theorem rc_set3 {A : Id} {ga : Nat} {bn : Option (Id × Nat)} {r : RD} {b : Int} : (rcells A ga bn r).set 3 (.int .i64 b) = rcells A ga bn { r with cap := b } := rfl
set_option maxHeartbeats 2000000 in
/-- power -/
theorem power_spec {H : Heap} {bn : Option (Id × Nat)} {r : RD} (h : RI H bn r) {Q : V → Heap → Prop} (hQ : ∀ H', RI H' bn (rpow r) → (∀ i, i ≠ .arg 0 → H' i = H i) → Q (.bool (!(rpow r).dark)) H') : CallR dcfg 38 [.ptr (.arg 0) 0 0] H Q := by
  refine CallR.body' (K := dcfg) (f := 38) (fn := Try.f38) (c := c38_0) (env := [.ptr (.arg 0) 0 0, .und, .und, .und, .und, .und, .und, .und, .und, .und, .und, .und, .und, .und, .und, .und, .und, .und, .und, .und, .und, .und, .und, .und, .und]) (rs := [.tmp 2]) rfl (by kernel_rfl) (by kernel_rfl) (by kernel_rfl) (by kernel_rfl) (by kernel_rfl) (by kernel_rfl) ?_
  show wC Try.prog dcfg.pol (CallR dcfg) (LoopR dcfg) c38_0 _ _ (wRes Try.prog _ _)
  simp only [w38_0, w38_1, w38_1_0, w38_2, w38_3, w38_4, w38_4_0, w38_5, w38_6, w38_6_0, w38_7, seqK, fa41_2, fa41_4, ld3b, st4, st3b, ld4]
  refine mk0 (.ptr (.arg 0) 0 0) (by rfl) ?_
  refine mk0 (.ptr (.arg 0) 0 (0 + 2)) (by rfl) ?_
  refine mk (.int .i64 r.trip) [] [.arg 0] (ld_cell h.hR (by rfl)) ?_
  refine mk0 _ (bin_eql ..) ?_
  simp only [sets_nilE]
  have tail : ∀ (H1 : Heap) (r1 : RD) t3 t4 t5 t6 t7 t8 t9 t10 t11 t12 t13 t14 t15 t16 t17 t18 t19 t20 t21 t22 t23 t24, RI H1 bn r1 → r1.trip = r.trip → ({ r1 with trip := left' r1.trip } : RD) = rpow r → (∀ i, i ≠ .arg 0 → H1 i = H i) →
      wC Try.prog dcfg.pol (CallR dcfg) (LoopR dcfg) c38_8 [.ptr (.arg 0) 0 0, .und, .bool false, t3, t4, t5, t6, t7, t8, t9, t10, t11, t12, t13, t14, t15, t16, t17, t18, t19, t20, t21, t22, t23, t24] H1 (wRes Try.prog [.tmp 2] Q) := by
    intro H1 r1 t3 t4 t5 t6 t7 t8 t9 t10 t11 t12 t13 t14 t15 t16 t17 t18 t19 t20 t21 t22 t23 t24 h1 ht he ho
    simp only [w38_8, w38_9, w38_9_0, w38_10, w38_11, w38_11_0, w38_12, seqK, fa41_2, fa41_4, ld3b, st4, st3b, ld4]
    refine mk0 (.ptr (.arg 0) 0 0) (by rfl) ?_
    refine mk0 (.ptr (.arg 0) 0 (0 + 2)) (by rfl) ?_
    refine mk (.int .i64 r1.trip) [] [.arg 0] (ld_cell h1.hR (by rfl)) ?_
    refine mk0 _ bin_subw ?_
    refine mk0 _ max_m1 ?_
    refine mk0 (.ptr (.arg 0) 0 0) (by rfl) ?_
    refine mk0 (.ptr (.arg 0) 0 (0 + 2)) (by rfl) ?_
    simp only [sets_nilE]
    refine mk _ _ _ (st_fld (k := 2) (v := .int .i64 (if (-1 : Int) > IntKind.i64.wrap (r1.trip - 1) then (-1 : Int) else IntKind.i64.wrap (r1.trip - 1))) h1.hR (show 2 < 5 by decide) rfl rfl) ?_
    rw [rc_set2, show (if (-1 : Int) > IntKind.i64.wrap (r1.trip - 1) then (-1 : Int) else IntKind.i64.wrap (r1.trip - 1)) = left' r1.trip from rfl, he]
    have h2 : RI (H1.sets [(.arg 0, ⟨0, rcells (.arg 1) 0 (rInn bn) (rpow r), false, false⟩)]) bn (rpow r) := h1.set (by rw [← he]) (by rw [← he])
    have ho2 : ∀ i, i ≠ .arg 0 → (H1.sets [(.arg 0, ⟨0, rcells (.arg 1) 0 (rInn bn) (rpow r), false, false⟩)]) i = H i := fun i hi => by simp [Heap.sets, Heap.set, hi, ho i hi]
    generalize H1.sets [(.arg 0, ⟨0, rcells (.arg 1) 0 (rInn bn) (rpow r), false, false⟩)] = H2 at h2 ho2 ⊢
    refine mk0 (.ptr (.arg 0) 0 0) (by rfl) ?_
    refine mk0 (.ptr (.arg 0) 0 (0 + 4)) (by rfl) ?_
    refine mk (.bool (rpow r).dark) [] [.arg 0] (ld_cell h2.hR (by rfl)) ?_
    refine mk0 (.bool !(rpow r).dark) (by rfl) ?_
    simp only [sets_nilE]
    exact hQ H2 h2 ho2
  by_cases hz : r.trip = 0
  · have e : (r.trip == 0) = true := by simpa using hz
    rw [e]
    refine condT ?_
    refine mk0 (.ptr (.arg 0) 0 0) (by rfl) ?_
    refine mk0 (.ptr (.arg 0) 0 (0 + 4)) (by rfl) ?_
    refine mk _ _ _ (st_fld (k := 4) (v := .bool true) h.hR (show 4 < 5 by decide) rfl rfl) ?_
    rw [rc_set4]
    have h2 : RI (H.sets [(.arg 0, ⟨0, rcells (.arg 1) 0 (rInn bn) { r with dark := true }, false, false⟩)]) bn { r with dark := true } := h.set rfl rfl
    have ho2 : ∀ i, i ≠ .arg 0 → (H.sets [(.arg 0, ⟨0, rcells (.arg 1) 0 (rInn bn) { r with dark := true }, false, false⟩)]) i = H i := fun i hi => by simp [Heap.sets, Heap.set, hi]
    generalize H.sets [(.arg 0, ⟨0, rcells (.arg 1) 0 (rInn bn) { r with dark := true }, false, false⟩)] = H2 at h2 ho2 ⊢
    exact tail H2 { r with dark := true } _ _ _ _ _ _ _ _ _ _ _ _ _ _ _ _ _ _ _ _ _ _ h2 rfl (by simp [rpow, e]) ho2
  · have e : (r.trip == 0) = false := by simpa using hz
    rw [e]
    refine condF ?_
    refine tail H r _ _ _ _ _ _ _ _ _ _ _ _ _ _ _ _ _ _ _ _ _ _ h rfl (by simp [rpow, e]) (fun i hi => rfl)
end Go.Proofs.Ytcamcfplcoklkaa.Iv

namespace Go.Proofs.Ytcamcfplcoklkaa.Iv
open Go
set_option linter.unusedVariables false
set_option linter.unusedSimpArgs false
set_option maxRecDepth 100000

def rput (k : List (List UInt8)) (x : Nat × List UInt8) : List (List UInt8) := k.set x.1 x.2
def rlast (r : RD) (n : Nat) : RD := { r with kept := (r.queue.take n).foldl rput r.kept }
theorem rputs_len : ∀ (q : List (Nat × List UInt8)) (k : List (List UInt8)), (q.foldl rput k).length = k.length
  | [], k => rfl
  | x :: q, k => by rw [List.foldl_cons, rputs_len q]; simp [rput]
theorem rlast_len {r : RD} {n : Nat} : (rlast r n).kept.length = r.kept.length := rputs_len _ _
theorem rlast_succ {r : RD} {n : Nat} {x : Nat × List UInt8} (h : r.queue[n]? = some x) : rlast r (n + 1) = { r with kept := (rlast r n).kept.set x.1 x.2 } := by
  have e : r.queue.take (n + 1) = r.queue.take n ++ [x] := by
    rw [List.take_add_one, h]; rfl
  unfold rlast
  rw [e]
  simp [rput]
theorem queueV_at : ∀ (l : List (Nat × List UInt8)) {k : Nat} {x : Nat × List UInt8}, l[k]? = some x → (queueV l)[k * 2 + 0]? = some (.int .i64 (x.1 : Int)) ∧ (queueV l)[k * 2 + 1]? = some (.str x.2)
  | [], k, x, h => by simp at h
  | y :: r, 0, x, h => by
    simp at h; subst h; exact ⟨rfl, rfl⟩
  | y :: r, k + 1, x, h => by
    have := queueV_at r (k := k) (x := x) (by simpa using h)
    have e1 : (k + 1) * 2 + 0 = (k * 2 + 0) + 1 + 1 := by omega
    have e2 : (k + 1) * 2 + 1 = (k * 2 + 1) + 1 + 1 := by omega
    rw [e1, e2]
    simp only [queueV, List.getElem?_cons_succ]
    exact this
theorem keptV_set {k : List (List UInt8)} {j : Nat} {s : List UInt8} : (keptV k).set j (.str s) = keptV (k.set j s) := by simp [keptV, List.map_set]
theorem ia_sl2 {i : Id} {g n j : Nat} {lim : Option Nat} (h : j < n) : iaR 2 (.sl i g 0 n 2 lim) (.int .i64 (j : Int)) = pureO (.ptr i g (0 + j * 2)) := by
  simp [iaR, h]
theorem app_kept {H : Heap} {gg : Nat} {kept : List (List UInt8)} (h6 : H (.own 6) = some ⟨gg, [], false, true⟩) (h1 : H (.arg 1) = some ⟨0, keptV kept, false, true⟩) (hl : 1 ≤ kept.length) (hl2 : kept.length ≤ 64) : evAppend Try.prog H 11 38 38 (.sl (.own 6) gg 0 0 1 (some 0)) (.sl (.arg 1) 0 0 kept.length 1 none) =
    some ⟨.sl (.own 11) (nextGen H (.own 11)) 0 kept.length 1 none, [(.own 11, ⟨nextGen H (.own 11), keptV kept, false, true⟩)], [.own 6, .own 11, .arg 1]⟩ := by
  have l6 : live H (.own 6) gg = some ⟨gg, [], false, true⟩ := by simp [live, h6]
  have l1 : live H (.arg 1) 0 = some ⟨0, keptV kept, false, true⟩ := by simp [live, h1]
  have ca : cut (keptV kept) 0 (kept.length * 1) = some (keptV kept) := by rw [Nat.mul_one, ← keptV_len]; exact cut_all _
  have hs : appSrc Try.prog H 1 [.str []] 38 (.sl (.arg 1) 0 0 kept.length 1 none) = some (keptV kept, kept.length, true, [.arg 1]) := by
    simp only [appSrc, u38s, src, l1, ca, if_true]
  have c1 : kept.length * 16 ≤ lim47 := by unfold lim47; omega
  have c2 : ¬ kept = [] := fun e => by rw [e] at hl; simp at hl
  unfold evAppend
  simp only [u38s, sz9, by9, z9, hs, l6]
  simp [c1, c2, cut]
structure LI (H : Heap) (bn : Option (Id × Nat)) (gg : Nat) (r : RD) : Prop where
  h : RF H (.arg 0) (.own 11) 0 gg (rInn bn) r
  h1 : ∃ b, H (.arg 1) = some b ∧ b.flat = true
set_option maxHeartbeats 4000000 in
theorem lasts_loop {bn : Option (Id × Nat)} {gg : Nat} {r : RD} {n : Nat} (hn : n ≤ r.queue.length) (hql : r.queue.length ≤ 1000000) (hk : ∀ x ∈ r.queue, x.1 < r.kept.length) {Q : KQ}
    (hx : ∀ (H' : Heap) t2 t3 t4 t5 t6 t7 t8 t9 t10 t11 t12 t13 t14 t15 t16 t17 t18 t19 t20 t21 t22 t23 t24 t25 t26 t27 t28 t29 t30 t31 t32 t33 t34 t35 t36 t37 t38 t39, LI H' bn gg (rlast r n) → Q (.exit 0) [.ptr (.arg 0) 0 0, .int .i64 (n : Int), t2, t3, t4, t5, t6, t7, t8, t9, t10, t11, t12, t13, t14, t15, t16, t17, t18, t19, t20, t21, t22, t23, t24, t25, t26, t27, t28, t29, t30, t31, t32, t33, t34, t35, t36, t37, t38, t39] H') :
    ∀ (m k : Nat), k + m = n → ∀ (H : Heap) t2 t3 t5 t6 t7 t8 t9 t10 t11 t12 t13 t14 t15 t16 t17 t18 t19 t20 t21 t22 t23 t24 t25 t26 t27 t28 t29 t30 t31 t32 t33 t34 t35 t36 t37 t38 t39, LI H bn gg (rlast r k) → LoopR dcfg c39_6 [.ptr (.arg 0) 0 0, .int .i64 (n : Int), t2, t3, .int .i64 (k : Int), t5, t6, t7, t8, t9, t10, t11, t12, t13, t14, t15, t16, t17, t18, t19, t20, t21, t22, t23, t24, t25, t26, t27, t28, t29, t30, t31, t32, t33, t34, t35, t36, t37, t38, t39] H Q := by
  intro m
  induction m with
  | zero =>
    intro k hkm H t2 t3 t5 t6 t7 t8 t9 t10 t11 t12 t13 t14 t15 t16 t17 t18 t19 t20 t21 t22 t23 t24 t25 t26 t27 t28 t29 t30 t31 t32 t33 t34 t35 t36 t37 t38 t39 hL
    have : k = n := by omega
    subst this
    refine LoopR.step ?_
    show wC Try.prog dcfg.pol (CallR dcfg) (LoopR dcfg) c39_6 _ H _
    simp only [w39_6, w39_7, w39_8, w39_8_0, w39_9, w39_10, w39_11, seqK]
    refine mk0 (.bool false) (by rw [bin_lss, decide_eq_false (by omega)]) ?_
    refine condF ?_
    exact hx H _ _ _ _ _ _ _ _ _ _ _ _ _ _ _ _ _ _ _ _ _ _ _ _ _ _ _ _ _ _ _ _ _ _ _ _ _ _ hL
  | succ m ih =>
    intro k hkm H t2 t3 t5 t6 t7 t8 t9 t10 t11 t12 t13 t14 t15 t16 t17 t18 t19 t20 t21 t22 t23 t24 t25 t26 t27 t28 t29 t30 t31 t32 t33 t34 t35 t36 t37 t38 t39 hL
    have hlt : k < r.queue.length := by omega
    obtain ⟨x, hqx⟩ : ∃ x, r.queue[k]? = some x := ⟨r.queue[k], by simp [hlt]⟩
    have hxk := hk x (List.mem_of_getElem? hqx)
    have hkl : (rlast r k).kept.length = r.kept.length := rlast_len
    obtain ⟨hb1, hb2⟩ | ⟨hb1, hb2⟩ := rinn_cases bn
    · have e : r.queue = [] := hL.h.hn hb1
      rw [e] at hlt; simp at hlt
    obtain ⟨hB, _, _⟩ := hL.h.hB (.arg 2) 0 hb1
    have hR : H (.arg 0) = some ⟨0, [.sl (.own 11) gg 0 (rlast r k).kept.length 1 none, .sl (.arg 2) 0 0 r.queue.length 2 none, .int .i64 r.trip, .int .i64 r.cap, .bool r.dark], false, false⟩ := by
      have := hL.h.hR
      rw [hb1] at this
      exact this
    obtain ⟨q0, q1⟩ := queueV_at r.queue hqx
    refine LoopR.step ?_
    show wC Try.prog dcfg.pol (CallR dcfg) (LoopR dcfg) c39_6 _ H _
    simp only [w39_6, w39_7, w39_8, w39_8_0, w39_9, w39_10, w39_11, w39_12, w39_13, w39_14, w39_14_0c, w39_14_0, w39_14_12, w39_15, w39_15_0, seqK, blockK, fa41_0, fa41_1, ld38, ld39, ia39, fa72_0, fa72_1, ld3b, ld9, ia38, st9]
    refine mk0 (.bool true) (by rw [bin_lss, decide_eq_true (by omega)]) ?_
    refine condT ?_
    refine mkL0 (.ptr (.arg 0) 0 0) [] (by rfl) ?_
    refine mkL0 (.ptr (.arg 0) 0 0) [] (by rfl) ?_
    refine mkL0 (.ptr (.arg 0) 0 (0 + 0)) [] (by rfl) ?_
    refine mkL (.sl (.own 11) gg 0 (rlast r k).kept.length 1 none) [] [.arg 0] (ld_cell (j := 0 + 0) hR (by rfl)) ?_
    refine mkL0 (.ptr (.arg 0) 0 0) [] (by rfl) ?_
    refine mkL0 (.ptr (.arg 0) 0 0) [] (by rfl) ?_
    refine mkL0 (.ptr (.arg 0) 0 (0 + 1)) [] (by rfl) ?_
    simp only [sets_nilE]
    refine mkL (.sl (.arg 2) 0 0 r.queue.length 2 none) [] [.arg 0] (ld_cell (j := 0 + 1) hR (by rfl)) ?_
    refine mkL0 (.int .i64 (k : Int)) [] (by rfl) ?_
    refine mkL0 (.ptr (.arg 2) 0 (0 + k * 2)) [] (ia_sl2 hlt) ?_
    refine mkL0 (.ptr (.arg 2) 0 (0 + k * 2 + 0)) [] (by rfl) ?_
    simp only [sets_nilE]
    refine mkL (.int .i64 (x.1 : Int)) [] [.arg 2] (ld_cell (j := 0 + k * 2 + 0) hB (by rw [Nat.zero_add]; exact q0)) ?_
    refine mkL0 (.ptr (.arg 0) 0 0) [] (by rfl) ?_
    refine mkL0 (.ptr (.arg 0) 0 0) [] (by rfl) ?_
    refine mkL0 (.ptr (.arg 0) 0 (0 + 1)) [] (by rfl) ?_
    simp only [sets_nilE]
    refine mkL (.sl (.arg 2) 0 0 r.queue.length 2 none) [] [.arg 0] (ld_cell (j := 0 + 1) hR (by rfl)) ?_
    refine mkL0 (.int .i64 (k : Int)) [] (by rfl) ?_
    refine mkL0 (.ptr (.arg 2) 0 (0 + k * 2)) [] (ia_sl2 hlt) ?_
    refine mkL0 (.ptr (.arg 2) 0 (0 + k * 2 + 1)) [] (by rfl) ?_
    simp only [sets_nilE]
    refine mkL (.str x.2) [] [.arg 2] (ld_cell (j := 0 + k * 2 + 1) hB (by rw [Nat.zero_add]; exact q1)) ?_
    refine mkL0 (.ptr (.own 11) gg (0 + x.1 * 1)) [] (ia_sl (by rw [hkl]; exact hxk)) ?_
    simp only [sets_nilE]
    refine mkL .und [(.own 11, ⟨gg, (keptV (rlast r k).kept).set x.1 (.str x.2), false, true⟩)] [.own 11] (st_cell hL.h.hA (by rw [keptV_len, hkl]; exact hxk)) ?_
    refine ⟨by kernel_rfl, ?_⟩
    rw [keptV_set]
    refine mk0 _ (bin_add (by omega) (by omega)) ?_
    refine ih (k + 1) (by omega) _ _ _ _ _ _ _ _ _ _ _ _ _ _ _ _ _ _ _ _ _ _ _ _ _ _ _ _ _ _ _ _ _ _ _ _ _ _ ?_
    rw [rlast_succ hqx]
    obtain ⟨b, hb, hf⟩ := hL.h1
    refine ⟨⟨?_, by simp [Heap.sets, Heap.set], fun B gb ee => ?_, hL.h.hn, by simp⟩, ⟨b, by simp [Heap.sets, Heap.set]; exact hb, hf⟩⟩
    · have := hL.h.hR
      simp only [Heap.sets, Heap.set, rcells, List.length_set] at this ⊢
      rw [if_neg (by simp)]
      exact this
    · obtain ⟨z1, z2, z3⟩ := hL.h.hB B gb ee
      refine ⟨?_, z2, z3⟩
      simp only [Heap.sets, Heap.set]
      rw [if_neg z3]
      exact z1
set_option maxHeartbeats 4000000 in
/-- lasts -/
theorem lasts_spec {H : Heap} {bn : Option (Id × Nat)} {r : RD} (h : RI H bn r) {n : Nat} (hn : n ≤ r.queue.length) (hql : r.queue.length ≤ 1000000) (hk : ∀ x ∈ r.queue, x.1 < r.kept.length) (hl : 1 ≤ r.kept.length) (hl2 : r.kept.length ≤ 64) {Q : V → Heap → Prop} (hQ : ∀ H' kg, RO H' bn (some (.own 11, kg)) none (rlast r n) → Q (.tup []) H') : CallR dcfg 39 [.ptr (.arg 0) 0 0, .int .i64 (n : Int)] H Q := by
  refine CallR.body' (K := dcfg) (f := 39) (fn := Try.f39) (c := c39_0) (env := [.ptr (.arg 0) 0 0, .int .i64 (n : Int), .und, .und, .und, .und, .und, .und, .und, .und, .und, .und, .und, .und, .und, .und, .und, .und, .und, .und, .und, .und, .und, .und, .und, .und, .und, .und, .und, .und, .und, .und, .und, .und, .und, .und, .und, .und, .und, .und]) (rs := []) rfl (by kernel_rfl) (by kernel_rfl) (by kernel_rfl) (by kernel_rfl) (by kernel_rfl) (by kernel_rfl) ?_
  show wC Try.prog dcfg.pol (CallR dcfg) (LoopR dcfg) c39_0 _ _ (wRes Try.prog _ _)
  simp only [w39_0, w39_1, w39_1_0, w39_2, w39_3, w39_3_0, w39_4, w39_5, seqK, fa41_0, ld38, st38]
  refine mk (.sl (.own 6) (nextGen H (.own 6)) 0 0 1 (some 0)) [(.own 6, ⟨nextGen H (.own 6), [], false, true⟩)] [.own 6] (by kernel_rfl) ?_
  generalize nextGen H (.own 6) = g6
  have a6 : (Heap.sets H [(.own 6, ⟨g6, [], false, true⟩)]) (.own 6) = some ⟨g6, [], false, true⟩ := by simp [Heap.sets, Heap.set]
  have acc_own : ∀ i ∈ accOf (.arg 0) (.arg 1) (rInn bn), i ≠ .own 6 ∧ i ≠ .own 11 := by
    intro i hi
    cases bn with
    | none =>
      simp only [accOf, rInn, List.mem_cons, List.not_mem_nil, or_false] at hi
      rcases hi with rfl | rfl <;> simp
    | some q =>
      simp only [accOf, rInn, List.mem_cons, List.not_mem_nil, or_false] at hi
      rcases hi with rfl | rfl | rfl <;> simp
  have h1 : RI (Heap.sets H [(.own 6, ⟨g6, [], false, true⟩)]) bn r := h.other (fun i hi => by simp [Heap.sets, Heap.set, (acc_own i hi).1])
  generalize Heap.sets H [(.own 6, ⟨g6, [], false, true⟩)] = H1 at a6 h1 ⊢
  refine mk0 (.ptr (.arg 0) 0 0) (by rfl) ?_
  refine mk0 (.ptr (.arg 0) 0 (0 + 0)) (by rfl) ?_
  refine mk (.sl (.arg 1) 0 0 r.kept.length 1 none) [] [.arg 0] (ld_cell (j := 0 + 0) h1.hR (by rfl)) ?_
  simp only [sets_nilE]
  refine mk _ _ _ (app_kept a6 h1.hA hl hl2) ?_
  generalize nextGen H1 (.own 11) = gg
  have h2 : RI (Heap.sets H1 [(.own 11, ⟨gg, keptV r.kept, false, true⟩)]) bn r := h1.other (fun i hi => by simp [Heap.sets, Heap.set, (acc_own i hi).2])
  have a11 : (Heap.sets H1 [(.own 11, ⟨gg, keptV r.kept, false, true⟩)]) (.own 11) = some ⟨gg, keptV r.kept, false, true⟩ := by simp [Heap.sets, Heap.set]
  generalize Heap.sets H1 [(.own 11, ⟨gg, keptV r.kept, false, true⟩)] = H2 at h2 a11 ⊢
  refine mk0 (.ptr (.arg 0) 0 0) (by rfl) ?_
  refine mk0 (.ptr (.arg 0) 0 (0 + 0)) (by rfl) ?_
  refine mk _ _ _ (st_fld (k := 0) (v := .sl (.own 11) gg 0 r.kept.length 1 none) h2.hR (show 0 < 5 by decide) rfl rfl) ?_
  have hL : LI (Heap.sets H2 [(.arg 0, ⟨0, (rcells (.arg 1) 0 (rInn bn) r).set 0 (.sl (.own 11) gg 0 r.kept.length 1 none), false, false⟩)]) bn gg (rlast r 0) := by
    refine ⟨⟨by simp [Heap.sets, Heap.set, rcells, rlast], by simp [Heap.sets, Heap.set, rlast]; exact a11, fun B gb e => ?_, h2.hn, by simp⟩, ⟨_, by simp [Heap.sets, Heap.set]; exact h2.hA, rfl⟩⟩
    obtain ⟨z1, z2, z3⟩ := h2.hB B gb e
    refine ⟨?_, z2, fun hz => ?_⟩
    · simp only [Heap.sets, Heap.set]
      rw [if_neg z2]
      exact z1
    · subst hz
      obtain ⟨hb1, _⟩ | ⟨hb1, _⟩ := rinn_cases bn <;> rw [hb1] at e <;> simp at e
  generalize Heap.sets H2 [(.arg 0, ⟨0, (rcells (.arg 1) 0 (rInn bn) r).set 0 (.sl (.own 11) gg 0 r.kept.length 1 none), false, false⟩)] = H3 at hL ⊢
  refine lasts_loop (k := 0) (m := n) hn hql hk (fun H4 t2 t3 t4 t5 t6 t7 t8 t9 t10 t11 t12 t13 t14 t15 t16 t17 t18 t19 t20 t21 t22 t23 t24 t25 t26 t27 t28 t29 t30 t31 t32 t33 t34 t35 t36 t37 t38 t39 hL4 => ?_) (by omega) H3 _ _ _ _ _ _ _ _ _ _ _ _ _ _ _ _ _ _ _ _ _ _ _ _ _ _ _ _ _ _ _ _ _ _ _ _ _ hL
  simp only [blockK, if_true]
  have hR : RO H4 bn (some (.own 11, gg)) none (rlast r n) := by
    refine ⟨hL4.h, hL4.h1, fun hb => ?_⟩
    obtain ⟨_, hb2⟩ | ⟨hb1, _⟩ := rinn_cases bn
    · exact absurd hb2 hb
    · exact ⟨_, (hL4.h.hB (.arg 2) 0 hb1).1, rfl⟩
  exact hQ H4 gg hR
end Go.Proofs.Ytcamcfplcoklkaa.Iv
