import Derived.Test.YtcamcfplcoklkaaM13
namespace Go.Proofs.Ytcamcfplcoklkaa.Iv
open Go
set_option linter.unusedVariables false
set_option linter.unusedSimpArgs false
set_option maxRecDepth 100000
section
variable {H H' : Heap} {D K : Id} {gd gk : Nat} {l b l2 b2 : Int} {g g2 : Bool} {kc kc2 : List V} {items items2 : List (Nat × List Int)} {d f : Nat} {r : V} {as0 : List V} {rd : List Id}
/-- the queue stays, or grows -/
theorem post_sg {Q : Id} {gq go : Nat} (h : DFr H D K gd gk (some (Q, gq)) l g b kc items) (o : DOut H' 3 (some (.arg 2, go)) l2 g2 b2 kc2 items2) {q : V} {qb : Option Blk}
    (hret : retIn (dcfg.pol f).own H' r = some (r, [])) (hrr : refs r = []) (hk : outKept r = true) :
    callPost dcfg.pol H d f ⟨as0, WH l g b kc q qb, [D, K, Q], [], rd⟩ r H' = some ⟨r, [(D, ⟨gd, [.int .i64 l2, .bool g2, .int .i64 b2, .sl K gk 0 kc2.length 1 none, .sl Q (gq + go) 0 items2.length 2 none], false, false⟩), (K, ⟨gk, kc2, false, true⟩), (Q, ⟨gq + go, qcells items2, false, true⟩)],
      rd ++ [D, K, Q] ++ [Id.arg 0, Id.arg 1, Id.arg 2].map (newName d [D, K, Q])⟩ := by
  have oq := o.hq _ _ rfl
  obtain ⟨q1, q2, q3⟩ := h.hQ Q gq rfl
  have l0 : live H' (.arg 0) 0 = some ⟨0, [.int .i64 l2, .bool g2, .int .i64 b2, .sl (.arg 1) 0 0 kc2.length 1 none, .sl (.arg 2) go 0 items2.length 2 none], false, false⟩ := by simp [live, o.h0, dq]
  have l1 : live H' (.arg 1) 0 = some ⟨0, kc2, false, true⟩ := by simp [live, o.h1]
  have l2' : live H' (.arg 2) go = some ⟨go, qcells items2, false, true⟩ := by simp [live, oq]
  have hr' : ∀ fn, ren fn r = r := fun fn => ren_norefs _ _ hrr
  have a0 := o.h0
  have a1 := o.h1
  have c : collect H' 200 [(.arg 0, 0), (.arg 1, 0), (.arg 2, go)] [] = some [.arg 0, .arg 1, .arg 2] := by simp [collect, l0, l1, l2', refsL, refs]
  unfold callPost
  rw [hret]
  simp [Heap.sets, hrr, argIds, a0, a1, oq, c, backUps, backName, h.hD, h.hK, q1, V.kept, V.kept0, renL, ren, backRen, renIfV, hr', hk, freshSubs, dq]
/-- the queue is emptied -/
theorem post_sn {Q : Id} {gq : Nat} (h : DFr H D K gd gk (some (Q, gq)) l g b kc items) (o : DOut H' 3 none l2 g2 b2 kc2 []) {bb : Blk} (hbb : H' (.arg 2) = some bb) (hfl : bb.flat = true) {q : V} {qb : Option Blk}
    (hret : retIn (dcfg.pol f).own H' r = some (r, [])) (hrr : refs r = []) (hk : outKept r = true) :
    callPost dcfg.pol H d f ⟨as0, WH l g b kc q qb, [D, K, Q], [], rd⟩ r H' = some ⟨r, [(D, ⟨gd, [.int .i64 l2, .bool g2, .int .i64 b2, .sl K gk 0 kc2.length 1 none, .nils], false, false⟩), (K, ⟨gk, kc2, false, true⟩), (Q, ⟨gq + bb.gen, bb.cells, bb.frz, true⟩)],
      rd ++ [D, K, Q] ++ [Id.arg 0, Id.arg 1, Id.arg 2].map (newName d [D, K, Q])⟩ := by
  obtain ⟨q1, q2, q3⟩ := h.hQ Q gq rfl
  have l0 : live H' (.arg 0) 0 = some ⟨0, [.int .i64 l2, .bool g2, .int .i64 b2, .sl (.arg 1) 0 0 kc2.length 1 none, .nils], false, false⟩ := by simp [live, o.h0, dq]
  have l1 : live H' (.arg 1) 0 = some ⟨0, kc2, false, true⟩ := by simp [live, o.h1]
  have l2' : live H' (.arg 2) bb.gen = some bb := by simp [live, hbb]
  have hr' : ∀ fn, ren fn r = r := fun fn => ren_norefs _ _ hrr
  have a0 := o.h0
  have a1 := o.h1
  have c : collect H' 200 [(.arg 0, 0), (.arg 1, 0), (.arg 2, bb.gen)] [] = some [.arg 0, .arg 1, .arg 2] := by simp [collect, l0, l1, l2', refsL, refs, hfl]
  unfold callPost
  rw [hret]
  simp [Heap.sets, hrr, argIds, a0, a1, hbb, c, backUps, backName, h.hD, h.hK, q1, V.kept, V.kept0, renL, ren, backRen, renIfV, hr', hk, freshSubs, dq, hfl]
/-- the queue is made -/
theorem post_nw {nm : Id} {go : Nat} (hnm : ∀ j, nm ≠ .arg j) (hal : nm.alt = false) (h : DFr H D K gd gk none l g b kc items) (o : DOut H' 2 (some (nm, go)) l2 g2 b2 kc2 items2) {q : V} {qb : Option Blk}
    (hret : retIn (dcfg.pol f).own H' r = some (r, [])) (hrr : refs r = []) (hk : outKept r = true) (hnd : Id.sub d nm ≠ D ∧ Id.sub d nm ≠ K) :
    callPost dcfg.pol H d f ⟨as0, WH l g b kc q qb, [D, K], [], rd⟩ r H' = some ⟨r, [(D, ⟨gd, [.int .i64 l2, .bool g2, .int .i64 b2, .sl K gk 0 kc2.length 1 none, .sl (.sub d nm) (nextGen H (.sub d nm) + go) 0 items2.length 2 none], false, false⟩), (K, ⟨gk, kc2, false, true⟩), (.sub d nm, ⟨nextGen H (.sub d nm) + go, qcells items2, false, true⟩)],
      rd ++ [D, K] ++ [Id.arg 0, Id.arg 1, nm].map (newName d [D, K])⟩ := by
  have oq := o.hq _ _ rfl
  have n0 := hnm 0
  have n1 := hnm 1
  have hnw : newName d [D, K] nm = .sub d nm := by
    unfold newName
    rw [if_neg]
    simp [hnd.1, hnd.2]
  have l0 : live H' (.arg 0) 0 = some ⟨0, [.int .i64 l2, .bool g2, .int .i64 b2, .sl (.arg 1) 0 0 kc2.length 1 none, .sl nm go 0 items2.length 2 none], false, false⟩ := by simp [live, o.h0, dq]
  have l1 : live H' (.arg 1) 0 = some ⟨0, kc2, false, true⟩ := by simp [live, o.h1]
  have l2' : live H' nm go = some ⟨go, qcells items2, false, true⟩ := by simp [live, oq]
  have hr' : ∀ fn, ren fn r = r := fun fn => ren_norefs _ _ hrr
  have a0 := o.h0
  have a1 := o.h1
  have c : collect H' 200 [(.arg 0, 0), (.arg 1, 0)] [] = some [.arg 0, .arg 1, nm] := by simp [collect, l0, l1, l2', refsL, refs, n0, n1]
  unfold callPost
  rw [hret]
  cases nm with
  | arg j => exact absurd rfl (hnm j)
  | own j => simp [Heap.sets, hrr, argIds, a0, a1, oq, c, backUps, backName, h.hD, h.hK, V.kept, V.kept0, renL, ren, backRen, renIfV, hr', hk, freshSubs, dq, hnw, hal, hnd, Ne.symm hnd.1, Ne.symm hnd.2]
  | sub j i => simp [Heap.sets, hrr, argIds, a0, a1, oq, c, backUps, backName, h.hD, h.hK, V.kept, V.kept0, renL, ren, backRen, renIfV, hr', hk, freshSubs, dq, hnw, hal, hnd, Ne.symm hnd.1, Ne.symm hnd.2]
end
end Go.Proofs.Ytcamcfplcoklkaa.Iv

namespace Go.Proofs.Ytcamcfplcoklkaa.Iv
open Go
set_option linter.unusedVariables false
set_option linter.unusedSimpArgs false
set_option maxRecDepth 100000
/-- what comes back: a disk in the frame; all else stays -/
def Back (H : Heap) (D K : Id) (gd gk : Nat) (qn : Option (Id × Nat)) (l : Int) (g : Bool) (b : Int) (kc : List V) (items : List (Nat × List Int)) (touch : List Id) (us : List (Id × Blk)) : Prop :=
  DFr (H.sets us) D K gd gk qn l g b kc items ∧ (∀ i, i ∉ touch → (H.sets us) i = H i) ∧ ∀ i ∈ touch, i ≠ D → ∃ bb, (H.sets us) i = some bb ∧ bb.flat = true
theorem back2 {H : Heap} {D K : Id} {gd gk : Nat} {l b : Int} {g : Bool} {kc : List V} (dk : D ≠ K) :
    Back H D K gd gk none l g b kc [] [D, K] [(D, ⟨gd, [.int .i64 l, .bool g, .int .i64 b, .sl K gk 0 kc.length 1 none, .nils], false, false⟩), (K, ⟨gk, kc, false, true⟩)] :=
  ⟨⟨by simp [Heap.sets, Heap.set, dk, dq], by simp [Heap.sets, Heap.set], fun Q gq e => (by cases e), fun _ => rfl, dk⟩, fun i hi => (by
    simp only [List.mem_cons, List.not_mem_nil, or_false, not_or] at hi
    simp [Heap.sets, Heap.set, hi.1, hi.2]), fun i hi hd => by
    simp only [List.mem_cons, List.not_mem_nil, or_false] at hi
    rcases hi with rfl | rfl
    · exact absurd rfl hd
    · exact ⟨⟨gk, kc, false, true⟩, by simp [Heap.sets, Heap.set], rfl⟩⟩
theorem back3 {H : Heap} {D K Q : Id} {gd gk gq : Nat} {l b : Int} {g : Bool} {kc : List V} {items : List (Nat × List Int)} (dk : D ≠ K) (qd : Q ≠ D) (qk : Q ≠ K) :
    Back H D K gd gk (some (Q, gq)) l g b kc items [D, K, Q] [(D, ⟨gd, [.int .i64 l, .bool g, .int .i64 b, .sl K gk 0 kc.length 1 none, .sl Q gq 0 items.length 2 none], false, false⟩), (K, ⟨gk, kc, false, true⟩), (Q, ⟨gq, qcells items, false, true⟩)] :=
  ⟨⟨by simp [Heap.sets, Heap.set, dk, dq, Ne.symm qd], by simp [Heap.sets, Heap.set, Ne.symm qk], fun Q' gq' e => by cases e; exact ⟨by simp [Heap.sets, Heap.set], qd, qk⟩, fun e => (by cases e), dk⟩, fun i hi => (by
    simp only [List.mem_cons, List.not_mem_nil, or_false, not_or] at hi
    simp [Heap.sets, Heap.set, hi.1, hi.2.1, hi.2.2]), fun i hi hd => by
    simp only [List.mem_cons, List.not_mem_nil, or_false] at hi
    rcases hi with rfl | rfl | rfl
    · exact absurd rfl hd
    · exact ⟨⟨gk, kc, false, true⟩, by simp [Heap.sets, Heap.set, Ne.symm qk], rfl⟩
    · exact ⟨⟨gq, qcells items, false, true⟩, by simp [Heap.sets, Heap.set], rfl⟩⟩
theorem back3n {H : Heap} {D K Q : Id} {gd gk : Nat} {l b : Int} {g : Bool} {kc : List V} {x : Blk} (hx : x.flat = true) (dk : D ≠ K) (qd : Q ≠ D) (qk : Q ≠ K) :
    Back H D K gd gk none l g b kc [] [D, K, Q] [(D, ⟨gd, [.int .i64 l, .bool g, .int .i64 b, .sl K gk 0 kc.length 1 none, .nils], false, false⟩), (K, ⟨gk, kc, false, true⟩), (Q, x)] :=
  ⟨⟨by simp [Heap.sets, Heap.set, dk, dq, Ne.symm qd], by simp [Heap.sets, Heap.set, Ne.symm qk], fun Q gq e => (by cases e), fun _ => rfl, dk⟩, fun i hi => (by
    simp only [List.mem_cons, List.not_mem_nil, or_false, not_or] at hi
    simp [Heap.sets, Heap.set, hi.1, hi.2.1, hi.2.2]), fun i hi hd => by
    simp only [List.mem_cons, List.not_mem_nil, or_false] at hi
    rcases hi with rfl | rfl | rfl
    · exact absurd rfl hd
    · exact ⟨⟨gk, kc, false, true⟩, by simp [Heap.sets, Heap.set, Ne.symm qk], rfl⟩
    · exact ⟨x, by simp [Heap.sets, Heap.set], hx⟩⟩

theorem dout2 {l b : Int} {g : Bool} {kc : List V} : DOut (WH l g b kc .nils none) 2 none l g b kc [] :=
  ⟨rfl, rfl, fun Q gq e => (by cases e), fun _ => rfl⟩
theorem dout3 {l b : Int} {g : Bool} {kc : List V} {items : List (Nat × List Int)} : DOut (WH l g b kc (.sl (.arg 2) 0 0 items.length 2 none) (some ⟨0, qcells items, false, true⟩)) 3 (some (.arg 2, 0)) l g b kc items :=
  ⟨rfl, rfl, fun Q gq e => (by cases e; rfl), fun e => (by cases e)⟩
theorem dout3n {l b : Int} {g : Bool} {kc : List V} {qb : Option Blk} : DOut (WH l g b kc .nils qb) 3 none l g b kc [] :=
  ⟨rfl, rfl, fun Q gq e => (by cases e), fun _ => rfl⟩
/-- Trip, at a frame -/
theorem trip_call {H : Heap} {D K : Id} {gd gk : Nat} {qn : Option (Id × Nat)} {l b : Int} {g : Bool} {kc : List V} {items : List (Nat × List Int)} (h : DFr H D K gd gk qn l g b kc items) {d : Nat} {n : Int} {Q : Out → Prop}
    (hQ : ∀ us rd, Back H D K gd gk qn (if secOf kc > 0 then maxm n else l) g b kc items (accOf D K qn) us → Q ⟨.tup [], us, rd⟩) : wCall dcfg.pol (CallR dcfg) H d 24 [.ptr D gd 0, .int .i64 n] Q := by
  have hm : (dcfg.pol 24).modes = [.byref] := by kernel_rfl
  have ho : (dcfg.pol 24).own = false := by kernel_rfl
  have hret : ∀ H' : Heap, retIn (dcfg.pol 24).own H' (.tup []) = some (.tup [], []) := fun H' => by rw [ho]; rfl
  unfold wCall
  rw [pre_d h (f := 24) (args := [.ptr D gd 0, .int .i64 n]) (rest := [.int .i64 n]) (rd := []) (by rw [hm]; rfl) rfl (fun i _ hi => by cases hi)]
  have fin : ∀ l2, CallR dcfg 24 [.ptr (.arg 0) 0 0, .int .i64 n] (WH l g b kc (qIn qn items) (qbIn qn items)) (fun r H' => r = .tup [] ∧ H' = WH l2 g b kc (qIn qn items) (qbIn qn items)) → l2 = (if secOf kc > 0 then maxm n else l) →
      CallR dcfg 24 [.ptr (.arg 0) 0 0, .int .i64 n] (WH l g b kc (qIn qn items) (qbIn qn items)) (fun r H' => outW (callPost dcfg.pol H d 24 ⟨[.ptr (.arg 0) 0 0, .int .i64 n], WH l g b kc (qIn qn items) (qbIn qn items), accOf D K qn, [], []⟩ r H') Q) := by
    intro l2 hc hl
    refine hc.mono (fun r H' hh => ?_)
    obtain ⟨rfl, rfl⟩ := hh
    subst hl
    cases qn with
    | none =>
      have hi := h.hn rfl; subst hi
      rw [show accOf D K none = [D, K] from rfl]
      simp only [qIn, qbIn]
      rw [post_nn h dout2 (hret _) rfl rfl]
      exact hQ _ _ (back2 h.dk)
    | some p =>
      obtain ⟨Qn, gq⟩ := p
      obtain ⟨q1, q2, q3⟩ := h.hQ Qn gq rfl
      rw [show accOf D K (some (Qn, gq)) = [D, K, Qn] from rfl]
      simp only [qIn, qbIn]
      rw [post_sg h dout3 (hret _) rfl rfl]
      exact hQ _ _ (back3 h.dk q2 q3)
  by_cases hz : secOf kc > 0
  · exact fin (maxm n) (trip_spec h.qi (fun _ => ⟨rfl, rfl⟩) (fun e => absurd hz e)) (by rw [if_pos hz])
  · exact fin l (trip_spec h.qi (fun e => absurd e hz) (fun _ => ⟨rfl, rfl⟩)) (by rw [if_neg hz])
end Go.Proofs.Ytcamcfplcoklkaa.Iv

namespace Go.Proofs.Ytcamcfplcoklkaa.Iv
open Go
set_option linter.unusedVariables false
set_option linter.unusedSimpArgs false
set_option maxRecDepth 100000
/-- Cap, at a frame -/
theorem cap_call {H : Heap} {D K : Id} {gd gk : Nat} {qn : Option (Id × Nat)} {l b : Int} {g : Bool} {kc : List V} {items : List (Nat × List Int)} (h : DFr H D K gd gk qn l g b kc items) {d : Nat} {n : Int} {Q : Out → Prop}
    (hQ : ∀ us rd, Back H D K gd gk qn l g (if secOf kc > 0 then maxm n else b) kc items (accOf D K qn) us → Q ⟨.tup [], us, rd⟩) : wCall dcfg.pol (CallR dcfg) H d 25 [.ptr D gd 0, .int .i64 n] Q := by
  have hm : (dcfg.pol 25).modes = [.byref] := by kernel_rfl
  have ho : (dcfg.pol 25).own = false := by kernel_rfl
  have hret : ∀ H' : Heap, retIn (dcfg.pol 25).own H' (.tup []) = some (.tup [], []) := fun H' => by rw [ho]; rfl
  unfold wCall
  rw [pre_d h (f := 25) (args := [.ptr D gd 0, .int .i64 n]) (rest := [.int .i64 n]) (rd := []) (by rw [hm]; rfl) rfl (fun i _ hi => by cases hi)]
  have fin : ∀ l2 : Int, CallR dcfg 25 [.ptr (.arg 0) 0 0, .int .i64 n] (WH l g b kc (qIn qn items) (qbIn qn items)) (fun r H' => r = .tup [] ∧ H' = WH l g l2 kc (qIn qn items) (qbIn qn items)) → l2 = (if secOf kc > 0 then maxm n else b) →
      CallR dcfg 25 [.ptr (.arg 0) 0 0, .int .i64 n] (WH l g b kc (qIn qn items) (qbIn qn items)) (fun r H' => outW (callPost dcfg.pol H d 25 ⟨[.ptr (.arg 0) 0 0, .int .i64 n], WH l g b kc (qIn qn items) (qbIn qn items), accOf D K qn, [], []⟩ r H') Q) := by
    intro l2 hc hl
    refine hc.mono (fun r H' hh => ?_)
    obtain ⟨rfl, rfl⟩ := hh
    subst hl
    cases qn with
    | none =>
      have hi := h.hn rfl; subst hi
      rw [show accOf D K none = [D, K] from rfl]
      simp only [qIn, qbIn]
      rw [post_nn h dout2 (hret _) rfl rfl]
      exact hQ _ _ (back2 h.dk)
    | some p =>
      obtain ⟨Qn, gq⟩ := p
      obtain ⟨q1, q2, q3⟩ := h.hQ Qn gq rfl
      rw [show accOf D K (some (Qn, gq)) = [D, K, Qn] from rfl]
      simp only [qIn, qbIn]
      rw [post_sg h dout3 (hret _) rfl rfl]
      exact hQ _ _ (back3 h.dk q2 q3)
  by_cases hz : secOf kc > 0
  · exact fin (maxm n) (cap_spec h.qi (fun _ => ⟨rfl, rfl⟩) (fun e => absurd hz e)) (by rw [if_pos hz])
  · exact fin b (cap_spec h.qi (fun e => absurd e hz) (fun _ => ⟨rfl, rfl⟩)) (by rw [if_neg hz])

/-- Sync: what it answers, and the disk behind it -/
def syncE (l : Int) (g : Bool) (kc : List V) : Int := if secOf kc = 0 then 1 else if (g || (l == 0)) = true then 11 else 0
theorem sync_call {H : Heap} {D K : Id} {gd gk : Nat} {qn : Option (Id × Nat)} {l b : Int} {g : Bool} {kc : List V} {items : List (Nat × List Int)} (h : DFr H D K gd gk qn l g b kc items) (hn2 : items.length < 1000000) (hN : kc.length < 1152921504606846976) (hit : ∀ x ∈ items, (x.1 + 1) * 64 ≤ kc.length ∧ x.2.length ≤ 64) {d : Nat} {Q : Out → Prop}
    (h1 : secOf kc = 0 → ∀ us rd, Back H D K gd gk qn l g b kc items (accOf D K qn) us → Q ⟨.int .i64 1, us, rd⟩)
    (h11 : secOf kc ≠ 0 → (g || (l == 0)) = true → ∀ us rd, Back H D K gd gk qn (left' l) true b kc items (accOf D K qn) us → Q ⟨.int .i64 11, us, rd⟩)
    (h0 : secOf kc ≠ 0 → (g || (l == 0)) = false → ∀ us rd, Back H D K gd gk none (left' l) false b (settled kc items) [] (accOf D K qn) us → Q ⟨.int .i64 0, us, rd⟩) : wCall dcfg.pol (CallR dcfg) H d 19 [.ptr D gd 0] Q := by
  have hm : (dcfg.pol 19).modes = [.byref] := by kernel_rfl
  have ho : (dcfg.pol 19).own = false := by kernel_rfl
  have hret : ∀ (H' : Heap) (e : Int), retIn (dcfg.pol 19).own H' (.int .i64 e) = some (.int .i64 e, []) := fun H' e => by rw [ho]; rfl
  unfold wCall
  rw [pre_d h (f := 19) (args := [.ptr D gd 0]) (rest := []) (rd := []) (by rw [hm]; rfl) rfl (fun i _ hi => by cases hi)]
  have hs : settled kc [] = kc := rfl
  cases qn with
  | none =>
    have hi := h.hn rfl; subst hi
    rw [show accOf D K none = [D, K] from rfl] at h1 h11 h0 ⊢
    simp only [qIn, qbIn]
    refine sync_spec QI.nil hn2 hN hit (fun hz => ?_) (fun hz hg => ?_) (fun hz hg => ?_)
    · show outW (callPost dcfg.pol H d 19 _ _ _) Q
      rw [post_nn h dout2 (hret _ _) rfl rfl]; exact h1 hz _ _ (back2 h.dk)
    · show outW (callPost dcfg.pol H d 19 _ _ _) Q
      rw [post_nn h dout2 (hret _ _) rfl rfl]; exact h11 hz hg _ _ (back2 h.dk)
    · show outW (callPost dcfg.pol H d 19 _ _ _) Q
      rw [post_nn h dout2 (hret _ _) rfl rfl]; exact h0 hz hg _ _ (back2 h.dk)
  | some p =>
    obtain ⟨Qn, gq⟩ := p
    obtain ⟨q1, q2, q3⟩ := h.hQ Qn gq rfl
    rw [show accOf D K (some (Qn, gq)) = [D, K, Qn] from rfl] at h1 h11 h0 ⊢
    simp only [qIn, qbIn]
    refine sync_spec (QI.sl items) hn2 hN hit (fun hz => ?_) (fun hz hg => ?_) (fun hz hg => ?_)
    · show outW (callPost dcfg.pol H d 19 _ _ _) Q
      rw [post_sg h dout3 (hret _ _) rfl rfl]; exact h1 hz _ _ (back3 h.dk q2 q3)
    · show outW (callPost dcfg.pol H d 19 _ _ _) Q
      rw [post_sg h dout3 (hret _ _) rfl rfl]; exact h11 hz hg _ _ (back3 h.dk q2 q3)
    · show outW (callPost dcfg.pol H d 19 _ _ _) Q
      rw [post_sn h dout3n rfl rfl (hret _ _) rfl rfl]; exact h0 hz hg _ _ (back3n rfl h.dk q2 q3)
end Go.Proofs.Ytcamcfplcoklkaa.Iv

namespace Go.Proofs.Ytcamcfplcoklkaa.Iv
open Go
set_option linter.unusedVariables false
set_option linter.unusedSimpArgs false
set_option maxRecDepth 100000
theorem dout_C2 {b : Int} {kc : List V} {H' : Heap} (h : afterC b kc none H') : DOut H' 2 none (-1) false b kc [] :=
  ⟨h.1, h.2.1, fun Q gq e => (by cases e), fun _ => rfl⟩
theorem dout_C3 {b : Int} {kc : List V} {H' : Heap} {bb : Blk} (h : afterC b kc (some bb) H') : DOut H' 3 none (-1) false b kc [] :=
  ⟨h.1, h.2.1, fun Q gq e => (by cases e), fun _ => rfl⟩
/-- Crash, at a frame -/
theorem crash_call {H : Heap} {D K : Id} {gd gk : Nat} {qn : Option (Id × Nat)} {l b keep torn : Int} {g : Bool} {kc : List V} {items : List (Nat × List Int)} (h : DFr H D K gd gk qn l g b kc items) (hn2 : items.length < 1000000) (hN : kc.length < 1152921504606846976) (hit : ∀ x ∈ items, (x.1 + 1) * 64 ≤ kc.length ∧ x.2.length = 64) {d : Nat} {Q : Out → Prop}
    (h1 : secOf kc = 0 → ∀ us rd, Back H D K gd gk qn l g b kc items (accOf D K qn) us → Q ⟨.tup [], us, rd⟩)
    (h0 : secOf kc ≠ 0 → ∀ us rd, Back H D K gd gk none (-1) false b (lastC kc items (min keep.toNat items.length) torn) [] (accOf D K qn) us → Q ⟨.tup [], us, rd⟩) : wCall dcfg.pol (CallR dcfg) H d 21 [.ptr D gd 0, .int .i64 keep, .int .i64 torn] Q := by
  have hm : (dcfg.pol 21).modes = [.byref] := by kernel_rfl
  have ho : (dcfg.pol 21).own = false := by kernel_rfl
  have hret : ∀ (H' : Heap), retIn (dcfg.pol 21).own H' (.tup []) = some (.tup [], []) := fun H' => by rw [ho]; rfl
  unfold wCall
  rw [pre_d h (f := 21) (args := [.ptr D gd 0, .int .i64 keep, .int .i64 torn]) (rest := [.int .i64 keep, .int .i64 torn]) (rd := []) (by rw [hm]; rfl) rfl (fun i _ hi => by cases hi)]
  cases qn with
  | none =>
    have hi := h.hn rfl; subst hi
    rw [show accOf D K none = [D, K] from rfl] at h1 h0 ⊢
    simp only [qIn, qbIn]
    refine crash_spec QI.nil hn2 hN hit (fun hz => ?_) (fun hz H' hA => ?_)
    · show outW (callPost dcfg.pol H d 21 _ _ _) Q
      rw [post_nn h dout2 (hret _) rfl rfl]; exact h1 hz _ _ (back2 h.dk)
    · show outW (callPost dcfg.pol H d 21 _ _ _) Q
      rw [post_nn h (dout_C2 hA) (hret _) rfl rfl]; exact h0 hz _ _ (back2 h.dk)
  | some p =>
    obtain ⟨Qn, gq⟩ := p
    obtain ⟨q1, q2, q3⟩ := h.hQ Qn gq rfl
    rw [show accOf D K (some (Qn, gq)) = [D, K, Qn] from rfl] at h1 h0 ⊢
    simp only [qIn, qbIn]
    refine crash_spec (QI.sl items) hn2 hN hit (fun hz => ?_) (fun hz H' hA => ?_)
    · show outW (callPost dcfg.pol H d 21 _ _ _) Q
      rw [post_sg h dout3 (hret _) rfl rfl]; exact h1 hz _ _ (back3 h.dk q2 q3)
    · show outW (callPost dcfg.pol H d 21 _ _ _) Q
      rw [post_sn h (dout_C3 hA) hA.2.2.1 rfl (hret _) rfl rfl]; exact h0 hz _ _ (back3n rfl h.dk q2 q3)
theorem qcells_app : ∀ (l : List (Nat × List Int)) (x : Nat × List Int), qcells l ++ [.int .i64 (x.1 : Int), .list (bytesL x.2) false] = qcells (l ++ [x])
  | [], x => rfl
  | y :: r, x => by simp only [qcells, List.cons_append, qcells_app r x]
/-- Write, at a frame -/
theorem write_call {H : Heap} {D K : Id} {gd gk : Nat} {qn : Option (Id × Nat)} {l b n : Int} {g : Bool} {kc : List V} {items : List (Nat × List Int)} (h : DFr H D K gd gk qn l g b kc items) (hn2 : items.length < 1000000) {d : Nat} (hnd : Id.sub d (.own 49) ≠ D ∧ Id.sub d (.own 49) ≠ K) {w : V} {bs : List Int} {rd : List Id}
    (ha : argsIn H (dcfg.pol 20).modes [.ptr D gd 0, .int .i64 n, w] = some ([.ptr D gd 0, .int .i64 n, .list (bytesL bs) true], [], rd)) (hrd : ∀ i ∈ accOf D K qn, i ∉ rd) {Q : Out → Prop}
    (h1 : ¬ ((0 ≤ n ∧ n < secOf kc) ∧ bs.length = 64) → ∀ us rd, Back H D K gd gk qn l g b kc items (accOf D K qn) us → Q ⟨.int .i64 1, us, rd⟩)
    (h11 : (0 ≤ n ∧ n < secOf kc) ∧ bs.length = 64 → (g || (l == 0)) = true → ∀ us rd, Back H D K gd gk qn (left' l) true b kc items (accOf D K qn) us → Q ⟨.int .i64 11, us, rd⟩)
    (h7 : (0 ≤ n ∧ n < secOf kc) ∧ bs.length = 64 → (g || (l == 0)) = false → 0 ≤ b ∧ b ≤ n → ∀ us rd, Back H D K gd gk qn (left' l) false b kc items (accOf D K qn) us → Q ⟨.int .i64 7, us, rd⟩)
    (h0 : (0 ≤ n ∧ n < secOf kc) ∧ bs.length = 64 → (g || (l == 0)) = false → ¬ (0 ≤ b ∧ b ≤ n) → ∀ qn' us rd, (∀ p, qn = some p → qn' = some (p.1, p.2 + 1)) → (qn = none → qn' = some (.sub d (.own 49), nextGen H (.sub d (.own 49)) + 0)) → Back H D K gd gk qn' (left' l) false b kc (items ++ [(n.toNat, bs)]) (accOf D K qn') us → Q ⟨.int .i64 0, us, rd⟩) :
    wCall dcfg.pol (CallR dcfg) H d 20 [.ptr D gd 0, .int .i64 n, w] Q := by
  have ho : (dcfg.pol 20).own = false := by kernel_rfl
  have hret : ∀ (H' : Heap) (e : Int), retIn (dcfg.pol 20).own H' (.int .i64 e) = some (.int .i64 e, []) := fun H' e => by rw [ho]; rfl
  unfold wCall
  rw [pre_d h (f := 20) (rest := [.int .i64 n, .list (bytesL bs) true]) ha rfl hrd]
  obtain ⟨qv, rq, hv⟩ := view_q (l := l) (b := b) (g := g) (kc := kc) h.qi
  cases qn with
  | none =>
    have hi := h.hn rfl; subst hi
    rw [show accOf D K none = [D, K] from rfl] at h1 h11 h7 ⊢
    simp only [qIn, qbIn] at hv ⊢
    refine write_spec .nil hv (fun m qc e => by cases e) bs (fun hz => ?_) (fun hz hg => ?_) (fun hz hg hb => ?_) (fun hz hg hb H' hA => ?_)
    · show outW (callPost dcfg.pol H d 20 _ _ _) Q
      rw [post_nn h dout2 (hret _ _) rfl rfl]; exact h1 hz _ _ (back2 h.dk)
    · show outW (callPost dcfg.pol H d 20 _ _ _) Q
      rw [post_nn h dout2 (hret _ _) rfl rfl]; exact h11 hz hg _ _ (back2 h.dk)
    · show outW (callPost dcfg.pol H d 20 _ _ _) Q
      rw [post_nn h dout2 (hret _ _) rfl rfl]; exact h7 hz hg hb _ _ (back2 h.dk)
    · obtain ⟨a1, a3, a0, a49, a2⟩ := hA
      have e : ((n.toNat : Nat) : Int) = n := by omega
      have hd : DOut H' 2 (some (.own 49, 0)) (left' l) false b kc [(n.toNat, bs)] :=
        ⟨a0, a1, fun Q gq e' => (by cases e'; rw [a49]; simp only [qcells, e]), fun e' => (by cases e')⟩
      show outW (callPost dcfg.pol H d 20 _ _ _) Q
      rw [post_nw (fun j => by simp) rfl h hd (hret _ _) rfl rfl hnd]
      exact h0 hz hg hb _ _ _ (fun p e' => by cases e') (fun _ => rfl) (back3 h.dk hnd.1 hnd.2)
  | some p =>
    obtain ⟨Qn, gq⟩ := p
    obtain ⟨q1, q2, q3⟩ := h.hQ Qn gq rfl
    rw [show accOf D K (some (Qn, gq)) = [D, K, Qn] from rfl] at h1 h11 h7 ⊢
    simp only [qIn, qbIn] at hv ⊢
    refine write_spec (.sl items.length (qcells items)) hv (fun m qc e1 e2 => ?_) bs (fun hz => ?_) (fun hz hg => ?_) (fun hz hg hb => ?_) (fun hz hg hb H' hA => ?_)
    · simp only [V.sl.injEq, true_and, and_true] at e1
      simp only [Option.some.injEq, Blk.mk.injEq, true_and, and_true] at e2
      subst e1; subst e2; exact ⟨qcells_len items, hn2⟩
    · show outW (callPost dcfg.pol H d 20 _ _ _) Q
      rw [post_sg h dout3 (hret _ _) rfl rfl]; exact h1 hz _ _ (back3 h.dk q2 q3)
    · show outW (callPost dcfg.pol H d 20 _ _ _) Q
      rw [post_sg h dout3 (hret _ _) rfl rfl]; exact h11 hz hg _ _ (back3 h.dk q2 q3)
    · show outW (callPost dcfg.pol H d 20 _ _ _) Q
      rw [post_sg h dout3 (hret _ _) rfl rfl]; exact h7 hz hg hb _ _ (back3 h.dk q2 q3)
    · obtain ⟨a1, a3, a0, a2⟩ := hA
      have e : ((n.toNat : Nat) : Int) = n := by omega
      have hl : (items ++ [(n.toNat, bs)]).length = items.length + 1 := by simp
      have hq := qcells_app items (n.toNat, bs)
      simp only [e] at hq
      have hd : DOut H' 3 (some (.arg 2, 1)) (left' l) false b kc (items ++ [(n.toNat, bs)]) :=
        ⟨by rw [a0]; simp only [pblk, kslice, dq, hl], a1, fun Q gq e' => (by cases e'; rw [a2]; simp only [hq]), fun e' => (by cases e')⟩
      show outW (callPost dcfg.pol H d 20 _ _ _) Q
      rw [post_sg h hd (hret _ _) rfl rfl]
      exact h0 hz hg hb _ _ _ (fun p e' => by cases e'; rfl) (fun e' => by cases e') (back3 h.dk q2 q3)
end Go.Proofs.Ytcamcfplcoklkaa.Iv

namespace Go.Proofs.Ytcamcfplcoklkaa.Iv
open Go
set_option linter.unusedVariables false
set_option linter.unusedSimpArgs false
set_option maxRecDepth 100000
theorem chunk_b : ∀ (ks : List Int), chunk 1 (cellsB ks).length (cellsB ks) = bytesL ks
  | [] => rfl
  | x :: r => by
    have := chunk_b r
    simp only [cellsB, List.map_cons, List.length_cons, chunk, bytesL] at this ⊢
    congr 1
/-- the queue, looked at -/
def qView (qn : Option (Id × Nat)) (items : List (Nat × List Int)) : V := match qn with | none => .nils | some _ => .list (items.map lateV) true
def qRd (qn : Option (Id × Nat)) : List Id := match qn with | none => [] | some (Q, _) => [Q]
theorem qv_view {qn : Option (Id × Nat)} {items : List (Nat × List Int)} (hn : qn = none → items = []) : QV (qView qn items) items := by
  cases qn with
  | none => have := hn rfl; subst this; exact .nil
  | some p => exact .list items
theorem DFr.dsk {H : Heap} {D K : Id} {gd gk : Nat} {qn : Option (Id × Nat)} {l b : Int} {g : Bool} {kc : List V} {items : List (Nat × List Int)} (h : DFr H D K gd gk qn l g b kc items) : DskH H D gd l g b K kc (dq qn items.length) (qView qn items) (qRd qn) := by
  refine ⟨⟨gk, none, ⟨gk, kc, false, true⟩, h.hD, h.hK, rfl, rfl, rfl⟩, ?_⟩
  cases qn with
  | none => rfl
  | some p =>
    obtain ⟨Q, gq⟩ := p
    obtain ⟨q1, q2, q3⟩ := h.hQ Q gq rfl
    have e : cut (qcells items) 0 (items.length * 2) = some (qcells items) := by
      have := qcells_len items
      unfold cut
      rw [List.drop_zero, List.take_of_length_le (by omega)]
      simp; omega
    simp [viewC, dq, live, q1, e, qView, qRd, chunk_q]
theorem view_F {H : Heap} {D K : Id} {gd gk : Nat} {qn : Option (Id × Nat)} {l b : Int} {g : Bool} {ks : List Int} {items : List (Nat × List Int)} (h : DFr H D K gd gk qn l g b (cellsB ks) items) :
    view1 H (.ptr D gd 0) = some ⟨vD l g b (bytesL ks) (qView qn items), [], D :: K :: qRd qn⟩ := by
  rw [view_d h.dsk, chunk_b]
/-- Sectors, Pending, Dark, at a frame -/
theorem sectors_call {H : Heap} {D K : Id} {gd gk : Nat} {qn : Option (Id × Nat)} {l b : Int} {g : Bool} {kc : List V} {items : List (Nat × List Int)} (h : DFr H D K gd gk qn l g b kc items) {d : Nat} {Q : Out → Prop} (hQ : ∀ rd, Q ⟨.int .i64 (secOf kc), [], rd⟩) : wCall dcfg.pol (CallR dcfg) H d 9 [.ptr D gd 0] Q :=
  call_view h.dsk (by kernel_rfl) (by kernel_rfl) (r_sectors ..) ⟨false, .inr ⟨_, _, rfl⟩⟩ (hQ _)
theorem dark_call {H : Heap} {D K : Id} {gd gk : Nat} {qn : Option (Id × Nat)} {l b : Int} {g : Bool} {kc : List V} {items : List (Nat × List Int)} (h : DFr H D K gd gk qn l g b kc items) {d : Nat} {Q : Out → Prop} (hQ : ∀ rd, Q ⟨.bool g, [], rd⟩) : wCall dcfg.pol (CallR dcfg) H d 15 [.ptr D gd 0] Q :=
  call_view h.dsk (by kernel_rfl) (by kernel_rfl) (r_dark ..) ⟨g, .inl rfl⟩ (hQ _)
theorem pending_call {H : Heap} {D K : Id} {gd gk : Nat} {qn : Option (Id × Nat)} {l b : Int} {g : Bool} {kc : List V} {items : List (Nat × List Int)} (h : DFr H D K gd gk qn l g b kc items) {d : Nat} {Q : Out → Prop} (hQ : Q ⟨.int .i64 (items.length : Int), [], D :: K :: qRd qn⟩) : wCall dcfg.pol (CallR dcfg) H d 14 [.ptr D gd 0] Q := by
  cases qn with
  | none =>
    have hi := h.hn rfl; subst hi
    exact call_view h.dsk (by kernel_rfl) (by kernel_rfl) (r_pending0 ..) ⟨false, .inr ⟨_, _, rfl⟩⟩ hQ
  | some p =>
    have hr := r_pending l g b (chunk 1 kc.length kc) (items.map lateV)
    rw [List.length_map] at hr
    exact call_view h.dsk (by kernel_rfl) (by kernel_rfl) hr ⟨false, .inr ⟨_, _, rfl⟩⟩ hQ
/-- Image, at a frame -/
theorem image_call {H : Heap} {D K : Id} {gd gk : Nat} {qn : Option (Id × Nat)} {l b : Int} {g : Bool} {ks : List Int} {items : List (Nat × List Int)} (h : DFr H D K gd gk qn l g b (cellsB ks) items) (hn : ks ≠ []) (hb : ks.length < 1048576) {d : Nat} {Q : Out → Prop}
    (hQ : ∀ gi, Q ⟨.sl (.sub d (.sub 9 (.own 7))) gi 0 ks.length 1 none, [(.sub d (.sub 9 (.own 7)), ⟨gi, cellsB ks, false, true⟩)], (D :: K :: qRd qn) ++ [] ++ [.sub d (.sub 9 (.own 7))]⟩) : wCall dcfg.pol (CallR dcfg) H d 16 [.ptr D gd 0] Q := by
  have hm : (dcfg.pol 16).modes = [.view] := by kernel_rfl
  have e1 : callPre dcfg.pol H 16 [.ptr D gd 0] = some ⟨[vD l g b (bytesL ks) (qView qn items)], fun _ => none, [], [], D :: K :: qRd qn⟩ := by
    unfold callPre
    rw [hm]
    simp only [argsIn, List.headD, argIn, view_F h, List.tail, List.append_nil, List.nil_append]
    cases qn <;> rfl
  unfold wCall
  rw [e1]
  refine image_spec hn hb ?_
  have e2 : callPost dcfg.pol H d 16 ⟨[vD l g b (bytesL ks) (qView qn items)], fun _ => none, [], [], D :: K :: qRd qn⟩ (.sl (.sub 9 (.own 7)) 0 0 ks.length 1 none) (Heap.sets (fun _ => none) [(.sub 9 (.own 7), ⟨0, cellsB ks, false, true⟩)]) =
      some ⟨.sl (.sub d (.sub 9 (.own 7))) (nextGen H (.sub d (.sub 9 (.own 7))) + 0) 0 ks.length 1 none, [(.sub d (.sub 9 (.own 7)), ⟨nextGen H (.sub d (.sub 9 (.own 7))) + 0, cellsB ks, false, true⟩)], (D :: K :: qRd qn) ++ [] ++ [.sub d (.sub 9 (.own 7))]⟩ := by kernel_rfl
  show outW (callPost dcfg.pol H d 16 ⟨[vD l g b (bytesL ks) (qView qn items)], fun _ => none, [], [], D :: K :: qRd qn⟩ (.sl (.sub 9 (.own 7)) 0 0 ks.length 1 none) (Heap.sets (fun _ => none) [(.sub 9 (.own 7), ⟨0, cellsB ks, false, true⟩)])) Q
  rw [e2]
  exact hQ _
end Go.Proofs.Ytcamcfplcoklkaa.Iv

namespace Go.Proofs.Ytcamcfplcoklkaa.Iv
open Go
set_option linter.unusedVariables false
set_option linter.unusedSimpArgs false
set_option maxRecDepth 100000
/-- Read, at a frame -/
theorem read_call {H : Heap} {D K : Id} {gd gk : Nat} {qn : Option (Id × Nat)} {l b n : Int} {g : Bool} {ks : List Int} {items : List (Nat × List Int)} (h : DFr H D K gd gk qn l g b (cellsB ks) items) (hit : ∀ x ∈ items, x.2.length = 64) (hil : items.length < 1000000) (hk : ks.length < 1000000) (hsec : secs (bytesL ks) * 64 = ks.length) {d : Nat} {Q : Out → Prop}
    (h1 : ¬ (0 ≤ n ∧ n < secs (bytesL ks)) → ∀ rd, Q ⟨.tup [.nils, .int .i64 1], [], rd⟩)
    (h11 : (0 ≤ n ∧ n < secs (bytesL ks)) → g = true → ∀ rd, Q ⟨.tup [.nils, .int .i64 11], [], rd⟩)
    (h0 : (0 ≤ n ∧ n < secs (bytesL ks)) → g = false → ∀ bs, bs = (seen items n items.length).getD ((ks.take ((n.toNat + 1) * 64)).drop (n.toNat * 64)) → ∀ t gg rd, Q ⟨.tup [.sl (.sub d (.sub t (.own 7))) gg 0 bs.length 1 none, .int .i64 0], [(.sub d (.sub t (.own 7)), ⟨gg, cellsB bs, false, true⟩)], rd⟩) :
    wCall dcfg.pol (CallR dcfg) H d 22 [.ptr D gd 0, .int .i64 n] Q := by
  have hm : (dcfg.pol 22).modes = [.view] := by kernel_rfl
  have ho : (dcfg.pol 22).own = true := by kernel_rfl
  have e1 : callPre dcfg.pol H 22 [.ptr D gd 0, .int .i64 n] = some ⟨[vD l g b (bytesL ks) (qView qn items), .int .i64 n], fun _ => none, [], [], D :: K :: qRd qn⟩ := by
    unfold callPre
    rw [hm]
    simp only [argsIn, List.headD, argIn, view_F h, List.tail, List.append_nil, List.nil_append]
    cases qn <;> rfl
  unfold wCall
  rw [e1]
  have en : ∀ e H', callPost dcfg.pol H d 22 ⟨[vD l g b (bytesL ks) (qView qn items), .int .i64 n], fun _ => none, [], [], D :: K :: qRd qn⟩ (.tup [.nils, .int .i64 e]) H' = some ⟨.tup [.nils, .int .i64 e], [], (D :: K :: qRd qn) ++ [] ++ []⟩ := by intro e H'; kernel_rfl
  refine read_spec (qv_view h.hn) hit hil hk hsec (fun a H' => ?_) (fun a e H' => ?_) (fun a e bs hbs H' t ht hH => ?_)
  · show outW (callPost dcfg.pol H d 22 ⟨[vD l g b (bytesL ks) (qView qn items), .int .i64 n], fun _ => none, [], [], D :: K :: qRd qn⟩ (.tup [.nils, .int .i64 1]) H') Q
    rw [en]; exact h1 a _
  · show outW (callPost dcfg.pol H d 22 ⟨[vD l g b (bytesL ks) (qView qn items), .int .i64 n], fun _ => none, [], [], D :: K :: qRd qn⟩ (.tup [.nils, .int .i64 11]) H') Q
    rw [en]; exact h11 a e _
  · have l1 : live H' (.sub t (.own 7)) 0 = some ⟨0, cellsB bs, false, true⟩ := by simp [live, hH]
    have c : collect H' 200 [(.sub t (.own 7), 0)] [] = some [.sub t (.own 7)] := by simp [collect, l1]
    have e2 : callPost dcfg.pol H d 22 ⟨[vD l g b (bytesL ks) (qView qn items), .int .i64 n], fun _ => none, [], [], D :: K :: qRd qn⟩ (.tup [.sl (.sub t (.own 7)) 0 0 bs.length 1 none, .int .i64 0]) H' =
        some ⟨.tup [.sl (.sub d (.sub t (.own 7))) (nextGen H (.sub d (.sub t (.own 7))) + 0) 0 bs.length 1 none, .int .i64 0], [(.sub d (.sub t (.own 7)), ⟨nextGen H (.sub d (.sub t (.own 7))) + 0, cellsB bs, false, true⟩)], (D :: K :: qRd qn) ++ [] ++ [.sub d (.sub t (.own 7))]⟩ := by
      unfold callPost
      rw [ho]
      have hal : (Id.sub t (.own 7)).alt = false := by simpa [Id.alt] using ht
      have hnw : newName d [] (.sub t (.own 7)) = .sub d (.sub t (.own 7)) := rfl
      simp [hal, hnw, retIn, Heap.sets, refs, refsL, argIds, c, backUps, backName, hH, outKept, V.keptR, V.kept, V.kept0, freshSubs, renIfV, ren, renL, backRen]
    show outW (callPost dcfg.pol H d 22 ⟨[vD l g b (bytesL ks) (qView qn items), .int .i64 n], fun _ => none, [], [], D :: K :: qRd qn⟩ (.tup [.sl (.sub t (.own 7)) 0 0 bs.length 1 none, .int .i64 0]) H') Q
    rw [e2]
    exact h0 a e bs hbs t _ _
end Go.Proofs.Ytcamcfplcoklkaa.Iv
