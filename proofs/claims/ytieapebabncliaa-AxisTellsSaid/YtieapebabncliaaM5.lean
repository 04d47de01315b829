import Derived.Test.YtieapebabncliaaM3
import Derived.ProofKit
import Derived.OpenShut
import Derived.DataReads
import Derived.ChangeOld
import Derived.Test.YtieapebabncliaaQ8
import Derived.Test.YtieapebabncliaaM4
namespace Go.Proofs.Ytieapebabncliaa.Iv
open Go Go.RowKit
set_option linter.unusedVariables false
set_option linter.unusedSimpArgs false
/-! ### the values that a statement hands a law -/
def Cel (w : World) (rb : Nat) : Prop := ∃ o : Obj, w.heap[rb]? = some o ∧ o.isCells = true
theorem cel_of {w : World} {a : Addr} {v : Value} (h : w.cell? a = some v) : Cel w a.block ∧ a.spot = none := by
  unfold World.cell? at h
  split at h
  · rename_i c ty fr e
    split at h
    · cases h
    · rename_i hs
      refine ⟨⟨_, e, rfl⟩, ?_⟩
      cases hq : a.spot with
      | none => rfl
      | some q => rw [hq] at hs; simp at hs
  · cases h
def OpensV (P : Program) (t sz : Nat) (G : List V → Prop) : Prop :=
  ∀ (H : Type) (enc : TypeId × Value → H) (w : World) (base : Nat) (spare : Nat → Bool) (held : Bool) (fuel : Nat) (cs : List Value) (x : DataW H × List MemPlace), DataW.trod enc P w base spare held fuel t cs = some x →
    ∃ vs : List V, vs.length = sz ∧ All2 (FR w (Cel w)) vs cs ∧ G vs
section
variable {P : Program} {t : TypeId}
theorem pick_list {α : Type} (n : Nat) (R : Nat → α → Prop) (h : ∀ i, i < n → ∃ a, R i a) : ∃ l : List α, l.length = n ∧ ∀ i a, l[i]? = some a → R i a := by
  induction n with
  | zero => exact ⟨[], rfl, fun i a h => by simp at h⟩
  | succ n ih =>
    obtain ⟨l, hl, hr⟩ := ih (fun i hi => h i (by omega))
    obtain ⟨a, ha⟩ := h n (by omega)
    refine ⟨l ++ [a], by simp [hl], fun i b hb => ?_⟩
    rcases Nat.lt_trichotomy i n with hi | hi | hi
    · rw [List.getElem?_append_left (by omega)] at hb; exact hr i b hb
    · subst hi
      rw [List.getElem?_append_right (by omega), hl, Nat.sub_self, List.getElem?_cons_zero] at hb
      obtain rfl := Option.some.inj hb
      exact ha
    · rw [List.getElem?_eq_none (by simp [hl]; omega)] at hb; cases hb
theorem cells_get {w : World} {base : Nat} {a : Addr} {n : Nat} {cs : List Value} (h : w.cells? base a n = some cs) : cs.length = n ∧ ∀ i u, cs[i]? = some u → w.cell? (a.add i) = some u := by
  unfold World.cells? at h
  split at h
  · have hl := mapM_some_length h
    rw [List.length_range] at hl
    refine ⟨hl, fun i u hu => ?_⟩
    have hi : i < n := by
      rcases Nat.lt_or_ge i n with hi | hi
      · exact hi
      · rw [List.getElem?_eq_none (by omega)] at hu; cases hu
    have := mapM_some_get h i i (by rw [List.getElem?_range hi])
    rw [this]; exact hu
  · cases h
theorem opensV_int {k : IntKind} (ht : P.underlying t = some (.int k)) : OpensV P t 1 (fun vs => ∃ n, vs = [.int k n] ∧ (Lit.int k n).wf = true) := by
  intro H enc w base spare held fuel cs x h
  cases fuel with
  | zero => simp [DataW.trod] at h
  | succ fuel =>
    simp only [DataW.trod, ht] at h
    split at h <;> simp_all
    refine ⟨[.int _ _], rfl, ?_, _, rfl, h.1.2⟩
    exact ⟨.int _ _, trivial⟩
theorem add_mk (a : Addr) (h : a.spot = none) (n : Nat) : a.add n = ⟨a.block, a.off + n, none⟩ := by
  obtain ⟨b, o, s⟩ := a
  simp only at h; subst h
  unfold Addr.add
  split
  · rename_i e; subst e; rfl
  · rfl
theorem opensV_slice {e sz : Nat} {G : List V → Prop} (ht : P.underlying t = some (.slice e)) (hs : P.cellsOf e = sz) (hp : 0 < sz) (he : OpensV P e sz G) :
    OpensV P t 1 (fun vs => ∃ xs, vs = [.list xs false] ∧ xs.length ≤ maxLen ∧ ∀ x ∈ xs, x.length = sz ∧ G x) := by
  intro H enc w base spare held fuel cs x h
  cases fuel with
  | zero => simp [DataW.trod] at h
  | succ fuel =>
    simp only [DataW.trod, ht] at h
    split at h
    all_goals first | (simp_all; done) | skip
    · refine ⟨[.list [] false], rfl, ⟨?_, trivial⟩, [], rfl, Nat.zero_le _, fun x hx => by cases hx⟩
      exact FR.list [] 1 0 none (fun _ => .int .i64 0) (Nat.le_refl _) (fun x hx => by cases hx) (fun h => absurd rfl h) (fun j c h => by simp at h)
    · rename_i heq
      injection heq with heq
      injection heq with heq
      subst heq
      split at h
      · rename_i a len cap hcond
        obtain ⟨els, hels, _⟩ := Option.bind_eq_some_iff.1 h
        have hlen := mapM_some_length hels
        rw [List.length_range] at hlen
        obtain ⟨xs, hl, hr⟩ := pick_list len (fun i (b : List V) => ∃ c : List Value, c.length = sz ∧ b.length = sz ∧ All2 (FR w (Cel w)) b c ∧ G b ∧ ∀ q u, c[q]? = some u → w.cell? ((a.add (i * sz)).add q) = some u) (fun i hi => by
          have h1 := mapM_some_get hels i i (by rw [List.getElem?_range hi])
          have hi2 : i < els.length := by omega
          rw [List.getElem?_eq_getElem hi2] at h1
          obtain ⟨c, hc, ht2⟩ := Option.bind_eq_some_iff.1 h1
          obtain ⟨b, hbl, hb, hg⟩ := he H enc w base spare held fuel c _ ht2
          obtain ⟨hcl, hcc⟩ := cells_get hc
          rw [hs] at hcl hcc
          exact ⟨b, c, hcl, hbl, hb, hg, hcc⟩)
        have hz : ∀ x ∈ xs, x.length = sz ∧ G x := fun x hx => by
          obtain ⟨j, hj, rfl⟩ := List.getElem_of_mem hx
          obtain ⟨c, _, h2, _, h4, _⟩ := hr j _ (List.getElem?_eq_getElem hj)
          exact ⟨h2, h4⟩
        -- where the elements stand
        have spot : xs ≠ [] → a.spot = none := fun hne => by
          cases hx0 : xs with
          | nil => exact absurd hx0 hne
          | cons x0 r =>
            obtain ⟨c, c1, c2, c3, c4, c5⟩ := hr 0 x0 (by rw [hx0]; rfl)
            obtain ⟨u, hu⟩ : ∃ u, c[0]? = some u := ⟨c[0]'(by omega), List.getElem?_eq_getElem _⟩
            have := (cel_of (c5 0 u hu)).2
            simpa [Addr.add] using this
        have each : ∀ (hne : xs ≠ []) (j : Nat) (v : V), xs.flatten[j]? = some v → ∃ u, w.cell? ⟨a.block, a.off + j, none⟩ = some u ∧ FR w (Cel w) v u := fun hne j v hj => by
          obtain ⟨i, q, xi, h1, h2, h3⟩ : ∃ i q xi, xs[i]? = some xi ∧ xi[q]? = some v ∧ j = i * sz + q := by
            have hjl := (List.getElem?_eq_some_iff.1 hj).1
            rw [flatten_len sz xs (fun x hx => (hz x hx).1)] at hjl
            have hi : j / sz < xs.length := Nat.div_lt_of_lt_mul (by rw [Nat.mul_comm]; exact hjl)
            have hq : j % sz < (xs[j / sz]).length := by rw [(hz _ (List.getElem_mem hi)).1]; exact Nat.mod_lt _ hp
            have hg := flatten_get sz xs (fun x hx => (hz x hx).1) (j / sz) (j % sz) _ _ (List.getElem?_eq_getElem hi) (List.getElem?_eq_getElem hq)
            have e : j / sz * sz + j % sz = j := by rw [Nat.mul_comm]; exact Nat.div_add_mod j sz
            rw [e, hj] at hg
            refine ⟨j / sz, j % sz, _, List.getElem?_eq_getElem hi, ?_, e.symm⟩
            rw [List.getElem?_eq_getElem hq]; exact hg.symm
          obtain ⟨c, c1, c2, c3, c4, c5⟩ := hr i xi h1
          obtain ⟨u, hu, hfr⟩ := c3.get h2
          refine ⟨u, ?_, hfr⟩
          have := c5 q u hu
          rw [add_mk a (spot hne), add_mk _ rfl] at this
          rw [h3, ← Nat.add_assoc]; exact this
        refine ⟨[.list xs false], rfl, ⟨?_, trivial⟩, xs, rfl, ?_, hz⟩
        · have := FR.list (w := w) (S := Cel w) xs sz cap (some a) (fun j => (w.cell? ⟨a.block, a.off + j, none⟩).getD (.int .i64 0)) (by rw [hl]; exact hcond.2.1) (fun x hx => (hz x hx).1)
            (fun hne => by
              have hsp := spot hne
              refine ⟨a.block, a.off, by cases a; simp_all, ?_, fun j hj => ?_⟩
              · obtain ⟨u, hu, _⟩ := each hne 0 _ (List.getElem?_eq_getElem (by
                  rw [flatten_len sz xs (fun x hx => (hz x hx).1)]
                  have : 0 < xs.length := List.length_pos_iff.2 hne
                  exact Nat.mul_pos this hp))
                exact (cel_of hu).1
              · obtain ⟨u, hu, _⟩ := each hne j _ (List.getElem?_eq_getElem hj)
                rw [hu]; rfl)
            (fun j c hj => by
              have hne : xs ≠ [] := fun e => by subst e; simp at hj
              obtain ⟨u, hu, hfr⟩ := each hne j c hj
              rw [hu]; exact hfr)
          rw [hl] at this
          exact this
        · rw [hl]; exact Nat.le_trans hcond.2.1 hcond.2.2
      · cases h
/-- a struct of four fields, each of one cell -/
theorem opensV_four {G0 G1 G2 G3 : List V → Prop} {f0 f1 f2 f3 : Field} (ht : P.underlying t = some (.struct #[f0, f1, f2, f3])) (hn : P.cellsOf t = 4) (o0 : f0.offset = 0) (o1 : f1.offset = 1) (o2 : f2.offset = 2) (o3 : f3.offset = 3)
    (c0 : P.cellsOf f0.type = 1) (c1 : P.cellsOf f1.type = 1) (c2 : P.cellsOf f2.type = 1) (c3 : P.cellsOf f3.type = 1) (h0 : OpensV P f0.type 1 G0) (h1 : OpensV P f1.type 1 G1) (h2 : OpensV P f2.type 1 G2) (h3 : OpensV P f3.type 1 G3) :
    OpensV P t 4 (fun vs => ∃ a b c d, vs = [a, b, c, d] ∧ G0 [a] ∧ G1 [b] ∧ G2 [c] ∧ G3 [d]) := by
  intro H enc w base spare held fuel cs x h
  cases fuel with
  | zero => simp [DataW.trod] at h
  | succ fuel =>
    have h' : (if cs.length = P.cellsOf t then (#[f0, f1, f2, f3].toList.mapM fun f => DataW.trod enc P w base spare held fuel f.type ((cs.drop f.offset).take (P.cellsOf f.type))).map fun xs => ((.agg (xs.map (·.1)) : DataW H), xs.flatMap (·.2)) else none) = some x := by
      rw [← h]
      simp only [DataW.trod, ht]
    split at h'
    · rename_i hl
      rw [hn] at hl
      obtain ⟨xs, hxs, _⟩ := Option.map_eq_some_iff.1 h'
      have hlen := mapM_some_length hxs
      have g0 := mapM_some_get hxs 0 f0 rfl
      have g1 := mapM_some_get hxs 1 f1 rfl
      have g2 := mapM_some_get hxs 2 f2 rfl
      have g3 := mapM_some_get hxs 3 f3 rfl
      simp only [List.length_cons, List.length_nil] at hlen
      rw [List.getElem?_eq_getElem (by omega)] at g0 g1 g2 g3
      match cs, hl with
      | [u0, u1, u2, u3], _ =>
        obtain ⟨v0, l0, r0, q0⟩ := h0 H enc w base spare held fuel _ _ g0
        obtain ⟨v1, l1, r1, q1⟩ := h1 H enc w base spare held fuel _ _ g1
        obtain ⟨v2, l2, r2, q2⟩ := h2 H enc w base spare held fuel _ _ g2
        obtain ⟨v3, l3, r3, q3⟩ := h3 H enc w base spare held fuel _ _ g3
        rw [o0, c0] at r0; rw [o1, c1] at r1; rw [o2, c2] at r2; rw [o3, c3] at r3
        match v0, v1, v2, v3, l0, l1, l2, l3, r0, r1, r2, r3, q0, q1, q2, q3 with
        | [a], [b], [c], [d], _, _, _, _, r0, r1, r2, r3, q0, q1, q2, q3 =>
          exact ⟨[a, b, c, d], rfl, ⟨r0.1, r1.1, r2.1, r3.1, trivial⟩, a, b, c, d, rfl, q0, q1, q2, q3⟩
    · cases h'
end
end Go.Proofs.Ytieapebabncliaa.Iv

namespace Go.Proofs.Ytieapebabncliaa.Iv
open Go Go.RowKit Go.Proofs.YtieapebabncliaaW.PrintWords Go.Proofs.Ytieapebabncliaa
set_option linter.unusedVariables false
set_option linter.unusedSimpArgs false
/-! ### lists of spans, as the ideal machine and as the printed texts have them -/
def sRow (s : X.S36) : List V := [.int .u32 s.f0, .int .u32 s.f1]
def spV (l : List X.S36) : V := .list (l.map sRow) false
def kRow (x : X.S47) : List V := [spV x.f0, spV x.f1]
def knV (l : List X.S47) : V := .list (l.map kRow) false
section
variable {α : Type} (a b : α → V)
theorem fl2 : ∀ (l : List α) (j : Nat) (c : V), ((l.map fun p => [a p, b p]).flatten)[j]? = some c → ∃ i p, l[i]? = some p ∧ ((j = i * 2 ∧ c = a p) ∨ (j = i * 2 + 1 ∧ c = b p))
  | [], j, c, h => by simp at h
  | q :: l, 0, c, h => ⟨0, q, rfl, .inl ⟨rfl, by simpa using h.symm⟩⟩
  | q :: l, 1, c, h => ⟨0, q, rfl, .inr ⟨rfl, by simpa using h.symm⟩⟩
  | q :: l, j + 2, c, h => by
    obtain ⟨i, p, h1, h2⟩ := fl2 l j c (by simpa using h)
    exact ⟨i + 1, p, by simpa using h1, h2.imp (fun q => ⟨by omega, q.2⟩) (fun q => ⟨by omega, q.2⟩)⟩
theorem fl2g : ∀ (l : List α) (i : Nat) (p : α), l[i]? = some p → ((l.map fun p => [a p, b p]).flatten)[i * 2]? = some (a p) ∧ ((l.map fun p => [a p, b p]).flatten)[i * 2 + 1]? = some (b p)
  | [], i, p, h => by simp at h
  | q :: l, 0, p, h => by simp at h; subst h; simp
  | q :: l, i + 1, p, h => by
    have := fl2g l i p (by simpa using h)
    rw [show (i + 1) * 2 = i * 2 + 1 + 1 by omega]
    simpa using this
theorem fl2len : ∀ (l : List α), ((l.map fun p => [a p, b p]).flatten).length = l.length * 2
  | [] => rfl
  | q :: l => by simp only [List.map_cons, List.flatten_cons, List.length_append, fl2len l, List.length_cons, List.length_nil]; omega
end
theorem c36 {w : World} {S : Nat → Prop} {l : List X.S36} {v : Value} (h : FR w S (spV l) v) (hl : l.length ≤ 9223372036854775807) : ∃ A c, v = .slice A l.length c ∧ l.length ≤ c ∧ Kd.C X.k36 w A l.length l := by
  unfold spV at h
  cases h with
  | list xs sz cap a vals hcap hz ha hv =>
    rw [List.length_map] at hcap
    refine ⟨a, cap, by rw [List.length_map], hcap, rfl, hl, fun h0 => ?_⟩
    obtain ⟨rb, o, rfl, hS, hc⟩ := ha (fun e => by rw [List.map_eq_nil_iff] at e; subst e; simp at h0)
    refine ⟨_, rfl, fun j p hp => ⟨[.int .u32 p.f0, .int .u32 p.f1], rfl, X.k36_mk w p, fun i u hu => ?_⟩⟩
    obtain ⟨g0, g1⟩ := fl2g (fun s : X.S36 => V.int .u32 s.f0) (fun s : X.S36 => V.int .u32 s.f1) l j p hp
    have hj : j < l.length := (List.getElem?_eq_some_iff.1 hp).1
    have hL := fl2len (fun s : X.S36 => V.int .u32 s.f0) (fun s : X.S36 => V.int .u32 s.f1) l
    have e0 := hv (j * 2) _ g0
    have e1 := hv (j * 2 + 1) _ g1
    have q0 := hc (j * 2) (Nat.lt_of_lt_of_eq (by omega) hL.symm)
    have q1 := hc (j * 2 + 1) (Nat.lt_of_lt_of_eq (by omega) hL.symm)
    rw [add_mk _ rfl]
    match i, hu with
    | 0, hu =>
      cases hu
      generalize vals (j * 2) = z at e0 q0
      cases e0; exact q0
    | 1, hu =>
      cases hu
      generalize vals (j * 2 + 1) = z at e1 q1
      cases e1; exact q1
theorem c47 {w : World} {S : Nat → Prop} {l : List X.S47} {v : Value} (h : FR w S (knV l) v) (hl : l.length ≤ 9223372036854775807) (hs : ∀ x ∈ l, x.f0.length < 1000 ∧ x.f1.length < 1000) : ∃ A c, v = .slice A l.length c ∧ l.length ≤ c ∧ Kd.C X.k47 w A l.length l := by
  unfold knV at h
  cases h with
  | list xs sz cap a vals hcap hz ha hv =>
    rw [List.length_map] at hcap
    refine ⟨a, cap, by rw [List.length_map], hcap, rfl, hl, fun h0 => ?_⟩
    obtain ⟨rb, o, rfl, hS, hc⟩ := ha (fun e => by rw [List.map_eq_nil_iff] at e; subst e; simp at h0)
    refine ⟨_, rfl, fun j p hp => ?_⟩
    obtain ⟨g0, g1⟩ := fl2g (fun s : X.S47 => spV s.f0) (fun s : X.S47 => spV s.f1) l j p hp
    have hj : j < l.length := (List.getElem?_eq_some_iff.1 hp).1
    have hL := fl2len (fun s : X.S47 => spV s.f0) (fun s : X.S47 => spV s.f1) l
    have hm := hs p (List.mem_of_getElem? hp)
    obtain ⟨A0, c0, e0, b0, r0⟩ := c36 (hv (j * 2) _ g0) (by omega)
    obtain ⟨A1, c1, e1, b1, r1⟩ := c36 (hv (j * 2 + 1) _ g1) (by omega)
    have q0 := hc (j * 2) (Nat.lt_of_lt_of_eq (by omega) hL.symm)
    have q1 := hc (j * 2 + 1) (Nat.lt_of_lt_of_eq (by omega) hL.symm)
    refine ⟨[.slice A0 p.f0.length c0, .slice A1 p.f1.length c1], rfl, X.k47_mk w p b0 r0 b1 r1, fun i u hu => ?_⟩
    rw [add_mk _ rfl]
    match i, hu with
    | 0, hu => cases hu; rw [← e0]; exact q0
    | 1, hu => cases hu; rw [← e1]; exact q1
/-- a row of the printed texts' own, as a list that stays -/
theorem fr36 {w : World} {S : Nat → Prop} {base : Nat} {ok : Nat → Prop} {l : List X.S36} {v : Value} (h : Kd.R X.k36 36 w base ok v l) (hS : ∀ k, v.ownBlock = some k → S k) : FR w S (spV l) v := by
  obtain ⟨A, c, rfl, hc, hr⟩ := Kd.R_reads h
  obtain ⟨inner, ho⟩ := Kd.R_own h
  have key : ∀ j p, l[j]? = some p → ∃ ad, A = some ad ∧ w.cell? (ad.add (j * 2)) = some (.int .u32 p.f0) ∧ w.cell? (ad.add (j * 2 + 1)) = some (.int .u32 p.f1) := by
    intro j p hp
    have hj : j < l.length := (List.getElem?_eq_some_iff.1 hp).1
    obtain ⟨ad, e, hcell⟩ := hr.2.2 (by omega)
    obtain ⟨cs, hcl, hk, hu⟩ := hcell j p hp
    obtain rfl := X.k36_open hk
    exact ⟨ad, e, hu 0 _ rfl, hu 1 _ rfl⟩
  have hlen : (l.map sRow).length = l.length := List.length_map _
  have := FR.list (w := w) (S := S) (l.map sRow) 2 c A (fun j => match ((l.map sRow).flatten)[j]? with | some (.int k n) => .int k n | _ => .int .i64 0) (by rw [hlen]; exact hc) (fun x hx => by obtain ⟨s, _, rfl⟩ := List.mem_map.1 hx; rfl)
    (fun hne => by
      have h0 : 0 < l.length := by
        cases l with
        | nil => exact absurd rfl hne
        | cons => simp
      rcases ho.2 with ⟨e, hn⟩ | ⟨g, cap, cur, e, hb, hh, r⟩
      · omega
      · injection e with e1 e2 e3
        subst e1
        refine ⟨g, 0, rfl, hS g rfl, fun j hj => ?_⟩
        have hf : ∃ cc, ((l.map sRow).flatten)[j]? = some cc := ⟨_, List.getElem?_eq_getElem hj⟩
        obtain ⟨cc, hf⟩ := hf
        obtain ⟨i, p, hp, hcase⟩ := fl2 (fun s : X.S36 => V.int .u32 s.f0) (fun s : X.S36 => V.int .u32 s.f1) l j cc hf
        obtain ⟨ad, ea, k0, k1⟩ := key i p hp
        cases ea
        rcases hcase with ⟨rfl, rfl⟩ | ⟨rfl, rfl⟩
        · rw [hf]; rw [add_mk _ rfl] at k0; exact k0
        · rw [hf]; rw [add_mk _ rfl] at k1; exact k1)
    (fun j cc hf => by
      obtain ⟨i, p, hp, hcase⟩ := fl2 (fun s : X.S36 => V.int .u32 s.f0) (fun s : X.S36 => V.int .u32 s.f1) l j cc hf
      rw [hf]
      rcases hcase with ⟨_, rfl⟩ | ⟨_, rfl⟩
      · exact .int _ _
      · exact .int _ _)
  rw [hlen] at this
  exact this
/-- behind a call that leaves the elder blocks as they are -/
theorem below_keep {w w' : World} {S K : Nat → Prop} {m : Map} {H : Heap} (h : SR w S K m H) (hb : Below w.heap.size w w') {S' : Nat → Prop} (hsub : ∀ rb, S rb → S' rb) (hnew : ∀ rb, S' rb → S rb ∨ (w.heap.size ≤ rb ∧ rb < w'.heap.size ∧ ∃ o : Obj, w'.heap[rb]? = some o ∧ o.isCells = true)) :
    Step K w S m w' S' m ∧ SR w' S' K m H := by
  have st : Step K w S m w' S' m :=
    ⟨hb.os, hb.tape, hb.output, hb.size, hsub, fun rb q => (hnew rb q).imp id (fun x hk => by have := h.kin rb hk; omega), fun rb q => hb.block rb (q.elim (h.sub rb) (h.kin rb)), fun i im e => ⟨im, e, Nat.le_refl _, fun _ => rfl⟩,
      ⟨hb.size, fun k o hk _ => by
        have hlt : k < w.heap.size := (Array.getElem?_eq_some_iff.1 hk).1
        rw [hb.block k hlt]; exact hk⟩⟩
  refine ⟨st, ⟨fun rb q => (hnew rb q).elim (fun x => Nat.lt_of_lt_of_le (h.sub rb x) hb.size) (fun x => x.2.1), fun rb q => Nat.lt_of_lt_of_le (h.kin rb q) hb.size, fun i b hi => ?_, h.non, h.inj, h.own, fun rb q => (hnew rb q).elim (fun x => by rw [hb.block rb (h.sub rb x)]; exact h.scel rb x) (fun x => x.2.2)⟩⟩
  obtain ⟨im, hm, ok⟩ := h.blk i b hi
  exact ⟨im, hm, ok.mono st (hb.block _ ok.lt) (fun hf hs => (hnew _ hs).elim (ok.thaw hf) (fun x => by have := ok.lt; omega))⟩
theorem vr_list {w : World} {S B : Nat → Prop} {m : Map} {xs : List (List V)} {v : Value} (h : VR w S B m (.list xs false) v) : FR w S (.list xs false) v := by
  cases h with
  | fr h => exact h
theorem vr_int {w : World} {S B : Nat → Prop} {m : Map} {k : IntKind} {n : Int} {v : Value} (h : VR w S B m (.int k n) v) : v = .int k n := by
  cases h with
  | fr h => cases h; rfl
end Go.Proofs.Ytieapebabncliaa.Iv

namespace Go.Proofs.Ytieapebabncliaa.Iv
open Go Go.RowKit Go.Proofs.YtieapebabncliaaW.PrintWords Go.Proofs.Ytieapebabncliaa
set_option linter.unusedVariables false
set_option linter.unusedSimpArgs false
set_option maxRecDepth 100000
/-! ### axis's functions, from outside -/
def unS : List V → X.S36
  | [.int _ a, .int _ b] => ⟨a, b⟩
  | _ => ⟨0, 0⟩
def unSp : V → List X.S36
  | .list xs _ => xs.map unS
  | _ => []
theorem unSp_sp (l : List X.S36) : unSp (spV l) = l := by
  unfold spV unSp
  simp only [List.map_map]
  have : unS ∘ sRow = id := by funext s; rfl
  rw [this, List.map_id]
def unK : List V → X.S47
  | [a, b] => ⟨unSp a, unSp b⟩
  | _ => ⟨[], []⟩
def unKn : V → List X.S47
  | .list xs _ => xs.map unK
  | _ => []
theorem unKn_kn (l : List X.S47) : unKn (knV l) = l := by
  unfold knV unKn
  simp only [List.map_map]
  have : unK ∘ kRow = id := by
    funext s
    show X.S47.mk (unSp (spV s.f0)) (unSp (spV s.f1)) = s
    rw [unSp_sp, unSp_sp]
  rw [this, List.map_id]
def SmallK (l : List X.S47) : Prop := l.length < 1000 ∧ ∀ x ∈ l, x.f0.length < 1000 ∧ x.f1.length < 1000
def bitB (x i : Int) : Bool := Go.bits .and .u64 (shr .u64 x (Go.bits .and .i64 i 63)) 1 == 1
def wholeB (a b : List X.S36) : Bool := ((X.restF (X.unionF (a ++ b))).length : Int) == 0
open Classical in
noncomputable def gHas (args : List V) (H : Heap) : Option (V × Heap) := match args with
  | [a, .int .u32 id] => if a = spV (unSp a) ∧ (unSp a).length < 1000000 then some (.bool (X.hasb (unSp a) id), H) else none
  | _ => none
open Classical in
noncomputable def gNot (args : List V) (H : Heap) : Option (V × Heap) := match args with
  | [.agg [a, b]] => if (a = spV (unSp a) ∧ b = spV (unSp b)) ∧ (unSp a).length < 100000 ∧ (unSp b).length < 100000 then some (.agg [spV (X.unionF (unSp b)), spV (X.unionF (unSp a))], H) else none
  | _ => none
open Classical in
noncomputable def gWhole (args : List V) (H : Heap) : Option (V × Heap) := match args with
  | [.agg [a, b]] => if (a = spV (unSp a) ∧ b = spV (unSp b)) ∧ (unSp a).length < 100000 ∧ (unSp b).length < 100000 then some (.bool (wholeB (unSp a) (unSp b)), H) else none
  | _ => none
open Classical in
noncomputable def gAnd (args : List V) (H : Heap) : Option (V × Heap) := match args with
  | [a] => if a = knV (unKn a) ∧ SmallK (unKn a) then some (.agg [spV (X.meetF ((unKn a).map (·.f0))), spV (X.unionF ((unKn a).map (·.f1)).flatten)], H) else none
  | _ => none
open Classical in
noncomputable def gOr (args : List V) (H : Heap) : Option (V × Heap) := match args with
  | [a] => if a = knV (unKn a) ∧ SmallK (unKn a) then some (.agg [spV (X.unionF ((unKn a).map (·.f0)).flatten), spV (X.meetF ((unKn a).map (·.f1)))], H) else none
  | _ => none
noncomputable def gAwake (args : List V) (H : Heap) : Option (V × Heap) := match args with
  | [] => some (.bool true, H)
  | _ => none
noncomputable def gBit (args : List V) (H : Heap) : Option (V × Heap) := match args with
  | [.int .u64 x, .int .i64 i] => if 0 ≤ Go.bits .and .i64 i 63 then some (.bool (bitB x i), H) else none
  | _ => none
def OkG (f : Nat) (g : List V → Heap → Option (V × Heap)) : Prop := ∀ args H r H', g args H = some (r, H') → ∀ (w : World) (S K B : Nat → Prop) (m : Map) (vs : List Value), SR w S K m H → (∀ rb, B rb → K rb) → All2 (VR w S B m) args vs →
    Calls Try.prog f vs.toArray w fun e w' => ∃ x S' m', e = .returned x ∧ Step K w S m w' S' m' ∧ SR w' S' K m' H' ∧ VR w' S' B m' r x
theorem all1 {R : V → Value → Prop} {a : V} {vs : List Value} (h : All2 R [a] vs) : ∃ v, vs = [v] ∧ R a v := by
  match vs, h with
  | [v], h => exact ⟨v, rfl, h.1⟩
theorem all2 {R : V → Value → Prop} {a b : V} {vs : List Value} (h : All2 R [a, b] vs) : ∃ v u, vs = [v, u] ∧ R a v ∧ R b u := by
  match vs, h with
  | [v, u], h => exact ⟨v, u, rfl, h.1, h.2.1⟩
theorem has_ok : OkG 26 gHas := by
  intro args H r H' h w S K B m vs sr hB ha
  unfold gHas at h
  split at h
  rotate_left
  · cases h
  rename_i a id
  split at h
  rotate_left
  · cases h
  rename_i hc
  cases h
  obtain ⟨hs, hl⟩ := hc
  obtain ⟨v, u, rfl, h1, h2⟩ := all2 ha
  generalize unSp a = l at hs hl ⊢
  subst hs
  obtain rfl := vr_int h2
  obtain ⟨A, c, rfl, hc, hC⟩ := c36 (vr_list h1) (by omega)
  refine Calls.mono (X.axis_Has.calls A c l id _ w hC hc (X.has2_f l id (by omega))) ?_
  rintro e w' ⟨rfl, hb⟩
  obtain ⟨st, sr'⟩ := below_keep sr hb (fun _ q => q) (fun _ q => .inl q)
  exact ⟨_, S, m, rfl, st, sr', .fr (.bool _)⟩
theorem in_ok : OkG 36 gHas := by
  intro args H r H' h w S K B m vs sr hB ha
  unfold gHas at h
  split at h
  rotate_left
  · cases h
  rename_i a id
  split at h
  rotate_left
  · cases h
  rename_i hc
  cases h
  obtain ⟨hs, hl⟩ := hc
  obtain ⟨v, u, rfl, h1, h2⟩ := all2 ha
  generalize unSp a = l at hs hl ⊢
  subst hs
  obtain rfl := vr_int h2
  obtain ⟨A, c, rfl, hc, hC⟩ := c36 (vr_list h1) (by omega)
  refine Calls.mono (X.incipitlaw19_in.calls (l.length + 1) A c l id _ w hC hc (X.in2_f _ l id (by omega) (by omega))) ?_
  rintro e w' ⟨rfl, hd⟩
  obtain ⟨st, sr'⟩ := below_keep sr hd.below (fun _ q => q) (fun _ q => .inl q)
  exact ⟨_, S, m, rfl, st, sr', .fr (.bool _)⟩
theorem bit_ok : OkG 37 gBit := by
  intro args H r H' h w S K B m vs sr hB ha
  unfold gBit at h
  split at h
  rotate_left
  · cases h
  rename_i x i
  split at h
  rotate_left
  · cases h
  rename_i hc
  cases h
  obtain ⟨v, u, rfl, h1, h2⟩ := all2 ha
  obtain rfl := vr_int h1
  obtain rfl := vr_int h2
  refine Calls.mono (X.incipitlaw19_bit.calls x i (bitB x i) w (by unfold X.incipitlaw19_bit.f; rw [if_pos hc]; rfl)) ?_
  rintro e w' ⟨rfl, hd⟩
  obtain ⟨st, sr'⟩ := below_keep sr hd.below (fun _ q => q) (fun _ q => .inl q)
  exact ⟨_, S, m, rfl, st, sr', .fr (.bool _)⟩
theorem awake_ok : OkG 10 gAwake := by
  intro args H r H' h w S K B m vs sr hB ha
  unfold gAwake at h
  split at h
  rotate_left
  · cases h
  cases h
  match vs, ha with
  | [], _ =>
    refine Calls.mono (X.incipitlaw19_awake.calls 1000002001 true w rfl (X.awake_f _ (by omega))) ?_
    rintro e w' ⟨rfl, hb⟩
    obtain ⟨st, sr'⟩ := below_keep sr hb (fun _ q => q) (fun _ q => .inl q)
    exact ⟨_, S, m, rfl, st, sr', .fr (.bool _)⟩
theorem vr_pair {w : World} {S B : Nat → Prop} {m : Map} {a b : V} {v : Value} (h : VR w S B m (.agg [a, b]) v) : ∃ x y, v = .agg #[x, y] ∧ VR w S B m a x ∧ VR w S B m b y := by
  obtain ⟨xs, rfl, hx⟩ := h.agg_inv
  obtain ⟨x, y, rfl, h1, h2⟩ := all2 hx
  exact ⟨x, y, rfl, h1, h2⟩
theorem v36 {w : World} {S K : Nat → Prop} {m : Map} {H : Heap} (sr : SR w S K m H) {l : List X.S36} {A : Option Addr} {c : Nat} (h : FR w S (spV l) (.slice A l.length c)) (hl : l.length ≤ 9223372036854775807) (hc : l.length ≤ c) : Kd.V X.k36 36 w w.heap.size S (.slice A l.length c) l := by
  refine ⟨A, c, rfl, hc, fun W' hW => ?_⟩
  have h' := h.mono (w' := W') (S' := S) (fun rb q => hW rb q (sr.sub rb q)) (fun _ q => q)
  obtain ⟨A', c', e, _, hC⟩ := c36 h' hl
  injection e with e1 e2 e3
  subst e1
  exact hC
/-- two rows of a call's own are answered -/
theorem res2 {w w' : World} {S K B : Nat → Prop} {m : Map} {H : Heap} (sr : SR w S K m H) (hb : Below w.heap.size w w') {ok0 ok1 : Nat → Prop} {v0 v1 : Value} {l0 l1 : List X.S36} (h0 : Kd.R X.k36 36 w' w.heap.size ok0 v0 l0) (h1 : Kd.R X.k36 36 w' w.heap.size ok1 v1 l1) :
    ∃ S' m', Step K w S m w' S' m' ∧ SR w' S' K m' H ∧ VR w' S' B m' (.agg [spV l0, spV l1]) (.agg #[v0, v1]) := by
  have new : ∀ {v : Value} {l : List X.S36} {ok : Nat → Prop}, Kd.R X.k36 36 w' w.heap.size ok v l → ∀ rb, v.ownBlock = some rb → w.heap.size ≤ rb ∧ rb < w'.heap.size ∧ ∃ o : Obj, w'.heap[rb]? = some o ∧ o.isCells = true := by
    intro v l ok h rb hrb
    obtain ⟨inner, ho⟩ := Kd.R_own h
    obtain ⟨cells, hc⟩ := own_typed ho rb hrb
    exact ⟨own_base ho rb hrb, own_lt ho rb hrb, _, hc, rfl⟩
  obtain ⟨st, sr'⟩ := below_keep (S' := fun rb => S rb ∨ v0.ownBlock = some rb ∨ v1.ownBlock = some rb) sr hb (fun _ q => .inl q) (fun rb q => q.imp id (fun q => q.elim (new h0 rb) (new h1 rb)))
  exact ⟨_, m, st, sr', VR.agg_mk (xs := [v0, v1]) ⟨.fr (fr36 h0 (fun k hk => .inr (.inl hk))), .fr (fr36 h1 (fun k hk => .inr (.inr hk))), trivial⟩⟩
theorem not_ok : OkG 30 gNot := by
  intro args H r H' h w S K B m vs sr hB ha
  unfold gNot at h
  split at h
  rotate_left
  · cases h
  rename_i a b
  split at h
  rotate_left
  · cases h
  rename_i hc
  cases h
  obtain ⟨⟨hs, ht⟩, hl, hk⟩ := hc
  obtain ⟨v, rfl, h1⟩ := all1 ha
  generalize unSp a = l at hs hl ⊢
  generalize unSp b = k at ht hk ⊢
  subst hs; subst ht
  obtain ⟨x, y, rfl, g1, g2⟩ := vr_pair h1
  have f1 := vr_list g1
  have f2 := vr_list g2
  obtain ⟨A, c, rfl, hc, _⟩ := c36 f1 (by omega)
  obtain ⟨A2, c2, rfl, hc2, _⟩ := c36 f2 (by omega)
  refine Calls.mono (X.axis_Not.calls S A c l S A2 c2 k _ _ w (v36 sr f1 (by omega) hc) (v36 sr f2 (by omega) hc2) (X.not_f l k (by omega) (by omega))) ?_
  rintro e w' ⟨v0, v1, rfl, r0, r1, hb⟩
  obtain ⟨S', m', st, sr', hv⟩ := res2 (B := B) sr hb r0 r1
  exact ⟨_, S', m', rfl, st, sr', hv⟩
theorem whole_ok : OkG 31 gWhole := by
  intro args H r H' h w S K B m vs sr hB ha
  unfold gWhole at h
  split at h
  rotate_left
  · cases h
  rename_i a b
  split at h
  rotate_left
  · cases h
  rename_i hc
  cases h
  obtain ⟨⟨hs, ht⟩, hl, hk⟩ := hc
  obtain ⟨v, rfl, h1⟩ := all1 ha
  generalize unSp a = l at hs hl ⊢
  generalize unSp b = k at ht hk ⊢
  subst hs; subst ht
  obtain ⟨x, y, rfl, g1, g2⟩ := vr_pair h1
  have f1 := vr_list g1
  have f2 := vr_list g2
  obtain ⟨A, c, rfl, hc, _⟩ := c36 f1 (by omega)
  obtain ⟨A2, c2, rfl, hc2, _⟩ := c36 f2 (by omega)
  refine Calls.mono (X.axis_Whole.calls 3000001 S A c l S A2 c2 k _ w (v36 sr f1 (by omega) hc) (v36 sr f2 (by omega) hc2) (X.whole_f _ l k (by omega) (by omega) (by omega))) ?_
  rintro e w' ⟨rfl, hb⟩
  obtain ⟨st, sr'⟩ := below_keep sr hb (fun _ q => q) (fun _ q => .inl q)
  exact ⟨_, S, m, rfl, st, sr', .fr (.bool _)⟩
theorem and_ok : OkG 33 gAnd := by
  intro args H r H' h w S K B m vs sr hB ha
  unfold gAnd at h
  split at h
  rotate_left
  · cases h
  rename_i a
  split at h
  rotate_left
  · cases h
  rename_i hc
  cases h
  obtain ⟨hs, hl⟩ := hc
  obtain ⟨v, rfl, h1⟩ := all1 ha
  generalize unKn a = l at hs hl ⊢
  subst hs
  obtain ⟨A, c, rfl, hc, hC⟩ := c47 (vr_list h1) (by have := hl.1; omega) hl.2
  refine Calls.mono (X.axis_And.calls 1000001001 A c l _ _ w hC hc (X.and_f _ l hl.1 hl.2 (by omega))) ?_
  rintro e w' ⟨v0, v1, rfl, r0, r1, hb⟩
  obtain ⟨S', m', st, sr', hv⟩ := res2 (B := B) sr hb r0 r1
  exact ⟨_, S', m', rfl, st, sr', hv⟩
theorem or_ok : OkG 34 gOr := by
  intro args H r H' h w S K B m vs sr hB ha
  unfold gOr at h
  split at h
  rotate_left
  · cases h
  rename_i a
  split at h
  rotate_left
  · cases h
  rename_i hc
  cases h
  obtain ⟨hs, hl⟩ := hc
  obtain ⟨v, rfl, h1⟩ := all1 ha
  generalize unKn a = l at hs hl ⊢
  subst hs
  obtain ⟨A, c, rfl, hc, hC⟩ := c47 (vr_list h1) (by have := hl.1; omega) hl.2
  refine Calls.mono (X.axis_Or.calls 1000001001 A c l _ _ w hC hc (X.or_f _ l hl.1 hl.2 (by omega))) ?_
  rintro e w' ⟨v0, v1, rfl, r0, r1, hb⟩
  obtain ⟨S', m', st, sr', hv⟩ := res2 (B := B) sr hb r0 r1
  exact ⟨_, S', m', rfl, st, sr', hv⟩
noncomputable def axE (f : Nat) : Option (List V → Heap → Option (V × Heap)) :=
  if f = 10 then some gAwake else if f = 26 then some gHas else if f = 36 then some gHas else if f = 37 then some gBit else if f = 30 then some gNot else if f = 31 then some gWhole else if f = 33 then some gAnd else if f = 34 then some gOr else none
noncomputable def acfg : Cfg := { P := Try.prog, pol := fun _ => ⟨false, [], none, [], false⟩, good := [8], ext := axE }
theorem ax_ext : RunOK acfg.P acfg.extern := by
  have key : ∀ f g, axE f = some g → Enters Try.prog f ∧ OkG f g := by
    intro f g h
    unfold axE at h
    split at h
    · rename_i e; subst e; cases h; exact ⟨⟨Try.f10, by kernel_rfl, by kernel_rfl, by kernel_rfl⟩, awake_ok⟩
    split at h
    · rename_i e; subst e; cases h; exact ⟨⟨Try.f26, by kernel_rfl, by kernel_rfl, by kernel_rfl⟩, has_ok⟩
    split at h
    · rename_i e; subst e; cases h; exact ⟨⟨Try.f36, by kernel_rfl, by kernel_rfl, by kernel_rfl⟩, in_ok⟩
    split at h
    · rename_i e; subst e; cases h; exact ⟨⟨Try.f37, by kernel_rfl, by kernel_rfl, by kernel_rfl⟩, bit_ok⟩
    split at h
    · rename_i e; subst e; cases h; exact ⟨⟨Try.f30, by kernel_rfl, by kernel_rfl, by kernel_rfl⟩, not_ok⟩
    split at h
    · rename_i e; subst e; cases h; exact ⟨⟨Try.f31, by kernel_rfl, by kernel_rfl, by kernel_rfl⟩, whole_ok⟩
    split at h
    · rename_i e; subst e; cases h; exact ⟨⟨Try.f33, by kernel_rfl, by kernel_rfl, by kernel_rfl⟩, and_ok⟩
    split at h
    · rename_i e; subst e; cases h; exact ⟨⟨Try.f34, by kernel_rfl, by kernel_rfl, by kernel_rfl⟩, or_ok⟩
    · cases h
  have key2 : ∀ f args H r, acfg.extern f args H = some r → ∃ g, axE f = some g ∧ g args H = some r := by
    intro f args H r h
    unfold Cfg.extern at h
    have e : acfg.ext f = axE f := rfl
    rw [e] at h
    cases hx : axE f with
    | none => rw [hx] at h; cases h
    | some g => rw [hx] at h; exact ⟨g, rfl, h⟩
  refine ⟨fun f args H r h => ?_, fun f args H r H' h => ?_⟩
  · obtain ⟨g, hg, _⟩ := key2 f args H r h
    exact (key f g hg).1
  · obtain ⟨g, hg, hr⟩ := key2 f args H _ h
    exact (key f g hg).2 args H r H' hr
theorem acfg_good : cfgB acfg = true := by kernel_rfl
theorem mixedA : Try.prog.follows .mixedOrders = true := by kernel_rfl
theorem seqA : SeqOK acfg.P acfg.pol := seq_none fun g => rfl
end Go.Proofs.Ytieapebabncliaa.Iv

namespace Go.Proofs.Ytieapebabncliaa.Iv
open Go Go.Proofs.Ytieapebabncliaa
set_option linter.unusedVariables false
set_option linter.unusedSimpArgs false
set_option maxRecDepth 100000
section
variable {o : Option Out} {H : Heap} {Q : V → Heap → Prop} {lg : Log} {k : Nat} {QL : V → Heap → Log → Prop}
theorem gp0 {b : Bool} {v : V} (q : Q v H) : guardW (.bool b) b H (fun q => q ⟨v, [], []⟩) Q := by cases b <;> exact q
theorem gy' {b : Bool} {v : V} {rd : List Id} (h : o = some ⟨v, [], rd⟩) (q : Q v H) : guardW (.bool b) b H (outW o) Q := by subst h; cases b <;> exact q
theorem mk1 (v : V) (rd : List Id) (h : o = some ⟨v, [], rd⟩) (q : Q v H) : stepW o H Q := by subst h; exact q
theorem mkL (v : V) (us : List (Id × Blk)) (rd : List Id) (h : o = some ⟨v, us, rd⟩) (q : QL v (H.sets us) ((k, rd, us.map (·.1)) :: lg)) : stepL o H lg k QL := by subst h; exact q
theorem mkL0 (v : V) (rd : List Id) (h : o = some ⟨v, [], rd⟩) (q : QL v H ((k, rd, []) :: lg)) : stepL o H lg k QL := by subst h; exact q
end
/-! the calls -/
theorem run_ext {f : Nat} {g : List V → Heap → Option (V × Heap)} (h : axE f = some g) (n : Nat) (args : List V) (H : Heap) : run acfg (n + 1) f args H = g args H := by
  show evFun acfg (run acfg n) (again acfg n) f args H = _
  have e : acfg.ext f = some g := h
  unfold evFun Cfg.extern
  rw [e]; rfl
theorem e26 : axE 26 = some gHas := rfl
theorem e36 : axE 36 = some gHas := rfl
theorem e37 : axE 37 = some gBit := rfl
theorem e10 : axE 10 = some gAwake := rfl
theorem e30 : axE 30 = some gNot := rfl
theorem e31 : axE 31 = some gWhole := rfl
theorem e33 : axE 33 = some gAnd := rfl
theorem e34 : axE 34 = some gOr := rfl
theorem gHas_eq {l : List X.S36} {id : Int} (hl : l.length < 1000000) (H : Heap) : gHas [spV l, .int .u32 id] H = some (.bool (X.hasb l id), H) := by
  unfold gHas; simp only [unSp_sp]; rw [if_pos ⟨trivial, hl⟩]
theorem gBit_eq {x i : Int} (h : 0 ≤ Go.bits .and .i64 i 63) (H : Heap) : gBit [.int .u64 x, .int .i64 i] H = some (.bool (bitB x i), H) := by
  unfold gBit; simp only; rw [if_pos h]
theorem gNot_eq {a b : List X.S36} (ha : a.length < 100000) (hb : b.length < 100000) (H : Heap) : gNot [.agg [spV a, spV b]] H = some (.agg [spV (X.unionF b), spV (X.unionF a)], H) := by
  unfold gNot; simp only [unSp_sp]; rw [if_pos ⟨⟨trivial, trivial⟩, ha, hb⟩]
theorem gWhole_eq {a b : List X.S36} (ha : a.length < 100000) (hb : b.length < 100000) (H : Heap) : gWhole [.agg [spV a, spV b]] H = some (.bool (wholeB a b), H) := by
  unfold gWhole; simp only [unSp_sp]; rw [if_pos ⟨⟨trivial, trivial⟩, ha, hb⟩]
theorem gAnd_eq {l : List X.S47} (hl : SmallK l) (H : Heap) : gAnd [knV l] H = some (.agg [spV (X.meetF (l.map (·.f0))), spV (X.unionF (l.map (·.f1)).flatten)], H) := by
  unfold gAnd; simp only; rw [if_pos ⟨by rw [unKn_kn], by rw [unKn_kn]; exact hl⟩, unKn_kn]
theorem gOr_eq {l : List X.S47} (hl : SmallK l) (H : Heap) : gOr [knV l] H = some (.agg [spV (X.unionF (l.map (·.f0)).flatten), spV (X.meetF (l.map (·.f1)))], H) := by
  unfold gOr; simp only; rw [if_pos ⟨by rw [unKn_kn], by rw [unKn_kn]; exact hl⟩, unKn_kn]
section
variable {H : Heap} {d : Nat} {Q : Out → Prop}
theorem wc_of {f : Nat} {g : List V → Heap → Option (V × Heap)} {args : List V} {r : V} (hx : axE f = some g) (hg : ∀ H, g args H = some (r, H)) (h1 : callPre acfg.pol H f args = some ⟨args, fun _ => none, [], [], []⟩)
    (h2 : callPost acfg.pol H d f ⟨args, fun _ => none, [], [], []⟩ r (fun _ => none) = some ⟨r, [], []⟩) (q : Q ⟨r, [], []⟩) : wCall acfg.pol (CallR acfg) H d f args Q := by
  unfold wCall
  rw [h1]
  refine ⟨1, r, fun _ => none, by rw [run_ext hx, hg], ?_⟩
  show outW (callPost acfg.pol H d f ⟨args, fun _ => none, [], [], []⟩ r (fun _ => none)) Q
  rw [h2]; exact q
theorem w_has {l : List X.S36} {id : Int} (hl : l.length < 1000000) (q : Q ⟨.bool (X.hasb l id), [], []⟩) : wCall acfg.pol (CallR acfg) H d 26 [spV l, .int .u32 id] Q := wc_of e26 (gHas_eq hl) (by kernel_rfl) (by kernel_rfl) q
theorem w_in {l : List X.S36} {id : Int} (hl : l.length < 1000000) (q : Q ⟨.bool (X.hasb l id), [], []⟩) : wCall acfg.pol (CallR acfg) H d 36 [spV l, .int .u32 id] Q := wc_of e36 (gHas_eq hl) (by kernel_rfl) (by kernel_rfl) q
theorem w_bit {x i : Int} (h : 0 ≤ Go.bits .and .i64 i 63) (q : Q ⟨.bool (bitB x i), [], []⟩) : wCall acfg.pol (CallR acfg) H d 37 [.int .u64 x, .int .i64 i] Q := wc_of e37 (gBit_eq h) (by kernel_rfl) (by kernel_rfl) q
theorem w_awake (q : Q ⟨.bool true, [], []⟩) : wCall acfg.pol (CallR acfg) H d 10 [] Q := wc_of e10 (fun _ => rfl) (by kernel_rfl) (by kernel_rfl) q
theorem w_not {a b : List X.S36} (ha : a.length < 100000) (hb : b.length < 100000) (q : Q ⟨.agg [spV (X.unionF b), spV (X.unionF a)], [], []⟩) : wCall acfg.pol (CallR acfg) H d 30 [.agg [spV a, spV b]] Q := wc_of e30 (gNot_eq ha hb) (by kernel_rfl) (by kernel_rfl) q
theorem w_whole {a b : List X.S36} (ha : a.length < 100000) (hb : b.length < 100000) (q : Q ⟨.bool (wholeB a b), [], []⟩) : wCall acfg.pol (CallR acfg) H d 31 [.agg [spV a, spV b]] Q := wc_of e31 (gWhole_eq ha hb) (by kernel_rfl) (by kernel_rfl) q
theorem w_and {l : List X.S47} (hl : SmallK l) (q : Q ⟨.agg [spV (X.meetF (l.map (·.f0))), spV (X.unionF (l.map (·.f1)).flatten)], [], []⟩) : wCall acfg.pol (CallR acfg) H d 33 [knV l] Q := wc_of e33 (gAnd_eq hl) (by kernel_rfl) (by kernel_rfl) q
theorem w_or {l : List X.S47} (hl : SmallK l) (q : Q ⟨.agg [spV (X.unionF (l.map (·.f0)).flatten), spV (X.meetF (l.map (·.f1)))], [], []⟩) : wCall acfg.pol (CallR acfg) H d 34 [knV l] Q := wc_of e34 (gOr_eq hl) (by kernel_rfl) (by kernel_rfl) q
end
theorem gcall {H : Heap} {d f : Nat} {args : List V} {Q : V → Heap → Prop} {b : Bool} (h : wCall acfg.pol (CallR acfg) H d f args (fun o => Q o.v (H.sets o.ups))) : guardW (.bool b) b H (wCall acfg.pol (CallR acfg) H d f args) Q := by cases b <;> exact h
section
variable {H : Heap} {d : Nat} {Q : V → Heap → Prop} {b : Bool}
theorem g_has {l : List X.S36} {id : Int} (hl : l.length < 1000000) (q : Q (.bool (X.hasb l id)) H) : guardW (.bool b) b H (wCall acfg.pol (CallR acfg) H d 26 [spV l, .int .u32 id]) Q := gcall (w_has hl q)
theorem g_in {l : List X.S36} {id : Int} (hl : l.length < 1000000) (q : Q (.bool (X.hasb l id)) H) : guardW (.bool b) b H (wCall acfg.pol (CallR acfg) H d 36 [spV l, .int .u32 id]) Q := gcall (w_in hl q)
theorem g_bit {x i : Int} (h : 0 ≤ Go.bits .and .i64 i 63) (q : Q (.bool (bitB x i)) H) : guardW (.bool b) b H (wCall acfg.pol (CallR acfg) H d 37 [.int .u64 x, .int .i64 i]) Q := gcall (w_bit h q)
theorem g_awake (q : Q (.bool true) H) : guardW (.bool b) b H (wCall acfg.pol (CallR acfg) H d 10 []) Q := gcall (w_awake q)
theorem g_whole {a c : List X.S36} (ha : a.length < 100000) (hb : c.length < 100000) (q : Q (.bool (wholeB a c)) H) : guardW (.bool b) b H (wCall acfg.pol (CallR acfg) H d 31 [.agg [spV a, spV c]]) Q := gcall (w_whole ha hb q)
end
/-! types away -/
theorem ia44 {x i} : evIndexAddr Try.prog 44 x i = iaR 2 x i := by kernel_rfl
theorem fa47_0 {x} : evFieldAddr Try.prog 47 x 0 = faR 0 x := by kernel_rfl
theorem fa47_1 {x} : evFieldAddr Try.prog 47 x 1 = faR 1 x := by kernel_rfl
theorem ld26 {H x} : evLoad Try.prog H 26 x = ldR 1 false H x := by kernel_rfl
theorem ld47 {H x} : evLoad Try.prog H 47 x = ldR 2 true H x := by kernel_rfl
theorem st47 {H x y} : evStore Try.prog H 47 x y = stR 2 H x y := by kernel_rfl
theorem len44 {x} : evLen Try.prog 44 x = lenS x := by cases x <;> kernel_rfl
theorem len26 {x} : evLen Try.prog 26 x = lenS x := by cases x <;> kernel_rfl
section
variable {g : Nat → V}
theorem o21 : evOperand (E 176 g) (.tmp 21) = g 21 := by kernel_rfl
theorem o26 : evOperand (E 176 g) (.tmp 26) = g 26 := by kernel_rfl
theorem o44 : evOperand (E 176 g) (.tmp 44) = g 44 := by kernel_rfl
theorem o72 : evOperand (E 176 g) (.tmp 72) = g 72 := by kernel_rfl
theorem o158 : evOperand (E 176 g) (.tmp 158) = g 158 := by kernel_rfl
theorem wres6 {H : Heap} {Q : V → Heap → Prop} (q : Q (g 6) H) : wRes Try.prog [.tmp 6] Q .ret (E 176 g) H := by
  have e : evResults Try.prog H (E 176 g) [.tmp 6] = some [g 6] := by kernel_rfl
  unfold wRes
  simp only [e]; exact q
end
theorem bit63 {i : Nat} (h : i < 8) : 0 ≤ Go.bits .and .i64 (i : Int) 63 := by
  match i, h with
  | 0, _ => decide
  | 1, _ => decide
  | 2, _ => decide
  | 3, _ => decide
  | 4, _ => decide
  | 5, _ => decide
  | 6, _ => decide
  | 7, _ => decide
end Go.Proofs.Ytieapebabncliaa.Iv

namespace Go.Proofs.Ytieapebabncliaa.Iv
open Go Go.Proofs.Ytieapebabncliaa
set_option linter.unusedVariables false
set_option linter.unusedSimpArgs false
set_option maxRecDepth 100000
structure F8 (id x : Int) (al so wh : Bool) (g : Nat → V) : Prop where
  g1 : g 1 = .int .u32 id
  g2 : g 2 = .int .u64 x
  g7 : g 7 = .bool al
  g8 : g 8 = .bool so
  g9 : g 9 = .bool wh
  g11 : g 11 = .ptr (.own 11) 0 0
  g12 : g 12 = .ptr (.own 12) 0 0
  g13 : g 13 = .ptr (.own 13) 0 0
theorem u_ne {g : Nat → V} {i k : Nat} {v : V} {l : List Nat} (hi : l.contains i = false) (hk : k ∈ l) : u g i v k = g k := by
  unfold u
  cases e : Nat.beq k i with
  | false => rfl
  | true =>
    have := Nat.eq_of_beq_eq_true e
    subst this
    simp [hk] at hi
theorem F8.u {id x : Int} {al so wh : Bool} {g : Nat → V} (h : F8 id x al so wh g) {i : Nat} {v : V} (hi : [1, 2, 7, 8, 9, 11, 12, 13].contains i = false) : F8 id x al so wh (Iv.u g i v) :=
  ⟨(u_ne hi (by simp)).trans h.g1, (u_ne hi (by simp)).trans h.g2, (u_ne hi (by simp)).trans h.g7, (u_ne hi (by simp)).trans h.g8, (u_ne hi (by simp)).trans h.g9, (u_ne hi (by simp)).trans h.g11, (u_ne hi (by simp)).trans h.g12, (u_ne hi (by simp)).trans h.g13⟩
structure HB (ay an oy on ny nn : List X.S36) (H : Heap) : Prop where
  b11 : H (.own 11) = some ⟨0, [spV ay, spV an], false, false⟩
  b12 : H (.own 12) = some ⟨0, [spV oy, spV on], false, false⟩
  b13 : H (.own 13) = some ⟨0, [spV ny, spV nn], false, false⟩
structure Hyp (id x : Int) (al so wh : Bool) (ay an oy on ny nn : List X.S36) : Prop where
  h1 : X.hasb ay id = true → al = true
  h2 : X.hasb an id = true → al = false
  h3 : X.hasb oy id = true → so = true
  h4 : X.hasb on id = true → so = false
  h5 : X.hasb ny id = true → bitB x 0 = false
  h6 : X.hasb nn id = true → bitB x 0 = true
  h7 : wh = true → wholeB ay an = true ∧ wholeB oy on = true ∧ wholeB ny nn = true
  s1 : ay.length < 100000
  s2 : an.length < 100000
  s3 : oy.length < 100000
  s4 : on.length < 100000
  s5 : ny.length < 100000
  s6 : nn.length < 100000
theorem ldp0 {H : Heap} {i : Id} {a b : V} (h : H i = some ⟨0, [a, b], false, false⟩) : ldR 1 false H (.ptr i 0 (0 + 0)) = some ⟨a, [], [i]⟩ := by
  have l1 : live H i 0 = some ⟨0, [a, b], false, false⟩ := by simp [live, h]
  unfold ldR; simp only [l1]; rfl
theorem ldp1 {H : Heap} {i : Id} {a b : V} (h : H i = some ⟨0, [a, b], false, false⟩) : ldR 1 false H (.ptr i 0 (0 + 1)) = some ⟨b, [], [i]⟩ := by
  have l1 : live H i 0 = some ⟨0, [a, b], false, false⟩ := by simp [live, h]
  unfold ldR; simp only [l1]; rfl
theorem ldpa {H : Heap} {i : Id} {a b : V} (h : H i = some ⟨0, [a, b], false, false⟩) : ldR 2 true H (.ptr i 0 0) = some ⟨.agg [a, b], [], [i]⟩ := by
  have l1 : live H i 0 = some ⟨0, [a, b], false, false⟩ := by simp [live, h]
  unfold ldR; simp only [l1]; rfl
theorem fap {i : Id} {n : Nat} : faR n (.ptr i 0 0) = pureO (.ptr i 0 (0 + n)) := rfl
theorem nf {b : Bool} {P : Prop} (h : b = false) (h' : b = true) : P := by subst h; cases h'
theorem bit0 : 0 ≤ Go.bits .and .i64 0 63 := by decide
section
variable {id x : Int} {al so wh : Bool} {ay an oy on ny nn : List X.S36} {g : Nat → V} {H : Heap} {R : List V → Heap → Prop}
set_option maxHeartbeats 4000000 in
theorem t48 (hy : Hyp id x al so wh ay an oy on ny nn) (hB : HB ay an oy on ny nn H) (hF : F8 id x al so wh g) (h148 : g 148 = .bool false) (h149 : g 149 = .ptr (.own 13) 0 (0 + 1)) (hq : ∀ g', F8 id x al so wh g' → g' 158 = .bool false → R (E 176 g') H) : wOps Try.prog acfg.pol (CallR acfg) o8_51 d8_51_48 48 (E 176 g) H R := by
  simp only [w8_51_48, h148, h149, hF.g1, hF.g2, hF.g7, hF.g8, hF.g9, hF.g11, hF.g12, hF.g13, fa47_0, fa47_1, ld26, ld47]
  refine gy' (ldp1 hB.b13) ?_
  refine gp0 ?_
  refine g_has (Nat.lt_of_lt_of_le hy.s6 (by decide)) ?_
  cases hb : X.hasb nn id with
  | false =>
    repeat (first | refine gnf ?_ | refine gnt ?_ | refine gnu ?_ | refine gp0 ?_ | refine gy0 (.bool false) rfl ?_ | refine gy0 (.bool true) rfl ?_ | refine mk0 (.bool false) rfl ?_ | refine mk0 (.bool true) rfl ?_)
    exact hq _ (by repeat (first | exact hF | refine F8.u ?_ rfl)) rfl
  | true =>
    refine gp0 ?_
    refine gp0 ?_
    refine g_bit bit0 ?_
    rw [hy.h6 hb]
    repeat (first | refine gnf ?_ | refine gnt ?_ | refine gnu ?_ | refine gp0 ?_ | refine gy0 (.bool false) rfl ?_ | refine gy0 (.bool true) rfl ?_ | refine mk0 (.bool false) rfl ?_ | refine mk0 (.bool true) rfl ?_)
    exact hq _ (by repeat (first | exact hF | refine F8.u ?_ rfl)) rfl
set_option maxHeartbeats 4000000 in
theorem t36 (hy : Hyp id x al so wh ay an oy on ny nn) (hB : HB ay an oy on ny nn H) (hF : F8 id x al so wh g) (h137 : g 137 = .bool false) (hq : ∀ g', F8 id x al so wh g' → g' 158 = .bool false → R (E 176 g') H) : wOps Try.prog acfg.pol (CallR acfg) o8_51 d8_51_36 36 (E 176 g) H R := by
  simp only [w8_51_36c, w8_51_36, h137, hF.g1, hF.g2, hF.g7, hF.g8, hF.g9, hF.g11, hF.g12, hF.g13, fa47_0, fa47_1, ld26, ld47]
  refine gy' fap ?_
  refine gy' (ldp0 hB.b13) ?_
  refine gp0 ?_
  refine g_has (Nat.lt_of_lt_of_le hy.s5 (by decide)) ?_
  cases hb : X.hasb ny id with
  | false =>
    repeat (first | refine gnf ?_ | refine gnt ?_ | refine gnu ?_ | refine gp0 ?_ | refine gy0 (.bool false) rfl ?_ | refine gy0 (.bool true) rfl ?_ | refine mk0 (.bool false) rfl ?_ | refine mk0 (.bool true) rfl ?_)
    try refine gy' fap ?_
    exact t48 hy hB (by repeat (first | exact hF | refine F8.u ?_ rfl)) rfl rfl hq
  | true =>
    refine gp0 ?_
    refine gp0 ?_
    refine g_bit bit0 ?_
    rw [hy.h5 hb]
    repeat (first | refine gnf ?_ | refine gnt ?_ | refine gnu ?_ | refine gp0 ?_ | refine gy0 (.bool false) rfl ?_ | refine gy0 (.bool true) rfl ?_ | refine mk0 (.bool false) rfl ?_ | refine mk0 (.bool true) rfl ?_)
    try refine gy' fap ?_
    exact t48 hy hB (by repeat (first | exact hF | refine F8.u ?_ rfl)) rfl rfl hq
set_option maxHeartbeats 4000000 in
theorem t24 (hy : Hyp id x al so wh ay an oy on ny nn) (hB : HB ay an oy on ny nn H) (hF : F8 id x al so wh g) (h119 : g 119 = .bool false) (h124 : g 124 = .bool (X.hasb oy id)) (h125 : X.hasb oy id = true → g 125 = .bool so) (hq : ∀ g', F8 id x al so wh g' → g' 158 = .bool false → R (E 176 g') H) : wOps Try.prog acfg.pol (CallR acfg) o8_51 d8_51_24 24 (E 176 g) H R := by
  simp only [w8_51_24c, w8_51_24, h119, h124, hF.g1, hF.g2, hF.g7, hF.g8, hF.g9, hF.g11, hF.g12, hF.g13, fa47_0, fa47_1, ld26, ld47]
  cases hb : X.hasb oy id with
  | false =>
    refine gnf ?_
    refine gy0 (.bool false) rfl ?_
    refine mk0 (.bool false) rfl ?_
    refine gy' fap ?_
    refine gy' (ldp1 hB.b12) ?_
    refine gp0 ?_
    refine g_has (Nat.lt_of_lt_of_le hy.s4 (by decide)) ?_
    cases hc : X.hasb on id with
    | false =>
      repeat (first | refine gnf ?_ | refine gnt ?_ | refine gnu ?_ | refine gp0 ?_ | refine gy0 (.bool false) rfl ?_ | refine gy0 (.bool true) rfl ?_ | refine mk0 (.bool false) rfl ?_ | refine mk0 (.bool true) rfl ?_)
      exact t36 hy hB (by repeat (first | exact hF | refine F8.u ?_ rfl)) rfl hq
    | true =>
      have e := hy.h4 hc
      subst e
      repeat (first | refine gnf ?_ | refine gnt ?_ | refine gnu ?_ | refine gp0 ?_ | refine gy0 (.bool false) rfl ?_ | refine gy0 (.bool true) rfl ?_ | refine mk0 (.bool false) rfl ?_ | refine mk0 (.bool true) rfl ?_)
      exact t36 hy hB (by repeat (first | exact hF | refine F8.u ?_ rfl)) rfl hq
  | true =>
    have e := hy.h3 hb
    rw [h125 hb]
    subst e
    refine gy0 (.bool false) rfl ?_
    refine gy0 (.bool false) rfl ?_
    refine mk0 (.bool false) rfl ?_
    refine gy' fap ?_
    refine gy' (ldp1 hB.b12) ?_
    refine gp0 ?_
    refine g_has (Nat.lt_of_lt_of_le hy.s4 (by decide)) ?_
    cases hc : X.hasb on id with
    | false =>
      repeat (first | refine gnf ?_ | refine gnt ?_ | refine gnu ?_ | refine gp0 ?_ | refine gy0 (.bool false) rfl ?_ | refine gy0 (.bool true) rfl ?_ | refine mk0 (.bool false) rfl ?_ | refine mk0 (.bool true) rfl ?_)
      exact t36 hy hB (by repeat (first | exact hF | refine F8.u ?_ rfl)) rfl hq
    | true =>
      have e : False := by
        have e := hy.h4 hc
        cases e
      exact e.elim
set_option maxHeartbeats 4000000 in
theorem t12 (hy : Hyp id x al so wh ay an oy on ny nn) (hB : HB ay an oy on ny nn H) (hF : F8 id x al so wh g) (h110 : g 110 = .bool false) (h112 : g 112 = spV an) (h113 : g 113 = .int .u32 id) (hq : ∀ g', F8 id x al so wh g' → g' 158 = .bool false → R (E 176 g') H) : wOps Try.prog acfg.pol (CallR acfg) o8_51 d8_51_12 12 (E 176 g) H R := by
  simp only [w8_51_12c, w8_51_12, h110, h112, h113, hF.g1, hF.g2, hF.g7, hF.g8, hF.g9, hF.g11, hF.g12, hF.g13, fa47_0, fa47_1, ld26, ld47]
  refine g_has (Nat.lt_of_lt_of_le hy.s2 (by decide)) ?_
  cases hb : X.hasb an id with
  | false =>
    repeat (first | refine gnf ?_ | refine gnt ?_ | refine gnu ?_ | refine gp0 ?_ | refine gy0 (.bool false) rfl ?_ | refine gy0 (.bool true) rfl ?_ | refine mk0 (.bool false) rfl ?_ | refine mk0 (.bool true) rfl ?_)
    try refine gy' fap ?_
    refine gy' (ldp0 hB.b12) ?_
    refine gp0 ?_
    refine g_has (Nat.lt_of_lt_of_le hy.s3 (by decide)) ?_
    refine gp0 ?_
    cases hc : X.hasb oy id with
    | false =>
      refine gnf ?_
      exact t24 hy hB (by repeat (first | exact hF | refine F8.u ?_ rfl)) rfl (by rw [hc]; rfl) (fun h => nf hc h) hq
    | true =>
      refine gp0 ?_
      exact t24 hy hB (by repeat (first | exact hF | refine F8.u ?_ rfl)) rfl (by rw [hc]; rfl) (fun _ => rfl) hq
  | true =>
    have e := hy.h2 hb
    subst e
    repeat (first | refine gnf ?_ | refine gnt ?_ | refine gnu ?_ | refine gp0 ?_ | refine gy0 (.bool false) rfl ?_ | refine gy0 (.bool true) rfl ?_ | refine mk0 (.bool false) rfl ?_ | refine mk0 (.bool true) rfl ?_)
    try refine gy' fap ?_
    refine gy' (ldp0 hB.b12) ?_
    refine gp0 ?_
    refine g_has (Nat.lt_of_lt_of_le hy.s3 (by decide)) ?_
    refine gp0 ?_
    cases hc : X.hasb oy id with
    | false =>
      refine gnf ?_
      exact t24 hy hB (by repeat (first | exact hF | refine F8.u ?_ rfl)) rfl (by rw [hc]; rfl) (fun h => nf hc h) hq
    | true =>
      refine gp0 ?_
      exact t24 hy hB (by repeat (first | exact hF | refine F8.u ?_ rfl)) rfl (by rw [hc]; rfl) (fun _ => rfl) hq
set_option maxHeartbeats 4000000 in
theorem t0 (hy : Hyp id x al so wh ay an oy on ny nn) (hB : HB ay an oy on ny nn H) (hF : F8 id x al so wh g) (hq : ∀ g', F8 id x al so wh g' → g' 158 = .bool false → R (E 176 g') H) : wOps Try.prog acfg.pol (CallR acfg) o8_51 d8_51_0 0 (E 176 g) H R := by
  simp only [w8_51_0c, w8_51_0, hF.g1, hF.g2, hF.g7, hF.g8, hF.g9, hF.g11, hF.g12, hF.g13, fa47_0, fa47_1, ld26, ld47]
  refine mk0 _ fap ?_
  refine mk1 _ _ (ldp0 hB.b11) ?_
  refine w_has (Nat.lt_of_lt_of_le hy.s1 (by decide)) ?_
  cases hb : X.hasb ay id with
  | false =>
    refine gnf ?_
    refine gnf ?_
    refine mk0 (.bool false) rfl ?_
    refine gy' fap ?_
    refine gy' (ldp1 hB.b11) ?_
    refine gp0 ?_
    exact t12 hy hB (by repeat (first | exact hF | refine F8.u ?_ rfl)) rfl rfl rfl hq
  | true =>
    have e := hy.h1 hb
    subst e
    refine gp0 ?_
    refine gy0 (.bool false) rfl ?_
    refine mk0 (.bool false) rfl ?_
    refine gy' fap ?_
    refine gy' (ldp1 hB.b11) ?_
    refine gp0 ?_
    exact t12 hy hB (by repeat (first | exact hF | refine F8.u ?_ rfl)) rfl rfl rfl hq
end
end Go.Proofs.Ytieapebabncliaa.Iv

namespace Go.Proofs.Ytieapebabncliaa.Iv
open Go Go.Proofs.Ytieapebabncliaa
set_option linter.unusedVariables false
set_option linter.unusedSimpArgs false
set_option maxRecDepth 100000
section
variable {id x : Int} {al so wh : Bool} {ay an oy on ny nn : List X.S36} {g : Nat → V} {H : Heap} {Q : KQ}
set_option maxHeartbeats 4000000 in
theorem t58 (hy : Hyp id x al so wh ay an oy on ny nn) (hB : HB ay an oy on ny nn H) (hF : F8 id x al so wh g) (hq : ∀ g', g' 6 = .bool true → Q .ret (E 176 g') H) : wC Try.prog acfg.pol (CallR acfg) (LoopR acfg) c8_57 (E 176 g) H Q := by
  simp only [w8_57, w8_58, w8_58_0c, w8_58_0, w8_58_12, w8_59, seqK, hF.g9, hF.g11, hF.g12, hF.g13, ld47]
  cases hw : wh with
  | false =>
    subst hw
    refine mk0 (.bool true) rfl ?_
    refine gnt ?_
    refine gnt ?_
    refine gnt ?_
    refine gnu ?_
    refine gnu ?_
    refine gnt ?_
    refine gnt ?_
    refine gnu ?_
    refine gnu ?_
    refine gnt ?_
    refine mk0 (.bool true) rfl ?_
    refine g_awake ?_
    refine mk0 (.bool true) rfl ?_
    exact hq _ rfl
  | true =>
    obtain ⟨h1, h2, h3⟩ := hy.h7 hw
    refine mk0 (.bool false) rfl ?_
    refine gy' (ldpa hB.b11) ?_
    refine g_whole hy.s1 hy.s2 ?_
    rw [h1]
    refine gp0 ?_
    refine gy' (ldpa hB.b12) ?_
    refine g_whole hy.s3 hy.s4 ?_
    rw [h2]
    refine gy0 (.bool true) rfl ?_
    refine gp0 ?_
    refine gy' (ldpa hB.b13) ?_
    refine g_whole hy.s5 hy.s6 ?_
    rw [h3]
    refine gy0 (.bool true) rfl ?_
    refine mk0 (.bool true) rfl ?_
    refine g_awake ?_
    refine mk0 (.bool true) rfl ?_
    exact hq _ rfl
theorem t49 (hy : Hyp id x al so wh ay an oy on ny nn) (hB : HB ay an oy on ny nn H) (hF : F8 id x al so wh g) (hq : ∀ g', g' 6 = .bool true → Q .ret (E 176 g') H) : wC Try.prog acfg.pol (CallR acfg) (LoopR acfg) c8_49 (E 176 g) H Q := by
  simp only [w8_49, w8_50, w8_51, seqK]
  refine t0 hy hB hF (fun g' hF' h158 => ?_)
  simp only [seqK, w8_52, o158, h158]
  refine condF ?_
  simp only [w8_56]
  exact t58 hy hB hF' hq
end
theorem hs_self {H : Heap} {i : Id} {b : Blk} : (H.sets [(i, b)]) i = some b := by show (H.set i b) i = _; simp [Heap.set]
theorem hs_oth {H : Heap} {i j : Id} {b : Blk} (h : j ≠ i) : (H.sets [(i, b)]) j = H j := by show (H.set i b) j = _; simp [Heap.set, h]
theorem al47 {H : Heap} {d : Nat} : allocO Try.prog H d 47 = some ⟨.ptr (.own d) (nextGen H (.own d)) 0, [(.own d, ⟨nextGen H (.own d), [.nils, .nils], false, false⟩)], [.own d]⟩ := by kernel_rfl
theorem stp {H : Heap} {i : Id} {c e : V} {a b : List X.S36} (h : H i = some ⟨0, [c, e], false, false⟩) : stR 2 H (.ptr i 0 0) (.agg [spV a, spV b]) = some ⟨.und, [(i, ⟨0, [spV a, spV b], false, false⟩)], [i]⟩ := by
  have l1 : live H i 0 = some ⟨0, [c, e], false, false⟩ := by simp [live, h]
  unfold stR
  simp only [l1]
  rfl
section
variable {H : Heap} {d k : Nat} {lg : Log} {QL : V → Heap → Log → Prop}
theorem cL_and {l : List X.S47} (hl : SmallK l) (q : QL (.agg [spV (X.meetF (l.map (·.f0))), spV (X.unionF (l.map (·.f1)).flatten)]) H ((k, [], []) :: lg)) : callL acfg.pol (CallR acfg) H lg k d 33 [knV l] QL := w_and hl q
theorem cL_or {l : List X.S47} (hl : SmallK l) (q : QL (.agg [spV (X.unionF (l.map (·.f0)).flatten), spV (X.meetF (l.map (·.f1)))]) H ((k, [], []) :: lg)) : callL acfg.pol (CallR acfg) H lg k d 34 [knV l] QL := w_or hl q
theorem cL_not {a b : List X.S36} (ha : a.length < 100000) (hb : b.length < 100000) (q : QL (.agg [spV (X.unionF b), spV (X.unionF a)]) H ((k, [], []) :: lg)) : callL acfg.pol (CallR acfg) H lg k d 30 [.agg [spV a, spV b]] QL := w_not ha hb q
end
set_option maxHeartbeats 4000000 in
theorem t47 {id x : Int} {al so wh : Bool} {g : Nat → V} {H : Heap} {Q : KQ} {y : X.S47} {r : List X.S47} (hs : SmallK (y :: r))
    (hy : Hyp id x al so wh (X.meetF ((y :: r).map (·.f0))) (X.unionF ((y :: r).map (·.f1)).flatten) (X.unionF ((y :: r).map (·.f0)).flatten) (X.meetF ((y :: r).map (·.f1))) (X.unionF y.f1) (X.unionF y.f0))
    (h11 : H (.own 11) = none) (h12 : H (.own 12) = none) (h13 : H (.own 13) = none)
    (g0 : g 0 = knV (y :: r)) (g1 : g 1 = .int .u32 id) (g2 : g 2 = .int .u64 x) (g7 : g 7 = .bool al) (g8 : g 8 = .bool so) (g9 : g 9 = .bool wh)
    (hq : ∀ g' H', g' 6 = .bool true → Q .ret (E 176 g') H') : wC Try.prog acfg.pol (CallR acfg) (LoopR acfg) c8_47 (E 176 g) H Q := by
  simp only [w8_47, w8_48, w8_48_0c, w8_48_0, seqK, g0, ia44, ld47, st47]
  refine mkL0 _ [] rfl ?_
  refine cL_and hs ?_
  refine mkL0 _ [] rfl ?_
  refine cL_or hs ?_
  refine mkL0 _ [] rfl ?_
  refine mkL0 (.fptr (kRow y) false) [] (ia_list (i := 0) rfl rfl (by decide)) ?_
  refine mkL0 (.agg (kRow y)) [] rfl ?_
  refine cL_not (Nat.lt_trans (hs.2 y (by simp)).1 (by decide)) (Nat.lt_trans (hs.2 y (by simp)).2 (by decide)) ?_
  have n11 : nextGen H (.own 11) = 0 := by simp [nextGen, h11]
  refine mkL _ _ _ al47 ?_
  rw [n11]
  have a1 := hs_self (H := H) (i := .own 11) (b := ⟨0, [.nils, .nils], false, false⟩)
  have a2 : (H.sets [(.own 11, ⟨0, [.nils, .nils], false, false⟩)]) (.own 12) = none := by rw [hs_oth (by decide)]; exact h12
  have a3 : (H.sets [(.own 11, ⟨0, [.nils, .nils], false, false⟩)]) (.own 13) = none := by rw [hs_oth (by decide)]; exact h13
  generalize (H.sets [(.own 11, ⟨0, [.nils, .nils], false, false⟩)]) = H1 at a1 a2 a3 ⊢
  have n12 : nextGen H1 (.own 12) = 0 := by simp [nextGen, a2]
  refine mkL _ _ _ al47 ?_
  rw [n12]
  have b1 : (H1.sets [(.own 12, ⟨0, [.nils, .nils], false, false⟩)]) (.own 11) = some ⟨0, [.nils, .nils], false, false⟩ := by rw [hs_oth (by decide)]; exact a1
  have b2 := hs_self (H := H1) (i := .own 12) (b := ⟨0, [.nils, .nils], false, false⟩)
  have b3 : (H1.sets [(.own 12, ⟨0, [.nils, .nils], false, false⟩)]) (.own 13) = none := by rw [hs_oth (by decide)]; exact a3
  generalize (H1.sets [(.own 12, ⟨0, [.nils, .nils], false, false⟩)]) = H2 at b1 b2 b3 ⊢
  have n13 : nextGen H2 (.own 13) = 0 := by simp [nextGen, b3]
  refine mkL _ _ _ al47 ?_
  rw [n13]
  have c1 : (H2.sets [(.own 13, ⟨0, [.nils, .nils], false, false⟩)]) (.own 11) = some ⟨0, [.nils, .nils], false, false⟩ := by rw [hs_oth (by decide)]; exact b1
  have c2 : (H2.sets [(.own 13, ⟨0, [.nils, .nils], false, false⟩)]) (.own 12) = some ⟨0, [.nils, .nils], false, false⟩ := by rw [hs_oth (by decide)]; exact b2
  have c3 := hs_self (H := H2) (i := .own 13) (b := ⟨0, [.nils, .nils], false, false⟩)
  generalize (H2.sets [(.own 13, ⟨0, [.nils, .nils], false, false⟩)]) = H3 at c1 c2 c3 ⊢
  refine mkL _ _ _ (stp c1) ?_
  generalize hd1 : spV (X.meetF ((y :: r).map (·.f0))) = A1
  generalize hd2 : spV (X.unionF ((y :: r).map (·.f1)).flatten) = A2
  have d1 := hs_self (H := H3) (i := .own 11) (b := ⟨0, [A1, A2], false, false⟩)
  have d2 : (H3.sets [(.own 11, ⟨0, [A1, A2], false, false⟩)]) (.own 12) = some ⟨0, [.nils, .nils], false, false⟩ := by rw [hs_oth (by decide)]; exact c2
  have d3 : (H3.sets [(.own 11, ⟨0, [A1, A2], false, false⟩)]) (.own 13) = some ⟨0, [.nils, .nils], false, false⟩ := by rw [hs_oth (by decide)]; exact c3
  generalize (H3.sets [(.own 11, ⟨0, [A1, A2], false, false⟩)]) = H4 at d1 d2 d3 ⊢
  simp only [w8_48_12, st47]
  refine mkL _ _ _ (stp d2) ?_
  generalize hd3 : spV (X.unionF ((y :: r).map (·.f0)).flatten) = A3
  generalize hd4 : spV (X.meetF ((y :: r).map (·.f1))) = A4
  have e1 : (H4.sets [(.own 12, ⟨0, [A3, A4], false, false⟩)]) (.own 11) = some ⟨0, [A1, A2], false, false⟩ := by rw [hs_oth (by decide)]; exact d1
  have e2 := hs_self (H := H4) (i := .own 12) (b := ⟨0, [A3, A4], false, false⟩)
  have e3 : (H4.sets [(.own 12, ⟨0, [A3, A4], false, false⟩)]) (.own 13) = some ⟨0, [.nils, .nils], false, false⟩ := by rw [hs_oth (by decide)]; exact d3
  generalize (H4.sets [(.own 12, ⟨0, [A3, A4], false, false⟩)]) = H5 at e1 e2 e3 ⊢
  refine mkL _ _ _ (stp e3) ?_
  refine ⟨by kernel_rfl, ?_⟩
  subst hd1 hd2 hd3 hd4
  refine t49 hy ⟨?_, ?_, hs_self⟩ ⟨g1, g2, g7, g8, g9, rfl, rfl, rfl⟩ (fun g' h => hq g' _ h)
  · rw [hs_oth (by decide)]; exact e1
  · rw [hs_oth (by decide)]; exact e2
end Go.Proofs.Ytieapebabncliaa.Iv

namespace Go.Proofs.Ytieapebabncliaa.Iv
open Go Go.Proofs.Ytieapebabncliaa
set_option linter.unusedVariables false
set_option linter.unusedSimpArgs false
set_option maxRecDepth 100000
def allB (x : Int) : Nat → Bool
  | 0 => true
  | j + 1 => allB x j && bitB x (j : Int)
def someB (x : Int) : Nat → Bool
  | 0 => false
  | j + 1 => someB x j || bitB x (j : Int)
def whA (l : List X.S47) : Bool := l.all fun y => wholeB y.f0 y.f1
def OkY (id x : Int) (y : X.S47) (i : Nat) : Prop := (X.hasb y.f0 id = true → bitB x (i : Int) = true) ∧ (X.hasb y.f1 id = true → bitB x (i : Int) = false)
structure FL (l : List X.S47) (id x : Int) (a s w : Bool) (j : Nat) (g : Nat → V) : Prop where
  g0 : g 0 = knV l
  g1 : g 1 = .int .u32 id
  g2 : g 2 = .int .u64 x
  g7 : g 7 = .bool a
  g8 : g 8 = .bool s
  g9 : g 9 = .bool w
  g10 : g 10 = .int .i64 ((j : Nat) : Int)
theorem FL.u {l : List X.S47} {id x : Int} {a s w : Bool} {j : Nat} {g : Nat → V} (h : FL l id x a s w j g) {i : Nat} {v : V} (hi : [0, 1, 2, 7, 8, 9, 10].contains i = false) : FL l id x a s w j (Iv.u g i v) :=
  ⟨(u_ne hi (by simp)).trans h.g0, (u_ne hi (by simp)).trans h.g1, (u_ne hi (by simp)).trans h.g2, (u_ne hi (by simp)).trans h.g7, (u_ne hi (by simp)).trans h.g8, (u_ne hi (by simp)).trans h.g9, (u_ne hi (by simp)).trans h.g10⟩
theorem lssN {P : Program} {t : Nat} {k : IntKind} {a b : Nat} : liftO (evBin P t .lss (.int k (a : Int)) (.int k (b : Int))) = pureO (.bool (decide (a < b))) := by simp [evBin, evInt, liftO]
theorem gtrN {P : Program} {t : Nat} {k : IntKind} {a : Nat} : liftO (evBin P t .gtr (.int k (a : Int)) (.int k 40)) = pureO (.bool (decide (40 < a))) := by
  rw [bin_gtr]
  congr 2
  exact decide_eq_decide.2 (by omega)
theorem lenR {α : Type} {f : α → List V} {l : List α} {b : Bool} : lenS (.list (l.map f) b) = pureO (.int .i64 ((l.length : Nat) : Int)) := by simp [lenS]
theorem cW_in {H : Heap} {d : Nat} {Q : V → Heap → Prop} {l : List X.S36} {id : Int} (hl : l.length < 1000000) (q : Q (.bool (X.hasb l id)) H) : callW acfg.pol (CallR acfg) H d 36 [spV l, .int .u32 id] Q := w_in hl q
theorem cW_awake {H : Heap} {d : Nat} {Q : V → Heap → Prop} (q : Q (.bool true) H) : callW acfg.pol (CallR acfg) H d 10 [] Q := w_awake q
section
variable {l : List X.S47} {id x : Int} {a s w : Bool} {j : Nat} {g : Nat → V} {H : Heap} {R : List V → Heap → Prop} {y : X.S47}
set_option maxHeartbeats 4000000 in
theorem r35_24 (hj : j < 8) (hF : FL l id x a s w j g) {Pp : Prop} (hd : (g 59 = .bool true ∧ g 67 = .tup []) ∨ (g 59 = .bool false ∧ g 67 = .bool false ∧ Pp) ∨ (g 59 = .bool false ∧ g 67 = .bool true ∧ g 68 = .int .u64 x ∧ g 69 = .int .i64 ((j : Nat) : Int) ∧ (bitB x (j : Int) = false → Pp)))
    (hq : ∀ g' b, FL l id x a s w j g' → g' 72 = .bool b → (b = false → Pp) → R (E 176 g') H) : wOps Try.prog acfg.pol (CallR acfg) o8_35 d8_35_24 24 (E 176 g) H R := by
  rcases hd with ⟨h59, h67⟩ | ⟨h59, h67, hp⟩ | ⟨h59, h67, h68, h69, hp⟩
  · simp only [w8_35_24, h59, h67]
    refine gnu ?_
    refine gnt ?_
    refine mk0 (.bool true) rfl ?_
    exact hq _ true (by repeat (first | exact hF | refine FL.u ?_ rfl)) rfl (fun h => by cases h)
  · simp only [w8_35_24, h59, h67]
    refine gnf ?_
    refine gy0 (.bool false) rfl ?_
    refine mk0 (.bool false) rfl ?_
    exact hq _ false (by repeat (first | exact hF | refine FL.u ?_ rfl)) rfl (fun _ => hp)
  · simp only [w8_35_24, h59, h67, h68, h69]
    refine g_bit (bit63 hj) ?_
    refine gy0 (.bool (bitB x (j : Int))) rfl ?_
    refine mk0 (.bool (bitB x (j : Int))) rfl ?_
    exact hq _ (bitB x (j : Int)) (by repeat (first | exact hF | refine FL.u ?_ rfl)) rfl hp
set_option maxHeartbeats 4000000 in
theorem r35_12 (hy : l[j]? = some y) (hs : y.f1.length < 1000) (hj : j < 8) (hF : FL l id x a s w j g) (hd : (g 53 = .bool true ∧ X.hasb y.f0 id = true ∧ g 57 = .bool (!bitB x (j : Int))) ∨ (g 53 = .bool false ∧ X.hasb y.f0 id = false))
    (hq : ∀ g' b, FL l id x a s w j g' → g' 72 = .bool b → (b = false → OkY id x y j) → R (E 176 g') H) : wOps Try.prog acfg.pol (CallR acfg) o8_35 d8_35_12 12 (E 176 g) H R := by
  have hrow : (l.map kRow)[j]? = some (kRow y) := by simp [hy]
  rcases hd with ⟨h53, hin, h57⟩ | ⟨h53, hin⟩
  · cases hb : bitB x (j : Int) with
    | false =>
      simp only [w8_35_12c, w8_35_12, h53, h57, hb, hF.g0, hF.g1, hF.g2, hF.g10, ia44, fa47_0, fa47_1, ld26, ld47, len26]
      refine mk0 (.bool true) rfl ?_
      refine gnt ?_
      refine gnt ?_
      refine gnt ?_
      refine gnt ?_
      refine gnt ?_
      refine gnt ?_
      refine gnt ?_
      refine gnt ?_
      refine gnu ?_
      refine gnu ?_
      exact r35_24 (Pp := OkY id x y j) hj (by repeat (first | exact hF | refine FL.u ?_ rfl)) (.inl ⟨rfl, rfl⟩) hq
    | true =>
      simp only [w8_35_12c, w8_35_12, h53, h57, hb, hF.g0, hF.g1, hF.g2, hF.g10, ia44, fa47_0, fa47_1, ld26, ld47, len26]
      refine mk0 (.bool false) rfl ?_
      refine gp0 ?_
      refine gp0 ?_
      refine gy' (v := .fptr (kRow y) false) (ia_list hrow rfl (by decide)) ?_
      refine gy' (v := .fptr [spV y.f1] false) rfl ?_
      refine gy' (v := spV y.f1) rfl ?_
      refine gp0 ?_
      refine g_in (Nat.lt_trans hs (by decide)) ?_
      refine gp0 ?_
      cases hc : X.hasb y.f1 id with
      | false =>
        refine gnf ?_
        refine gnf ?_
        exact r35_24 (Pp := OkY id x y j) hj (by repeat (first | exact hF | refine FL.u ?_ rfl)) (.inr (.inl ⟨rfl, rfl, fun _ => hb, fun h => nf hc h⟩)) hq
      | true =>
        refine gp0 ?_
        refine gp0 ?_
        exact r35_24 (Pp := OkY id x y j) hj (by repeat (first | exact hF | refine FL.u ?_ rfl)) (.inr (.inr ⟨rfl, rfl, rfl, rfl, fun h => nf h hb⟩)) hq
  · simp only [w8_35_12c, w8_35_12, h53, hF.g0, hF.g1, hF.g2, hF.g10, ia44, fa47_0, fa47_1, ld26, ld47, len26]
    refine mk0 (.bool false) rfl ?_
    refine gp0 ?_
    refine gp0 ?_
    refine gy' (v := .fptr (kRow y) false) (ia_list hrow rfl (by decide)) ?_
    refine gy' (v := .fptr [spV y.f1] false) rfl ?_
    refine gy' (v := spV y.f1) rfl ?_
    refine gp0 ?_
    refine g_in (Nat.lt_trans hs (by decide)) ?_
    refine gp0 ?_
    cases hc : X.hasb y.f1 id with
    | false =>
      refine gnf ?_
      refine gnf ?_
      exact r35_24 (Pp := OkY id x y j) hj (by repeat (first | exact hF | refine FL.u ?_ rfl)) (.inr (.inl ⟨rfl, rfl, fun h => nf hin h, fun h => nf hc h⟩)) hq
    | true =>
      refine gp0 ?_
      refine gp0 ?_
      exact r35_24 (Pp := OkY id x y j) hj (by repeat (first | exact hF | refine FL.u ?_ rfl)) (.inr (.inr ⟨rfl, rfl, rfl, rfl, fun h => ⟨fun h' => nf hin h', fun _ => h⟩⟩)) hq
set_option maxHeartbeats 4000000 in
theorem r35 (hy : l[j]? = some y) (hs : y.f0.length < 1000 ∧ y.f1.length < 1000) (hj : j < 8) (hF : FL l id x a s w j g)
    (hq : ∀ g' b, FL l id x a s w j g' → g' 72 = .bool b → (b = false → OkY id x y j) → R (E 176 g') H) : wOps Try.prog acfg.pol (CallR acfg) o8_35 d8_35_0 0 (E 176 g) H R := by
  have hrow : (l.map kRow)[j]? = some (kRow y) := by simp [hy]
  simp only [w8_35_0c, w8_35_0, hF.g0, hF.g1, hF.g2, hF.g10, ia44, fa47_0, fa47_1, ld26, ld47, len26]
  refine mk0 (.fptr (kRow y) false) (ia_list hrow rfl (by decide)) ?_
  refine mk0 (.fptr (kRow y) false) rfl ?_
  refine mk0 (spV y.f0) rfl ?_
  refine cW_in (Nat.lt_trans hs.1 (by decide)) ?_
  cases hc : X.hasb y.f0 id with
  | false =>
    refine gnf ?_
    refine gnf ?_
    refine gnf ?_
    refine gnf ?_
    exact r35_12 hy hs.2 hj (by repeat (first | exact hF | refine FL.u ?_ rfl)) (.inr ⟨rfl, hc⟩) hq
  | true =>
    refine gp0 ?_
    refine gp0 ?_
    refine g_bit (bit63 hj) ?_
    refine gy0 (.bool (!bitB x (j : Int))) rfl ?_
    exact r35_12 hy hs.2 hj (by repeat (first | exact hF | refine FL.u ?_ rfl)) (.inl ⟨rfl, hc, rfl⟩) hq
set_option maxHeartbeats 4000000 in
theorem r27_12 (hF : FL l id x a s w j g) {Pp : Prop} (hd : (g 36 = .bool true ∧ g 40 = .tup []) ∨ (g 36 = .bool false ∧ g 40 = .fptr [spV y.f1] false ∧ (y.f1.length ≤ 40 → Pp)))
    (hq : ∀ g' b, FL l id x a s w j g' → g' 44 = .bool b → (b = false → Pp) → R (E 176 g') H) : wOps Try.prog acfg.pol (CallR acfg) o8_27 d8_27_12 12 (E 176 g) H R := by
  rcases hd with ⟨h36, h40⟩ | ⟨h36, h40, hp⟩
  · simp only [w8_27_12, h36, h40]
    refine gnt ?_
    refine gnt ?_
    refine gnt ?_
    refine mk0 (.bool true) rfl ?_
    exact hq _ true (by repeat (first | exact hF | refine FL.u ?_ rfl)) rfl (fun h => by cases h)
  · simp only [w8_27_12, h36, h40, ld26, len26]
    refine gy' (v := spV y.f1) rfl ?_
    refine gy0 _ lenR ?_
    refine gy0 _ gtrN ?_
    refine mk0 (.bool (decide (40 < y.f1.length))) rfl ?_
    exact hq _ _ (by repeat (first | exact hF | refine FL.u ?_ rfl)) rfl (fun h => hp (by have := of_decide_eq_false h; omega))
set_option maxHeartbeats 4000000 in
theorem r27 (hy : l[j]? = some y) (hF : FL l id x a s w j g)
    (hq : ∀ g' b, FL l id x a s w j g' → g' 44 = .bool b → (b = false → y.f0.length ≤ 40 ∧ y.f1.length ≤ 40) → R (E 176 g') H) : wOps Try.prog acfg.pol (CallR acfg) o8_27 d8_27_0 0 (E 176 g) H R := by
  have hrow : (l.map kRow)[j]? = some (kRow y) := by simp [hy]
  simp only [w8_27_0c, w8_27_0, hF.g0, hF.g1, hF.g2, hF.g10, ia44, fa47_0, fa47_1, ld26, ld47, len26]
  refine mk0 (.fptr (kRow y) false) (ia_list hrow rfl (by decide)) ?_
  refine mk0 (.fptr (kRow y) false) rfl ?_
  refine mk0 (spV y.f0) rfl ?_
  refine mk0 _ lenR ?_
  refine mk0 _ gtrN ?_
  cases hc : decide (40 < y.f0.length) with
  | false =>
    refine gp0 ?_
    refine gp0 ?_
    refine gy' (v := .fptr (kRow y) false) (ia_list hrow rfl (by decide)) ?_
    refine gy' (v := .fptr [spV y.f1] false) rfl ?_
    exact r27_12 (y := y) (Pp := y.f0.length ≤ 40 ∧ y.f1.length ≤ 40) (by repeat (first | exact hF | refine FL.u ?_ rfl)) (.inr ⟨rfl, rfl, fun h => ⟨by have := of_decide_eq_false hc; omega, h⟩⟩) hq
  | true =>
    refine gnt ?_
    refine gnt ?_
    refine gnt ?_
    refine gnt ?_
    exact r27_12 (y := y) (Pp := y.f0.length ≤ 40 ∧ y.f1.length ≤ 40) (by repeat (first | exact hF | refine FL.u ?_ rfl)) (.inl ⟨rfl, rfl⟩) hq
set_option maxHeartbeats 4000000 in
theorem r41 (hy : l[j]? = some y) (hs : y.f0.length < 1000 ∧ y.f1.length < 1000) (hj : j < 8) (hF : FL l id x a s w j g) {Q : KQ}
    (hq : ∀ g', FL l id x (a && bitB x (j : Int)) (s || bitB x (j : Int)) (w && wholeB y.f0 y.f1) j g' → Q .nrm (E 176 g') H) : wC Try.prog acfg.pol (CallR acfg) (LoopR acfg) c8_41 (E 176 g) H Q := by
  have hrow : (l.map kRow)[j]? = some (kRow y) := by simp [hy]
  simp only [w8_41, w8_42, w8_42_0, seqK, hF.g2, hF.g7, hF.g10]
  have rest : ∀ g1 : Nat → V, FL l id x (a && bitB x (j : Int)) s w j g1 → wC Try.prog acfg.pol (CallR acfg) (LoopR acfg) c8_43 (E 176 g1) H Q := by
    intro g1 hF
    simp only [w8_43, w8_44, w8_44_0, seqK, hF.g2, hF.g8, hF.g10]
    have rest : ∀ g2 : Nat → V, FL l id x (a && bitB x (j : Int)) (s || bitB x (j : Int)) w j g2 → wC Try.prog acfg.pol (CallR acfg) (LoopR acfg) c8_45 (E 176 g2) H Q := by
      intro g2 hF
      simp only [w8_45, w8_45_0, hF.g0, hF.g9, hF.g10, ia44, ld47]
      cases w with
      | false =>
        refine gnf ?_
        refine gnf ?_
        refine gnf ?_
        refine gnf ?_
        refine gnf ?_
        refine mk0 (.bool false) rfl ?_
        refine hq _ ?_
        repeat (first | exact ⟨hF.g0, hF.g1, hF.g2, hF.g7, hF.g8, rfl, hF.g10⟩ | refine FL.u ?_ rfl)
      | true =>
        refine gp0 ?_
        refine gp0 ?_
        refine gy' (v := .fptr (kRow y) false) (ia_list hrow rfl (by decide)) ?_
        refine gy' (v := .agg (kRow y)) rfl ?_
        refine g_whole (Nat.lt_trans hs.1 (by decide)) (Nat.lt_trans hs.2 (by decide)) ?_
        refine mk0 (.bool (wholeB y.f0 y.f1)) rfl ?_
        refine hq _ ?_
        repeat (first | exact ⟨hF.g0, hF.g1, hF.g2, hF.g7, hF.g8, rfl, hF.g10⟩ | refine FL.u ?_ rfl)
    cases s with
    | false =>
      refine gp0 ?_
      refine gp0 ?_
      refine g_bit (bit63 hj) ?_
      refine mk0 (.bool (bitB x (j : Int))) rfl ?_
      refine rest _ ?_
      repeat (first | exact ⟨hF.g0, hF.g1, hF.g2, hF.g7, rfl, hF.g9, hF.g10⟩ | refine FL.u ?_ rfl)
    | true =>
      refine gnt ?_
      refine gnt ?_
      refine gnt ?_
      refine mk0 (.bool true) rfl ?_
      refine rest _ ?_
      repeat (first | exact ⟨hF.g0, hF.g1, hF.g2, hF.g7, rfl, hF.g9, hF.g10⟩ | refine FL.u ?_ rfl)
  cases a with
  | false =>
    refine gnf ?_
    refine gnf ?_
    refine gnf ?_
    refine mk0 (.bool false) rfl ?_
    refine rest _ ?_
    repeat (first | exact ⟨hF.g0, hF.g1, hF.g2, rfl, hF.g8, hF.g9, hF.g10⟩ | refine FL.u ?_ rfl)
  | true =>
    refine gp0 ?_
    refine gp0 ?_
    refine g_bit (bit63 hj) ?_
    refine mk0 (.bool (bitB x (j : Int))) rfl ?_
    refine rest _ ?_
    repeat (first | exact ⟨hF.g0, hF.g1, hF.g2, rfl, hF.g8, hF.g9, hF.g10⟩ | refine FL.u ?_ rfl)
end
end Go.Proofs.Ytieapebabncliaa.Iv

namespace Go.Proofs.Ytieapebabncliaa.Iv
open Go Go.Proofs.Ytieapebabncliaa
set_option linter.unusedVariables false
set_option linter.unusedSimpArgs false
set_option maxRecDepth 100000
/-! ### the plain law -/
theorem allB_iff (x : Int) : ∀ n, allB x n = true ↔ ∀ i, i < n → bitB x (i : Int) = true
  | 0 => by simp [allB]
  | n + 1 => by
    simp only [allB, Bool.and_eq_true, allB_iff x n]
    constructor
    · rintro ⟨h1, h2⟩ i hi
      rcases Nat.lt_or_ge i n with h | h
      · exact h1 i h
      · obtain rfl : i = n := by omega
        exact h2
    · intro h
      exact ⟨fun i hi => h i (by omega), h n (by omega)⟩
theorem someB_iff (x : Int) : ∀ n, someB x n = true ↔ ∃ i, i < n ∧ bitB x (i : Int) = true
  | 0 => by simp [someB]
  | n + 1 => by
    simp only [someB, Bool.or_eq_true, someB_iff x n]
    constructor
    · rintro (⟨i, h1, h2⟩ | h)
      · exact ⟨i, by omega, h2⟩
      · exact ⟨n, by omega, h⟩
    · rintro ⟨i, h1, h2⟩
      rcases Nat.lt_or_ge i n with h | h
      · exact .inl ⟨i, h, h2⟩
      · obtain rfl : i = n := by omega
        exact .inr h2
theorem whole_iff' (a b : List X.S36) : wholeB a b = true ↔ ∀ v : Int, 1 ≤ v → v ≤ 2147483647 → X.inS a v ∨ X.inS b v := by
  unfold wholeB
  simp only [beq_iff_eq]
  constructor
  · intro h v h1 h2
    have hn : X.restF (X.unionF (a ++ b)) = [] := List.length_eq_zero_iff.1 (by omega)
    have hi := (X.restF_in (X.unionF (a ++ b)) v)
    rw [hn, X.inS_nil] at hi
    have : X.inS (X.unionF (a ++ b)) v := Classical.byContradiction fun q => hi.2 ⟨h1, h2, q⟩
    exact (X.inS_append a b v).1 ((X.union_in _ v).1 this).2.2
  · intro h
    cases hr : X.restF (X.unionF (a ++ b)) with
    | nil => rfl
    | cons s r =>
      have hc := X.restF_can (X.unionF (a ++ b))
      rw [hr] at hc
      obtain ⟨c1, c2, c3, _⟩ := hc
      have hi := (X.restF_in (X.unionF (a ++ b)) s.f0).1 (by rw [hr]; exact ⟨s, by simp, Int.le_refl _, c2⟩)
      exact absurd ((X.union_in _ _).2 ⟨c1, by omega, (X.inS_append a b _).2 (h _ c1 (by omega))⟩) hi.2.2
theorem hyp_of {id x : Int} {y : X.S47} {r : List X.S47} (hl : (y :: r).length ≤ 8) (hs : ∀ z ∈ y :: r, z.f0.length ≤ 40 ∧ z.f1.length ≤ 40) (hok : ∀ i z, (y :: r)[i]? = some z → OkY id x z i) :
    Hyp id x (allB x (y :: r).length) (someB x (y :: r).length) (whA (y :: r)) (X.meetF ((y :: r).map (·.f0))) (X.unionF ((y :: r).map (·.f1)).flatten) (X.unionF ((y :: r).map (·.f0)).flatten) (X.meetF ((y :: r).map (·.f1))) (X.unionF y.f1) (X.unionF y.f0) := by
  have at_ : ∀ i, i < (y :: r).length → ∃ z, (y :: r)[i]? = some z ∧ z ∈ y :: r := fun i hi => ⟨_, List.getElem?_eq_getElem hi, List.getElem_mem hi⟩
  have idx : ∀ z ∈ y :: r, ∃ i, i < (y :: r).length ∧ (y :: r)[i]? = some z := fun z hz => by
    obtain ⟨i, hi, e⟩ := List.getElem_of_mem hz
    exact ⟨i, hi, by rw [List.getElem?_eq_getElem hi, e]⟩
  have inU : ∀ {ls : List (List X.S36)} {v : Int}, X.hasb (X.unionF ls.flatten) v = true → (1 ≤ v ∧ v ≤ 2147483647) ∧ ∃ a ∈ ls, X.inS a v := fun h => by
    obtain ⟨h1, h2, h3⟩ := (X.hasb_in _ _).1 h
    exact ⟨⟨h1, h2⟩, (X.inS_flatten _ _).1 ((X.union_in _ _).1 h3).2.2⟩
  have inM : ∀ {ls : List (List X.S36)} {v : Int}, X.hasb (X.meetF ls) v = true → (1 ≤ v ∧ v ≤ 2147483647) ∧ ∀ a ∈ ls, X.inS a v := fun h => by
    obtain ⟨h1, h2, h3⟩ := (X.hasb_in _ _).1 h
    exact ⟨⟨h1, h2⟩, ((X.meetF_in _ _).1 h3).2.2⟩
  have inO : ∀ {a : List X.S36} {v : Int}, X.hasb (X.unionF a) v = true → X.hasb a v = true := fun h => by
    obtain ⟨h1, h2, h3⟩ := (X.hasb_in _ _).1 h
    exact (X.hasb_in _ _).2 ⟨h1, h2, ((X.union_in _ _).1 h3).2.2⟩
  have ulen : ∀ (f : X.S47 → List X.S36), (∀ z ∈ y :: r, (f z).length ≤ 40) → (X.unionF ((y :: r).map f).flatten).length < 100000 := fun f hf => by
    have h1 := X.union_len ((y :: r).map f).flatten
    have h2 := X.flat_len 40 ((y :: r).map f) (fun a ha => by obtain ⟨z, hz, rfl⟩ := List.mem_map.1 ha; exact hf z hz)
    rw [List.length_map] at h2
    have := Nat.mul_le_mul_right 40 hl
    omega
  have mlen : ∀ (f : X.S47 → List X.S36), (∀ z ∈ y :: r, (f z).length ≤ 40) → (X.meetF ((y :: r).map f)).length < 100000 := fun f hf => by
    unfold X.meetF
    have h0 := X.restF_len (X.unionF (((y :: r).map f).map X.restF).flatten)
    have h1 := X.union_len (((y :: r).map f).map X.restF).flatten
    have h2 := X.flat_len 41 (((y :: r).map f).map X.restF) (fun a ha => by
      obtain ⟨b, hb, rfl⟩ := List.mem_map.1 ha
      obtain ⟨z, hz, rfl⟩ := List.mem_map.1 hb
      have := X.restF_len (f z)
      have := hf z hz
      omega)
    rw [List.length_map, List.length_map] at h2
    have := Nat.mul_le_mul_right 41 hl
    omega
  refine ⟨fun h => ?_, fun h => ?_, fun h => ?_, fun h => ?_, fun h => ?_, fun h => ?_, fun h => ?_, mlen _ (fun z hz => (hs z hz).1), ulen _ (fun z hz => (hs z hz).2), ulen _ (fun z hz => (hs z hz).1), mlen _ (fun z hz => (hs z hz).2), ?_, ?_⟩
  · obtain ⟨hv, ha⟩ := inM h
    rw [allB_iff]
    intro i hi
    obtain ⟨z, hz, hm⟩ := at_ i hi
    exact (hok i z hz).1 ((X.hasb_in _ _).2 ⟨hv.1, hv.2, ha _ (List.mem_map.2 ⟨z, hm, rfl⟩)⟩)
  · obtain ⟨hv, a, ha, hin⟩ := inU h
    obtain ⟨z, hz, rfl⟩ := List.mem_map.1 ha
    obtain ⟨i, hi, hz⟩ := idx z hz
    have hb := (hok i z hz).2 ((X.hasb_in _ _).2 ⟨hv.1, hv.2, hin⟩)
    cases hq : allB x (y :: r).length with
    | false => rfl
    | true => rw [(allB_iff x _).1 hq i hi] at hb; cases hb
  · obtain ⟨hv, a, ha, hin⟩ := inU h
    obtain ⟨z, hz, rfl⟩ := List.mem_map.1 ha
    obtain ⟨i, hi, hz⟩ := idx z hz
    exact (someB_iff x _).2 ⟨i, hi, (hok i z hz).1 ((X.hasb_in _ _).2 ⟨hv.1, hv.2, hin⟩)⟩
  · obtain ⟨hv, ha⟩ := inM h
    cases hq : someB x (y :: r).length with
    | false => rfl
    | true =>
      obtain ⟨i, hi, hb⟩ := (someB_iff x _).1 hq
      obtain ⟨z, hz, hm⟩ := at_ i hi
      rw [(hok i z hz).2 ((X.hasb_in _ _).2 ⟨hv.1, hv.2, ha _ (List.mem_map.2 ⟨z, hm, rfl⟩)⟩)] at hb
      cases hb
  · exact (hok 0 y rfl).2 (inO h)
  · exact (hok 0 y rfl).1 (inO h)
  · have hw : ∀ z ∈ y :: r, ∀ v : Int, 1 ≤ v → v ≤ 2147483647 → X.inS z.f0 v ∨ X.inS z.f1 v := fun z hz => (whole_iff' _ _).1 (List.all_eq_true.1 h z hz)
    refine ⟨(whole_iff' _ _).2 fun v h1 h2 => ?_, (whole_iff' _ _).2 fun v h1 h2 => ?_, (whole_iff' _ _).2 fun v h1 h2 => ?_⟩
    · by_cases q : ∃ z ∈ y :: r, X.inS z.f1 v
      · obtain ⟨z, hz, hq⟩ := q
        exact .inr ((X.union_in _ _).2 ⟨h1, h2, (X.inS_flatten _ _).2 ⟨_, List.mem_map.2 ⟨z, hz, rfl⟩, hq⟩⟩)
      · refine .inl ((X.meetF_in _ _).2 ⟨h1, h2, fun a ha => ?_⟩)
        obtain ⟨z, hz, rfl⟩ := List.mem_map.1 ha
        exact (hw z hz v h1 h2).resolve_right (fun t => q ⟨z, hz, t⟩)
    · by_cases q : ∃ z ∈ y :: r, X.inS z.f0 v
      · obtain ⟨z, hz, hq⟩ := q
        exact .inl ((X.union_in _ _).2 ⟨h1, h2, (X.inS_flatten _ _).2 ⟨_, List.mem_map.2 ⟨z, hz, rfl⟩, hq⟩⟩)
      · refine .inr ((X.meetF_in _ _).2 ⟨h1, h2, fun a ha => ?_⟩)
        obtain ⟨z, hz, rfl⟩ := List.mem_map.1 ha
        exact (hw z hz v h1 h2).resolve_left (fun t => q ⟨z, hz, t⟩)
    · exact (hw y (by simp) v h1 h2).elim (fun t => .inr ((X.union_in _ _).2 ⟨h1, h2, t⟩)) (fun t => .inl ((X.union_in _ _).2 ⟨h1, h2, t⟩))
  · have h1 := X.union_len y.f1
    have := (hs y (by simp)).2
    omega
  · have h1 := X.union_len y.f0
    have := (hs y (by simp)).1
    omega
theorem whA_take {l : List X.S47} {j : Nat} {y : X.S47} (hy : l[j]? = some y) : whA (l.take (j + 1)) = (whA (l.take j) && wholeB y.f0 y.f1) := by
  unfold whA
  rw [List.take_add_one, hy]
  simp
/-! ### the loop, the law's function -/
set_option maxHeartbeats 4000000 in
theorem loop8 {l : List X.S47} {id x : Int} {H : Heap} {Q : KQ} (hl8 : l.length ≤ 8) (hr : ∀ g', g' 6 = .bool true → Q .ret (E 176 g') H)
    (hx : ∀ g', FL l id x (allB x l.length) (someB x l.length) (whA l) l.length g' → (∀ i y, l[i]? = some y → (y.f0.length ≤ 40 ∧ y.f1.length ≤ 40) ∧ OkY id x y i) → Q (.exit 0) (E 176 g') H) :
    ∀ (k j : Nat), j + k = l.length → ∀ g, FL l id x (allB x j) (someB x j) (whA (l.take j)) j g → (∀ i y, i < j → l[i]? = some y → (y.f0.length ≤ 40 ∧ y.f1.length ≤ 40) ∧ OkY id x y i) → LoopR acfg c8_17 (E 176 g) H Q := by
  intro k
  induction k with
  | zero =>
    intro j hj g hF hall
    have hj : j = l.length := by omega
    subst hj
    refine LoopR.step ?_
    show wC Try.prog acfg.pol (CallR acfg) (LoopR acfg) c8_17 _ H _
    simp only [w8_17, w8_18, w8_19, w8_19_0, w8_20, w8_22, seqK, hF.g0, hF.g10, len44, o26]
    refine mk0 (.int .i64 ((l.length : Nat) : Int)) lenR ?_
    refine mk0 (.bool false) (by rw [lssN, decide_eq_false (Nat.lt_irrefl _)]) ?_
    refine condF ?_
    rw [List.take_length] at hF
    exact hx _ (by repeat (first | exact hF | refine FL.u ?_ rfl)) (fun i y hy => hall i y (List.getElem?_eq_some_iff.1 hy).1 hy)
  | succ k ih =>
    intro j hj g hF hall
    have hlt : j < l.length := by omega
    obtain ⟨y, hy⟩ : ∃ y, l[j]? = some y := ⟨_, List.getElem?_eq_getElem hlt⟩
    have hj8 : j < 8 := by omega
    refine LoopR.step ?_
    show wC Try.prog acfg.pol (CallR acfg) (LoopR acfg) c8_17 _ H _
    simp only [w8_17, w8_18, w8_19, w8_19_0, w8_20, w8_21, seqK, hF.g0, hF.g10, len44, o26]
    refine mk0 (.int .i64 ((l.length : Nat) : Int)) lenR ?_
    refine mk0 (.bool true) (by rw [lssN, decide_eq_true hlt]) ?_
    refine condT ?_
    simp only [w8_23, w8_24, w8_25, w8_26, w8_27, seqK, blockK]
    refine r27 (id := id) (x := x) (a := allB x j) (s := someB x j) (w := whA (l.take j)) hy (by repeat (first | exact hF | refine FL.u ?_ rfl)) (fun g1 b hF1 h44 hb => ?_)
    simp only [seqK, w8_28, o44, h44]
    cases b with
    | true =>
      refine condT ?_
      simp only [w8_29, w8_30, w8_30_0, w8_31, seqK]
      refine cW_awake ?_
      simp only [blockK]
      exact hr _ rfl
    | false =>
      obtain ⟨s0, s1⟩ := hb rfl
      have hs : y.f0.length < 1000 ∧ y.f1.length < 1000 := ⟨by omega, by omega⟩
      refine condF ?_
      simp only [w8_32, w8_33, w8_34, w8_35, seqK]
      refine r35 hy hs hj8 hF1 (fun g2 b hF2 h72 hb => ?_)
      simp only [seqK, w8_36, o72, h72]
      cases b with
      | true =>
        refine condT ?_
        simp only [w8_37, w8_38, w8_38_0, w8_39, seqK]
        refine cW_awake ?_
        simp only [blockK]
        exact hr _ rfl
      | false =>
        refine condF ?_
        simp only [w8_40]
        refine r41 hy hs hj8 hF2 (fun g3 hF3 => ?_)
        simp only [seqK, blockK, w8_46, w8_46_0, hF3.g10]
        refine mk0 (.int .i64 ((j + 1 : Nat) : Int)) (by rw [bin_add (by omega) (by omega)]; simp) ?_
        refine ih (j + 1) (by omega) _ ?_ (fun i z hi hz => ?_)
        · rw [whA_take hy]
          exact ⟨hF3.g0, hF3.g1, hF3.g2, hF3.g7, hF3.g8, hF3.g9, rfl⟩
        · rcases Nat.lt_or_ge i j with h | h
          · exact hall i z h hz
          · obtain rfl : i = j := by omega
            rw [hy] at hz; cases hz
            exact ⟨⟨s0, s1⟩, hb rfl⟩
set_option maxHeartbeats 4000000 in
theorem tells {l : List X.S47} {id x : Int} : CallR acfg 8 [knV l, .int .u32 id, .int .u64 x] (fun _ => none) (fun r _ => r = .bool true) := by
  refine CallR.body' (K := acfg) (f := 8) (fn := Try.f8) (c := c8_0) (env := E 176 (u (u (u (fun _ => .und) 0 (knV l)) 1 (.int .u32 id)) 2 (.int .u64 x))) (rs := [.tmp 6]) rfl (by kernel_rfl) (by kernel_rfl) (by kernel_rfl) (by kernel_rfl) (by kernel_rfl) (by kernel_rfl) ?_
  show wC Try.prog acfg.pol (CallR acfg) (LoopR acfg) c8_0 _ _ (wRes Try.prog _ _)
  have early : ∀ g : Nat → V, wC Try.prog acfg.pol (CallR acfg) (LoopR acfg) c8_6 (E 176 g) (fun _ => none) (seqK Try.prog acfg.pol (CallR acfg) (LoopR acfg) c8_10 (wRes Try.prog [.tmp 6] (fun r _ => r = .bool true))) := by
    intro g
    simp only [w8_6, w8_7, w8_7_0, w8_8, seqK]
    refine cW_awake ?_
    exact wres6 (Q := fun r _ => r = .bool true) rfl
  have key : ∀ g : Nat → V, g 0 = knV l → g 1 = .int .u32 id → g 2 = .int .u64 x → l.length ≤ 8 → l ≠ [] → wC Try.prog acfg.pol (CallR acfg) (LoopR acfg) c8_10 (E 176 g) (fun _ => none) (wRes Try.prog [.tmp 6] (fun r _ => r = .bool true)) := by
    intro g g0 g1 g2 hl hne
    simp only [w8_10, w8_11, w8_11_0, w8_12, w8_13, w8_14, w8_14_0, w8_15, w8_16, seqK]
    refine loop8 (l := l) (id := id) (x := x) (H := fun _ => none) hl (fun g' h6 => ?_) (fun g' hF hall => ?_) l.length 0 (by omega) _ ⟨g0, g1, g2, rfl, rfl, rfl, rfl⟩ (fun i y hi => by omega)
    · simp only [blockK]
      exact wres6 (H := fun _ => none) (Q := fun r _ => r = .bool true) h6
    · simp only [blockK, if_true]
      cases l with
      | nil => exact absurd rfl hne
      | cons y r =>
        have hs : ∀ z ∈ y :: r, z.f0.length ≤ 40 ∧ z.f1.length ≤ 40 := fun z hz => by
          obtain ⟨i, hi, e⟩ := List.getElem_of_mem hz
          exact (hall i z (by rw [List.getElem?_eq_getElem hi, e])).1
        refine t47 (y := y) (r := r) ⟨by omega, fun z hz => ⟨by have := (hs z hz).1; omega, by have := (hs z hz).2; omega⟩⟩ (hyp_of hl hs (fun i z hz => (hall i z hz).2)) rfl rfl rfl hF.g0 hF.g1 hF.g2 hF.g7 hF.g8 hF.g9 (fun g' H' h6 => wres6 (Q := fun r _ => r = .bool true) h6)
  simp only [w8_0, w8_1, w8_1_0, w8_2, w8_3, w8_4, w8_4_0, w8_5, seqK, len44, o21]
  refine mk0 (.int .i64 ((l.length : Nat) : Int)) lenR ?_
  by_cases h8 : 8 < l.length
  · refine mk0 (.bool true) (by rw [bin_gtr, decide_eq_true (by omega)]) ?_
    refine gnt ?_
    refine gnt ?_
    refine gnt ?_
    refine mk0 (.bool true) rfl ?_
    refine condT ?_
    exact early _
  · refine mk0 (.bool false) (by rw [bin_gtr, decide_eq_false (by omega)]) ?_
    refine gp0 ?_
    refine gy0 (.int .i64 ((l.length : Nat) : Int)) lenR ?_
    cases hl : l with
    | nil =>
      refine gy0 (.bool true) (by kernel_rfl) ?_
      refine mk0 (.bool true) rfl ?_
      refine condT ?_
      exact early _
    | cons y r =>
      rw [← hl]
      refine gy0 (.bool false) (by rw [bin_eql, hl]; congr 2) ?_
      refine mk0 (.bool false) rfl ?_
      refine condF ?_
      simp only [w8_9]
      exact key _ rfl rfl rfl (by omega) (by rw [hl]; simp)
end Go.Proofs.Ytieapebabncliaa.Iv
