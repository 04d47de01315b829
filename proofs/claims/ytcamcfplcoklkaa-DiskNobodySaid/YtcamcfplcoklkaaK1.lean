import Derived.Test.YtcamcfplcoklkaaI28
import Derived.ProofKit
import Derived.OpenShut
import Derived.DataReads
import Derived.ChangeOld
namespace Go.Proofs.Ytcamcfplcoklkaa.Iv
open Go Go.RowKit
set_option linter.unusedVariables false
set_option linter.unusedSimpArgs false
/-! ### the values that a statement hands a law -/
def Cel (w : World) (rb : Nat) : Prop := ∃ o : Obj, w.heap[rb]? = some o ∧ o.isCells = true
theorem cel_of {w : World} {a : Addr} {v : Value} (h : w.cell? a = some v) : Cel w a.block ∧ a.spot = none := by
  unfold World.cell? at h
  split at h
  · rename_i c ty fr e
    split at h
    · cases h
    · rename_i hs
      refine ⟨⟨_, e, rfl⟩, ?_⟩
      cases hq : a.spot with
      | none => rfl
      | some q => rw [hq] at hs; simp at hs
  · cases h
def OpensV (P : Program) (t sz : Nat) (G : List V → Prop) : Prop :=
  ∀ (H : Type) (enc : TypeId × Value → H) (w : World) (base : Nat) (spare : Nat → Bool) (held : Bool) (fuel : Nat) (cs : List Value) (x : DataW H × List MemPlace), DataW.trod enc P w base spare held fuel t cs = some x →
    ∃ vs : List V, vs.length = sz ∧ All2 (FR w (Cel w)) vs cs ∧ G vs
section
variable {P : Program} {t : TypeId}
theorem pick_list {α : Type} (n : Nat) (R : Nat → α → Prop) (h : ∀ i, i < n → ∃ a, R i a) : ∃ l : List α, l.length = n ∧ ∀ i a, l[i]? = some a → R i a := by
  induction n with
  | zero => exact ⟨[], rfl, fun i a h => by simp at h⟩
  | succ n ih =>
    obtain ⟨l, hl, hr⟩ := ih (fun i hi => h i (by omega))
    obtain ⟨a, ha⟩ := h n (by omega)
    refine ⟨l ++ [a], by simp [hl], fun i b hb => ?_⟩
    rcases Nat.lt_trichotomy i n with hi | hi | hi
    · rw [List.getElem?_append_left (by omega)] at hb; exact hr i b hb
    · subst hi
      rw [List.getElem?_append_right (by omega), hl, Nat.sub_self, List.getElem?_cons_zero] at hb
      obtain rfl := Option.some.inj hb
      exact ha
    · rw [List.getElem?_eq_none (by simp [hl]; omega)] at hb; cases hb
theorem cells_get {w : World} {base : Nat} {a : Addr} {n : Nat} {cs : List Value} (h : w.cells? base a n = some cs) : cs.length = n ∧ ∀ i u, cs[i]? = some u → w.cell? (a.add i) = some u := by
  unfold World.cells? at h
  split at h
  · have hl := mapM_some_length h
    rw [List.length_range] at hl
    refine ⟨hl, fun i u hu => ?_⟩
    have hi : i < n := by
      rcases Nat.lt_or_ge i n with hi | hi
      · exact hi
      · rw [List.getElem?_eq_none (by omega)] at hu; cases hu
    have := mapM_some_get h i i (by rw [List.getElem?_range hi])
    rw [this]; exact hu
  · cases h
theorem opensV_int {k : IntKind} (ht : P.underlying t = some (.int k)) : OpensV P t 1 (fun vs => ∃ n, vs = [.int k n] ∧ (Lit.int k n).wf = true) := by
  intro H enc w base spare held fuel cs x h
  cases fuel with
  | zero => simp [DataW.trod] at h
  | succ fuel =>
    simp only [DataW.trod, ht] at h
    split at h <;> simp_all
    refine ⟨[.int _ _], rfl, ?_, _, rfl, h.1.2⟩
    exact ⟨.int _ _, trivial⟩
theorem add_mk (a : Addr) (h : a.spot = none) (n : Nat) : a.add n = ⟨a.block, a.off + n, none⟩ := by
  obtain ⟨b, o, s⟩ := a
  simp only at h; subst h
  unfold Addr.add
  split
  · rename_i e; subst e; rfl
  · rfl
theorem opensV_slice {e sz : Nat} {G : List V → Prop} (ht : P.underlying t = some (.slice e)) (hs : P.cellsOf e = sz) (hp : 0 < sz) (he : OpensV P e sz G) :
    OpensV P t 1 (fun vs => ∃ xs, vs = [.list xs false] ∧ xs.length ≤ maxLen ∧ ∀ x ∈ xs, x.length = sz ∧ G x) := by
  intro H enc w base spare held fuel cs x h
  cases fuel with
  | zero => simp [DataW.trod] at h
  | succ fuel =>
    simp only [DataW.trod, ht] at h
    split at h
    all_goals first | (simp_all; done) | skip
    · refine ⟨[.list [] false], rfl, ⟨?_, trivial⟩, [], rfl, Nat.zero_le _, fun x hx => by cases hx⟩
      exact FR.list [] 1 0 none (fun _ => .int .i64 0) (Nat.le_refl _) (fun x hx => by cases hx) (fun h => absurd rfl h) (fun j c h => by simp at h)
    · rename_i heq
      injection heq with heq
      injection heq with heq
      subst heq
      split at h
      · rename_i a len cap hcond
        obtain ⟨els, hels, _⟩ := Option.bind_eq_some_iff.1 h
        have hlen := mapM_some_length hels
        rw [List.length_range] at hlen
        obtain ⟨xs, hl, hr⟩ := pick_list len (fun i (b : List V) => ∃ c : List Value, c.length = sz ∧ b.length = sz ∧ All2 (FR w (Cel w)) b c ∧ G b ∧ ∀ q u, c[q]? = some u → w.cell? ((a.add (i * sz)).add q) = some u) (fun i hi => by
          have h1 := mapM_some_get hels i i (by rw [List.getElem?_range hi])
          have hi2 : i < els.length := by omega
          rw [List.getElem?_eq_getElem hi2] at h1
          obtain ⟨c, hc, ht2⟩ := Option.bind_eq_some_iff.1 h1
          obtain ⟨b, hbl, hb, hg⟩ := he H enc w base spare held fuel c _ ht2
          obtain ⟨hcl, hcc⟩ := cells_get hc
          rw [hs] at hcl hcc
          exact ⟨b, c, hcl, hbl, hb, hg, hcc⟩)
        have hz : ∀ x ∈ xs, x.length = sz ∧ G x := fun x hx => by
          obtain ⟨j, hj, rfl⟩ := List.getElem_of_mem hx
          obtain ⟨c, _, h2, _, h4, _⟩ := hr j _ (List.getElem?_eq_getElem hj)
          exact ⟨h2, h4⟩
        -- where the elements stand
        have spot : xs ≠ [] → a.spot = none := fun hne => by
          cases hx0 : xs with
          | nil => exact absurd hx0 hne
          | cons x0 r =>
            obtain ⟨c, c1, c2, c3, c4, c5⟩ := hr 0 x0 (by rw [hx0]; rfl)
            obtain ⟨u, hu⟩ : ∃ u, c[0]? = some u := ⟨c[0]'(by omega), List.getElem?_eq_getElem _⟩
            have := (cel_of (c5 0 u hu)).2
            simpa [Addr.add] using this
        have each : ∀ (hne : xs ≠ []) (j : Nat) (v : V), xs.flatten[j]? = some v → ∃ u, w.cell? ⟨a.block, a.off + j, none⟩ = some u ∧ FR w (Cel w) v u := fun hne j v hj => by
          obtain ⟨i, q, xi, h1, h2, h3⟩ : ∃ i q xi, xs[i]? = some xi ∧ xi[q]? = some v ∧ j = i * sz + q := by
            have hjl := (List.getElem?_eq_some_iff.1 hj).1
            rw [flatten_len sz xs (fun x hx => (hz x hx).1)] at hjl
            have hi : j / sz < xs.length := Nat.div_lt_of_lt_mul (by rw [Nat.mul_comm]; exact hjl)
            have hq : j % sz < (xs[j / sz]).length := by rw [(hz _ (List.getElem_mem hi)).1]; exact Nat.mod_lt _ hp
            have hg := flatten_get sz xs (fun x hx => (hz x hx).1) (j / sz) (j % sz) _ _ (List.getElem?_eq_getElem hi) (List.getElem?_eq_getElem hq)
            have e : j / sz * sz + j % sz = j := by rw [Nat.mul_comm]; exact Nat.div_add_mod j sz
            rw [e, hj] at hg
            refine ⟨j / sz, j % sz, _, List.getElem?_eq_getElem hi, ?_, e.symm⟩
            rw [List.getElem?_eq_getElem hq]; exact hg.symm
          obtain ⟨c, c1, c2, c3, c4, c5⟩ := hr i xi h1
          obtain ⟨u, hu, hfr⟩ := c3.get h2
          refine ⟨u, ?_, hfr⟩
          have := c5 q u hu
          rw [add_mk a (spot hne), add_mk _ rfl] at this
          rw [h3, ← Nat.add_assoc]; exact this
        refine ⟨[.list xs false], rfl, ⟨?_, trivial⟩, xs, rfl, ?_, hz⟩
        · have := FR.list (w := w) (S := Cel w) xs sz cap (some a) (fun j => (w.cell? ⟨a.block, a.off + j, none⟩).getD (.int .i64 0)) (by rw [hl]; exact hcond.2.1) (fun x hx => (hz x hx).1)
            (fun hne => by
              have hsp := spot hne
              refine ⟨a.block, a.off, by cases a; simp_all, ?_, fun j hj => ?_⟩
              · obtain ⟨u, hu, _⟩ := each hne 0 _ (List.getElem?_eq_getElem (by
                  rw [flatten_len sz xs (fun x hx => (hz x hx).1)]
                  have : 0 < xs.length := List.length_pos_iff.2 hne
                  exact Nat.mul_pos this hp))
                exact (cel_of hu).1
              · obtain ⟨u, hu, _⟩ := each hne j _ (List.getElem?_eq_getElem hj)
                rw [hu]; rfl)
            (fun j c hj => by
              have hne : xs ≠ [] := fun e => by subst e; simp at hj
              obtain ⟨u, hu, hfr⟩ := each hne j c hj
              rw [hu]; exact hfr)
          rw [hl] at this
          exact this
        · rw [hl]; exact Nat.le_trans hcond.2.1 hcond.2.2
      · cases h
/-- a struct of four fields, each of one cell -/
theorem opensV_four {G0 G1 G2 G3 : List V → Prop} {f0 f1 f2 f3 : Field} (ht : P.underlying t = some (.struct #[f0, f1, f2, f3])) (hn : P.cellsOf t = 4) (o0 : f0.offset = 0) (o1 : f1.offset = 1) (o2 : f2.offset = 2) (o3 : f3.offset = 3)
    (c0 : P.cellsOf f0.type = 1) (c1 : P.cellsOf f1.type = 1) (c2 : P.cellsOf f2.type = 1) (c3 : P.cellsOf f3.type = 1) (h0 : OpensV P f0.type 1 G0) (h1 : OpensV P f1.type 1 G1) (h2 : OpensV P f2.type 1 G2) (h3 : OpensV P f3.type 1 G3) :
    OpensV P t 4 (fun vs => ∃ a b c d, vs = [a, b, c, d] ∧ G0 [a] ∧ G1 [b] ∧ G2 [c] ∧ G3 [d]) := by
  intro H enc w base spare held fuel cs x h
  cases fuel with
  | zero => simp [DataW.trod] at h
  | succ fuel =>
    have h' : (if cs.length = P.cellsOf t then (#[f0, f1, f2, f3].toList.mapM fun f => DataW.trod enc P w base spare held fuel f.type ((cs.drop f.offset).take (P.cellsOf f.type))).map fun xs => ((.agg (xs.map (·.1)) : DataW H), xs.flatMap (·.2)) else none) = some x := by
      rw [← h]
      simp only [DataW.trod, ht]
    split at h'
    · rename_i hl
      rw [hn] at hl
      obtain ⟨xs, hxs, _⟩ := Option.map_eq_some_iff.1 h'
      have hlen := mapM_some_length hxs
      have g0 := mapM_some_get hxs 0 f0 rfl
      have g1 := mapM_some_get hxs 1 f1 rfl
      have g2 := mapM_some_get hxs 2 f2 rfl
      have g3 := mapM_some_get hxs 3 f3 rfl
      simp only [List.length_cons, List.length_nil] at hlen
      rw [List.getElem?_eq_getElem (by omega)] at g0 g1 g2 g3
      match cs, hl with
      | [u0, u1, u2, u3], _ =>
        obtain ⟨v0, l0, r0, q0⟩ := h0 H enc w base spare held fuel _ _ g0
        obtain ⟨v1, l1, r1, q1⟩ := h1 H enc w base spare held fuel _ _ g1
        obtain ⟨v2, l2, r2, q2⟩ := h2 H enc w base spare held fuel _ _ g2
        obtain ⟨v3, l3, r3, q3⟩ := h3 H enc w base spare held fuel _ _ g3
        rw [o0, c0] at r0; rw [o1, c1] at r1; rw [o2, c2] at r2; rw [o3, c3] at r3
        match v0, v1, v2, v3, l0, l1, l2, l3, r0, r1, r2, r3, q0, q1, q2, q3 with
        | [a], [b], [c], [d], _, _, _, _, r0, r1, r2, r3, q0, q1, q2, q3 =>
          exact ⟨[a, b, c, d], rfl, ⟨r0.1, r1.1, r2.1, r3.1, trivial⟩, a, b, c, d, rfl, q0, q1, q2, q3⟩
    · cases h'
end
end Go.Proofs.Ytcamcfplcoklkaa.Iv
