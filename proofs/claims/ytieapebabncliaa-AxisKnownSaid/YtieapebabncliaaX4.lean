import Derived.Test.YtieapebabncliaaX0
import Derived.ProofKit
import Derived.OpenShut
import Derived.DataReads
import Derived.ChangeOld
namespace Go.Proofs.Ytieapebabncliaa.X
open Go.RowKit Go.Proofs.YtieapebabncliaaW.PrintWords Go.Proofs.YtieapebabncliaaW.PrintLast Go.Proofs.YtieapebabncliaaW.PrintMore
set_option linter.unusedVariables false
set_option linter.unusedSimpArgs false
def Opens {α : Type} (P : Program) (t : TypeId) (d : Kd α) (G : α → Prop) : Prop :=
 ∀ (H : Type) (enc : TypeId × Value → H) (w : World) (base : Nat) (spare : Nat → Bool) (held : Bool) (fuel : Nat) (cs : List Value) (x : DataW H × List MemPlace), DataW.trod enc P w base spare held fuel t cs = some x → ∃ a, d.K w a cs ∧ G a
def GInt (k : IntKind) (n : Int) : Prop := (Lit.int k n).wf = true
def GAll {α : Type} (G : α → Prop) (l : List α) : Prop := l.length ≤ maxLen ∧ ∀ x ∈ l, G x
section
variable {P : Program} {t : TypeId}
theorem opens_int {k : IntKind} (ht : P.underlying t = some (.int k)) : Opens P t (Kd.int k) (GInt k) := by
 intro H enc w base spare held fuel cs x h
 cases fuel with
 | zero => simp [DataW.trod] at h
 | succ fuel =>
  simp only [DataW.trod, ht] at h
  split at h <;> simp_all
  exact ⟨_, rfl, h.1.2⟩
theorem pick_list {α : Type} (n : Nat) (R : Nat → α → Prop) (h : ∀ i, i < n → ∃ a, R i a) : ∃ l : List α, l.length = n ∧ ∀ i a, l[i]? = some a → R i a := by
 induction n with
 | zero => exact ⟨[], rfl, fun i a h => by simp at h⟩
 | succ n ih =>
  obtain ⟨l, hl, hr⟩ := ih (fun i hi => h i (by omega))
  obtain ⟨a, ha⟩ := h n (by omega)
  refine ⟨l ++ [a], by simp [hl], fun i b hb => ?_⟩
  rcases Nat.lt_trichotomy i n with hi | hi | hi
  ·rw [List.getElem?_append_left (by omega)] at hb; exact hr i b hb
  ·subst hi
   rw [List.getElem?_append_right (by omega), hl, Nat.sub_self, List.getElem?_cons_zero] at hb
   obtain rfl := Option.some.inj hb
   exact ha
  ·rw [List.getElem?_eq_none (by simp [hl]; omega)] at hb; cases hb
theorem cells_get {w : World} {base : Nat} {a : Addr} {n : Nat} {cs : List Value} (h : w.cells? base a n = some cs) : cs.length = n ∧ ∀ i u, cs[i]? = some u → w.cell? (a.add i) = some u := by
 unfold World.cells? at h
 split at h
 ·have hl := mapM_some_length h
  rw [List.length_range] at hl
  refine ⟨hl, fun i u hu => ?_⟩
  have hi : i < n := by
   rcases Nat.lt_or_ge i n with hi | hi
   ·exact hi
   ·rw [List.getElem?_eq_none (by omega)] at hu; cases hu
  have := mapM_some_get h i i (by rw [List.getElem?_range hi])
  rw [this]; exact hu
 ·cases h
theorem opens_slice {α : Type} {d : Kd α} {G : α → Prop} {e : TypeId} (ht : P.underlying t = some (.slice e)) (hs : P.cellsOf e = d.sz) (he : Opens P e d G) : Opens P t (Kd.slice e d) (GAll G) := by
 intro H enc w base spare held fuel cs x h
 cases fuel with
 | zero => simp [DataW.trod] at h
 | succ fuel =>
  simp only [DataW.trod, ht] at h
  split at h
  all_goals first | (simp_all; done) | skip
  ·exact ⟨[], ⟨none, 0, rfl, Nat.le_refl _, Kd.C_nil _ _⟩, Nat.zero_le _, fun x hx => by cases hx⟩
  ·rename_i heq
   injection heq with heq
   injection heq with heq
   subst heq
   split at h
   ·rename_i a len cap hcond
    obtain ⟨els, hels, _⟩ := Option.bind_eq_some_iff.1 h
    have hlen := mapM_some_length hels
    rw [List.length_range] at hlen
    obtain ⟨l, hl, hr⟩ := pick_list len (fun i b => ∃ c, c.length = d.sz ∧ d.K w b c ∧ G b ∧ ∀ q u, c[q]? = some u → w.cell? (a.add (i * d.sz + q)) = some u) (fun i hi => by
     have h1 := mapM_some_get hels i i (by rw [List.getElem?_range hi])
     have hi2 : i < els.length := by omega
     rw [List.getElem?_eq_getElem hi2] at h1
     obtain ⟨c, hc, ht2⟩ := Option.bind_eq_some_iff.1 h1
     obtain ⟨b, hb, hg⟩ := he H enc w base spare held fuel c _ ht2
     obtain ⟨hcl, hcc⟩ := cells_get hc
     rw [hs] at hcl hcc
     exact ⟨b, c, hcl, hb, hg, fun q u hu => by rw [← add_add]; exact hcc q u hu⟩)
    refine ⟨l, ⟨some a, cap, by rw [hl], by rw [hl]; exact hcond.2.1, rfl, ?_, fun _ => ⟨a, rfl, fun j p hp => ?_⟩⟩, ?_, fun b hb => ?_⟩
    ·have := hcond.2.2
     have := hcond.2.1
     unfold maxLen at *
     omega
    ·obtain ⟨c, h1, h2, _, h3⟩ := hr j p hp
     exact ⟨c, h1, h2, h3⟩
    ·rw [hl]; exact Nat.le_trans hcond.2.1 hcond.2.2
    ·obtain ⟨j, hj, rfl⟩ := List.getElem_of_mem hb
     obtain ⟨c, _, _, hg, _⟩ := hr j _ (List.getElem?_eq_getElem hj)
     exact hg
   ·cases h
theorem opens_pair {α β : Type} {a : Kd α} {b : Kd β} {Ga : α → Prop} {Gb : β → Prop} {f0 f1 : Field} (ht : P.underlying t = some (.struct #[f0, f1])) (hn : P.cellsOf t = a.sz + b.sz) (h0 : f0.offset = 0) (h1 : f1.offset = a.sz) (hs0 : P.cellsOf f0.type = a.sz) (hs1 : P.cellsOf f1.type = b.sz) (ha : Opens P f0.type a Ga) (hb : Opens P f1.type b Gb) :
  Opens P t (Kd.pair a b) (fun x => Ga x.1 ∧ Gb x.2) := by
 intro H enc w base spare held fuel cs x h
 cases fuel with
 | zero => simp [DataW.trod] at h
 | succ fuel =>
  have h' : (if cs.length = P.cellsOf t then (#[f0, f1].toList.mapM fun f => DataW.trod enc P w base spare held fuel f.type ((cs.drop f.offset).take (P.cellsOf f.type))).map fun xs => ((.agg (xs.map (·.1)) : DataW H), xs.flatMap (·.2)) else none) = some x := by
   rw [← h]
   simp only [DataW.trod, ht]
  split at h'
  ·rename_i hl
   obtain ⟨xs, hxs, _⟩ := Option.map_eq_some_iff.1 h'
   have hlen := mapM_some_length hxs
   have g0 := mapM_some_get hxs 0 f0 rfl
   have g1 := mapM_some_get hxs 1 f1 rfl
   simp only [List.length_cons, List.length_nil] at hlen
   rw [List.getElem?_eq_getElem (by omega)] at g0 g1
   obtain ⟨u, hu, gu⟩ := ha H enc w base spare held fuel _ _ g0
   obtain ⟨v, hv, gv⟩ := hb H enc w base spare held fuel _ _ g1
   rw [h0, hs0, List.drop_zero] at hu
   rw [h1, hs1] at hv
   refine ⟨(u, v), ⟨cs.take a.sz, cs.drop a.sz, (List.take_append_drop _ _).symm, hu, ?_⟩, gu, gv⟩
   rwa [List.take_of_length_le (by rw [List.length_drop]; omega)] at hv
  ·cases h'
theorem opens_iso {α β : Type} {d : Kd α} {G : α → Prop} {f : β → α} (g : α → β) (hg : ∀ a, f (g a) = a) (h : Opens P t d G) : Opens P t (Kd.iso d f) (fun x => G (f x)) := by
 intro H enc w base spare held fuel cs x hx
 obtain ⟨a, ha, hG⟩ := h H enc w base spare held fuel cs x hx
 exact ⟨g a, by show d.K w (f (g a)) cs; rw [hg]; exact ha, by show G (f (g a)); rw [hg]; exact hG⟩
end
end Go.Proofs.Ytieapebabncliaa.X
