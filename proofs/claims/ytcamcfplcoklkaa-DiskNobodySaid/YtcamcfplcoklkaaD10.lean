import Derived.Test.YtcamcfplcoklkaaD9
import Derived.Test.YtcamcfplcoklkaaI29
namespace Go.Proofs.Ytcamcfplcoklkaa.Iv
open Go
set_option linter.unusedVariables false
set_option linter.unusedSimpArgs false
set_option maxRecDepth 100000
theorem At.of {ops : Array Oper} {k d : Nat} {op : Op} (h : (ops[k]?).map (fun o => (o.op, o.guard, o.dst)) = some (op, none, some d)) : At ops k op d := by
  cases ho : ops[k]? with
  | none => rw [ho] at h; cases h
  | some o =>
    rw [ho] at h
    simp only [Option.map_some, Option.some.injEq, Prod.mk.injEq] at h
    exact ⟨o, ho, h.1, h.2.1, h.2.2⟩
noncomputable def b40_0 : Array Oper := opsOf (cAt [0] (bodyOf Try.f40))
noncomputable def b40_1 : Array Oper := opsOf (cAt [1, 0, 0, 0, 0] (bodyOf Try.f40))
noncomputable def b40_3 : Array Oper := opsOf (cAt [1, 0, 0, 1, 0, 0, 0] (bodyOf Try.f40))
noncomputable def b40_2 : Array Oper := opsOf (cAt [1, 0, 0, 1, 1] (bodyOf Try.f40))
theorem back40 : BackCode Try.prog 40 47 65 2 true := by
  refine ⟨⟨Try.f40, b40_0, b40_1, b40_2, b40_3, 0, 1, 2, 3, 0, 1, #[3, 65], by kernel_rfl, by kernel_rfl, by kernel_rfl, by kernel_rfl, by kernel_rfl, ⟨by kernel_rfl, .of (by kernel_rfl), .of (by kernel_rfl), ⟨3, .of (by kernel_rfl)⟩, .of (by kernel_rfl)⟩,
    ⟨by kernel_rfl, .of (by kernel_rfl), 3, .of (by kernel_rfl)⟩, ⟨by kernel_rfl, .of (by kernel_rfl), ⟨3, .of (by kernel_rfl)⟩, .of (by kernel_rfl)⟩,
    ⟨by kernel_rfl, .of (by kernel_rfl), .of (by kernel_rfl), .of (by kernel_rfl), .of (by kernel_rfl), .of (by kernel_rfl), .of (by kernel_rfl), .of (by kernel_rfl), 4, .of (by kernel_rfl)⟩⟩,
    by kernel_rfl, by kernel_rfl, by kernel_rfl, by kernel_rfl, by kernel_rfl, by decide⟩
theorem seq_at {g : Nat} {k : SeqK} : ∀ {l : List (Nat × Pol)}, (polOf l g).seq = some k → ∃ p, (g, p) ∈ l ∧ p.seq = some k
  | [], h => by simp [polOf] at h
  | (f, p) :: r, h => by
    unfold polOf at h
    split at h
    · rename_i e; subst e; exact ⟨p, by simp, h⟩
    · obtain ⟨p', h1, h2⟩ := seq_at h; exact ⟨p', by simp [h1], h2⟩
theorem seq40 : SeqOK Try.prog dcfg.pol := by
  intro g cap items h
  unfold seqOf at h
  cases hk : (dcfg.pol g).seq with
  | none => rw [hk] at h; cases h
  | some k =>
    rw [hk] at h
    simp only at h
    obtain ⟨p, hp, hs⟩ := seq_at (l := dtbl) hk
    have hg : g = 40 ∧ k = .backward true 2 := by
      have hall : (dtbl.all fun x => match x.2.seq with | none => true | some k => x.1 == 40 && k == .backward true 2) = true := by kernel_rfl
      have := List.all_eq_true.1 hall _ hp
      simp only [hs, Bool.and_eq_true, beq_iff_eq] at this
      exact this
    obtain ⟨rfl, rfl⟩ := hg
    have hcap : ∃ xs l l2, cap = [.fptr [.list xs l] l2] := by
      unfold seqItems at h
      split at h
      · exact ⟨_, _, _, rfl⟩
      · rename_i e; cases e
      · cases h
    obtain ⟨xs, l, l2, rfl⟩ := hcap
    exact ⟨⟨Try.f40, by kernel_rfl, by kernel_rfl, by kernel_rfl⟩, fun w S B m lb hS hB hv => back_seq back40 h hS hB hv⟩
theorem cfg_good : cfgB dcfg = true := by kernel_rfl
theorem mixed : Try.prog.follows .mixedOrders = true := by kernel_rfl
end Go.Proofs.Ytcamcfplcoklkaa.Iv
