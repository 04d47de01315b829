/- Plain laws about what the printed functions compute. -/
import Derived.Test.YtieapebabncliaaQ3
import Derived.Test.YtieapebabncliaaX4
import Derived.Test.YtieapebabncliaaX16
import Derived.Test.YtieapebabncliaaX17
namespace Go.Proofs.Ytieapebabncliaa.X
open Go.RowKit Go.Proofs.YtieapebabncliaaW.PrintWords Go.Proofs.Ytieapebabncliaa.X
set_option linter.unusedVariables false
set_option linter.unusedSimpArgs false
theorem gint {v : Int} (h : GInt .u32 v) : 0 ≤ v ∧ v < 4294967296 := by
 unfold GInt Lit.wf at h
 have e1 : IntKind.u32.min = 0 := by decide
 have e2 : IntKind.u32.max = 4294967295 := by decide
 simp only [e1, e2, Bool.and_eq_true, decide_eq_true_eq] at h
 omega
theorem okl {l : List S36} (h : GAll (fun x : S36 => (GInt .u32) x.f0 ∧ (GInt .u32) x.f1) l) : OkL l := fun s hs => by
 have := h.2 s hs
 have a := gint this.1
 have b := gint this.2
 exact ⟨a.1, a.2, b.1, b.2⟩
theorem inB_any (ls : List (List S36)) (v : Int) : inB ls v 0 = true ↔ 1 ≤ v ∧ v ≤ 2147483647 ∧ inS ls.flatten v := by
 unfold inB
 rw [if_pos rfl, List.any_eq_true, inS_flatten]
 constructor
 ·rintro ⟨l, hl, h⟩
  obtain ⟨a, b, c⟩ := (hasb_in l v).mp h
  exact ⟨a, b, l, hl, c⟩
 ·rintro ⟨a, b, l, hl, c⟩
  exact ⟨l, hl, (hasb_in l v).mpr ⟨a, b, c⟩⟩
theorem made0 (ls : List (List S36)) : madeF ls 0 = unionF ls.flatten := by
 obtain ⟨h1, h2⟩ := made_ok ls 0
 refine (union_eq h1 fun v => ?_).symm
 rw [h2, inB_any]
 constructor
 ·rintro ⟨_, _, h⟩; exact h
 ·intro h; exact ⟨h.1, h.2.1, h⟩
theorem made1 (ls : List (List S36)) : madeF ls 1 = meetF ls := by
 obtain ⟨h1, h2⟩ := made_ok ls 1
 refine Can_uniq h1 (meetF_can ls) fun v => ?_
 rw [h2, meetF_in]
 unfold inB
 rw [if_neg (by decide), if_pos rfl, List.all_eq_true]
 refine and_congr_right fun a => and_congr_right fun b => ?_
 constructor
 ·intro h l hl; exact ((hasb_in l v).mp (h l hl)).2.2
 ·intro h l hl; exact (hasb_in l v).mpr ⟨a, b, h l hl⟩
theorem runion_f (k : Nat) (ls : List (List S36)) (hn : ls.length < 1000000) (hf : ls.flatten.length < 100000000) (hok : ∀ l ∈ ls, OkL l) (hk : 600000000 < k) : rf_Union.f k ls = some (unionF ls.flatten) := by
 unfold rf_Union.f
 rw [made_f k ls 0 hn hf hok hk, Option.bind_some, made0]
theorem runion_f1 (k : Nat) (l : List S36) (hf : l.length < 100000000) (hok : OkL l) (hk : 600000000 < k) : rf_Union.f k [l] = some (unionF l) := by
 rw [runion_f k [l] (by simp) (by simpa using hf) (by intro x hx; obtain rfl := List.mem_singleton.mp hx; exact hok) hk]
 simp
end Go.Proofs.Ytieapebabncliaa.X
