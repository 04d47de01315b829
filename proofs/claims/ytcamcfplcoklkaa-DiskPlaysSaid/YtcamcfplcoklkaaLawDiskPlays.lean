/- PROVED: the law DiskPlays answers true for every input; it never panics, and what came in stays. No condition but the statement's own. -/
import Derived.Test.YtcamcfplcoklkaaRows
import Derived.Test.YtcamcfplcoklkaaM9
import Derived.Test.YtcamcfplcoklkaaM25
import Derived.WalkKit
import Derived.ProofKit
import Derived.OpenShut
import Derived.ShutString
import Derived.ChangeOld
import Derived.Below
import Derived.SizedLaws
namespace Go.Proofs.Ytcamcfplcoklkaa.diskPlays
open Go.ChangeShapes Go.WideShapes Go.ChangeAt Go.RowKit
open Go.ChangeMaps (open_string shut_string)
open Go.Proofs.Ytcamcfplcoklkaa.Iv
set_option linter.unusedVariables false
theorem own : ownKnob Try.prog.godebug = none := by kernel_rfl
theorem laidOut : laidOutB Try.prog = true := by kernel_rfl
def intOf : V → Int
  | .int _ n => n
  | _ => 0
def toAct : List V → Act4
  | [.int _ d, .int _ n, .int _ m, .list b _] => ⟨d, n, m, b.map fun c => match c with | [v] => intOf v | _ => 0⟩
  | _ => ⟨0, 0, 0, []⟩
theorem u3 : Try.prog.underlying 3 = some (.int .i64) := by kernel_rfl
theorem u5 : Try.prog.underlying 5 = some (.int .u8) := by kernel_rfl
theorem u22 : Try.prog.underlying 22 = some (.slice 36) := by kernel_rfl
theorem u34 : Try.prog.underlying 34 = some (.slice 5) := by kernel_rfl
theorem u4 : Try.prog.underlying 4 = some .bool := by kernel_rfl
noncomputable def fl (i : Nat) : Field := match Try.prog.underlying 36 with | some (.struct fs) => fs.getD i default | _ => default
theorem u36 : Try.prog.underlying 36 = some (.struct #[fl 0, fl 1, fl 2, fl 3]) := by kernel_rfl
theorem t0 : (fl 0).type = 3 := by kernel_rfl
theorem t1 : (fl 1).type = 3 := by kernel_rfl
theorem t2 : (fl 2).type = 3 := by kernel_rfl
theorem t3 : (fl 3).type = 34 := by kernel_rfl
theorem opens36 : OpensV Try.prog 36 4 (fun vs => ∃ a b c d, vs = [a, b, c, d] ∧ (∃ n, [a] = [V.int .i64 n] ∧ (Lit.int .i64 n).wf = true) ∧ (∃ n, [b] = [V.int .i64 n] ∧ (Lit.int .i64 n).wf = true) ∧ (∃ n, [c] = [V.int .i64 n] ∧ (Lit.int .i64 n).wf = true) ∧
    ∃ xs, [d] = [V.list xs false] ∧ xs.length ≤ maxLen ∧ ∀ x ∈ xs, x.length = 1 ∧ ∃ n, x = [V.int .u8 n] ∧ (Lit.int .u8 n).wf = true) :=
  opensV_four u36 (by kernel_rfl) (by kernel_rfl) (by kernel_rfl) (by kernel_rfl) (by kernel_rfl) (by rw [t0]; kernel_rfl) (by rw [t1]; kernel_rfl) (by rw [t2]; kernel_rfl) (by rw [t3]; kernel_rfl)
    (by rw [t0]; exact opensV_int u3) (by rw [t1]; exact opensV_int u3) (by rw [t2]; exact opensV_int u3) (by rw [t3]; exact opensV_slice u34 (by kernel_rfl) (by decide) (opensV_int u5))
theorem acts_of {xs : List (List V)} (h : ∀ x ∈ xs, x.length = 4 ∧ ∃ a b c d, x = [a, b, c, d] ∧ (∃ n, [a] = [V.int .i64 n] ∧ (Lit.int .i64 n).wf = true) ∧ (∃ n, [b] = [V.int .i64 n] ∧ (Lit.int .i64 n).wf = true) ∧ (∃ n, [c] = [V.int .i64 n] ∧ (Lit.int .i64 n).wf = true) ∧
    ∃ xs, [d] = [V.list xs false] ∧ xs.length ≤ maxLen ∧ ∀ x ∈ xs, x.length = 1 ∧ ∃ n, x = [V.int .u8 n] ∧ (Lit.int .u8 n).wf = true) : V.list xs false = actsV (xs.map toAct) := by
  unfold actsV
  rw [List.map_map]
  congr 1
  have : xs.map (actV ∘ toAct) = xs.map id := List.map_congr_left (fun x hx => by
    obtain ⟨_, a, b, c, d, rfl, ⟨n0, e0, _⟩, ⟨n1, e1, _⟩, ⟨n2, e2, _⟩, ys, e3, _, h3⟩ := h x hx
    cases e0; cases e1; cases e2; cases e3
    simp only [Function.comp, toAct, actV, bytesV, id]
    rw [List.map_map]
    have : ys.map ((fun u => [V.int .u8 u]) ∘ fun c => match c with | [v] => intOf v | _ => 0) = ys.map id := List.map_congr_left (fun y hy => by
      obtain ⟨_, n, rfl, _⟩ := h3 y hy
      rfl)
    rw [this, List.map_id])
  rw [this, List.map_id]
set_option maxRecDepth 100000 in
theorem lifted (os : Os) (started : os.Started) (H : Type) (enc : TypeId × Value → H) :
    ReturnsInHanded {} Try.checked os 3 .any (Rows.diskPlaysSpec.pre6 enc Try.prog Try.f3 Rows.diskPlaysRow.domain false) (Rows.diskPlaysSpec.post enc Try.prog Try.f3 false true false false) := by
  refine returnsInHanded_of_change_sized (C := Try.checked) own started (by kernel_rfl) Try.func3
    (ChangeSpec.witness6 (enc := enc) (C := Try.checked) false ⟨#[], #[.int .i64 0, .slice none 0 0], []⟩ 8 (by kernel_rfl) (by kernel_rfl) (by kernel_rfl) (by kernel_rfl)) ?_
  intro W base args ds gs before hval0 hW hcnd hsz0 _
  have hval : ∀ (j : Nat) t v, Try.f3.params[j]? = some t → args[j]? = some v → Value.okWide Try.prog W .any base t v := hval0
  have hW' := hW
  obtain ⟨p, q, hA0, hV, rfl, hfz, hnd⟩ := hW
  have hA : DataW.TrodAll enc Try.prog W 0 (fun _ => true) true Try.f3.params.toList args.toList ds p := hA0
  have hpar : Try.f3.params = #[3, 22] := by kernel_rfl
  rw [hpar] at hA hval
  obtain ⟨v0, vs0, d0, ds0, p0, q0, hargs, rfl, rfl, h0, r0⟩ := trodAll_cons hA
  obtain ⟨v1, vs1, d1, ds1, p1, q1, rfl, rfl, rfl, h1, r1⟩ := trodAll_cons r0
  obtain ⟨rfl, rfl, rfl⟩ := trodAll_nil r1
  obtain rfl : args = #[v0, v1] := by cases args; simp_all
  obtain ⟨rfl, rfl⟩ := trodVars_none hV
  obtain ⟨n0, rfl, rfl, rfl, gg0⟩ := open_int u3 (hval 0 3 v0 rfl rfl) h0
  obtain ⟨a1, len1, cap1, rfl⟩ := okWide_slice u22 (hval 1 22 v1 rfl rfl)
  have k1 := h1
  have lt1 : ∀ x ∈ p1, x.block < W.heap.size := by obtain ⟨m, hm⟩ := k1; exact DataW.trod_lt m _ _ _ hm
  obtain ⟨fuel1, hf1⟩ := h1
  obtain ⟨vs, hvl, hfr, xs, rfl, hml, hx⟩ := (opensV_slice u22 (by kernel_rfl) (by decide) opens36) _ _ _ _ _ _ _ _ _ hf1
  rw [acts_of hx] at hfr
  have hlen : (xs.map toAct).length ≤ 9223372036854775807 := by
    rw [List.length_map]; unfold maxLen at hml; omega
  clear hA0 hval0 hsz0
  obtain ⟨n, r, H', hrun, rfl⟩ := plays hlen n0
  have hvr : All2 (VR W (Cel W) no (fun _ => none)) [.int .i64 n0, actsV (xs.map toAct)] [.int .i64 n0, .slice a1 len1 cap1] := ⟨.fr (.int _ _), .fr hfr.1, trivial⟩
  refine (calls_of_run (C := dcfg) mixed seq40 (ext_none (fun _ => rfl)) cfg_good hrun (w := W) (S := Cel W) (fun rb h => h) hvr).mono ?_
  rintro e W' ⟨x, S', m', rfl, bel, _, hv⟩
  obtain rfl := hv.bool_inv
  exact ⟨_, rfl, _, _, _, [], _, [], hW', trodAll_mk1 (shut_bool u4 _), (trodAll_cons_mk (shut_int u3 gg0) (trodAll_cons_mk (Below.trod laidOut (by kernel_rfl) (of_decide_eq_true (by kernel_rfl)) k1 bel lt1) trodAll_mk0)), rfl, bel.frame _, fun h => by cases h⟩
theorem over : Rows.diskPlaysRow.holds Try.pinned (OpenSpec.ofChange Rows.diskPlaysSpec) :=
  OpenClaim.holds_of_wide 3 Try.f3 rfl rfl rfl rfl rfl rfl rfl ⟨rfl, rfl, rfl, rfl, rfl⟩ rfl rfl rfl rfl rfl (by kernel_rfl) Try.func3 (by kernel_rfl)
    (of_decide_eq_true (by kernel_rfl)) (by unfold Func.isWrapper; first | (rw [if_pos (by decide +kernel)]; kernel_rfl) | (rw [if_neg (by decide +kernel)]; exact ⟨rfl, rfl⟩))
    (fun os started H enc _ => lifted os started H enc)
theorem proved : Rows.DiskPlaysSaid := over
#print axioms proved
end Go.Proofs.Ytcamcfplcoklkaa.diskPlays
