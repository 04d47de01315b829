/- PROVED: the law AxisTells answers true for every input; it never panics, and what came in stays. No condition but the statement's own. -/
import Derived.Test.YtieapebabncliaaRows
import Derived.Test.YtieapebabncliaaM5
import Derived.WalkKit
import Derived.ProofKit
import Derived.OpenShut
import Derived.ShutString
import Derived.ChangeOld
import Derived.Below
import Derived.SizedLaws
namespace Go.Proofs.Ytieapebabncliaa.axisTells
open Go.ChangeShapes Go.WideShapes Go.ChangeAt Go.RowKit
open Go.ChangeMaps (open_string shut_string)
open Go.Proofs.Ytieapebabncliaa.Iv
set_option linter.unusedVariables false
theorem own : ownKnob Try.prog.godebug = none := by kernel_rfl
theorem laidOut : laidOutB Try.prog = true := by kernel_rfl
theorem u34 : Try.prog.underlying 34 = some (.int .u32) := by kernel_rfl
theorem u32 : Try.prog.underlying 32 = some (.int .u64) := by kernel_rfl
theorem u4 : Try.prog.underlying 4 = some .bool := by kernel_rfl
theorem u26 : Try.prog.underlying 26 = some (.slice 36) := by kernel_rfl
theorem u44 : Try.prog.underlying 44 = some (.slice 47) := by kernel_rfl
noncomputable def fl (t i : Nat) : Field := match Try.prog.underlying t with | some (.struct fs) => fs.getD i default | _ => default
theorem u36 : Try.prog.underlying 36 = some (.struct #[fl 36 0, fl 36 1]) := by kernel_rfl
theorem u47 : Try.prog.underlying 47 = some (.struct #[fl 47 0, fl 47 1]) := by kernel_rfl
/-- a struct of two fields, each of one cell -/
theorem opensV_two {P : Program} {t : TypeId} {G0 G1 : List V → Prop} {f0 f1 : Field} (ht : P.underlying t = some (.struct #[f0, f1])) (hn : P.cellsOf t = 2) (o0 : f0.offset = 0) (o1 : f1.offset = 1)
    (c0 : P.cellsOf f0.type = 1) (c1 : P.cellsOf f1.type = 1) (h0 : OpensV P f0.type 1 G0) (h1 : OpensV P f1.type 1 G1) : OpensV P t 2 (fun vs => ∃ a b, vs = [a, b] ∧ G0 [a] ∧ G1 [b]) := by
  intro H enc w base spare held fuel cs x h
  cases fuel with
  | zero => simp [DataW.trod] at h
  | succ fuel =>
    have h' : (if cs.length = P.cellsOf t then (#[f0, f1].toList.mapM fun f => DataW.trod enc P w base spare held fuel f.type ((cs.drop f.offset).take (P.cellsOf f.type))).map fun xs => ((.agg (xs.map (·.1)) : DataW H), xs.flatMap (·.2)) else none) = some x := by
      rw [← h]
      simp only [DataW.trod, ht]
    split at h'
    · rename_i hl
      rw [hn] at hl
      obtain ⟨xs, hxs, _⟩ := Option.map_eq_some_iff.1 h'
      have hlen := mapM_some_length hxs
      have g0 := mapM_some_get hxs 0 f0 rfl
      have g1 := mapM_some_get hxs 1 f1 rfl
      simp only [List.length_cons, List.length_nil] at hlen
      rw [List.getElem?_eq_getElem (by omega)] at g0 g1
      match cs, hl with
      | [u0, u1], _ =>
        obtain ⟨v0, l0, r0, q0⟩ := h0 H enc w base spare held fuel _ _ g0
        obtain ⟨v1, l1, r1, q1⟩ := h1 H enc w base spare held fuel _ _ g1
        rw [o0, c0] at r0; rw [o1, c1] at r1
        match v0, v1, l0, l1, r0, r1, q0, q1 with
        | [a], [b], _, _, r0, r1, q0, q1 => exact ⟨[a, b], rfl, ⟨r0.1, r1.1, trivial⟩, a, b, rfl, q0, q1⟩
    · cases h'
def IsI (k : IntKind) (vs : List V) : Prop := ∃ n, vs = [V.int k n] ∧ (Lit.int k n).wf = true
def IsS (vs : List V) : Prop := ∃ a b, vs = [a, b] ∧ IsI .u32 [a] ∧ IsI .u32 [b]
def IsL (vs : List V) : Prop := ∃ xs, vs = [.list xs false] ∧ xs.length ≤ maxLen ∧ ∀ x ∈ xs, x.length = 2 ∧ IsS x
def IsK (vs : List V) : Prop := ∃ a b, vs = [a, b] ∧ IsL [a] ∧ IsL [b]
theorem opens36 : OpensV Try.prog 36 2 IsS :=
  opensV_two u36 (by kernel_rfl) (by kernel_rfl) (by kernel_rfl) (by kernel_rfl) (by kernel_rfl)
    (by have e : (fl 36 0).type = 34 := by kernel_rfl
        rw [e]; exact opensV_int u34) (by have e : (fl 36 1).type = 34 := by kernel_rfl
                                          rw [e]; exact opensV_int u34)
theorem opens26 : OpensV Try.prog 26 1 IsL := opensV_slice u26 (by kernel_rfl) (by decide) opens36
theorem opens47 : OpensV Try.prog 47 2 IsK :=
  opensV_two u47 (by kernel_rfl) (by kernel_rfl) (by kernel_rfl) (by kernel_rfl) (by kernel_rfl)
    (by have e : (fl 47 0).type = 26 := by kernel_rfl
        rw [e]; exact opens26) (by have e : (fl 47 1).type = 26 := by kernel_rfl
                                   rw [e]; exact opens26)
theorem sp_of {a : V} (h : IsL [a]) : a = spV (unSp a) := by
  obtain ⟨xs, e, _, hx⟩ := h
  cases e
  show V.list xs false = .list ((xs.map unS).map sRow) false
  rw [List.map_map]
  have : xs.map (sRow ∘ unS) = xs.map id := List.map_congr_left (fun x hq => by
    obtain ⟨_, a, b, rfl, ⟨n, e1, _⟩, ⟨m, e2, _⟩⟩ := hx x hq
    cases e1; cases e2; rfl)
  rw [this, List.map_id]
theorem kn_of {xs : List (List V)} (h : ∀ x ∈ xs, x.length = 2 ∧ IsK x) : V.list xs false = knV (xs.map unK) := by
  show V.list xs false = .list ((xs.map unK).map kRow) false
  rw [List.map_map]
  have : xs.map (kRow ∘ unK) = xs.map id := List.map_congr_left (fun x hq => by
    obtain ⟨_, a, b, rfl, h1, h2⟩ := h x hq
    show [spV (unSp a), spV (unSp b)] = [a, b]
    rw [← sp_of h1, ← sp_of h2])
  rw [this, List.map_id]
set_option maxRecDepth 100000 in
theorem lifted (os : Os) (started : os.Started) (H : Type) (enc : TypeId × Value → H) :
    ReturnsInHanded {} Try.checked os 8 .any (Rows.axisTellsSpec.pre6 enc Try.prog Try.f8 Rows.axisTellsRow.domain false) (Rows.axisTellsSpec.post enc Try.prog Try.f8 false true false false) := by
  refine returnsInHanded_of_change_sized (C := Try.checked) own started (by kernel_rfl) Try.func8
    (ChangeSpec.witness6 (enc := enc) (C := Try.checked) false ⟨#[], #[.slice none 0 0, .int .u32 0, .int .u64 0], []⟩ 8 (by kernel_rfl) (by kernel_rfl) (by kernel_rfl) (by kernel_rfl)) ?_
  intro W base args ds gs before hval0 hW hcnd hsz0 _
  have hval : ∀ (j : Nat) t v, Try.f8.params[j]? = some t → args[j]? = some v → Value.okWide Try.prog W .any base t v := hval0
  have hW' := hW
  obtain ⟨p, q, hA0, hV, rfl, hfz, hnd⟩ := hW
  have hA : DataW.TrodAll enc Try.prog W 0 (fun _ => true) true Try.f8.params.toList args.toList ds p := hA0
  have hpar : Try.f8.params = #[44, 34, 32] := by kernel_rfl
  rw [hpar] at hA hval
  obtain ⟨v0, vs0, d0, ds0, p0, q0, hargs, rfl, rfl, h0, r0⟩ := trodAll_cons hA
  obtain ⟨v1, vs1, d1, ds1, p1, q1, rfl, rfl, rfl, h1, r1⟩ := trodAll_cons r0
  obtain ⟨v2, vs2, d2, ds2, p2, q2, rfl, rfl, rfl, h2, r2⟩ := trodAll_cons r1
  obtain ⟨rfl, rfl, rfl⟩ := trodAll_nil r2
  obtain rfl : args = #[v0, v1, v2] := by cases args; simp_all
  obtain ⟨rfl, rfl⟩ := trodVars_none hV
  obtain ⟨a0, len0, cap0, rfl⟩ := okWide_slice u44 (hval 0 44 v0 rfl rfl)
  have k0 := h0
  have lt0 : ∀ x ∈ p0, x.block < W.heap.size := by obtain ⟨m, hm⟩ := k0; exact DataW.trod_lt m _ _ _ hm
  obtain ⟨fuel0, hf0⟩ := h0
  obtain ⟨vs, hvl, hfr, xs, rfl, hml, hx⟩ := (opensV_slice u44 (by kernel_rfl) (by decide) opens47) _ _ _ _ _ _ _ _ _ hf0
  rw [kn_of hx] at hfr
  obtain ⟨n1, rfl, rfl, rfl, gg1⟩ := open_int u34 (hval 1 34 v1 rfl rfl) h1
  obtain ⟨n2, rfl, rfl, rfl, gg2⟩ := open_int u32 (hval 2 32 v2 rfl rfl) h2
  clear hA0 hval0 hsz0
  obtain ⟨n, r, H', hrun, rfl⟩ := tells (l := xs.map unK) (id := n1) (x := n2)
  have hvr : All2 (VR W (Cel W) no (fun _ => none)) [knV (xs.map unK), .int .u32 n1, .int .u64 n2] [.slice a0 len0 cap0, .int .u32 n1, .int .u64 n2] := ⟨.fr hfr.1, .fr (.int _ _), .fr (.int _ _), trivial⟩
  refine (calls_of_run (C := acfg) mixedA seqA ax_ext acfg_good hrun (w := W) (S := Cel W) (fun rb h => h) hvr).mono ?_
  rintro e W' ⟨x, S', m', rfl, bel, _, hv⟩
  obtain rfl := hv.bool_inv
  exact ⟨_, rfl, _, _, _, [], _, [], hW', trodAll_mk1 (shut_bool u4 _), (trodAll_cons_mk (Below.trod laidOut (by kernel_rfl) (of_decide_eq_true (by kernel_rfl)) k0 bel lt0) (trodAll_cons_mk (shut_int u34 gg1) (trodAll_cons_mk (shut_int u32 gg2) trodAll_mk0))), rfl, bel.frame _, fun h => by cases h⟩
theorem over : Rows.axisTellsRow.holds Try.pinned (OpenSpec.ofChange Rows.axisTellsSpec) :=
  OpenClaim.holds_of_wide 8 Try.f8 rfl rfl rfl rfl rfl rfl rfl ⟨rfl, rfl, rfl, rfl, rfl⟩ rfl rfl rfl rfl rfl (by kernel_rfl) Try.func8 (by kernel_rfl)
    (of_decide_eq_true (by kernel_rfl)) (by unfold Func.isWrapper; first | (rw [if_pos (by decide +kernel)]; kernel_rfl) | (rw [if_neg (by decide +kernel)]; exact ⟨rfl, rfl⟩))
    (fun os started H enc _ => lifted os started H enc)
theorem proved : Rows.AxisTellsSaid := over
#print axioms proved
end Go.Proofs.Ytieapebabncliaa.axisTells
