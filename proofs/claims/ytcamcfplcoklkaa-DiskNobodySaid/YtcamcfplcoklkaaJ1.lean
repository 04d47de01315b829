import Derived.Test.YtcamcfplcoklkaaI28
namespace Go.Proofs.Ytcamcfplcoklkaa.Iv
open Go
set_option linter.unusedVariables false
set_option linter.unusedSimpArgs false

/-! ### more fuel, the same answer -/
abbrev CallF := Nat → List V → Heap → Option (V × Heap)
def LeC (c c' : CallF) : Prop := ∀ f a H r, c f a H = some r → c' f a H = some r
def LeA (c c' : Code → List V → Heap → Res) : Prop := ∀ x e H r, c x e H = some r → c' x e H = some r

structure Pre where
  as : List V
  Hin : Heap
  acc : List Id
  fz : List (Id × Blk)
  rd : List Id
/-- what is handed to a function -/
def callPre (pol : Nat → Pol) (H : Heap) (f : Nat) (args : List V) : Option Pre :=
  match argsIn H (pol f).modes args with
  | some (as, fz, rd) =>
    match collect (H.sets fz) 200 (refsL as) [] with
    | some acc =>
      if acc.any (fun i => rd.contains i && !(fz.any fun x => x.1 == i)) = true then none else
        some ⟨renIf acc (intoRen (H.sets fz) acc) as, enterH (H.sets fz) acc, acc, fz, rd⟩
    | none => none
  | none => none
/-- what comes back -/
def callPost (pol : Nat → Pol) (H : Heap) (d f : Nat) (p : Pre) (r : V) (H' : Heap) : Option Out :=
  match retIn (pol f).own H' r with
  | some (r, us) =>
    match collect (H'.sets us) 200 (argIds p.acc.length (H'.sets us) (refs r)) [] with
    | some acc' => match backUps (H.sets p.fz) (H'.sets us) d p.acc acc' acc' with
      | some ups => if (outKept r || p.rd.isEmpty) && freshSubs d p.acc acc' then
          some ⟨renIfV acc' (backRen (H.sets p.fz) d p.acc acc') r, p.fz ++ ups, p.rd ++ p.acc ++ acc'.map (.sub d)⟩
        else none
      | none => none
    | none => none
  | none => none
theorem evCall_eq (call : CallF) (pol : Nat → Pol) (H : Heap) (d f : Nat) (args : List V) :
    evCall call pol H d f args = match callPre pol H f args with
      | some p => match call f p.as p.Hin with
        | some (r, H') => callPost pol H d f p r H'
        | none => none
      | none => none := by
  unfold evCall callPre
  cases argsIn H (pol f).modes args with
  | none => rfl
  | some q =>
    obtain ⟨as, fz, rd⟩ := q
    simp only
    cases collect (H.sets fz) 200 (refsL as) [] with
    | none => rfl
    | some acc =>
      simp only
      split
      · rfl
      · simp only
        cases call f (renIf acc (intoRen (H.sets fz) acc) as) (enterH (H.sets fz) acc) with
        | none => rfl
        | some q => obtain ⟨r, H'⟩ := q; rfl

theorem evCall_mono {c c' : CallF} (h : LeC c c') {pol : Nat → Pol} {H : Heap} {d f : Nat} {args : List V} {o : Out} (he : evCall c pol H d f args = some o) : evCall c' pol H d f args = some o := by
  rw [evCall_eq] at he ⊢
  cases hp : callPre pol H f args with
  | none => rw [hp] at he; cases he
  | some p =>
    rw [hp] at he
    simp only at he ⊢
    cases hc : c f p.as p.Hin with
    | none => rw [hc] at he; cases he
    | some q => rw [hc] at he; rw [h _ _ _ _ hc]; exact he

theorem evOp_mono {P : Program} {c c' : CallF} (h : LeC c c') {pol : Nat → Pol} {H : Heap} {ρ : Operand → V} {d : Nat} {op : Op} {o : Out} (he : evOp P c pol H ρ d op = some o) : evOp P c' pol H ρ d op = some o := by
  unfold evOp at he ⊢
  split at he <;> first | exact he | skip
  split at he <;> first | exact evCall_mono h he | exact he

theorem evOps_mono {P : Program} {c c' : CallF} (h : LeC c c') {pol : Nat → Pol} {ops : Array Oper} : ∀ {l : List Oper} {k : Nat} {env : List V} {H : Heap} {lg : Log} {r : List V × Heap × Log},
    evOps P c pol ops l k env H lg = some r → evOps P c' pol ops l k env H lg = some r
  | [], k, env, H, lg, r, he => he
  | o :: l, k, env, H, lg, r, he => by
    simp only [evOps] at he ⊢
    cases ho : evOper P c pol ops k o env H with
    | none => rw [ho] at he; cases he
    | some out =>
      have : evOper P c' pol ops k o env H = some out := by
        unfold evOper at ho ⊢
        split at ho
        · exact evOp_mono h ho
        · exact ho
        · cases ho
      rw [this]
      rw [ho] at he
      obtain ⟨v, us, rd⟩ := out
      simp only at he ⊢
      cases hs : setV env o.dst v with
      | none => rw [hs] at he; cases he
      | some env' => rw [hs] at he; exact evOps_mono h he

theorem evItems_mono {env : List V} {f g : List V → Heap → Res} (h : ∀ x H r, f x H = some r → g x H = some r) : ∀ {l : List (List V)} {H : Heap} {r : Ex × List V × Heap}, evItems env f l H = some r → evItems env g l H = some r
  | [], H, r, he => he
  | x :: l, H, r, he => by
    simp only [evItems] at he ⊢
    cases hf : f x H with
    | none => rw [hf] at he; cases he
    | some t =>
      obtain ⟨ex, e, H1⟩ := t
      rw [hf] at he
      rw [h _ _ _ hf]
      cases ex with
      | nrm => exact evItems_mono h he
      | _ => exact he
theorem twoC_mono {ps : List Nat} {env : List V} {a b a' b' : List V → Heap → Res} (ha : ∀ {e H r}, a e H = some r → a' e H = some r) (hb : ∀ {e H r}, b e H = some r → b' e H = some r) {x : List V} {H : Heap} {r : Ex × List V × Heap}
    (he : twoC ps env a b x H = some r) : twoC ps env a' b' x H = some r := by
  unfold twoC at he ⊢
  split at he
  · split at he
    · rename_i h1
      rw [ha h1]
      exact hb he
    · cases he
  · cases he

theorem evC_mono {P : Program} {c c' : CallF} (h : LeC c c') {pol : Nat → Pol} {g g' : Code → List V → Heap → Res} (hg : LeA g g') : ∀ {x : Code} {env : List V} {H : Heap} {r : Ex × List V × Heap},
    evC P c pol g x env H = some r → evC P c' pol g' x env H = some r := by
  intro x
  induction x with
  | seq a b iha ihb =>
    intro env H r he
    simp only [evC] at he ⊢
    cases ha : evC P c pol g a env H with
    | none => rw [ha] at he; cases he
    | some q =>
      rw [iha ha]
      rw [ha] at he
      obtain ⟨ex, e, H1⟩ := q
      cases ex with
      | nrm => exact ihb he
      | _ => exact he
  | cond t a b iha ihb =>
    intro env H r he
    simp only [evC] at he ⊢
    split at he
    · exact iha he
    · exact ihb he
    · cases he
  | block id a ih =>
    intro env H r he
    simp only [evC] at he ⊢
    cases ha : evC P c pol g a env H with
    | none => rw [ha] at he; cases he
    | some q => rw [ih ha]; rw [ha] at he; exact he
  | scope a ih =>
    intro env H r he
    simp only [evC] at he ⊢
    exact ih he
  | loop a ih =>
    intro env H r he
    simp only [evC] at he ⊢
    cases ha : evC P c pol g a env H with
    | none => rw [ha] at he; cases he
    | some q =>
      rw [ih ha]
      rw [ha] at he
      obtain ⟨ex, e, H1⟩ := q
      cases ex with
      | nrm => exact hg _ _ _ _ he
      | _ => exact he
  | rangeFunc g ps as body iha ihb =>
    intro env H r he
    simp only [evC] at he ⊢
    split at he
    · split at he
      · split at he
        · rename_i hf
          rw [if_pos hf]
          exact evItems_mono (fun x H r h => twoC_mono iha ihb h) he
        · cases he
      · cases he
    · cases he
  | region id ops draw =>
    intro env H r he
    simp only [evC] at he ⊢
    cases ho : evOps P c pol ops ops.toList 0 env H [] with
    | none => rw [ho] at he; cases he
    | some q => rw [evOps_mono h ho]; rw [ho] at he; exact he
  | _ => intro env H r he; exact he

theorem evFun_mono {K : Cfg} {c c' : CallF} (h : LeC c c') {g g' : Code → List V → Heap → Res} (hg : LeA g g') : LeC (evFun K c g) (evFun K c' g') := by
  intro f args H r he
  unfold evFun at he ⊢
  split at he
  · rename_i hx; rw [if_pos hx]; exact he
  · rename_i hx
    rw [if_neg hx]
    unfold evBody at he ⊢
    split at he
    · rename_i hgd
      rw [if_pos hgd]
      cases hf : K.P.funcs[f]? with
      | none => rw [hf] at he; cases he
      | some fn =>
        rw [hf] at he
        simp only at he ⊢
        cases hb : fn.body with
        | none => rw [hb] at he; cases he
        | some c0 =>
          rw [hb] at he
          simp only at he ⊢
          split at he
          · rename_i hl
            rw [if_pos hl]
            cases hc : evC K.P c K.pol g c0 (args ++ List.replicate (fn.ntmps - args.length) .und) H with
            | none => rw [hc] at he; cases he
            | some q => rw [evC_mono h hg hc]; rw [hc] at he; exact he
          · cases he
    · cases he

theorem run_mono1 (K : Cfg) : ∀ n, LeC (run K n) (run K (n + 1)) ∧ LeA (again K n) (again K (n + 1))
  | 0 => ⟨fun f a H r he => by simp [run] at he, fun x e H r he => by simp [again] at he⟩
  | n + 1 => by
    obtain ⟨h1, h2⟩ := run_mono1 K n
    have e1 : run K (n + 1) = evFun K (run K n) (again K n) := by funext f args H; rfl
    have e2 : run K (n + 1 + 1) = evFun K (run K (n + 1)) (again K (n + 1)) := by funext f args H; rfl
    refine ⟨by rw [e2, e1]; rw [e1] at h1; exact evFun_mono (by rw [← e1] at h1 ⊢; exact h1) h2, fun x e H r he => ?_⟩
    exact evC_mono h1 h2 he
theorem run_mono (K : Cfg) {n m : Nat} (h : n ≤ m) : LeC (run K n) (run K m) := by
  induction h with
  | refl => exact fun f a H r he => he
  | step _ ih => exact fun f a H r he => (run_mono1 K _).1 _ _ _ _ (ih _ _ _ _ he)
theorem again_mono (K : Cfg) {n m : Nat} (h : n ≤ m) : LeA (again K n) (again K m) := by
  induction h with
  | refl => exact fun f a H r he => he
  | step _ ih => exact fun f a H r he => (run_mono1 K _).2 _ _ _ _ (ih _ _ _ _ he)
end Go.Proofs.Ytcamcfplcoklkaa.Iv
