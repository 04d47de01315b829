import Derived.Test.YtcamcfplcoklkaaJ2
namespace Go.Proofs.Ytcamcfplcoklkaa.Iv
open Go

/-! ### words of the printed programs -/
def cAt : List Nat → Code → Code
  | [], c => c
  | 0 :: p, .seq a _ => cAt p a
  | _ :: p, .seq _ b => cAt p b
  | 0 :: p, .cond _ a _ => cAt p a
  | _ :: p, .cond _ _ b => cAt p b
  | _ :: p, .block _ a => cAt p a
  | _ :: p, .scope a => cAt p a
  | _ :: p, .loop a => cAt p a
  | _ :: _, c => c
def bodyOf (f : Func) : Code := match f.body with | some c => c | none => .skip
def opsOf : Code → Array Oper
  | .region _ ops _ => ops
  | _ => #[]

def stepW (o : Option Out) (H : Heap) (Q : V → Heap → Prop) : Prop := outW o fun o => Q o.v (H.sets o.ups)
def stepL (o : Option Out) (H : Heap) (lg : Log) (k : Nat) (Q : V → Heap → Log → Prop) : Prop := outW o fun o => Q o.v (H.sets o.ups) ((k, o.rd, o.ups.map (·.1)) :: lg)
section
variable (pol : Nat → Pol) (cl : CallW)
def callW (H : Heap) (d f : Nat) (args : List V) (Q : V → Heap → Prop) : Prop := wCall pol cl H d f args fun o => Q o.v (H.sets o.ups)
def callL (H : Heap) (lg : Log) (k d f : Nat) (args : List V) (Q : V → Heap → Log → Prop) : Prop := wCall pol cl H d f args fun o => Q o.v (H.sets o.ups) ((k, o.rd, o.ups.map (·.1)) :: lg)
def wCallV (H : Heap) (d : Nat) (f : V) (args : List V) (Q : Out → Prop) : Prop :=
  match f with
  | .fn f cap => wCall pol cl H d f (args ++ cap) Q
  | _ => False
end
def wantG (g : V) (b : Bool) : Option Bool := match g with | .bool c => some (c == b) | _ => none
def guardO (g : V) (b : Bool) (run : (Out → Prop) → Prop) (Q : Out → Prop) : Prop :=
  gate (wantG g b) run Q
def guardW (g : V) (b : Bool) (H : Heap) (run : (Out → Prop) → Prop) (Q : V → Heap → Prop) : Prop := guardO g b run fun o => Q o.v (H.sets o.ups)
def guardL (g : V) (b : Bool) (H : Heap) (lg : Log) (k : Nat) (run : (Out → Prop) → Prop) (Q : V → Heap → Log → Prop) : Prop := guardO g b run fun o => Q o.v (H.sets o.ups) ((k, o.rd, o.ups.map (·.1)) :: lg)
def condW (c : V) (a b : Prop) : Prop :=
  match c with
  | .bool true => a
  | .bool false => b
  | _ => False
def pickO (c a b : V) : Option Out := match c with | .bool t => pureO (if t then a else b) | _ => none
def allocO (P : Program) (H : Heap) (d e : Nat) : Option Out := match zOf P e with | some z => evBox H d z | none => none
def nilO (x : V) : Option Out := match x with
  | .ptr i g o => pureO (.ptr i g o)
  | .fptr cs l => pureO (.fptr cs l)
  | .fn f c => pureO (.fn f c)
  | _ => none
def extractO (x : V) (i : Nat) : Option Out := match x with | .tup vs => liftO vs[i]? | _ => none
section
variable (P : Program) (pol : Nat → Pol) (cl : CallW) (lp : LoopW)
def seqK (b : Code) (Q : KQ) : KQ := fun ex env H => match ex with
  | .nrm => wC P pol cl lp b env H Q
  | .exit i => Q (.exit i) env H
  | .ret => Q .ret env H
end
def blockK (id : Nat) (Q : KQ) : KQ := fun ex env H => match ex with
  | .exit j => if j = id then Q .nrm env H else Q (.exit j) env H
  | .nrm => Q .nrm env H
  | .ret => Q .ret env H
section
variable {P : Program} {pol : Nat → Pol} {cl : CallW} {lp : LoopW} {c a b : Code} {env : List V} {H : Heap} {Q : KQ}
theorem wC_seq (h : c = .seq a b) : wC P pol cl lp c env H Q = wC P pol cl lp a env H (seqK P pol cl lp b Q) := by subst h; rfl
theorem wC_cond {x : Operand} (h : c = .cond x a b) : wC P pol cl lp c env H Q = condW (evOperand env x) (wC P pol cl lp a env H Q) (wC P pol cl lp b env H Q) := by subst h; rfl
theorem wC_block {i : Nat} (h : c = .block i a) : wC P pol cl lp c env H Q = wC P pol cl lp a env H (blockK i Q) := by subst h; rfl
theorem wC_scope (h : c = .scope a) : wC P pol cl lp c env H Q = wC P pol cl lp a env H Q := by subst h; rfl
theorem wC_loop (h : c = .loop a) : wC P pol cl lp c env H Q = lp a env H Q := by subst h; rfl
theorem wC_ret (h : c = .ret) : wC P pol cl lp c env H Q = Q .ret env H := by subst h; rfl
theorem wC_skip (h : c = .skip) : wC P pol cl lp c env H Q = Q .nrm env H := by subst h; rfl
theorem wC_exit {i : Nat} (h : c = .exit i) : wC P pol cl lp c env H Q = Q (.exit i) env H := by subst h; rfl
theorem wC_reg {i : Nat} {ops : Array Oper} {l : List Oper} (h : c = .region i ops false) (hl : ops.toList = l) : wC P pol cl lp c env H Q = wOps P pol cl ops l 0 env H (Q .nrm) := by subst h; subst hl; rfl
theorem wC_regL {i : Nat} {ops : Array Oper} {l : List Oper} (h : c = .region i ops true) (hl : ops.toList = l) : wC P pol cl lp c env H Q = wOpsL P pol cl ops l 0 env H [] (fun env H lg => logOk ops lg = true ∧ Q .nrm env H) := by subst h; subst hl; rfl
theorem wOps_app {ops : Array Oper} (b : List Oper) : ∀ (a : List Oper) (k : Nat) (env : List V) (H : Heap) (Q : List V → Heap → Prop), wOps P pol cl ops (a ++ b) k env H Q = wOps P pol cl ops a k env H fun env H => wOps P pol cl ops b (k + a.length) env H Q
  | [], _, _, _, _ => rfl
  | o :: a, k, env, H, Q => by
    simp only [List.cons_append, wOps, List.length_cons]
    congr 1; funext out; congr 1; funext env
    rw [wOps_app b a, Nat.add_assoc, Nat.add_comm 1]
theorem wOpsL_app {ops : Array Oper} (b : List Oper) : ∀ (a : List Oper) (k : Nat) (env : List V) (H : Heap) (lg : Log) (Q : List V → Heap → Log → Prop), wOpsL P pol cl ops (a ++ b) k env H lg Q = wOpsL P pol cl ops a k env H lg fun env H lg => wOpsL P pol cl ops b (k + a.length) env H lg Q
  | [], _, _, _, _, _ => rfl
  | o :: a, k, env, H, lg, Q => by
    simp only [List.cons_append, wOpsL, List.length_cons]
    congr 1; funext out; congr 1; funext env
    rw [wOpsL_app b a, Nat.add_assoc, Nat.add_comm 1]
theorem wOps_cut {ops : Array Oper} {l a b : List Oper} {k n : Nat} {Q : List V → Heap → Prop} (h : l = a ++ b) (hn : k + a.length = n) : wOps P pol cl ops l k env H Q = wOps P pol cl ops a k env H fun env H => wOps P pol cl ops b n env H Q := by subst h; subst hn; exact wOps_app b a k env H Q
theorem wOpsL_cut {ops : Array Oper} {l a b : List Oper} {k n : Nat} {lg : Log} {Q : List V → Heap → Log → Prop} (h : l = a ++ b) (hn : k + a.length = n) : wOpsL P pol cl ops l k env H lg Q = wOpsL P pol cl ops a k env H lg fun env H lg => wOpsL P pol cl ops b n env H lg Q := by subst h; subst hn; exact wOpsL_app b a k env H lg Q
end
end Go.Proofs.Ytcamcfplcoklkaa.Iv
