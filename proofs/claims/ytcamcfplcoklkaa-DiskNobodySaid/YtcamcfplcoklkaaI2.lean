import Derived.Test.YtcamcfplcoklkaaI1
namespace Go.Proofs.Ytcamcfplcoklkaa.Iv
open Go

inductive Mode where
  | keep | lent | byref | view | lentN
  deriving DecidableEq, Inhabited
/-- functions that hand the elements of a list on, one by one -/
inductive SeqK where
  | backward (ag : Bool) (sz : Nat)
  | chunk
  deriving DecidableEq, Inhabited
structure Pol where
  own : Bool
  modes : List Mode
  seq : Option SeqK := none
  deriving Inhabited

mutual
def refs : V → List (Id × Nat)
  | .ptr i g _ => [(i, g)]
  | .sl i g _ _ _ _ => [(i, g)]
  | .agg cs => refsL cs
  | .tup cs => refsL cs
  | .fn _ cs => refsL cs
  | _ => []
def refsL : List V → List (Id × Nat)
  | [] => []
  | v :: r => refs v ++ refsL r
end
mutual
def ren (f : Id → Nat → Option (Id × Nat)) : V → V
  | .ptr i g o => match f i g with | some (i, g) => .ptr i g o | none => .und
  | .sl i g o n sz lim => match f i g with | some (i, g) => .sl i g o n sz lim | none => .und
  | .agg cs => .agg (renL f cs)
  | .tup cs => .tup (renL f cs)
  | .fn k cs => .fn k (renL f cs)
  | v => v
def renL (f : Id → Nat → Option (Id × Nat)) : List V → List V
  | [] => []
  | v :: r => ren f v :: renL f r
end

/-- The blocks that can be reached, each once, in the order in which they are met. -/
def collect (H : Heap) : Nat → List (Id × Nat) → List Id → Option (List Id)
  | _, [], acc => some acc
  | 0, _ :: _, _ => none
  | n + 1, (i, g) :: todo, acc =>
    if i ∈ acc then collect H n todo acc else
    match live H i g with
    | some b => collect H n ((if b.flat then [] else refsL b.cells) ++ todo) (acc ++ [i])
    | none => none

def pos (i : Id) : List Id → Nat → Option Nat
  | [], _ => none
  | x :: r, n => if x = i then some n else pos i r (n + 1)

def lent1 (H : Heap) : V → Option Out
  | .sl i g o n sz _ =>
    match live H i g with
    | some b => match cut b.cells o (n * sz) with
      | some cs => if b.flat = true ∧ 0 < sz then some ⟨.list (chunk sz n cs) true, [], [i]⟩ else none
      | none => none
    | none => none
  | .list xs _ => pureO (.list xs true)
  | .nils => pureO (.list [] true)
  | .emp => pureO (.list [] true)
  | v => keepV H v
/-- a cell as it is seen in a block that is lent -/
def viewC (H : Heap) : V → Option (V × List Id)
  | .sl i g o n sz _ => match live H i g with
    | some b => match cut b.cells o (n * sz) with
      | some cs => if b.flat = true ∧ 0 < sz then some (.list (chunk sz n cs) true, [i]) else none
      | none => none
    | none => none
  | c => if c.plain = true then some (c, []) else none
def viewL (H : Heap) : List V → Option (List V × List Id)
  | [] => some ([], [])
  | c :: r => match viewC H c with
    | some (c, d) => match viewL H r with
      | some (cs, ds) => some (c :: cs, d ++ ds)
      | none => none
    | none => none
/-- a pointer that is lent: the block is read, not written, not kept -/
def view1 (H : Heap) : V → Option Out
  | .ptr i g o => match live H i g with
    | some b => match viewL H (b.cells.drop o) with
      | some (cs, d) => some ⟨.fptr cs true, [], i :: d⟩
      | none => none
    | none => none
  | .fptr cs _ => pureO (.fptr cs true)
  | .nilp => pureO .nilp
  | _ => none
def argIn (H : Heap) : Mode → V → Option Out
  | .keep, v => keepV H v
  | .lent, v => lent1 H v
  | .byref, v => pureO v
  | .lentN, v => match v with
    | .nils => pureO .nils
    | .emp => pureO .emp
    | v => lent1 H v
  | .view, v => view1 H v
/-- the arguments as they are handed on, the blocks that are frozen, what was read, what is lent -/
def argsIn (H : Heap) : List Mode → List V → Option (List V × List (Id × Blk) × List Id)
  | _, [] => some ([], [], [])
  | ms, v :: r => match argIn H (ms.headD .keep) v with
    | some ⟨v, u, d⟩ => match argsIn H ms.tail r with
      | some (vs, us, ds) => some (v :: vs, u ++ us, d ++ ds)
      | none => none
    | none => none

def intoRen (H : Heap) (acc : List Id) (i : Id) (g : Nat) : Option (Id × Nat) :=
  match pos i acc 0 with
  | some j => match live H i g with
    | some _ => some (.arg j, 0)
    | none => none
  | none => none
def enterH (H : Heap) (acc : List Id) : Heap :=
  match acc with
  | [] => fun _ => none
  | acc => fun
    | .arg j => match acc[j]? with
      | some i => match H i with
        | some b => some { gen := 0, cells := if b.flat then b.cells else renL (intoRen H acc) b.cells, frz := b.frz, flat := b.flat }
        | none => none
      | none => none
    | _ => none
def backName (H : Heap) (d : Nat) (acc : List Id) : Id → Option (Id × Nat)
  | .arg j => match acc[j]? with
    | some i => match H i with
      | some b => some (i, b.gen)
      | none => none
    | none => none
  | i => some (.sub d i, nextGen H (.sub d i))
def backRen (H : Heap) (d : Nat) (acc acc' : List Id) (i : Id) (g : Nat) : Option (Id × Nat) :=
  if i ∈ acc' then
    match backName H d acc i with
    | some (i', b) => some (i', b + g)
    | none => none
  else none
def keepTup (H : Heap) : List V → Option (List V × List (Id × Blk) × List Id)
  | [] => some ([], [], [])
  | v :: r => match keepV H v with
    | some ⟨v, u, d⟩ => match keepTup H r with
      | some (vs, us, ds) => some (v :: vs, u ++ us, d ++ ds)
      | none => none
    | none => none
def V.keptR : V → Bool
  | .agg cs => cs.all V.kept
  | v => v.kept
def outKept : V → Bool
  | .tup vs => vs.all V.keptR
  | v => v.keptR
def argIds : Nat → Heap → List (Id × Nat) → List (Id × Nat)
  | 0, _, l => l
  | n + 1, H, l => argIds n H (match H (.arg n) with | some b => (.arg n, b.gen) :: l | none => l)
/-- the blocks that go back to the caller -/
def backUps (H H' : Heap) (d : Nat) (acc acc' : List Id) : List Id → Option (List (Id × Blk))
  | [] => some []
  | i :: r => match H' i, backName H d acc i, backUps H H' d acc acc' r with
    | some b, some (i', g), some us =>
      if (b.flat || b.cells.all V.kept) = true then
        some ((i', { gen := g + b.gen, cells := if b.flat then b.cells else renL (backRen H d acc acc') b.cells, frz := b.frz, flat := b.flat }) :: us)
      else none
    | _, _, _ => none
def freshSubs (d : Nat) (acc : List Id) : List Id → Bool
  | [] => true
  | .arg _ :: r => freshSubs d acc r
  | i :: r => !(acc.contains (.sub d i)) && freshSubs d acc r

/-- what is answered: a slice of the heap's is frozen, but where it is to stay the caller's own -/
def retIn (own : Bool) (H : Heap) (r : V) : Option (V × List (Id × Blk)) :=
  match own with
  | true => some (r, [])
  | false => match r with
    | .tup vs => match keepTup H vs with
      | some (vs, us, _) => some (.tup vs, us)
      | none => none
    | r => match keepV H r with
      | some ⟨r, us, _⟩ => some (r, us)
      | none => none

def renIf (acc : List Id) (f : Id → Nat → Option (Id × Nat)) (as : List V) : List V :=
  match acc with
  | [] => as
  | _ => renL f as
def renIfV (acc : List Id) (f : Id → Nat → Option (Id × Nat)) (r : V) : V :=
  match acc with
  | [] => r
  | _ => ren f r
def evCall (call : Nat → List V → Heap → Option (V × Heap)) (pol : Nat → Pol) (H : Heap) (d f : Nat) (args : List V) : Option Out :=
  match argsIn H (pol f).modes args with
  | some (as, fz, rd) =>
    let H1 := H.sets fz
    match collect H1 200 (refsL as) [] with
    | some acc =>
      if acc.any (fun i => rd.contains i && !(fz.any fun x => x.1 == i)) = true then none else
      match call f (renIf acc (intoRen H1 acc) as) (enterH H1 acc) with
      | some (r, H') =>
        match retIn (pol f).own H' r with
        | some (r, us) =>
          match collect (H'.sets us) 200 (argIds acc.length (H'.sets us) (refs r)) [] with
          | some acc' => match backUps H1 (H'.sets us) d acc acc' acc' with
            | some ups => if (outKept r || rd.isEmpty) && freshSubs d acc acc' then
                some ⟨renIfV acc' (backRen H1 d acc acc') r, fz ++ ups, rd ++ acc ++ acc'.map (.sub d)⟩
              else none
            | none => none
          | none => none
        | none => none
      | none => none
    | none => none
  | none => none

section
variable (P : Program) (call : Nat → List V → Heap → Option (V × Heap)) (pol : Nat → Pol)

def liftO : Option V → Option Out
  | some v => pureO v
  | none => none

def evBuiltin (H : Heap) (d : Nat) (b : Builtin) (ts : List Nat) (args : List V) : Option Out :=
  match b, ts, args with
  | .append, s :: x :: _, [a, b] => evAppend P H d s x a b
  | .len, s :: _, [x] => evLen P s x
  | .cap, s :: _, [x] => evCap P s x
  | .copy, s :: _, [a, b] => evCopy P H s a b
  | .clear, s :: _, [a] => evClear P H s a
  | .max, _, x :: r => liftO (foldO max2 x r)
  | .min, _, x :: r => liftO (foldO min2 x r)
  | _, _, _ => none

def evOp (H : Heap) (ρ : Operand → V) (d : Nat) : Op → Option Out
  | .move x | .assign x => pureO (ρ x)
  | .pick c a b => match ρ c with
    | .bool t => pureO (if t then ρ a else ρ b)
    | _ => none
  | .alloc e => match zOf P e with
    | some z => evBox H d z
    | none => none
  | .box _ x => boxO H d (ρ x)
  | .build t parts => liftO (evBuild P t (parts.toList.map fun p => (p.1, ρ p.2)))
  | .buildSlice t len parts => evBuildSlice P H d t len (parts.toList.map fun p => (p.1, ρ p.2))
  | .load t a => evLoad P H t (ρ a)
  | .store t a x => evStore P H t (ρ a) (ρ x)
  | .nilCheck x => match ρ x with
    | .ptr i g o => pureO (.ptr i g o)
    | .fptr cs l => pureO (.fptr cs l)
    | .fn f c => pureO (.fn f c)
    | _ => none
  | .binOp op t x y _ => liftO (evBin P t op (ρ x) (ρ y))
  | .unOp op _ x => liftO (evUn op (ρ x))
  | .convert s t x => evConvert P H s t (ρ x)
  | .makeFunc (.func f) first cap => if first.isEmpty then pureO (.fn f (cap.toList.map ρ)) else none
  | .makeSlice t l c => evMakeSlice P H d t (ρ l) (ρ c)
  | .slice t x lo hi mx => evSlice P H t (ρ x) (lo.map ρ) (hi.map ρ) (mx.map ρ)
  | .fieldAddr t x f => evFieldAddr P t (ρ x) f
  | .field t x f => liftO (evField P t (ρ x) f)
  | .indexAddr t x i => evIndexAddr P t (ρ x) (ρ i)
  | .index t x i => liftO (evIndex P t (ρ x) (ρ i))
  | .extract t i => match ρ t with
    | .tup vs => liftO vs[i]?
    | _ => none
  | .call { callee := .builtin b, args, argTypes } => evBuiltin P H d b argTypes.toList (args.toList.map ρ)
  | .call { callee := .value f, args, .. } => match ρ f with
    | .fn f cap => evCall call pol H d f (args.toList.map ρ ++ cap)
    | _ => none
  | _ => none

def evOperand (env : List V) : Operand → V
  | .tmp t => env.getD t .und
  | .const v => ofVal v
  | .func f => .fn f []
  | .global _ => .und

def wantV (ops : Array Oper) (env : List V) : Option (Nat × Bool) → Option Bool
  | none => some true
  | some (j, b) => match (ops[j]?).bind (·.dst) with
    | some t => match env.getD t .und with
      | .bool c => some (c == b)
      | _ => none
    | none => none
def setV (env : List V) : Option Nat → V → Option (List V)
  | none, _ => some env
  | some d, v => if d < env.length then some (env.set d v) else none

/-- one operation: what it comes to -/
def evOper (ops : Array Oper) (k : Nat) (o : Oper) (env : List V) (H : Heap) : Option Out :=
  match wantV ops env o.guard with
  | some true => evOp P call pol H (evOperand env) (o.dst.getD (1000 + k)) o.op
  | some false => pureO .und
  | none => none

abbrev Log := List (Nat × List Id × List Id)
def evOps (ops : Array Oper) : List Oper → Nat → List V → Heap → Log → Option (List V × Heap × Log)
  | [], _, env, H, lg => some (env, H, lg)
  | o :: r, k, env, H, lg =>
    match evOper P call pol ops k o env H with
    | some ⟨v, us, rd⟩ => match setV env o.dst v with
      | some env => evOps ops r (k + 1) env (H.sets us) ((k, rd, us.map (·.1)) :: lg)
      | none => none
    | none => none

def meets (a b : List Id) : Bool := a.any fun i => b.contains i
def pairOk (ops : Array Oper) (x y : Nat × List Id × List Id) : Bool :=
  -- x comes before y in the text
  (!(meets x.2.2 y.2.1 || meets x.2.2 y.2.2 || meets y.2.2 x.2.1)) || ((Region.before ops).getD y.1 0).testBit x.1
def logOk (ops : Array Oper) : Log → Bool
  | [] => true
  | y :: r => r.all (fun x => pairOk ops x y) && logOk ops r

inductive Ex where
  | nrm | exit (id : Nat) | ret
  deriving DecidableEq, Inhabited

abbrev Res := Option (Ex × List V × Heap)
/-- a piece of code without ranges over functions in it -/
def flatC : Code → Bool
  | .seq a b => flatC a && flatC b
  | .cond _ a b => flatC a && flatC b
  | .block _ c => flatC c
  | .scope c => flatC c
  | .loop c => flatC c
  | .rangeFunc .. => false
  | _ => true
/-- what comes, element by element -/
def backItems (ag : Bool) (sz : Nat) (xs : List (List V)) : Nat → Option (List (List V))
  | 0 => some []
  | n + 1 => match xs[n]? with
    | some cs => if cs.length = sz then match mkv ag cs, backItems ag sz xs n with
      | some v, some r => some ([.int .i64 n, v] :: r)
      | _, _ => none else none
    | none => none
def chunkItems (xs : List (List V)) (l : Bool) (n : Nat) : Nat → List (List V)
  | 0 => []
  | k + 1 => if xs = [] then [] else [.list (xs.take n) l] :: chunkItems (xs.drop n) l n k
def seqItems : SeqK → List V → Option (List (List V))
  | .backward ag sz, [.fptr [.list xs _] _] => if xs.length < 4611686018427387904 then backItems ag sz xs xs.length else none
  | .chunk, [.fptr [.list xs l] _, .fptr [.int .i64 n] _] => if 0 < n then some (chunkItems xs l n.toNat xs.length) else none
  | _, _ => none
def seqOf (pol : Nat → Pol) (k : Nat) (cap : List V) : Option (List (List V)) :=
  match (pol k).seq with
  | some s => seqItems s cap
  | none => none
def putAll : List Nat → List V → List V → Option (List V)
  | [], [], env => some env
  | p :: ps, x :: xs, env => putAll ps xs (env.set p x)
  | _, _, _ => none
/-- one round: the assignment, the body -/
def twoC (ps : List Nat) (env : List V) (as body : List V → Heap → Res) (x : List V) (H : Heap) : Res :=
  match putAll ps x env with
  | some e => match as e H with
    | some (.nrm, e, H) => body e H
    | _ => none
  | none => none
/-- the rounds of a range over a function -/
def evItems (env : List V) (round : List V → Heap → Res) : List (List V) → Heap → Res
  | [], H => some (.nrm, env, H)
  | x :: r, H => match round x H with
    | some (.nrm, _, H) => evItems env round r H
    | some (ex, _, H) => some (ex, env, H)
    | none => none
/-- the code; 'again' goes on with a loop -/
def evC (again : Code → List V → Heap → Res) : Code → List V → Heap → Res
  | .skip, env, H => some (.nrm, env, H)
  | .label _, env, H => some (.nrm, env, H)
  | .ret, env, H => some (.ret, env, H)
  | .exit id, env, H => some (.exit id, env, H)
  | .seq a b, env, H => match evC again a env H with
    | some (.nrm, env, H) => evC again b env H
    | r => r
  | .cond c a b, env, H => match evOperand env c with
    | .bool true => evC again a env H
    | .bool false => evC again b env H
    | _ => none
  | .block id c, env, H => match evC again c env H with
    | some (.exit j, env, H) => if j = id then some (.nrm, env, H) else some (.exit j, env, H)
    | r => r
  | .scope c, env, H => evC again c env H
  | .loop c, env, H => match evC again c env H with
    | some (.nrm, env, H) => again (.loop c) env H
    | r => r
  | .region _ ops draw, env, H =>
    match evOps P call pol ops ops.toList 0 env H [] with
    | some (env, H, lg) => if draw && !logOk ops lg then none else some (.nrm, env, H)
    | none => none
  | .rangeFunc g ps assign body, env, H => match evOperand env g with
    | .fn k cap => match seqOf pol k cap with
      | some items => if flatC assign && flatC body then
          evItems env (twoC ps.toList env (evC again assign) (evC again body)) items H
        else none
      | none => none
    | _ => none
  | _, _, _ => none

def evResult (H : Heap) (env : List V) : ResultVar → Option V
  | .tmp t => some (env.getD t .und)
  | .cell a t => (evLoad P H t (env.getD a .und)).map (·.v)
def evResults (H : Heap) (env : List V) : List ResultVar → Option (List V)
  | [] => some []
  | r :: rs => match evResult P H env r, evResults H env rs with
    | some v, some vs => some (v :: vs)
    | _, _ => none
end

structure Cfg where
  P : Program
  pol : Nat → Pol
  good : List Nat
  /-- functions whose laws come from outside -/
  ext : Nat → Option (List V → Heap → Option (V × Heap)) := fun _ => none

def Cfg.extern (K : Cfg) (f : Nat) (args : List V) (H : Heap) : Option (V × Heap) :=
  match K.ext f with
  | some g => g args H
  | none => none
def evBody (K : Cfg) (call : Nat → List V → Heap → Option (V × Heap)) (again : Code → List V → Heap → Res) (f : Nat) (args : List V) (H : Heap) : Option (V × Heap) :=
  if K.good.contains f then
  match K.P.funcs[f]? with
  | some fn => match fn.body with
    | some c => if args.length ≤ fn.ntmps then
        match evC K.P call K.pol again c (args ++ List.replicate (fn.ntmps - args.length) .und) H with
        | some (.exit _, _, _) => none
        | some (_, env, H) => match evResults K.P H env fn.results.toList with
          | some [v] => some (v, H)
          | some vs => some (.tup vs, H)
          | none => none
        | none => none
      else none
    | none => none
  | none => none
  else none

def evFun (K : Cfg) (call : Nat → List V → Heap → Option (V × Heap)) (again : Code → List V → Heap → Res) (f : Nat) (args : List V) (H : Heap) : Option (V × Heap) :=
  if (K.ext f).isSome then K.extern f args H else evBody K call again f args H

mutual
def run (K : Cfg) : Nat → Nat → List V → Heap → Option (V × Heap)
  | 0, _, _, _ => none
  | n + 1, f, args, H => evFun K (run K n) (again K n) f args H
def again (K : Cfg) : Nat → Code → List V → Heap → Res
  | 0, _, _, _ => none
  | n + 1, c, env, H => evC K.P (run K n) K.pol (again K n) c env H
end
end Go.Proofs.Ytcamcfplcoklkaa.Iv
