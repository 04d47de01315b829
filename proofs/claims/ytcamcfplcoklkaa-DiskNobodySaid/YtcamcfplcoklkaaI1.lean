/- THE IDEAL MACHINE: values without addresses, a small heap of named blocks, and an evaluator for the model's code. What it comes to is tied to the model's own machine in the texts behind this one. -/
import Derived.Orders
import Derived.Below
import Derived.KernelRfl
namespace Go.Proofs.Ytcamcfplcoklkaa.Iv
open Go

inductive Id where
  | own (t : Nat) | arg (j : Nat) | sub (t : Nat) (i : Id)
  deriving DecidableEq, Inhabited

inductive V where
  | int (k : IntKind) (n : Int)
  | bool (b : Bool)
  | str (s : List UInt8)
  | nilp | nils | emp | nilf
  | ptr (i : Id) (g o : Nat)
  | fptr (cs : List V) (lent : Bool)
  | sl (i : Id) (g o n sz : Nat) (lim : Option Nat)
  | list (xs : List (List V)) (lent : Bool)
  | agg (cs : List V)
  | tup (vs : List V)
  | fn (f : Nat) (cap : List V)
  | und
  deriving Inhabited

def V.cells : V → List V
  | .agg cs => cs
  | v => [v]

def sc : Value → V
  | .int k n => .int k n
  | .bool b => .bool b
  | .string s => .str s.data.toList
  | .pointer none => .nilp
  | .slice none 0 0 => .nils
  | .nilFunc => .nilf
  | _ => .und
def ofVal : Value → V
  | .agg cs => .agg (cs.toList.map sc)
  | v => sc v

/-- a cell without references and without what is lent -/
def V.plain : V → Bool
  | .int .. | .bool _ | .str _ | .nilp | .nils | .emp | .nilf => true
  | .list _ l => !l
  | .fptr _ l => !l
  | _ => false
/-- a cell that may lie in the heap: nothing lent -/
def V.kept : V → Bool
  | .list _ l => !l
  | .fptr _ l => !l
  | .agg _ | .tup _ | .und => false
  | .fn _ cs => cs.isEmpty
  | _ => true

def fits (flat : Bool) (c : V) : Bool :=
  match flat with
  | true => c.plain
  | false => c.kept

structure Blk where
  gen : Nat
  cells : List V
  frz : Bool
  flat : Bool
  deriving Inhabited

abbrev Heap := Id → Option Blk
def Heap.set (H : Heap) (i : Id) (b : Blk) : Heap := fun j => if j = i then some b else H j
def Heap.sets (H : Heap) : List (Id × Blk) → Heap
  | [] => H
  | (i, b) :: r => (H.set i b).sets r
def live (H : Heap) (i : Id) (g : Nat) : Option Blk :=
  match H i with
  | some b => if b.gen = g then some b else none
  | none => none
def nextGen (H : Heap) (i : Id) : Nat := match H i with | some b => b.gen + 1 | none => 0

structure Out where
  v : V
  ups : List (Id × Blk)
  rd : List Id
abbrev pureO (v : V) : Option Out := some ⟨v, [], []⟩

section
variable (P : Program)
def szOf (t : Nat) : Option Nat := (P.info? t).map (·.size)
def byOf (t : Nat) : Option Nat := (P.info? t).map (·.bytes)
def isAggD : TypeDesc → Bool
  | .struct _ | .array _ _ => true
  | _ => false
def agOf (t : Nat) : Option Bool := (P.underlying t).map isAggD
def zOf (t : Nat) : Option (List V) := ((P.info? t).bind (·.zero)).map fun z => (ofVal z).cells
end

def mkv : Bool → List V → Option V
  | true, cs => some (.agg cs)
  | false, [c] => some c
  | false, _ => none
def cut (cs : List V) (o n : Nat) : Option (List V) :=
  let x := (cs.drop o).take n
  if x.length = n then some x else none
def splice (cs : List V) (o : Nat) (xs : List V) : List V := cs.take o ++ xs ++ cs.drop (o + xs.length)
def chunk (sz : Nat) : Nat → List V → List (List V)
  | 0, _ => []
  | n + 1, cs => cs.take sz :: chunk sz n (cs.drop sz)

def lim47 : Nat := 2 ^ 45

section
variable (P : Program)

def evLoad (H : Heap) (t : Nat) (a : V) : Option Out :=
  match szOf P t, agOf P t, a with
  | some sz, some ag, .ptr i g o =>
    match live H i g with
    | some b => match cut b.cells o sz with
      | some cs => match mkv ag cs with
        | some v => some ⟨v, [], [i]⟩
        | none => none
      | none => none
    | none => none
  | some sz, some ag, .fptr cs _ => match cut cs 0 sz with
    | some cs => match mkv ag cs with
      | some v => pureO v
      | none => none
    | none => none
  | _, _, _ => none

def evStore (H : Heap) (t : Nat) (a v : V) : Option Out :=
  match szOf P t, a with
  | some sz, .ptr i g o =>
    match live H i g with
    | some b =>
      if b.frz = false ∧ v.cells.length = sz ∧ o + sz ≤ b.cells.length ∧ v.cells.all (fits b.flat) = true then
        some ⟨.und, [(i, { b with cells := splice b.cells o v.cells })], [i]⟩
      else none
    | none => none
  | _, _ => none

def evNew (H : Heap) (d : Nat) (cells : List V) (flat : Bool) : Nat × List (Id × Blk) × List Id :=
  let g := nextGen H (.own d)
  (g, [(.own d, ⟨g, cells, false, flat⟩)], [.own d])

def evBox (H : Heap) (d : Nat) (cells : List V) : Option Out :=
  if cells.all V.kept = true then
    some ⟨.ptr (.own d) (nextGen H (.own d)) 0, [(.own d, ⟨nextGen H (.own d), cells, false, false⟩)], [.own d]⟩
  else none

/-- a variable of its own; a list that is lent lies in one that stays as it is -/
def boxO (H : Heap) (d : Nat) : V → Option Out
  | .list xs true => pureO (.fptr [.list xs true] true)
  | v => evBox H d v.cells

/-- A value that is kept by whom it is handed to: a slice of the heap's is frozen for good. -/
def keep1 (H : Heap) : V → Option Out
  | .sl i g o n sz _ =>
    match live H i g with
    | some b => match cut b.cells o (n * sz) with
      | some cs => if b.flat = true ∧ 0 < sz then some ⟨.list (chunk sz n cs) false, [(i, { b with frz := true })], [i]⟩ else none
      | none => none
    | none => none
  | .list xs l => if l then none else pureO (.list xs false)
  | .nils => pureO (.list [] false)
  | .emp => pureO (.list [] false)
  | .fptr cs l => if l then none else pureO (.fptr cs false)
  | .und => none
  | .tup _ => none
  | .agg _ => none
  | .fn f cs => if cs.all V.kept = true then pureO (.fn f cs) else none
  | v => pureO v
def keepL (H : Heap) : List V → Option (List V × List (Id × Blk) × List Id)
  | [] => some ([], [], [])
  | v :: r => match keep1 H v with
    | some ⟨v, u, d⟩ => match keepL H r with
      | some (vs, us, ds) => some (v :: vs, u ++ us, d ++ ds)
      | none => none
    | none => none
def keepV (H : Heap) : V → Option Out
  | .agg cs => match keepL H cs with
    | some (cs, u, d) => some ⟨.agg cs, u, d⟩
    | none => none
  | v => keep1 H v

def fillV (sz : Nat) : List (Nat × List V) → List V → Option (List V)
  | [], cells => some cells
  | (i, cs) :: r, cells => if cs.length = sz ∧ i * sz + sz ≤ cells.length then fillV sz r (splice cells (i * sz) cs) else none

def keepParts (H : Heap) : List (Nat × V) → Option (List (Nat × List V) × List (Id × Blk) × List Id)
  | [] => some ([], [], [])
  | (i, v) :: r => match keepV H v with
    | some ⟨v, u, d⟩ => match keepParts H r with
      | some (vs, us, ds) => some ((i, v.cells) :: vs, u ++ us, d ++ ds)
      | none => none
    | none => none

def rep (n : Nat) (z : List V) : List V := (List.replicate n z).flatten

def evBuildSlice (H : Heap) (d : Nat) (t len : Nat) (parts : List (Nat × V)) : Option Out :=
  match P.underlying t with
  | some (.slice e) => match szOf P e, zOf P e with
    | some sz, some z =>
      if len * sz ≤ 16777216 ∧ 0 < sz ∧ z.length = sz then
        match keepParts H parts with
        | some (ps, u, rd) => match fillV sz ps (rep len z) with
          | some cells =>
            if cells.all V.kept = true then
            some ⟨.sl (.own d) (nextGen H (.own d)) 0 len sz (some len), u ++ [(.own d, ⟨nextGen H (.own d), cells, false, cells.all V.plain⟩)], .own d :: rd⟩ else none
          | none => none
        | none => none
      else none
    | _, _ => none
  | _ => none

def evMakeSlice (H : Heap) (d : Nat) (t : Nat) (l c : V) : Option Out :=
  match P.underlying t, l, c with
  | some (.slice e), .int _ l, .int _ c => match szOf P e, byOf P e, zOf P e with
    | some sz, some by_, some z =>
      if 0 ≤ l ∧ l ≤ c ∧ c < 4611686018427387904 ∧ by_ * c.toNat ≤ lim47 ∧ 0 < sz ∧ z.length = sz ∧ z.all V.plain = true then
        some ⟨.sl (.own d) (nextGen H (.own d)) 0 l.toNat sz none, [(.own d, ⟨nextGen H (.own d), rep l.toNat z, false, true⟩)], [.own d]⟩
      else none
    | _, _, _ => none
  | _, _, _ => none

/-- the cells of a slice or a string, how many elements, whether they are plain, what was read -/
def src (H : Heap) (sz : Nat) : V → Option (List V × Nat × Bool × List Id)
  | .sl i g o n s _ => match live H i g with
    | some b => match cut b.cells o (n * s) with
      | some cs => if s = sz then some (cs, n, b.flat, [i]) else none
      | none => none
    | none => none
  | .list xs _ => if xs.all (fun x => x.length == sz) then some (xs.flatten, xs.length, true, []) else none
  | .nils => some ([], 0, true, [])
  | .emp => some ([], 0, true, [])
  | .str s => if sz = 1 then some (s.map fun b => .int .u8 b.toNat, s.length, true, []) else none
  | _ => none

/-- what is appended -/
def appSrc (H : Heap) (sz : Nat) (z : List V) (xT : Nat) (x : V) : Option (List V × Nat × Bool × List Id) :=
  match P.underlying xT, x with
  | some (.int _), .int _ n => if 0 ≤ n ∧ n < 4294967296 ∧ z.length = sz ∧ z.all V.plain = true then some (rep n.toNat z, n.toNat, true, []) else none
  | some (.int _), _ => none
  | some _, x => src H sz x
  | none, _ => none
def evAppend (H : Heap) (d : Nat) (sT xT : Nat) (s x : V) : Option Out :=
  match P.underlying sT with
  | some (.slice e) => match szOf P e, byOf P e, zOf P e with
    | some sz, some by_, some z =>
      match appSrc P H sz z xT x with
      | some (cs, k, fl, rd) =>
        if 0 < sz ∧ 0 < by_ ∧ z.length = sz then
        match s with
        | .nils => if k = 0 then some ⟨.nils, [], rd⟩ else if k * by_ ≤ lim47 then
            some ⟨.sl (.own d) (nextGen H (.own d)) 0 k sz none, [(.own d, ⟨nextGen H (.own d), cs, false, fl⟩)], .own d :: rd⟩ else none
        | .emp => if k = 0 then some ⟨.emp, [], rd⟩ else if k * by_ ≤ lim47 then
            some ⟨.sl (.own d) (nextGen H (.own d)) 0 k sz none, [(.own d, ⟨nextGen H (.own d), cs, false, fl⟩)], .own d :: rd⟩ else none
        | .list xs l => if k = 0 then some ⟨.list xs l, [], rd⟩ else none
        | .sl i g o n s2 lim =>
          match live H i g with
          | some b =>
            if s2 = sz ∧ b.frz = false ∧ (b.flat = true → fl = true) ∧ (n + k) * by_ ≤ lim47 then
              match lim with
              | none =>
                if o + (n + k) * sz ≤ b.cells.length then
                  some ⟨.sl i g o (n + k) sz none, [(i, { b with cells := splice b.cells (o + n * sz) cs })], i :: rd⟩
                else match cut b.cells o (n * sz) with
                  | some old => some ⟨.sl i (g + 1) 0 (n + k) sz none, [(i, ⟨g + 1, old ++ cs, false, b.flat⟩)], i :: rd⟩
                  | none => none
              | some c =>
                if n + k ≤ c then
                  if o + (n + k) * sz ≤ b.cells.length then
                    some ⟨.sl i g o (n + k) sz (some c), [(i, { b with cells := splice b.cells (o + n * sz) cs })], i :: rd⟩
                  else none
                else match cut b.cells o (n * sz) with
                  | some old => some ⟨.sl (.own d) (nextGen H (.own d)) 0 (n + k) sz none, [(.own d, ⟨nextGen H (.own d), old ++ cs, false, b.flat && fl⟩)], i :: .own d :: rd⟩
                  | none => none
            else none
          | none => none
        | _ => none
        else none
      | none => none
    | _, _, _ => none
  | _ => none

def evCopy (H : Heap) (dT : Nat) (dst x : V) : Option Out :=
  match P.underlying dT with
  | some (.slice e) => match szOf P e with
    | some sz => match src H sz x with
      | some (cs, k, fl, rd) => match dst with
        | .nils => some ⟨.int .i64 0, [], rd⟩
        | .emp => some ⟨.int .i64 0, [], rd⟩
        | .list [] _ => some ⟨.int .i64 0, [], rd⟩
        | .sl i g o n s2 _ => match live H i g with
          | some b => if s2 = sz ∧ 0 < sz ∧ b.frz = false ∧ (b.flat = true → fl = true) ∧ cs.length = k * sz ∧ o + n * sz ≤ b.cells.length then
              some ⟨.int .i64 (min k n : Nat), [(i, { b with cells := splice b.cells o (cs.take (min k n * sz)) })], i :: rd⟩ else none
          | none => none
        | _ => none
      | none => none
    | none => none
  | _ => none

def evClear (H : Heap) (t : Nat) (x : V) : Option Out :=
  match P.underlying t with
  | some (.slice e) => match szOf P e, zOf P e with
    | some sz, some z => match x with
      | .nils => pureO (.tup [])
      | .emp => pureO (.tup [])
      | .list [] _ => pureO (.tup [])
      | .sl i g o n s2 _ => match live H i g with
        | some b => if s2 = sz ∧ 0 < sz ∧ b.frz = false ∧ z.length = sz ∧ z.all V.plain = true ∧ o + n * sz ≤ b.cells.length then
            some ⟨.tup [], [(i, { b with cells := splice b.cells o (rep n z) })], [i]⟩ else none
        | none => none
      | _ => none
    | _, _ => none
  | _ => none

def evLen (t : Nat) (x : V) : Option Out :=
  match P.underlying t, x with
  | some .string, .str s => pureO (.int .i64 s.length)
  | some (.slice _), .sl _ _ _ n _ _ => pureO (.int .i64 n)
  | some (.slice _), .list xs _ => pureO (.int .i64 xs.length)
  | some (.slice _), .nils => pureO (.int .i64 0)
  | some (.slice _), .emp => pureO (.int .i64 0)
  | some (.array n _), _ => pureO (.int .i64 n)
  | _, _ => none
def evCap (t : Nat) (x : V) : Option Out :=
  match P.underlying t, x with
  | some (.slice _), .nils => pureO (.int .i64 0)
  | some (.slice _), .emp => pureO (.int .i64 0)
  | some (.slice _), .sl _ _ _ _ _ (some c) => pureO (.int .i64 c)
  | _, _ => none

def max2 : V → V → Option V
  | .int k x, .int _ y => some (.int k (if y > x then y else x))
  | _, _ => none
def min2 : V → V → Option V
  | .int k x, .int _ y => some (.int k (if y < x then y else x))
  | _, _ => none
def foldO (f : V → V → Option V) : V → List V → Option V
  | x, [] => some x
  | x, y :: r => match f x y with
    | some z => foldO f z r
    | none => none

/-- a bound of a slice expression -/
def bnd (x : Option V) (dflt : Nat) : Option Nat :=
  match x with
  | none => some dflt
  | some (.int _ i) => if 0 ≤ i then some i.toNat else none
  | _ => none

def evSlice (H : Heap) (t : Nat) (x : V) (lo hi mx : Option V) : Option Out :=
  match P.underlying t with
  | some .string => match x, mx with
    | .str s, none => match bnd lo 0, bnd hi s.length with
      | some l, some h => if l ≤ h ∧ h ≤ s.length then pureO (.str ((s.take h).drop l)) else none
      | _, _ => none
    | _, _ => none
  | some (.slice e) => match szOf P e with
    | some sz =>
      if sz = 0 then none else
      match x with
      | .nils => match bnd lo 0, bnd hi 0, bnd mx 0 with
        | some 0, some 0, some 0 => if mx.isSome && hi.isNone then none else pureO .nils
        | _, _, _ => none
      | .emp => match bnd lo 0, bnd hi 0, bnd mx 0 with
        | some 0, some 0, some 0 => if mx.isSome && hi.isNone then none else pureO .emp
        | _, _, _ => none
      | .list xs lent => match mx with
        | none => match bnd lo 0, bnd hi xs.length with
          | some l, some h => if l ≤ h ∧ h ≤ xs.length ∧ xs.all (fun x => x.length == sz) = true then pureO (.list ((xs.take h).drop l) lent) else none
          | _, _ => none
        | some m => match bnd lo 0, bnd hi 0, bnd (some m) 0 with
          | some l, some h, some m => if hi.isSome = true ∧ l = h ∧ h = m ∧ m ≤ xs.length then pureO .emp else none
          | _, _, _ => none
      | .sl i g o n s2 lim => if s2 = sz then
          match mx with
          | none => match bnd lo 0, bnd hi n with
            | some l, some h =>
              if l ≤ h then
                if h ≤ n then pureO (.sl i g (o + l * sz) (h - l) sz (lim.map (· - l)))
                else match live H i g with
                  | some b => if o + h * sz ≤ b.cells.length ∧ (∀ c, lim = some c → h ≤ c) then some ⟨.sl i g (o + l * sz) (h - l) sz (lim.map (· - l)), [], [i]⟩ else none
                  | none => none
              else none
            | _, _ => none
          | some m => match bnd lo 0, bnd hi 0, bnd (some m) 0 with
            | some l, some h, some m => if hi.isSome = true ∧ l ≤ h ∧ h ≤ m ∧ m ≤ n then pureO (.sl i g (o + l * sz) (h - l) sz (some (m - l))) else none
            | _, _, _ => none
        else none
      | _ => none
    | none => none
  | some (.array n e) => match szOf P e with
    | some sz => if sz = 0 then none else match mx, bnd lo 0, bnd hi n with
      | none, some l, some h => if l ≤ h ∧ h ≤ n then
          match x with
          | .ptr i g o => match live H i g with
            | some b => if o + n * sz ≤ b.cells.length then some ⟨.sl i g (o + l * sz) (h - l) sz (some (n - l)), [], [i]⟩ else none
            | none => none
          | _ => none
        else none
      | _, _, _ => none
    | none => none
  | _ => none

def evIndexAddr (t : Nat) (x ix : V) : Option Out :=
  match ix with
  | .int _ i =>
    if 0 ≤ i then
    match P.underlying t with
    | some (.slice e) => match szOf P e with
      | some sz => match x with
        | .sl b g o n s2 _ => if s2 = sz ∧ i.toNat < n then pureO (.ptr b g (o + i.toNat * sz)) else none
        | .list xs l => match xs[i.toNat]? with
          | some cs => if cs.length = sz ∧ 0 < sz then pureO (.fptr cs l) else none
          | none => none
        | _ => none
      | none => none
    | some (.array n e) => match szOf P e with
      | some sz => if i.toNat < n then match x with
          | .ptr b g o => pureO (.ptr b g (o + i.toNat * sz))
          | .fptr cs l => if i.toNat * sz ≤ cs.length then pureO (.fptr (cs.drop (i.toNat * sz)) l) else none
          | _ => none
        else none
      | none => none
    | _ => none
    else none
  | _ => none

def evFieldAddr (t : Nat) (x : V) (f : Nat) : Option Out :=
  match P.underlying t with
  | some (.struct fs) => match fs[f]? with
    | some fd => match szOf P fd.type with
      | some (_ + 1) => match x with
        | .ptr b g o => pureO (.ptr b g (o + fd.offset))
        | .fptr cs l => if fd.offset ≤ cs.length then pureO (.fptr (cs.drop fd.offset) l) else none
        | _ => none
      | _ => none
    | none => none
  | _ => none

def evPart (t : Nat) (cs : List V) (o : Nat) : Option V :=
  match szOf P t, agOf P t with
  | some sz, some ag => match cut cs o sz with
    | some x => mkv ag x
    | none => none
  | _, _ => none

def evField (t : Nat) (x : V) (f : Nat) : Option V :=
  match P.underlying t, x with
  | some (.struct fs), .agg cs => match fs[f]? with
    | some fd => evPart P fd.type cs fd.offset
    | none => none
  | _, _ => none

def evIndex (t : Nat) (x ix : V) : Option V :=
  match ix with
  | .int _ i =>
    if 0 ≤ i then
    match P.underlying t, x with
    | some (.array n e), .agg cs => match szOf P e with
      | some sz => if i.toNat < n then evPart P e cs (i.toNat * sz) else none
      | none => none
    | some .string, .str s => match s[i.toNat]? with
      | some b => some (.int .u8 b.toNat)
      | none => none
    | _, _ => none
    else none
  | _ => none

def fillF (place : Nat → Option (Nat × Nat)) : List (Nat × V) → List V → Option (List V)
  | [], cells => some cells
  | (i, v) :: r, cells => match place i with
    | some (off, size) => if v.cells.length = size ∧ off + size ≤ cells.length then fillF place r (splice cells off v.cells) else none
    | none => none

def placesOf (fs : Array Field) : Option (List (Nat × Nat)) := fs.toList.mapM (fun f => (P.info? f.type).map fun i => (f.offset, i.size))
def okPart : V → Bool
  | .und => false
  | .tup _ => false
  | _ => true
def evBuild (t : Nat) (parts : List (Nat × V)) : Option V :=
  if parts.all (fun p => okPart p.2) = true then
  match P.underlying t, zOf P t with
  | some (.struct fs), some z => match placesOf P fs with
    | some places => match fillF (fun i => places[i]?) parts z with
      | some r => some (.agg r)
      | none => none
    | none => none
  | some (.array _ e), some z => match szOf P e with
    | some sz => match fillF (fun i => some (i * sz, sz)) parts z with
      | some r => some (.agg r)
      | none => none
    | none => none
  | _, _ => none
  else none

def evInt (op : BinOp) (k : IntKind) (a b : Int) : Option V :=
  match op with
  | .add => some (.int k (k.wrap (a + b)))
  | .sub => some (.int k (k.wrap (a - b)))
  | .mul => some (.int k (k.wrap (a * b)))
  | .quo => if b = 0 then none else some (.int k (k.wrap (a.tdiv b)))
  | .rem => if b = 0 then none else some (.int k (a.tmod b))
  | .and => some (.int k (k.wrap ((BitVec.ofInt k.bits a &&& BitVec.ofInt k.bits b).toNat : Int)))
  | .or => some (.int k (k.wrap ((BitVec.ofInt k.bits a ||| BitVec.ofInt k.bits b).toNat : Int)))
  | .xor => some (.int k (k.wrap ((BitVec.ofInt k.bits a ^^^ BitVec.ofInt k.bits b).toNat : Int)))
  | .andNot => some (.int k (k.wrap ((BitVec.ofInt k.bits a &&& ~~~(BitVec.ofInt k.bits b)).toNat : Int)))
  | .eql => some (.bool (a == b))
  | .neq => some (.bool (a != b))
  | .lss => some (.bool (decide (a < b)))
  | .leq => some (.bool (decide (a ≤ b)))
  | .gtr => some (.bool (decide (a > b)))
  | .geq => some (.bool (decide (a ≥ b)))
  | .shl | .shr => none
def evShift (op : BinOp) (k : IntKind) (a b : Int) : Option V :=
  if b < 0 then none else
  match op with
  | .shl => some (.int k (k.wrap (a * 2 ^ (min b.toNat k.bits))))
  | .shr => some (.int k (a.fdiv (2 ^ (min b.toNat k.bits))))
  | _ => none
def evStr (op : BinOp) (a b : List UInt8) : Option V :=
  match op with
  | .add => if ((a.length + b.length : Nat) : Int) ≤ 9223372036854775807 then some (.str (a ++ b)) else none
  | .eql => some (.bool (a == b))
  | .neq => some (.bool (!(a == b)))
  | .lss => some (.bool (Op.bytesLess a b))
  | .leq => some (.bool (Op.bytesLess a b || a == b))
  | .gtr => some (.bool (!(Op.bytesLess a b || a == b)))
  | .geq => some (.bool (!Op.bytesLess a b))
  | _ => none
/-- equality of values of one cell: none where it is not known -/
def eq1 : TypeDesc → V → V → Option Bool
  | .bool, .bool a, .bool b => some (a == b)
  | .pointer _, .nilp, .nilp => some true
  | .pointer _, .nilp, .ptr _ _ _ => some false
  | .pointer _, .ptr _ _ _, .nilp => some false
  | .pointer _, .nilp, .fptr _ _ => some false
  | .pointer _, .fptr _ _, .nilp => some false
  | .slice _, .nils, .nils => some true
  | .slice _, .nils, .sl .. => some false
  | .slice _, .sl .., .nils => some false
  | .slice _, .nils, .list (_ :: _) _ => some false
  | .slice _, .list (_ :: _) _, .nils => some false
  | .func .., .nilf, .nilf => some true
  | .func .., .nilf, .fn .. => some false
  | .func .., .fn .., .nilf => some false
  | _, _, _ => none
def evEq (t : Nat) (x y : V) : Option Bool :=
  match P.underlying t with
  | some d => eq1 d x y
  | none => none
def evBin (t : Nat) (op : BinOp) (x y : V) : Option V :=
  match x, y with
  | .int k a, .int k' b => match op with
    | .shl => evShift .shl k a b
    | .shr => evShift .shr k a b
    | op => if k = k' then evInt op k a b else none
  | .str a, .str b => evStr op a b
  | x, y => match op with
    | .eql => match evEq P t x y with
      | some b => some (.bool b)
      | none => none
    | .neq => match evEq P t x y with
      | some b => some (.bool !b)
      | none => none
    | _ => none
def evUn (op : UnOp) (x : V) : Option V :=
  match op, x with
  | .neg, .int k n => some (.int k (k.wrap (0 - n)))
  | .xor, .int k n => some (.int k (k.wrap ((BitVec.ofInt k.bits (if k.signed then -1 else k.max) ^^^ BitVec.ofInt k.bits n).toNat : Int)))
  | .not, .bool b => some (.bool !b)
  | _, _ => none
def toBytes : List V → Option (List UInt8)
  | [] => some []
  | .int .u8 n :: r => match toBytes r with
    | some l => some (UInt8.ofNat n.toNat :: l)
    | none => none
  | _ => none
def srcS (H : Heap) : V → Option (List V × Nat × Bool × List Id)
  | .str _ => none
  | x => src H 1 x
def evConvert (H : Heap) (s t : Nat) (x : V) : Option Out :=
  match P.underlying s, P.underlying t with
  | some (.slice e), some .string => match P.underlying e with
    | some (.int .u8) => match srcS H x with
      | some (cs, _, _, rd) => match toBytes cs with
        | some l => some ⟨.str l, [], rd⟩
        | none => none
      | none => none
    | _ => none
  | some _, some (.int k) => match x with
    | .int _ n => pureO (.int k (k.wrap n))
    | _ => none
  | some _, some .string => match x with
    | .str l => pureO (.str l)
    | _ => none
  | some _, some (.slice e) => match x with
    | .str l => match P.underlying e with
      | some (.int .u8) => match szOf P e, zOf P e with
        | some 1, some _ => pureO (.list (l.map fun b => [.int .u8 b.toNat]) false)
        | _, _ => none
      | _ => none
    | _ => none
  | _, _ => none
end
end Go.Proofs.Ytcamcfplcoklkaa.Iv
