import Derived.Orders
import Derived.Below
import Derived.KernelRfl
import Derived.Laws.CopyRow
import Derived.Laws.Cells
import Derived.Laws.Rows
import Derived.Laws.Entries
import Derived.RangeFuncNested
/- THE IDEAL MACHINE: values without addresses, a small heap of named blocks, and an evaluator for the model's code. What it comes to is tied to the model's own machine in the texts behind this one. -/
namespace Go.Proofs.Ytcamcfplcoklkaa.Iv
open Go

inductive Id where
  | own (t : Nat) | arg (j : Nat) | sub (t : Nat) (i : Id)
  deriving DecidableEq, Inhabited

inductive V where
  | int (k : IntKind) (n : Int)
  | bool (b : Bool)
  | str (s : List UInt8)
  | nilp | nils | emp | nilf
  | ptr (i : Id) (g o : Nat)
  | fptr (cs : List V) (lent : Bool)
  | sl (i : Id) (g o n sz : Nat) (lim : Option Nat)
  | list (xs : List (List V)) (lent : Bool)
  | agg (cs : List V)
  | tup (vs : List V)
  | fn (f : Nat) (cap : List V)
  | und
  deriving Inhabited

def V.cells : V → List V
  | .agg cs => cs
  | v => [v]

def sc : Value → V
  | .int k n => .int k n
  | .bool b => .bool b
  | .string s => .str s.data.toList
  | .pointer none => .nilp
  | .slice none 0 0 => .nils
  | .nilFunc => .nilf
  | _ => .und
def ofVal : Value → V
  | .agg cs => .agg (cs.toList.map sc)
  | v => sc v

/-- a cell without references and without what is lent -/
def V.plain : V → Bool
  | .int .. | .bool _ | .str _ | .nilp | .nils | .emp | .nilf => true
  | .list _ l => !l
  | .fptr _ l => !l
  | _ => false
/-- a cell that may lie in the heap: nothing lent -/
def V.kept0 : V → Bool
  | .list _ l => !l
  | .fptr _ l => !l
  | .agg _ | .tup _ | .und => false
  | .fn _ cs => cs.isEmpty
  | _ => true
def V.kept : V → Bool
  | .fn _ cs => cs.all V.kept0
  | v => v.kept0

def fits (flat : Bool) (c : V) : Bool :=
  match flat with
  | true => c.plain
  | false => c.kept

structure Blk where
  gen : Nat
  cells : List V
  frz : Bool
  flat : Bool
  deriving Inhabited

abbrev Heap := Id → Option Blk
def Heap.set (H : Heap) (i : Id) (b : Blk) : Heap := fun j => if j = i then some b else H j
def Heap.sets (H : Heap) : List (Id × Blk) → Heap
  | [] => H
  | (i, b) :: r => (H.set i b).sets r
def live (H : Heap) (i : Id) (g : Nat) : Option Blk :=
  match H i with
  | some b => if b.gen = g then some b else none
  | none => none
def nextGen (H : Heap) (i : Id) : Nat := match H i with | some b => b.gen + 1 | none => 0

structure Out where
  v : V
  ups : List (Id × Blk)
  rd : List Id
abbrev pureO (v : V) : Option Out := some ⟨v, [], []⟩

section
variable (P : Program)
def szOf (t : Nat) : Option Nat := (P.info? t).map (·.size)
def byOf (t : Nat) : Option Nat := (P.info? t).map (·.bytes)
def isAggD : TypeDesc → Bool
  | .struct _ | .array _ _ => true
  | _ => false
def agOf (t : Nat) : Option Bool := (P.underlying t).map isAggD
def zOf (t : Nat) : Option (List V) := ((P.info? t).bind (·.zero)).map fun z => (ofVal z).cells
end

def mkv : Bool → List V → Option V
  | true, cs => some (.agg cs)
  | false, [c] => some c
  | false, _ => none
def cut (cs : List V) (o n : Nat) : Option (List V) :=
  let x := (cs.drop o).take n
  if x.length = n then some x else none
def splice (cs : List V) (o : Nat) (xs : List V) : List V := cs.take o ++ xs ++ cs.drop (o + xs.length)
def chunk (sz : Nat) : Nat → List V → List (List V)
  | 0, _ => []
  | n + 1, cs => cs.take sz :: chunk sz n (cs.drop sz)

def lim47 : Nat := 2 ^ 45

section
variable (P : Program)

def evLoad (H : Heap) (t : Nat) (a : V) : Option Out :=
  match szOf P t, agOf P t, a with
  | some sz, some ag, .ptr i g o =>
    match live H i g with
    | some b => match cut b.cells o sz with
      | some cs => match mkv ag cs with
        | some v => some ⟨v, [], [i]⟩
        | none => none
      | none => none
    | none => none
  | some sz, some ag, .fptr cs _ => match cut cs 0 sz with
    | some cs => match mkv ag cs with
      | some v => pureO v
      | none => none
    | none => none
  | _, _, _ => none

def evStore (H : Heap) (t : Nat) (a v : V) : Option Out :=
  match szOf P t, a with
  | some sz, .ptr i g o =>
    match live H i g with
    | some b =>
      if b.frz = false ∧ v.cells.length = sz ∧ o + sz ≤ b.cells.length ∧ v.cells.all (fits b.flat) = true then
        some ⟨.und, [(i, { b with cells := splice b.cells o v.cells })], [i]⟩
      else none
    | none => none
  | _, _ => none

def evNew (H : Heap) (d : Nat) (cells : List V) (flat : Bool) : Nat × List (Id × Blk) × List Id :=
  let g := nextGen H (.own d)
  (g, [(.own d, ⟨g, cells, false, flat⟩)], [.own d])

def evBox (H : Heap) (d : Nat) (cells : List V) : Option Out :=
  if cells.all V.kept = true then
    some ⟨.ptr (.own d) (nextGen H (.own d)) 0, [(.own d, ⟨nextGen H (.own d), cells, false, false⟩)], [.own d]⟩
  else none

/-- a variable of its own; a list that is lent lies in one that stays as it is -/
def boxO (H : Heap) (d : Nat) : V → Option Out
  | .list xs true => pureO (.fptr [.list xs true] true)
  | v => evBox H d v.cells

/-- A value that is kept by whom it is handed to: a slice of the heap's is frozen for good. -/
def keep1 (H : Heap) : V → Option Out
  | .sl i g o n sz _ =>
    match live H i g with
    | some b => match cut b.cells o (n * sz) with
      | some cs => if b.flat = true ∧ 0 < sz then some ⟨.list (chunk sz n cs) false, [(i, { b with frz := true })], [i]⟩ else none
      | none => none
    | none => none
  | .list xs l => if l then none else pureO (.list xs false)
  | .nils => pureO (.list [] false)
  | .emp => pureO (.list [] false)
  | .fptr cs l => if l then none else pureO (.fptr cs false)
  | .und => none
  | .tup _ => none
  | .agg _ => none
  | .fn f cs => if cs.all V.kept = true then pureO (.fn f cs) else none
  | v => pureO v
def keepL (H : Heap) : List V → Option (List V × List (Id × Blk) × List Id)
  | [] => some ([], [], [])
  | v :: r => match keep1 H v with
    | some ⟨v, u, d⟩ => match keepL H r with
      | some (vs, us, ds) => some (v :: vs, u ++ us, d ++ ds)
      | none => none
    | none => none
def keepV (H : Heap) : V → Option Out
  | .agg cs => match keepL H cs with
    | some (cs, u, d) => some ⟨.agg cs, u, d⟩
    | none => none
  | v => keep1 H v

def fillV (sz : Nat) : List (Nat × List V) → List V → Option (List V)
  | [], cells => some cells
  | (i, cs) :: r, cells => if cs.length = sz ∧ i * sz + sz ≤ cells.length then fillV sz r (splice cells (i * sz) cs) else none

def keepParts (H : Heap) : List (Nat × V) → Option (List (Nat × List V) × List (Id × Blk) × List Id)
  | [] => some ([], [], [])
  | (i, v) :: r => match keepV H v with
    | some ⟨v, u, d⟩ => match keepParts H r with
      | some (vs, us, ds) => some ((i, v.cells) :: vs, u ++ us, d ++ ds)
      | none => none
    | none => none

def rep (n : Nat) (z : List V) : List V := (List.replicate n z).flatten

def evBuildSlice (H : Heap) (d : Nat) (t len : Nat) (parts : List (Nat × V)) : Option Out :=
  match P.underlying t with
  | some (.slice e) => match szOf P e, zOf P e with
    | some sz, some z =>
      if len * sz ≤ 16777216 ∧ 0 < sz ∧ z.length = sz then
        match keepParts H parts with
        | some (ps, u, rd) => match fillV sz ps (rep len z) with
          | some cells =>
            if cells.all V.kept = true then
            some ⟨.sl (.own d) (nextGen H (.own d)) 0 len sz (some len), u ++ [(.own d, ⟨nextGen H (.own d), cells, false, cells.all V.plain⟩)], .own d :: rd⟩ else none
          | none => none
        | none => none
      else none
    | _, _ => none
  | _ => none

def evMakeSlice (H : Heap) (d : Nat) (t : Nat) (l c : V) : Option Out :=
  match P.underlying t, l, c with
  | some (.slice e), .int _ l, .int _ c => match szOf P e, byOf P e, zOf P e with
    | some sz, some by_, some z =>
      if 0 ≤ l ∧ l ≤ c ∧ c < 4611686018427387904 ∧ by_ * c.toNat ≤ lim47 ∧ 0 < sz ∧ z.length = sz ∧ z.all V.plain = true then
        some ⟨.sl (.own d) (nextGen H (.own d)) 0 l.toNat sz none, [(.own d, ⟨nextGen H (.own d), rep l.toNat z, false, true⟩)], [.own d]⟩
      else none
    | _, _, _ => none
  | _, _, _ => none

/-- the cells of a slice or a string, how many elements, whether they are plain, what was read -/
def src (H : Heap) (sz : Nat) : V → Option (List V × Nat × Bool × List Id)
  | .sl i g o n s _ => match live H i g with
    | some b => match cut b.cells o (n * s) with
      | some cs => if s = sz then some (cs, n, b.flat, [i]) else none
      | none => none
    | none => none
  | .list xs _ => if xs.all (fun x => x.length == sz) then some (xs.flatten, xs.length, true, []) else none
  | .nils => some ([], 0, true, [])
  | .emp => some ([], 0, true, [])
  | .str s => if sz = 1 then some (s.map fun b => .int .u8 b.toNat, s.length, true, []) else none
  | _ => none

/-- what is appended -/
def appSrc (H : Heap) (sz : Nat) (z : List V) (xT : Nat) (x : V) : Option (List V × Nat × Bool × List Id) :=
  match P.underlying xT, x with
  | some (.int _), .int _ n => if 0 ≤ n ∧ n < 4294967296 ∧ z.length = sz ∧ z.all V.plain = true then some (rep n.toNat z, n.toNat, true, []) else none
  | some (.int _), _ => none
  | some _, x => src H sz x
  | none, _ => none
def evAppend (H : Heap) (d : Nat) (sT xT : Nat) (s x : V) : Option Out :=
  match P.underlying sT with
  | some (.slice e) => match szOf P e, byOf P e, zOf P e with
    | some sz, some by_, some z =>
      match appSrc P H sz z xT x with
      | some (cs, k, fl, rd) =>
        if 0 < sz ∧ 0 < by_ ∧ z.length = sz then
        match s with
        | .nils => if k = 0 then some ⟨.nils, [], rd⟩ else if k * by_ ≤ lim47 then
            some ⟨.sl (.own d) (nextGen H (.own d)) 0 k sz none, [(.own d, ⟨nextGen H (.own d), cs, false, fl⟩)], .own d :: rd⟩ else none
        | .emp => if k = 0 then some ⟨.emp, [], rd⟩ else if k * by_ ≤ lim47 then
            some ⟨.sl (.own d) (nextGen H (.own d)) 0 k sz none, [(.own d, ⟨nextGen H (.own d), cs, false, fl⟩)], .own d :: rd⟩ else none
        | .list xs l => if k = 0 then some ⟨.list xs l, [], rd⟩ else none
        | .sl i g o n s2 lim =>
          match live H i g with
          | some b =>
            if s2 = sz ∧ b.frz = false ∧ (b.flat = true → fl = true) ∧ (n + k) * by_ ≤ lim47 then
              match lim with
              | none =>
                if o + (n + k) * sz ≤ b.cells.length then
                  some ⟨.sl i g o (n + k) sz none, [(i, { b with cells := splice b.cells (o + n * sz) cs })], i :: rd⟩
                else match cut b.cells o (n * sz) with
                  | some old => some ⟨.sl i (g + 1) 0 (n + k) sz none, [(i, ⟨g + 1, old ++ cs, false, b.flat⟩)], i :: rd⟩
                  | none => none
              | some c =>
                if n + k ≤ c then
                  if o + (n + k) * sz ≤ b.cells.length then
                    some ⟨.sl i g o (n + k) sz (some c), [(i, { b with cells := splice b.cells (o + n * sz) cs })], i :: rd⟩
                  else none
                else match cut b.cells o (n * sz) with
                  | some old => some ⟨.sl (.own d) (nextGen H (.own d)) 0 (n + k) sz none, [(.own d, ⟨nextGen H (.own d), old ++ cs, false, b.flat && fl⟩)], i :: .own d :: rd⟩
                  | none => none
            else none
          | none => none
        | _ => none
        else none
      | none => none
    | _, _, _ => none
  | _ => none

def evCopy (H : Heap) (dT : Nat) (dst x : V) : Option Out :=
  match P.underlying dT with
  | some (.slice e) => match szOf P e with
    | some sz => match src H sz x with
      | some (cs, k, fl, rd) => match dst with
        | .nils => some ⟨.int .i64 0, [], rd⟩
        | .emp => some ⟨.int .i64 0, [], rd⟩
        | .list [] _ => some ⟨.int .i64 0, [], rd⟩
        | .sl i g o n s2 _ => match live H i g with
          | some b => if s2 = sz ∧ 0 < sz ∧ b.frz = false ∧ (b.flat = true → fl = true) ∧ cs.length = k * sz ∧ o + n * sz ≤ b.cells.length then
              some ⟨.int .i64 (min k n : Nat), [(i, { b with cells := splice b.cells o (cs.take (min k n * sz)) })], i :: rd⟩ else none
          | none => none
        | _ => none
      | none => none
    | none => none
  | _ => none

def evClear (H : Heap) (t : Nat) (x : V) : Option Out :=
  match P.underlying t with
  | some (.slice e) => match szOf P e, zOf P e with
    | some sz, some z => match x with
      | .nils => pureO (.tup [])
      | .emp => pureO (.tup [])
      | .list [] _ => pureO (.tup [])
      | .sl i g o n s2 _ => match live H i g with
        | some b => if s2 = sz ∧ 0 < sz ∧ b.frz = false ∧ z.length = sz ∧ z.all V.plain = true ∧ o + n * sz ≤ b.cells.length then
            some ⟨.tup [], [(i, { b with cells := splice b.cells o (rep n z) })], [i]⟩ else none
        | none => none
      | _ => none
    | _, _ => none
  | _ => none

def evLen (t : Nat) (x : V) : Option Out :=
  match P.underlying t, x with
  | some .string, .str s => pureO (.int .i64 s.length)
  | some (.slice _), .sl _ _ _ n _ _ => pureO (.int .i64 n)
  | some (.slice _), .list xs _ => pureO (.int .i64 xs.length)
  | some (.slice _), .nils => pureO (.int .i64 0)
  | some (.slice _), .emp => pureO (.int .i64 0)
  | some (.array n _), _ => pureO (.int .i64 n)
  | _, _ => none
def evCap (t : Nat) (x : V) : Option Out :=
  match P.underlying t, x with
  | some (.slice _), .nils => pureO (.int .i64 0)
  | some (.slice _), .emp => pureO (.int .i64 0)
  | some (.slice _), .sl _ _ _ _ _ (some c) => pureO (.int .i64 c)
  | _, _ => none

def max2 : V → V → Option V
  | .int k x, .int _ y => some (.int k (if y > x then y else x))
  | _, _ => none
def min2 : V → V → Option V
  | .int k x, .int _ y => some (.int k (if y < x then y else x))
  | _, _ => none
def foldO (f : V → V → Option V) : V → List V → Option V
  | x, [] => some x
  | x, y :: r => match f x y with
    | some z => foldO f z r
    | none => none

/-- a bound of a slice expression -/
def bnd (x : Option V) (dflt : Nat) : Option Nat :=
  match x with
  | none => some dflt
  | some (.int _ i) => if 0 ≤ i then some i.toNat else none
  | _ => none

def evSlice (H : Heap) (t : Nat) (x : V) (lo hi mx : Option V) : Option Out :=
  match P.underlying t with
  | some .string => match x, mx with
    | .str s, none => match bnd lo 0, bnd hi s.length with
      | some l, some h => if l ≤ h ∧ h ≤ s.length then pureO (.str ((s.take h).drop l)) else none
      | _, _ => none
    | _, _ => none
  | some (.slice e) => match szOf P e with
    | some sz =>
      if sz = 0 then none else
      match x with
      | .nils => match bnd lo 0, bnd hi 0, bnd mx 0 with
        | some 0, some 0, some 0 => if mx.isSome && hi.isNone then none else pureO .nils
        | _, _, _ => none
      | .emp => match bnd lo 0, bnd hi 0, bnd mx 0 with
        | some 0, some 0, some 0 => if mx.isSome && hi.isNone then none else pureO .emp
        | _, _, _ => none
      | .list xs lent => match mx with
        | none => match bnd lo 0, bnd hi xs.length with
          | some l, some h => if l ≤ h ∧ h ≤ xs.length ∧ xs.all (fun x => x.length == sz) = true then pureO (.list ((xs.take h).drop l) lent) else none
          | _, _ => none
        | some m => match bnd lo 0, bnd hi 0, bnd (some m) 0 with
          | some l, some h, some m => if hi.isSome = true ∧ l = h ∧ h = m ∧ m ≤ xs.length then pureO .emp else
              if hi.isSome = true ∧ l < h ∧ h ≤ m ∧ m ≤ xs.length ∧ xs.all (fun x => x.length == sz) = true then pureO (.list ((xs.take h).drop l) lent) else none
          | _, _, _ => none
      | .sl i g o n s2 lim => if s2 = sz then
          match mx with
          | none => match bnd lo 0, bnd hi n with
            | some l, some h =>
              if l ≤ h then
                if h ≤ n then pureO (.sl i g (o + l * sz) (h - l) sz (lim.map (· - l)))
                else match live H i g with
                  | some b => if o + h * sz ≤ b.cells.length ∧ (∀ c, lim = some c → h ≤ c) then some ⟨.sl i g (o + l * sz) (h - l) sz (lim.map (· - l)), [], [i]⟩ else none
                  | none => none
              else none
            | _, _ => none
          | some m => match bnd lo 0, bnd hi 0, bnd (some m) 0 with
            | some l, some h, some m => if hi.isSome = true ∧ l ≤ h ∧ h ≤ m ∧ m ≤ n then pureO (.sl i g (o + l * sz) (h - l) sz (some (m - l))) else none
            | _, _, _ => none
        else none
      | _ => none
    | none => none
  | some (.array n e) => match szOf P e with
    | some sz => if sz = 0 then none else match mx, bnd lo 0, bnd hi n with
      | none, some l, some h => if l ≤ h ∧ h ≤ n then
          match x with
          | .ptr i g o => match live H i g with
            | some b => if o + n * sz ≤ b.cells.length then some ⟨.sl i g (o + l * sz) (h - l) sz (some (n - l)), [], [i]⟩ else none
            | none => none
          | _ => none
        else none
      | _, _, _ => none
    | none => none
  | _ => none

def evIndexAddr (t : Nat) (x ix : V) : Option Out :=
  match ix with
  | .int _ i =>
    if 0 ≤ i then
    match P.underlying t with
    | some (.slice e) => match szOf P e with
      | some sz => match x with
        | .sl b g o n s2 _ => if s2 = sz ∧ i.toNat < n then pureO (.ptr b g (o + i.toNat * sz)) else none
        | .list xs l => match xs[i.toNat]? with
          | some cs => if cs.length = sz ∧ 0 < sz then pureO (.fptr cs l) else none
          | none => none
        | _ => none
      | none => none
    | some (.array n e) => match szOf P e with
      | some sz => if i.toNat < n then match x with
          | .ptr b g o => pureO (.ptr b g (o + i.toNat * sz))
          | .fptr cs l => if i.toNat * sz ≤ cs.length then pureO (.fptr (cs.drop (i.toNat * sz)) l) else none
          | _ => none
        else none
      | none => none
    | _ => none
    else none
  | _ => none

def evFieldAddr (t : Nat) (x : V) (f : Nat) : Option Out :=
  match P.underlying t with
  | some (.struct fs) => match fs[f]? with
    | some fd => match szOf P fd.type with
      | some (_ + 1) => match x with
        | .ptr b g o => pureO (.ptr b g (o + fd.offset))
        | .fptr cs l => if fd.offset ≤ cs.length then pureO (.fptr (cs.drop fd.offset) l) else none
        | _ => none
      | _ => none
    | none => none
  | _ => none

def evPart (t : Nat) (cs : List V) (o : Nat) : Option V :=
  match szOf P t, agOf P t with
  | some sz, some ag => match cut cs o sz with
    | some x => mkv ag x
    | none => none
  | _, _ => none

def evField (t : Nat) (x : V) (f : Nat) : Option V :=
  match P.underlying t, x with
  | some (.struct fs), .agg cs => match fs[f]? with
    | some fd => evPart P fd.type cs fd.offset
    | none => none
  | _, _ => none

def evIndex (t : Nat) (x ix : V) : Option V :=
  match ix with
  | .int _ i =>
    if 0 ≤ i then
    match P.underlying t, x with
    | some (.array n e), .agg cs => match szOf P e with
      | some sz => if i.toNat < n then evPart P e cs (i.toNat * sz) else none
      | none => none
    | some .string, .str s => match s[i.toNat]? with
      | some b => some (.int .u8 b.toNat)
      | none => none
    | _, _ => none
    else none
  | _ => none

def fillF (place : Nat → Option (Nat × Nat)) : List (Nat × V) → List V → Option (List V)
  | [], cells => some cells
  | (i, v) :: r, cells => match place i with
    | some (off, size) => if v.cells.length = size ∧ off + size ≤ cells.length then fillF place r (splice cells off v.cells) else none
    | none => none

def placesOf (fs : Array Field) : Option (List (Nat × Nat)) := fs.toList.mapM (fun f => (P.info? f.type).map fun i => (f.offset, i.size))
def okPart : V → Bool
  | .und => false
  | .tup _ => false
  | _ => true
def evBuild (t : Nat) (parts : List (Nat × V)) : Option V :=
  if parts.all (fun p => okPart p.2) = true then
  match P.underlying t, zOf P t with
  | some (.struct fs), some z => match placesOf P fs with
    | some places => match fillF (fun i => places[i]?) parts z with
      | some r => some (.agg r)
      | none => none
    | none => none
  | some (.array _ e), some z => match szOf P e with
    | some sz => match fillF (fun i => some (i * sz, sz)) parts z with
      | some r => some (.agg r)
      | none => none
    | none => none
  | _, _ => none
  else none

def evInt (op : BinOp) (k : IntKind) (a b : Int) : Option V :=
  match op with
  | .add => some (.int k (k.wrap (a + b)))
  | .sub => some (.int k (k.wrap (a - b)))
  | .mul => some (.int k (k.wrap (a * b)))
  | .quo => if b = 0 then none else some (.int k (k.wrap (a.tdiv b)))
  | .rem => if b = 0 then none else some (.int k (a.tmod b))
  | .and => some (.int k (k.wrap ((BitVec.ofInt k.bits a &&& BitVec.ofInt k.bits b).toNat : Int)))
  | .or => some (.int k (k.wrap ((BitVec.ofInt k.bits a ||| BitVec.ofInt k.bits b).toNat : Int)))
  | .xor => some (.int k (k.wrap ((BitVec.ofInt k.bits a ^^^ BitVec.ofInt k.bits b).toNat : Int)))
  | .andNot => some (.int k (k.wrap ((BitVec.ofInt k.bits a &&& ~~~(BitVec.ofInt k.bits b)).toNat : Int)))
  | .eql => some (.bool (a == b))
  | .neq => some (.bool (a != b))
  | .lss => some (.bool (decide (a < b)))
  | .leq => some (.bool (decide (a ≤ b)))
  | .gtr => some (.bool (decide (a > b)))
  | .geq => some (.bool (decide (a ≥ b)))
  | .shl | .shr => none
def evShift (op : BinOp) (k : IntKind) (a b : Int) : Option V :=
  if b < 0 then none else
  match op with
  | .shl => some (.int k (k.wrap (a * 2 ^ (min b.toNat k.bits))))
  | .shr => some (.int k (a.fdiv (2 ^ (min b.toNat k.bits))))
  | _ => none
def evStr (op : BinOp) (a b : List UInt8) : Option V :=
  match op with
  | .add => if ((a.length + b.length : Nat) : Int) ≤ 9223372036854775807 then some (.str (a ++ b)) else none
  | .eql => some (.bool (a == b))
  | .neq => some (.bool (!(a == b)))
  | .lss => some (.bool (Op.bytesLess a b))
  | .leq => some (.bool (Op.bytesLess a b || a == b))
  | .gtr => some (.bool (!(Op.bytesLess a b || a == b)))
  | .geq => some (.bool (!Op.bytesLess a b))
  | _ => none
/-- equality of values of one cell: none where it is not known -/
def eq1 : TypeDesc → V → V → Option Bool
  | .bool, .bool a, .bool b => some (a == b)
  | .pointer _, .nilp, .nilp => some true
  | .pointer _, .nilp, .ptr _ _ _ => some false
  | .pointer _, .ptr _ _ _, .nilp => some false
  | .pointer _, .nilp, .fptr _ _ => some false
  | .pointer _, .fptr _ _, .nilp => some false
  | .slice _, .nils, .nils => some true
  | .slice _, .nils, .sl .. => some false
  | .slice _, .sl .., .nils => some false
  | .slice _, .nils, .list (_ :: _) _ => some false
  | .slice _, .list (_ :: _) _, .nils => some false
  | .func .., .nilf, .nilf => some true
  | .func .., .nilf, .fn .. => some false
  | .func .., .fn .., .nilf => some false
  | _, _, _ => none
def evEq (t : Nat) (x y : V) : Option Bool :=
  match P.underlying t with
  | some d => eq1 d x y
  | none => none
def evBin (t : Nat) (op : BinOp) (x y : V) : Option V :=
  match x, y with
  | .int k a, .int k' b => match op with
    | .shl => evShift .shl k a b
    | .shr => evShift .shr k a b
    | op => if k = k' then evInt op k a b else none
  | .str a, .str b => evStr op a b
  | x, y => match op with
    | .eql => match evEq P t x y with
      | some b => some (.bool b)
      | none => none
    | .neq => match evEq P t x y with
      | some b => some (.bool !b)
      | none => none
    | _ => none
def evUn (op : UnOp) (x : V) : Option V :=
  match op, x with
  | .neg, .int k n => some (.int k (k.wrap (0 - n)))
  | .xor, .int k n => some (.int k (k.wrap ((BitVec.ofInt k.bits (if k.signed then -1 else k.max) ^^^ BitVec.ofInt k.bits n).toNat : Int)))
  | .not, .bool b => some (.bool !b)
  | _, _ => none
def toBytes : List V → Option (List UInt8)
  | [] => some []
  | .int .u8 n :: r => match toBytes r with
    | some l => some (UInt8.ofNat n.toNat :: l)
    | none => none
  | _ => none
def srcS (H : Heap) : V → Option (List V × Nat × Bool × List Id)
  | .str _ => none
  | x => src H 1 x
def evConvert (H : Heap) (s t : Nat) (x : V) : Option Out :=
  match P.underlying s, P.underlying t with
  | some (.slice e), some .string => match P.underlying e with
    | some (.int .u8) => match srcS H x with
      | some (cs, _, _, rd) => match toBytes cs with
        | some l => some ⟨.str l, [], rd⟩
        | none => none
      | none => none
    | _ => none
  | some _, some (.int k) => match x with
    | .int _ n => pureO (.int k (k.wrap n))
    | _ => none
  | some _, some .string => match x with
    | .str l => pureO (.str l)
    | _ => none
  | some _, some (.slice e) => match x with
    | .str l => match P.underlying e with
      | some (.int .u8) => match szOf P e, zOf P e with
        | some 1, some _ => pureO (.list (l.map fun b => [.int .u8 b.toNat]) false)
        | _, _ => none
      | _ => none
    | _ => none
  | _, _ => none
end
end Go.Proofs.Ytcamcfplcoklkaa.Iv

namespace Go.Proofs.Ytcamcfplcoklkaa.Iv
open Go

inductive Mode where
  | keep | lent | byref | view | lentN
  deriving DecidableEq, Inhabited
/-- functions that hand the elements of a list on, one by one -/
inductive SeqK where
  | backward (ag : Bool) (sz : Nat)
  | chunk
  deriving DecidableEq, Inhabited
structure Pol where
  own : Bool
  modes : List Mode
  seq : Option SeqK := none
  deriving Inhabited

mutual
def refs : V → List (Id × Nat)
  | .ptr i g _ => [(i, g)]
  | .sl i g _ _ _ _ => [(i, g)]
  | .agg cs => refsL cs
  | .tup cs => refsL cs
  | .fn _ cs => refsL cs
  | _ => []
def refsL : List V → List (Id × Nat)
  | [] => []
  | v :: r => refs v ++ refsL r
end
mutual
def ren (f : Id → Nat → Option (Id × Nat)) : V → V
  | .ptr i g o => match f i g with | some (i, g) => .ptr i g o | none => .und
  | .sl i g o n sz lim => match f i g with | some (i, g) => .sl i g o n sz lim | none => .und
  | .agg cs => .agg (renL f cs)
  | .tup cs => .tup (renL f cs)
  | .fn k cs => .fn k (renL f cs)
  | v => v
def renL (f : Id → Nat → Option (Id × Nat)) : List V → List V
  | [] => []
  | v :: r => ren f v :: renL f r
end

/-- The blocks that can be reached, each once, in the order in which they are met. -/
def collect (H : Heap) : Nat → List (Id × Nat) → List Id → Option (List Id)
  | _, [], acc => some acc
  | 0, _ :: _, _ => none
  | n + 1, (i, g) :: todo, acc =>
    if i ∈ acc then collect H n todo acc else
    match live H i g with
    | some b => collect H n ((if b.flat then [] else refsL b.cells) ++ todo) (acc ++ [i])
    | none => none

def pos (i : Id) : List Id → Nat → Option Nat
  | [], _ => none
  | x :: r, n => if x = i then some n else pos i r (n + 1)

def lent1 (H : Heap) : V → Option Out
  | .sl i g o n sz _ =>
    match live H i g with
    | some b => match cut b.cells o (n * sz) with
      | some cs => if b.flat = true ∧ 0 < sz then some ⟨.list (chunk sz n cs) true, [], [i]⟩ else none
      | none => none
    | none => none
  | .list xs _ => pureO (.list xs true)
  | .nils => pureO (.list [] true)
  | .emp => pureO (.list [] true)
  | v => keepV H v
/-- a cell as it is seen in a block that is lent -/
def viewC (H : Heap) : V → Option (V × List Id)
  | .sl i g o n sz _ => match live H i g with
    | some b => match cut b.cells o (n * sz) with
      | some cs => if b.flat = true ∧ 0 < sz then some (.list (chunk sz n cs) true, [i]) else none
      | none => none
    | none => none
  | c => if c.plain = true then some (c, []) else none
def viewL (H : Heap) : List V → Option (List V × List Id)
  | [] => some ([], [])
  | c :: r => match viewC H c with
    | some (c, d) => match viewL H r with
      | some (cs, ds) => some (c :: cs, d ++ ds)
      | none => none
    | none => none
/-- a pointer that is lent: the block is read, not written, not kept -/
def view1 (H : Heap) : V → Option Out
  | .ptr i g o => match live H i g with
    | some b => match viewL H (b.cells.drop o) with
      | some (cs, d) => some ⟨.fptr cs true, [], i :: d⟩
      | none => none
    | none => none
  | .fptr cs _ => pureO (.fptr cs true)
  | .nilp => pureO .nilp
  | _ => none
def argIn (H : Heap) : Mode → V → Option Out
  | .keep, v => keepV H v
  | .lent, v => lent1 H v
  | .byref, v => pureO v
  | .lentN, v => match v with
    | .nils => pureO .nils
    | .emp => pureO .emp
    | v => lent1 H v
  | .view, v => view1 H v
/-- the arguments as they are handed on, the blocks that are frozen, what was read, what is lent -/
def argsIn (H : Heap) : List Mode → List V → Option (List V × List (Id × Blk) × List Id)
  | _, [] => some ([], [], [])
  | ms, v :: r => match argIn H (ms.headD .keep) v with
    | some ⟨v, u, d⟩ => match argsIn H ms.tail r with
      | some (vs, us, ds) => some (v :: vs, u ++ us, d ++ ds)
      | none => none
    | none => none

def intoRen (H : Heap) (acc : List Id) (i : Id) (g : Nat) : Option (Id × Nat) :=
  match pos i acc 0 with
  | some j => match live H i g with
    | some _ => some (.arg j, 0)
    | none => none
  | none => none
def enterH (H : Heap) (acc : List Id) : Heap :=
  match acc with
  | [] => fun _ => none
  | acc => fun
    | .arg j => match acc[j]? with
      | some i => match H i with
        | some b => some { gen := 0, cells := if b.flat then b.cells else renL (intoRen H acc) b.cells, frz := b.frz, flat := b.flat }
        | none => none
      | none => none
    | _ => none
/-- the name of a block that the callee has made: another one, where a block that was handed over has it -/
def newName (d : Nat) (acc : List Id) (i : Id) : Id := if acc.contains (.sub d i) = true then .sub d (.sub 999999 i) else .sub d i
def Id.alt : Id → Bool
  | .sub t _ => t == 999999
  | _ => false
def backName (H : Heap) (d : Nat) (acc : List Id) : Id → Option (Id × Nat)
  | .arg j => match acc[j]? with
    | some i => match H i with
      | some b => some (i, b.gen)
      | none => none
    | none => none
  | i => some (newName d acc i, nextGen H (newName d acc i))
def backRen (H : Heap) (d : Nat) (acc acc' : List Id) (i : Id) (g : Nat) : Option (Id × Nat) :=
  if i ∈ acc' then
    match backName H d acc i with
    | some (i', b) => some (i', b + g)
    | none => none
  else none
def keepTup (H : Heap) : List V → Option (List V × List (Id × Blk) × List Id)
  | [] => some ([], [], [])
  | v :: r => match keepV H v with
    | some ⟨v, u, d⟩ => match keepTup H r with
      | some (vs, us, ds) => some (v :: vs, u ++ us, d ++ ds)
      | none => none
    | none => none
def V.keptR : V → Bool
  | .agg cs => cs.all V.kept
  | v => v.kept
def outKept : V → Bool
  | .tup vs => vs.all V.keptR
  | v => v.keptR
def argIds : Nat → Heap → List (Id × Nat) → List (Id × Nat)
  | 0, _, l => l
  | n + 1, H, l => argIds n H (match H (.arg n) with | some b => (.arg n, b.gen) :: l | none => l)
/-- the blocks that go back to the caller -/
def backUps (H H' : Heap) (d : Nat) (acc acc' : List Id) : List Id → Option (List (Id × Blk))
  | [] => some []
  | i :: r => match H' i, backName H d acc i, backUps H H' d acc acc' r with
    | some b, some (i', g), some us =>
      if (b.flat || b.cells.all V.kept) = true then
        some ((i', { gen := g + b.gen, cells := if b.flat then b.cells else renL (backRen H d acc acc') b.cells, frz := b.frz, flat := b.flat }) :: us)
      else none
    | _, _, _ => none
def freshSubs (d : Nat) (acc : List Id) : List Id → Bool
  | [] => true
  | .arg _ :: r => freshSubs d acc r
  | i :: r => !(acc.contains (newName d acc i)) && !i.alt && freshSubs d acc r

/-- what is answered: a slice of the heap's is frozen, but where it is to stay the caller's own -/
def retIn (own : Bool) (H : Heap) (r : V) : Option (V × List (Id × Blk)) :=
  match own with
  | true => some (r, [])
  | false => match r with
    | .tup vs => match keepTup H vs with
      | some (vs, us, _) => some (.tup vs, us)
      | none => none
    | r => match keepV H r with
      | some ⟨r, us, _⟩ => some (r, us)
      | none => none

def renIf (acc : List Id) (f : Id → Nat → Option (Id × Nat)) (as : List V) : List V :=
  match acc with
  | [] => as
  | _ => renL f as
def renIfV (acc : List Id) (f : Id → Nat → Option (Id × Nat)) (r : V) : V :=
  match acc with
  | [] => r
  | _ => ren f r
def evCall (call : Nat → List V → Heap → Option (V × Heap)) (pol : Nat → Pol) (H : Heap) (d f : Nat) (args : List V) : Option Out :=
  match argsIn H (pol f).modes args with
  | some (as, fz, rd) =>
    let H1 := H.sets fz
    match collect H1 200 (refsL as) [] with
    | some acc =>
      if acc.any (fun i => rd.contains i && !(fz.any fun x => x.1 == i)) = true then none else
      match call f (renIf acc (intoRen H1 acc) as) (enterH H1 acc) with
      | some (r, H') =>
        match retIn (pol f).own H' r with
        | some (r, us) =>
          match collect (H'.sets us) 200 (argIds acc.length (H'.sets us) (refs r)) [] with
          | some acc' => match backUps H1 (H'.sets us) d acc acc' acc' with
            | some ups => if (outKept r || rd.isEmpty) && freshSubs d acc acc' then
                some ⟨renIfV acc' (backRen H1 d acc acc') r, fz ++ ups, rd ++ acc ++ acc'.map (newName d acc)⟩
              else none
            | none => none
          | none => none
        | none => none
      | none => none
    | none => none
  | none => none

section
variable (P : Program) (call : Nat → List V → Heap → Option (V × Heap)) (pol : Nat → Pol)

def liftO : Option V → Option Out
  | some v => pureO v
  | none => none

def evBuiltin (H : Heap) (d : Nat) (b : Builtin) (ts : List Nat) (args : List V) : Option Out :=
  match b, ts, args with
  | .append, s :: x :: _, [a, b] => evAppend P H d s x a b
  | .len, s :: _, [x] => evLen P s x
  | .cap, s :: _, [x] => evCap P s x
  | .copy, s :: _, [a, b] => evCopy P H s a b
  | .clear, s :: _, [a] => evClear P H s a
  | .max, _, x :: r => liftO (foldO max2 x r)
  | .min, _, x :: r => liftO (foldO min2 x r)
  | _, _, _ => none

def evOp (H : Heap) (ρ : Operand → V) (d : Nat) : Op → Option Out
  | .move x | .assign x => pureO (ρ x)
  | .pick c a b => match ρ c with
    | .bool t => pureO (if t then ρ a else ρ b)
    | _ => none
  | .alloc e => match zOf P e with
    | some z => evBox H d z
    | none => none
  | .box _ x => boxO H d (ρ x)
  | .build t parts => liftO (evBuild P t (parts.toList.map fun p => (p.1, ρ p.2)))
  | .buildSlice t len parts => evBuildSlice P H d t len (parts.toList.map fun p => (p.1, ρ p.2))
  | .load t a => evLoad P H t (ρ a)
  | .store t a x => evStore P H t (ρ a) (ρ x)
  | .nilCheck x => match ρ x with
    | .ptr i g o => pureO (.ptr i g o)
    | .fptr cs l => pureO (.fptr cs l)
    | .fn f c => pureO (.fn f c)
    | _ => none
  | .binOp op t x y _ => liftO (evBin P t op (ρ x) (ρ y))
  | .unOp op _ x => liftO (evUn op (ρ x))
  | .convert s t x => evConvert P H s t (ρ x)
  | .makeFunc (.func f) first cap => if first.isEmpty then pureO (.fn f (cap.toList.map ρ)) else none
  | .makeSlice t l c => evMakeSlice P H d t (ρ l) (ρ c)
  | .slice t x lo hi mx => evSlice P H t (ρ x) (lo.map ρ) (hi.map ρ) (mx.map ρ)
  | .fieldAddr t x f => evFieldAddr P t (ρ x) f
  | .field t x f => liftO (evField P t (ρ x) f)
  | .indexAddr t x i => evIndexAddr P t (ρ x) (ρ i)
  | .index t x i => liftO (evIndex P t (ρ x) (ρ i))
  | .extract t i => match ρ t with
    | .tup vs => liftO vs[i]?
    | _ => none
  | .call { callee := .builtin b, args, argTypes } => evBuiltin P H d b argTypes.toList (args.toList.map ρ)
  | .call { callee := .value f, args, .. } => match ρ f with
    | .fn f cap => evCall call pol H d f (args.toList.map ρ ++ cap)
    | _ => none
  | _ => none

def evOperand (env : List V) : Operand → V
  | .tmp t => env.getD t .und
  | .const v => ofVal v
  | .func f => .fn f []
  | .global _ => .und

def wantV (ops : Array Oper) (env : List V) : Option (Nat × Bool) → Option Bool
  | none => some true
  | some (j, b) => match (ops[j]?).bind (·.dst) with
    | some t => match env.getD t .und with
      | .bool c => some (c == b)
      | .tup [] => some false
      | _ => none
    | none => none
def setV (env : List V) : Option Nat → V → Option (List V)
  | none, _ => some env
  | some d, v => if d < env.length then some (env.set d v) else none

/-- one operation: what it comes to -/
def evOper (ops : Array Oper) (k : Nat) (o : Oper) (env : List V) (H : Heap) : Option Out :=
  match wantV ops env o.guard with
  | some true => evOp P call pol H (evOperand env) (o.dst.getD (1000 + k)) o.op
  | some false => pureO (.tup [])
  | none => none

abbrev Log := List (Nat × List Id × List Id)
def evOps (ops : Array Oper) : List Oper → Nat → List V → Heap → Log → Option (List V × Heap × Log)
  | [], _, env, H, lg => some (env, H, lg)
  | o :: r, k, env, H, lg =>
    match evOper P call pol ops k o env H with
    | some ⟨v, us, rd⟩ => match setV env o.dst v with
      | some env => evOps ops r (k + 1) env (H.sets us) ((k, rd, us.map (·.1)) :: lg)
      | none => none
    | none => none

def meets (a b : List Id) : Bool := a.any fun i => b.contains i
def pairOk (ops : Array Oper) (x y : Nat × List Id × List Id) : Bool :=
  -- x comes before y in the text
  (!(meets x.2.2 y.2.1 || meets x.2.2 y.2.2 || meets y.2.2 x.2.1)) || ((Region.before ops).getD y.1 0).testBit x.1
def logOk (ops : Array Oper) : Log → Bool
  | [] => true
  | y :: r => r.all (fun x => pairOk ops x y) && logOk ops r

inductive Ex where
  | nrm | exit (id : Nat) | ret
  deriving DecidableEq, Inhabited

abbrev Res := Option (Ex × List V × Heap)
/-- a piece of code without ranges over functions in it -/
def flatC : Code → Bool
  | .seq a b => flatC a && flatC b
  | .cond _ a b => flatC a && flatC b
  | .block _ c => flatC c
  | .scope c => flatC c
  | .loop c => flatC c
  | .rangeFunc .. => false
  | _ => true
/-- what comes, element by element -/
def backItems (ag : Bool) (sz : Nat) (xs : List (List V)) : Nat → Option (List (List V))
  | 0 => some []
  | n + 1 => match xs[n]? with
    | some cs => if cs.length = sz then match mkv ag cs, backItems ag sz xs n with
      | some v, some r => some ([.int .i64 n, v] :: r)
      | _, _ => none else none
    | none => none
def chunkItems (xs : List (List V)) (l : Bool) (n : Nat) : Nat → List (List V)
  | 0 => []
  | k + 1 => if xs = [] then [] else [.list (xs.take n) l] :: chunkItems (xs.drop n) l n k
def seqItems : SeqK → List V → Option (List (List V))
  | .backward ag sz, [.fptr [.list xs _] _] => if xs.length < 4611686018427387904 then backItems ag sz xs xs.length else none
  | .chunk, [.fptr [.list xs l] _, .fptr [.int .i64 n] _] => if 0 < n then some (chunkItems xs l n.toNat xs.length) else none
  | _, _ => none
def seqOf (pol : Nat → Pol) (k : Nat) (cap : List V) : Option (List (List V)) :=
  match (pol k).seq with
  | some s => seqItems s cap
  | none => none
def putAll : List Nat → List V → List V → Option (List V)
  | [], [], env => some env
  | p :: ps, x :: xs, env => putAll ps xs (env.set p x)
  | _, _, _ => none
/-- one round: the assignment, the body -/
def twoC (ps : List Nat) (env : List V) (as body : List V → Heap → Res) (x : List V) (H : Heap) : Res :=
  match putAll ps x env with
  | some e => match as e H with
    | some (.nrm, e, H) => body e H
    | _ => none
  | none => none
/-- the rounds of a range over a function -/
def evItems (env : List V) (round : List V → Heap → Res) : List (List V) → Heap → Res
  | [], H => some (.nrm, env, H)
  | x :: r, H => match round x H with
    | some (.nrm, _, H) => evItems env round r H
    | some (ex, _, H) => some (ex, env, H)
    | none => none
/-- the code; 'again' goes on with a loop -/
def evC (again : Code → List V → Heap → Res) : Code → List V → Heap → Res
  | .skip, env, H => some (.nrm, env, H)
  | .label _, env, H => some (.nrm, env, H)
  | .ret, env, H => some (.ret, env, H)
  | .exit id, env, H => some (.exit id, env, H)
  | .seq a b, env, H => match evC again a env H with
    | some (.nrm, env, H) => evC again b env H
    | r => r
  | .cond c a b, env, H => match evOperand env c with
    | .bool true => evC again a env H
    | .bool false => evC again b env H
    | _ => none
  | .block id c, env, H => match evC again c env H with
    | some (.exit j, env, H) => if j = id then some (.nrm, env, H) else some (.exit j, env, H)
    | r => r
  | .scope c, env, H => evC again c env H
  | .loop c, env, H => match evC again c env H with
    | some (.nrm, env, H) => again (.loop c) env H
    | r => r
  | .region _ ops draw, env, H =>
    match evOps P call pol ops ops.toList 0 env H [] with
    | some (env, H, lg) => if draw && !logOk ops lg then none else some (.nrm, env, H)
    | none => none
  | .rangeFunc g ps assign body, env, H => match evOperand env g with
    | .fn k cap => match seqOf pol k cap with
      | some items => if flatC assign && flatC body then
          evItems env (twoC ps.toList env (evC again assign) (evC again body)) items H
        else none
      | none => none
    | _ => none
  | _, _, _ => none

def evResult (H : Heap) (env : List V) : ResultVar → Option V
  | .tmp t => some (env.getD t .und)
  | .cell a t => (evLoad P H t (env.getD a .und)).map (·.v)
def evResults (H : Heap) (env : List V) : List ResultVar → Option (List V)
  | [] => some []
  | r :: rs => match evResult P H env r, evResults H env rs with
    | some v, some vs => some (v :: vs)
    | _, _ => none
end

structure Cfg where
  P : Program
  pol : Nat → Pol
  good : List Nat
  /-- functions whose laws come from outside -/
  ext : Nat → Option (List V → Heap → Option (V × Heap)) := fun _ => none

def Cfg.extern (K : Cfg) (f : Nat) (args : List V) (H : Heap) : Option (V × Heap) :=
  match K.ext f with
  | some g => g args H
  | none => none
def evBody (K : Cfg) (call : Nat → List V → Heap → Option (V × Heap)) (again : Code → List V → Heap → Res) (f : Nat) (args : List V) (H : Heap) : Option (V × Heap) :=
  if K.good.contains f then
  match K.P.funcs[f]? with
  | some fn => match fn.body with
    | some c => if args.length ≤ fn.ntmps then
        match evC K.P call K.pol again c (args ++ List.replicate (fn.ntmps - args.length) .und) H with
        | some (.exit _, _, _) => none
        | some (_, env, H) => match evResults K.P H env fn.results.toList with
          | some [v] => some (v, H)
          | some vs => some (.tup vs, H)
          | none => none
        | none => none
      else none
    | none => none
  | none => none
  else none

def evFun (K : Cfg) (call : Nat → List V → Heap → Option (V × Heap)) (again : Code → List V → Heap → Res) (f : Nat) (args : List V) (H : Heap) : Option (V × Heap) :=
  if (K.ext f).isSome then K.extern f args H else evBody K call again f args H

mutual
def run (K : Cfg) : Nat → Nat → List V → Heap → Option (V × Heap)
  | 0, _, _, _ => none
  | n + 1, f, args, H => evFun K (run K n) (again K n) f args H
def again (K : Cfg) : Nat → Code → List V → Heap → Res
  | 0, _, _, _ => none
  | n + 1, c, env, H => evC K.P (run K n) K.pol (again K n) c env H
end
end Go.Proofs.Ytcamcfplcoklkaa.Iv

namespace Go.Proofs.Ytcamcfplcoklkaa.Iv
open Go

structure Im where
  gen : Nat
  rb : Nat
  dl : Nat
  n : Nat
  tot : Nat

/-- A cell without references reads as it says: what it reads in memory lies in blocks of S, which stay as they are. -/
inductive FR (w : World) (S : Nat → Prop) : V → Value → Prop
  | int (k : IntKind) (n : Int) : FR w S (.int k n) (.int k n)
  | bool (b : Bool) : FR w S (.bool b) (.bool b)
  | str (s : List UInt8) : FR w S (.str s) (.string ⟨s.toArray⟩)
  | nilp : FR w S .nilp (.pointer none)
  | nils : FR w S .nils (.slice none 0 0)
  | emp (a : Option Addr) : FR w S .emp (.slice a 0 0)
  | nilf : FR w S .nilf .nilFunc
  | fptr (cs : List V) (rb o : Nat) (vals : Nat → Value) (hs : S rb)
      (hc : ∀ j, j < cs.length → w.cell? ⟨rb, o + j, none⟩ = some (vals j)) (hv : ∀ (j : Nat) (c : V), cs[j]? = some c → FR w S c (vals j)) :
      FR w S (.fptr cs false) (.pointer (some ⟨rb, o, none⟩))
  | list (xs : List (List V)) (sz cap : Nat) (a : Option Addr) (vals : Nat → Value) (hcap : xs.length ≤ cap) (hz : ∀ x ∈ xs, x.length = sz)
      (ha : xs ≠ [] → ∃ rb o, a = some ⟨rb, o, none⟩ ∧ S rb ∧ ∀ j, j < xs.flatten.length → w.cell? ⟨rb, o + j, none⟩ = some (vals j))
      (hv : ∀ (j : Nat) (c : V), xs.flatten[j]? = some c → FR w S c (vals j)) :
      FR w S (.list xs false) (.slice a xs.length cap)

/-- A list that is lent. -/
def LL (w : World) (S B : Nat → Prop) (xs : List (List V)) (x : Value) : Prop :=
  ∃ (sz cap : Nat) (a : Option Addr) (vals : Nat → Value), x = .slice a xs.length cap ∧ xs.length ≤ cap ∧ (∀ x ∈ xs, x.length = sz) ∧
    (xs ≠ [] → ∃ rb o, a = some ⟨rb, o, none⟩ ∧ (S rb ∨ B rb) ∧ ∀ j, j < xs.flatten.length → w.cell? ⟨rb, o + j, none⟩ = some (vals j)) ∧
    ∀ (j : Nat) (c : V), xs.flatten[j]? = some c → FR w S c (vals j)
/-- A cell of a block that is lent. -/
def CR (w : World) (S B : Nat → Prop) (c : V) (x : Value) : Prop := FR w S c x ∨ ∃ xs, c = .list xs true ∧ LL w S B xs x

/-- A value reads as it says. -/
inductive VR (w : World) (S B : Nat → Prop) (m : Id → Option Im) : V → Value → Prop
  | fr {v : V} {x : Value} (h : FR w S v x) : VR w S B m v x
  | lfptr (cs : List V) (rb o : Nat) (vals : Nat → Value) (hs : S rb ∨ B rb)
      (hc : ∀ j, j < cs.length → w.cell? ⟨rb, o + j, none⟩ = some (vals j)) (hv : ∀ (j : Nat) (c : V), cs[j]? = some c → CR w S B c (vals j)) :
      VR w S B m (.fptr cs true) (.pointer (some ⟨rb, o, none⟩))
  | llist (xs : List (List V)) (sz cap : Nat) (a : Option Addr) (vals : Nat → Value) (hcap : xs.length ≤ cap) (hz : ∀ x ∈ xs, x.length = sz)
      (ha : xs ≠ [] → ∃ rb o, a = some ⟨rb, o, none⟩ ∧ (S rb ∨ B rb) ∧ ∀ j, j < xs.flatten.length → w.cell? ⟨rb, o + j, none⟩ = some (vals j))
      (hv : ∀ (j : Nat) (c : V), xs.flatten[j]? = some c → FR w S c (vals j)) :
      VR w S B m (.list xs true) (.slice a xs.length cap)
  | ptr (i : Id) (o : Nat) (im : Im) (hm : m i = some im) : VR w S B m (.ptr i im.gen o) (.pointer (some ⟨im.rb, im.dl + o, none⟩))
  | ptrD (i : Id) (g o : Nat) (im : Im) (a : Addr) (hm : m i = some im) (hg : g < im.gen) : VR w S B m (.ptr i g o) (.pointer (some a))
  | sl (i : Id) (o n sz : Nat) (lim : Option Nat) (im : Im) (a : Addr) (cap : Nat) (hm : m i = some im) (ha : 0 < cap → a = ⟨im.rb, im.dl + o, none⟩)
      (h1 : n ≤ cap) (h2 : o + n * sz ≤ im.n) (h3 : im.dl + o + cap * sz ≤ im.tot) (h4 : lim = none → im.n ≤ o + cap * sz) (h5 : ∀ c, lim = some c → cap = c) :
      VR w S B m (.sl i im.gen o n sz lim) (.slice (some a) n cap)
  | slD (i : Id) (g o n sz : Nat) (lim : Option Nat) (im : Im) (a : Addr) (cap : Nat) (hm : m i = some im) (hg : g < im.gen) (h1 : n ≤ cap) (h5 : ∀ c, lim = some c → cap = c) : VR w S B m (.sl i g o n sz lim) (.slice (some a) n cap)
  | agg (cs : List V) (vs : Array Value) (hl : vs.size = cs.length) (h : ∀ (j : Nat) (c : V) (x : Value), cs[j]? = some c → vs[j]? = some x → VR w S B m c x) : VR w S B m (.agg cs) (.agg vs)
  | tup (cs : List V) (vs : Array Value) (hl : vs.size = cs.length) (h : ∀ (j : Nat) (c : V) (x : Value), cs[j]? = some c → vs[j]? = some x → VR w S B m c x) : VR w S B m (.tup cs) (.tuple vs)
  | fn (f : Nat) (cs : List V) (vs : Array Value) (hl : vs.size = cs.length) (h : ∀ (j : Nat) (c : V) (x : Value), cs[j]? = some c → vs[j]? = some x → VR w S B m c x) : VR w S B m (.fn f cs) (.func (.func f) #[] vs)
  | und (x : Value) : VR w S B m .und x

def no : Nat → Prop := fun _ => False

structure BlkOK (w : World) (S : Nat → Prop) (m : Id → Option Im) (b : Blk) (im : Im) : Prop where
  gen : im.gen = b.gen
  n : im.n = b.cells.length
  row : ∃ arr ty, w.heap[im.rb]? = some (.cells arr ty (0, 0)) ∧ arr.size = im.tot
  fit : im.dl + im.n ≤ im.tot
  cel : ∀ (j : Nat) (c : V), b.cells[j]? = some c → ∃ x, w.cell? ⟨im.rb, im.dl + j, none⟩ = some x ∧ x.oneCell' = true ∧ VR w S no m c x ∧ (b.flat = true → FR w S c x)
  frz : b.frz = true → S im.rb
  thaw : b.frz = false → ¬ S im.rb

structure SR (w : World) (S K : Nat → Prop) (m : Id → Option Im) (H : Heap) : Prop where
  sub : ∀ rb, S rb → rb < w.heap.size
  kin : ∀ rb, K rb → rb < w.heap.size
  blk : ∀ i b, H i = some b → ∃ im, m i = some im ∧ BlkOK w S m b im
  non : ∀ i, H i = none → m i = none
  inj : ∀ i j bi im jm, H i = some bi → bi.frz = false → m i = some im → m j = some jm → i ≠ j → im.rb ≠ jm.rb
  own : ∀ i b im, H i = some b → b.frz = false → m i = some im → ¬ K im.rb
  scel : ∀ rb, S rb → ∃ o : Obj, w.heap[rb]? = some o ∧ o.isCells = true

structure Step (K : Nat → Prop) (w : World) (S : Nat → Prop) (m : Id → Option Im) (w' : World) (S' : Nat → Prop) (m' : Id → Option Im) : Prop where
  os : w'.os = w.os
  tape : w'.tape = w.tape
  output : w'.output = w.output
  size : w.heap.size ≤ w'.heap.size
  sub : ∀ rb, S rb → S' rb
  fresh : ∀ rb, S' rb → S rb ∨ ¬ K rb
  pres : ∀ rb, (S rb ∨ K rb) → w'.heap[rb]? = w.heap[rb]?
  ext : ∀ i im, m i = some im → ∃ im', m' i = some im' ∧ im.gen ≤ im'.gen ∧ (im'.gen = im.gen → im' = im)
  /-- what is no cells stays -/
  oth : KeepsOthers w w'

theorem Step.refl (K : Nat → Prop) (w : World) (S : Nat → Prop) (m : Id → Option Im) : Step K w S m w S m :=
  ⟨rfl, rfl, rfl, Nat.le_refl _, fun _ h => h, fun _ h => .inl h, fun _ _ => rfl, fun _ im h => ⟨im, h, Nat.le_refl _, fun _ => rfl⟩, KeepsOthers.refl _⟩
theorem Step.trans {K : Nat → Prop} {w S m w1 S1 m1 w2 S2 m2} (h : Step K w S m w1 S1 m1) (k : Step K w1 S1 m1 w2 S2 m2) : Step K w S m w2 S2 m2 := by
  refine ⟨k.os.trans h.os, k.tape.trans h.tape, k.output.trans h.output, Nat.le_trans h.size k.size, fun rb x => k.sub _ (h.sub _ x), fun rb x => (k.fresh rb x).elim (h.fresh rb) .inr, fun rb x => ?_, fun i im x => ?_, h.oth.trans k.oth⟩
  · rw [k.pres rb (x.imp (h.sub _) id), h.pres rb x]
  · obtain ⟨a, ha, hg, he⟩ := h.ext i im x
    obtain ⟨b, hb, hg', he'⟩ := k.ext i a ha
    refine ⟨b, hb, Nat.le_trans hg hg', fun e => ?_⟩
    have : a.gen = im.gen := by omega
    rw [he' (by omega), he this]
theorem Step.drew (K : Nat → Prop) (w : World) (S : Nat → Prop) (m : Id → Option Im) : Step K w S m w.drew S m :=
  ⟨rfl, rfl, rfl, Nat.le_refl _, fun _ h => h, fun _ h => .inl h, fun _ _ => rfl, fun _ im h => ⟨im, h, Nat.le_refl _, fun _ => rfl⟩, KeepsOthers.drew _⟩

theorem cell_of_block {w w' : World} {rb o : Nat} (h : w'.heap[rb]? = w.heap[rb]?) : w'.cell? ⟨rb, o, none⟩ = w.cell? ⟨rb, o, none⟩ := by
  unfold World.cell?
  simp only [h]

theorem FR.mono {w w' : World} {S S' : Nat → Prop} (hp : ∀ rb, S rb → w'.heap[rb]? = w.heap[rb]?) (hs : ∀ rb, S rb → S' rb) {v : V} {x : Value}
    (h : FR w S v x) : FR w' S' v x := by
  induction h with
  | int k n => exact .int k n
  | bool b => exact .bool b
  | str s => exact .str s
  | nilp => exact .nilp
  | nils => exact .nils
  | emp a => exact .emp a
  | nilf => exact .nilf
  | fptr cs rb o vals h hc hv ih => exact .fptr cs rb o vals (hs _ h) (fun j hj => by rw [cell_of_block (hp _ h)]; exact hc j hj) ih
  | list xs sz cap a vals hcap hz ha hv ih =>
    refine .list xs sz cap a vals hcap hz (fun hne => ?_) ih
    obtain ⟨rb, o, e, h, hc⟩ := ha hne
    exact ⟨rb, o, e, hs _ h, fun j hj => by rw [cell_of_block (hp _ h)]; exact hc j hj⟩

theorem CR.map {w w' : World} {S B S' B' : Nat → Prop} (hF : ∀ {v x}, FR w S v x → FR w' S' v x) (hB : ∀ rb, S rb ∨ B rb → (S' rb ∨ B' rb) ∧ w'.heap[rb]? = w.heap[rb]?) {c : V} {x : Value} (h : CR w S B c x) : CR w' S' B' c x := by
  rcases h with h | ⟨xs, rfl, sz, cap, a, vals, rfl, h1, h2, h3, h4⟩
  · exact .inl (hF h)
  · refine .inr ⟨xs, rfl, sz, cap, a, vals, rfl, h1, h2, fun hne => ?_, fun j c e => hF (h4 j c e)⟩
    obtain ⟨rb, o, e, h, hc⟩ := h3 hne
    exact ⟨rb, o, e, (hB _ h).1, fun j hj => by rw [cell_of_block (hB _ h).2]; exact hc j hj⟩
theorem CR.vr {w S B m c x} (h : CR w S B c x) : VR w S B m c x := by
  rcases h with h | ⟨xs, rfl, sz, cap, a, vals, rfl, h1, h2, h3, h4⟩
  · exact .fr h
  · exact .llist xs sz cap a vals h1 h2 h3 h4
theorem VR.cr {w S B m} {xs : List (List V)} {x : Value} (h : VR w S B m (.list xs true) x) : CR w S B (.list xs true) x := by
  cases h with
  | fr h => cases h
  | llist _ sz cap a vals h1 h2 h3 h4 => exact .inr ⟨xs, rfl, sz, cap, a, vals, rfl, h1, h2, h3, h4⟩

theorem VR.mono0 {w : World} {S : Nat → Prop} {m : Id → Option Im} {w' : World} {S' : Nat → Prop} {m' : Id → Option Im} {B : Nat → Prop} (hp : ∀ rb, S rb ∨ B rb → w'.heap[rb]? = w.heap[rb]?) (hsub : ∀ rb, S rb → S' rb)
    (hext : ∀ i im, m i = some im → ∃ im', m' i = some im' ∧ im.gen ≤ im'.gen ∧ (im'.gen = im.gen → im' = im)) {v : V} {x : Value}
    (h : VR w S B m v x) : VR w' S' B m' v x := by
  have hF : ∀ {v x}, FR w S v x → FR w' S' v x := fun h => h.mono (fun rb hb => hp rb (.inl hb)) hsub
  induction h with
  | fr h => exact .fr (hF h)
  | lfptr cs rb o vals h hc hv => exact .lfptr cs rb o vals (h.imp (hsub _) id) (fun j hj => by rw [cell_of_block (hp _ h)]; exact hc j hj) (fun j c e => (hv j c e).map hF (fun rb q => ⟨q.imp (hsub _) id, hp _ q⟩))
  | llist xs sz cap a vals hcap hz ha hv =>
    refine .llist xs sz cap a vals hcap hz (fun hne => ?_) (fun j c e => hF (hv j c e))
    obtain ⟨rb, o, e, h, hc⟩ := ha hne
    exact ⟨rb, o, e, h.imp (hsub _) id, fun j hj => by rw [cell_of_block (hp _ h)]; exact hc j hj⟩
  | ptr i o im hm =>
    obtain ⟨im', hm', hg, he⟩ := hext i im hm
    by_cases e : im'.gen = im.gen
    · have := he e; subst this; exact .ptr i o im' hm'
    · exact .ptrD i im.gen o im' _ hm' (by omega)
  | ptrD i g o im x hm hg =>
    obtain ⟨im', hm', hg', he⟩ := hext i im hm
    exact .ptrD i g o im' x hm' (by omega)
  | sl i o n sz lim im a cap hm ha h1 h2 h3 h4 h5 =>
    obtain ⟨im', hm', hg, he⟩ := hext i im hm
    by_cases e : im'.gen = im.gen
    · have := he e; subst this; exact .sl i o n sz lim im' a cap hm' ha h1 h2 h3 h4 h5
    · exact .slD i im.gen o n sz lim im' a cap hm' (by omega) h1 h5
  | slD i g o n sz lim im a cap hm hg h1 h5 =>
    obtain ⟨im', hm', hg', he⟩ := hext i im hm
    exact .slD i g o n sz lim im' a cap hm' (by omega) h1 h5
  | agg cs vs hl h ih => exact .agg cs vs hl ih
  | tup cs vs hl h ih => exact .tup cs vs hl ih
  | fn f cs vs hl h ih => exact .fn f cs vs hl ih
  | und x => exact .und x

theorem VR.mono {K w S m w' S' m'} {B : Nat → Prop} (st : Step K w S m w' S' m') (hB : ∀ rb, B rb → K rb) {v : V} {x : Value}
    (h : VR w S B m v x) : VR w' S' B m' v x := h.mono0 (fun rb q => st.pres rb (q.imp id (hB rb))) st.sub st.ext

/-- the world stays, more is known to stay -/
theorem VR.monoS {K w S m S'} {B : Nat → Prop} (st : Step K w S m w S' m) {v : V} {x : Value} (h : VR w S B m v x) : VR w S' B m v x := by
  have hF : ∀ {v x}, FR w S v x → FR w S' v x := fun h => h.mono (fun _ _ => rfl) st.sub
  induction h with
  | fr h => exact .fr (hF h)
  | lfptr cs rb o vals h hc hv => exact .lfptr cs rb o vals (h.imp (st.sub _) id) hc (fun j c e => (hv j c e).map hF (fun rb q => ⟨q.imp (st.sub _) id, rfl⟩))
  | llist xs sz cap a vals hcap hz ha hv =>
    exact .llist xs sz cap a vals hcap hz (fun hne => let ⟨rb, o, e, h, hc⟩ := ha hne; ⟨rb, o, e, h.imp (st.sub _) id, hc⟩) (fun j c e => hF (hv j c e))
  | ptr i o im hm => exact .ptr i o im hm
  | ptrD i g o im x hm hg => exact .ptrD i g o im x hm hg
  | sl i o n sz lim im a cap hm ha h1 h2 h3 h4 h5 => exact .sl i o n sz lim im a cap hm ha h1 h2 h3 h4 h5
  | slD i g o n sz lim im a cap hm hg h1 h5 => exact .slD i g o n sz lim im a cap hm hg h1 h5
  | agg cs vs hl h ih => exact .agg cs vs hl ih
  | tup cs vs hl h ih => exact .tup cs vs hl ih
  | fn f cs vs hl h ih => exact .fn f cs vs hl ih
  | und x => exact .und x

/-- what lies in the heap may be said under any lending -/
theorem VR.lend {w S m} {B : Nat → Prop} {v : V} {x : Value} (h : VR w S no m v x) : VR w S B m v x := by
  induction h with
  | fr h => exact .fr h
  | lfptr cs rb o vals h hc hv => exact .lfptr cs rb o vals (h.imp id (fun f => f.elim)) hc (fun j c e => (hv j c e).map id (fun rb q => ⟨q.imp id (fun f => f.elim), rfl⟩))
  | llist xs sz cap a vals hcap hz ha hv =>
    exact .llist xs sz cap a vals hcap hz (fun hne => let ⟨rb, o, e, h, hc⟩ := ha hne; ⟨rb, o, e, h.imp id (fun f => f.elim), hc⟩) hv
  | ptr i o im hm => exact .ptr i o im hm
  | ptrD i g o im x hm hg => exact .ptrD i g o im x hm hg
  | sl i o n sz lim im a cap hm ha h1 h2 h3 h4 h5 => exact .sl i o n sz lim im a cap hm ha h1 h2 h3 h4 h5
  | slD i g o n sz lim im a cap hm hg h1 h5 => exact .slD i g o n sz lim im a cap hm hg h1 h5
  | agg cs vs hl h ih => exact .agg cs vs hl ih
  | tup cs vs hl h ih => exact .tup cs vs hl ih
  | fn f cs vs hl h ih => exact .fn f cs vs hl ih
  | und x => exact .und x

theorem FR.one {w S v x} (h : FR w S v x) : x.oneCell' = true := by cases h <;> rfl
theorem FR.plain {w S v x} (h : FR w S v x) : v.plain = true := by cases h <;> rfl

/-- a kept cell: nothing of it is lent -/
theorem VR.kept0 {w S m} {B : Nat → Prop} {v : V} {x : Value} (h : VR w S B m v x) (hk : v.kept0 = true) : VR w S no m v x := by
  cases h with
  | fr h => exact .fr h
  | lfptr => simp [V.kept0] at hk
  | llist => simp [V.kept0] at hk
  | ptr i o im hm => exact .ptr i o im hm
  | ptrD i g o im x hm hg => exact .ptrD i g o im x hm hg
  | sl i o n sz lim im a cap hm ha h1 h2 h3 h4 h5 => exact .sl i o n sz lim im a cap hm ha h1 h2 h3 h4 h5
  | slD i g o n sz lim im a cap hm hg h1 h5 => exact .slD i g o n sz lim im a cap hm hg h1 h5
  | agg => simp [V.kept0] at hk
  | tup => simp [V.kept0] at hk
  | fn f cs vs hl h =>
    cases cs with
    | nil => exact .fn f [] vs hl (fun j c x e => by simp at e)
    | cons => simp [V.kept0] at hk
  | und x => exact .und x
theorem VR.kept {w S m} {B : Nat → Prop} {v : V} {x : Value} (h : VR w S B m v x) (hk : v.kept = true) : VR w S no m v x := by
  by_cases hf : ∃ f cs, v = .fn f cs
  · obtain ⟨f, cs, rfl⟩ := hf
    cases h with
    | fr h => cases h
    | fn _ _ vs hl h => exact .fn f cs vs hl (fun j c x e e2 => (h j c x e e2).kept0 (List.all_eq_true.1 hk c (List.mem_of_getElem? e)))
  · exact h.kept0 (by cases v <;> first | exact hk | exact (hf ⟨_, _, rfl⟩).elim)
theorem VR.plain {w S m} {B : Nat → Prop} {v : V} {x : Value} (h : VR w S B m v x) (hk : v.plain = true) : FR w S v x := by
  cases h <;> first | assumption | (simp [V.plain] at hk; done)
end Go.Proofs.Ytcamcfplcoklkaa.Iv
