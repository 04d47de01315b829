import Derived.Orders
import Derived.Below
import Derived.KernelRfl
import Derived.Laws.CopyRow
import Derived.Laws.Cells
import Derived.Laws.Rows
import Derived.Laws.Entries
import Derived.RangeFuncNested
import Derived.Laws.Append
import Derived.Laws.MakeOwn
import Derived.Lib.ConvBytes
import Derived.Laws.BytesString
import Derived.Laws.Strings
import Derived.Great.FillDense
import Derived.Laws.Strings2
/- THE IDEAL MACHINE: values without addresses, a small heap of named blocks, and an evaluator for the model's code. What it comes to is tied to the model's own machine in the texts behind this one. -/
namespace Go.Proofs.Ytieapebabncliaa.Iv
open Go

inductive Id where
  | own (t : Nat) | arg (j : Nat) | sub (t : Nat) (i : Id)
  deriving DecidableEq, Inhabited

inductive V where
  | int (k : IntKind) (n : Int)
  | bool (b : Bool)
  | str (s : List UInt8)
  | nilp | nils | emp | nilf
  | ptr (i : Id) (g o : Nat)
  | fptr (cs : List V) (lent : Bool)
  | sl (i : Id) (g o n sz : Nat) (lim : Option Nat)
  | list (xs : List (List V)) (lent : Bool)
  | agg (cs : List V)
  | tup (vs : List V)
  | fn (f : Nat) (cap : List V)
  | und
  deriving Inhabited

def V.cells : V → List V
  | .agg cs => cs
  | v => [v]

def sc : Value → V
  | .int k n => .int k n
  | .bool b => .bool b
  | .string s => .str s.data.toList
  | .pointer none => .nilp
  | .slice none 0 0 => .nils
  | .nilFunc => .nilf
  | _ => .und
def ofVal : Value → V
  | .agg cs => .agg (cs.toList.map sc)
  | v => sc v

/-- a cell without references and without what is lent -/
def V.plain : V → Bool
  | .int .. | .bool _ | .str _ | .nilp | .nils | .emp | .nilf => true
  | .list _ l => !l
  | .fptr _ l => !l
  | _ => false
/-- a cell that may lie in the heap: nothing lent -/
def V.kept0 : V → Bool
  | .list _ l => !l
  | .fptr _ l => !l
  | .agg _ | .tup _ | .und => false
  | .fn _ cs => cs.isEmpty
  | _ => true
def V.kept : V → Bool
  | .fn _ cs => cs.all V.kept0
  | v => v.kept0

def fits (flat : Bool) (c : V) : Bool :=
  match flat with
  | true => c.plain
  | false => c.kept

/-- a block of a place that makes many -/
def Id.multi : Id → Bool
  | .sub d _ => Nat.ble 1000000 d
  | _ => false
/-- a slice that is put into another one by reference -/
def V.isRef : V → Bool
  | .sl i _ _ _ _ _ => i.multi
  | _ => false
structure Blk where
  gen : Nat
  cells : List V
  frz : Bool
  flat : Bool
  deriving Inhabited

abbrev Heap := Id → Option Blk
def Heap.set (H : Heap) (i : Id) (b : Blk) : Heap := fun j => if j = i then some b else H j
def Heap.sets (H : Heap) : List (Id × Blk) → Heap
  | [] => H
  | (i, b) :: r => (H.set i b).sets r
def live (H : Heap) (i : Id) (g : Nat) : Option Blk :=
  match H i with
  | some b => if b.gen = g then some b else none
  | none => none
def nextGen (H : Heap) (i : Id) : Nat := match H i with | some b => b.gen + 1 | none => 0

structure Out where
  v : V
  ups : List (Id × Blk)
  rd : List Id
abbrev pureO (v : V) : Option Out := some ⟨v, [], []⟩

section
variable (P : Program)
def szOf (t : Nat) : Option Nat := (P.info? t).map (·.size)
def byOf (t : Nat) : Option Nat := (P.info? t).map (·.bytes)
def isAggD : TypeDesc → Bool
  | .struct _ | .array _ _ => true
  | _ => false
def agOf (t : Nat) : Option Bool := (P.underlying t).map isAggD
def arrInt (t : Nat) : Bool := match P.underlying t with
  | some (.array _ e) => (match P.underlying e with
    | some (.int _) => true
    | _ => false)
  | _ => false
def zOf (t : Nat) : Option (List V) := ((P.info? t).bind (·.zero)).map fun z => (ofVal z).cells
end

def mkv : Bool → List V → Option V
  | true, cs => some (.agg cs)
  | false, [c] => some c
  | false, _ => none
def cut (cs : List V) (o n : Nat) : Option (List V) :=
  let x := (cs.drop o).take n
  if x.length = n then some x else none
def splice (cs : List V) (o : Nat) (xs : List V) : List V := cs.take o ++ xs ++ cs.drop (o + xs.length)
def chunk (sz : Nat) : Nat → List V → List (List V)
  | 0, _ => []
  | n + 1, cs => cs.take sz :: chunk sz n (cs.drop sz)

def lim47 : Nat := 2 ^ 45

section
variable (P : Program)

def evLoad (H : Heap) (t : Nat) (a : V) : Option Out :=
  match szOf P t, agOf P t, a with
  | some sz, some ag, .ptr i g o =>
    match live H i g with
    | some b => match cut b.cells o sz with
      | some cs => match mkv ag cs with
        | some v => some ⟨v, [], [i]⟩
        | none => none
      | none => none
    | none => none
  | some sz, some ag, .fptr cs _ => match cut cs 0 sz with
    | some cs => match mkv ag cs with
      | some v => pureO v
      | none => none
    | none => none
  | _, _, _ => none

def evStore (H : Heap) (t : Nat) (a v : V) : Option Out :=
  match szOf P t, a with
  | some sz, .ptr i g o =>
    match live H i g with
    | some b =>
      if b.frz = false ∧ v.cells.length = sz ∧ o + sz ≤ b.cells.length ∧ v.cells.all (fits b.flat) = true then
        some ⟨.und, [(i, { b with cells := splice b.cells o v.cells })], [i]⟩
      else none
    | none => none
  | _, _ => none

def evNew (H : Heap) (d : Nat) (cells : List V) (flat : Bool) : Nat × List (Id × Blk) × List Id :=
  let g := nextGen H (.own d)
  (g, [(.own d, ⟨g, cells, false, flat⟩)], [.own d])

def evBox (H : Heap) (d : Nat) (cells : List V) : Option Out :=
  if cells.all V.kept = true then
    some ⟨.ptr (.own d) (nextGen H (.own d)) 0, [(.own d, ⟨nextGen H (.own d), cells, false, false⟩)], [.own d]⟩
  else none

/-- a variable that is an array of numbers: plain for good -/
def evBoxA (H : Heap) (d : Nat) (cells : List V) : Option Out :=
  if cells.all V.plain = true then
    some ⟨.ptr (.own d) (nextGen H (.own d)) 0, [(.own d, ⟨nextGen H (.own d), cells, false, true⟩)], [.own d]⟩
  else none
/-- a variable of its own; a list that is lent lies in one that stays as it is -/
def boxO (H : Heap) (d : Nat) : V → Option Out
  | .list xs true => pureO (.fptr [.list xs true] true)
  | v => evBox H d v.cells

/-- A value that is kept by whom it is handed to: a slice of the heap's is frozen for good. -/
def keep1 (H : Heap) : V → Option Out
  | .sl i g o n sz _ =>
    match live H i g with
    | some b => match cut b.cells o (n * sz) with
      | some cs => if b.flat = true ∧ 0 < sz then some ⟨.list (chunk sz n cs) false, [(i, { b with frz := true })], [i]⟩ else none
      | none => none
    | none => none
  | .list xs l => if l then none else pureO (.list xs false)
  | .nils => pureO (.list [] false)
  | .emp => pureO (.list [] false)
  | .fptr cs l => if l then none else pureO (.fptr cs false)
  | .und => none
  | .tup _ => none
  | .agg _ => none
  | .fn f cs => if cs.all V.kept = true then pureO (.fn f cs) else none
  | v => pureO v
def keepL (H : Heap) : List V → Option (List V × List (Id × Blk) × List Id)
  | [] => some ([], [], [])
  | v :: r => match keep1 H v with
    | some ⟨v, u, d⟩ => match keepL H r with
      | some (vs, us, ds) => some (v :: vs, u ++ us, d ++ ds)
      | none => none
    | none => none
def keepV (H : Heap) : V → Option Out
  | .agg cs => match keepL H cs with
    | some (cs, u, d) => some ⟨.agg cs, u, d⟩
    | none => none
  | v => keep1 H v

def fillV (sz : Nat) : List (Nat × List V) → List V → Option (List V)
  | [], cells => some cells
  | (i, cs) :: r, cells => if cs.length = sz ∧ i * sz + sz ≤ cells.length then fillV sz r (splice cells (i * sz) cs) else none

def keepParts (H : Heap) : List (Nat × V) → Option (List (Nat × List V) × List (Id × Blk) × List Id)
  | [] => some ([], [], [])
  | (i, v) :: r => match (if v.isRef = true then pureO v else keepV H v) with
    | some ⟨v, u, d⟩ => match keepParts H r with
      | some (vs, us, ds) => some ((i, v.cells) :: vs, u ++ us, d ++ ds)
      | none => none
    | none => none

def rep (n : Nat) (z : List V) : List V := (List.replicate n z).flatten

def evBuildSlice (H : Heap) (d : Nat) (t len : Nat) (parts : List (Nat × V)) : Option Out :=
  match P.underlying t with
  | some (.slice e) => match szOf P e, zOf P e with
    | some sz, some z =>
      if len * sz ≤ 16777216 ∧ 0 < sz ∧ z.length = sz then
        match keepParts H parts with
        | some (ps, u, rd) => match fillV sz ps (rep len z) with
          | some cells =>
            if cells.all V.kept = true then
            some ⟨.sl (.own d) (nextGen H (.own d)) 0 len sz (some len), u ++ [(.own d, ⟨nextGen H (.own d), cells, false, cells.all V.plain⟩)], .own d :: rd⟩ else none
          | none => none
        | none => none
      else none
    | _, _ => none
  | _ => none

def evMakeSlice (H : Heap) (d : Nat) (t : Nat) (l c : V) : Option Out :=
  match P.underlying t, l, c with
  | some (.slice e), .int _ l, .int _ c => match szOf P e, byOf P e, zOf P e with
    | some sz, some by_, some z =>
      if 0 ≤ l ∧ l ≤ c ∧ c < 4611686018427387904 ∧ by_ * c.toNat ≤ lim47 ∧ 0 < sz ∧ z.length = sz ∧ z.all V.plain = true then
        some ⟨.sl (.own d) (nextGen H (.own d)) 0 l.toNat sz none, [(.own d, ⟨nextGen H (.own d), rep l.toNat z, false, true⟩)], [.own d]⟩
      else none
    | _, _, _ => none
  | _, _, _ => none

/-- the cells of a slice or a string, how many elements, whether they are plain, what was read -/
def src (H : Heap) (sz : Nat) : V → Option (List V × Nat × Bool × List Id)
  | .sl i g o n s _ => match live H i g with
    | some b => match cut b.cells o (n * s) with
      | some cs => if s = sz then some (cs, n, b.flat, [i]) else none
      | none => none
    | none => none
  | .list xs _ => if xs.all (fun x => x.length == sz) then some (xs.flatten, xs.length, true, []) else none
  | .nils => some ([], 0, true, [])
  | .emp => some ([], 0, true, [])
  | .str s => if sz = 1 then some (s.map fun b => .int .u8 b.toNat, s.length, true, []) else none
  | _ => none

/-- what is appended -/
def appSrc (H : Heap) (sz : Nat) (z : List V) (xT : Nat) (x : V) : Option (List V × Nat × Bool × List Id) :=
  match P.underlying xT, x with
  | some (.int _), .int _ n => if 0 ≤ n ∧ n < 4294967296 ∧ z.length = sz ∧ z.all V.plain = true then some (rep n.toNat z, n.toNat, true, []) else none
  | some (.int _), _ => none
  | some _, x => src H sz x
  | none, _ => none
/-- there is no room -/
def overCap : Option Nat → Nat → Bool
  | some c, k => Nat.blt c k
  | none, _ => false
def evAppend (H : Heap) (d : Nat) (sT xT : Nat) (s x : V) : Option Out :=
  match P.underlying sT with
  | some (.slice e) => match szOf P e, byOf P e, zOf P e with
    | some sz, some by_, some z =>
      match appSrc P H sz z xT x with
      | some (cs, k, fl, rd) =>
        if 0 < sz ∧ 0 < by_ ∧ z.length = sz then
        match s with
        | .nils => if k = 0 then some ⟨.nils, [], rd⟩ else if k * by_ ≤ lim47 then
            some ⟨.sl (.own d) (nextGen H (.own d)) 0 k sz none, [(.own d, ⟨nextGen H (.own d), cs, false, fl⟩)], .own d :: rd⟩ else none
        | .emp => if k = 0 then some ⟨.emp, [], rd⟩ else if k * by_ ≤ lim47 then
            some ⟨.sl (.own d) (nextGen H (.own d)) 0 k sz none, [(.own d, ⟨nextGen H (.own d), cs, false, fl⟩)], .own d :: rd⟩ else none
        | .list xs l => if k = 0 then some ⟨.list xs l, [], rd⟩ else none
        | .sl i g o n s2 lim =>
          match live H i g with
          | some b =>
            if s2 = sz ∧ b.frz = false ∧ (b.flat = true → fl = true ∨ overCap lim (n + k) = true) ∧ (n + k) * by_ ≤ lim47 then
              match lim with
              | none =>
                if o + (n + k) * sz ≤ b.cells.length then
                  some ⟨.sl i g o (n + k) sz none, [(i, { b with cells := splice b.cells (o + n * sz) cs })], i :: rd⟩
                else match cut b.cells o (n * sz) with
                  | some old => some ⟨.sl i (g + 1) 0 (n + k) sz none, [(i, ⟨g + 1, old ++ cs, false, b.flat⟩)], i :: rd⟩
                  | none => none
              | some c =>
                if n + k ≤ c then
                  if o + (n + k) * sz ≤ b.cells.length then
                    some ⟨.sl i g o (n + k) sz (some c), [(i, { b with cells := splice b.cells (o + n * sz) cs })], i :: rd⟩
                  else none
                else match cut b.cells o (n * sz) with
                  | some old => some ⟨.sl (.own d) (nextGen H (.own d)) 0 (n + k) sz none, [(.own d, ⟨nextGen H (.own d), old ++ cs, false, b.flat && fl⟩)], i :: .own d :: rd⟩
                  | none => none
            else none
          | none => none
        | _ => none
        else none
      | none => none
    | _, _, _ => none
  | _ => none

def evCopy (H : Heap) (dT : Nat) (dst x : V) : Option Out :=
  match P.underlying dT with
  | some (.slice e) => match szOf P e with
    | some sz => match src H sz x with
      | some (cs, k, fl, rd) => match dst with
        | .nils => some ⟨.int .i64 0, [], rd⟩
        | .emp => some ⟨.int .i64 0, [], rd⟩
        | .list [] _ => some ⟨.int .i64 0, [], rd⟩
        | .sl i g o n s2 _ => match live H i g with
          | some b => if s2 = sz ∧ 0 < sz ∧ b.frz = false ∧ (b.flat = true → fl = true) ∧ cs.length = k * sz ∧ o + n * sz ≤ b.cells.length then
              some ⟨.int .i64 (min k n : Nat), [(i, { b with cells := splice b.cells o (cs.take (min k n * sz)) })], i :: rd⟩ else none
          | none => none
        | _ => none
      | none => none
    | none => none
  | _ => none

def evClear (H : Heap) (t : Nat) (x : V) : Option Out :=
  match P.underlying t with
  | some (.slice e) => match szOf P e, zOf P e with
    | some sz, some z => match x with
      | .nils => pureO (.tup [])
      | .emp => pureO (.tup [])
      | .list [] _ => pureO (.tup [])
      | .sl i g o n s2 _ => match live H i g with
        | some b => if s2 = sz ∧ 0 < sz ∧ b.frz = false ∧ z.length = sz ∧ z.all V.plain = true ∧ o + n * sz ≤ b.cells.length then
            some ⟨.tup [], [(i, { b with cells := splice b.cells o (rep n z) })], [i]⟩ else none
        | none => none
      | _ => none
    | _, _ => none
  | _ => none

def evLen (t : Nat) (x : V) : Option Out :=
  match P.underlying t, x with
  | some .string, .str s => pureO (.int .i64 s.length)
  | some (.slice _), .sl _ _ _ n _ _ => pureO (.int .i64 n)
  | some (.slice _), .list xs _ => pureO (.int .i64 xs.length)
  | some (.slice _), .nils => pureO (.int .i64 0)
  | some (.slice _), .emp => pureO (.int .i64 0)
  | some (.array n _), _ => pureO (.int .i64 n)
  | _, _ => none
def evCap (t : Nat) (x : V) : Option Out :=
  match P.underlying t, x with
  | some (.slice _), .nils => pureO (.int .i64 0)
  | some (.slice _), .emp => pureO (.int .i64 0)
  | some (.slice _), .sl _ _ _ _ _ (some c) => pureO (.int .i64 c)
  | _, _ => none

def max2 : V → V → Option V
  | .int k x, .int _ y => some (.int k (if y > x then y else x))
  | _, _ => none
def min2 : V → V → Option V
  | .int k x, .int _ y => some (.int k (if y < x then y else x))
  | _, _ => none
def foldO (f : V → V → Option V) : V → List V → Option V
  | x, [] => some x
  | x, y :: r => match f x y with
    | some z => foldO f z r
    | none => none

/-- a bound of a slice expression -/
def bnd (x : Option V) (dflt : Nat) : Option Nat :=
  match x with
  | none => some dflt
  | some (.int _ i) => if 0 ≤ i then some i.toNat else none
  | _ => none

def evSlice (H : Heap) (t : Nat) (x : V) (lo hi mx : Option V) : Option Out :=
  match P.underlying t with
  | some .string => match x, mx with
    | .str s, none => match bnd lo 0, bnd hi s.length with
      | some l, some h => if l ≤ h ∧ h ≤ s.length then pureO (.str ((s.take h).drop l)) else none
      | _, _ => none
    | _, _ => none
  | some (.slice e) => match szOf P e with
    | some sz =>
      if sz = 0 then none else
      match x with
      | .nils => match bnd lo 0, bnd hi 0, bnd mx 0 with
        | some 0, some 0, some 0 => if mx.isSome && hi.isNone then none else pureO .nils
        | _, _, _ => none
      | .emp => match bnd lo 0, bnd hi 0, bnd mx 0 with
        | some 0, some 0, some 0 => if mx.isSome && hi.isNone then none else pureO .emp
        | _, _, _ => none
      | .list xs lent => match mx with
        | none => match bnd lo 0, bnd hi xs.length with
          | some l, some h => if l ≤ h ∧ h ≤ xs.length ∧ xs.all (fun x => x.length == sz) = true then pureO (.list ((xs.take h).drop l) lent) else none
          | _, _ => none
        | some m => match bnd lo 0, bnd hi 0, bnd (some m) 0 with
          | some l, some h, some m => if hi.isSome = true ∧ l = h ∧ h = m ∧ m ≤ xs.length then pureO .emp else
              if hi.isSome = true ∧ l < h ∧ h ≤ m ∧ m ≤ xs.length ∧ xs.all (fun x => x.length == sz) = true then pureO (.list ((xs.take h).drop l) lent) else none
          | _, _, _ => none
      | .sl i g o n s2 lim => if s2 = sz then
          match mx with
          | none => match bnd lo 0, bnd hi n with
            | some l, some h =>
              if l ≤ h then
                if h ≤ n then pureO (.sl i g (o + l * sz) (h - l) sz (lim.map (· - l)))
                else match live H i g with
                  | some b => if o + h * sz ≤ b.cells.length ∧ (∀ c, lim = some c → h ≤ c) then some ⟨.sl i g (o + l * sz) (h - l) sz (lim.map (· - l)), [], [i]⟩ else none
                  | none => none
              else none
            | _, _ => none
          | some m => match bnd lo 0, bnd hi 0, bnd (some m) 0 with
            | some l, some h, some m => if hi.isSome = true ∧ l ≤ h ∧ h ≤ m ∧ m ≤ n then pureO (.sl i g (o + l * sz) (h - l) sz (some (m - l))) else none
            | _, _, _ => none
        else none
      | _ => none
    | none => none
  | some (.array n e) => match szOf P e with
    | some sz => if sz = 0 then none else match mx, bnd lo 0, bnd hi n with
      | none, some l, some h => if l ≤ h ∧ h ≤ n then
          match x with
          | .ptr i g o => match live H i g with
            | some b => if o + n * sz ≤ b.cells.length then some ⟨.sl i g (o + l * sz) (h - l) sz (some (n - l)), [], [i]⟩ else none
            | none => none
          | _ => none
        else none
      | _, _, _ => none
    | none => none
  | _ => none

def evIndexAddr (t : Nat) (x ix : V) : Option Out :=
  match ix with
  | .int _ i =>
    if 0 ≤ i then
    match P.underlying t with
    | some (.slice e) => match szOf P e with
      | some sz => match x with
        | .sl b g o n s2 _ => if s2 = sz ∧ i.toNat < n then pureO (.ptr b g (o + i.toNat * sz)) else none
        | .list xs l => match xs[i.toNat]? with
          | some cs => if cs.length = sz ∧ 0 < sz then pureO (.fptr cs l) else none
          | none => none
        | _ => none
      | none => none
    | some (.array n e) => match szOf P e with
      | some sz => if i.toNat < n then match x with
          | .ptr b g o => pureO (.ptr b g (o + i.toNat * sz))
          | .fptr cs l => if i.toNat * sz ≤ cs.length then pureO (.fptr (cs.drop (i.toNat * sz)) l) else none
          | _ => none
        else none
      | none => none
    | _ => none
    else none
  | _ => none

def evFieldAddr (t : Nat) (x : V) (f : Nat) : Option Out :=
  match P.underlying t with
  | some (.struct fs) => match fs[f]? with
    | some fd => match szOf P fd.type with
      | some (_ + 1) => match x with
        | .ptr b g o => pureO (.ptr b g (o + fd.offset))
        | .fptr cs l => if fd.offset ≤ cs.length then pureO (.fptr (cs.drop fd.offset) l) else none
        | _ => none
      | _ => none
    | none => none
  | _ => none

def evPart (t : Nat) (cs : List V) (o : Nat) : Option V :=
  match szOf P t, agOf P t with
  | some sz, some ag => match cut cs o sz with
    | some x => mkv ag x
    | none => none
  | _, _ => none

def evField (t : Nat) (x : V) (f : Nat) : Option V :=
  match P.underlying t, x with
  | some (.struct fs), .agg cs => match fs[f]? with
    | some fd => evPart P fd.type cs fd.offset
    | none => none
  | _, _ => none

def evIndex (t : Nat) (x ix : V) : Option V :=
  match ix with
  | .int _ i =>
    if 0 ≤ i then
    match P.underlying t, x with
    | some (.array n e), .agg cs => match szOf P e with
      | some sz => if i.toNat < n then evPart P e cs (i.toNat * sz) else none
      | none => none
    | some .string, .str s => match s[i.toNat]? with
      | some b => some (.int .u8 b.toNat)
      | none => none
    | _, _ => none
    else none
  | _ => none

def fillF (place : Nat → Option (Nat × Nat)) : List (Nat × V) → List V → Option (List V)
  | [], cells => some cells
  | (i, v) :: r, cells => match place i with
    | some (off, size) => if v.cells.length = size ∧ off + size ≤ cells.length then fillF place r (splice cells off v.cells) else none
    | none => none

def placesOf (fs : Array Field) : Option (List (Nat × Nat)) := fs.toList.mapM (fun f => (P.info? f.type).map fun i => (f.offset, i.size))
def okPart : V → Bool
  | .und => false
  | .tup _ => false
  | _ => true
def evBuild (t : Nat) (parts : List (Nat × V)) : Option V :=
  if parts.all (fun p => okPart p.2) = true then
  match P.underlying t, zOf P t with
  | some (.struct fs), some z => match placesOf P fs with
    | some places => match fillF (fun i => places[i]?) parts z with
      | some r => some (.agg r)
      | none => none
    | none => none
  | some (.array _ e), some z => match szOf P e with
    | some sz => match fillF (fun i => some (i * sz, sz)) parts z with
      | some r => some (.agg r)
      | none => none
    | none => none
  | _, _ => none
  else none

def evInt (op : BinOp) (k : IntKind) (a b : Int) : Option V :=
  match op with
  | .add => some (.int k (k.wrap (a + b)))
  | .sub => some (.int k (k.wrap (a - b)))
  | .mul => some (.int k (k.wrap (a * b)))
  | .quo => if b = 0 then none else some (.int k (k.wrap (a.tdiv b)))
  | .rem => if b = 0 then none else some (.int k (a.tmod b))
  | .and => some (.int k (k.wrap ((BitVec.ofInt k.bits a &&& BitVec.ofInt k.bits b).toNat : Int)))
  | .or => some (.int k (k.wrap ((BitVec.ofInt k.bits a ||| BitVec.ofInt k.bits b).toNat : Int)))
  | .xor => some (.int k (k.wrap ((BitVec.ofInt k.bits a ^^^ BitVec.ofInt k.bits b).toNat : Int)))
  | .andNot => some (.int k (k.wrap ((BitVec.ofInt k.bits a &&& ~~~(BitVec.ofInt k.bits b)).toNat : Int)))
  | .eql => some (.bool (a == b))
  | .neq => some (.bool (a != b))
  | .lss => some (.bool (decide (a < b)))
  | .leq => some (.bool (decide (a ≤ b)))
  | .gtr => some (.bool (decide (a > b)))
  | .geq => some (.bool (decide (a ≥ b)))
  | .shl | .shr => none
def evShift (op : BinOp) (k : IntKind) (a b : Int) : Option V :=
  if b < 0 then none else
  match op with
  | .shl => some (.int k (k.wrap (a * 2 ^ (min b.toNat k.bits))))
  | .shr => some (.int k (a.fdiv (2 ^ (min b.toNat k.bits))))
  | _ => none
def evStr (op : BinOp) (a b : List UInt8) : Option V :=
  match op with
  | .add => if ((a.length + b.length : Nat) : Int) ≤ 9223372036854775807 then some (.str (a ++ b)) else none
  | .eql => some (.bool (a == b))
  | .neq => some (.bool (!(a == b)))
  | .lss => some (.bool (Op.bytesLess a b))
  | .leq => some (.bool (Op.bytesLess a b || a == b))
  | .gtr => some (.bool (!(Op.bytesLess a b || a == b)))
  | .geq => some (.bool (!Op.bytesLess a b))
  | _ => none
/-- equality of values of one cell: none where it is not known -/
def eq1 : TypeDesc → V → V → Option Bool
  | .bool, .bool a, .bool b => some (a == b)
  | .pointer _, .nilp, .nilp => some true
  | .pointer _, .nilp, .ptr _ _ _ => some false
  | .pointer _, .ptr _ _ _, .nilp => some false
  | .pointer _, .nilp, .fptr _ _ => some false
  | .pointer _, .fptr _ _, .nilp => some false
  | .slice _, .nils, .nils => some true
  | .slice _, .nils, .sl .. => some false
  | .slice _, .sl .., .nils => some false
  | .slice _, .nils, .list (_ :: _) _ => some false
  | .slice _, .list (_ :: _) _, .nils => some false
  | .func .., .nilf, .nilf => some true
  | .func .., .nilf, .fn .. => some false
  | .func .., .fn .., .nilf => some false
  | _, _, _ => none
def evEq (t : Nat) (x y : V) : Option Bool :=
  match P.underlying t with
  | some d => eq1 d x y
  | none => none
def evBin (t : Nat) (op : BinOp) (x y : V) : Option V :=
  match x, y with
  | .int k a, .int k' b => match op with
    | .shl => evShift .shl k a b
    | .shr => evShift .shr k a b
    | op => if k = k' then evInt op k a b else none
  | .str a, .str b => evStr op a b
  | x, y => match op with
    | .eql => match evEq P t x y with
      | some b => some (.bool b)
      | none => none
    | .neq => match evEq P t x y with
      | some b => some (.bool !b)
      | none => none
    | _ => none
def evUn (op : UnOp) (x : V) : Option V :=
  match op, x with
  | .neg, .int k n => some (.int k (k.wrap (0 - n)))
  | .xor, .int k n => some (.int k (k.wrap ((BitVec.ofInt k.bits (if k.signed then -1 else k.max) ^^^ BitVec.ofInt k.bits n).toNat : Int)))
  | .not, .bool b => some (.bool !b)
  | _, _ => none
def toBytes : List V → Option (List UInt8)
  | [] => some []
  | .int .u8 n :: r => match toBytes r with
    | some l => some (UInt8.ofNat n.toNat :: l)
    | none => none
  | _ => none
def srcS (H : Heap) : V → Option (List V × Nat × Bool × List Id)
  | .str _ => none
  | x => src H 1 x
def evConvert (H : Heap) (s t : Nat) (x : V) : Option Out :=
  match P.underlying s, P.underlying t with
  | some (.slice e), some .string => match P.underlying e with
    | some (.int .u8) => match srcS H x with
      | some (cs, _, _, rd) => match toBytes cs with
        | some l => some ⟨.str l, [], rd⟩
        | none => none
      | none => none
    | _ => none
  | some _, some (.int k) => match x with
    | .int _ n => pureO (.int k (k.wrap n))
    | _ => none
  | some _, some .string => match x with
    | .str l => pureO (.str l)
    | _ => none
  | some _, some (.slice e) => match x with
    | .str l => match P.underlying e with
      | some (.int .u8) => match szOf P e, zOf P e with
        | some 1, some _ => pureO (.list (l.map fun b => [.int .u8 b.toNat]) false)
        | _, _ => none
      | _ => none
    | .sl i g o n sz _ => match P.underlying e with
      | some (.int .u8) => match live H i g with
        | some b => match cut b.cells o (n * sz) with
          | some cs => if s = t ∧ b.flat = true ∧ 0 < sz ∧ b.frz = false ∧ 0 < n then some ⟨.list (chunk sz n cs) false, [(i, { b with frz := true })], [i]⟩ else none
          | none => none
        | none => none
      | _ => none
    | _ => none
  | _, _ => none
end
end Go.Proofs.Ytieapebabncliaa.Iv

namespace Go.Proofs.Ytieapebabncliaa.Iv
open Go

inductive Mode where
  | keep | lent | byref | view | lentN
  deriving DecidableEq, Inhabited
/-- functions that hand the elements of a list on, one by one -/
inductive SeqK where
  | backward (ag : Bool) (sz : Nat)
  | gen (n : Nat)
  deriving DecidableEq, Inhabited
structure Pol where
  own : Bool
  modes : List Mode
  seq : Option SeqK := none
  /-- the places from which calls make many: the place, and the block that tells whether a name is taken -/
  multi : List (Nat × Id) := []
  /-- variables that a function that is answered has captured are frozen -/
  fz : Bool := false
  deriving Inhabited

mutual
def refs : V → List (Id × Nat)
  | .ptr i g _ => [(i, g)]
  | .sl i g _ _ _ _ => [(i, g)]
  | .agg cs => refsL cs
  | .tup cs => refsL cs
  | .fn _ cs => refsL cs
  | _ => []
def refsL : List V → List (Id × Nat)
  | [] => []
  | v :: r => refs v ++ refsL r
end
mutual
def ren (f : Id → Nat → Option (Id × Nat)) : V → V
  | .ptr i g o => match f i g with | some (i, g) => .ptr i g o | none => .und
  | .sl i g o n sz lim => match f i g with | some (i, g) => .sl i g o n sz lim | none => .und
  | .agg cs => .agg (renL f cs)
  | .tup cs => .tup (renL f cs)
  | .fn k cs => .fn k (renL f cs)
  | v => v
def renL (f : Id → Nat → Option (Id × Nat)) : List V → List V
  | [] => []
  | v :: r => ren f v :: renL f r
end

/-- The blocks that can be reached, each once, in the order in which they are met. -/
def collect (H : Heap) : Nat → List (Id × Nat) → List Id → Option (List Id)
  | _, [], acc => some acc
  | 0, _ :: _, _ => none
  | n + 1, (i, g) :: todo, acc =>
    if i ∈ acc then collect H n todo acc else
    match live H i g with
    | some b => collect H n ((if b.flat then [] else refsL b.cells) ++ todo) (acc ++ [i])
    | none => none

def pos (i : Id) : List Id → Nat → Option Nat
  | [], _ => none
  | x :: r, n => if x = i then some n else pos i r (n + 1)

def lent1 (H : Heap) : V → Option Out
  | .sl i g o n sz _ =>
    match live H i g with
    | some b => match cut b.cells o (n * sz) with
      | some cs => if b.flat = true ∧ 0 < sz then some ⟨.list (chunk sz n cs) true, [], [i]⟩ else none
      | none => none
    | none => none
  | .list xs _ => pureO (.list xs true)
  | .nils => pureO (.list [] true)
  | .emp => pureO (.list [] true)
  | v => keepV H v
/-- a cell as it is seen in a block that is lent -/
def viewC (H : Heap) : V → Option (V × List Id)
  | .sl i g o n sz _ => match live H i g with
    | some b => match cut b.cells o (n * sz) with
      | some cs => if b.flat = true ∧ 0 < sz then some (.list (chunk sz n cs) true, [i]) else none
      | none => none
    | none => none
  | c => if c.plain = true then some (c, []) else some (.und, [])
def viewL (H : Heap) : List V → Option (List V × List Id)
  | [] => some ([], [])
  | c :: r => match viewC H c with
    | some (c, d) => match viewL H r with
      | some (cs, ds) => some (c :: cs, d ++ ds)
      | none => none
    | none => none
/-- a pointer that is lent: the block is read, not written, not kept -/
def view1 (H : Heap) : V → Option Out
  | .ptr i g o => match live H i g with
    | some b => match viewL H (b.cells.drop o) with
      | some (cs, d) => some ⟨.fptr cs true, [], i :: d⟩
      | none => none
    | none => none
  | .fptr cs _ => pureO (.fptr cs true)
  | .nilp => pureO .nilp
  | _ => none
def argIn (H : Heap) : Mode → V → Option Out
  | .keep, v => keepV H v
  | .lent, v => lent1 H v
  | .byref, v => pureO v
  | .lentN, v => match v with
    | .nils => pureO .nils
    | .emp => pureO .emp
    | v => lent1 H v
  | .view, v => view1 H v
/-- the arguments as they are handed on, the blocks that are frozen, what was read, what is lent -/
def argsIn (H : Heap) : List Mode → List V → Option (List V × List (Id × Blk) × List Id)
  | _, [] => some ([], [], [])
  | ms, v :: r => match argIn H (ms.headD .keep) v with
    | some ⟨v, u, d⟩ => match argsIn H ms.tail r with
      | some (vs, us, ds) => some (v :: vs, u ++ us, d ++ ds)
      | none => none
    | none => none

def intoRen (H : Heap) (acc : List Id) (i : Id) (g : Nat) : Option (Id × Nat) :=
  match pos i acc 0 with
  | some j => match live H i g with
    | some _ => some (.arg j, 0)
    | none => none
  | none => none
def enterH (H : Heap) (acc : List Id) : Heap :=
  match acc with
  | [] => fun _ => none
  | acc => fun
    | .arg j => match acc[j]? with
      | some i => match H i with
        | some b => some { gen := 0, cells := if b.flat then b.cells else renL (intoRen H acc) b.cells, frz := b.frz, flat := b.flat }
        | none => none
      | none => none
    | _ => none
/-- the name of a block that the callee has made: another one, where a block that was handed over has it -/
def newName (d : Nat) (acc : List Id) (i : Id) : Id := if acc.contains (.sub d i) = true then .sub d (.sub 999999 i) else .sub d i
def Id.alt : Id → Bool
  | .sub t _ => t == 999999
  | _ => false
def backName (H : Heap) (d : Nat) (acc : List Id) : Id → Option (Id × Nat)
  | .arg j => match acc[j]? with
    | some i => match H i with
      | some b => some (i, b.gen)
      | none => none
    | none => none
  | i => some (newName d acc i, nextGen H (newName d acc i))
def backRen (H : Heap) (d : Nat) (acc acc' : List Id) (i : Id) (g : Nat) : Option (Id × Nat) :=
  if i ∈ acc' then
    match backName H d acc i with
    | some (i', b) => some (i', b + g)
    | none => none
  else none
def keepTup (H : Heap) : List V → Option (List V × List (Id × Blk) × List Id)
  | [] => some ([], [], [])
  | v :: r => match keepV H v with
    | some ⟨v, u, d⟩ => match keepTup H r with
      | some (vs, us, ds) => some (v :: vs, u ++ us, d ++ ds)
      | none => none
    | none => none
def V.keptR : V → Bool
  | .agg cs => cs.all V.kept
  | v => v.kept
def outKept : V → Bool
  | .tup vs => vs.all V.keptR
  | v => v.keptR
def argIds : Nat → Heap → List (Id × Nat) → List (Id × Nat)
  | 0, _, l => l
  | n + 1, H, l => argIds n H (match H (.arg n) with | some b => (.arg n, b.gen) :: l | none => l)
/-- the blocks that go back to the caller -/
def backUps (H H' : Heap) (d : Nat) (acc acc' : List Id) : List Id → Option (List (Id × Blk))
  | [] => some []
  | i :: r => match H' i, backName H d acc i, backUps H H' d acc acc' r with
    | some b, some (i', g), some us =>
      if (b.flat || b.cells.all V.kept) = true then
        some ((i', { gen := g + b.gen, cells := if b.flat then b.cells else renL (backRen H d acc acc') b.cells, frz := b.frz, flat := b.flat }) :: us)
      else none
    | _, _, _ => none
def freshSubs (d : Nat) (acc : List Id) : List Id → Bool
  | [] => true
  | .arg _ :: r => freshSubs d acc r
  | i :: r => !(acc.contains (newName d acc i)) && !i.alt && freshSubs d acc r

/-- what is answered: a slice of the heap's is frozen, but where it is to stay the caller's own -/
def retIn (own : Bool) (H : Heap) (r : V) : Option (V × List (Id × Blk)) :=
  match own with
  | true => some (r, [])
  | false => match r with
    | .tup vs => match keepTup H vs with
      | some (vs, us, _) => some (.tup vs, us)
      | none => none
    | r => match keepV H r with
      | some ⟨r, us, _⟩ => some (r, us)
      | none => none

/-- a variable that was captured, frozen -/
def fz1 (H : Heap) : V → Option (V × List (Id × Blk))
  | .ptr i g o => match live H i g with
    | some b => if (b.cells.drop o).all V.plain = true then some (.fptr (b.cells.drop o) false, [(i, { b with frz := true })]) else none
    | none => none
  | v => if v.plain = true then some (v, []) else none
def fzL (H : Heap) : List V → Option (List V × List (Id × Blk))
  | [] => some ([], [])
  | v :: r => match fz1 H v with
    | some (v, u) => match fzL H r with
      | some (vs, us) => some (v :: vs, u ++ us)
      | none => none
    | none => none
def fzFn (H : Heap) : V → Option (V × List (Id × Blk))
  | .fn f cs => match fzL H cs with
    | some (cs, us) => some (.fn f cs, us)
    | none => none
  | _ => none
def retZ (p : Pol) (H : Heap) (r : V) : Option (V × List (Id × Blk)) := if p.fz = true then fzFn H r else retIn p.own H r
def renIf (acc : List Id) (f : Id → Nat → Option (Id × Nat)) (as : List V) : List V :=
  match acc with
  | [] => as
  | _ => renL f as
def renIfV (acc : List Id) (f : Id → Nat → Option (Id × Nat)) (r : V) : V :=
  match acc with
  | [] => r
  | _ => ren f r
/-- a name that is not taken -/
def pickD (H : Heap) (d : Nat) (i0 : Id) : Nat → Nat → Option (Nat × List Id)
  | 0, _ => none
  | n + 1, c => match H (.sub (d + 1000000 * (c + 1)) i0) with
    | none => some (d + 1000000 * (c + 1), [.sub (d + 1000000 * (c + 1)) i0])
    | some _ => match pickD H d i0 n (c + 1) with
      | some (d', r) => some (d', .sub (d + 1000000 * (c + 1)) i0 :: r)
      | none => none
/-- by which name a call's blocks go -/
def siteD (H : Heap) (d : Nat) : List (Nat × Id) → Option (Nat × List Id)
  | [] => some (d, [])
  | (x, i0) :: r => if x = d then pickD H d i0 64 0 else siteD H d r
def evCall (call : Nat → List V → Heap → Option (V × Heap)) (pol : Nat → Pol) (H : Heap) (d f : Nat) (args : List V) : Option Out :=
  match argsIn H (pol f).modes args with
  | some (as, fz, rd) =>
    let H1 := H.sets fz
    match collect H1 200 (refsL as) [] with
    | some acc =>
      if acc.any (fun i => rd.contains i && !(fz.any fun x => x.1 == i)) = true then none else
      match call f (renIf acc (intoRen H1 acc) as) (enterH H1 acc) with
      | some (r, H') =>
        match retZ (pol f) H' r with
        | some (r, us) =>
          match collect (H'.sets us) 200 (argIds acc.length (H'.sets us) (refs r)) [] with
          | some acc' => match siteD H d (pol f).multi with
            | some (d, rs) => match backUps H1 (H'.sets us) d acc acc' acc' with
              | some ups => if (outKept r || rd.isEmpty) && freshSubs d acc acc' then
                  some ⟨renIfV acc' (backRen H1 d acc acc') r, fz ++ ups, rs ++ (rd ++ acc ++ acc'.map (newName d acc))⟩
                else none
              | none => none
            | none => none
          | none => none
        | none => none
      | none => none
    | none => none
  | none => none

section
variable (P : Program) (call : Nat → List V → Heap → Option (V × Heap)) (pol : Nat → Pol)

def liftO : Option V → Option Out
  | some v => pureO v
  | none => none

def evBuiltin (H : Heap) (d : Nat) (b : Builtin) (ts : List Nat) (args : List V) : Option Out :=
  match b, ts, args with
  | .append, s :: x :: _, [a, b] => evAppend P H d s x a b
  | .len, s :: _, [x] => evLen P s x
  | .cap, s :: _, [x] => evCap P s x
  | .copy, s :: _, [a, b] => evCopy P H s a b
  | .clear, s :: _, [a] => evClear P H s a
  | .max, _, x :: r => liftO (foldO max2 x r)
  | .min, _, x :: r => liftO (foldO min2 x r)
  | _, _, _ => none

def evOp (H : Heap) (ρ : Operand → V) (d : Nat) : Op → Option Out
  | .move x | .assign x => pureO (ρ x)
  | .pick c a b => match ρ c with
    | .bool t => pureO (if t then ρ a else ρ b)
    | _ => none
  | .alloc e => match zOf P e with
    | some z => if arrInt P e = true then evBoxA H d z else evBox H d z
    | none => none
  | .box t x => if arrInt P t = true then evBoxA H d (ρ x).cells else boxO H d (ρ x)
  | .build t parts => liftO (evBuild P t (parts.toList.map fun p => (p.1, ρ p.2)))
  | .buildSlice t len parts => evBuildSlice P H d t len (parts.toList.map fun p => (p.1, ρ p.2))
  | .load t a => evLoad P H t (ρ a)
  | .store t a x => evStore P H t (ρ a) (ρ x)
  | .nilCheck x => match ρ x with
    | .ptr i g o => pureO (.ptr i g o)
    | .fptr cs l => pureO (.fptr cs l)
    | .fn f c => pureO (.fn f c)
    | _ => none
  | .binOp op t x y _ => liftO (evBin P t op (ρ x) (ρ y))
  | .unOp op _ x => liftO (evUn op (ρ x))
  | .convert s t x => evConvert P H s t (ρ x)
  | .makeFunc (.func f) first cap => if f < 1048576 then (if first.isEmpty then pureO (.fn f (cap.toList.map ρ)) else if cap.isEmpty then pureO (.fn (f + 1048576) (first.toList.map ρ)) else none) else none
  | .makeSlice t l c => evMakeSlice P H d t (ρ l) (ρ c)
  | .slice t x lo hi mx => evSlice P H t (ρ x) (lo.map ρ) (hi.map ρ) (mx.map ρ)
  | .fieldAddr t x f => evFieldAddr P t (ρ x) f
  | .field t x f => liftO (evField P t (ρ x) f)
  | .indexAddr t x i => evIndexAddr P t (ρ x) (ρ i)
  | .index t x i => liftO (evIndex P t (ρ x) (ρ i))
  | .extract t i => match ρ t with
    | .tup vs => liftO vs[i]?
    | _ => none
  | .call { callee := .builtin b, args, argTypes } => evBuiltin P H d b argTypes.toList (args.toList.map ρ)
  | .call { callee := .value f, args, .. } => match ρ f with
    | .fn f cap => if f < 1048576 then evCall call pol H d f (args.toList.map ρ ++ cap) else if args.toList = [] then evCall call pol H d (f % 1048576) cap else none
    | _ => none
  | _ => none

def evOperand (env : List V) : Operand → V
  | .tmp t => env.getD t .und
  | .const v => ofVal v
  | .func f => if f < 1048576 then .fn f [] else .und
  | .global _ => .und

def wantV (ops : Array Oper) (env : List V) : Option (Nat × Bool) → Option Bool
  | none => some true
  | some (j, b) => match (ops[j]?).bind (·.dst) with
    | some t => match env.getD t .und with
      | .bool c => some (c == b)
      | .tup [] => some false
      | _ => none
    | none => none
def setV (env : List V) : Option Nat → V → Option (List V)
  | none, _ => some env
  | some d, v => if d < env.length then some (env.set d v) else none

/-- one operation: what it comes to -/
def evOper (ops : Array Oper) (k : Nat) (o : Oper) (env : List V) (H : Heap) : Option Out :=
  match wantV ops env o.guard with
  | some true => evOp P call pol H (evOperand env) (o.dst.getD (1000 + k)) o.op
  | some false => pureO (.tup [])
  | none => none

abbrev Log := List (Nat × List Id × List Id)
def evOps (ops : Array Oper) : List Oper → Nat → List V → Heap → Log → Option (List V × Heap × Log)
  | [], _, env, H, lg => some (env, H, lg)
  | o :: r, k, env, H, lg =>
    match evOper P call pol ops k o env H with
    | some ⟨v, us, rd⟩ => match setV env o.dst v with
      | some env => evOps ops r (k + 1) env (H.sets us) ((k, rd, us.map (·.1)) :: lg)
      | none => none
    | none => none

def meets (a b : List Id) : Bool := a.any fun i => b.contains i
def pairOk (ops : Array Oper) (x y : Nat × List Id × List Id) : Bool :=
  -- x comes before y in the text
  (!(meets x.2.2 y.2.1 || meets x.2.2 y.2.2 || meets y.2.2 x.2.1)) || ((Region.before ops).getD y.1 0).testBit x.1
def logOk (ops : Array Oper) : Log → Bool
  | [] => true
  | y :: r => r.all (fun x => pairOk ops x y) && logOk ops r

inductive Ex where
  | nrm | exit (id : Nat) | ret
  deriving DecidableEq, Inhabited

abbrev Res := Option (Ex × List V × Heap)
/-- a piece of code without ranges over functions in it -/
def flatC : Code → Bool
  | .seq a b => flatC a && flatC b
  | .cond _ a b => flatC a && flatC b
  | .block _ c => flatC c
  | .scope c => flatC c
  | .loop c => flatC c
  | .rangeFunc .. => false
  | _ => true
/-- what comes, element by element -/
def backItems (ag : Bool) (sz : Nat) (xs : List (List V)) : Nat → Option (List (List V))
  | 0 => some []
  | n + 1 => match xs[n]? with
    | some cs => if cs.length = sz then match mkv ag cs, backItems ag sz xs n with
      | some v, some r => some ([.int .i64 n, v] :: r)
      | _, _ => none else none
    | none => none
def seqItems : SeqK → List V → Option (List (List V))
  | .backward ag sz, [.fptr [.list xs _] _] => if xs.length < 4611686018427387904 then backItems ag sz xs xs.length else none
  | _, _ => none
/-- an operation that leaves everything as it is -/
def stillOp : Op → Bool
  | .move _ | .assign _ | .load .. | .binOp .. | .unOp .. | .indexAddr .. | .slice .. => true
  | .call { callee := .builtin .len, args, argTypes } => args.size == 1 && argTypes.size == 1
  | .call { callee := .builtin .min, args, .. } => args.size == 2
  | _ => false
def stillOper (ys : List Nat) (o : Oper) : Bool := stillOp o.op && (match o.dst with | some d => !ys.contains d | none => false)
def noCall : Nat → List V → Heap → Option (V × Heap) := fun _ _ _ => none
def noPol : Nat → Pol := fun _ => ⟨false, [], none, [], false⟩
/-- a region at whose end an element is handed on: the function's place, where it is moved to, the operations between, the arguments, the answer's places -/
def yieldOf (ops : List Oper) : Option (Nat × List Oper × List Operand × Nat × Nat) :=
  match ops with
  | { dst := some f, op := .move (.tmp 0), guard := none, .. } :: r => match r.reverse with
    | { dst := some t, op := .unOp .not _ (.tmp d'), guard := none, .. } :: { dst := some d, op := .call { callee := .value (.tmp f'), args, .. }, guard := none, .. } :: q =>
      if f' = f && d' = d && f != 0 && d != 0 && t != 0 then some (f, q.reverse, args.toList, d, t) else none
    | _ => none
  | _ => none
def isYield : Code → Code → Option (List Oper × Nat × List Oper × List Operand × Nat × Nat)
  | .region _ ops false, .cond (.tmp t') .ret .skip => match yieldOf ops.toList with
    | some (f, pre, args, d, t) => if t' = t then some (ops.toList, f, pre, args, d, t) else none
    | none => none
  | _, _ => none
/-- what a function hands on, one by one -/
def evG (P : Program) : Nat → Code → List V → Option (Ex × List V × List (List V))
  | 0, _, _ => none
  | _ + 1, .skip, env => some (.nrm, env, [])
  | _ + 1, .ret, env => some (.ret, env, [])
  | _ + 1, .exit i, env => some (.exit i, env, [])
  | n + 1, .seq a b, env => match isYield a b with
    | some (ops, f, pre, args, d, t) =>
      if pre.all (stillOper [0, f]) = true ∧ f < env.length ∧ d < env.length ∧ t < env.length then
        match evOps P noCall noPol ops.toArray pre 1 (env.set f (env.getD 0 .und)) (fun _ => none) [] with
        | some (env, _, _) => some (.nrm, (env.set d (.bool true)).set t (.bool false), [args.map (evOperand env)])
        | none => none
      else none
    | none => match evG P n a env with
      | some (.nrm, env, its) => match evG P n b env with
        | some (ex, env, its') => some (ex, env, its ++ its')
        | none => none
      | r => r
  | n + 1, .cond c a b, env => match evOperand env c with
    | .bool true => evG P n a env
    | .bool false => evG P n b env
    | _ => none
  | n + 1, .block id c, env => match evG P n c env with
    | some (.exit j, env, its) => if j = id then some (.nrm, env, its) else some (.exit j, env, its)
    | r => r
  | n + 1, .loop c, env => match evG P n c env with
    | some (.nrm, env, its) => match evG P n (.loop c) env with
      | some (ex, env, its') => some (ex, env, its ++ its')
      | none => none
    | r => r
  | _ + 1, .region _ ops draw, env => if ops.toList.all (stillOper [0]) = true then
      match evOps P noCall noPol ops ops.toList 0 env (fun _ => none) [] with
      | some (env, _, lg) => if draw && !logOk ops lg then none else some (.nrm, env, [])
      | none => none
    else none
  | _ + 1, _, _ => none
def isFptr : V → Bool
  | .fptr _ _ => true
  | _ => false
def genItems (P : Program) (n k : Nat) (cap : List V) : Option (List (List V)) :=
  if cap.all isFptr = true then
  match P.funcs[k]? with
  | some fn => match fn.body with
    | some c => if fn.results.isEmpty && !(fn.name == "runtime.NumGoroutine") && Nat.ble (cap.length + 1) fn.ntmps then
        match evG P n c (.und :: cap ++ List.replicate (fn.ntmps - (cap.length + 1)) .und) with
        | some (.exit _, _, _) => none
        | some (_, _, its) => some its
        | none => none
      else none
    | none => none
  | none => none
  else none
def seqOf (P : Program) (pol : Nat → Pol) (k : Nat) (cap : List V) : Option (List (List V)) :=
  if k < 1048576 then
  match (pol k).seq with
  | some (.gen n) => genItems P n k cap
  | some s => seqItems s cap
  | none => none
  else none
def putAll : List Nat → List V → List V → Option (List V)
  | [], [], env => some env
  | p :: ps, x :: xs, env => putAll ps xs (env.set p x)
  | _, _, _ => none
/-- one round: the assignment, the body -/
def twoC (ps : List Nat) (env : List V) (as body : List V → Heap → Res) (x : List V) (H : Heap) : Res :=
  match putAll ps x env with
  | some e => match as e H with
    | some (.nrm, e, H) => body e H
    | _ => none
  | none => none
/-- the rounds of a range over a function -/
def evItems (env : List V) (round : List V → Heap → Res) : List (List V) → Heap → Res
  | [], H => some (.nrm, env, H)
  | x :: r, H => match round x H with
    | some (.nrm, _, H) => evItems env round r H
    | some (ex, _, H) => some (ex, env, H)
    | none => none
/-- the code; 'again' goes on with a loop -/
def evC (again : Code → List V → Heap → Res) : Code → List V → Heap → Res
  | .skip, env, H => some (.nrm, env, H)
  | .label _, env, H => some (.nrm, env, H)
  | .ret, env, H => some (.ret, env, H)
  | .exit id, env, H => some (.exit id, env, H)
  | .seq a b, env, H => match evC again a env H with
    | some (.nrm, env, H) => evC again b env H
    | r => r
  | .cond c a b, env, H => match evOperand env c with
    | .bool true => evC again a env H
    | .bool false => evC again b env H
    | _ => none
  | .block id c, env, H => match evC again c env H with
    | some (.exit j, env, H) => if j = id then some (.nrm, env, H) else some (.exit j, env, H)
    | r => r
  | .scope c, env, H => evC again c env H
  | .loop c, env, H => match evC again c env H with
    | some (.nrm, env, H) => again (.loop c) env H
    | r => r
  | .region _ ops draw, env, H =>
    match evOps P call pol ops ops.toList 0 env H [] with
    | some (env, H, lg) => if draw && !logOk ops lg then none else some (.nrm, env, H)
    | none => none
  | .rangeFunc g ps assign body, env, H => match evOperand env g with
    | .fn k cap => match seqOf P pol k cap with
      | some items => if flatC assign && flatC body then
          evItems env (twoC ps.toList env (evC again assign) (evC again body)) items H
        else none
      | none => none
    | _ => none
  | _, _, _ => none

def evResult (H : Heap) (env : List V) : ResultVar → Option V
  | .tmp t => some (env.getD t .und)
  | .cell a t => (evLoad P H t (env.getD a .und)).map (·.v)
def evResults (H : Heap) (env : List V) : List ResultVar → Option (List V)
  | [] => some []
  | r :: rs => match evResult P H env r, evResults H env rs with
    | some v, some vs => some (v :: vs)
    | _, _ => none
end

structure Cfg where
  P : Program
  pol : Nat → Pol
  good : List Nat
  /-- functions whose laws come from outside -/
  ext : Nat → Option (List V → Heap → Option (V × Heap)) := fun _ => none

def Cfg.extern (K : Cfg) (f : Nat) (args : List V) (H : Heap) : Option (V × Heap) :=
  match K.ext f with
  | some g => g args H
  | none => none
def evBody (K : Cfg) (call : Nat → List V → Heap → Option (V × Heap)) (again : Code → List V → Heap → Res) (f : Nat) (args : List V) (H : Heap) : Option (V × Heap) :=
  if K.good.contains f then
  match K.P.funcs[f]? with
  | some fn => match fn.body with
    | some c => if args.length ≤ fn.ntmps then
        match evC K.P call K.pol again c (args ++ List.replicate (fn.ntmps - args.length) .und) H with
        | some (.exit _, _, _) => none
        | some (_, env, H) => match evResults K.P H env fn.results.toList with
          | some [v] => some (v, H)
          | some vs => some (.tup vs, H)
          | none => none
        | none => none
      else none
    | none => none
  | none => none
  else none

def evFun (K : Cfg) (call : Nat → List V → Heap → Option (V × Heap)) (again : Code → List V → Heap → Res) (f : Nat) (args : List V) (H : Heap) : Option (V × Heap) :=
  if (K.ext f).isSome then K.extern f args H else evBody K call again f args H

mutual
def run (K : Cfg) : Nat → Nat → List V → Heap → Option (V × Heap)
  | 0, _, _, _ => none
  | n + 1, f, args, H => evFun K (run K n) (again K n) f args H
def again (K : Cfg) : Nat → Code → List V → Heap → Res
  | 0, _, _, _ => none
  | n + 1, c, env, H => evC K.P (run K n) K.pol (again K n) c env H
end
end Go.Proofs.Ytieapebabncliaa.Iv

namespace Go.Proofs.Ytieapebabncliaa.Iv
open Go

structure Im where
  gen : Nat
  rb : Nat
  dl : Nat
  n : Nat
  tot : Nat

/-- A cell without references reads as it says: what it reads in memory lies in blocks of S, which stay as they are. -/
inductive FR (w : World) (S : Nat → Prop) : V → Value → Prop
  | int (k : IntKind) (n : Int) : FR w S (.int k n) (.int k n)
  | bool (b : Bool) : FR w S (.bool b) (.bool b)
  | str (s : List UInt8) : FR w S (.str s) (.string ⟨s.toArray⟩)
  | nilp : FR w S .nilp (.pointer none)
  | nils : FR w S .nils (.slice none 0 0)
  | emp (a : Option Addr) : FR w S .emp (.slice a 0 0)
  | nilf : FR w S .nilf .nilFunc
  | fptr (cs : List V) (rb o : Nat) (vals : Nat → Value) (hs : S rb)
      (hc : ∀ j, j < cs.length → w.cell? ⟨rb, o + j, none⟩ = some (vals j)) (hv : ∀ (j : Nat) (c : V), cs[j]? = some c → FR w S c (vals j)) :
      FR w S (.fptr cs false) (.pointer (some ⟨rb, o, none⟩))
  | list (xs : List (List V)) (sz cap : Nat) (a : Option Addr) (vals : Nat → Value) (hcap : xs.length ≤ cap) (hz : ∀ x ∈ xs, x.length = sz)
      (ha : xs ≠ [] → ∃ rb o, a = some ⟨rb, o, none⟩ ∧ S rb ∧ ∀ j, j < xs.flatten.length → w.cell? ⟨rb, o + j, none⟩ = some (vals j))
      (hv : ∀ (j : Nat) (c : V), xs.flatten[j]? = some c → FR w S c (vals j)) :
      FR w S (.list xs false) (.slice a xs.length cap)

/-- A list that is lent. -/
def LL (w : World) (S B : Nat → Prop) (xs : List (List V)) (x : Value) : Prop :=
  ∃ (sz cap : Nat) (a : Option Addr) (vals : Nat → Value), x = .slice a xs.length cap ∧ xs.length ≤ cap ∧ (∀ x ∈ xs, x.length = sz) ∧
    (xs ≠ [] → ∃ rb o, a = some ⟨rb, o, none⟩ ∧ (S rb ∨ B rb) ∧ ∀ j, j < xs.flatten.length → w.cell? ⟨rb, o + j, none⟩ = some (vals j)) ∧
    ∀ (j : Nat) (c : V), xs.flatten[j]? = some c → FR w S c (vals j)
/-- A cell of a block that is lent. -/
def CR (w : World) (S B : Nat → Prop) (c : V) (x : Value) : Prop := FR w S c x ∨ (∃ xs, c = .list xs true ∧ LL w S B xs x) ∨ c = .und

/-- A value reads as it says. -/
inductive VR (w : World) (S B : Nat → Prop) (m : Id → Option Im) : V → Value → Prop
  | fr {v : V} {x : Value} (h : FR w S v x) : VR w S B m v x
  | lfptr (cs : List V) (rb o : Nat) (vals : Nat → Value) (hs : S rb ∨ B rb)
      (hc : ∀ j, j < cs.length → w.cell? ⟨rb, o + j, none⟩ = some (vals j)) (hv : ∀ (j : Nat) (c : V), cs[j]? = some c → CR w S B c (vals j)) :
      VR w S B m (.fptr cs true) (.pointer (some ⟨rb, o, none⟩))
  | llist (xs : List (List V)) (sz cap : Nat) (a : Option Addr) (vals : Nat → Value) (hcap : xs.length ≤ cap) (hz : ∀ x ∈ xs, x.length = sz)
      (ha : xs ≠ [] → ∃ rb o, a = some ⟨rb, o, none⟩ ∧ (S rb ∨ B rb) ∧ ∀ j, j < xs.flatten.length → w.cell? ⟨rb, o + j, none⟩ = some (vals j))
      (hv : ∀ (j : Nat) (c : V), xs.flatten[j]? = some c → FR w S c (vals j)) :
      VR w S B m (.list xs true) (.slice a xs.length cap)
  | ptr (i : Id) (o : Nat) (im : Im) (hm : m i = some im) : VR w S B m (.ptr i im.gen o) (.pointer (some ⟨im.rb, im.dl + o, none⟩))
  | ptrD (i : Id) (g o : Nat) (im : Im) (a : Addr) (hm : m i = some im) (hg : g < im.gen) : VR w S B m (.ptr i g o) (.pointer (some a))
  | sl (i : Id) (o n sz : Nat) (lim : Option Nat) (im : Im) (a : Addr) (cap : Nat) (hm : m i = some im) (ha : 0 < cap → a = ⟨im.rb, im.dl + o, none⟩)
      (h1 : n ≤ cap) (h2 : o + n * sz ≤ im.n) (h3 : im.dl + o + cap * sz ≤ im.tot) (h4 : lim = none → im.n ≤ o + cap * sz) (h5 : ∀ c, lim = some c → cap = c) :
      VR w S B m (.sl i im.gen o n sz lim) (.slice (some a) n cap)
  | slD (i : Id) (g o n sz : Nat) (lim : Option Nat) (im : Im) (a : Addr) (cap : Nat) (hm : m i = some im) (hg : g < im.gen) (h1 : n ≤ cap) (h5 : ∀ c, lim = some c → cap = c) : VR w S B m (.sl i g o n sz lim) (.slice (some a) n cap)
  | agg (cs : List V) (vs : Array Value) (hl : vs.size = cs.length) (h : ∀ (j : Nat) (c : V) (x : Value), cs[j]? = some c → vs[j]? = some x → VR w S B m c x) : VR w S B m (.agg cs) (.agg vs)
  | tup (cs : List V) (vs : Array Value) (hl : vs.size = cs.length) (h : ∀ (j : Nat) (c : V) (x : Value), cs[j]? = some c → vs[j]? = some x → VR w S B m c x) : VR w S B m (.tup cs) (.tuple vs)
  | fn (f : Nat) (cs : List V) (vs : Array Value) (hl : vs.size = cs.length) (h : ∀ (j : Nat) (c : V) (x : Value), cs[j]? = some c → vs[j]? = some x → VR w S B m c x) : VR w S B m (.fn f cs) (.func (.func (f % 1048576)) (if f < 1048576 then #[] else vs) (if f < 1048576 then vs else #[]))
  | und (x : Value) : VR w S B m .und x

def no : Nat → Prop := fun _ => False

structure BlkOK (w : World) (S : Nat → Prop) (m : Id → Option Im) (b : Blk) (im : Im) : Prop where
  gen : im.gen = b.gen
  n : im.n = b.cells.length
  row : ∃ arr ty fz, w.heap[im.rb]? = some (.cells arr ty fz) ∧ arr.size = im.tot ∧ (b.frz = false → fz = (0, 0))
  fit : im.dl + im.n ≤ im.tot
  cel : ∀ (j : Nat) (c : V), b.cells[j]? = some c → ∃ x, w.cell? ⟨im.rb, im.dl + j, none⟩ = some x ∧ x.oneCell' = true ∧ VR w S no m c x ∧ (b.flat = true → FR w S c x)
  frz : b.frz = true → S im.rb
  thaw : b.frz = false → ¬ S im.rb

structure SR (w : World) (S K : Nat → Prop) (m : Id → Option Im) (H : Heap) : Prop where
  sub : ∀ rb, S rb → rb < w.heap.size
  kin : ∀ rb, K rb → rb < w.heap.size
  blk : ∀ i b, H i = some b → ∃ im, m i = some im ∧ BlkOK w S m b im
  non : ∀ i, H i = none → m i = none
  inj : ∀ i j bi im jm, H i = some bi → bi.frz = false → m i = some im → m j = some jm → i ≠ j → im.rb ≠ jm.rb
  own : ∀ i b im, H i = some b → b.frz = false → m i = some im → ¬ K im.rb
  scel : ∀ rb, S rb → ∃ o : Obj, w.heap[rb]? = some o ∧ o.isCells = true

structure Step (K : Nat → Prop) (w : World) (S : Nat → Prop) (m : Id → Option Im) (w' : World) (S' : Nat → Prop) (m' : Id → Option Im) : Prop where
  os : w'.os = w.os
  tape : w'.tape = w.tape
  output : w'.output = w.output
  size : w.heap.size ≤ w'.heap.size
  sub : ∀ rb, S rb → S' rb
  fresh : ∀ rb, S' rb → S rb ∨ ¬ K rb
  pres : ∀ rb, (S rb ∨ K rb) → w'.heap[rb]? = w.heap[rb]?
  ext : ∀ i im, m i = some im → ∃ im', m' i = some im' ∧ im.gen ≤ im'.gen ∧ (im'.gen = im.gen → im' = im)
  /-- what is no cells stays -/
  oth : KeepsOthers w w'

theorem Step.refl (K : Nat → Prop) (w : World) (S : Nat → Prop) (m : Id → Option Im) : Step K w S m w S m :=
  ⟨rfl, rfl, rfl, Nat.le_refl _, fun _ h => h, fun _ h => .inl h, fun _ _ => rfl, fun _ im h => ⟨im, h, Nat.le_refl _, fun _ => rfl⟩, KeepsOthers.refl _⟩
theorem Step.trans {K : Nat → Prop} {w S m w1 S1 m1 w2 S2 m2} (h : Step K w S m w1 S1 m1) (k : Step K w1 S1 m1 w2 S2 m2) : Step K w S m w2 S2 m2 := by
  refine ⟨k.os.trans h.os, k.tape.trans h.tape, k.output.trans h.output, Nat.le_trans h.size k.size, fun rb x => k.sub _ (h.sub _ x), fun rb x => (k.fresh rb x).elim (h.fresh rb) .inr, fun rb x => ?_, fun i im x => ?_, h.oth.trans k.oth⟩
  · rw [k.pres rb (x.imp (h.sub _) id), h.pres rb x]
  · obtain ⟨a, ha, hg, he⟩ := h.ext i im x
    obtain ⟨b, hb, hg', he'⟩ := k.ext i a ha
    refine ⟨b, hb, Nat.le_trans hg hg', fun e => ?_⟩
    have : a.gen = im.gen := by omega
    rw [he' (by omega), he this]
theorem Step.drew (K : Nat → Prop) (w : World) (S : Nat → Prop) (m : Id → Option Im) : Step K w S m w.drew S m :=
  ⟨rfl, rfl, rfl, Nat.le_refl _, fun _ h => h, fun _ h => .inl h, fun _ _ => rfl, fun _ im h => ⟨im, h, Nat.le_refl _, fun _ => rfl⟩, KeepsOthers.drew _⟩

theorem cell_of_block {w w' : World} {rb o : Nat} (h : w'.heap[rb]? = w.heap[rb]?) : w'.cell? ⟨rb, o, none⟩ = w.cell? ⟨rb, o, none⟩ := by
  unfold World.cell?
  simp only [h]

theorem FR.mono {w w' : World} {S S' : Nat → Prop} (hp : ∀ rb, S rb → w'.heap[rb]? = w.heap[rb]?) (hs : ∀ rb, S rb → S' rb) {v : V} {x : Value}
    (h : FR w S v x) : FR w' S' v x := by
  induction h with
  | int k n => exact .int k n
  | bool b => exact .bool b
  | str s => exact .str s
  | nilp => exact .nilp
  | nils => exact .nils
  | emp a => exact .emp a
  | nilf => exact .nilf
  | fptr cs rb o vals h hc hv ih => exact .fptr cs rb o vals (hs _ h) (fun j hj => by rw [cell_of_block (hp _ h)]; exact hc j hj) ih
  | list xs sz cap a vals hcap hz ha hv ih =>
    refine .list xs sz cap a vals hcap hz (fun hne => ?_) ih
    obtain ⟨rb, o, e, h, hc⟩ := ha hne
    exact ⟨rb, o, e, hs _ h, fun j hj => by rw [cell_of_block (hp _ h)]; exact hc j hj⟩

theorem CR.map {w w' : World} {S B S' B' : Nat → Prop} (hF : ∀ {v x}, FR w S v x → FR w' S' v x) (hB : ∀ rb, S rb ∨ B rb → (S' rb ∨ B' rb) ∧ w'.heap[rb]? = w.heap[rb]?) {c : V} {x : Value} (h : CR w S B c x) : CR w' S' B' c x := by
  rcases h with h | ⟨xs, rfl, sz, cap, a, vals, rfl, h1, h2, h3, h4⟩ | rfl
  · exact .inl (hF h)
  · refine .inr (.inl ⟨xs, rfl, sz, cap, a, vals, rfl, h1, h2, fun hne => ?_, fun j c e => hF (h4 j c e)⟩)
    obtain ⟨rb, o, e, h, hc⟩ := h3 hne
    exact ⟨rb, o, e, (hB _ h).1, fun j hj => by rw [cell_of_block (hB _ h).2]; exact hc j hj⟩
  · exact .inr (.inr rfl)
theorem CR.vr {w S B m c x} (h : CR w S B c x) : VR w S B m c x := by
  rcases h with h | ⟨xs, rfl, sz, cap, a, vals, rfl, h1, h2, h3, h4⟩ | rfl
  · exact .fr h
  · exact .llist xs sz cap a vals h1 h2 h3 h4
  · exact .und _
theorem VR.cr {w S B m} {xs : List (List V)} {x : Value} (h : VR w S B m (.list xs true) x) : CR w S B (.list xs true) x := by
  cases h with
  | fr h => cases h
  | llist _ sz cap a vals h1 h2 h3 h4 => exact .inr (.inl ⟨xs, rfl, sz, cap, a, vals, rfl, h1, h2, h3, h4⟩)

theorem VR.mono0 {w : World} {S : Nat → Prop} {m : Id → Option Im} {w' : World} {S' : Nat → Prop} {m' : Id → Option Im} {B : Nat → Prop} (hp : ∀ rb, S rb ∨ B rb → w'.heap[rb]? = w.heap[rb]?) (hsub : ∀ rb, S rb → S' rb)
    (hext : ∀ i im, m i = some im → ∃ im', m' i = some im' ∧ im.gen ≤ im'.gen ∧ (im'.gen = im.gen → im' = im)) {v : V} {x : Value}
    (h : VR w S B m v x) : VR w' S' B m' v x := by
  have hF : ∀ {v x}, FR w S v x → FR w' S' v x := fun h => h.mono (fun rb hb => hp rb (.inl hb)) hsub
  induction h with
  | fr h => exact .fr (hF h)
  | lfptr cs rb o vals h hc hv => exact .lfptr cs rb o vals (h.imp (hsub _) id) (fun j hj => by rw [cell_of_block (hp _ h)]; exact hc j hj) (fun j c e => (hv j c e).map hF (fun rb q => ⟨q.imp (hsub _) id, hp _ q⟩))
  | llist xs sz cap a vals hcap hz ha hv =>
    refine .llist xs sz cap a vals hcap hz (fun hne => ?_) (fun j c e => hF (hv j c e))
    obtain ⟨rb, o, e, h, hc⟩ := ha hne
    exact ⟨rb, o, e, h.imp (hsub _) id, fun j hj => by rw [cell_of_block (hp _ h)]; exact hc j hj⟩
  | ptr i o im hm =>
    obtain ⟨im', hm', hg, he⟩ := hext i im hm
    by_cases e : im'.gen = im.gen
    · have := he e; subst this; exact .ptr i o im' hm'
    · exact .ptrD i im.gen o im' _ hm' (by omega)
  | ptrD i g o im x hm hg =>
    obtain ⟨im', hm', hg', he⟩ := hext i im hm
    exact .ptrD i g o im' x hm' (by omega)
  | sl i o n sz lim im a cap hm ha h1 h2 h3 h4 h5 =>
    obtain ⟨im', hm', hg, he⟩ := hext i im hm
    by_cases e : im'.gen = im.gen
    · have := he e; subst this; exact .sl i o n sz lim im' a cap hm' ha h1 h2 h3 h4 h5
    · exact .slD i im.gen o n sz lim im' a cap hm' (by omega) h1 h5
  | slD i g o n sz lim im a cap hm hg h1 h5 =>
    obtain ⟨im', hm', hg', he⟩ := hext i im hm
    exact .slD i g o n sz lim im' a cap hm' (by omega) h1 h5
  | agg cs vs hl h ih => exact .agg cs vs hl ih
  | tup cs vs hl h ih => exact .tup cs vs hl ih
  | fn f cs vs hl h ih => exact .fn f cs vs hl ih
  | und x => exact .und x

theorem VR.mono {K w S m w' S' m'} {B : Nat → Prop} (st : Step K w S m w' S' m') (hB : ∀ rb, B rb → K rb) {v : V} {x : Value}
    (h : VR w S B m v x) : VR w' S' B m' v x := h.mono0 (fun rb q => st.pres rb (q.imp id (hB rb))) st.sub st.ext

/-- the world stays, more is known to stay -/
theorem VR.monoS {K w S m S'} {B : Nat → Prop} (st : Step K w S m w S' m) {v : V} {x : Value} (h : VR w S B m v x) : VR w S' B m v x := by
  have hF : ∀ {v x}, FR w S v x → FR w S' v x := fun h => h.mono (fun _ _ => rfl) st.sub
  induction h with
  | fr h => exact .fr (hF h)
  | lfptr cs rb o vals h hc hv => exact .lfptr cs rb o vals (h.imp (st.sub _) id) hc (fun j c e => (hv j c e).map hF (fun rb q => ⟨q.imp (st.sub _) id, rfl⟩))
  | llist xs sz cap a vals hcap hz ha hv =>
    exact .llist xs sz cap a vals hcap hz (fun hne => let ⟨rb, o, e, h, hc⟩ := ha hne; ⟨rb, o, e, h.imp (st.sub _) id, hc⟩) (fun j c e => hF (hv j c e))
  | ptr i o im hm => exact .ptr i o im hm
  | ptrD i g o im x hm hg => exact .ptrD i g o im x hm hg
  | sl i o n sz lim im a cap hm ha h1 h2 h3 h4 h5 => exact .sl i o n sz lim im a cap hm ha h1 h2 h3 h4 h5
  | slD i g o n sz lim im a cap hm hg h1 h5 => exact .slD i g o n sz lim im a cap hm hg h1 h5
  | agg cs vs hl h ih => exact .agg cs vs hl ih
  | tup cs vs hl h ih => exact .tup cs vs hl ih
  | fn f cs vs hl h ih => exact .fn f cs vs hl ih
  | und x => exact .und x

/-- what lies in the heap may be said under any lending -/
theorem VR.lend {w S m} {B : Nat → Prop} {v : V} {x : Value} (h : VR w S no m v x) : VR w S B m v x := by
  induction h with
  | fr h => exact .fr h
  | lfptr cs rb o vals h hc hv => exact .lfptr cs rb o vals (h.imp id (fun f => f.elim)) hc (fun j c e => (hv j c e).map id (fun rb q => ⟨q.imp id (fun f => f.elim), rfl⟩))
  | llist xs sz cap a vals hcap hz ha hv =>
    exact .llist xs sz cap a vals hcap hz (fun hne => let ⟨rb, o, e, h, hc⟩ := ha hne; ⟨rb, o, e, h.imp id (fun f => f.elim), hc⟩) hv
  | ptr i o im hm => exact .ptr i o im hm
  | ptrD i g o im x hm hg => exact .ptrD i g o im x hm hg
  | sl i o n sz lim im a cap hm ha h1 h2 h3 h4 h5 => exact .sl i o n sz lim im a cap hm ha h1 h2 h3 h4 h5
  | slD i g o n sz lim im a cap hm hg h1 h5 => exact .slD i g o n sz lim im a cap hm hg h1 h5
  | agg cs vs hl h ih => exact .agg cs vs hl ih
  | tup cs vs hl h ih => exact .tup cs vs hl ih
  | fn f cs vs hl h ih => exact .fn f cs vs hl ih
  | und x => exact .und x

theorem FR.one {w S v x} (h : FR w S v x) : x.oneCell' = true := by cases h <;> rfl
theorem FR.plain {w S v x} (h : FR w S v x) : v.plain = true := by cases h <;> rfl

/-- a kept cell: nothing of it is lent -/
theorem VR.kept0 {w S m} {B : Nat → Prop} {v : V} {x : Value} (h : VR w S B m v x) (hk : v.kept0 = true) : VR w S no m v x := by
  cases h with
  | fr h => exact .fr h
  | lfptr => simp [V.kept0] at hk
  | llist => simp [V.kept0] at hk
  | ptr i o im hm => exact .ptr i o im hm
  | ptrD i g o im x hm hg => exact .ptrD i g o im x hm hg
  | sl i o n sz lim im a cap hm ha h1 h2 h3 h4 h5 => exact .sl i o n sz lim im a cap hm ha h1 h2 h3 h4 h5
  | slD i g o n sz lim im a cap hm hg h1 h5 => exact .slD i g o n sz lim im a cap hm hg h1 h5
  | agg => simp [V.kept0] at hk
  | tup => simp [V.kept0] at hk
  | fn f cs vs hl h =>
    cases cs with
    | nil => exact .fn f [] vs hl (fun j c x e => by simp at e)
    | cons => simp [V.kept0] at hk
  | und x => exact .und x
theorem VR.kept {w S m} {B : Nat → Prop} {v : V} {x : Value} (h : VR w S B m v x) (hk : v.kept = true) : VR w S no m v x := by
  by_cases hf : ∃ f cs, v = .fn f cs
  · obtain ⟨f, cs, rfl⟩ := hf
    cases h with
    | fr h => cases h
    | fn _ _ vs hl h => exact .fn f cs vs hl (fun j c x e e2 => (h j c x e e2).kept0 (List.all_eq_true.1 hk c (List.mem_of_getElem? e)))
  · exact h.kept0 (by cases v <;> first | exact hk | exact (hf ⟨_, _, rfl⟩).elim)
theorem VR.plain {w S m} {B : Nat → Prop} {v : V} {x : Value} (h : VR w S B m v x) (hk : v.plain = true) : FR w S v x := by
  cases h <;> first | assumption | (simp [V.plain] at hk; done)
end Go.Proofs.Ytieapebabncliaa.Iv

namespace Go.Proofs.Ytieapebabncliaa.Iv
open Go

abbrev Map := Id → Option Im
def Map.put (m : Map) (i : Id) (im : Im) : Map := fun j => if j = i then some im else m j
theorem Map.put_same (m : Map) (i : Id) (im : Im) : m.put i im i = some im := by simp [Map.put]
theorem Map.put_ne (m : Map) {i j : Id} (im : Im) (h : j ≠ i) : m.put i im j = m j := by simp [Map.put, h]
theorem Heap.set_same (H : Heap) (i : Id) (b : Blk) : H.set i b i = some b := by simp [Heap.set]
theorem Heap.set_ne (H : Heap) {i j : Id} (b : Blk) (h : j ≠ i) : H.set i b j = H j := by simp [Heap.set, h]

theorem BlkOK.mono0 {w : World} {S : Nat → Prop} {m : Id → Option Im} {w' : World} {S' : Nat → Prop} {m' : Id → Option Im} {b im} (h : BlkOK w S m b im) (hp : ∀ rb, S rb → w'.heap[rb]? = w.heap[rb]?) (hsub : ∀ rb, S rb → S' rb)
    (hext : ∀ i im, m i = some im → ∃ im', m' i = some im' ∧ im.gen ≤ im'.gen ∧ (im'.gen = im.gen → im' = im)) (hh : w'.heap[im.rb]? = w.heap[im.rb]?)
    (ht : b.frz = false → ¬ S' im.rb) : BlkOK w' S' m' b im := by
  obtain ⟨arr, ty, fz, hr, hs⟩ := h.row
  refine ⟨h.gen, h.n, ⟨arr, ty, fz, by rw [hh]; exact hr, hs⟩, h.fit, fun j c hj => ?_, fun hf => hsub _ (h.frz hf), ht⟩
  obtain ⟨x, h1, h2, h3, h4⟩ := h.cel j c hj
  exact ⟨x, by rw [cell_of_block hh]; exact h1, h2, h3.mono0 (fun rb q => hp rb (q.resolve_right (fun f => f.elim))) hsub hext, fun hf => (h4 hf).mono hp hsub⟩

theorem BlkOK.mono {K w S m w' S' m' b im} (h : BlkOK w S m b im) (st : Step K w S m w' S' m') (hh : w'.heap[im.rb]? = w.heap[im.rb]?)
    (ht : b.frz = false → ¬ S' im.rb) : BlkOK w' S' m' b im := h.mono0 (fun rb q => st.pres rb (.inl q)) st.sub st.ext hh ht

theorem BlkOK.lt {w S m b im} (h : BlkOK w S m b im) : im.rb < w.heap.size := by
  obtain ⟨arr, ty, fz, hr, hs⟩ := h.row
  rcases Nat.lt_or_ge im.rb w.heap.size with h' | h'
  · exact h'
  · simp [Array.getElem?_eq_none h'] at hr

theorem BlkOK.row0 {w S m b im} (h : BlkOK w S m b im) (hf : b.frz = false) : ∃ arr ty, w.heap[im.rb]? = some (.cells arr ty (0, 0)) ∧ arr.size = im.tot := by
  obtain ⟨arr, ty, fz, hr, hs, hz⟩ := h.row
  rw [hz hf] at hr
  exact ⟨arr, ty, hr, hs⟩
theorem SR.get {w S K m H i b} (h : SR w S K m H) (hi : H i = some b) : ∃ im, m i = some im ∧ BlkOK w S m b im := h.blk i b hi
theorem SR.of_map {w S K m H i im} (h : SR w S K m H) (hm : m i = some im) : ∃ b, H i = some b ∧ BlkOK w S m b im := by
  cases hb : H i with
  | none => rw [h.non i hb] at hm; cases hm
  | some b => obtain ⟨im', hm', ok⟩ := h.blk i b hb; rw [hm] at hm'; cases hm'; exact ⟨b, rfl, ok⟩

theorem nextGen_lt {w S K m H i im} (h : SR w S K m H) (hm : m i = some im) : im.gen < nextGen H i := by
  obtain ⟨b, hb, ok⟩ := h.of_map hm
  simp [nextGen, hb, ok.gen]

theorem alloc_row (w : World) (o : Obj) : (w.alloc o).heap[w.heap.size]? = some o := heap_alloc_new w o
theorem alloc_old (w : World) (o : Obj) {k : Nat} (h : k < w.heap.size) : (w.alloc o).heap[k]? = w.heap[k]? := Go.RowKit.Below.heap_alloc w o k h

theorem SR.alloc {w S K m H} (h : SR w S K m H) (i : Id) (cells : List V) (flat : Bool) (arr : Array Value) (ty : TypeId) (hl : cells.length ≤ arr.size)
    (hc : ∀ (j : Nat) (c : V), cells[j]? = some c → ∃ x, arr[j]? = some x ∧ x.oneCell' = true ∧ VR w S no m c x ∧ (flat = true → FR w S c x)) :
    Step K w S m (w.alloc (.cells arr ty)) S (Map.put m i ⟨nextGen H i, w.heap.size, 0, cells.length, arr.size⟩) ∧
    SR (w.alloc (.cells arr ty)) S K (Map.put m i ⟨nextGen H i, w.heap.size, 0, cells.length, arr.size⟩) (H.set i ⟨nextGen H i, cells, false, flat⟩) := by
  have st : Step K w S m (w.alloc (.cells arr ty)) S (Map.put m i ⟨nextGen H i, w.heap.size, 0, cells.length, arr.size⟩) := by
    refine ⟨rfl, rfl, rfl, by simp, fun _ x => x, fun _ x => .inl x, fun rb hb => alloc_old _ _ (hb.elim (h.sub rb) (h.kin rb)), fun j im hm => ?_, KeepsOthers.alloc _ _⟩
    by_cases e : j = i
    · subst e
      refine ⟨_, Map.put_same .., ?_, fun e => ?_⟩
      · exact Nat.le_of_lt (nextGen_lt h hm)
      · have := nextGen_lt h hm; simp only at e; omega
    · exact ⟨im, by rw [Map.put_ne _ _ e]; exact hm, Nat.le_refl _, fun _ => rfl⟩
  refine ⟨st, ⟨fun rb hb => Nat.lt_of_lt_of_le (h.sub rb hb) st.size, fun rb hb => Nat.lt_of_lt_of_le (h.kin rb hb) st.size, fun j b hj => ?_, fun j hj => ?_, fun j k bj jm km hj hf hjm hkm hne => ?_, fun j b im hj hf hm => ?_, fun rb hb => by rw [st.pres rb (.inl hb)]; exact h.scel rb hb⟩⟩
  · by_cases e : j = i
    · subst e
      rw [Heap.set_same] at hj; cases hj
      refine ⟨_, Map.put_same .., ⟨rfl, rfl, ⟨arr, ty, (0, 0), alloc_row _ _, rfl, fun _ => rfl⟩, by simpa using hl, fun q c hq => ?_, (fun hf => by cases hf), fun _ hs => ?_⟩⟩
      · obtain ⟨x, h1, h2, h3, h4⟩ := hc q c hq
        refine ⟨x, ?_, h2, h3.mono st (fun _ f => f.elim), fun hf => (h4 hf).mono (fun rb hb => st.pres rb (.inl hb)) st.sub⟩
        rw [cell_of_row _ _ _ _ _ _ (alloc_row _ _)]
        simpa using h1
      · exact absurd (h.sub _ hs) (by simp)
    · rw [Heap.set_ne _ _ e] at hj
      obtain ⟨im, hm, ok⟩ := h.blk j b hj
      exact ⟨im, by rw [Map.put_ne _ _ e]; exact hm, ok.mono st (alloc_old _ _ ok.lt) ok.thaw⟩
  · by_cases e : j = i
    · subst e; rw [Heap.set_same] at hj; cases hj
    · rw [Heap.set_ne _ _ e] at hj; rw [Map.put_ne _ _ e]; exact h.non j hj
  · by_cases e : j = i
    · subst e
      rw [Map.put_same] at hjm; cases hjm
      rw [Map.put_ne _ _ (Ne.symm hne)] at hkm
      obtain ⟨b, _, ok⟩ := h.of_map hkm
      have := ok.lt
      simp only; omega
    · rw [Heap.set_ne _ _ e] at hj
      rw [Map.put_ne _ _ e] at hjm
      by_cases e' : k = i
      · subst e'
        rw [Map.put_same] at hkm; cases hkm
        obtain ⟨b, _, ok⟩ := h.of_map hjm
        have := ok.lt
        simp only; omega
      · rw [Map.put_ne _ _ e'] at hkm
        exact h.inj j k bj jm km hj hf hjm hkm hne
  · by_cases e : j = i
    · subst e
      rw [Map.put_same] at hm; cases hm
      exact fun hk => absurd (h.kin _ hk) (by simp)
    · rw [Heap.set_ne _ _ e] at hj
      rw [Map.put_ne _ _ e] at hm
      exact h.own j b im hj hf hm

theorem setRow_row {w : World} {g : Nat} {arr cs : Array Value} {ty : TypeId} (h : w.heap[g]? = some (.cells arr ty (0, 0))) :
    (w.setRow g cs).heap[g]? = some (.cells cs ty (0, 0)) := by
  simp [World.setRow, Array.getElem?_modify, h]
theorem setRow_other {w : World} {g k : Nat} {cs : Array Value} (h : k ≠ g) : (w.setRow g cs).heap[k]? = w.heap[k]? := by
  simp [World.setRow, Array.getElem?_modify, Ne.symm h]

theorem keeps_setRow {w : World} {g : Nat} {arr arr' : Array Value} {ty : TypeId} {fr : Nat × Nat} (h : w.heap[g]? = some (.cells arr ty fr)) : KeepsOthers w (w.setRow g arr') :=
  ⟨by simp, fun k o hk ho => by
    by_cases e : k = g
    · subst e; rw [h] at hk; cases hk; cases ho
    · rw [setRow_other e]; exact hk⟩

theorem SR.write {w S K m H i b im} (h : SR w S K m H) (hi : H i = some b) (hfr : b.frz = false) (hm : m i = some im)
    {arr : Array Value} {ty : TypeId} (hrow : w.heap[im.rb]? = some (.cells arr ty (0, 0))) (arr' : Array Value) (hsz : arr'.size = im.tot)
    (im' : Im) (hrb : im'.rb = im.rb) (htot : im'.tot = im.tot) (hge : im.gen ≤ im'.gen) (heq : im'.gen = im.gen → im' = im)
    (cells : List V) (flat : Bool) (hn : im'.n = cells.length) (hfit : im'.dl + im'.n ≤ im'.tot)
    (hc : ∀ (j : Nat) (c : V), cells[j]? = some c → ∃ x, arr'[im'.dl + j]? = some x ∧ x.oneCell' = true ∧ VR w S no m c x ∧ (flat = true → FR w S c x)) :
    Step K w S m (w.setRow im.rb arr') S (Map.put m i im') ∧ SR (w.setRow im.rb arr') S K (Map.put m i im') (H.set i ⟨im'.gen, cells, false, flat⟩) := by
  obtain ⟨im0, hm0, ok⟩ := h.blk i b hi
  rw [hm] at hm0; cases hm0
  have st : Step K w S m (w.setRow im.rb arr') S (Map.put m i im') := by
    refine ⟨rfl, rfl, rfl, by simp, fun _ x => x, fun _ x => .inl x, fun rb hb => setRow_other (fun e => ?_), fun j jm hj => ?_, keeps_setRow hrow⟩
    · subst e
      exact hb.elim (ok.thaw hfr) (h.own i b im hi hfr hm)
    · by_cases e : j = i
      · subst e
        rw [hm] at hj; cases hj
        exact ⟨im', Map.put_same .., hge, heq⟩
      · exact ⟨jm, by rw [Map.put_ne _ _ e]; exact hj, Nat.le_refl _, fun _ => rfl⟩
  refine ⟨st, ⟨fun rb hb => Nat.lt_of_lt_of_le (h.sub rb hb) st.size, fun rb hb => Nat.lt_of_lt_of_le (h.kin rb hb) st.size, fun j bj hj => ?_, fun j hj => ?_, fun j k bj jm km hj hf hjm hkm hne => ?_, fun j bj jm hj hf hjm => ?_, fun rb hb => by rw [st.pres rb (.inl hb)]; exact h.scel rb hb⟩⟩
  · by_cases e : j = i
    · subst e
      rw [Heap.set_same] at hj; cases hj
      refine ⟨im', Map.put_same .., ⟨rfl, hn, ⟨arr', ty, (0, 0), by rw [hrb]; exact setRow_row hrow, by rw [hsz, htot], fun _ => rfl⟩, hfit, fun q c hq => ?_, (fun hf => by cases hf), fun _ hs => ?_⟩⟩
      · obtain ⟨x, h1, h2, h3, h4⟩ := hc q c hq
        refine ⟨x, ?_, h2, h3.mono st (fun _ f => f.elim), fun hf => (h4 hf).mono (fun rb hb => st.pres rb (.inl hb)) st.sub⟩
        rw [hrb, cell_of_row _ _ _ _ _ _ (setRow_row hrow)]
        exact h1
      · rw [hrb] at hs; exact ok.thaw hfr hs
    · rw [Heap.set_ne _ _ e] at hj
      obtain ⟨jm, hjm, okj⟩ := h.blk j bj hj
      refine ⟨jm, by rw [Map.put_ne _ _ e]; exact hjm, okj.mono st (setRow_other (Ne.symm ?_)) okj.thaw⟩
      exact h.inj i j b im jm hi hfr hm hjm (Ne.symm e)
  · by_cases e : j = i
    · subst e; rw [Heap.set_same] at hj; cases hj
    · rw [Heap.set_ne _ _ e] at hj; rw [Map.put_ne _ _ e]; exact h.non j hj
  · by_cases e : j = i
    · subst e
      rw [Map.put_same] at hjm; cases hjm
      rw [Map.put_ne _ _ (Ne.symm hne)] at hkm
      rw [hrb]
      exact h.inj j k b im km hi hfr hm hkm hne
    · rw [Heap.set_ne _ _ e] at hj
      rw [Map.put_ne _ _ e] at hjm
      by_cases e' : k = i
      · subst e'
        rw [Map.put_same] at hkm; cases hkm
        rw [hrb]
        exact h.inj j k bj jm im hj hf hjm hm hne
      · rw [Map.put_ne _ _ e'] at hkm
        exact h.inj j k bj jm km hj hf hjm hkm hne
  · by_cases e : j = i
    · subst e
      rw [Map.put_same] at hjm; cases hjm
      rw [hrb]
      exact h.own j b im hi hfr hm
    · rw [Heap.set_ne _ _ e] at hj
      rw [Map.put_ne _ _ e] at hjm
      exact h.own j bj jm hj hf hjm

/-- freezing a block -/
theorem SR.freeze {w S K m H i b im} (h : SR w S K m H) (hi : H i = some b) (hm : m i = some im) :
    ∃ S' : Nat → Prop, S' im.rb ∧ Step K w S m w S' m ∧ SR w S' K m (H.set i { b with frz := true }) := by
  obtain ⟨im0, hm0, ok⟩ := h.blk i b hi
  rw [hm] at hm0; cases hm0
  have st : Step K w S m w (fun r => S r ∨ r = im.rb) m := ⟨rfl, rfl, rfl, Nat.le_refl _, fun _ x => .inl x, fun rb x => x.elim .inl (fun e => by
    subst e
    cases hf : b.frz with
    | true => exact .inl (ok.frz hf)
    | false => exact .inr (h.own i b im hi hf hm)), fun _ _ => rfl, fun _ im h => ⟨im, h, Nat.le_refl _, fun _ => rfl⟩, KeepsOthers.refl _⟩
  refine ⟨fun r => S r ∨ r = im.rb, .inr rfl, st, ⟨fun rb hb => hb.elim (h.sub rb) (fun e => e ▸ ok.lt), h.kin, fun j bj hj => ?_, fun j hj => ?_, fun j k bj jm km hj hf hjm hkm hne => ?_, fun j bj jm hj hf hjm => ?_, fun rb hb => hb.elim (h.scel rb) (fun e => by subst e; obtain ⟨arr, ty, _, hr, _⟩ := ok.row; exact ⟨_, hr, rfl⟩)⟩⟩
  · by_cases e : j = i
    · subst e
      rw [Heap.set_same] at hj; cases hj
      refine ⟨im, hm, ?_⟩
      refine ⟨ok.gen, ok.n, (let ⟨arr, ty, fz, h1, h2, _⟩ := ok.row; ⟨arr, ty, fz, h1, h2, fun q => by cases q⟩), ok.fit, fun q c hq => ?_, fun _ => .inr rfl, (fun hf => by cases hf)⟩
      obtain ⟨x, h1, h2, h3, h4⟩ := ok.cel q c hq
      exact ⟨x, h1, h2, h3.mono st (fun _ f => f.elim), fun hf => (h4 hf).mono (fun _ _ => rfl) st.sub⟩
    · rw [Heap.set_ne _ _ e] at hj
      obtain ⟨jm, hjm, okj⟩ := h.blk j bj hj
      refine ⟨jm, hjm, okj.mono st rfl (fun hf hs => hs.elim (okj.thaw hf) (fun e' => ?_))⟩
      exact h.inj j i bj jm im hj hf hjm hm e e'
  · by_cases e : j = i
    · subst e; rw [Heap.set_same] at hj; cases hj
    · rw [Heap.set_ne _ _ e] at hj; exact h.non j hj
  · by_cases e : j = i
    · subst e; rw [Heap.set_same] at hj; cases hj; cases hf
    · rw [Heap.set_ne _ _ e] at hj
      exact h.inj j k bj jm km hj hf hjm hkm hne
  · by_cases e : j = i
    · subst e; rw [Heap.set_same] at hj; cases hj; cases hf
    · rw [Heap.set_ne _ _ e] at hj
      exact h.own j bj jm hj hf hjm

/-- a mark behind a row's end -/
theorem mark_other {w : World} {g n k : Nat} (h : k ≠ g) : (w.freeze ⟨g, n, none⟩ 1).heap[k]? = w.heap[k]? := by
  simp [World.freeze, Array.getElem?_modify, Ne.symm h]
theorem mark_row {w : World} {g n : Nat} {arr : Array Value} {ty : TypeId} {fz : Nat × Nat} (h : w.heap[g]? = some (.cells arr ty fz)) : ∃ fz', (w.freeze ⟨g, n, none⟩ 1).heap[g]? = some (.cells arr ty fz') := by
  obtain ⟨lo, hi⟩ := fz
  exact ⟨_, by simp [World.freeze, Array.getElem?_modify, h]; rfl⟩
theorem mark_cell {w : World} {g n rb o : Nat} {arr : Array Value} {ty : TypeId} {fz : Nat × Nat} (h : w.heap[g]? = some (.cells arr ty fz)) : (w.freeze ⟨g, n, none⟩ 1).cell? ⟨rb, o, none⟩ = w.cell? ⟨rb, o, none⟩ := by
  by_cases e : rb = g
  · subst e
    obtain ⟨fz', h'⟩ := mark_row (n := n) h
    rw [cell_of_row _ _ _ _ _ _ h', cell_of_row _ _ _ _ _ _ h]
  · exact cell_of_block (mark_other e)
theorem keeps_mark {w : World} {g n : Nat} {arr : Array Value} {ty : TypeId} {fr : Nat × Nat} (h : w.heap[g]? = some (.cells arr ty fr)) : KeepsOthers w (w.freeze ⟨g, n, none⟩ 1) :=
  ⟨by simp [World.freeze], fun k o hk ho => by
    by_cases e : k = g
    · subst e; rw [h] at hk; cases hk; cases ho
    · rw [mark_other e]; exact hk⟩
theorem SR.mark {w S K m H i b im} (h : SR w S K m H) (hi : H i = some b) (hfr : b.frz = false) (hm : m i = some im) (n : Nat) :
    ∃ S' : Nat → Prop, S' im.rb ∧ Step K w S m (w.freeze ⟨im.rb, n, none⟩ 1) S' m ∧ SR (w.freeze ⟨im.rb, n, none⟩ 1) S' K m (H.set i { b with frz := true }) := by
  obtain ⟨im0, hm0, ok⟩ := h.blk i b hi
  rw [hm] at hm0; cases hm0
  obtain ⟨arr, ty, hrow, hsz⟩ := ok.row0 hfr
  have hne : ∀ rb, S rb ∨ K rb → rb ≠ im.rb := fun rb hb e => by
    subst e
    exact hb.elim (ok.thaw hfr) (h.own i b im hi hfr hm)
  have st : Step K w S m (w.freeze ⟨im.rb, n, none⟩ 1) (fun r => S r ∨ r = im.rb) m := ⟨rfl, rfl, rfl, by simp [World.freeze], fun _ x => .inl x, fun rb x => x.elim .inl (fun e => by
    subst e
    exact .inr (h.own i b im hi hfr hm)), fun rb hb => mark_other (hne rb hb), fun _ im h => ⟨im, h, Nat.le_refl _, fun _ => rfl⟩, keeps_mark hrow⟩
  obtain ⟨fz', hrow'⟩ := mark_row (n := n) hrow
  refine ⟨fun r => S r ∨ r = im.rb, .inr rfl, st, ⟨fun rb hb => Nat.lt_of_lt_of_le (hb.elim (h.sub rb) (fun e => e ▸ ok.lt)) st.size, fun rb hb => Nat.lt_of_lt_of_le (h.kin rb hb) st.size, fun j bj hj => ?_, fun j hj => ?_, fun j k bj jm km hj hf hjm hkm hne => ?_, fun j bj jm hj hf hjm => ?_, fun rb hb => hb.elim (fun q => by rw [st.pres rb (.inl q)]; exact h.scel rb q) (fun e => by subst e; exact ⟨_, hrow', rfl⟩)⟩⟩
  · by_cases e : j = i
    · subst e
      rw [Heap.set_same] at hj; cases hj
      refine ⟨im, hm, ?_⟩
      refine ⟨ok.gen, ok.n, ⟨arr, ty, fz', hrow', hsz, fun q => by cases q⟩, ok.fit, fun q c hq => ?_, fun _ => .inr rfl, (fun hf => by cases hf)⟩
      obtain ⟨x, h1, h2, h3, h4⟩ := ok.cel q c hq
      exact ⟨x, by rw [mark_cell hrow]; exact h1, h2, h3.mono st (fun _ f => f.elim), fun hf => (h4 hf).mono (fun rb hb => st.pres rb (.inl hb)) st.sub⟩
    · rw [Heap.set_ne _ _ e] at hj
      obtain ⟨jm, hjm, okj⟩ := h.blk j bj hj
      have hji : jm.rb ≠ im.rb := Ne.symm (h.inj i j b im jm hi hfr hm hjm (Ne.symm e))
      exact ⟨jm, hjm, okj.mono st (mark_other hji) (fun hf hs => hs.elim (okj.thaw hf) hji)⟩
  · by_cases e : j = i
    · subst e; rw [Heap.set_same] at hj; cases hj
    · rw [Heap.set_ne _ _ e] at hj; exact h.non j hj
  · by_cases e : j = i
    · subst e; rw [Heap.set_same] at hj; cases hj; cases hf
    · rw [Heap.set_ne _ _ e] at hj
      exact h.inj j k bj jm km hj hf hjm hkm hne
  · by_cases e : j = i
    · subst e; rw [Heap.set_same] at hj; cases hj; cases hf
    · rw [Heap.set_ne _ _ e] at hj
      exact h.own j bj jm hj hf hjm

theorem SR.drew {w S K m H} (h : SR w S K m H) : SR w.drew S K m H :=
  ⟨h.sub, h.kin, fun i b hi => let ⟨im, hm, ok⟩ := h.blk i b hi; ⟨im, hm, ok.mono (Step.drew K w S m) rfl ok.thaw⟩, h.non, h.inj, h.own, h.scel⟩
end Go.Proofs.Ytieapebabncliaa.Iv

namespace Go.Proofs.Ytieapebabncliaa.Iv
open Go

/-! ### two rows, cell by cell -/
def All2 (R : V → Value → Prop) : List V → List Value → Prop
  | [], [] => True
  | c :: cs, x :: xs => R c x ∧ All2 R cs xs
  | _, _ => False
namespace All2
variable {R R' : V → Value → Prop}
theorem len : ∀ {cs : List V} {xs : List Value}, All2 R cs xs → xs.length = cs.length
  | [], [], _ => rfl
  | _ :: _, _ :: _, h => by simp [len h.2]
  | [], _ :: _, h => h.elim
  | _ :: _, [], h => h.elim
theorem imp (hi : ∀ c x, R c x → R' c x) : ∀ {cs : List V} {xs : List Value}, All2 R cs xs → All2 R' cs xs
  | [], [], _ => trivial
  | _ :: _, _ :: _, h => ⟨hi _ _ h.1, imp hi h.2⟩
  | [], _ :: _, h => h.elim
  | _ :: _, [], h => h.elim
theorem imp' {cs : List V} (hi : ∀ c x, c ∈ cs → R c x → R' c x) {xs : List Value} (h : All2 R cs xs) : All2 R' cs xs := by
  induction cs generalizing xs with
  | nil => cases xs with | nil => trivial | cons => exact h.elim
  | cons c cs ih => cases xs with
    | nil => exact h.elim
    | cons x xs => exact ⟨hi _ _ (by simp) h.1, ih (fun c x hc => hi c x (by simp [hc])) h.2⟩
theorem get : ∀ {cs : List V} {xs : List Value}, All2 R cs xs → ∀ {j : Nat} {c : V}, cs[j]? = some c → ∃ x, xs[j]? = some x ∧ R c x
  | [], [], _, _, _, h => by simp at h
  | _ :: _, _ :: _, h, 0, _, e => by simp at e; subst e; exact ⟨_, rfl, h.1⟩
  | _ :: _, _ :: _, h, j + 1, _, e => by simp at e; simpa using get h.2 e
  | [], _ :: _, h, _, _, _ => h.elim
  | _ :: _, [], h, _, _, _ => h.elim
theorem of : ∀ {cs : List V} {xs : List Value}, xs.length = cs.length → (∀ (j : Nat) (c : V) (x : Value), cs[j]? = some c → xs[j]? = some x → R c x) → All2 R cs xs
  | [], [], _, _ => trivial
  | c :: cs, x :: xs, h, k => ⟨k 0 c x rfl rfl, of (by simpa using h) (fun j c x h1 h2 => k (j + 1) c x (by simpa using h1) (by simpa using h2))⟩
  | [], _ :: _, h, _ => by simp at h
  | _ :: _, [], h, _ => by simp at h
theorem choose : ∀ {cs : List V} {Q : Nat → Value → Prop}, (∀ (j : Nat) (c : V), cs[j]? = some c → ∃ x, Q j x ∧ R c x) → ∃ xs, All2 R cs xs ∧ ∀ (j : Nat) (x : Value), xs[j]? = some x → Q j x
  | [], Q, _ => ⟨[], trivial, fun j x h => by simp at h⟩
  | c :: cs, Q, h => by
    obtain ⟨x, h1, h2⟩ := h 0 c rfl
    obtain ⟨xs, h3, h4⟩ := choose (cs := cs) (Q := fun j => Q (j + 1)) (fun j c hj => h (j + 1) c (by simpa using hj))
    refine ⟨x :: xs, ⟨h2, h3⟩, fun j y hj => ?_⟩
    cases j with
    | zero => simp at hj; subst hj; exact h1
    | succ j => exact h4 j y (by simpa using hj)
theorem app : ∀ {cs ds : List V} {xs ys : List Value}, All2 R cs xs → All2 R ds ys → All2 R (cs ++ ds) (xs ++ ys)
  | [], _, [], _, _, h => h
  | _ :: _, _, _ :: _, _, h, k => ⟨h.1, app h.2 k⟩
  | [], _, _ :: _, _, h, _ => h.elim
  | _ :: _, _, [], _, h, _ => h.elim
theorem take : ∀ (n : Nat) {cs : List V} {xs : List Value}, All2 R cs xs → All2 R (cs.take n) (xs.take n)
  | 0, _, _, _ => by simp [All2]
  | n + 1, [], [], _ => trivial
  | n + 1, _ :: _, _ :: _, h => ⟨h.1, take n h.2⟩
  | _ + 1, [], _ :: _, h => h.elim
  | _ + 1, _ :: _, [], h => h.elim
theorem drop : ∀ (n : Nat) {cs : List V} {xs : List Value}, All2 R cs xs → All2 R (cs.drop n) (xs.drop n)
  | 0, _, _, h => by simpa using h
  | n + 1, [], [], _ => trivial
  | n + 1, _ :: _, _ :: _, h => by simpa using drop n h.2
  | _ + 1, [], _ :: _, h => h.elim
  | _ + 1, _ :: _, [], h => h.elim
theorem splice {cs ds : List V} {xs ys : List Value} (o : Nat) (h : All2 R cs xs) (k : All2 R ds ys) : All2 R (Iv.splice cs o ds) (xs.take o ++ ys ++ xs.drop (o + ys.length)) := by
  unfold Iv.splice
  rw [k.len]
  exact ((h.take o).app k).app (h.drop _)
end All2

theorem VR.agg_inv {w S B m cs x} (h : VR w S B m (.agg cs) x) : ∃ xs : List Value, x = .agg xs.toArray ∧ All2 (VR w S B m) cs xs := by
  cases h with
  | fr h => cases h
  | agg _ vs hl h => exact ⟨vs.toList, by simp, All2.of (by simpa using hl) (fun j c x h1 h2 => h j c x h1 (by simpa using h2))⟩
theorem VR.agg_mk {w S B m cs} {xs : List Value} (h : All2 (VR w S B m) cs xs) : VR w S B m (.agg cs) (.agg xs.toArray) := by
  refine .agg cs _ (by simpa using h.len) (fun j c x h1 h2 => ?_)
  obtain ⟨y, h3, h4⟩ := h.get h1
  have h2' : xs[j]? = some x := by simpa using h2
  rw [h3] at h2'; cases h2'; exact h4
theorem VR.tup_inv {w S B m cs x} (h : VR w S B m (.tup cs) x) : ∃ xs : List Value, x = .tuple xs.toArray ∧ All2 (VR w S B m) cs xs := by
  cases h with
  | fr h => cases h
  | tup _ vs hl h => exact ⟨vs.toList, by simp, All2.of (by simpa using hl) (fun j c x h1 h2 => h j c x h1 (by simpa using h2))⟩
theorem VR.tup_mk {w S B m cs} {xs : List Value} (h : All2 (VR w S B m) cs xs) : VR w S B m (.tup cs) (.tuple xs.toArray) := by
  refine .tup cs _ (by simpa using h.len) (fun j c x h1 h2 => ?_)
  obtain ⟨y, h3, h4⟩ := h.get h1
  have h2' : xs[j]? = some x := by simpa using h2
  rw [h3] at h2'; cases h2'; exact h4
theorem VR.fn_inv {w S B m f cs x} (h : VR w S B m (.fn f cs) x) : ∃ xs : List Value, x = .func (.func (f % 1048576)) (if f < 1048576 then #[] else xs.toArray) (if f < 1048576 then xs.toArray else #[]) ∧ All2 (VR w S B m) cs xs := by
  cases h with
  | fr h => cases h
  | fn _ _ vs hl h => exact ⟨vs.toList, by simp, All2.of (by simpa using hl) (fun j c x h1 h2 => h j c x h1 (by simpa using h2))⟩
theorem VR.fn_mk {w S B m f cs} {xs : List Value} (h : All2 (VR w S B m) cs xs) : VR w S B m (.fn f cs) (.func (.func (f % 1048576)) (if f < 1048576 then #[] else xs.toArray) (if f < 1048576 then xs.toArray else #[])) := by
  refine .fn f cs _ (by simpa using h.len) (fun j c x h1 h2 => ?_)
  obtain ⟨y, h3, h4⟩ := h.get h1
  have h2' : xs[j]? = some x := by simpa using h2
  rw [h3] at h2'; cases h2'; exact h4

/-- a value whose cells may lie in the heap is as many cells in memory -/
theorem VR.fn_inv0 {w S B m f cs x} (h : VR w S B m (.fn f cs) x) (hf : f < 1048576) : ∃ xs : List Value, x = .func (.func f) #[] xs.toArray ∧ All2 (VR w S B m) cs xs := by
  obtain ⟨xs, e, h2⟩ := h.fn_inv
  rw [if_pos hf, if_pos hf, Nat.mod_eq_of_lt hf] at e
  exact ⟨xs, e, h2⟩
theorem VR.fn_inv1 {w S B m f cs x} (h : VR w S B m (.fn f cs) x) (hf : ¬ f < 1048576) : ∃ xs : List Value, x = .func (.func (f % 1048576)) xs.toArray #[] ∧ All2 (VR w S B m) cs xs := by
  obtain ⟨xs, e, h2⟩ := h.fn_inv
  rw [if_neg hf, if_neg hf] at e
  exact ⟨xs, e, h2⟩
theorem VR.fn_mk0 {w S B m f cs} {xs : List Value} (h : All2 (VR w S B m) cs xs) (hf : f < 1048576) : VR w S B m (.fn f cs) (.func (.func f) #[] xs.toArray) := by
  have := VR.fn_mk (f := f) h
  rw [if_pos hf, if_pos hf, Nat.mod_eq_of_lt hf] at this
  exact this
theorem VR.fn_mk1 {w S B m f cs} {xs : List Value} (h : All2 (VR w S B m) cs xs) (hf : f < 1048576) : VR w S B m (.fn (f + 1048576) cs) (.func (.func f) xs.toArray #[]) := by
  have := VR.fn_mk (f := f + 1048576) h
  rw [if_neg (by omega), if_neg (by omega), Nat.add_mod_right, Nat.mod_eq_of_lt hf] at this
  exact this
theorem VR.cells {w S B m v x} (h : VR w S B m v x) (hk : v.cells.all V.kept = true) : All2 (fun c x => VR w S B m c x ∧ x.oneCell' = true ∧ VR w S no m c x) v.cells x.cells.toList := by
  have one : ∀ {c : V} {y : Value}, VR w S B m c y → c.kept = true → y.oneCell' = true := fun {c y} h hk => by
    cases h with
    | fr h => exact h.one
    | und => simp [V.kept, V.kept0] at hk
    | agg => simp [V.kept, V.kept0] at hk
    | tup => simp [V.kept, V.kept0] at hk
    | _ => rfl
  by_cases ha : ∃ cs, v = .agg cs
  · obtain ⟨cs, rfl⟩ := ha
    obtain ⟨xs, rfl, hx⟩ := h.agg_inv
    have hk' : ∀ c ∈ cs, c.kept = true := by simpa [V.cells] using hk
    simp only [Value.cells, V.cells]
    exact hx.imp' (fun c x hc r => ⟨r, one r (hk' c hc), r.kept (hk' c hc)⟩)
  · have hc : v.cells = [v] := by cases v <;> first | rfl | exact (ha ⟨_, rfl⟩).elim
    rw [hc] at hk ⊢
    have hk' : v.kept = true := by simpa using hk
    have ho := one h hk'
    have hx : x.cells = #[x] := by cases x <;> first | rfl | simp [Value.oneCell'] at ho
    rw [hx]
    exact ⟨⟨h, ho, h.kept hk'⟩, trivial⟩

/-! ### the tables -/
section
variable {P : Program}
theorem szOf_info {t sz : Nat} (h : szOf P t = some sz) : ∃ i, P.info? t = some i ∧ i.size = sz := by
  unfold szOf at h
  cases hi : P.info? t with
  | none => simp [hi] at h
  | some i => exact ⟨i, rfl, by simpa [hi] using h⟩
theorem byOf_info {t n : Nat} (h : byOf P t = some n) : ∃ i, P.info? t = some i ∧ i.bytes = n := by
  unfold byOf at h
  cases hi : P.info? t with
  | none => simp [hi] at h
  | some i => exact ⟨i, rfl, by simpa [hi] using h⟩
theorem run_sizeOf' {t sz : Nat} (h : szOf P t = some sz) (w : World) : (sizeOf t).run P w = .ok sz w := by
  obtain ⟨i, hi, rfl⟩ := szOf_info h
  unfold sizeOf typeInfo
  simp [hi]
theorem run_bytes' {t n : Nat} (h : byOf P t = some n) (w : World) : ∃ i, (typeInfo t).run P w = .ok i w ∧ i.bytes = n := by
  obtain ⟨i, hi, rfl⟩ := byOf_info h
  exact ⟨i, by unfold typeInfo; simp [hi], rfl⟩
theorem run_isAgg' {t : Nat} {ag : Bool} (h : agOf P t = some ag) (w : World) : (isAgg t).run P w = .ok ag w := by
  unfold agOf at h
  cases hu : P.underlying t with
  | none => simp [hu] at h
  | some d =>
    simp only [hu, Option.map_some, Option.some.injEq] at h
    unfold isAgg
    simp only [Sem.run_bind, run_underlying hu, Result.andThen_ok]
    subst h
    cases d <;> rfl
theorem zOf_info {t : Nat} {z : List V} (h : zOf P t = some z) : ∃ i v, P.info? t = some i ∧ i.zero = some v ∧ z = (ofVal v).cells := by
  unfold zOf at h
  cases hi : P.info? t with
  | none => simp [hi] at h
  | some i =>
    cases hz : i.zero with
    | none => simp [hi, hz] at h
    | some v => exact ⟨i, v, rfl, hz, by simpa [hi, hz] using h.symm⟩
theorem run_zero' {t : Nat} {z : List V} (h : zOf P t = some z) (w : World) : ∃ v, (zeroValue t).run P w = .ok v w ∧ z = (ofVal v).cells := by
  obtain ⟨i, v, hi, hz, rfl⟩ := zOf_info h
  exact ⟨v, by unfold zeroValue typeInfo; simp [hi, hz], rfl⟩
end
theorem sc_VR {w S B m} (x : Value) : VR w S B m (sc x) x := by
  unfold sc
  split
  · exact .fr (.int _ _)
  · exact .fr (.bool _)
  · rename_i s
    have := FR.str (w := w) (S := S) s.data.toList
    exact .fr (by simpa using this)
  · exact .fr .nilp
  · exact .fr .nils
  · exact .fr .nilf
  · exact .und _
theorem ofVal_VR {w S B m} (x : Value) : VR w S B m (ofVal x) x := by
  cases x with
  | agg cs =>
    refine .agg _ _ (by simp) (fun j c x h1 h2 => ?_)
    simp only [List.getElem?_map, Array.getElem?_toList, h2, Option.map_some, Option.some.injEq] at h1
    subst h1
    exact sc_VR x
  | _ => simp only [ofVal]; exact sc_VR _
theorem sc_FR {w S} {x : Value} (h : (sc x).plain = true) : FR w S (sc x) x := (sc_VR (w := w) (S := S) (B := no) (m := fun _ => none) x).plain h
theorem sc_agg (x : Value) (cs : List V) : sc x ≠ .agg cs := by unfold sc; split <;> simp
/-- the cells of a nought value -/
theorem zero_cells {w S B m} (x : Value) (hp : (ofVal x).cells.all V.plain = true) : All2 (fun c y => VR w S B m c y ∧ FR w S c y) (ofVal x).cells x.cells.toList := by
  cases x with
  | agg cs =>
    have hp' : ∀ c ∈ cs.toList.map sc, c.plain = true := fun c hc => List.all_eq_true.1 hp c hc
    refine All2.of (by simp [ofVal, V.cells, Value.cells]) (fun j c y h1 h2 => ?_)
    simp only [ofVal, V.cells, List.getElem?_map] at h1
    simp only [Value.cells] at h2
    rw [h2] at h1
    simp only [Option.map_some, Option.some.injEq] at h1
    have hc : c ∈ cs.toList.map sc := by subst h1; exact List.mem_map_of_mem (List.mem_of_getElem? h2)
    subst h1
    exact ⟨.fr (sc_FR (hp' _ hc)), sc_FR (hp' _ hc)⟩
  | _ =>
    have e : ∀ y : Value, (sc y).cells = [sc y] := fun y => by
      cases hh : sc y <;> first | rfl | exact (sc_agg _ _ hh).elim
    simp only [ofVal, e] at hp ⊢
    have hp' := hp
    simp only [List.all_cons, List.all_nil, Bool.and_true] at hp'
    exact ⟨⟨.fr (sc_FR hp'), sc_FR hp'⟩, trivial⟩
end Go.Proofs.Ytieapebabncliaa.Iv

namespace Go.Proofs.Ytieapebabncliaa.Iv
open Go

/-- 's' runs to a value that reads as 'out' says, and the heap becomes as 'out' says. -/
def Sound (P : Program) (K B : Nat → Prop) (w : World) (S : Nat → Prop) (m : Map) (H : Heap) (out : Out) (s : Sem Value) : Prop :=
  ∃ x w' S' m', s.run P w = .ok x w' ∧ Step K w S m w' S' m' ∧ SR w' S' K m' (H.sets out.ups) ∧ VR w' S' B m' out.v x

section
variable {P : Program} {K B : Nat → Prop} {w : World} {S : Nat → Prop} {m : Map} {H : Heap}

theorem Sound.pure {v : V} {rd : List Id} {s : Sem Value} {x : Value} (h : SR w S K m H) (hr : s.run P w = .ok x w) (hv : VR w S B m v x) : Sound P K B w S m H ⟨v, [], rd⟩ s :=
  ⟨x, w, S, m, hr, Step.refl .., h, hv⟩

theorem add_eq (rb o n : Nat) : (⟨rb, o, none⟩ : Addr).add n = ⟨rb, o + n, none⟩ := by unfold Addr.add; split <;> simp_all

theorem live_some {i : Id} {g : Nat} {b : Blk} (h : live H i g = some b) : H i = some b ∧ b.gen = g := by
  unfold live at h
  split at h
  · rename_i b' hb
    split at h
    · rename_i hg; cases h; exact ⟨hb, hg⟩
    · cases h
  · cases h

theorem cut_some {cs : List V} {o n : Nat} {xs : List V} (h : cut cs o n = some xs) : xs = (cs.drop o).take n ∧ xs.length = n := by
  unfold cut at h
  simp only at h
  split at h
  · rename_i hl; cases h; exact ⟨rfl, hl⟩
  · cases h
theorem cut_get {cs : List V} {o n : Nat} {xs : List V} (h : cut cs o n = some xs) {j : Nat} {c : V} (hj : xs[j]? = some c) : cs[o + j]? = some c ∧ j < n := by
  obtain ⟨rfl, hl⟩ := cut_some h
  have hjn : j < n := by rw [← hl]; exact (List.getElem?_eq_some_iff.1 hj).1
  rw [List.getElem?_take_of_lt hjn, List.getElem?_drop] at hj
  exact ⟨hj, hjn⟩
theorem cut_le {cs : List V} {o n : Nat} {xs : List V} (h : cut cs o n = some xs) (hn : 0 < n) : o + n ≤ cs.length := by
  obtain ⟨rfl, hl⟩ := cut_some h
  simp at hl
  omega

/-- the live reference -/
theorem VR.ptr_live {i : Id} {g o : Nat} {x : Value} {b : Blk} (h : SR w S K m H) (hx : VR w S B m (.ptr i g o) x) (hl : live H i g = some b) :
    ∃ im, m i = some im ∧ BlkOK w S m b im ∧ x = .pointer (some ⟨im.rb, im.dl + o, none⟩) ∧ H i = some b ∧ im.gen = g := by
  obtain ⟨hb, hg⟩ := live_some hl
  obtain ⟨im, hm, ok⟩ := h.blk i b hb
  cases hx with
  | fr h => cases h
  | ptr _ _ im' hm' => rw [hm] at hm'; cases hm'; exact ⟨im, hm, ok, rfl, hb, rfl⟩
  | ptrD _ _ _ im' _ hm' hlt => rw [hm] at hm'; cases hm'; have := ok.gen; omega
theorem VR.sl_live {i : Id} {g o n sz : Nat} {lim : Option Nat} {x : Value} {b : Blk} (h : SR w S K m H) (hx : VR w S B m (.sl i g o n sz lim) x) (hl : live H i g = some b) :
    ∃ im a cap, m i = some im ∧ BlkOK w S m b im ∧ x = .slice (some a) n cap ∧ H i = some b ∧ im.gen = g ∧ (0 < cap → a = ⟨im.rb, im.dl + o, none⟩) ∧ n ≤ cap ∧ o + n * sz ≤ im.n ∧
      im.dl + o + cap * sz ≤ im.tot ∧ (lim = none → im.n ≤ o + cap * sz) ∧ (∀ c, lim = some c → cap = c) := by
  obtain ⟨hb, hg⟩ := live_some hl
  obtain ⟨im, hm, ok⟩ := h.blk i b hb
  cases hx with
  | fr h => cases h
  | sl _ _ _ _ _ im' a cap hm' ha h1 h2 h3 h4 h5 => rw [hm] at hm'; cases hm'; exact ⟨im, a, cap, hm, ok, rfl, hb, rfl, ha, h1, h2, h3, h4, h5⟩
  | slD _ _ _ _ _ _ im' _ _ hm' hlt => rw [hm] at hm'; cases hm'; have := ok.gen; omega

/-- a row of cells of a block, as values -/
theorem BlkOK.read {b : Blk} {im : Im} (ok : BlkOK w S m b im) {o n : Nat} {cs : List V} (hc : cut b.cells o n = some cs) :
    ∃ xs : List Value, All2 (fun c x => VR w S no m c x ∧ x.oneCell' = true ∧ (b.flat = true → FR w S c x)) cs xs ∧ xs.length = n ∧
      ∀ (j : Nat) (x : Value), xs[j]? = some x → w.cell? ⟨im.rb, im.dl + o + j, none⟩ = some x := by
  obtain ⟨xs, h1, h2⟩ := All2.choose (R := fun c x => VR w S no m c x ∧ x.oneCell' = true ∧ (b.flat = true → FR w S c x)) (cs := cs)
    (Q := fun j x => w.cell? ⟨im.rb, im.dl + o + j, none⟩ = some x) (fun j c hj => by
      obtain ⟨x, q1, q2, q3, q4⟩ := ok.cel (o + j) c (cut_get hc hj).1
      exact ⟨x, by rw [Nat.add_assoc]; exact q1, q3, q2, q4⟩)
  exact ⟨xs, h1, by rw [h1.len, (cut_some hc).2], h2⟩

theorem run_loadVar' {t sz : Nat} {ag : Bool} (hs : szOf P t = some sz) (hg : agOf P t = some ag) {rb o : Nat} {cs : List V} {v : V} {R : V → Value → Prop} {xs : List Value}
    (h2 : All2 R cs xs) (hl : xs.length = sz) (hx : ∀ (j : Nat) (x : Value), xs[j]? = some x → w.cell? ⟨rb, o + j, none⟩ = some x) (hv : mkv ag cs = some v)
    (hR : ∀ c x, R c x → VR w S B m c x) : ∃ x, (loadVar t ⟨rb, o, none⟩).run P w = .ok x w ∧ VR w S B m v x := by
  unfold loadVar
  simp only [Sem.run_bind, run_isAgg' hg, Result.andThen_ok]
  cases ag with
  | true =>
    simp only [if_true, Sem.run_bind, run_sizeOf' hs, Result.andThen_ok]
    simp only [mkv, Option.some.injEq] at hv
    subst hv
    have := run_loadCells_list (P := P) w ⟨rb, o, none⟩ xs (fun j x hj => by rw [add_eq]; exact hx j x hj)
    rw [hl] at this
    rw [this]
    exact ⟨_, rfl, VR.agg_mk (h2.imp hR)⟩
  | false =>
    simp only [Bool.false_eq_true, if_false]
    cases cs with
    | nil => simp [mkv] at hv
    | cons c cs =>
      cases cs with
      | cons => simp [mkv] at hv
      | nil =>
        simp only [mkv, Option.some.injEq] at hv
        subst hv
        cases xs with
        | nil => exact h2.elim
        | cons x xs =>
          have h0 := hx 0 x rfl
          simp only [Nat.add_zero] at h0
          exact ⟨x, by rw [run_load, h0], hR _ _ h2.1⟩

theorem load_val (h : SR w S K m H) {t : Nat} {a : V} {out : Out} (he : evLoad P H t a = some out) {x : Value} (hx : VR w S B m a x) :
    out.ups = [] ∧ ∃ y, (Instr.loadAt t x).run P w = .ok y w ∧ VR w S B m out.v y := by
  unfold evLoad at he
  split at he
  · rename_i sz ag i g o hs hg
    split at he
    · rename_i b hb
      split at he
      · rename_i cs hc
        split at he
        · rename_i v hv
          cases he
          obtain ⟨im, hm, ok, rfl, hi, rfl⟩ := VR.ptr_live h hx hb
          obtain ⟨xs, h2, hl, hq⟩ := ok.read hc
          obtain ⟨y, hr, hy⟩ := run_loadVar' (P := P) (B := B) (m := m) (S := S) hs hg h2 hl hq hv (fun c x r => r.1.lend)
          refine ⟨rfl, y, ?_, hy⟩
          unfold Instr.loadAt Instr.sureAddr
          simpa using hr
        · cases he
      · cases he
    · cases he
  · rename_i sz ag cs lent hs hg
    split at he
    · rename_i cs' hc
      split at he
      · rename_i v hv
        cases he
        have key : ∀ rb o (vals : Nat → Value), x = .pointer (some ⟨rb, o, none⟩) → (∀ j, j < cs.length → w.cell? ⟨rb, o + j, none⟩ = some (vals j)) → (∀ (j : Nat) (c : V), cs[j]? = some c → CR w S B c (vals j)) →
            ∃ y, (Instr.loadAt t x).run P w = .ok y w ∧ VR w S B m v y := by
          intro rb o vals e hc' hv'
          subst e
          obtain ⟨xs, h2, hq⟩ := All2.choose (R := fun c x => CR w S B c x) (cs := cs') (Q := fun j x => w.cell? ⟨rb, o + j, none⟩ = some x) (fun j c hj => by
            have := (cut_get hc hj).1
            rw [Nat.zero_add] at this
            exact ⟨vals j, hc' j (List.getElem?_eq_some_iff.1 this).1, hv' j c this⟩)
          obtain ⟨y, hr, hy⟩ := run_loadVar' (P := P) (B := B) (m := m) (S := S) hs hg h2 (by rw [h2.len, (cut_some hc).2]) hq hv (fun c x r => r.vr)
          refine ⟨y, ?_, hy⟩
          unfold Instr.loadAt Instr.sureAddr
          simpa using hr
        cases hx with
        | fr hf => cases hf with | fptr _ rb o vals hs' hc' hv' => exact ⟨rfl, key rb o vals rfl hc' (fun j c e => .inl (hv' j c e))⟩
        | lfptr _ rb o vals hs' hc' hv' => exact ⟨rfl, key rb o vals rfl hc' hv'⟩
      · cases he
    · cases he
  · cases he
theorem load_sound (h : SR w S K m H) {t : Nat} {a : V} {out : Out} (he : evLoad P H t a = some out) {x : Value} (hx : VR w S B m a x) :
    Sound P K B w S m H out (Instr.loadAt t x) := by
  obtain ⟨e, y, hr, hy⟩ := load_val (P := P) h he hx
  exact ⟨y, w, S, m, hr, Step.refl .., by rw [e]; exact h, hy⟩

theorem row_cell {rb : Nat} {arr : Array Value} {ty : TypeId} (hrow : w.heap[rb]? = some (.cells arr ty (0, 0))) {o : Nat} {x : Value} (h : w.cell? ⟨rb, o, none⟩ = some x) : arr[o]? = some x := by
  rw [cell_of_row _ _ _ _ _ _ hrow] at h; exact h

/-- values written over cells of a block, in place, its length the same -/
theorem write_sound (h : SR w S K m H) {i : Id} {b : Blk} {im : Im} (hi : H i = some b) (hm : m i = some im) (hfr : b.frz = false) (o : Nat) (cs : List V) (ys : List Value)
    (h2 : All2 (fun c x => x.oneCell' = true ∧ VR w S no m c x ∧ (b.flat = true → FR w S c x)) cs ys) (ho : o + cs.length ≤ b.cells.length) :
    ∃ w' m', (storeCells ⟨im.rb, im.dl + o, none⟩ ys).run P w = .ok () w' ∧ Step K w S m w' S m' ∧ SR w' S K m' (H.set i { b with cells := splice b.cells o cs }) := by
  obtain ⟨im0, hm0, ok⟩ := h.blk i b hi
  rw [hm] at hm0; cases hm0
  obtain ⟨arr, ty, hrow, hsz⟩ := ok.row0 hfr
  have hn := ok.n
  have hf := ok.fit
  have hyl := h2.len
  have hrun := run_storeCells_at (P := P) im.rb (im.dl + o) ty ys 0 arr w hrow (by omega) (fun v hv => by
    obtain ⟨j, hj⟩ := List.getElem?_of_mem hv
    have hjl : j < cs.length := by rw [← hyl]; exact (List.getElem?_eq_some_iff.1 hj).1
    obtain ⟨x, hx, hr⟩ := h2.get (List.getElem?_eq_getElem hjl)
    rw [hj] at hx; cases hx; exact hr.1)
  simp only [Nat.add_zero] at hrun
  have hlen : (splice b.cells o cs).length = b.cells.length := by unfold splice; simp; omega
  have hsz' : (arr.toList.take (im.dl + o) ++ ys ++ arr.toList.drop (im.dl + o + ys.length)).toArray.size = im.tot := by simp; omega
  have W := SR.write h hi hfr hm hrow (arr.toList.take (im.dl + o) ++ ys ++ arr.toList.drop (im.dl + o + ys.length)).toArray hsz' im rfl rfl (Nat.le_refl _) (fun _ => rfl)
    (splice b.cells o cs) b.flat (by rw [hlen]; exact hn) hf (fun j c hj => by
      have hjl : j < b.cells.length := by rw [← hlen]; exact (List.getElem?_eq_some_iff.1 hj).1
      unfold splice at hj
      have hto : (b.cells.take o).length = o := by simp; omega
      have hta : (arr.toList.take (im.dl + o)).length = im.dl + o := by simp; omega
      simp only [List.getElem?_toArray, List.append_assoc]
      rcases Nat.lt_or_ge j o with h1 | h1
      · rw [List.append_assoc, List.getElem?_append_left (by omega), List.getElem?_take_of_lt h1] at hj
        obtain ⟨x, q1, q2, q3, q4⟩ := ok.cel j c hj
        refine ⟨x, ?_, q2, q3, q4⟩
        rw [List.getElem?_append_left (by omega), List.getElem?_take_of_lt (by omega)]
        simpa using row_cell hrow q1
      · rw [List.append_assoc, List.getElem?_append_right (by omega), hto] at hj
        rcases Nat.lt_or_ge (j - o) cs.length with h3 | h3
        · rw [List.getElem?_append_left h3] at hj
          obtain ⟨x, hx, r1, r2, r3⟩ := h2.get hj
          refine ⟨x, ?_, r1, r2, r3⟩
          rw [List.getElem?_append_right (by omega), hta, List.getElem?_append_left (by omega), show im.dl + j - (im.dl + o) = j - o by omega]
          exact hx
        · rw [List.getElem?_append_right h3, List.getElem?_drop, show o + cs.length + (j - o - cs.length) = j by omega] at hj
          obtain ⟨x, q1, q2, q3, q4⟩ := ok.cel j c hj
          refine ⟨x, ?_, q2, q3, q4⟩
          rw [List.getElem?_append_right (by omega), hta, List.getElem?_append_right (by omega), List.getElem?_drop, show im.dl + o + ys.length + (im.dl + j - (im.dl + o) - ys.length) = im.dl + j by omega]
          simpa using row_cell hrow q1)
  rw [hfr]
  have hg : im.gen = b.gen := ok.gen
  refine ⟨_, _, hrun, W.1, ?_⟩
  have := W.2
  rw [hg] at this
  exact this

theorem plain_kept {v : V} (h : v.plain = true) : v.kept = true := by cases v <;> simp_all [V.plain, V.kept, V.kept0]

theorem store_sound (h : SR w S K m H) {t : Nat} {a v : V} {out : Out} (he : evStore P H t a v = some out) {x y : Value} (hx : VR w S B m a x) (hy : VR w S B m v y) :
    out.v = .und ∧ ∃ w' S' m', (Instr.storeAt t x y).run P w = .ok () w' ∧ Step K w S m w' S' m' ∧ SR w' S' K m' (H.sets out.ups) := by
  unfold evStore at he
  split at he
  · rename_i sz i g o hs
    split at he
    · rename_i b hb
      split at he
      · rename_i hc
        obtain ⟨hfr, hlen, ho, hall⟩ := hc
        cases he
        obtain ⟨im, hm, ok, rfl, hi, rfl⟩ := VR.ptr_live h hx hb
        have hk : v.cells.all V.kept = true := by
          refine List.all_eq_true.2 (fun c hc => ?_)
          have hq := List.all_eq_true.1 hall c hc
          cases hfl : b.flat with
          | false => rw [hfl] at hq; exact hq
          | true => rw [hfl] at hq; exact plain_kept hq
        have h2 := hy.cells hk
        obtain ⟨w', m', hrun, st, sr⟩ := write_sound (P := P) h hi hm hfr o v.cells y.cells.toList
          (h2.imp' (fun c x hc r => ⟨r.2.1, r.2.2, fun hf => by
            have hq := List.all_eq_true.1 hall c hc
            rw [hf] at hq
            exact r.1.plain hq⟩)) (by omega)
        refine ⟨rfl, w', S, m', ?_, st, sr⟩
        unfold Instr.storeAt Instr.sureAddr storeVar
        have hsz : y.cells.size = sz := by have := h2.len; simp at this; omega
        simp [run_sizeOf' hs, hsz, hrun]
      · cases he
    · cases he
  · cases he

theorem new_sound (h : SR w S K m H) (d : Nat) {cells : List V} {ys : List Value} (e : TypeId)
    (h2 : All2 (fun c x => x.oneCell' = true ∧ VR w S no m c x) cells ys) :
    let g := nextGen H (.own d)
    Sound P K B w S m H ⟨.ptr (.own d) g 0, [(.own d, ⟨g, cells, false, false⟩)], [.own d]⟩ (do pure (.pointer (some (← newRow e ys.toArray)))) := by
  have A := SR.alloc h (.own d) cells false ys.toArray e (by simp [h2.len]) (fun j c hj => by
    obtain ⟨x, hx, r⟩ := h2.get hj
    exact ⟨x, by simpa using hx, r.1, r.2, fun hf => by cases hf⟩)
  refine ⟨.pointer (some ⟨w.heap.size, 0, none⟩), _, S, _, ?_, A.1, A.2, ?_⟩
  · unfold newRow newObj; rfl
  · have := VR.ptr (w := w.alloc (.cells ys.toArray e)) (S := S) (B := B) (m := Map.put m (.own d) ⟨nextGen H (.own d), w.heap.size, 0, cells.length, ys.toArray.size⟩) (.own d) 0 _ (Map.put_same ..)
    simpa using this

theorem box_sound (h : SR w S K m H) (d : Nat) {v : V} {out : Out} (he : evBox H d v.cells = some out) {y : Value} (hy : VR w S B m v y) (e : TypeId) :
    Sound P K B w S m H out (Instr.box e y) := by
  unfold evBox at he
  split at he
  · rename_i hk
    cases he
    have h2 := (hy.cells hk).imp (R' := fun c x => x.oneCell' = true ∧ VR w S no m c x) (fun c x r => r.2)
    have := new_sound (P := P) (B := B) h d e h2
    simpa [Instr.box, newVar] using this
  · cases he

theorem boxA_sound (h : SR w S K m H) (d : Nat) {v : V} {out : Out} (he : evBoxA H d v.cells = some out) {y : Value} (hy : VR w S B m v y) (e : TypeId) :
    Sound P K B w S m H out (Instr.box e y) := by
  unfold evBoxA at he
  split at he
  · rename_i hp
    cases he
    have hk : v.cells.all V.kept = true := List.all_eq_true.2 fun c hc => plain_kept (List.all_eq_true.1 hp c hc)
    have h2 := (hy.cells hk).imp' (R' := fun c x => x.oneCell' = true ∧ VR w S no m c x ∧ (true = true → FR w S c x)) (fun c x hc r => ⟨r.2.1, r.2.2, fun _ => r.1.plain (List.all_eq_true.1 hp c hc)⟩)
    have A := SR.alloc h (.own d) v.cells true y.cells e (by have := h2.len; simp at this; omega) (fun j c hj => by
      obtain ⟨x, hx, r⟩ := h2.get hj
      exact ⟨x, by simpa using hx, r.1, r.2.1, r.2.2⟩)
    refine ⟨.pointer (some ⟨w.heap.size, 0, none⟩), _, S, _, ?_, A.1, A.2, ?_⟩
    · simp [Instr.box, newVar]
      unfold newRow newObj; rfl
    · have := VR.ptr (w := w.alloc (.cells y.cells e)) (S := S) (B := B) (m := Map.put m (.own d) ⟨nextGen H (.own d), w.heap.size, 0, v.cells.length, y.cells.size⟩) (.own d) 0 _ (Map.put_same ..)
      simpa using this
  · cases he
/-- what is laid and never written again -/
theorem SR.lay (h : SR w S K m H) (arr : Array Value) (ty : TypeId) : Step K w S m (w.alloc (.cells arr ty)) (fun r => S r ∨ r = w.heap.size) m ∧ SR (w.alloc (.cells arr ty)) (fun r => S r ∨ r = w.heap.size) K m H := by
  have st : Step K w S m (w.alloc (.cells arr ty)) (fun r => S r ∨ r = w.heap.size) m :=
    ⟨rfl, rfl, rfl, by simp, fun rb hb => .inl hb, fun rb hb => hb.elim .inl (fun e => .inr (fun hk => by have := h.kin rb hk; omega)), fun rb hb => alloc_old _ _ (hb.elim (h.sub rb) (h.kin rb)), fun i im hm => ⟨im, hm, Nat.le_refl _, fun _ => rfl⟩, KeepsOthers.alloc _ _⟩
  refine ⟨st, ⟨fun rb hb => hb.elim (fun q => Nat.lt_of_lt_of_le (h.sub rb q) st.size) (fun e => by subst e; simp), fun rb hb => Nat.lt_of_lt_of_le (h.kin rb hb) st.size, fun i b hi => ?_, h.non, h.inj, h.own, fun rb hb => hb.elim (fun q => by rw [st.pres rb (.inl q)]; exact h.scel rb q) (fun e => by subst e; exact ⟨_, alloc_row _ _, rfl⟩)⟩⟩
  obtain ⟨im, hm, ok⟩ := h.blk i b hi
  exact ⟨im, hm, ok.mono st (alloc_old _ _ ok.lt) (fun hf hs => hs.elim (ok.thaw hf) (fun e => by have := ok.lt; omega))⟩
theorem boxO_sound (h : SR w S K m H) (hB : ∀ rb, B rb → K rb) (d : Nat) {v : V} {out : Out} (he : boxO H d v = some out) {y : Value} (hy : VR w S B m v y) (e : TypeId) :
    Sound P K B w S m H out (Instr.box e y) := by
  unfold boxO at he
  split at he
  · rename_i xs
    cases he
    obtain ⟨st, sr⟩ := h.lay #[y] e
    have hcr : CR w S B (.list xs true) y := by
      cases hy with
      | fr h => cases h
      | llist _ sz cap a vals h1 h2 h3 h4 => exact .inr (.inl ⟨xs, rfl, sz, cap, a, vals, rfl, h1, h2, h3, h4⟩)
    have hc1 : y.cells = #[y] := by
      cases hy with
      | fr h => cases h
      | llist _ sz cap a vals h1 h2 h3 h4 => rfl
    refine ⟨.pointer (some ⟨w.heap.size, 0, none⟩), _, _, m, ?_, st, sr, ?_⟩
    · simp [Instr.box, newVar, hc1]
      unfold newRow newObj; rfl
    · refine .lfptr _ w.heap.size 0 (fun _ => y) (.inl (.inr rfl)) (fun j hj => ?_) (fun j c hj => ?_)
      · have : j = 0 := by simpa using hj
        subst this
        rw [cell_of_row _ _ _ _ _ _ (alloc_row _ _)]
        rfl
      · have : j = 0 := by have := (List.getElem?_eq_some_iff.1 hj).1; simpa using this
        subst this
        simp at hj; subst hj
        rcases hcr with hcr | ⟨xs', e1, sz, cap, a, vals, e2, h1, h2, h3, h4⟩ | hcr
        · cases hcr
        · refine .inr (.inl ⟨xs', e1, sz, cap, a, vals, e2, h1, h2, fun hne => ?_, fun j c hj => (h4 j c hj).mono (fun rb hb => st.pres rb (.inl hb)) st.sub⟩)
          obtain ⟨rb, o, q1, q2, q3⟩ := h3 hne
          exact ⟨rb, o, q1, q2.imp .inl id, fun j hj => by rw [cell_of_block (st.pres rb (q2.imp id (hB rb)))]; exact q3 j hj⟩
        · cases hcr
  · exact box_sound h d he hy e

theorem alloc_sound (h : SR w S K m H) (d : Nat) {z : List V} {e : TypeId} (hz : zOf P e = some z) {out : Out} (he : evBox H d z = some out) :
    Sound P K B w S m H out (Instr.alloc e true (.tuple #[])) := by
  obtain ⟨y, hr, rfl⟩ := run_zero' hz w
  obtain ⟨x, w', S', m', h1, h2⟩ := box_sound (P := P) (B := B) h d he (ofVal_VR y) e
  refine ⟨x, w', S', m', ?_, h2⟩
  rw [← h1]
  simp [Instr.alloc, Instr.box, hr]
theorem allocA_sound (h : SR w S K m H) (d : Nat) {z : List V} {e : TypeId} (hz : zOf P e = some z) {out : Out} (he : evBoxA H d z = some out) :
    Sound P K B w S m H out (Instr.alloc e true (.tuple #[])) := by
  obtain ⟨y, hr, rfl⟩ := run_zero' hz w
  obtain ⟨x, w', S', m', h1, h2⟩ := boxA_sound (P := P) (B := B) h d he (ofVal_VR y) e
  refine ⟨x, w', S', m', ?_, h2⟩
  rw [← h1]
  simp [Instr.alloc, Instr.box, hr]
end
end Go.Proofs.Ytieapebabncliaa.Iv

namespace Go.Proofs.Ytieapebabncliaa.Iv
open Go
section
variable {P : Program} {K B : Nat → Prop} {w : World} {S : Nat → Prop} {m : Map} {H : Heap}
set_option linter.unusedVariables false
set_option linter.unusedSimpArgs false

theorem VR.int_inv {k n x} (h : VR w S B m (.int k n) x) : x = .int k n := by cases h with | fr h => cases h; rfl
theorem VR.bool_inv {b x} (h : VR w S B m (.bool b) x) : x = .bool b := by cases h with | fr h => cases h; rfl
theorem VR.str_inv {s x} (h : VR w S B m (.str s) x) : x = .string ⟨s.toArray⟩ := by cases h with | fr h => cases h; rfl
theorem VR.nilp_inv {x} (h : VR w S B m .nilp x) : x = .pointer none := by cases h with | fr h => cases h; rfl
theorem VR.nils_inv {x} (h : VR w S B m .nils x) : x = .slice none 0 0 := by cases h with | fr h => cases h; rfl
theorem VR.emp_inv {x} (h : VR w S B m .emp x) : ∃ a, x = .slice a 0 0 := by cases h with | fr h => cases h; exact ⟨_, rfl⟩
theorem VR.nilf_inv {x} (h : VR w S B m .nilf x) : x = .nilFunc := by cases h with | fr h => cases h; rfl
theorem VR.i {k n} : VR w S B m (.int k n) (.int k n) := .fr (.int k n)
theorem VR.b {b} : VR w S B m (.bool b) (.bool b) := .fr (.bool b)

/-- a list, lent or not -/
theorem VR.list_inv {xs : List (List V)} {l : Bool} {x : Value} (h : VR w S B m (.list xs l) x) :
    ∃ (sz cap : Nat) (a : Option Addr) (vals : Nat → Value), x = .slice a xs.length cap ∧ xs.length ≤ cap ∧ (∀ x ∈ xs, x.length = sz) ∧
      (xs ≠ [] → ∃ rb o, a = some ⟨rb, o, none⟩ ∧ (S rb ∨ (l = true ∧ B rb)) ∧ ∀ j, j < xs.flatten.length → w.cell? ⟨rb, o + j, none⟩ = some (vals j)) ∧
      (∀ (j : Nat) (c : V), xs.flatten[j]? = some c → FR w S c (vals j)) := by
  cases h with
  | fr h => cases h with
    | list _ sz cap a vals h1 h2 h3 h4 => exact ⟨sz, cap, a, vals, rfl, h1, h2, fun hne => let ⟨rb, o, e, hs, hc⟩ := h3 hne; ⟨rb, o, e, .inl hs, hc⟩, h4⟩
  | llist _ sz cap a vals h1 h2 h3 h4 => exact ⟨sz, cap, a, vals, rfl, h1, h2, fun hne => let ⟨rb, o, e, hs, hc⟩ := h3 hne; ⟨rb, o, e, hs.imp id (fun b => ⟨rfl, b⟩), hc⟩, h4⟩
theorem VR.list_mk {xs : List (List V)} {l : Bool} (sz cap : Nat) (a : Option Addr) (vals : Nat → Value) (h1 : xs.length ≤ cap) (h2 : ∀ x ∈ xs, x.length = sz)
    (h3 : xs ≠ [] → ∃ rb o, a = some ⟨rb, o, none⟩ ∧ (S rb ∨ (l = true ∧ B rb)) ∧ ∀ j, j < xs.flatten.length → w.cell? ⟨rb, o + j, none⟩ = some (vals j))
    (h4 : ∀ (j : Nat) (c : V), xs.flatten[j]? = some c → FR w S c (vals j)) : VR w S B m (.list xs l) (.slice a xs.length cap) := by
  cases l with
  | false => exact .fr (.list xs sz cap a vals h1 h2 (fun hne => let ⟨rb, o, e, hs, hc⟩ := h3 hne; ⟨rb, o, e, hs.elim id (fun q => by cases q.1), hc⟩) h4)
  | true => exact .llist xs sz cap a vals h1 h2 (fun hne => let ⟨rb, o, e, hs, hc⟩ := h3 hne; ⟨rb, o, e, hs.imp id (·.2), hc⟩) h4
/-- a cell of a block of which is said whether it is lent -/
def CRl (w : World) (S B : Nat → Prop) (l : Bool) (c : V) (x : Value) : Prop := match l with | true => CR w S B c x | false => FR w S c x
theorem CRl.of {w : World} {S B : Nat → Prop} {l : Bool} {c : V} {x : Value} (h : FR w S c x) : CRl w S B l c x := by cases l <;> first | exact h | exact .inl h
theorem VR.fptr_inv {cs : List V} {l : Bool} {x : Value} (h : VR w S B m (.fptr cs l) x) :
    ∃ (rb o : Nat) (vals : Nat → Value), x = .pointer (some ⟨rb, o, none⟩) ∧ (S rb ∨ (l = true ∧ B rb)) ∧ (∀ j, j < cs.length → w.cell? ⟨rb, o + j, none⟩ = some (vals j)) ∧
      (∀ (j : Nat) (c : V), cs[j]? = some c → CRl w S B l c (vals j)) := by
  cases h with
  | fr h => cases h with
    | fptr _ rb o vals h1 h2 h3 => exact ⟨rb, o, vals, rfl, .inl h1, h2, h3⟩
  | lfptr _ rb o vals h1 h2 h3 => exact ⟨rb, o, vals, rfl, h1.imp id (fun b => ⟨rfl, b⟩), h2, h3⟩
theorem VR.fptr_mk {cs : List V} {l : Bool} (rb o : Nat) (vals : Nat → Value) (h1 : S rb ∨ (l = true ∧ B rb)) (h2 : ∀ j, j < cs.length → w.cell? ⟨rb, o + j, none⟩ = some (vals j))
    (h3 : ∀ (j : Nat) (c : V), cs[j]? = some c → CRl w S B l c (vals j)) : VR w S B m (.fptr cs l) (.pointer (some ⟨rb, o, none⟩)) := by
  cases l with
  | false => exact .fr (.fptr cs rb o vals (h1.elim id (fun q => by cases q.1)) h2 h3)
  | true => exact .lfptr cs rb o vals (h1.imp id (·.2)) h2 h3

theorem flatten_get (sz : Nat) : ∀ (xs : List (List V)), (∀ x ∈ xs, x.length = sz) → ∀ (i j : Nat) (x : List V) (c : V), xs[i]? = some x → x[j]? = some c → xs.flatten[i * sz + j]? = some c
  | [], _, i, j, x, c, h, _ => by simp at h
  | y :: ys, hz, 0, j, x, c, h, hj => by
    simp at h; subst h
    have : j < y.length := (List.getElem?_eq_some_iff.1 hj).1
    simp only [List.flatten_cons, Nat.zero_mul, Nat.zero_add]
    rw [List.getElem?_append_left this]; exact hj
  | y :: ys, hz, i + 1, j, x, c, h, hj => by
    have hy : y.length = sz := hz y (by simp)
    simp only [List.flatten_cons]
    rw [List.getElem?_append_right (by rw [hy, Nat.succ_mul]; omega), hy, show (i + 1) * sz + j - sz = i * sz + j by rw [Nat.succ_mul]; omega]
    exact flatten_get sz ys (fun z hz' => hz z (by simp [hz'])) i j x c (by simpa using h) hj
theorem flatten_len (sz : Nat) : ∀ (xs : List (List V)), (∀ x ∈ xs, x.length = sz) → xs.flatten.length = xs.length * sz
  | [], _ => by simp
  | y :: ys, hz => by
    simp only [List.flatten_cons, List.length_append, List.length_cons, hz y (by simp), flatten_len sz ys (fun z h => hz z (by simp [h])), Nat.succ_mul]
    omega

theorem indexAddr_sound (h : SR w S K m H) {t : Nat} {a i : V} {out : Out} (he : evIndexAddr P t a i = some out) {x y : Value} (hx : VR w S B m a x) (hy : VR w S B m i y) :
    Sound P K B w S m H out (Instr.indexAt t x y) := by
  unfold evIndexAddr at he
  split at he
  · rename_i k n
    have := hy.int_inv; subst this
    split at he
    · rename_i h0
      split at he
      · rename_i e hu
        split at he
        · rename_i sz hs
          split at he
          · rename_i b g o n' s2 lim
            split at he
            · rename_i hc
              obtain ⟨rfl, hlt⟩ := hc
              cases he
              have hb : 0 ≤ n ∧ n < (n' : Int) := ⟨h0, by omega⟩
              cases hx with
              | fr h => cases h
              | sl _ _ _ _ _ im a cap hm ha h1 h2 h3 h4 h5 =>
                have ha' := ha (by omega)
                subst ha'
                refine Sound.pure h (x := .pointer (some ⟨im.rb, im.dl + (o + n.toNat * s2), none⟩)) ?_ (VR.ptr b _ im hm)
                simp [Instr.indexAt, asIntOf, run_underlying hu, run_sizeOf' hs, hb, add_eq, Nat.add_assoc]
              | slD _ _ _ _ _ _ im a cap hm hg =>
                refine Sound.pure h (x := .pointer (some (a.add (n.toNat * s2)))) ?_ (VR.ptrD b _ _ im _ hm hg)
                simp [Instr.indexAt, asIntOf, run_underlying hu, run_sizeOf' hs, hb]
            · cases he
          · rename_i xs l
            split at he
            · rename_i cs hcs
              split at he
              · rename_i hc
                obtain ⟨hlen, hpos⟩ := hc
                cases he
                obtain ⟨sz', cap, a, vals, rfl, h1, h2, h3, h4⟩ := hx.list_inv
                have hi : n.toNat < xs.length := (List.getElem?_eq_some_iff.1 hcs).1
                have hz : sz' = sz := by rw [← hlen]; exact (h2 cs (List.mem_of_getElem? hcs)).symm
                subst hz
                obtain ⟨rb, o, rfl, hS, hcell⟩ := h3 (fun e => by subst e; simp at hi)
                have hb : 0 ≤ n ∧ n < (xs.length : Int) := ⟨h0, by omega⟩
                refine Sound.pure h (x := .pointer (some ⟨rb, o + n.toNat * sz', none⟩)) ?_ (VR.fptr_mk rb _ (fun j => vals (n.toNat * sz' + j)) hS (fun j hj => ?_) (fun j c hj => ?_))
                · simp [Instr.indexAt, asIntOf, run_underlying hu, run_sizeOf' hs, hb, add_eq]
                · have := flatten_get sz' xs h2 _ j cs _ hcs (List.getElem?_eq_getElem hj)
                  rw [Nat.add_assoc]
                  exact hcell _ (List.getElem?_eq_some_iff.1 this).1
                · exact CRl.of (h4 _ _ (flatten_get sz' xs h2 _ j cs _ hcs hj))
              · cases he
            · cases he
          · cases he
        · cases he
      · rename_i n' e hu
        split at he
        · rename_i sz hs
          split at he
          · rename_i hlt
            have hb : 0 ≤ n ∧ n < (n' : Int) := ⟨h0, by omega⟩
            split at he
            · rename_i b g o
              cases he
              cases hx with
              | fr h => cases h
              | ptr _ _ im hm =>
                refine Sound.pure h (x := .pointer (some ⟨im.rb, im.dl + (o + n.toNat * sz), none⟩)) ?_ (VR.ptr b _ im hm)
                simp [Instr.indexAt, Instr.sureAddr, asIntOf, run_underlying hu, run_sizeOf' hs, hb, add_eq, Nat.add_assoc]
              | ptrD _ _ _ im a hm hg =>
                refine Sound.pure h (x := .pointer (some (a.add (n.toNat * sz)))) ?_ (VR.ptrD b _ _ im _ hm hg)
                simp [Instr.indexAt, Instr.sureAddr, asIntOf, run_underlying hu, run_sizeOf' hs, hb]
            · rename_i cs l
              split at he
              · rename_i hle
                cases he
                obtain ⟨rb, o, vals, rfl, h1, h2, h3⟩ := hx.fptr_inv
                refine Sound.pure h (x := .pointer (some ⟨rb, o + n.toNat * sz, none⟩)) ?_ (VR.fptr_mk rb _ (fun j => vals (n.toNat * sz + j)) h1 (fun j hj => ?_) (fun j c hj => ?_))
                · simp [Instr.indexAt, Instr.sureAddr, asIntOf, run_underlying hu, run_sizeOf' hs, hb, add_eq]
                · rw [Nat.add_assoc]; exact h2 _ (by simp at hj; omega)
                · rw [List.getElem?_drop] at hj; exact h3 _ _ hj
              · cases he
            · cases he
          · cases he
        · cases he
      · cases he
    · cases he
  · cases he

theorem fieldAddr_sound (h : SR w S K m H) {t f : Nat} {a : V} {out : Out} (he : evFieldAddr P t a f = some out) {x : Value} (hx : VR w S B m a x) :
    Sound P K B w S m H out (Instr.fieldAt t x f) := by
  unfold evFieldAddr at he
  split at he
  · rename_i fs hu
    split at he
    · rename_i fd hf
      split at he
      · rename_i s hs
        have hrun : ∀ a : Addr, (Instr.fieldAt t (.pointer (some a)) f).run P w = .ok (.pointer (some (a.add fd.offset))) w := by
          intro a
          simp [Instr.fieldAt, Instr.sureAddr, fieldPlace, run_underlying hu, hf, run_sizeOf' hs]
        split at he
        · rename_i b g o
          cases he
          cases hx with
          | fr h => cases h
          | ptr _ _ im hm =>
            refine Sound.pure h (hrun _) ?_
            rw [add_eq, Nat.add_assoc]
            exact VR.ptr b _ im hm
          | ptrD _ _ _ im a hm hg => exact Sound.pure h (hrun _) (VR.ptrD b _ _ im _ hm hg)
        · rename_i cs l
          split at he
          · rename_i hle
            cases he
            obtain ⟨rb, o, vals, rfl, h1, h2, h3⟩ := hx.fptr_inv
            refine Sound.pure h (hrun _) ?_
            rw [add_eq]
            refine VR.fptr_mk rb _ (fun j => vals (fd.offset + j)) h1 (fun j hj => ?_) (fun j c hj => ?_)
            · rw [Nat.add_assoc]; exact h2 _ (by simp at hj; omega)
            · rw [List.getElem?_drop] at hj; exact h3 _ _ hj
          · cases he
        · cases he
      · cases he
    · cases he
  · cases he

theorem mkv_VR {ag : Bool} {cs : List V} {v : V} (hv : mkv ag cs = some v) {xs : List Value} (h2 : All2 (VR w S B m) cs xs) :
    ∃ x, VR w S B m v x ∧ (ag = true → x = .agg xs.toArray) ∧ (ag = false → xs = [x]) := by
  cases ag with
  | true => simp only [mkv, Option.some.injEq] at hv; subst hv; exact ⟨_, VR.agg_mk h2, fun _ => rfl, fun h => by cases h⟩
  | false =>
    cases cs with
    | nil => simp [mkv] at hv
    | cons c cs => cases cs with
      | cons => simp [mkv] at hv
      | nil =>
        simp only [mkv, Option.some.injEq] at hv; subst hv
        cases xs with
        | nil => exact h2.elim
        | cons x xs => cases xs with
          | nil => exact ⟨x, h2.1, (fun h => by cases h), fun _ => rfl⟩
          | cons => exact h2.2.elim
theorem part_sound {t o : Nat} {cs : List V} {v : V} (he : evPart P t cs o = some v) {xs : List Value} (h2 : All2 (VR w S B m) cs xs) :
    ∃ x, (part t xs.toArray o).run P w = .ok x w ∧ VR w S B m v x := by
  unfold evPart at he
  split at he
  · rename_i sz ag hs hg
    split at he
    · rename_i ys hc
      obtain ⟨rfl, hl⟩ := cut_some hc
      have h3 := (h2.drop o).take sz
      obtain ⟨x, hx, ha, hb⟩ := mkv_VR he h3
      refine ⟨x, ?_, hx⟩
      unfold part
      simp only [Sem.run_bind, run_isAgg' hg, Result.andThen_ok]
      cases ag with
      | true =>
        rw [ha rfl]
        have : xs.toArray.extract o (o + sz) = (List.take sz (List.drop o xs)).toArray := by
          apply Array.ext'
          simp
        simp [run_sizeOf' hs]
      | false =>
        have hb' := hb rfl
        have : xs[o]? = some x := by
          have h0 : (List.take sz (List.drop o xs))[0]? = some x := by rw [hb']; rfl
          have hsz : 0 < sz := by
            rcases Nat.eq_zero_or_pos sz with e | e
            · subst e; simp at h0
            · exact e
          rw [List.getElem?_take_of_lt hsz, List.getElem?_drop] at h0
          simpa using h0
        simp [this]
    · cases he
  · cases he

/-- a value, by a function of the ideal machine that leaves the heap alone -/
def SoundV (P : Program) (B : Nat → Prop) (w : World) (S : Nat → Prop) (m : Map) (v : V) (s : Sem Value) : Prop := ∃ x, s.run P w = .ok x w ∧ VR w S B m v x
theorem SoundV.lift (h : SR w S K m H) {o : Option V} {out : Out} (he : liftO o = some out) {s : Sem Value} (hs : ∀ v, o = some v → SoundV P B w S m v s) : Sound P K B w S m H out s := by
  cases o with
  | none => cases he
  | some v =>
    cases he
    obtain ⟨x, hr, hv⟩ := hs v rfl
    exact Sound.pure h hr hv

theorem field_sound {t f : Nat} {a v : V} (he : evField P t a f = some v) {x : Value} (hx : VR w S B m a x) : SoundV P B w S m v (Instr.field t x f) := by
  unfold evField at he
  split at he
  · rename_i fs cs hu
    split at he
    · rename_i fd hf
      obtain ⟨xs, rfl, h2⟩ := hx.agg_inv
      obtain ⟨y, hr, hy⟩ := part_sound (w := w) (S := S) (B := B) (m := m) he h2
      exact ⟨y, by simp [Instr.field, run_underlying hu, hf, asAgg, hr], hy⟩
    · cases he
  · cases he

theorem index_sound {t : Nat} {a i v : V} (he : evIndex P t a i = some v) {x y : Value} (hx : VR w S B m a x) (hy : VR w S B m i y) : SoundV P B w S m v (Instr.index t x y) := by
  unfold evIndex at he
  split at he
  · rename_i k n
    have := hy.int_inv; subst this
    split at he
    · rename_i h0
      split at he
      · rename_i n' e cs hu
        split at he
        · rename_i sz hs
          split at he
          · rename_i hlt
            obtain ⟨xs, rfl, h2⟩ := hx.agg_inv
            obtain ⟨y, hr, hy⟩ := part_sound (w := w) (S := S) (B := B) (m := m) he h2
            have hb : 0 ≤ n ∧ n < (n' : Int) := ⟨h0, by omega⟩
            exact ⟨y, by simp [Instr.index, asIntOf, run_underlying hu, hb, run_sizeOf' hs, hr], hy⟩
          · cases he
        · cases he
      · rename_i s hu
        split at he
        · rename_i b hb
          cases he
          have := hx.str_inv; subst this
          have hlt : n.toNat < s.length := (List.getElem?_eq_some_iff.1 hb).1
          have : (⟨s.toArray⟩ : ByteArray)[n.toNat]? = some b := by
            have hb' := List.getElem?_eq_some_iff.1 hb
            have hs : n.toNat < (⟨s.toArray⟩ : ByteArray).size := by simpa [ByteArray.size] using hlt
            rw [getElem?_pos (⟨s.toArray⟩ : ByteArray) n.toNat hs]
            obtain ⟨q1, q2⟩ := hb'
            exact congrArg some q2
          exact ⟨_, by simp [Instr.index, asIntOf, run_underlying hu, h0, this], .i⟩
        · cases he
      · cases he
    · cases he
  · cases he

theorem extract_sound {vs : List V} {i : Nat} {v : V} (he : vs[i]? = some v) {x : Value} (hx : VR w S B m (.tup vs) x) : SoundV P B w S m v (Instr.extract x i) := by
  obtain ⟨xs, rfl, h2⟩ := hx.tup_inv
  obtain ⟨y, hy, hv⟩ := h2.get he
  exact ⟨y, by simp [Instr.extract, hy], hv⟩
end
end Go.Proofs.Ytieapebabncliaa.Iv

namespace Go.Proofs.Ytieapebabncliaa.Iv
open Go
section
variable {P : Program} {K B : Nat → Prop} {w : World} {S : Nat → Prop} {m : Map} {H : Heap}
set_option linter.unusedVariables false
set_option linter.unusedSimpArgs false

def OptR (R : V → Value → Prop) : Option V → Option Value → Prop
  | none, none => True
  | some v, some x => R v x
  | _, _ => False

theorem run_bound {k : IntKind} {i : Int} {y : Nat} {code : BoundsCode} (h : 0 ≤ i) (hy : i.toNat ≤ y) : (Instr.sliceBound (.int k i) y code).run P w = .ok i.toNat w := by
  have : 0 ≤ i ∧ i ≤ (y : Int) := ⟨h, by omega⟩
  simp [Instr.sliceBound, asIntOf, this]

theorem bnd_inv {o : Option V} {o' : Option Value} {d n : Nat} (hr : OptR (VR w S B m) o o') (h : bnd o d = some n) :
    (o' = none ∧ n = d ∧ o = none) ∨ ∃ k i, o' = some (.int k i) ∧ 0 ≤ i ∧ n = i.toNat ∧ o = some (.int k i) := by
  cases o with
  | none => cases o' with
    | none => simp [bnd] at h; exact .inl ⟨rfl, h.symm, rfl⟩
    | some => exact hr.elim
  | some v => cases o' with
    | none => exact hr.elim
    | some x =>
      unfold bnd at h
      split at h
      · rename_i e; cases e
      · rename_i k i e
        cases e
        have := VR.int_inv hr
        subst this
        split at h
        · rename_i h0; cases h; exact .inr ⟨_, _, rfl, h0, rfl, rfl⟩
        · cases h
      · cases h

theorem run_bounds2 {isS : Bool} {len cap l h : Nat} {lo hi : Option V} {lo' hi' : Option Value} (rl : OptR (VR w S B m) lo lo') (rh : OptR (VR w S B m) hi hi')
    (el : bnd lo 0 = some l) (eh : bnd hi len = some h) (hlh : l ≤ h) (hc : h ≤ cap) : (Instr.sliceBounds isS len cap lo' hi' none).run P w = .ok (l, h, cap) w := by
  unfold Instr.sliceBounds
  rcases bnd_inv rl el with ⟨rfl, rfl, _⟩ | ⟨k1, i1, rfl, p1, rfl, _⟩ <;> rcases bnd_inv rh eh with ⟨rfl, rfl, _⟩ | ⟨k2, i2, rfl, p2, rfl, _⟩ <;>
    simp [run_bound, *]
theorem run_bounds3 {len cap l h mm : Nat} {lo hi : Option V} {lo' hi' : Option Value} {mx : V} {mx' : Value} (rl : OptR (VR w S B m) lo lo') (rh : OptR (VR w S B m) hi hi') (rm : VR w S B m mx mx')
    (el : bnd lo 0 = some l) (eh : bnd hi 0 = some h) (em : bnd (some mx) 0 = some mm) (his : hi.isSome = true) (hlh : l ≤ h) (hc : h ≤ mm) (hmc : mm ≤ cap) :
    (Instr.sliceBounds true len cap lo' hi' (some mx')).run P w = .ok (l, h, mm) w := by
  unfold Instr.sliceBounds
  rcases bnd_inv (o := some mx) (o' := some mx') rm em with ⟨e, _⟩ | ⟨k3, i3, e, p3, rfl, _⟩
  · cases e
  · cases e
    rcases bnd_inv rh eh with ⟨_, _, e⟩ | ⟨k2, i2, rfl, p2, rfl, _⟩
    · subst e; simp at his
    · rcases bnd_inv rl el with ⟨rfl, rfl, _⟩ | ⟨k1, i1, rfl, p1, rfl, _⟩ <;> simp [run_bound, *]

theorem flatten_drop (sz : Nat) : ∀ (xs : List (List V)) (l : Nat), (∀ x ∈ xs, x.length = sz) → (xs.drop l).flatten = xs.flatten.drop (l * sz)
  | xs, 0, _ => by simp
  | [], l + 1, _ => by simp
  | y :: ys, l + 1, hz => by
    have hy : y.length = sz := hz y (by simp)
    simp only [List.drop_succ_cons, List.flatten_cons]
    have hd : y.drop ((l + 1) * sz) = [] := List.drop_eq_nil_of_le (by rw [hy, Nat.succ_mul]; omega)
    rw [flatten_drop sz ys l (fun z h => hz z (by simp [h])), List.drop_append, hy, hd, List.nil_append, show (l + 1) * sz - sz = l * sz by rw [Nat.succ_mul]; omega]
theorem flatten_take (sz : Nat) : ∀ (xs : List (List V)) (l : Nat), (∀ x ∈ xs, x.length = sz) → (xs.take l).flatten = xs.flatten.take (l * sz)
  | xs, 0, _ => by simp
  | [], l + 1, _ => by simp
  | y :: ys, l + 1, hz => by
    have hy : y.length = sz := hz y (by simp)
    simp only [List.take_succ_cons, List.flatten_cons]
    have hd : y.take ((l + 1) * sz) = y := List.take_of_length_le (by rw [hy, Nat.succ_mul]; omega)
    rw [flatten_take sz ys l (fun z h => hz z (by simp [h])), List.take_append, hy, hd, show (l + 1) * sz - sz = l * sz by rw [Nat.succ_mul]; omega]

theorem slice_slice {t e sz : Nat} (hu : P.underlying t = some (.slice e)) (hs : szOf P e = some sz) {a : Option Addr} {len cap l h mm : Nat} {lo hi mx : Option Value}
    (hb : (Instr.sliceBounds true len cap lo hi mx).run P w = .ok (l, h, mm) w) :
    (Instr.sliceAt t (.slice a len cap) lo hi mx).run P w = .ok (.slice (if mm = l then a else a.map (·.add (l * sz))) (h - l) (mm - l)) w := by
  simp [Instr.sliceAt, Instr.slice, run_underlying hu, hb, run_sizeOf' hs]

theorem slice_sound (h : SR w S K m H) {t : Nat} {a : V} {lo hi mx : Option V} {out : Out} (he : evSlice P H t a lo hi mx = some out) {x : Value} {lo' hi' mx' : Option Value}
    (hx : VR w S B m a x) (rl : OptR (VR w S B m) lo lo') (rh : OptR (VR w S B m) hi hi') (rm : OptR (VR w S B m) mx mx') :
    Sound P K B w S m H out (Instr.sliceAt t x lo' hi' mx') := by
  unfold evSlice at he
  split at he
  · rename_i hu
    split at he
    · rename_i s
      have := hx.str_inv; subst this
      cases mx' with
      | some => exact rm.elim
      | none =>
      split at he
      · rename_i l hh el eh
        split at he
        · rename_i hc
          cases he
          refine Sound.pure h (x := .string ⟨((s.take hh).drop l).toArray⟩) ?_ (.fr (.str _))
          have hb := run_bounds2 (P := P) (isS := false) (cap := s.length) rl rh el eh hc.1 hc.2
          have hsz : (⟨s.toArray⟩ : ByteArray).size = s.length := by simp [ByteArray.size]
          have hex : (⟨s.toArray⟩ : ByteArray).extract l hh = ⟨((s.take hh).drop l).toArray⟩ := by
            apply ByteArray.ext
            apply Array.ext'
            simp [ByteArray.data_extract, List.extract_eq_take_drop, List.drop_take]
          simp only [Instr.sliceAt, Instr.slice, Sem.run_bind, run_underlying hu, Result.andThen_ok, hsz, hb, Option.isSome_none, Bool.false_eq_true, if_false, hex]
          rfl
        · cases he
      · cases he
    · cases he
  · rename_i e hu
    split at he
    · rename_i sz hs
      split at he
      · cases he
      · rename_i hz
        split at he
        · -- nils
          have := hx.nils_inv; subst this
          split at he
          · rename_i e1 e2 e3
            split at he
            · cases he
            · rename_i hq
              cases he
              refine Sound.pure h (x := .slice none 0 0) ?_ (.fr .nils)
              cases mx with
              | none => cases mx' with
                | some => exact rm.elim
                | none =>
                  rw [slice_slice hu hs (run_bounds2 (P := P) (isS := true) rl rh e1 e2 (Nat.le_refl _) (Nat.le_refl _))]
                  simp
              | some mv => cases mx' with
                | none => exact rm.elim
                | some mv' =>
                  have his : hi.isSome = true := by cases hi <;> simp_all
                  rw [slice_slice hu hs (run_bounds3 (P := P) (len := 0) (cap := 0) rl rh rm e1 e2 e3 his (Nat.le_refl _) (Nat.le_refl _) (Nat.le_refl _))]
                  simp
          · cases he
        · -- emp
          obtain ⟨a0, rfl⟩ := hx.emp_inv
          split at he
          · rename_i e1 e2 e3
            split at he
            · cases he
            · rename_i hq
              cases he
              refine Sound.pure h (x := .slice a0 0 0) ?_ (.fr (.emp _))
              cases mx with
              | none => cases mx' with
                | some => exact rm.elim
                | none =>
                  rw [slice_slice hu hs (run_bounds2 (P := P) (isS := true) rl rh e1 e2 (Nat.le_refl _) (Nat.le_refl _))]
                  simp
              | some mv => cases mx' with
                | none => exact rm.elim
                | some mv' =>
                  have his : hi.isSome = true := by cases hi <;> simp_all
                  rw [slice_slice hu hs (run_bounds3 (P := P) (len := 0) (cap := 0) rl rh rm e1 e2 e3 his (Nat.le_refl _) (Nat.le_refl _) (Nat.le_refl _))]
                  simp
          · cases he
        · -- list
          rename_i xs lent
          obtain ⟨sz', cap, a, vals, rfl, h1, h2, h3, h4⟩ := hx.list_inv
          split at he
          · cases mx' with
            | some => exact rm.elim
            | none =>
            split at he
            · rename_i l hh el eh
              split at he
              · rename_i hc
                obtain ⟨hc1, hc2, hc3⟩ := hc
                cases he
                have hz' : ∀ x ∈ xs, x.length = sz := fun x hx => by simpa using List.all_eq_true.1 hc3 x hx
                have hfl : ((xs.take hh).drop l).flatten = (xs.flatten.take (hh * sz)).drop (l * sz) := by
                  rw [flatten_drop sz _ _ (fun x hx => hz' x (List.mem_of_mem_take hx)), flatten_take sz _ _ hz']
                have hlen : ((xs.take hh).drop l).length = hh - l := by simp; omega
                have hr := slice_slice (P := P) (w := w) hu hs (a := a) (run_bounds2 (P := P) (isS := true) (cap := cap) rl rh el eh hc1 (by omega))
                rw [← hlen] at hr
                refine Sound.pure h hr (VR.list_mk sz _ _ (fun j => vals (l * sz + j)) (by omega) (fun x hx => hz' x (List.mem_of_mem_take (List.mem_of_mem_drop hx))) (fun hne => ?_) (fun j c hj => ?_))
                · have hlt : l < hh := by
                    rcases Nat.lt_or_ge l hh with q | q
                    · exact q
                    · exact absurd (List.length_eq_zero_iff.1 (by omega)) hne
                  obtain ⟨rb, o, rfl, hS, hcell⟩ := h3 (fun e => by subst e; simp at hc2; omega)
                  refine ⟨rb, o + l * sz, ?_, hS, fun j hj => ?_⟩
                  · rw [if_neg (by omega)]; simp [add_eq]
                  · rw [hfl] at hj
                    rw [Nat.add_assoc]
                    exact hcell _ (by simp only [List.length_drop, List.length_take] at hj; omega)
                · rw [hfl, List.getElem?_drop] at hj
                  have hlt : l * sz + j < hh * sz := by
                    rcases Nat.lt_or_ge (l * sz + j) (hh * sz) with q | q
                    · exact q
                    · rw [List.getElem?_take, if_neg (by omega)] at hj; cases hj
                  rw [List.getElem?_take_of_lt hlt] at hj
                  exact h4 _ _ hj
              · cases he
            · cases he
          · rename_i mv
            cases mx' with
            | none => exact rm.elim
            | some mv' =>
            split at he
            · rename_i l hh mm el eh em
              split at he
              · rename_i hc
                obtain ⟨hc0, rfl, rfl, hc3⟩ := hc
                cases he
                have hr := slice_slice (P := P) (w := w) hu hs (a := a) (run_bounds3 (P := P) (len := xs.length) (cap := cap) rl rh rm el eh em hc0 (Nat.le_refl _) (Nat.le_refl _) (by omega))
                simp only [if_true, Nat.sub_self] at hr
                exact Sound.pure h hr (.fr (.emp _))
              · split at he
                · rename_i hc
                  obtain ⟨hc0, hc1, hc2, hc4, hc3⟩ := hc
                  cases he
                  have hz' : ∀ x ∈ xs, x.length = sz := fun x hx => by simpa using List.all_eq_true.1 hc3 x hx
                  have hfl : ((xs.take hh).drop l).flatten = (xs.flatten.take (hh * sz)).drop (l * sz) := by
                    rw [flatten_drop sz _ _ (fun x hx => hz' x (List.mem_of_mem_take hx)), flatten_take sz _ _ hz']
                  have hlen : ((xs.take hh).drop l).length = hh - l := by simp; omega
                  have hr := slice_slice (P := P) (w := w) hu hs (a := a) (run_bounds3 (P := P) (len := xs.length) (cap := cap) rl rh rm el eh em hc0 (by omega) hc2 (by omega))
                  rw [← hlen] at hr
                  refine Sound.pure h hr (VR.list_mk sz _ _ (fun j => vals (l * sz + j)) (by omega) (fun x hx => hz' x (List.mem_of_mem_take (List.mem_of_mem_drop hx))) (fun hne => ?_) (fun j c hj => ?_))
                  · have hlt : l < hh := by
                      rcases Nat.lt_or_ge l hh with q | q
                      · exact q
                      · exact absurd (List.length_eq_zero_iff.1 (by omega)) hne
                    obtain ⟨rb, o, rfl, hS, hcell⟩ := h3 (fun e => by subst e; simp at hc4; omega)
                    refine ⟨rb, o + l * sz, ?_, hS, fun j hj => ?_⟩
                    · rw [if_neg (by omega)]; simp [add_eq]
                    · rw [hfl] at hj
                      rw [Nat.add_assoc]
                      exact hcell _ (by simp only [List.length_drop, List.length_take] at hj; omega)
                  · rw [hfl, List.getElem?_drop] at hj
                    have hlt : l * sz + j < hh * sz := by
                      rcases Nat.lt_or_ge (l * sz + j) (hh * sz) with q | q
                      · exact q
                      · rw [List.getElem?_take, if_neg (by omega)] at hj; cases hj
                    rw [List.getElem?_take_of_lt hlt] at hj
                    exact h4 _ _ hj
                · cases he
            · cases he
        · -- sl
          rename_i i g o n s2 lim
          split at he
          · rename_i hs2
            subst hs2
            split at he
            · cases mx' with
              | some => exact rm.elim
              | none =>
              split at he
              · rename_i l hh el eh
                split at he
                · rename_i hlh
                  split at he
                  · rename_i hhn
                    cases he
                    cases hx with
                    | fr h => cases h
                    | sl _ _ _ _ _ im a cap hm ha h1 h2 h3 h4 h5 =>
                      have hr := slice_slice (P := P) (w := w) hu hs (a := some a) (run_bounds2 (P := P) (isS := true) (cap := cap) rl rh el eh hlh (by omega))
                      rw [show (if cap = l then some a else Option.map (fun x => x.add (l * s2)) (some a)) = some (if cap = l then a else a.add (l * s2)) by split <;> rfl] at hr
                      have hls : l * s2 + (hh - l) * s2 = hh * s2 := by rw [← Nat.add_mul]; congr 1; omega
                      have hns : hh * s2 ≤ n * s2 := Nat.mul_le_mul_right _ hhn
                      have hcs : l * s2 + (cap - l) * s2 = cap * s2 := by rw [← Nat.add_mul]; congr 1; omega
                      refine Sound.pure h hr (VR.sl i _ _ _ _ im _ _ hm (fun hp => ?_) (by omega) (by omega) (by omega) (fun e => ?_) (fun c e => ?_))
                      · rw [if_neg (by omega), ha (by omega), add_eq, Nat.add_assoc]
                      · have := h4 (by cases lim <;> simp_all); omega
                      · cases lim with
                        | none => simp at e
                        | some c' => simp at e; have := h5 c' rfl; omega
                    | slD _ _ _ _ _ _ im a cap hm hg h1 h5 =>
                      have hr := slice_slice (P := P) (w := w) hu hs (a := some a) (run_bounds2 (P := P) (isS := true) (cap := cap) rl rh el eh hlh (by omega))
                      rw [show (if cap = l then some a else Option.map (fun x => x.add (l * s2)) (some a)) = some (if cap = l then a else a.add (l * s2)) by split <;> rfl] at hr
                      refine Sound.pure h hr (VR.slD i _ _ _ _ _ im _ _ hm hg (by omega) (fun c e => ?_))
                      cases lim with
                      | none => simp at e
                      | some c' => simp at e; have := h5 c' rfl; omega
                  · split at he
                    · rename_i b hb
                      split at he
                      · rename_i hc
                        obtain ⟨hc1, hc2⟩ := hc
                        cases he
                        obtain ⟨im, a, cap, hm, ok, rfl, hi, rfl, ha, h1, h2, h3, h4, h5⟩ := VR.sl_live h hx hb
                        have hn := ok.n
                        have hhc : hh ≤ cap := by
                          cases lim with
                          | none =>
                            have := h4 rfl
                            have : hh * s2 ≤ cap * s2 := by omega
                            exact Nat.le_of_mul_le_mul_right this (by omega)
                          | some c => have := h5 c rfl; have := hc2 c rfl; omega
                        have hr := slice_slice (P := P) (w := w) hu hs (a := some a) (run_bounds2 (P := P) (isS := true) (cap := cap) rl rh el eh hlh hhc)
                        rw [show (if cap = l then some a else Option.map (fun x => x.add (l * s2)) (some a)) = some (if cap = l then a else a.add (l * s2)) by split <;> rfl] at hr
                        have hls : l * s2 + (hh - l) * s2 = hh * s2 := by rw [← Nat.add_mul]; congr 1; omega
                        have hcs : l * s2 + (cap - l) * s2 = cap * s2 := by rw [← Nat.add_mul]; congr 1; omega
                        refine Sound.pure h hr (VR.sl i _ _ _ _ im _ _ hm (fun hp => ?_) (by omega) (by omega) (by omega) (fun e => ?_) (fun c e => ?_))
                        · rw [if_neg (by omega), ha (by omega), add_eq, Nat.add_assoc]
                        · have := h4 (by cases lim <;> simp_all); omega
                        · cases lim with
                          | none => simp at e
                          | some c' => simp at e; have := h5 c' rfl; omega
                      · cases he
                    · cases he
                · cases he
              · cases he
            · rename_i mv
              cases mx' with
              | none => exact rm.elim
              | some mv' =>
              split at he
              · rename_i l hh mm el eh em
                split at he
                · rename_i hc
                  obtain ⟨hc0, hc1, hc2, hc3⟩ := hc
                  cases he
                  cases hx with
                  | fr h => cases h
                  | sl _ _ _ _ _ im a cap hm ha h1 h2 h3 h4 h5 =>
                    have hr := slice_slice (P := P) (w := w) hu hs (a := some a) (run_bounds3 (P := P) (len := n) (cap := cap) rl rh rm el eh em hc0 hc1 hc2 (by omega))
                    rw [show (if mm = l then some a else Option.map (fun x => x.add (l * s2)) (some a)) = some (if mm = l then a else a.add (l * s2)) by split <;> rfl] at hr
                    have hls : l * s2 + (hh - l) * s2 = hh * s2 := by rw [← Nat.add_mul]; congr 1; omega
                    have hns : hh * s2 ≤ n * s2 := Nat.mul_le_mul_right _ (by omega)
                    have hms : l * s2 + (mm - l) * s2 = mm * s2 := by rw [← Nat.add_mul]; congr 1; omega
                    have hmc : mm * s2 ≤ cap * s2 := Nat.mul_le_mul_right _ (by omega)
                    refine Sound.pure h hr (VR.sl i _ _ _ _ im _ _ hm (fun hp => ?_) (by omega) (by omega) (by omega) (fun e => by cases e) (fun c e => by cases e; rfl))
                    rw [if_neg (by omega), ha (by omega), add_eq, Nat.add_assoc]
                  | slD _ _ _ _ _ _ im a cap hm hg h1 h5 =>
                    have hr := slice_slice (P := P) (w := w) hu hs (a := some a) (run_bounds3 (P := P) (len := n) (cap := cap) rl rh rm el eh em hc0 hc1 hc2 (by omega))
                    rw [show (if mm = l then some a else Option.map (fun x => x.add (l * s2)) (some a)) = some (if mm = l then a else a.add (l * s2)) by split <;> rfl] at hr
                    exact Sound.pure h hr (VR.slD i _ _ _ _ _ im _ _ hm hg (by omega) (fun c e => by cases e; rfl))
                · cases he
              · cases he
          · cases he
        · cases he
    · cases he
  · rename_i n e hu
    split at he
    · rename_i sz hs
      split at he
      · cases he
      · rename_i hz
        split at he
        · rename_i l hh el eh
          cases mx' with
          | some => exact rm.elim
          | none =>
          split at he
          · rename_i hc
            split at he
            · rename_i i g o
              split at he
              · rename_i b hb
                split at he
                · rename_i hle
                  cases he
                  obtain ⟨im, hm, ok, rfl, hi, rfl⟩ := VR.ptr_live h hx hb
                  have hn := ok.n
                  have hf := ok.fit
                  have hr : (Instr.sliceAt t (.pointer (some ⟨im.rb, im.dl + o, none⟩)) lo' hi' none).run P w = .ok (.slice (some (if n = l then ⟨im.rb, im.dl + o, none⟩ else ⟨im.rb, im.dl + o + l * sz, none⟩)) (hh - l) (n - l)) w := by
                    simp [Instr.sliceAt, Instr.sureAddr, run_underlying hu, run_bounds2 (P := P) (isS := false) rl rh el eh hc.1 hc.2, run_sizeOf' hs, add_eq]
                  have hls : l * sz + (hh - l) * sz = hh * sz := by rw [← Nat.add_mul]; congr 1; omega
                  have hns : hh * sz ≤ n * sz := Nat.mul_le_mul_right _ hc.2
                  have hcs : l * sz + (n - l) * sz = n * sz := by rw [← Nat.add_mul]; congr 1; omega
                  refine Sound.pure h hr (VR.sl i _ _ _ _ im _ _ hm (fun hp => ?_) (by omega) (by omega) (by omega) (fun e => by cases e) (fun c e => by cases e; rfl))
                  rw [if_neg (by omega), Nat.add_assoc]
                · cases he
              · cases he
            · cases he
          · cases he
        · cases he
    · cases he
  · cases he
end
end Go.Proofs.Ytieapebabncliaa.Iv

namespace Go.Proofs.Ytieapebabncliaa.Iv
open Go
section
variable {P : Program} {K B : Nat → Prop} {w : World} {S : Nat → Prop} {m : Map} {H : Heap}
set_option linter.unusedVariables false
set_option linter.unusedSimpArgs false

theorem VR.sl_shape {i : Id} {g o n sz : Nat} {lim : Option Nat} {x : Value} (hx : VR w S B m (.sl i g o n sz lim) x) : ∃ a cap, x = .slice (some a) n cap ∧ n ≤ cap ∧ (∀ c, lim = some c → cap = c) := by
  cases hx with
  | fr h => cases h
  | sl _ _ _ _ _ im a cap hm ha h1 h2 h3 h4 h5 => exact ⟨a, cap, rfl, h1, h5⟩
  | slD _ _ _ _ _ _ im a cap hm hg h1 h5 => exact ⟨a, cap, rfl, h1, h5⟩
theorem VR.ptr_shape {i : Id} {g o : Nat} {x : Value} (hx : VR w S B m (.ptr i g o) x) : ∃ a, x = .pointer (some a) := by
  cases hx with
  | fr h => cases h
  | ptr => exact ⟨_, rfl⟩
  | ptrD => exact ⟨_, rfl⟩

theorem len_sound (h : SR w S K m H) {t ty : Nat} {a : V} {out : Out} (he : evLen P t a = some out) {x : Value} (hx : VR w S B m a x) (ts : Array TypeId) (hts : ts[0]? = some t) :
    Sound P K B w S m H out (Builtin.len_ ts ty #[x]) := by
  unfold evLen at he
  split at he
  · rename_i s hu
    cases he
    have := hx.str_inv; subst this
    exact Sound.pure h (x := .int .i64 s.length) (by simp [Builtin.len_, hts, run_underlying hu, goInt] <;> rfl) .i
  · rename_i hu
    cases he
    obtain ⟨a, cap, rfl, _, _⟩ := hx.sl_shape
    exact Sound.pure h (x := .int .i64 _) (by simp [Builtin.len_, hts, run_underlying hu, goInt]) .i
  · rename_i hu
    cases he
    obtain ⟨_, cap, a, vals, rfl, _⟩ := hx.list_inv
    exact Sound.pure h (x := .int .i64 _) (by simp [Builtin.len_, hts, run_underlying hu, goInt]) .i
  · rename_i hu
    cases he
    have := hx.nils_inv; subst this
    exact Sound.pure h (x := .int .i64 0) (by simp [Builtin.len_, hts, run_underlying hu, goInt]) .i
  · rename_i hu
    cases he
    obtain ⟨a0, rfl⟩ := hx.emp_inv
    exact Sound.pure h (x := .int .i64 0) (by simp [Builtin.len_, hts, run_underlying hu, goInt]) .i
  · rename_i n e hu
    cases he
    exact Sound.pure h (x := .int .i64 n) (by simp [Builtin.len_, hts, run_underlying hu, goInt]) .i
  · cases he

theorem cap_sound (h : SR w S K m H) {t ty : Nat} {a : V} {out : Out} (he : evCap P t a = some out) {x : Value} (hx : VR w S B m a x) (ts : Array TypeId) (hts : ts[0]? = some t) :
    Sound P K B w S m H out (Builtin.cap_ ts ty #[x]) := by
  unfold evCap at he
  split at he
  · rename_i hu
    cases he
    have := hx.nils_inv; subst this
    exact Sound.pure h (x := .int .i64 0) (by simp [Builtin.cap_, hts, run_underlying hu, goInt]) .i
  · rename_i hu
    cases he
    obtain ⟨a0, rfl⟩ := hx.emp_inv
    exact Sound.pure h (x := .int .i64 0) (by simp [Builtin.cap_, hts, run_underlying hu, goInt]) .i
  · rename_i c hu
    cases he
    obtain ⟨a, cap, rfl, _, hc⟩ := hx.sl_shape
    have := hc _ rfl
    subst this
    exact Sound.pure h (x := .int .i64 _) (by simp [Builtin.cap_, hts, run_underlying hu, goInt]) .i
  · cases he

theorem max2_sound {a b v : V} (he : max2 a b = some v) {x y : Value} (hx : VR w S B m a x) (hy : VR w S B m b y) : SoundV P B w S m v (Builtin.max2 x y) := by
  unfold max2 at he
  split at he
  · cases he
    have := hx.int_inv; subst this
    have := hy.int_inv; subst this
    exact ⟨_, by simp only [Builtin.max2]; rfl, .i⟩
  · cases he
theorem min2_sound {a b v : V} (he : min2 a b = some v) {x y : Value} (hx : VR w S B m a x) (hy : VR w S B m b y) : SoundV P B w S m v (Builtin.min2 x y) := by
  unfold min2 at he
  split at he
  · cases he
    have := hx.int_inv; subst this
    have := hy.int_inv; subst this
    exact ⟨_, by simp only [Builtin.min2]; rfl, .i⟩
  · cases he
theorem foldO_sound {f : V → V → Option V} {g : Value → Value → Sem Value} (hfg : ∀ {a b v x y}, f a b = some v → VR w S B m a x → VR w S B m b y → SoundV P B w S m v (g x y)) :
    ∀ {l : List V} {xs : List Value} {a v : V} {x : Value}, foldO f a l = some v → VR w S B m a x → All2 (VR w S B m) l xs → SoundV P B w S m v (xs.foldlM g x)
  | [], [], a, v, x, he, hx, _ => by simp [foldO] at he; subst he; exact ⟨x, rfl, hx⟩
  | b :: l, y :: ys, a, v, x, he, hx, h2 => by
    simp only [foldO] at he
    split at he
    · rename_i z hz
      obtain ⟨q, hr, hq⟩ := hfg hz hx h2.1
      obtain ⟨u, hr2, hu⟩ := foldO_sound hfg he hq h2.2
      exact ⟨u, by simp [List.foldlM_cons, hr, hr2], hu⟩
    · cases he
  | [], _ :: _, _, _, _, _, _, h2 => h2.elim
  | _ :: _, [], _, _, _, _, _, h2 => h2.elim

end
end Go.Proofs.Ytieapebabncliaa.Iv

namespace Go.Proofs.Ytieapebabncliaa.Iv
open Go
section
variable {P : Program} {K B : Nat → Prop} {w : World} {S : Nat → Prop} {m : Map} {H : Heap}
set_option linter.unusedVariables false
set_option linter.unusedSimpArgs false

theorem run_binInt {op : BinOp} {k : IntKind} {a b : Int} (t : Nat) (h1 : op ≠ .shl) (h2 : op ≠ .shr) : binOp op t (.int k a) (.int k b) =
    (match op with
    | .add | .sub | .mul => Op.intArith op k a b
    | .quo | .rem => Op.intDiv op k a b
    | .and | .or | .xor | .andNot => Op.intBits op k a b
    | _ => Op.intCmp op a b) := by
  cases op <;> first | (exact absurd rfl h1) | (exact absurd rfl h2) | simp [binOp]
theorem evInt_sound {op : BinOp} {k : IntKind} {a b : Int} {v : V} (he : evInt op k a b = some v) (t : Nat) : SoundV P B w S m v (binOp op t (.int k a) (.int k b)) := by
  unfold SoundV
  cases op <;> simp only [evInt] at he
  case quo =>
    split at he
    · cases he
    · rename_i hb; cases he; rw [run_binInt t (by simp) (by simp)]; exact ⟨_, by simp only [Op.intDiv, hb, if_false]; rfl, .i⟩
  case rem =>
    split at he
    · cases he
    · rename_i hb; cases he; rw [run_binInt t (by simp) (by simp)]; exact ⟨_, by simp only [Op.intDiv, hb, if_false]; rfl, .i⟩
  case shl => cases he
  case shr => cases he
  all_goals
    cases he
    rw [run_binInt t (by simp) (by simp)]
    first | exact ⟨_, rfl, .i⟩ | exact ⟨_, rfl, .b⟩
theorem evShift_sound {op : BinOp} {k k' : IntKind} {a b : Int} {v : V} (he : evShift op k a b = some v) (t : Nat) : SoundV P B w S m v (binOp op t (.int k a) (.int k' b)) := by
  unfold evShift at he
  split at he
  · cases he
  · rename_i hb
    split at he
    · cases he; exact ⟨_, by simp only [binOp, Op.shift, hb, if_false]; rfl, .i⟩
    · cases he; exact ⟨_, by simp only [binOp, Op.shift, hb, if_false]; rfl, .i⟩
    · cases he
theorem evStr_sound {op : BinOp} {a b : List UInt8} {v : V} (he : evStr op a b = some v) (t : Nat) : SoundV P B w S m v (binOp op t (.string ⟨a.toArray⟩) (.string ⟨b.toArray⟩)) := by
  cases op <;> simp only [evStr] at he
  case add =>
    split at he
    · rename_i hle
      cases he
      refine ⟨.string ⟨(a ++ b).toArray⟩, ?_, .fr (.str _)⟩
      have e : (⟨a.toArray⟩ : ByteArray) ++ ⟨b.toArray⟩ = ⟨(a ++ b).toArray⟩ := by apply ByteArray.ext; simp
      have h1 : ¬ (9223372036854775807 < ((a.length : Int) + (b.length : Int))) := by omega
      simp [binOp, Op.stringOp, ByteArray.size, e, h1]
    · cases he
  all_goals first
    | (cases he; done)
    | (cases he
       refine ⟨.bool _, ?_, .b⟩
       simp only [binOp, Op.stringOp, ByteArray.toList_mk]
       rfl)

theorem list_cons_some {x : Value} {c : List V} {cs : List (List V)} {l : Bool} (hx : VR w S B m (.list (c :: cs) l) x) : ∃ a n cap, x = .slice (some a) n cap := by
  obtain ⟨_, cap, a, vals, rfl, _, _, h3, _⟩ := hx.list_inv
  obtain ⟨rb, o, rfl, _⟩ := h3 (by simp)
  exact ⟨_, _, _, rfl⟩

theorem evEq_soundIn {t : Nat} {a b : V} {r : Bool} (he : evEq P t a b = some r) {x y : Value} (hx : VR w S B m a x) (hy : VR w S B m b y) (d : Nat) : (Op.equalIn (d + 1) t x y).run P w = .ok r w := by
  unfold evEq at he
  split at he
  · rename_i d hu
    unfold eq1 at he
    split at he
    · cases he
      have := hx.bool_inv; subst this
      have := hy.bool_inv; subst this
      simp [Op.equalIn, run_underlying hu]
    · cases he
      have := hx.nilp_inv; subst this
      have := hy.nilp_inv; subst this
      simp [Op.equalIn, run_underlying hu]
    · cases he
      have := hx.nilp_inv; subst this
      obtain ⟨a, rfl⟩ := hy.ptr_shape
      simp [Op.equalIn, run_underlying hu]
    · cases he
      have := hy.nilp_inv; subst this
      obtain ⟨a, rfl⟩ := hx.ptr_shape
      simp [Op.equalIn, run_underlying hu]
    · cases he
      have := hx.nilp_inv; subst this
      obtain ⟨rb, o, vals, rfl, _⟩ := hy.fptr_inv
      simp [Op.equalIn, run_underlying hu]
    · cases he
      have := hy.nilp_inv; subst this
      obtain ⟨rb, o, vals, rfl, _⟩ := hx.fptr_inv
      simp [Op.equalIn, run_underlying hu]
    · cases he
      have := hx.nils_inv; subst this
      have := hy.nils_inv; subst this
      simp [Op.equalIn, run_underlying hu]
    · cases he
      have := hx.nils_inv; subst this
      obtain ⟨a, cap, rfl, _⟩ := hy.sl_shape
      simp [Op.equalIn, run_underlying hu]
    · cases he
      have := hy.nils_inv; subst this
      obtain ⟨a, cap, rfl, _⟩ := hx.sl_shape
      simp [Op.equalIn, run_underlying hu]
    · cases he
      have := hx.nils_inv; subst this
      obtain ⟨a, n, cap, rfl⟩ := list_cons_some hy
      simp [Op.equalIn, run_underlying hu]
    · cases he
      have := hy.nils_inv; subst this
      obtain ⟨a, n, cap, rfl⟩ := list_cons_some hx
      simp [Op.equalIn, run_underlying hu]
    · cases he
      have := hx.nilf_inv; subst this
      have := hy.nilf_inv; subst this
      simp [Op.equalIn, run_underlying hu]
    · cases he
      have := hx.nilf_inv; subst this
      obtain ⟨xs, rfl, _⟩ := hy.fn_inv
      simp [Op.equalIn, run_underlying hu]
    · cases he
      have := hy.nilf_inv; subst this
      obtain ⟨xs, rfl, _⟩ := hx.fn_inv
      simp [Op.equalIn, run_underlying hu]
    · cases he
  · cases he

theorem evEq_sound {t : Nat} {a b : V} {r : Bool} (he : evEq P t a b = some r) {x y : Value} (hx : VR w S B m a x) (hy : VR w S B m b y) : (Op.equal t x y).run P w = .ok r w :=
  evEq_soundIn he hx hy 9999

/-- what evEq speaks of: values of one cell that are no number, no string, no struct -/
theorem evEq_form {t : Nat} {a b : V} {r : Bool} (he : evEq P t a b = some r) {x y : Value} (hx : VR w S B m a x) (hy : VR w S B m b y) (op : BinOp) (o1 o2 : Operand) :
    (eqGuard op t o1 o2 x y).run P w = .ok () w ∧ (op = .eql → (binOp op t x y).run P w = .ok (.bool r) w) ∧ (op = .neq → (binOp op t x y).run P w = .ok (.bool !r) w) := by
  have hr := evEq_sound he hx hy
  unfold evEq at he
  split at he
  · rename_i d hu
    have key : (∃ p q, x = .bool p ∧ y = .bool q) ∨ (∃ p q, x = .pointer p ∧ y = .pointer q) ∨ (∃ p q r p' q' r', x = .slice p q r ∧ y = .slice p' q' r') ∨ (x = .nilFunc ∨ ∃ p q r, x = .func p q r) := by
      unfold eq1 at he
      split at he
      · exact .inl ⟨_, _, hx.bool_inv, hy.bool_inv⟩
      · exact .inr (.inl ⟨_, _, hx.nilp_inv, hy.nilp_inv⟩)
      · obtain ⟨a, e⟩ := hy.ptr_shape; exact .inr (.inl ⟨_, _, hx.nilp_inv, e⟩)
      · obtain ⟨a, e⟩ := hx.ptr_shape; exact .inr (.inl ⟨_, _, e, hy.nilp_inv⟩)
      · obtain ⟨rb, o, vals, e, _⟩ := hy.fptr_inv; exact .inr (.inl ⟨_, _, hx.nilp_inv, e⟩)
      · obtain ⟨rb, o, vals, e, _⟩ := hx.fptr_inv; exact .inr (.inl ⟨_, _, e, hy.nilp_inv⟩)
      · exact .inr (.inr (.inl ⟨_, _, _, _, _, _, hx.nils_inv, hy.nils_inv⟩))
      · obtain ⟨a, cap, e, _⟩ := hy.sl_shape; exact .inr (.inr (.inl ⟨_, _, _, _, _, _, hx.nils_inv, e⟩))
      · obtain ⟨a, cap, e, _⟩ := hx.sl_shape; exact .inr (.inr (.inl ⟨_, _, _, _, _, _, e, hy.nils_inv⟩))
      · obtain ⟨a, n, cap, e⟩ := list_cons_some hy; exact .inr (.inr (.inl ⟨_, _, _, _, _, _, hx.nils_inv, e⟩))
      · obtain ⟨a, n, cap, e⟩ := list_cons_some hx; exact .inr (.inr (.inl ⟨_, _, _, _, _, _, e, hy.nils_inv⟩))
      · exact .inr (.inr (.inr (.inl hx.nilf_inv)))
      · exact .inr (.inr (.inr (.inl hx.nilf_inv)))
      · obtain ⟨xs, e, _⟩ := hx.fn_inv; exact .inr (.inr (.inr (.inr ⟨_, _, _, e⟩)))
      · cases he
    rcases key with ⟨p, q, rfl, rfl⟩ | ⟨p, q, rfl, rfl⟩ | ⟨p, q, r, p', q', r', rfl, rfl⟩ | rfl | ⟨p, q, r, rfl⟩
    all_goals
      refine ⟨by cases op <;> simp [eqGuard], fun e => ?_, fun e => ?_⟩ <;> (subst e; simp [binOp, hr])
  · cases he

theorem bin_sound {t : Nat} {op : BinOp} {a b v : V} (he : evBin P t op a b = some v) {x y : Value} (hx : VR w S B m a x) (hy : VR w S B m b y) (o1 o2 : Operand) :
    SoundV P B w S m v (do eqGuard op t o1 o2 x y; binOp op t x y) := by
  have gi : ∀ k n k' n', (eqGuard op t o1 o2 (.int k n) (.int k' n')).run P w = .ok () w := fun k n k' n' => by cases op <;> simp [eqGuard]
  have gs : ∀ p q, (eqGuard op t o1 o2 (.string p) (.string q)).run P w = .ok () w := fun p q => by cases op <;> simp [eqGuard]
  unfold evBin at he
  split at he
  · rename_i k n k' n'
    have := hx.int_inv; subst this
    have := hy.int_inv; subst this
    split at he
    · obtain ⟨z, hr, hz⟩ := evShift_sound (P := P) (B := B) (w := w) (S := S) (m := m) (k' := k') he t
      exact ⟨z, by simp [gi, hr], hz⟩
    · obtain ⟨z, hr, hz⟩ := evShift_sound (P := P) (B := B) (w := w) (S := S) (m := m) (k' := k') he t
      exact ⟨z, by simp [gi, hr], hz⟩
    · split at he
      · rename_i hk
        subst hk
        obtain ⟨z, hr, hz⟩ := evInt_sound (P := P) (B := B) (w := w) (S := S) (m := m) he t
        exact ⟨z, by simp [gi, hr], hz⟩
      · cases he
  · have := hx.str_inv; subst this
    have := hy.str_inv; subst this
    obtain ⟨z, hr, hz⟩ := evStr_sound (P := P) (B := B) (w := w) (S := S) (m := m) he t
    exact ⟨z, by simp [gs, hr], hz⟩
  · split at he
    · split at he
      · rename_i r hr
        cases he
        obtain ⟨q1, q2, q3⟩ := evEq_form hr hx hy .eql o1 o2
        exact ⟨.bool r, by simp [q1, q2 rfl], .b⟩
      · cases he
    · split at he
      · rename_i r hr
        cases he
        obtain ⟨q1, q2, q3⟩ := evEq_form hr hx hy .neq o1 o2
        exact ⟨.bool !r, by simp [q1, q3 rfl], .b⟩
      · cases he
    · cases he

theorem un_sound {op : UnOp} {a v : V} (he : evUn op a = some v) {x : Value} (hx : VR w S B m a x) : SoundV P B w S m v (Op.unary op x) := by
  unfold evUn at he
  split at he
  · cases he; have := hx.int_inv; subst this; exact ⟨_, by simp only [Op.unary, Op.intArith]; rfl, .i⟩
  · cases he; have := hx.int_inv; subst this; exact ⟨_, by simp only [Op.unary, Op.intBits]; rfl, .i⟩
  · cases he; have := hx.bool_inv; subst this; exact ⟨_, by simp only [Op.unary]; rfl, .b⟩
  · cases he
end
end Go.Proofs.Ytieapebabncliaa.Iv

namespace Go.Proofs.Ytieapebabncliaa.Iv
open Go
section
variable {P : Program} {K B : Nat → Prop} {w : World} {S : Nat → Prop} {m : Map} {H : Heap}
set_option linter.unusedVariables false
set_option linter.unusedSimpArgs false

/-! ### freezing -/
def FrzOf (H H1 : Heap) : Prop := ∀ i, H1 i = H i ∨ ∃ b, H i = some b ∧ H1 i = some { b with frz := true }
theorem FrzOf.refl (H : Heap) : FrzOf H H := fun _ => .inl rfl
theorem FrzOf.get {H H1 : Heap} (h : FrzOf H H1) {i : Id} {b : Blk} (hb : H i = some b) : ∃ f, H1 i = some { b with frz := f } := by
  rcases h i with e | ⟨b', e1, e2⟩
  · exact ⟨b.frz, by rw [e, hb]⟩
  · rw [hb] at e1; cases e1; exact ⟨true, e2⟩
theorem FrzOf.set {H H1 : Heap} (h : FrzOf H H1) {i : Id} {b : Blk} (hb : H i = some b) : FrzOf H (H1.set i { b with frz := true }) := by
  intro j
  by_cases e : j = i
  · subst e; exact .inr ⟨b, hb, Heap.set_same ..⟩
  · rw [Heap.set_ne _ _ e]; exact h j
theorem FrzOf.live {H H1 : Heap} (h : FrzOf H H1) {i : Id} {g : Nat} {b : Blk} (hb : live H i g = some b) : ∃ f, Iv.live H1 i g = some { b with frz := f } := by
  obtain ⟨h1, h2⟩ := live_some hb
  obtain ⟨f, hf⟩ := h.get h1
  exact ⟨f, by simp [Iv.live, hf, h2]⟩

theorem chunk_len (sz : Nat) : ∀ (n : Nat) (cs : List V), (chunk sz n cs).length = n
  | 0, _ => rfl
  | n + 1, cs => by simp [chunk, chunk_len sz n]
theorem chunk_flatten (sz : Nat) : ∀ (n : Nat) (cs : List V), cs.length = n * sz → (chunk sz n cs).flatten = cs
  | 0, cs, h => by simp at h; simp [chunk, h]
  | n + 1, cs, h => by
    simp only [chunk, List.flatten_cons]
    rw [chunk_flatten sz n (cs.drop sz) (by simp [h, Nat.succ_mul]), List.take_append_drop]
theorem chunk_each (sz : Nat) : ∀ (n : Nat) (cs : List V), cs.length = n * sz → ∀ x ∈ chunk sz n cs, x.length = sz
  | 0, _, _, x, hx => by simp [chunk] at hx
  | n + 1, cs, h, x, hx => by
    simp only [chunk, List.mem_cons] at hx
    rcases hx with e | hx
    · subst e; simp [h, Nat.succ_mul]
    · exact chunk_each sz n (cs.drop sz) (by simp [h, Nat.succ_mul]) x hx

/-- a slice of the heap's, read as a list -/
theorem sl_list (h : SR w S K m H) {i : Id} {g o n sz : Nat} {lim : Option Nat} {x : Value} {b : Blk} (hx : VR w S B m (.sl i g o n sz lim) x) (hl : live H i g = some b)
    {cs : List V} (hc : cut b.cells o (n * sz) = some cs) (hfl : b.flat = true) (hsz : 0 < sz) {S' B' : Nat → Prop} {m' : Map} {l : Bool} (hS : ∀ rb, S rb → S' rb)
    (him : ∀ im, m i = some im → S' im.rb ∨ (l = true ∧ B' im.rb)) : VR w S' B' m' (.list (chunk sz n cs) l) x := by
  obtain ⟨im, a, cap, hm, ok, rfl, hi, rfl, ha, h1, h2, h3, h4, h5⟩ := VR.sl_live h hx hl
  obtain ⟨xs, r2, hxl, hq⟩ := ok.read hc
  have hcl := (cut_some hc).2
  have key := VR.list_mk (w := w) (S := S') (B := B') (m := m') (xs := chunk sz n cs) (l := l) sz cap (some a) (fun j => xs.getD j undef) (by rw [chunk_len]; exact h1) (chunk_each sz n cs hcl)
    (fun hne => ?_) (fun j c hj => ?_)
  · rw [chunk_len] at key; exact key
  · have hn : 0 < n := by
      rcases Nat.eq_zero_or_pos n with e | e
      · subst e; exact absurd rfl hne
      · exact e
    refine ⟨im.rb, im.dl + o, by rw [ha (by omega)], him im hm, fun j hj => ?_⟩
    rw [chunk_flatten sz n cs hcl, hcl] at hj
    have : xs[j]? = some (xs.getD j undef) := by simp [List.getD, hxl, hj]
    exact hq j _ this
  · rw [chunk_flatten sz n cs hcl] at hj
    obtain ⟨x, hx, r⟩ := r2.get hj
    have : xs.getD j undef = x := by simp [List.getD, hx]
    simp only [this]
    exact (r.2.2 hfl).mono (fun _ _ => rfl) hS

theorem keep1_sound {H1 : Heap} (hF : FrzOf H H1) (h : SR w S K m H1) {v : V} {o : Out} (he : keep1 H v = some o) {x : Value} (hx : VR w S B m v x) :
    ∃ S', Step K w S m w S' m ∧ SR w S' K m (H1.sets o.ups) ∧ FrzOf H (H1.sets o.ups) ∧ VR w S' no m o.v x := by
  have same : ∀ {v' : V}, o = ⟨v', [], []⟩ → VR w S no m v' x → ∃ S', Step K w S m w S' m ∧ SR w S' K m (H1.sets o.ups) ∧ FrzOf H (H1.sets o.ups) ∧ VR w S' no m o.v x :=
    fun e hv => by subst e; exact ⟨S, Step.refl .., h, hF, hv⟩
  unfold keep1 at he
  split at he
  · rename_i i g o n sz lim
    split at he
    · rename_i b hb
      split at he
      · rename_i cs hc
        split at he
        · rename_i hq
          cases he
          obtain ⟨hb1, hg⟩ := live_some hb
          obtain ⟨f, hf⟩ := hF.live hb
          obtain ⟨f1, f2⟩ := live_some hf
          obtain ⟨im, hm, ok⟩ := h.blk i _ f1
          obtain ⟨S', hS, st, sr⟩ := SR.freeze h f1 hm
          refine ⟨S', st, sr, hF.set hb1, ?_⟩
          exact sl_list h hx hf (by exact hc) hq.1 hq.2 st.sub (fun im' hm' => by rw [hm] at hm'; cases hm'; exact .inl hS)
        · cases he
      · cases he
    · cases he
  · rename_i xs l
    split at he
    · cases he
    · rename_i hl
      cases he
      obtain ⟨sz, cap, a, vals, rfl, h1, h2, h3, h4⟩ := hx.list_inv
      exact same rfl (VR.list_mk sz cap a vals h1 h2 (fun hne => let ⟨rb, o, e, hs, hc⟩ := h3 hne; ⟨rb, o, e, hs.elim .inl (fun q => absurd q.1 (by simpa using hl)), hc⟩) h4)
  · cases he
    have := hx.nils_inv; subst this
    exact same rfl (VR.list_mk (xs := []) 0 0 none (fun _ => undef) (Nat.le_refl _) (fun x hx => by cases hx) (fun hne => absurd rfl hne) (fun j c hj => by simp at hj))
  · cases he
    obtain ⟨a, rfl⟩ := hx.emp_inv
    exact same rfl (VR.list_mk (xs := []) 0 0 a (fun _ => undef) (Nat.le_refl _) (fun x hx => by cases hx) (fun hne => absurd rfl hne) (fun j c hj => by simp at hj))
  · rename_i cs l
    split at he
    · cases he
    · rename_i hl
      cases he
      obtain rfl : l = false := by simpa using hl
      obtain ⟨rb, o, vals, rfl, h1, h2, h3⟩ := hx.fptr_inv
      exact same rfl (VR.fptr_mk rb o vals (h1.elim .inl (fun q => by cases q.1)) h2 h3)
  · cases he
  · cases he
  · cases he
  · rename_i f cs
    split at he
    · rename_i hk
      cases he
      obtain ⟨xs, rfl, h2⟩ := hx.fn_inv
      exact same rfl (VR.fn_mk (h2.imp' (fun c x hc r => r.kept (List.all_eq_true.1 hk c hc))))
    · cases he
  · rename_i n1 n2 n3 n4 n5 n6 n7 n8 n9
    cases he
    cases v with
    | fn f cs => exact absurd rfl (n9 _ _)
    | sl => exact absurd rfl (n1 _ _ _ _ _ _)
    | list => exact absurd rfl (n2 _ _)
    | nils => exact absurd rfl n3
    | emp => exact absurd rfl n4
    | fptr => exact absurd rfl (n5 _ _)
    | und => exact absurd rfl n6
    | tup => exact absurd rfl (n7 _)
    | agg => exact absurd rfl (n8 _)
    | _ => exact same rfl (hx.kept rfl)

theorem sets_app (H : Heap) : ∀ (a b : List (Id × Blk)), H.sets (a ++ b) = (H.sets a).sets b
  | [], _ => rfl
  | (i, x) :: r, b => by simp only [List.cons_append, Heap.sets]; exact sets_app _ r b

theorem keepL_sound : ∀ {cs : List V} {S : Nat → Prop} {H1 : Heap} (hF : FrzOf H H1) (h : SR w S K m H1) {o : List V × List (Id × Blk) × List Id} (he : keepL H cs = some o) {xs : List Value}
    (hx : All2 (VR w S B m) cs xs), ∃ S', Step K w S m w S' m ∧ SR w S' K m (H1.sets o.2.1) ∧ FrzOf H (H1.sets o.2.1) ∧ All2 (VR w S' no m) o.1 xs
  | [], S, H1, hF, h, o, he, [], _ => by simp [keepL] at he; subst he; exact ⟨S, Step.refl .., h, hF, trivial⟩
  | [], _, _, _, _, _, _, _ :: _, hx => hx.elim
  | _ :: _, _, _, _, _, _, _, [], hx => hx.elim
  | v :: r, S, H1, hF, h, o, he, x :: xs, hx => by
    simp only [keepL] at he
    split at he
    · rename_i v' u d hv
      split at he
      · rename_i vs us ds hr
        cases he
        obtain ⟨S1, st1, sr1, hF1, hv1⟩ := keep1_sound hF h hv hx.1
        obtain ⟨S2, st2, sr2, hF2, hv2⟩ := keepL_sound hF1 sr1 hr (hx.2.imp (fun c x r => by
          -- a step in which the world stays: whatever is lent reads as it did
          exact r.monoS st1))
        refine ⟨S2, st1.trans st2, ?_, ?_, ⟨hv1.mono st2 (fun _ f => f.elim), hv2⟩⟩
        · rw [sets_app]; exact sr2
        · rw [sets_app]; exact hF2
      · cases he
    · cases he

theorem keepV_sound {H1 : Heap} (hF : FrzOf H H1) (h : SR w S K m H1) {v : V} {o : Out} (he : keepV H v = some o) {x : Value} (hx : VR w S B m v x) :
    ∃ S', Step K w S m w S' m ∧ SR w S' K m (H1.sets o.ups) ∧ FrzOf H (H1.sets o.ups) ∧ VR w S' no m o.v x := by
  unfold keepV at he
  split at he
  · rename_i cs
    split at he
    · rename_i cs' u d hl
      cases he
      obtain ⟨xs, rfl, h2⟩ := hx.agg_inv
      obtain ⟨S', st, sr, hF', h3⟩ := keepL_sound hF h hl h2
      exact ⟨S', st, sr, hF', VR.agg_mk h3⟩
    · cases he
  · exact keep1_sound hF h he hx
end
end Go.Proofs.Ytieapebabncliaa.Iv

namespace Go.Proofs.Ytieapebabncliaa.Iv
open Go
section
variable {P : Program} {K B : Nat → Prop} {w : World} {S : Nat → Prop} {m : Map} {H : Heap}
set_option linter.unusedVariables false
set_option linter.unusedSimpArgs false

/-! ### filling -/
theorem fillOne {cells : List V} {arr ys : Array Value} {cs : List V} {R : V → Value → Prop} (off : Nat) (h : All2 R cells arr.toList) (k : All2 R cs ys.toList) (hle : off + cs.length ≤ cells.length) :
    All2 R (splice cells off cs) (ys.zipIdx.foldl (fun a (c, j) => a.setIfInBounds (off + j) c) arr).toList := by
  have e : ys.zipIdx.foldl (fun a (c, j) => a.setIfInBounds (off + j) c) arr = (ys.toList.zipIdx 0).foldl (fun cs (x : Value × Nat) => cs.setIfInBounds (off + x.2) x.1) arr := by
    rw [← Array.foldl_toList, Array.toList_zipIdx]
  obtain ⟨g1, g2⟩ := Great.foldl_set off ys.toList 0 arr
  rw [← e] at g1 g2
  have hl1 := h.len
  have hl2 := k.len
  have hx : (ys.zipIdx.foldl (fun a (c, j) => a.setIfInBounds (off + j) c) arr).toList = arr.toList.take off ++ ys.toList ++ arr.toList.drop (off + ys.toList.length) := by
    apply List.ext_getElem?
    intro j
    rw [Array.getElem?_toList, g2 j]
    simp only [Nat.add_zero]
    have hsz : arr.size = arr.toList.length := by simp
    have hto : (arr.toList.take off).length = off := by rw [List.length_take]; omega
    rw [List.append_assoc]
    rcases Nat.lt_or_ge j off with h1 | h1
    · rw [if_neg (by omega), List.getElem?_append_left (by omega), List.getElem?_take_of_lt h1, Array.getElem?_toList]
    · rw [List.getElem?_append_right (by omega), hto]
      rcases Nat.lt_or_ge (j - off) ys.toList.length with h2 | h2
      · rw [List.getElem?_append_left h2]
        by_cases h3 : j < arr.size
        · rw [if_pos ⟨h1, by omega, h3⟩]
        · omega
      · rw [if_neg (by omega), List.getElem?_append_right h2, List.getElem?_drop, Array.getElem?_toList]
        congr 1
        omega
  rw [hx]
  exact h.splice off k

theorem fill_sound {R : V → Value → Prop} {place : Nat → Option (Nat × Nat)} : ∀ {ps : List (Nat × V)} {qs : List (Nat × Value)} {cells : List V} {arr : Array Value} {r : List V},
    fillF place ps cells = some r → ps.length = qs.length → (∀ (j : Nat) p q, ps[j]? = some p → qs[j]? = some q → p.1 = q.1 ∧ All2 R p.2.cells q.2.cells.toList) → All2 R cells arr.toList →
    ∃ r', Instr.fill place arr qs = some r' ∧ All2 R r r'.toList
  | [], [], cells, arr, r, he, _, _, h => by simp [fillF] at he; subst he; exact ⟨arr, rfl, h⟩
  | [], _ :: _, _, _, _, _, hl, _, _ => by simp at hl
  | _ :: _, [], _, _, _, _, hl, _, _ => by simp at hl
  | (i, v) :: ps, (i', y) :: qs, cells, arr, r, he, hl, hpq, h => by
    obtain ⟨e1, hc⟩ := hpq 0 _ _ rfl rfl
    simp only at e1 hc
    subst e1
    simp only [fillF] at he
    split at he
    · rename_i off size hp
      split at he
      · rename_i hq
        obtain ⟨hq1, hq2⟩ := hq
        have hyl : y.cells.toList.length = v.cells.length := hc.len
        have hal := h.len
        have h' := fillOne off h hc (by omega)
        obtain ⟨r', hr, h2⟩ := fill_sound (place := place) he (by simpa using hl) (fun j p q h1 h2 => hpq (j + 1) p q (by simpa using h1) (by simpa using h2)) h'
        refine ⟨r', ?_, h2⟩
        simp only [Array.length_toList] at hyl hal
        simp only [Instr.fill, hp]
        rw [if_neg (by rw [hyl, hal, hq1]; simp; omega)]
        exact hr
      · cases he
    · cases he

theorem cells_of {v : V} {x : Value} (h : VR w S B m v x) (hu : v ≠ .und) (hv : ∀ cs, v ≠ .tup cs) : All2 (VR w S B m) v.cells x.cells.toList := by
  cases h with
  | fr hf =>
    have h1 : v.cells = [v] := by cases hf <;> rfl
    have h2 : x.cells = #[x] := by cases hf <;> rfl
    rw [h1, h2]; exact ⟨.fr hf, trivial⟩
  | agg cs vs hl hh => exact All2.of (by simpa [V.cells, Value.cells] using hl) (fun j c x h1 h2 => hh j c x h1 (by have h2' : vs.toList[j]? = some x := h2; simpa using h2'))
  | und => exact absurd rfl hu
  | tup cs => exact absurd rfl (hv _)
  | lfptr cs rb o vals a b c => exact ⟨.lfptr cs rb o vals a b c, trivial⟩
  | llist xs sz cap a vals a b c d => exact ⟨.llist xs sz cap _ vals a b c d, trivial⟩
  | ptr i o im hm => exact ⟨.ptr i o im hm, trivial⟩
  | ptrD i g o im a hm hg => exact ⟨.ptrD i g o im a hm hg, trivial⟩
  | sl i o n sz lim im a cap hm ha h1 h2 h3 h4 h5 => exact ⟨.sl i o n sz lim im a cap hm ha h1 h2 h3 h4 h5, trivial⟩
  | slD i g o n sz lim im a cap hm hg h1 h5 => exact ⟨.slD i g o n sz lim im a cap hm hg h1 h5, trivial⟩
  | fn f cs vs hl hh => exact ⟨.fn f cs vs hl hh, trivial⟩

/-- parts of a literal, related one by one -/
def PartsR (R : V → Value → Prop) (ps : List (Nat × V)) (qs : List (Nat × Value)) : Prop :=
  ps.length = qs.length ∧ ∀ (j : Nat) p q, ps[j]? = some p → qs[j]? = some q → p.1 = q.1 ∧ R p.2 q.2

theorem build_sound {t : Nat} {ps : List (Nat × V)} {v : V} (he : evBuild P t ps = some v) {qs : Array (Nat × Value)} (hp : PartsR (VR w S B m) ps qs.toList) : SoundV P B w S m v (Instr.build t qs) := by
  unfold evBuild at he
  split at he
  case isFalse => cases he
  rename_i hok
  have hu : ∀ p ∈ ps, p.2 ≠ .und ∧ ∀ cs, p.2 ≠ .tup cs := fun p hp => by
    have := List.all_eq_true.1 hok p hp
    exact ⟨fun e => (by rw [e] at this; cases this), fun cs e => (by rw [e] at this; cases this)⟩
  have hpq : ∀ (j : Nat) p q, ps[j]? = some p → qs.toList[j]? = some q → p.1 = q.1 ∧ All2 (VR w S B m) p.2.cells q.2.cells.toList := fun j p q h1 h2 => by
    obtain ⟨e, r⟩ := hp.2 j p q h1 h2
    have := hu p (List.mem_of_getElem? h1)
    exact ⟨e, cells_of r this.1 this.2⟩
  have zc : ∀ {z}, zOf P t = some z → ∃ zv, (zeroValue t).run P w = .ok zv w ∧ All2 (VR w S B m) z zv.cells.toList := fun hz => by
    obtain ⟨zv, hr, rfl⟩ := run_zero' hz w
    refine ⟨zv, hr, ?_⟩
    cases zv with
    | agg cs =>
      refine All2.of (by simp [ofVal, V.cells, Value.cells]) (fun j c x h1 h2 => ?_)
      simp only [ofVal, V.cells, List.getElem?_map, Value.cells] at h1 h2
      rw [h2] at h1
      simp only [Option.map_some, Option.some.injEq] at h1
      subst h1; exact sc_VR x
    | _ =>
      have e : ∀ y : Value, (sc y).cells = [sc y] := fun y => by
        cases hh : sc y <;> first | rfl | exact (sc_agg _ _ hh).elim
      simp only [ofVal, e, Value.cells]
      exact ⟨sc_VR _, trivial⟩
  split at he
  · rename_i fs z hu' hz
    obtain ⟨zv, hzr, hz2⟩ := zc hz
    obtain ⟨it, zv', hit, hiz, hze⟩ := zOf_info hz
    have : zv' = zv := by
      have : (zeroValue t).run P w = .ok zv' w := by unfold zeroValue typeInfo; simp [hit, hiz]
      rw [hzr] at this; cases this; rfl
    subst this
    split at he
    · rename_i places hpl
      split at he
      · rename_i r hf
        cases he
        obtain ⟨r', hr, h2⟩ := fill_sound hf hp.1 hpq hz2
        refine ⟨.agg r', run_build w t qs r' ?_, VR.agg_mk (xs := r'.toList) h2⟩
        unfold placesOf at hpl
        simp only [Program.built, hit, hu', hiz, hpl]
        rw [← hr]
        congr 1
        funext i
        simp
      · cases he
    · cases he
  · rename_i n e z hu' hz
    obtain ⟨zv, hzr, hz2⟩ := zc hz
    split at he
    · rename_i sz hs
      split at he
      · rename_i r hf
        cases he
        obtain ⟨r', hr, h2⟩ := fill_sound hf hp.1 hpq hz2
        refine ⟨.agg r', ?_, VR.agg_mk (xs := r'.toList) h2⟩
        simp [Instr.build, hzr, run_underlying hu', run_sizeOf' hs, hr]
      · cases he
    · cases he
  · cases he
end
end Go.Proofs.Ytieapebabncliaa.Iv

namespace Go.Proofs.Ytieapebabncliaa.Iv
open Go
section
variable {P : Program} {K B : Nat → Prop} {w : World} {S : Nat → Prop} {m : Map} {H : Heap}
set_option linter.unusedVariables false
set_option linter.unusedSimpArgs false

abbrev CellR (w : World) (S : Nat → Prop) (m : Map) (fl : Bool) (c : V) (y : Value) : Prop := y.oneCell' = true ∧ VR w S no m c y ∧ (fl = true → FR w S c y)

theorem cell_heap {w w' : World} (h : w'.heap = w.heap) (a : Addr) : w'.cell? a = w.cell? a := by unfold World.cell?; rw [h]

theorem run_loadCells_at {w' : World} (hw : w'.heap = w.heap) {rb o n : Nat} {xs : List Value} (hl : xs.length = n) (h : ∀ (j : Nat) (x : Value), xs[j]? = some x → w.cell? ⟨rb, o + j, none⟩ = some x) :
    (loadCells ⟨rb, o, none⟩ n).run P w' = .ok xs.toArray w' := by
  have := run_loadCells_list (P := P) w' ⟨rb, o, none⟩ xs (fun j x hj => by rw [add_eq, cell_heap hw]; exact h j x hj)
  rwa [hl] at this

theorem src_sound (h : SR w S K m H) {sz k : Nat} {v : V} {cs : List V} {fl : Bool} {rd : List Id} (he : src H sz v = some (cs, k, fl, rd)) {x : Value} (hx : VR w S B m v x) :
    ∃ news : List Value, All2 (CellR w S m fl) cs news ∧ (Builtin.lenOf x).run P w = .ok k w ∧ (∀ w' : World, w'.heap = w.heap → ∀ q, q ≤ k → (Builtin.firstCells sz q x).run P w' = .ok (news.take (q * sz)).toArray w') ∧ cs.length = k * sz := by
  unfold src at he
  split at he
  · rename_i i g o n s lim
    split at he
    · rename_i b hb
      split at he
      · rename_i cs' hc
        split at he
        · rename_i hs
          cases he
          subst hs
          obtain ⟨im, a, cap, hm, ok, rfl, hi, rfl, ha, h1, h2, h3, h4, h5⟩ := VR.sl_live h hx hb
          obtain ⟨xs, r2, hxl, hq⟩ := ok.read hc
          refine ⟨xs, r2.imp (fun c x r => ⟨r.2.1, r.1, r.2.2⟩), rfl, fun w' hw q hqk => ?_, (cut_some hc).2⟩
          rcases Nat.eq_zero_or_pos q with e | e
          · subst e; simp [Builtin.firstCells, loadCells, loadCellsFrom]
          · rw [ha (by omega)]
            simp only [Builtin.firstCells]
            have hle : q * s ≤ k * s := Nat.mul_le_mul_right _ hqk
            exact run_loadCells_at hw (by rw [List.length_take]; omega) (fun j x hj => by
              have : j < q * s := by
                have := (List.getElem?_eq_some_iff.1 hj).1
                rw [List.length_take] at this; omega
              rw [List.getElem?_take_of_lt this] at hj
              exact hq j x hj)
        · cases he
      · cases he
    · cases he
  · rename_i xs l
    split at he
    · rename_i hall
      cases he
      obtain ⟨sz', cap, a, vals, rfl, h1, h2, h3, h4⟩ := hx.list_inv
      have hz : ∀ x ∈ xs, x.length = sz := fun x hx => by simpa using List.all_eq_true.1 hall x hx
      have hfl := flatten_len sz xs hz
      refine ⟨(List.range xs.flatten.length).map vals, All2.of (by simp) (fun j c x e1 e2 => ?_), rfl, fun w' hw q hqk => ?_, hfl⟩
      · have hj : j < xs.flatten.length := (List.getElem?_eq_some_iff.1 e1).1
        rw [List.getElem?_map, List.getElem?_range hj] at e2
        simp only [Option.map_some, Option.some.injEq] at e2
        subst e2
        have := h4 j c e1
        exact ⟨this.one, .fr this, fun _ => this⟩
      · rcases Nat.eq_zero_or_pos q with e | e
        · subst e; cases a <;> simp [Builtin.firstCells, loadCells, loadCellsFrom]
        · obtain ⟨rb, o, rfl, hS, hcell⟩ := h3 (fun e => by subst e; simp at hqk; omega)
          simp only [Builtin.firstCells]
          have hle : q * sz ≤ xs.length * sz := Nat.mul_le_mul_right _ hqk
          refine run_loadCells_at hw (by rw [List.length_take, List.length_map, List.length_range]; omega) (fun j x hj => ?_)
          have hlt : j < q * sz := by
            have := (List.getElem?_eq_some_iff.1 hj).1
            rw [List.length_take] at this; omega
          rw [List.getElem?_take_of_lt hlt, List.getElem?_map, List.getElem?_range (by omega)] at hj
          simp only [Option.map_some, Option.some.injEq] at hj
          subst hj
          exact hcell j (by omega)
    · cases he
  · cases he
    have := hx.nils_inv; subst this
    exact ⟨[], trivial, rfl, fun w' hw q hq => by simp [Builtin.firstCells], by simp⟩
  · cases he
    obtain ⟨a, rfl⟩ := hx.emp_inv
    refine ⟨[], trivial, rfl, fun w' hw q hq => ?_, by simp⟩
    have : q = 0 := by omega
    subst this
    cases a <;> simp [Builtin.firstCells, loadCells, loadCellsFrom]
  · rename_i s
    split at he
    · rename_i hs
      cases he
      subst hs
      have := hx.str_inv; subst this
      refine ⟨s.map fun b => .int .u8 b.toNat, All2.of (by simp) (fun j c x e1 e2 => ?_), rfl, fun w' hw q hqk => ?_, by simp⟩
      · rw [List.getElem?_map] at e1 e2
        cases hb : s[j]? with
        | none => rw [hb] at e1; cases e1
        | some b =>
          rw [hb] at e1 e2
          simp only [Option.map_some, Option.some.injEq] at e1 e2
          subst e1 e2
          exact ⟨rfl, .i, fun _ => .int _ _⟩
      · simp only [Builtin.firstCells, Nat.mul_one]
        rw [ByteArray.extract_mk]
        simp [List.map_take]
    · cases he
  · cases he

/-! ### rows of the same cells -/
theorem repl_get {α : Type} (z : List α) : ∀ (n j : Nat), j < n * z.length → (List.replicate n z).flatten[j]? = z[j % z.length]?
  | 0, j, h => by simp at h
  | n + 1, j, h => by
    simp only [List.replicate_succ, List.flatten_cons]
    rcases Nat.lt_or_ge j z.length with h1 | h1
    · rw [List.getElem?_append_left h1, Nat.mod_eq_of_lt h1]
    · rw [List.getElem?_append_right h1, repl_get z n (j - z.length) (by rw [Nat.succ_mul] at h; omega), ← Nat.mod_eq_sub_mod h1]
theorem repl_len {α : Type} (z : List α) (n : Nat) : (List.replicate n z).flatten.length = n * z.length := by simp
theorem rep_cells {z : List V} {zs : Array Value} {R : V → Value → Prop} (h : All2 R z zs.toList) (n : Nat) {arr : Array Value} (ha : arr.size = n * zs.size)
    (hg : ∀ j, j < n * zs.size → arr[j]? = some (zs[j % zs.size]!)) : All2 R (rep n z) arr.toList := by
  have hl := h.len
  simp only [Array.length_toList] at hl
  have hrl : (rep n z).length = n * z.length := repl_len z n
  refine All2.of (by rw [hrl, Array.length_toList, ha, hl]) (fun j c x e1 e2 => ?_)
  have hj : j < n * z.length := by rw [← hrl]; exact (List.getElem?_eq_some_iff.1 e1).1
  have e1' : z[j % z.length]? = some c := by rw [← repl_get z n j hj]; exact e1
  rw [Array.getElem?_toList, hg j (by rw [hl]; exact hj)] at e2
  cases e2
  obtain ⟨x, hx, r⟩ := h.get e1'
  rw [hl]
  have hm : j % z.length < z.length := (List.getElem?_eq_some_iff.1 e1').1
  rw [Array.getElem?_toList] at hx
  have : zs[j % z.length]! = x := by
    rw [Array.getElem!_eq_getD, Array.getD_eq_getD_getElem?, hx]; rfl
  rw [this]; exact r

theorem zero_of {e : Nat} {z : List V} (hz : zOf P e = some z) (hp : z.all V.plain = true) : ∃ (i : TypeInfo) (zv : Value), P.info? e = some i ∧ i.zero = some zv ∧ zv.cells.size = z.length ∧
    ∀ (w : World) (S : Nat → Prop) (m : Map), All2 (CellR w S m true) z zv.cells.toList := by
  obtain ⟨i, zv, hi, hzz, rfl⟩ := zOf_info hz
  have := fun (w : World) (S : Nat → Prop) (m : Map) => (zero_cells (w := w) (S := S) (B := no) (m := m) zv hp).imp (R' := CellR w S m true) (fun c x r => ⟨r.2.one, r.1, fun _ => r.2⟩)
  refine ⟨i, zv, hi, hzz, ?_, this⟩
  have := (this w0 (fun _ => False) (fun _ => none)).len
  simpa using this
where w0 : World := default
end
end Go.Proofs.Ytieapebabncliaa.Iv
