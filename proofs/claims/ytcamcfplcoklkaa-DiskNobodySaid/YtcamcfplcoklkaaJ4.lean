import Derived.Test.YtcamcfplcoklkaaJ3
namespace Go.Proofs.Ytcamcfplcoklkaa.Iv
open Go
/-! ### operations without the table of types; steps -/
def lenS (x : V) : Option Out :=
  match x with
  | .sl _ _ _ n _ _ => pureO (.int .i64 n)
  | .list xs _ => pureO (.int .i64 xs.length)
  | .nils => pureO (.int .i64 0)
  | .emp => pureO (.int .i64 0)
  | _ => none
def ldR (sz : Nat) (ag : Bool) (H : Heap) (a : V) : Option Out :=
  match a with
  | .ptr i g o =>
    match live H i g with
    | some b => match cut b.cells o sz with
      | some cs => match mkv ag cs with
        | some v => some ⟨v, [], [i]⟩
        | none => none
      | none => none
    | none => none
  | .fptr cs _ => match cut cs 0 sz with
    | some cs => match mkv ag cs with
      | some v => pureO v
      | none => none
    | none => none
  | _ => none
def stR (sz : Nat) (H : Heap) (a v : V) : Option Out :=
  match a with
  | .ptr i g o =>
    match live H i g with
    | some b =>
      if b.frz = false ∧ v.cells.length = sz ∧ o + sz ≤ b.cells.length ∧ v.cells.all (fits b.flat) = true then
        some ⟨.und, [(i, { b with cells := splice b.cells o v.cells })], [i]⟩
      else none
    | none => none
  | _ => none
def faR (off : Nat) (x : V) : Option Out :=
  match x with
  | .ptr b g o => pureO (.ptr b g (o + off))
  | .fptr cs l => if off ≤ cs.length then pureO (.fptr (cs.drop off) l) else none
  | _ => none
def iaR (sz : Nat) (x ix : V) : Option Out :=
  match ix with
  | .int _ i =>
    if 0 ≤ i then
      match x with
      | .sl b g o n s2 _ => if s2 = sz ∧ i.toNat < n then pureO (.ptr b g (o + i.toNat * sz)) else none
      | .list xs l => match xs[i.toNat]? with
        | some cs => if cs.length = sz ∧ 0 < sz then pureO (.fptr cs l) else none
        | none => none
      | _ => none
    else none
  | _ => none

section
variable {o : Option Out} {H : Heap} {Q : V → Heap → Prop}
theorem mk (v : V) (us : List (Id × Blk)) (rd : List Id) (h : o = some ⟨v, us, rd⟩) (q : Q v (H.sets us)) : stepW o H Q := by subst h; exact q
theorem mk0 (v : V) (h : o = pureO v) (q : Q v H) : stepW o H Q := by subst h; exact q
theorem gy0 (v : V) (h : o = pureO v) (q : Q v H) {b : Bool} : guardW (.bool b) b H (outW o) Q := by subst h; cases b <;> exact q
theorem gy (v : V) (us : List (Id × Blk)) (rd : List Id) (h : o = some ⟨v, us, rd⟩) (q : Q v (H.sets us)) {b : Bool} : guardW (.bool b) b H (outW o) Q := by subst h; cases b <;> exact q
theorem gp {b : Bool} {o : Out} (q : Q o.v (H.sets o.ups)) : guardW (.bool b) b H (fun q => q o) Q := by cases b <;> exact q
theorem gnt {r} (q : Q .und H) : guardW (.bool true) false H r Q := q
theorem gnf {r} (q : Q .und H) : guardW (.bool false) true H r Q := q
theorem condT {a b : Prop} (h : a) : condW (.bool true) a b := h
theorem condF {a b : Prop} (h : b) : condW (.bool false) a b := h
end
theorem bin_lss {P : Program} {t : Nat} {k : IntKind} {a b : Int} : liftO (evBin P t .lss (.int k a) (.int k b)) = pureO (.bool (decide (a < b))) := by simp [evBin, evInt, liftO]
theorem bin_leq {P : Program} {t : Nat} {k : IntKind} {a b : Int} : liftO (evBin P t .leq (.int k a) (.int k b)) = pureO (.bool (decide (a ≤ b))) := by simp [evBin, evInt, liftO]
theorem bin_gtr {P : Program} {t : Nat} {k : IntKind} {a b : Int} : liftO (evBin P t .gtr (.int k a) (.int k b)) = pureO (.bool (decide (a > b))) := by simp [evBin, evInt, liftO]
theorem bin_geq {P : Program} {t : Nat} {k : IntKind} {a b : Int} : liftO (evBin P t .geq (.int k a) (.int k b)) = pureO (.bool (decide (a ≥ b))) := by simp [evBin, evInt, liftO]
theorem bin_eql {P : Program} {t : Nat} {k : IntKind} {a b : Int} : liftO (evBin P t .eql (.int k a) (.int k b)) = pureO (.bool (a == b)) := by simp [evBin, evInt, liftO]
theorem bin_neq {P : Program} {t : Nat} {k : IntKind} {a b : Int} : liftO (evBin P t .neq (.int k a) (.int k b)) = pureO (.bool (a != b)) := by simp [evBin, evInt, liftO]
theorem i64_wrap {z : Int} (h1 : -9223372036854775808 ≤ z) (h2 : z ≤ 9223372036854775807) : IntKind.i64.wrap z = z := by
  have e : IntKind.i64.wrap z = (if z % 18446744073709551616 ≥ 9223372036854775808 then z % 18446744073709551616 - 18446744073709551616 else z % 18446744073709551616) := by
    have e1 : (2 : Int) ^ 64 = 18446744073709551616 := by decide
    have e2 : (2 : Int) ^ (64 - 1) = 9223372036854775808 := by decide
    simp only [IntKind.wrap, IntKind.bits, IntKind.signed, Bool.true_and, e1, e2, decide_eq_true_eq]
  rw [e]
  split <;> omega
theorem bin_add {P : Program} {t : Nat} {a b : Int} (h1 : -9223372036854775808 ≤ a + b) (h2 : a + b ≤ 9223372036854775807) : liftO (evBin P t .add (.int .i64 a) (.int .i64 b)) = pureO (.int .i64 (a + b)) := by simp [evBin, evInt, liftO, i64_wrap h1 h2]
theorem bin_sub {P : Program} {t : Nat} {a b : Int} (h1 : -9223372036854775808 ≤ a - b) (h2 : a - b ≤ 9223372036854775807) : liftO (evBin P t .sub (.int .i64 a) (.int .i64 b)) = pureO (.int .i64 (a - b)) := by simp [evBin, evInt, liftO, i64_wrap h1 h2]
theorem ia_list {sz i : Nat} {k : IntKind} {xs : List (List V)} {l : Bool} {cs : List V} (h : xs[i]? = some cs) (hl : cs.length = sz) (hp : 0 < sz) : iaR sz (.list xs l) (.int k (i : Int)) = pureO (.fptr cs l) := by
  simp [iaR, h, hl, hp]

/-! ### what holds behind a piece of code, as it is run -/
def wE (K : Cfg) (c : Code) (env : List V) (H : Heap) (Q : KQ) : Prop := ∃ n ex env' H', evC K.P (run K n) K.pol (again K n) c env H = some (ex, env', H') ∧ Q ex env' H'
theorem CallR.of_run {K : Cfg} {n f : Nat} {args : List V} {H : Heap} {Q : V → Heap → Prop} (r : V) (h : (run K n f args H).map (·.1) = some r) (hq : ∀ H', run K n f args H = some (r, H') → Q r H') : CallR K f args H Q := by
  cases hr : run K n f args H with
  | none => rw [hr] at h; cases h
  | some p =>
    obtain ⟨r', H'⟩ := p
    rw [hr] at h
    have e : r' = r := by simpa using h
    subst e
    exact ⟨n, r', H', hr, hq H' hr⟩
end Go.Proofs.Ytcamcfplcoklkaa.Iv
