import Derived.Test.YtcamcfplcoklkaaI4
namespace Go.Proofs.Ytcamcfplcoklkaa.Iv
open Go

/-! ### two rows, cell by cell -/
def All2 (R : V → Value → Prop) : List V → List Value → Prop
  | [], [] => True
  | c :: cs, x :: xs => R c x ∧ All2 R cs xs
  | _, _ => False
namespace All2
variable {R R' : V → Value → Prop}
theorem len : ∀ {cs : List V} {xs : List Value}, All2 R cs xs → xs.length = cs.length
  | [], [], _ => rfl
  | _ :: _, _ :: _, h => by simp [len h.2]
  | [], _ :: _, h => h.elim
  | _ :: _, [], h => h.elim
theorem imp (hi : ∀ c x, R c x → R' c x) : ∀ {cs : List V} {xs : List Value}, All2 R cs xs → All2 R' cs xs
  | [], [], _ => trivial
  | _ :: _, _ :: _, h => ⟨hi _ _ h.1, imp hi h.2⟩
  | [], _ :: _, h => h.elim
  | _ :: _, [], h => h.elim
theorem imp' {cs : List V} (hi : ∀ c x, c ∈ cs → R c x → R' c x) {xs : List Value} (h : All2 R cs xs) : All2 R' cs xs := by
  induction cs generalizing xs with
  | nil => cases xs with | nil => trivial | cons => exact h.elim
  | cons c cs ih => cases xs with
    | nil => exact h.elim
    | cons x xs => exact ⟨hi _ _ (by simp) h.1, ih (fun c x hc => hi c x (by simp [hc])) h.2⟩
theorem get : ∀ {cs : List V} {xs : List Value}, All2 R cs xs → ∀ {j : Nat} {c : V}, cs[j]? = some c → ∃ x, xs[j]? = some x ∧ R c x
  | [], [], _, _, _, h => by simp at h
  | _ :: _, _ :: _, h, 0, _, e => by simp at e; subst e; exact ⟨_, rfl, h.1⟩
  | _ :: _, _ :: _, h, j + 1, _, e => by simp at e; simpa using get h.2 e
  | [], _ :: _, h, _, _, _ => h.elim
  | _ :: _, [], h, _, _, _ => h.elim
theorem of : ∀ {cs : List V} {xs : List Value}, xs.length = cs.length → (∀ (j : Nat) (c : V) (x : Value), cs[j]? = some c → xs[j]? = some x → R c x) → All2 R cs xs
  | [], [], _, _ => trivial
  | c :: cs, x :: xs, h, k => ⟨k 0 c x rfl rfl, of (by simpa using h) (fun j c x h1 h2 => k (j + 1) c x (by simpa using h1) (by simpa using h2))⟩
  | [], _ :: _, h, _ => by simp at h
  | _ :: _, [], h, _ => by simp at h
theorem choose : ∀ {cs : List V} {Q : Nat → Value → Prop}, (∀ (j : Nat) (c : V), cs[j]? = some c → ∃ x, Q j x ∧ R c x) → ∃ xs, All2 R cs xs ∧ ∀ (j : Nat) (x : Value), xs[j]? = some x → Q j x
  | [], Q, _ => ⟨[], trivial, fun j x h => by simp at h⟩
  | c :: cs, Q, h => by
    obtain ⟨x, h1, h2⟩ := h 0 c rfl
    obtain ⟨xs, h3, h4⟩ := choose (cs := cs) (Q := fun j => Q (j + 1)) (fun j c hj => h (j + 1) c (by simpa using hj))
    refine ⟨x :: xs, ⟨h2, h3⟩, fun j y hj => ?_⟩
    cases j with
    | zero => simp at hj; subst hj; exact h1
    | succ j => exact h4 j y (by simpa using hj)
theorem app : ∀ {cs ds : List V} {xs ys : List Value}, All2 R cs xs → All2 R ds ys → All2 R (cs ++ ds) (xs ++ ys)
  | [], _, [], _, _, h => h
  | _ :: _, _, _ :: _, _, h, k => ⟨h.1, app h.2 k⟩
  | [], _, _ :: _, _, h, _ => h.elim
  | _ :: _, _, [], _, h, _ => h.elim
theorem take : ∀ (n : Nat) {cs : List V} {xs : List Value}, All2 R cs xs → All2 R (cs.take n) (xs.take n)
  | 0, _, _, _ => by simp [All2]
  | n + 1, [], [], _ => trivial
  | n + 1, _ :: _, _ :: _, h => ⟨h.1, take n h.2⟩
  | _ + 1, [], _ :: _, h => h.elim
  | _ + 1, _ :: _, [], h => h.elim
theorem drop : ∀ (n : Nat) {cs : List V} {xs : List Value}, All2 R cs xs → All2 R (cs.drop n) (xs.drop n)
  | 0, _, _, h => by simpa using h
  | n + 1, [], [], _ => trivial
  | n + 1, _ :: _, _ :: _, h => by simpa using drop n h.2
  | _ + 1, [], _ :: _, h => h.elim
  | _ + 1, _ :: _, [], h => h.elim
theorem splice {cs ds : List V} {xs ys : List Value} (o : Nat) (h : All2 R cs xs) (k : All2 R ds ys) : All2 R (Iv.splice cs o ds) (xs.take o ++ ys ++ xs.drop (o + ys.length)) := by
  unfold Iv.splice
  rw [k.len]
  exact ((h.take o).app k).app (h.drop _)
end All2

theorem VR.agg_inv {w S B m cs x} (h : VR w S B m (.agg cs) x) : ∃ xs : List Value, x = .agg xs.toArray ∧ All2 (VR w S B m) cs xs := by
  cases h with
  | fr h => cases h
  | agg _ vs hl h => exact ⟨vs.toList, by simp, All2.of (by simpa using hl) (fun j c x h1 h2 => h j c x h1 (by simpa using h2))⟩
theorem VR.agg_mk {w S B m cs} {xs : List Value} (h : All2 (VR w S B m) cs xs) : VR w S B m (.agg cs) (.agg xs.toArray) := by
  refine .agg cs _ (by simpa using h.len) (fun j c x h1 h2 => ?_)
  obtain ⟨y, h3, h4⟩ := h.get h1
  have h2' : xs[j]? = some x := by simpa using h2
  rw [h3] at h2'; cases h2'; exact h4
theorem VR.tup_inv {w S B m cs x} (h : VR w S B m (.tup cs) x) : ∃ xs : List Value, x = .tuple xs.toArray ∧ All2 (VR w S B m) cs xs := by
  cases h with
  | fr h => cases h
  | tup _ vs hl h => exact ⟨vs.toList, by simp, All2.of (by simpa using hl) (fun j c x h1 h2 => h j c x h1 (by simpa using h2))⟩
theorem VR.tup_mk {w S B m cs} {xs : List Value} (h : All2 (VR w S B m) cs xs) : VR w S B m (.tup cs) (.tuple xs.toArray) := by
  refine .tup cs _ (by simpa using h.len) (fun j c x h1 h2 => ?_)
  obtain ⟨y, h3, h4⟩ := h.get h1
  have h2' : xs[j]? = some x := by simpa using h2
  rw [h3] at h2'; cases h2'; exact h4
theorem VR.fn_inv {w S B m f cs x} (h : VR w S B m (.fn f cs) x) : ∃ xs : List Value, x = .func (.func f) #[] xs.toArray ∧ All2 (VR w S B m) cs xs := by
  cases h with
  | fr h => cases h
  | fn _ _ vs hl h => exact ⟨vs.toList, by simp, All2.of (by simpa using hl) (fun j c x h1 h2 => h j c x h1 (by simpa using h2))⟩
theorem VR.fn_mk {w S B m f cs} {xs : List Value} (h : All2 (VR w S B m) cs xs) : VR w S B m (.fn f cs) (.func (.func f) #[] xs.toArray) := by
  refine .fn f cs _ (by simpa using h.len) (fun j c x h1 h2 => ?_)
  obtain ⟨y, h3, h4⟩ := h.get h1
  have h2' : xs[j]? = some x := by simpa using h2
  rw [h3] at h2'; cases h2'; exact h4

/-- a value whose cells may lie in the heap is as many cells in memory -/
theorem VR.cells {w S B m v x} (h : VR w S B m v x) (hk : v.cells.all V.kept = true) : All2 (fun c x => VR w S B m c x ∧ x.oneCell' = true ∧ VR w S no m c x) v.cells x.cells.toList := by
  have one : ∀ {c : V} {y : Value}, VR w S B m c y → c.kept = true → y.oneCell' = true := fun {c y} h hk => by
    cases h with
    | fr h => exact h.one
    | und => simp [V.kept] at hk
    | agg => simp [V.kept] at hk
    | tup => simp [V.kept] at hk
    | _ => rfl
  by_cases ha : ∃ cs, v = .agg cs
  · obtain ⟨cs, rfl⟩ := ha
    obtain ⟨xs, rfl, hx⟩ := h.agg_inv
    have hk' : ∀ c ∈ cs, c.kept = true := by simpa [V.cells] using hk
    simp only [Value.cells, V.cells]
    exact hx.imp' (fun c x hc r => ⟨r, one r (hk' c hc), r.kept (hk' c hc)⟩)
  · have hc : v.cells = [v] := by cases v <;> first | rfl | exact (ha ⟨_, rfl⟩).elim
    rw [hc] at hk ⊢
    have hk' : v.kept = true := by simpa using hk
    have ho := one h hk'
    have hx : x.cells = #[x] := by cases x <;> first | rfl | simp [Value.oneCell'] at ho
    rw [hx]
    exact ⟨⟨h, ho, h.kept hk'⟩, trivial⟩

/-! ### the tables -/
section
variable {P : Program}
theorem szOf_info {t sz : Nat} (h : szOf P t = some sz) : ∃ i, P.info? t = some i ∧ i.size = sz := by
  unfold szOf at h
  cases hi : P.info? t with
  | none => simp [hi] at h
  | some i => exact ⟨i, rfl, by simpa [hi] using h⟩
theorem byOf_info {t n : Nat} (h : byOf P t = some n) : ∃ i, P.info? t = some i ∧ i.bytes = n := by
  unfold byOf at h
  cases hi : P.info? t with
  | none => simp [hi] at h
  | some i => exact ⟨i, rfl, by simpa [hi] using h⟩
theorem run_sizeOf' {t sz : Nat} (h : szOf P t = some sz) (w : World) : (sizeOf t).run P w = .ok sz w := by
  obtain ⟨i, hi, rfl⟩ := szOf_info h
  unfold sizeOf typeInfo
  simp [hi]
theorem run_bytes' {t n : Nat} (h : byOf P t = some n) (w : World) : ∃ i, (typeInfo t).run P w = .ok i w ∧ i.bytes = n := by
  obtain ⟨i, hi, rfl⟩ := byOf_info h
  exact ⟨i, by unfold typeInfo; simp [hi], rfl⟩
theorem run_isAgg' {t : Nat} {ag : Bool} (h : agOf P t = some ag) (w : World) : (isAgg t).run P w = .ok ag w := by
  unfold agOf at h
  cases hu : P.underlying t with
  | none => simp [hu] at h
  | some d =>
    simp only [hu, Option.map_some, Option.some.injEq] at h
    unfold isAgg
    simp only [Sem.run_bind, run_underlying hu, Result.andThen_ok]
    subst h
    cases d <;> rfl
theorem zOf_info {t : Nat} {z : List V} (h : zOf P t = some z) : ∃ i v, P.info? t = some i ∧ i.zero = some v ∧ z = (ofVal v).cells := by
  unfold zOf at h
  cases hi : P.info? t with
  | none => simp [hi] at h
  | some i =>
    cases hz : i.zero with
    | none => simp [hi, hz] at h
    | some v => exact ⟨i, v, rfl, hz, by simpa [hi, hz] using h.symm⟩
theorem run_zero' {t : Nat} {z : List V} (h : zOf P t = some z) (w : World) : ∃ v, (zeroValue t).run P w = .ok v w ∧ z = (ofVal v).cells := by
  obtain ⟨i, v, hi, hz, rfl⟩ := zOf_info h
  exact ⟨v, by unfold zeroValue typeInfo; simp [hi, hz], rfl⟩
end
theorem sc_VR {w S B m} (x : Value) : VR w S B m (sc x) x := by
  unfold sc
  split
  · exact .fr (.int _ _)
  · exact .fr (.bool _)
  · rename_i s
    have := FR.str (w := w) (S := S) s.data.toList
    exact .fr (by simpa using this)
  · exact .fr .nilp
  · exact .fr .nils
  · exact .fr .nilf
  · exact .und _
theorem ofVal_VR {w S B m} (x : Value) : VR w S B m (ofVal x) x := by
  cases x with
  | agg cs =>
    refine .agg _ _ (by simp) (fun j c x h1 h2 => ?_)
    simp only [List.getElem?_map, Array.getElem?_toList, h2, Option.map_some, Option.some.injEq] at h1
    subst h1
    exact sc_VR x
  | _ => simp only [ofVal]; exact sc_VR _
theorem sc_FR {w S} {x : Value} (h : (sc x).plain = true) : FR w S (sc x) x := (sc_VR (w := w) (S := S) (B := no) (m := fun _ => none) x).plain h
theorem sc_agg (x : Value) (cs : List V) : sc x ≠ .agg cs := by unfold sc; split <;> simp
/-- the cells of a nought value -/
theorem zero_cells {w S B m} (x : Value) (hp : (ofVal x).cells.all V.plain = true) : All2 (fun c y => VR w S B m c y ∧ FR w S c y) (ofVal x).cells x.cells.toList := by
  cases x with
  | agg cs =>
    have hp' : ∀ c ∈ cs.toList.map sc, c.plain = true := fun c hc => List.all_eq_true.1 hp c hc
    refine All2.of (by simp [ofVal, V.cells, Value.cells]) (fun j c y h1 h2 => ?_)
    simp only [ofVal, V.cells, List.getElem?_map] at h1
    simp only [Value.cells] at h2
    rw [h2] at h1
    simp only [Option.map_some, Option.some.injEq] at h1
    have hc : c ∈ cs.toList.map sc := by subst h1; exact List.mem_map_of_mem (List.mem_of_getElem? h2)
    subst h1
    exact ⟨.fr (sc_FR (hp' _ hc)), sc_FR (hp' _ hc)⟩
  | _ =>
    have e : ∀ y : Value, (sc y).cells = [sc y] := fun y => by
      cases hh : sc y <;> first | rfl | exact (sc_agg _ _ hh).elim
    simp only [ofVal, e] at hp ⊢
    have hp' := hp
    simp only [List.all_cons, List.all_nil, Bool.and_true] at hp'
    exact ⟨⟨.fr (sc_FR hp'), sc_FR hp'⟩, trivial⟩
end Go.Proofs.Ytcamcfplcoklkaa.Iv
