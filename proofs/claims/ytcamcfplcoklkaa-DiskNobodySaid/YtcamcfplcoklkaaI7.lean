import Derived.Test.YtcamcfplcoklkaaI6
namespace Go.Proofs.Ytcamcfplcoklkaa.Iv
open Go
section
variable {P : Program} {K B : Nat → Prop} {w : World} {S : Nat → Prop} {m : Map} {H : Heap}
set_option linter.unusedVariables false
set_option linter.unusedSimpArgs false

theorem VR.int_inv {k n x} (h : VR w S B m (.int k n) x) : x = .int k n := by cases h with | fr h => cases h; rfl
theorem VR.bool_inv {b x} (h : VR w S B m (.bool b) x) : x = .bool b := by cases h with | fr h => cases h; rfl
theorem VR.str_inv {s x} (h : VR w S B m (.str s) x) : x = .string ⟨s.toArray⟩ := by cases h with | fr h => cases h; rfl
theorem VR.nilp_inv {x} (h : VR w S B m .nilp x) : x = .pointer none := by cases h with | fr h => cases h; rfl
theorem VR.nils_inv {x} (h : VR w S B m .nils x) : x = .slice none 0 0 := by cases h with | fr h => cases h; rfl
theorem VR.emp_inv {x} (h : VR w S B m .emp x) : ∃ a, x = .slice a 0 0 := by cases h with | fr h => cases h; exact ⟨_, rfl⟩
theorem VR.nilf_inv {x} (h : VR w S B m .nilf x) : x = .nilFunc := by cases h with | fr h => cases h; rfl
theorem VR.i {k n} : VR w S B m (.int k n) (.int k n) := .fr (.int k n)
theorem VR.b {b} : VR w S B m (.bool b) (.bool b) := .fr (.bool b)

/-- a list, lent or not -/
theorem VR.list_inv {xs : List (List V)} {l : Bool} {x : Value} (h : VR w S B m (.list xs l) x) :
    ∃ (sz cap : Nat) (a : Option Addr) (vals : Nat → Value), x = .slice a xs.length cap ∧ xs.length ≤ cap ∧ (∀ x ∈ xs, x.length = sz) ∧
      (xs ≠ [] → ∃ rb o, a = some ⟨rb, o, none⟩ ∧ (S rb ∨ (l = true ∧ B rb)) ∧ ∀ j, j < xs.flatten.length → w.cell? ⟨rb, o + j, none⟩ = some (vals j)) ∧
      (∀ (j : Nat) (c : V), xs.flatten[j]? = some c → FR w S c (vals j)) := by
  cases h with
  | fr h => cases h with
    | list _ sz cap a vals h1 h2 h3 h4 => exact ⟨sz, cap, a, vals, rfl, h1, h2, fun hne => let ⟨rb, o, e, hs, hc⟩ := h3 hne; ⟨rb, o, e, .inl hs, hc⟩, h4⟩
  | llist _ sz cap a vals h1 h2 h3 h4 => exact ⟨sz, cap, a, vals, rfl, h1, h2, fun hne => let ⟨rb, o, e, hs, hc⟩ := h3 hne; ⟨rb, o, e, hs.imp id (fun b => ⟨rfl, b⟩), hc⟩, h4⟩
theorem VR.list_mk {xs : List (List V)} {l : Bool} (sz cap : Nat) (a : Option Addr) (vals : Nat → Value) (h1 : xs.length ≤ cap) (h2 : ∀ x ∈ xs, x.length = sz)
    (h3 : xs ≠ [] → ∃ rb o, a = some ⟨rb, o, none⟩ ∧ (S rb ∨ (l = true ∧ B rb)) ∧ ∀ j, j < xs.flatten.length → w.cell? ⟨rb, o + j, none⟩ = some (vals j))
    (h4 : ∀ (j : Nat) (c : V), xs.flatten[j]? = some c → FR w S c (vals j)) : VR w S B m (.list xs l) (.slice a xs.length cap) := by
  cases l with
  | false => exact .fr (.list xs sz cap a vals h1 h2 (fun hne => let ⟨rb, o, e, hs, hc⟩ := h3 hne; ⟨rb, o, e, hs.elim id (fun q => by cases q.1), hc⟩) h4)
  | true => exact .llist xs sz cap a vals h1 h2 (fun hne => let ⟨rb, o, e, hs, hc⟩ := h3 hne; ⟨rb, o, e, hs.imp id (·.2), hc⟩) h4
/-- a cell of a block of which is said whether it is lent -/
def CRl (w : World) (S B : Nat → Prop) (l : Bool) (c : V) (x : Value) : Prop := match l with | true => CR w S B c x | false => FR w S c x
theorem CRl.of {w : World} {S B : Nat → Prop} {l : Bool} {c : V} {x : Value} (h : FR w S c x) : CRl w S B l c x := by cases l <;> first | exact h | exact .inl h
theorem VR.fptr_inv {cs : List V} {l : Bool} {x : Value} (h : VR w S B m (.fptr cs l) x) :
    ∃ (rb o : Nat) (vals : Nat → Value), x = .pointer (some ⟨rb, o, none⟩) ∧ (S rb ∨ (l = true ∧ B rb)) ∧ (∀ j, j < cs.length → w.cell? ⟨rb, o + j, none⟩ = some (vals j)) ∧
      (∀ (j : Nat) (c : V), cs[j]? = some c → CRl w S B l c (vals j)) := by
  cases h with
  | fr h => cases h with
    | fptr _ rb o vals h1 h2 h3 => exact ⟨rb, o, vals, rfl, .inl h1, h2, h3⟩
  | lfptr _ rb o vals h1 h2 h3 => exact ⟨rb, o, vals, rfl, h1.imp id (fun b => ⟨rfl, b⟩), h2, h3⟩
theorem VR.fptr_mk {cs : List V} {l : Bool} (rb o : Nat) (vals : Nat → Value) (h1 : S rb ∨ (l = true ∧ B rb)) (h2 : ∀ j, j < cs.length → w.cell? ⟨rb, o + j, none⟩ = some (vals j))
    (h3 : ∀ (j : Nat) (c : V), cs[j]? = some c → CRl w S B l c (vals j)) : VR w S B m (.fptr cs l) (.pointer (some ⟨rb, o, none⟩)) := by
  cases l with
  | false => exact .fr (.fptr cs rb o vals (h1.elim id (fun q => by cases q.1)) h2 h3)
  | true => exact .lfptr cs rb o vals (h1.imp id (·.2)) h2 h3

theorem flatten_get (sz : Nat) : ∀ (xs : List (List V)), (∀ x ∈ xs, x.length = sz) → ∀ (i j : Nat) (x : List V) (c : V), xs[i]? = some x → x[j]? = some c → xs.flatten[i * sz + j]? = some c
  | [], _, i, j, x, c, h, _ => by simp at h
  | y :: ys, hz, 0, j, x, c, h, hj => by
    simp at h; subst h
    have : j < y.length := (List.getElem?_eq_some_iff.1 hj).1
    simp only [List.flatten_cons, Nat.zero_mul, Nat.zero_add]
    rw [List.getElem?_append_left this]; exact hj
  | y :: ys, hz, i + 1, j, x, c, h, hj => by
    have hy : y.length = sz := hz y (by simp)
    simp only [List.flatten_cons]
    rw [List.getElem?_append_right (by rw [hy, Nat.succ_mul]; omega), hy, show (i + 1) * sz + j - sz = i * sz + j by rw [Nat.succ_mul]; omega]
    exact flatten_get sz ys (fun z hz' => hz z (by simp [hz'])) i j x c (by simpa using h) hj
theorem flatten_len (sz : Nat) : ∀ (xs : List (List V)), (∀ x ∈ xs, x.length = sz) → xs.flatten.length = xs.length * sz
  | [], _ => by simp
  | y :: ys, hz => by
    simp only [List.flatten_cons, List.length_append, List.length_cons, hz y (by simp), flatten_len sz ys (fun z h => hz z (by simp [h])), Nat.succ_mul]
    omega

theorem indexAddr_sound (h : SR w S K m H) {t : Nat} {a i : V} {out : Out} (he : evIndexAddr P t a i = some out) {x y : Value} (hx : VR w S B m a x) (hy : VR w S B m i y) :
    Sound P K B w S m H out (Instr.indexAt t x y) := by
  unfold evIndexAddr at he
  split at he
  · rename_i k n
    have := hy.int_inv; subst this
    split at he
    · rename_i h0
      split at he
      · rename_i e hu
        split at he
        · rename_i sz hs
          split at he
          · rename_i b g o n' s2 lim
            split at he
            · rename_i hc
              obtain ⟨rfl, hlt⟩ := hc
              cases he
              have hb : 0 ≤ n ∧ n < (n' : Int) := ⟨h0, by omega⟩
              cases hx with
              | fr h => cases h
              | sl _ _ _ _ _ im a cap hm ha h1 h2 h3 h4 h5 =>
                have ha' := ha (by omega)
                subst ha'
                refine Sound.pure h (x := .pointer (some ⟨im.rb, im.dl + (o + n.toNat * s2), none⟩)) ?_ (VR.ptr b _ im hm)
                simp [Instr.indexAt, asIntOf, run_underlying hu, run_sizeOf' hs, hb, add_eq, Nat.add_assoc]
              | slD _ _ _ _ _ _ im a cap hm hg =>
                refine Sound.pure h (x := .pointer (some (a.add (n.toNat * s2)))) ?_ (VR.ptrD b _ _ im _ hm hg)
                simp [Instr.indexAt, asIntOf, run_underlying hu, run_sizeOf' hs, hb]
            · cases he
          · rename_i xs l
            split at he
            · rename_i cs hcs
              split at he
              · rename_i hc
                obtain ⟨hlen, hpos⟩ := hc
                cases he
                obtain ⟨sz', cap, a, vals, rfl, h1, h2, h3, h4⟩ := hx.list_inv
                have hi : n.toNat < xs.length := (List.getElem?_eq_some_iff.1 hcs).1
                have hz : sz' = sz := by rw [← hlen]; exact (h2 cs (List.mem_of_getElem? hcs)).symm
                subst hz
                obtain ⟨rb, o, rfl, hS, hcell⟩ := h3 (fun e => by subst e; simp at hi)
                have hb : 0 ≤ n ∧ n < (xs.length : Int) := ⟨h0, by omega⟩
                refine Sound.pure h (x := .pointer (some ⟨rb, o + n.toNat * sz', none⟩)) ?_ (VR.fptr_mk rb _ (fun j => vals (n.toNat * sz' + j)) hS (fun j hj => ?_) (fun j c hj => ?_))
                · simp [Instr.indexAt, asIntOf, run_underlying hu, run_sizeOf' hs, hb, add_eq]
                · have := flatten_get sz' xs h2 _ j cs _ hcs (List.getElem?_eq_getElem hj)
                  rw [Nat.add_assoc]
                  exact hcell _ (List.getElem?_eq_some_iff.1 this).1
                · exact CRl.of (h4 _ _ (flatten_get sz' xs h2 _ j cs _ hcs hj))
              · cases he
            · cases he
          · cases he
        · cases he
      · rename_i n' e hu
        split at he
        · rename_i sz hs
          split at he
          · rename_i hlt
            have hb : 0 ≤ n ∧ n < (n' : Int) := ⟨h0, by omega⟩
            split at he
            · rename_i b g o
              cases he
              cases hx with
              | fr h => cases h
              | ptr _ _ im hm =>
                refine Sound.pure h (x := .pointer (some ⟨im.rb, im.dl + (o + n.toNat * sz), none⟩)) ?_ (VR.ptr b _ im hm)
                simp [Instr.indexAt, Instr.sureAddr, asIntOf, run_underlying hu, run_sizeOf' hs, hb, add_eq, Nat.add_assoc]
              | ptrD _ _ _ im a hm hg =>
                refine Sound.pure h (x := .pointer (some (a.add (n.toNat * sz)))) ?_ (VR.ptrD b _ _ im _ hm hg)
                simp [Instr.indexAt, Instr.sureAddr, asIntOf, run_underlying hu, run_sizeOf' hs, hb]
            · rename_i cs l
              split at he
              · rename_i hle
                cases he
                obtain ⟨rb, o, vals, rfl, h1, h2, h3⟩ := hx.fptr_inv
                refine Sound.pure h (x := .pointer (some ⟨rb, o + n.toNat * sz, none⟩)) ?_ (VR.fptr_mk rb _ (fun j => vals (n.toNat * sz + j)) h1 (fun j hj => ?_) (fun j c hj => ?_))
                · simp [Instr.indexAt, Instr.sureAddr, asIntOf, run_underlying hu, run_sizeOf' hs, hb, add_eq]
                · rw [Nat.add_assoc]; exact h2 _ (by simp at hj; omega)
                · rw [List.getElem?_drop] at hj; exact h3 _ _ hj
              · cases he
            · cases he
          · cases he
        · cases he
      · cases he
    · cases he
  · cases he

theorem fieldAddr_sound (h : SR w S K m H) {t f : Nat} {a : V} {out : Out} (he : evFieldAddr P t a f = some out) {x : Value} (hx : VR w S B m a x) :
    Sound P K B w S m H out (Instr.fieldAt t x f) := by
  unfold evFieldAddr at he
  split at he
  · rename_i fs hu
    split at he
    · rename_i fd hf
      split at he
      · rename_i s hs
        have hrun : ∀ a : Addr, (Instr.fieldAt t (.pointer (some a)) f).run P w = .ok (.pointer (some (a.add fd.offset))) w := by
          intro a
          simp [Instr.fieldAt, Instr.sureAddr, fieldPlace, run_underlying hu, hf, run_sizeOf' hs]
        split at he
        · rename_i b g o
          cases he
          cases hx with
          | fr h => cases h
          | ptr _ _ im hm =>
            refine Sound.pure h (hrun _) ?_
            rw [add_eq, Nat.add_assoc]
            exact VR.ptr b _ im hm
          | ptrD _ _ _ im a hm hg => exact Sound.pure h (hrun _) (VR.ptrD b _ _ im _ hm hg)
        · rename_i cs l
          split at he
          · rename_i hle
            cases he
            obtain ⟨rb, o, vals, rfl, h1, h2, h3⟩ := hx.fptr_inv
            refine Sound.pure h (hrun _) ?_
            rw [add_eq]
            refine VR.fptr_mk rb _ (fun j => vals (fd.offset + j)) h1 (fun j hj => ?_) (fun j c hj => ?_)
            · rw [Nat.add_assoc]; exact h2 _ (by simp at hj; omega)
            · rw [List.getElem?_drop] at hj; exact h3 _ _ hj
          · cases he
        · cases he
      · cases he
    · cases he
  · cases he

theorem mkv_VR {ag : Bool} {cs : List V} {v : V} (hv : mkv ag cs = some v) {xs : List Value} (h2 : All2 (VR w S B m) cs xs) :
    ∃ x, VR w S B m v x ∧ (ag = true → x = .agg xs.toArray) ∧ (ag = false → xs = [x]) := by
  cases ag with
  | true => simp only [mkv, Option.some.injEq] at hv; subst hv; exact ⟨_, VR.agg_mk h2, fun _ => rfl, fun h => by cases h⟩
  | false =>
    cases cs with
    | nil => simp [mkv] at hv
    | cons c cs => cases cs with
      | cons => simp [mkv] at hv
      | nil =>
        simp only [mkv, Option.some.injEq] at hv; subst hv
        cases xs with
        | nil => exact h2.elim
        | cons x xs => cases xs with
          | nil => exact ⟨x, h2.1, (fun h => by cases h), fun _ => rfl⟩
          | cons => exact h2.2.elim
theorem part_sound {t o : Nat} {cs : List V} {v : V} (he : evPart P t cs o = some v) {xs : List Value} (h2 : All2 (VR w S B m) cs xs) :
    ∃ x, (part t xs.toArray o).run P w = .ok x w ∧ VR w S B m v x := by
  unfold evPart at he
  split at he
  · rename_i sz ag hs hg
    split at he
    · rename_i ys hc
      obtain ⟨rfl, hl⟩ := cut_some hc
      have h3 := (h2.drop o).take sz
      obtain ⟨x, hx, ha, hb⟩ := mkv_VR he h3
      refine ⟨x, ?_, hx⟩
      unfold part
      simp only [Sem.run_bind, run_isAgg' hg, Result.andThen_ok]
      cases ag with
      | true =>
        rw [ha rfl]
        have : xs.toArray.extract o (o + sz) = (List.take sz (List.drop o xs)).toArray := by
          apply Array.ext'
          simp
        simp [run_sizeOf' hs]
      | false =>
        have hb' := hb rfl
        have : xs[o]? = some x := by
          have h0 : (List.take sz (List.drop o xs))[0]? = some x := by rw [hb']; rfl
          have hsz : 0 < sz := by
            rcases Nat.eq_zero_or_pos sz with e | e
            · subst e; simp at h0
            · exact e
          rw [List.getElem?_take_of_lt hsz, List.getElem?_drop] at h0
          simpa using h0
        simp [this]
    · cases he
  · cases he

/-- a value, by a function of the ideal machine that leaves the heap alone -/
def SoundV (P : Program) (B : Nat → Prop) (w : World) (S : Nat → Prop) (m : Map) (v : V) (s : Sem Value) : Prop := ∃ x, s.run P w = .ok x w ∧ VR w S B m v x
theorem SoundV.lift (h : SR w S K m H) {o : Option V} {out : Out} (he : liftO o = some out) {s : Sem Value} (hs : ∀ v, o = some v → SoundV P B w S m v s) : Sound P K B w S m H out s := by
  cases o with
  | none => cases he
  | some v =>
    cases he
    obtain ⟨x, hr, hv⟩ := hs v rfl
    exact Sound.pure h hr hv

theorem field_sound {t f : Nat} {a v : V} (he : evField P t a f = some v) {x : Value} (hx : VR w S B m a x) : SoundV P B w S m v (Instr.field t x f) := by
  unfold evField at he
  split at he
  · rename_i fs cs hu
    split at he
    · rename_i fd hf
      obtain ⟨xs, rfl, h2⟩ := hx.agg_inv
      obtain ⟨y, hr, hy⟩ := part_sound (w := w) (S := S) (B := B) (m := m) he h2
      exact ⟨y, by simp [Instr.field, run_underlying hu, hf, asAgg, hr], hy⟩
    · cases he
  · cases he

theorem index_sound {t : Nat} {a i v : V} (he : evIndex P t a i = some v) {x y : Value} (hx : VR w S B m a x) (hy : VR w S B m i y) : SoundV P B w S m v (Instr.index t x y) := by
  unfold evIndex at he
  split at he
  · rename_i k n
    have := hy.int_inv; subst this
    split at he
    · rename_i h0
      split at he
      · rename_i n' e cs hu
        split at he
        · rename_i sz hs
          split at he
          · rename_i hlt
            obtain ⟨xs, rfl, h2⟩ := hx.agg_inv
            obtain ⟨y, hr, hy⟩ := part_sound (w := w) (S := S) (B := B) (m := m) he h2
            have hb : 0 ≤ n ∧ n < (n' : Int) := ⟨h0, by omega⟩
            exact ⟨y, by simp [Instr.index, asIntOf, run_underlying hu, hb, run_sizeOf' hs, hr], hy⟩
          · cases he
        · cases he
      · rename_i s hu
        split at he
        · rename_i b hb
          cases he
          have := hx.str_inv; subst this
          have hlt : n.toNat < s.length := (List.getElem?_eq_some_iff.1 hb).1
          have : (⟨s.toArray⟩ : ByteArray)[n.toNat]? = some b := by
            have hb' := List.getElem?_eq_some_iff.1 hb
            have hs : n.toNat < (⟨s.toArray⟩ : ByteArray).size := by simpa [ByteArray.size] using hlt
            rw [getElem?_pos (⟨s.toArray⟩ : ByteArray) n.toNat hs]
            obtain ⟨q1, q2⟩ := hb'
            exact congrArg some q2
          exact ⟨_, by simp [Instr.index, asIntOf, run_underlying hu, h0, this], .i⟩
        · cases he
      · cases he
    · cases he
  · cases he

theorem extract_sound {vs : List V} {i : Nat} {v : V} (he : vs[i]? = some v) {x : Value} (hx : VR w S B m (.tup vs) x) : SoundV P B w S m v (Instr.extract x i) := by
  obtain ⟨xs, rfl, h2⟩ := hx.tup_inv
  obtain ⟨y, hy, hv⟩ := h2.get he
  exact ⟨y, by simp [Instr.extract, hy], hv⟩
end
end Go.Proofs.Ytcamcfplcoklkaa.Iv
