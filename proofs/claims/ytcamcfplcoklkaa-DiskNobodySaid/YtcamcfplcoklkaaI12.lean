import Derived.Test.YtcamcfplcoklkaaI11
import Derived.Laws.Strings2
namespace Go.Proofs.Ytcamcfplcoklkaa.Iv
open Go
section
variable {P : Program} {K B : Nat → Prop} {w : World} {S : Nat → Prop} {m : Map} {H : Heap}
set_option linter.unusedVariables false
set_option linter.unusedSimpArgs false

abbrev CellR (w : World) (S : Nat → Prop) (m : Map) (fl : Bool) (c : V) (y : Value) : Prop := y.oneCell' = true ∧ VR w S no m c y ∧ (fl = true → FR w S c y)

theorem cell_heap {w w' : World} (h : w'.heap = w.heap) (a : Addr) : w'.cell? a = w.cell? a := by unfold World.cell?; rw [h]

theorem run_loadCells_at {w' : World} (hw : w'.heap = w.heap) {rb o n : Nat} {xs : List Value} (hl : xs.length = n) (h : ∀ (j : Nat) (x : Value), xs[j]? = some x → w.cell? ⟨rb, o + j, none⟩ = some x) :
    (loadCells ⟨rb, o, none⟩ n).run P w' = .ok xs.toArray w' := by
  have := run_loadCells_list (P := P) w' ⟨rb, o, none⟩ xs (fun j x hj => by rw [add_eq, cell_heap hw]; exact h j x hj)
  rwa [hl] at this

theorem src_sound (h : SR w S K m H) {sz k : Nat} {v : V} {cs : List V} {fl : Bool} {rd : List Id} (he : src H sz v = some (cs, k, fl, rd)) {x : Value} (hx : VR w S B m v x) :
    ∃ news : List Value, All2 (CellR w S m fl) cs news ∧ (Builtin.lenOf x).run P w = .ok k w ∧ (∀ w' : World, w'.heap = w.heap → ∀ q, q ≤ k → (Builtin.firstCells sz q x).run P w' = .ok (news.take (q * sz)).toArray w') ∧ cs.length = k * sz := by
  unfold src at he
  split at he
  · rename_i i g o n s lim
    split at he
    · rename_i b hb
      split at he
      · rename_i cs' hc
        split at he
        · rename_i hs
          cases he
          subst hs
          obtain ⟨im, a, cap, hm, ok, rfl, hi, rfl, ha, h1, h2, h3, h4, h5⟩ := VR.sl_live h hx hb
          obtain ⟨xs, r2, hxl, hq⟩ := ok.read hc
          refine ⟨xs, r2.imp (fun c x r => ⟨r.2.1, r.1, r.2.2⟩), rfl, fun w' hw q hqk => ?_, (cut_some hc).2⟩
          rcases Nat.eq_zero_or_pos q with e | e
          · subst e; simp [Builtin.firstCells, loadCells, loadCellsFrom]
          · rw [ha (by omega)]
            simp only [Builtin.firstCells]
            have hle : q * s ≤ k * s := Nat.mul_le_mul_right _ hqk
            exact run_loadCells_at hw (by rw [List.length_take]; omega) (fun j x hj => by
              have : j < q * s := by
                have := (List.getElem?_eq_some_iff.1 hj).1
                rw [List.length_take] at this; omega
              rw [List.getElem?_take_of_lt this] at hj
              exact hq j x hj)
        · cases he
      · cases he
    · cases he
  · rename_i xs l
    split at he
    · rename_i hall
      cases he
      obtain ⟨sz', cap, a, vals, rfl, h1, h2, h3, h4⟩ := hx.list_inv
      have hz : ∀ x ∈ xs, x.length = sz := fun x hx => by simpa using List.all_eq_true.1 hall x hx
      have hfl := flatten_len sz xs hz
      refine ⟨(List.range xs.flatten.length).map vals, All2.of (by simp) (fun j c x e1 e2 => ?_), rfl, fun w' hw q hqk => ?_, hfl⟩
      · have hj : j < xs.flatten.length := (List.getElem?_eq_some_iff.1 e1).1
        rw [List.getElem?_map, List.getElem?_range hj] at e2
        simp only [Option.map_some, Option.some.injEq] at e2
        subst e2
        have := h4 j c e1
        exact ⟨this.one, .fr this, fun _ => this⟩
      · rcases Nat.eq_zero_or_pos q with e | e
        · subst e; cases a <;> simp [Builtin.firstCells, loadCells, loadCellsFrom]
        · obtain ⟨rb, o, rfl, hS, hcell⟩ := h3 (fun e => by subst e; simp at hqk; omega)
          simp only [Builtin.firstCells]
          have hle : q * sz ≤ xs.length * sz := Nat.mul_le_mul_right _ hqk
          refine run_loadCells_at hw (by rw [List.length_take, List.length_map, List.length_range]; omega) (fun j x hj => ?_)
          have hlt : j < q * sz := by
            have := (List.getElem?_eq_some_iff.1 hj).1
            rw [List.length_take] at this; omega
          rw [List.getElem?_take_of_lt hlt, List.getElem?_map, List.getElem?_range (by omega)] at hj
          simp only [Option.map_some, Option.some.injEq] at hj
          subst hj
          exact hcell j (by omega)
    · cases he
  · cases he
    have := hx.nils_inv; subst this
    exact ⟨[], trivial, rfl, fun w' hw q hq => by simp [Builtin.firstCells], by simp⟩
  · cases he
    obtain ⟨a, rfl⟩ := hx.emp_inv
    refine ⟨[], trivial, rfl, fun w' hw q hq => ?_, by simp⟩
    have : q = 0 := by omega
    subst this
    cases a <;> simp [Builtin.firstCells, loadCells, loadCellsFrom]
  · rename_i s
    split at he
    · rename_i hs
      cases he
      subst hs
      have := hx.str_inv; subst this
      refine ⟨s.map fun b => .int .u8 b.toNat, All2.of (by simp) (fun j c x e1 e2 => ?_), rfl, fun w' hw q hqk => ?_, by simp⟩
      · rw [List.getElem?_map] at e1 e2
        cases hb : s[j]? with
        | none => rw [hb] at e1; cases e1
        | some b =>
          rw [hb] at e1 e2
          simp only [Option.map_some, Option.some.injEq] at e1 e2
          subst e1 e2
          exact ⟨rfl, .i, fun _ => .int _ _⟩
      · simp only [Builtin.firstCells, Nat.mul_one]
        rw [ByteArray.extract_mk]
        simp [List.map_take]
    · cases he
  · cases he

/-! ### rows of the same cells -/
theorem repl_get {α : Type} (z : List α) : ∀ (n j : Nat), j < n * z.length → (List.replicate n z).flatten[j]? = z[j % z.length]?
  | 0, j, h => by simp at h
  | n + 1, j, h => by
    simp only [List.replicate_succ, List.flatten_cons]
    rcases Nat.lt_or_ge j z.length with h1 | h1
    · rw [List.getElem?_append_left h1, Nat.mod_eq_of_lt h1]
    · rw [List.getElem?_append_right h1, repl_get z n (j - z.length) (by rw [Nat.succ_mul] at h; omega), ← Nat.mod_eq_sub_mod h1]
theorem repl_len {α : Type} (z : List α) (n : Nat) : (List.replicate n z).flatten.length = n * z.length := by simp
theorem rep_cells {z : List V} {zs : Array Value} {R : V → Value → Prop} (h : All2 R z zs.toList) (n : Nat) {arr : Array Value} (ha : arr.size = n * zs.size)
    (hg : ∀ j, j < n * zs.size → arr[j]? = some (zs[j % zs.size]!)) : All2 R (rep n z) arr.toList := by
  have hl := h.len
  simp only [Array.length_toList] at hl
  have hrl : (rep n z).length = n * z.length := repl_len z n
  refine All2.of (by rw [hrl, Array.length_toList, ha, hl]) (fun j c x e1 e2 => ?_)
  have hj : j < n * z.length := by rw [← hrl]; exact (List.getElem?_eq_some_iff.1 e1).1
  have e1' : z[j % z.length]? = some c := by rw [← repl_get z n j hj]; exact e1
  rw [Array.getElem?_toList, hg j (by rw [hl]; exact hj)] at e2
  cases e2
  obtain ⟨x, hx, r⟩ := h.get e1'
  rw [hl]
  have hm : j % z.length < z.length := (List.getElem?_eq_some_iff.1 e1').1
  rw [Array.getElem?_toList] at hx
  have : zs[j % z.length]! = x := by
    rw [Array.getElem!_eq_getD, Array.getD_eq_getD_getElem?, hx]; rfl
  rw [this]; exact r

theorem zero_of {e : Nat} {z : List V} (hz : zOf P e = some z) (hp : z.all V.plain = true) : ∃ (i : TypeInfo) (zv : Value), P.info? e = some i ∧ i.zero = some zv ∧ zv.cells.size = z.length ∧
    ∀ (w : World) (S : Nat → Prop) (m : Map), All2 (CellR w S m true) z zv.cells.toList := by
  obtain ⟨i, zv, hi, hzz, rfl⟩ := zOf_info hz
  have := fun (w : World) (S : Nat → Prop) (m : Map) => (zero_cells (w := w) (S := S) (B := no) (m := m) zv hp).imp (R' := CellR w S m true) (fun c x r => ⟨r.2.one, r.1, fun _ => r.2⟩)
  refine ⟨i, zv, hi, hzz, ?_, this⟩
  have := (this w0 (fun _ => False) (fun _ => none)).len
  simpa using this
where w0 : World := default
end
end Go.Proofs.Ytcamcfplcoklkaa.Iv
