import Derived.Test.YtcamcfplcoklkaaM2
import Derived.Laws.Append
import Derived.Laws.MakeOwn
import Derived.Lib.ConvBytes
import Derived.Laws.BytesString
import Derived.Laws.Strings
import Derived.Great.FillDense
import Derived.Laws.Strings2
namespace Go.Proofs.Ytcamcfplcoklkaa.Iv
open Go
section
variable {P : Program} {K B : Nat → Prop} {w : World} {S : Nat → Prop} {m : Map} {H : Heap}
set_option linter.unusedVariables false
set_option linter.unusedSimpArgs false

def OptR (R : V → Value → Prop) : Option V → Option Value → Prop
  | none, none => True
  | some v, some x => R v x
  | _, _ => False

theorem run_bound {k : IntKind} {i : Int} {y : Nat} {code : BoundsCode} (h : 0 ≤ i) (hy : i.toNat ≤ y) : (Instr.sliceBound (.int k i) y code).run P w = .ok i.toNat w := by
  have : 0 ≤ i ∧ i ≤ (y : Int) := ⟨h, by omega⟩
  simp [Instr.sliceBound, asIntOf, this]

theorem bnd_inv {o : Option V} {o' : Option Value} {d n : Nat} (hr : OptR (VR w S B m) o o') (h : bnd o d = some n) :
    (o' = none ∧ n = d ∧ o = none) ∨ ∃ k i, o' = some (.int k i) ∧ 0 ≤ i ∧ n = i.toNat ∧ o = some (.int k i) := by
  cases o with
  | none => cases o' with
    | none => simp [bnd] at h; exact .inl ⟨rfl, h.symm, rfl⟩
    | some => exact hr.elim
  | some v => cases o' with
    | none => exact hr.elim
    | some x =>
      unfold bnd at h
      split at h
      · rename_i e; cases e
      · rename_i k i e
        cases e
        have := VR.int_inv hr
        subst this
        split at h
        · rename_i h0; cases h; exact .inr ⟨_, _, rfl, h0, rfl, rfl⟩
        · cases h
      · cases h

theorem run_bounds2 {isS : Bool} {len cap l h : Nat} {lo hi : Option V} {lo' hi' : Option Value} (rl : OptR (VR w S B m) lo lo') (rh : OptR (VR w S B m) hi hi')
    (el : bnd lo 0 = some l) (eh : bnd hi len = some h) (hlh : l ≤ h) (hc : h ≤ cap) : (Instr.sliceBounds isS len cap lo' hi' none).run P w = .ok (l, h, cap) w := by
  unfold Instr.sliceBounds
  rcases bnd_inv rl el with ⟨rfl, rfl, _⟩ | ⟨k1, i1, rfl, p1, rfl, _⟩ <;> rcases bnd_inv rh eh with ⟨rfl, rfl, _⟩ | ⟨k2, i2, rfl, p2, rfl, _⟩ <;>
    simp [run_bound, *]
theorem run_bounds3 {len cap l h mm : Nat} {lo hi : Option V} {lo' hi' : Option Value} {mx : V} {mx' : Value} (rl : OptR (VR w S B m) lo lo') (rh : OptR (VR w S B m) hi hi') (rm : VR w S B m mx mx')
    (el : bnd lo 0 = some l) (eh : bnd hi 0 = some h) (em : bnd (some mx) 0 = some mm) (his : hi.isSome = true) (hlh : l ≤ h) (hc : h ≤ mm) (hmc : mm ≤ cap) :
    (Instr.sliceBounds true len cap lo' hi' (some mx')).run P w = .ok (l, h, mm) w := by
  unfold Instr.sliceBounds
  rcases bnd_inv (o := some mx) (o' := some mx') rm em with ⟨e, _⟩ | ⟨k3, i3, e, p3, rfl, _⟩
  · cases e
  · cases e
    rcases bnd_inv rh eh with ⟨_, _, e⟩ | ⟨k2, i2, rfl, p2, rfl, _⟩
    · subst e; simp at his
    · rcases bnd_inv rl el with ⟨rfl, rfl, _⟩ | ⟨k1, i1, rfl, p1, rfl, _⟩ <;> simp [run_bound, *]

theorem flatten_drop (sz : Nat) : ∀ (xs : List (List V)) (l : Nat), (∀ x ∈ xs, x.length = sz) → (xs.drop l).flatten = xs.flatten.drop (l * sz)
  | xs, 0, _ => by simp
  | [], l + 1, _ => by simp
  | y :: ys, l + 1, hz => by
    have hy : y.length = sz := hz y (by simp)
    simp only [List.drop_succ_cons, List.flatten_cons]
    have hd : y.drop ((l + 1) * sz) = [] := List.drop_eq_nil_of_le (by rw [hy, Nat.succ_mul]; omega)
    rw [flatten_drop sz ys l (fun z h => hz z (by simp [h])), List.drop_append, hy, hd, List.nil_append, show (l + 1) * sz - sz = l * sz by rw [Nat.succ_mul]; omega]
theorem flatten_take (sz : Nat) : ∀ (xs : List (List V)) (l : Nat), (∀ x ∈ xs, x.length = sz) → (xs.take l).flatten = xs.flatten.take (l * sz)
  | xs, 0, _ => by simp
  | [], l + 1, _ => by simp
  | y :: ys, l + 1, hz => by
    have hy : y.length = sz := hz y (by simp)
    simp only [List.take_succ_cons, List.flatten_cons]
    have hd : y.take ((l + 1) * sz) = y := List.take_of_length_le (by rw [hy, Nat.succ_mul]; omega)
    rw [flatten_take sz ys l (fun z h => hz z (by simp [h])), List.take_append, hy, hd, show (l + 1) * sz - sz = l * sz by rw [Nat.succ_mul]; omega]

theorem slice_slice {t e sz : Nat} (hu : P.underlying t = some (.slice e)) (hs : szOf P e = some sz) {a : Option Addr} {len cap l h mm : Nat} {lo hi mx : Option Value}
    (hb : (Instr.sliceBounds true len cap lo hi mx).run P w = .ok (l, h, mm) w) :
    (Instr.sliceAt t (.slice a len cap) lo hi mx).run P w = .ok (.slice (if mm = l then a else a.map (·.add (l * sz))) (h - l) (mm - l)) w := by
  simp [Instr.sliceAt, Instr.slice, run_underlying hu, hb, run_sizeOf' hs]

theorem slice_sound (h : SR w S K m H) {t : Nat} {a : V} {lo hi mx : Option V} {out : Out} (he : evSlice P H t a lo hi mx = some out) {x : Value} {lo' hi' mx' : Option Value}
    (hx : VR w S B m a x) (rl : OptR (VR w S B m) lo lo') (rh : OptR (VR w S B m) hi hi') (rm : OptR (VR w S B m) mx mx') :
    Sound P K B w S m H out (Instr.sliceAt t x lo' hi' mx') := by
  unfold evSlice at he
  split at he
  · rename_i hu
    split at he
    · rename_i s
      have := hx.str_inv; subst this
      cases mx' with
      | some => exact rm.elim
      | none =>
      split at he
      · rename_i l hh el eh
        split at he
        · rename_i hc
          cases he
          refine Sound.pure h (x := .string ⟨((s.take hh).drop l).toArray⟩) ?_ (.fr (.str _))
          have hb := run_bounds2 (P := P) (isS := false) (cap := s.length) rl rh el eh hc.1 hc.2
          have hsz : (⟨s.toArray⟩ : ByteArray).size = s.length := by simp [ByteArray.size]
          have hex : (⟨s.toArray⟩ : ByteArray).extract l hh = ⟨((s.take hh).drop l).toArray⟩ := by
            apply ByteArray.ext
            apply Array.ext'
            simp [ByteArray.data_extract, List.extract_eq_take_drop, List.drop_take]
          simp only [Instr.sliceAt, Instr.slice, Sem.run_bind, run_underlying hu, Result.andThen_ok, hsz, hb, Option.isSome_none, Bool.false_eq_true, if_false, hex]
          rfl
        · cases he
      · cases he
    · cases he
  · rename_i e hu
    split at he
    · rename_i sz hs
      split at he
      · cases he
      · rename_i hz
        split at he
        · -- nils
          have := hx.nils_inv; subst this
          split at he
          · rename_i e1 e2 e3
            split at he
            · cases he
            · rename_i hq
              cases he
              refine Sound.pure h (x := .slice none 0 0) ?_ (.fr .nils)
              cases mx with
              | none => cases mx' with
                | some => exact rm.elim
                | none =>
                  rw [slice_slice hu hs (run_bounds2 (P := P) (isS := true) rl rh e1 e2 (Nat.le_refl _) (Nat.le_refl _))]
                  simp
              | some mv => cases mx' with
                | none => exact rm.elim
                | some mv' =>
                  have his : hi.isSome = true := by cases hi <;> simp_all
                  rw [slice_slice hu hs (run_bounds3 (P := P) (len := 0) (cap := 0) rl rh rm e1 e2 e3 his (Nat.le_refl _) (Nat.le_refl _) (Nat.le_refl _))]
                  simp
          · cases he
        · -- emp
          obtain ⟨a0, rfl⟩ := hx.emp_inv
          split at he
          · rename_i e1 e2 e3
            split at he
            · cases he
            · rename_i hq
              cases he
              refine Sound.pure h (x := .slice a0 0 0) ?_ (.fr (.emp _))
              cases mx with
              | none => cases mx' with
                | some => exact rm.elim
                | none =>
                  rw [slice_slice hu hs (run_bounds2 (P := P) (isS := true) rl rh e1 e2 (Nat.le_refl _) (Nat.le_refl _))]
                  simp
              | some mv => cases mx' with
                | none => exact rm.elim
                | some mv' =>
                  have his : hi.isSome = true := by cases hi <;> simp_all
                  rw [slice_slice hu hs (run_bounds3 (P := P) (len := 0) (cap := 0) rl rh rm e1 e2 e3 his (Nat.le_refl _) (Nat.le_refl _) (Nat.le_refl _))]
                  simp
          · cases he
        · -- list
          rename_i xs lent
          obtain ⟨sz', cap, a, vals, rfl, h1, h2, h3, h4⟩ := hx.list_inv
          split at he
          · cases mx' with
            | some => exact rm.elim
            | none =>
            split at he
            · rename_i l hh el eh
              split at he
              · rename_i hc
                obtain ⟨hc1, hc2, hc3⟩ := hc
                cases he
                have hz' : ∀ x ∈ xs, x.length = sz := fun x hx => by simpa using List.all_eq_true.1 hc3 x hx
                have hfl : ((xs.take hh).drop l).flatten = (xs.flatten.take (hh * sz)).drop (l * sz) := by
                  rw [flatten_drop sz _ _ (fun x hx => hz' x (List.mem_of_mem_take hx)), flatten_take sz _ _ hz']
                have hlen : ((xs.take hh).drop l).length = hh - l := by simp; omega
                have hr := slice_slice (P := P) (w := w) hu hs (a := a) (run_bounds2 (P := P) (isS := true) (cap := cap) rl rh el eh hc1 (by omega))
                rw [← hlen] at hr
                refine Sound.pure h hr (VR.list_mk sz _ _ (fun j => vals (l * sz + j)) (by omega) (fun x hx => hz' x (List.mem_of_mem_take (List.mem_of_mem_drop hx))) (fun hne => ?_) (fun j c hj => ?_))
                · have hlt : l < hh := by
                    rcases Nat.lt_or_ge l hh with q | q
                    · exact q
                    · exact absurd (List.length_eq_zero_iff.1 (by omega)) hne
                  obtain ⟨rb, o, rfl, hS, hcell⟩ := h3 (fun e => by subst e; simp at hc2; omega)
                  refine ⟨rb, o + l * sz, ?_, hS, fun j hj => ?_⟩
                  · rw [if_neg (by omega)]; simp [add_eq]
                  · rw [hfl] at hj
                    rw [Nat.add_assoc]
                    exact hcell _ (by simp only [List.length_drop, List.length_take] at hj; omega)
                · rw [hfl, List.getElem?_drop] at hj
                  have hlt : l * sz + j < hh * sz := by
                    rcases Nat.lt_or_ge (l * sz + j) (hh * sz) with q | q
                    · exact q
                    · rw [List.getElem?_take, if_neg (by omega)] at hj; cases hj
                  rw [List.getElem?_take_of_lt hlt] at hj
                  exact h4 _ _ hj
              · cases he
            · cases he
          · rename_i mv
            cases mx' with
            | none => exact rm.elim
            | some mv' =>
            split at he
            · rename_i l hh mm el eh em
              split at he
              · rename_i hc
                obtain ⟨hc0, rfl, rfl, hc3⟩ := hc
                cases he
                have hr := slice_slice (P := P) (w := w) hu hs (a := a) (run_bounds3 (P := P) (len := xs.length) (cap := cap) rl rh rm el eh em hc0 (Nat.le_refl _) (Nat.le_refl _) (by omega))
                simp only [if_true, Nat.sub_self] at hr
                exact Sound.pure h hr (.fr (.emp _))
              · split at he
                · rename_i hc
                  obtain ⟨hc0, hc1, hc2, hc4, hc3⟩ := hc
                  cases he
                  have hz' : ∀ x ∈ xs, x.length = sz := fun x hx => by simpa using List.all_eq_true.1 hc3 x hx
                  have hfl : ((xs.take hh).drop l).flatten = (xs.flatten.take (hh * sz)).drop (l * sz) := by
                    rw [flatten_drop sz _ _ (fun x hx => hz' x (List.mem_of_mem_take hx)), flatten_take sz _ _ hz']
                  have hlen : ((xs.take hh).drop l).length = hh - l := by simp; omega
                  have hr := slice_slice (P := P) (w := w) hu hs (a := a) (run_bounds3 (P := P) (len := xs.length) (cap := cap) rl rh rm el eh em hc0 (by omega) hc2 (by omega))
                  rw [← hlen] at hr
                  refine Sound.pure h hr (VR.list_mk sz _ _ (fun j => vals (l * sz + j)) (by omega) (fun x hx => hz' x (List.mem_of_mem_take (List.mem_of_mem_drop hx))) (fun hne => ?_) (fun j c hj => ?_))
                  · have hlt : l < hh := by
                      rcases Nat.lt_or_ge l hh with q | q
                      · exact q
                      · exact absurd (List.length_eq_zero_iff.1 (by omega)) hne
                    obtain ⟨rb, o, rfl, hS, hcell⟩ := h3 (fun e => by subst e; simp at hc4; omega)
                    refine ⟨rb, o + l * sz, ?_, hS, fun j hj => ?_⟩
                    · rw [if_neg (by omega)]; simp [add_eq]
                    · rw [hfl] at hj
                      rw [Nat.add_assoc]
                      exact hcell _ (by simp only [List.length_drop, List.length_take] at hj; omega)
                  · rw [hfl, List.getElem?_drop] at hj
                    have hlt : l * sz + j < hh * sz := by
                      rcases Nat.lt_or_ge (l * sz + j) (hh * sz) with q | q
                      · exact q
                      · rw [List.getElem?_take, if_neg (by omega)] at hj; cases hj
                    rw [List.getElem?_take_of_lt hlt] at hj
                    exact h4 _ _ hj
                · cases he
            · cases he
        · -- sl
          rename_i i g o n s2 lim
          split at he
          · rename_i hs2
            subst hs2
            split at he
            · cases mx' with
              | some => exact rm.elim
              | none =>
              split at he
              · rename_i l hh el eh
                split at he
                · rename_i hlh
                  split at he
                  · rename_i hhn
                    cases he
                    cases hx with
                    | fr h => cases h
                    | sl _ _ _ _ _ im a cap hm ha h1 h2 h3 h4 h5 =>
                      have hr := slice_slice (P := P) (w := w) hu hs (a := some a) (run_bounds2 (P := P) (isS := true) (cap := cap) rl rh el eh hlh (by omega))
                      rw [show (if cap = l then some a else Option.map (fun x => x.add (l * s2)) (some a)) = some (if cap = l then a else a.add (l * s2)) by split <;> rfl] at hr
                      have hls : l * s2 + (hh - l) * s2 = hh * s2 := by rw [← Nat.add_mul]; congr 1; omega
                      have hns : hh * s2 ≤ n * s2 := Nat.mul_le_mul_right _ hhn
                      have hcs : l * s2 + (cap - l) * s2 = cap * s2 := by rw [← Nat.add_mul]; congr 1; omega
                      refine Sound.pure h hr (VR.sl i _ _ _ _ im _ _ hm (fun hp => ?_) (by omega) (by omega) (by omega) (fun e => ?_) (fun c e => ?_))
                      · rw [if_neg (by omega), ha (by omega), add_eq, Nat.add_assoc]
                      · have := h4 (by cases lim <;> simp_all); omega
                      · cases lim with
                        | none => simp at e
                        | some c' => simp at e; have := h5 c' rfl; omega
                    | slD _ _ _ _ _ _ im a cap hm hg h1 h5 =>
                      have hr := slice_slice (P := P) (w := w) hu hs (a := some a) (run_bounds2 (P := P) (isS := true) (cap := cap) rl rh el eh hlh (by omega))
                      rw [show (if cap = l then some a else Option.map (fun x => x.add (l * s2)) (some a)) = some (if cap = l then a else a.add (l * s2)) by split <;> rfl] at hr
                      refine Sound.pure h hr (VR.slD i _ _ _ _ _ im _ _ hm hg (by omega) (fun c e => ?_))
                      cases lim with
                      | none => simp at e
                      | some c' => simp at e; have := h5 c' rfl; omega
                  · split at he
                    · rename_i b hb
                      split at he
                      · rename_i hc
                        obtain ⟨hc1, hc2⟩ := hc
                        cases he
                        obtain ⟨im, a, cap, hm, ok, rfl, hi, rfl, ha, h1, h2, h3, h4, h5⟩ := VR.sl_live h hx hb
                        have hn := ok.n
                        have hhc : hh ≤ cap := by
                          cases lim with
                          | none =>
                            have := h4 rfl
                            have : hh * s2 ≤ cap * s2 := by omega
                            exact Nat.le_of_mul_le_mul_right this (by omega)
                          | some c => have := h5 c rfl; have := hc2 c rfl; omega
                        have hr := slice_slice (P := P) (w := w) hu hs (a := some a) (run_bounds2 (P := P) (isS := true) (cap := cap) rl rh el eh hlh hhc)
                        rw [show (if cap = l then some a else Option.map (fun x => x.add (l * s2)) (some a)) = some (if cap = l then a else a.add (l * s2)) by split <;> rfl] at hr
                        have hls : l * s2 + (hh - l) * s2 = hh * s2 := by rw [← Nat.add_mul]; congr 1; omega
                        have hcs : l * s2 + (cap - l) * s2 = cap * s2 := by rw [← Nat.add_mul]; congr 1; omega
                        refine Sound.pure h hr (VR.sl i _ _ _ _ im _ _ hm (fun hp => ?_) (by omega) (by omega) (by omega) (fun e => ?_) (fun c e => ?_))
                        · rw [if_neg (by omega), ha (by omega), add_eq, Nat.add_assoc]
                        · have := h4 (by cases lim <;> simp_all); omega
                        · cases lim with
                          | none => simp at e
                          | some c' => simp at e; have := h5 c' rfl; omega
                      · cases he
                    · cases he
                · cases he
              · cases he
            · rename_i mv
              cases mx' with
              | none => exact rm.elim
              | some mv' =>
              split at he
              · rename_i l hh mm el eh em
                split at he
                · rename_i hc
                  obtain ⟨hc0, hc1, hc2, hc3⟩ := hc
                  cases he
                  cases hx with
                  | fr h => cases h
                  | sl _ _ _ _ _ im a cap hm ha h1 h2 h3 h4 h5 =>
                    have hr := slice_slice (P := P) (w := w) hu hs (a := some a) (run_bounds3 (P := P) (len := n) (cap := cap) rl rh rm el eh em hc0 hc1 hc2 (by omega))
                    rw [show (if mm = l then some a else Option.map (fun x => x.add (l * s2)) (some a)) = some (if mm = l then a else a.add (l * s2)) by split <;> rfl] at hr
                    have hls : l * s2 + (hh - l) * s2 = hh * s2 := by rw [← Nat.add_mul]; congr 1; omega
                    have hns : hh * s2 ≤ n * s2 := Nat.mul_le_mul_right _ (by omega)
                    have hms : l * s2 + (mm - l) * s2 = mm * s2 := by rw [← Nat.add_mul]; congr 1; omega
                    have hmc : mm * s2 ≤ cap * s2 := Nat.mul_le_mul_right _ (by omega)
                    refine Sound.pure h hr (VR.sl i _ _ _ _ im _ _ hm (fun hp => ?_) (by omega) (by omega) (by omega) (fun e => by cases e) (fun c e => by cases e; rfl))
                    rw [if_neg (by omega), ha (by omega), add_eq, Nat.add_assoc]
                  | slD _ _ _ _ _ _ im a cap hm hg h1 h5 =>
                    have hr := slice_slice (P := P) (w := w) hu hs (a := some a) (run_bounds3 (P := P) (len := n) (cap := cap) rl rh rm el eh em hc0 hc1 hc2 (by omega))
                    rw [show (if mm = l then some a else Option.map (fun x => x.add (l * s2)) (some a)) = some (if mm = l then a else a.add (l * s2)) by split <;> rfl] at hr
                    exact Sound.pure h hr (VR.slD i _ _ _ _ _ im _ _ hm hg (by omega) (fun c e => by cases e; rfl))
                · cases he
              · cases he
          · cases he
        · cases he
    · cases he
  · rename_i n e hu
    split at he
    · rename_i sz hs
      split at he
      · cases he
      · rename_i hz
        split at he
        · rename_i l hh el eh
          cases mx' with
          | some => exact rm.elim
          | none =>
          split at he
          · rename_i hc
            split at he
            · rename_i i g o
              split at he
              · rename_i b hb
                split at he
                · rename_i hle
                  cases he
                  obtain ⟨im, hm, ok, rfl, hi, rfl⟩ := VR.ptr_live h hx hb
                  have hn := ok.n
                  have hf := ok.fit
                  have hr : (Instr.sliceAt t (.pointer (some ⟨im.rb, im.dl + o, none⟩)) lo' hi' none).run P w = .ok (.slice (some (if n = l then ⟨im.rb, im.dl + o, none⟩ else ⟨im.rb, im.dl + o + l * sz, none⟩)) (hh - l) (n - l)) w := by
                    simp [Instr.sliceAt, Instr.sureAddr, run_underlying hu, run_bounds2 (P := P) (isS := false) rl rh el eh hc.1 hc.2, run_sizeOf' hs, add_eq]
                  have hls : l * sz + (hh - l) * sz = hh * sz := by rw [← Nat.add_mul]; congr 1; omega
                  have hns : hh * sz ≤ n * sz := Nat.mul_le_mul_right _ hc.2
                  have hcs : l * sz + (n - l) * sz = n * sz := by rw [← Nat.add_mul]; congr 1; omega
                  refine Sound.pure h hr (VR.sl i _ _ _ _ im _ _ hm (fun hp => ?_) (by omega) (by omega) (by omega) (fun e => by cases e) (fun c e => by cases e; rfl))
                  rw [if_neg (by omega), Nat.add_assoc]
                · cases he
              · cases he
            · cases he
          · cases he
        · cases he
    · cases he
  · cases he
end
end Go.Proofs.Ytcamcfplcoklkaa.Iv

namespace Go.Proofs.Ytcamcfplcoklkaa.Iv
open Go
section
variable {P : Program} {K B : Nat → Prop} {w : World} {S : Nat → Prop} {m : Map} {H : Heap}
set_option linter.unusedVariables false
set_option linter.unusedSimpArgs false

theorem VR.sl_shape {i : Id} {g o n sz : Nat} {lim : Option Nat} {x : Value} (hx : VR w S B m (.sl i g o n sz lim) x) : ∃ a cap, x = .slice (some a) n cap ∧ n ≤ cap ∧ (∀ c, lim = some c → cap = c) := by
  cases hx with
  | fr h => cases h
  | sl _ _ _ _ _ im a cap hm ha h1 h2 h3 h4 h5 => exact ⟨a, cap, rfl, h1, h5⟩
  | slD _ _ _ _ _ _ im a cap hm hg h1 h5 => exact ⟨a, cap, rfl, h1, h5⟩
theorem VR.ptr_shape {i : Id} {g o : Nat} {x : Value} (hx : VR w S B m (.ptr i g o) x) : ∃ a, x = .pointer (some a) := by
  cases hx with
  | fr h => cases h
  | ptr => exact ⟨_, rfl⟩
  | ptrD => exact ⟨_, rfl⟩

theorem len_sound (h : SR w S K m H) {t ty : Nat} {a : V} {out : Out} (he : evLen P t a = some out) {x : Value} (hx : VR w S B m a x) (ts : Array TypeId) (hts : ts[0]? = some t) :
    Sound P K B w S m H out (Builtin.len_ ts ty #[x]) := by
  unfold evLen at he
  split at he
  · rename_i s hu
    cases he
    have := hx.str_inv; subst this
    exact Sound.pure h (x := .int .i64 s.length) (by simp [Builtin.len_, hts, run_underlying hu, goInt] <;> rfl) .i
  · rename_i hu
    cases he
    obtain ⟨a, cap, rfl, _, _⟩ := hx.sl_shape
    exact Sound.pure h (x := .int .i64 _) (by simp [Builtin.len_, hts, run_underlying hu, goInt]) .i
  · rename_i hu
    cases he
    obtain ⟨_, cap, a, vals, rfl, _⟩ := hx.list_inv
    exact Sound.pure h (x := .int .i64 _) (by simp [Builtin.len_, hts, run_underlying hu, goInt]) .i
  · rename_i hu
    cases he
    have := hx.nils_inv; subst this
    exact Sound.pure h (x := .int .i64 0) (by simp [Builtin.len_, hts, run_underlying hu, goInt]) .i
  · rename_i hu
    cases he
    obtain ⟨a0, rfl⟩ := hx.emp_inv
    exact Sound.pure h (x := .int .i64 0) (by simp [Builtin.len_, hts, run_underlying hu, goInt]) .i
  · rename_i n e hu
    cases he
    exact Sound.pure h (x := .int .i64 n) (by simp [Builtin.len_, hts, run_underlying hu, goInt]) .i
  · cases he

theorem cap_sound (h : SR w S K m H) {t ty : Nat} {a : V} {out : Out} (he : evCap P t a = some out) {x : Value} (hx : VR w S B m a x) (ts : Array TypeId) (hts : ts[0]? = some t) :
    Sound P K B w S m H out (Builtin.cap_ ts ty #[x]) := by
  unfold evCap at he
  split at he
  · rename_i hu
    cases he
    have := hx.nils_inv; subst this
    exact Sound.pure h (x := .int .i64 0) (by simp [Builtin.cap_, hts, run_underlying hu, goInt]) .i
  · rename_i hu
    cases he
    obtain ⟨a0, rfl⟩ := hx.emp_inv
    exact Sound.pure h (x := .int .i64 0) (by simp [Builtin.cap_, hts, run_underlying hu, goInt]) .i
  · rename_i c hu
    cases he
    obtain ⟨a, cap, rfl, _, hc⟩ := hx.sl_shape
    have := hc _ rfl
    subst this
    exact Sound.pure h (x := .int .i64 _) (by simp [Builtin.cap_, hts, run_underlying hu, goInt]) .i
  · cases he

theorem max2_sound {a b v : V} (he : max2 a b = some v) {x y : Value} (hx : VR w S B m a x) (hy : VR w S B m b y) : SoundV P B w S m v (Builtin.max2 x y) := by
  unfold max2 at he
  split at he
  · cases he
    have := hx.int_inv; subst this
    have := hy.int_inv; subst this
    exact ⟨_, by simp only [Builtin.max2]; rfl, .i⟩
  · cases he
theorem min2_sound {a b v : V} (he : min2 a b = some v) {x y : Value} (hx : VR w S B m a x) (hy : VR w S B m b y) : SoundV P B w S m v (Builtin.min2 x y) := by
  unfold min2 at he
  split at he
  · cases he
    have := hx.int_inv; subst this
    have := hy.int_inv; subst this
    exact ⟨_, by simp only [Builtin.min2]; rfl, .i⟩
  · cases he
theorem foldO_sound {f : V → V → Option V} {g : Value → Value → Sem Value} (hfg : ∀ {a b v x y}, f a b = some v → VR w S B m a x → VR w S B m b y → SoundV P B w S m v (g x y)) :
    ∀ {l : List V} {xs : List Value} {a v : V} {x : Value}, foldO f a l = some v → VR w S B m a x → All2 (VR w S B m) l xs → SoundV P B w S m v (xs.foldlM g x)
  | [], [], a, v, x, he, hx, _ => by simp [foldO] at he; subst he; exact ⟨x, rfl, hx⟩
  | b :: l, y :: ys, a, v, x, he, hx, h2 => by
    simp only [foldO] at he
    split at he
    · rename_i z hz
      obtain ⟨q, hr, hq⟩ := hfg hz hx h2.1
      obtain ⟨u, hr2, hu⟩ := foldO_sound hfg he hq h2.2
      exact ⟨u, by simp [List.foldlM_cons, hr, hr2], hu⟩
    · cases he
  | [], _ :: _, _, _, _, _, _, h2 => h2.elim
  | _ :: _, [], _, _, _, _, _, h2 => h2.elim

end
end Go.Proofs.Ytcamcfplcoklkaa.Iv

namespace Go.Proofs.Ytcamcfplcoklkaa.Iv
open Go
section
variable {P : Program} {K B : Nat → Prop} {w : World} {S : Nat → Prop} {m : Map} {H : Heap}
set_option linter.unusedVariables false
set_option linter.unusedSimpArgs false

theorem run_binInt {op : BinOp} {k : IntKind} {a b : Int} (t : Nat) (h1 : op ≠ .shl) (h2 : op ≠ .shr) : binOp op t (.int k a) (.int k b) =
    (match op with
    | .add | .sub | .mul => Op.intArith op k a b
    | .quo | .rem => Op.intDiv op k a b
    | .and | .or | .xor | .andNot => Op.intBits op k a b
    | _ => Op.intCmp op a b) := by
  cases op <;> first | (exact absurd rfl h1) | (exact absurd rfl h2) | simp [binOp]
theorem evInt_sound {op : BinOp} {k : IntKind} {a b : Int} {v : V} (he : evInt op k a b = some v) (t : Nat) : SoundV P B w S m v (binOp op t (.int k a) (.int k b)) := by
  unfold SoundV
  cases op <;> simp only [evInt] at he
  case quo =>
    split at he
    · cases he
    · rename_i hb; cases he; rw [run_binInt t (by simp) (by simp)]; exact ⟨_, by simp only [Op.intDiv, hb, if_false]; rfl, .i⟩
  case rem =>
    split at he
    · cases he
    · rename_i hb; cases he; rw [run_binInt t (by simp) (by simp)]; exact ⟨_, by simp only [Op.intDiv, hb, if_false]; rfl, .i⟩
  case shl => cases he
  case shr => cases he
  all_goals
    cases he
    rw [run_binInt t (by simp) (by simp)]
    first | exact ⟨_, rfl, .i⟩ | exact ⟨_, rfl, .b⟩
theorem evShift_sound {op : BinOp} {k k' : IntKind} {a b : Int} {v : V} (he : evShift op k a b = some v) (t : Nat) : SoundV P B w S m v (binOp op t (.int k a) (.int k' b)) := by
  unfold evShift at he
  split at he
  · cases he
  · rename_i hb
    split at he
    · cases he; exact ⟨_, by simp only [binOp, Op.shift, hb, if_false]; rfl, .i⟩
    · cases he; exact ⟨_, by simp only [binOp, Op.shift, hb, if_false]; rfl, .i⟩
    · cases he
theorem evStr_sound {op : BinOp} {a b : List UInt8} {v : V} (he : evStr op a b = some v) (t : Nat) : SoundV P B w S m v (binOp op t (.string ⟨a.toArray⟩) (.string ⟨b.toArray⟩)) := by
  cases op <;> simp only [evStr] at he
  case add =>
    split at he
    · rename_i hle
      cases he
      refine ⟨.string ⟨(a ++ b).toArray⟩, ?_, .fr (.str _)⟩
      have e : (⟨a.toArray⟩ : ByteArray) ++ ⟨b.toArray⟩ = ⟨(a ++ b).toArray⟩ := by apply ByteArray.ext; simp
      have h1 : ¬ (9223372036854775807 < ((a.length : Int) + (b.length : Int))) := by omega
      simp [binOp, Op.stringOp, ByteArray.size, e, h1]
    · cases he
  all_goals first
    | (cases he; done)
    | (cases he
       refine ⟨.bool _, ?_, .b⟩
       simp only [binOp, Op.stringOp, ByteArray.toList_mk]
       rfl)

theorem list_cons_some {x : Value} {c : List V} {cs : List (List V)} {l : Bool} (hx : VR w S B m (.list (c :: cs) l) x) : ∃ a n cap, x = .slice (some a) n cap := by
  obtain ⟨_, cap, a, vals, rfl, _, _, h3, _⟩ := hx.list_inv
  obtain ⟨rb, o, rfl, _⟩ := h3 (by simp)
  exact ⟨_, _, _, rfl⟩

theorem evEq_soundIn {t : Nat} {a b : V} {r : Bool} (he : evEq P t a b = some r) {x y : Value} (hx : VR w S B m a x) (hy : VR w S B m b y) (d : Nat) : (Op.equalIn (d + 1) t x y).run P w = .ok r w := by
  unfold evEq at he
  split at he
  · rename_i d hu
    unfold eq1 at he
    split at he
    · cases he
      have := hx.bool_inv; subst this
      have := hy.bool_inv; subst this
      simp [Op.equalIn, run_underlying hu]
    · cases he
      have := hx.nilp_inv; subst this
      have := hy.nilp_inv; subst this
      simp [Op.equalIn, run_underlying hu]
    · cases he
      have := hx.nilp_inv; subst this
      obtain ⟨a, rfl⟩ := hy.ptr_shape
      simp [Op.equalIn, run_underlying hu]
    · cases he
      have := hy.nilp_inv; subst this
      obtain ⟨a, rfl⟩ := hx.ptr_shape
      simp [Op.equalIn, run_underlying hu]
    · cases he
      have := hx.nilp_inv; subst this
      obtain ⟨rb, o, vals, rfl, _⟩ := hy.fptr_inv
      simp [Op.equalIn, run_underlying hu]
    · cases he
      have := hy.nilp_inv; subst this
      obtain ⟨rb, o, vals, rfl, _⟩ := hx.fptr_inv
      simp [Op.equalIn, run_underlying hu]
    · cases he
      have := hx.nils_inv; subst this
      have := hy.nils_inv; subst this
      simp [Op.equalIn, run_underlying hu]
    · cases he
      have := hx.nils_inv; subst this
      obtain ⟨a, cap, rfl, _⟩ := hy.sl_shape
      simp [Op.equalIn, run_underlying hu]
    · cases he
      have := hy.nils_inv; subst this
      obtain ⟨a, cap, rfl, _⟩ := hx.sl_shape
      simp [Op.equalIn, run_underlying hu]
    · cases he
      have := hx.nils_inv; subst this
      obtain ⟨a, n, cap, rfl⟩ := list_cons_some hy
      simp [Op.equalIn, run_underlying hu]
    · cases he
      have := hy.nils_inv; subst this
      obtain ⟨a, n, cap, rfl⟩ := list_cons_some hx
      simp [Op.equalIn, run_underlying hu]
    · cases he
      have := hx.nilf_inv; subst this
      have := hy.nilf_inv; subst this
      simp [Op.equalIn, run_underlying hu]
    · cases he
      have := hx.nilf_inv; subst this
      obtain ⟨xs, rfl, _⟩ := hy.fn_inv
      simp [Op.equalIn, run_underlying hu]
    · cases he
      have := hy.nilf_inv; subst this
      obtain ⟨xs, rfl, _⟩ := hx.fn_inv
      simp [Op.equalIn, run_underlying hu]
    · cases he
  · cases he

theorem evEq_sound {t : Nat} {a b : V} {r : Bool} (he : evEq P t a b = some r) {x y : Value} (hx : VR w S B m a x) (hy : VR w S B m b y) : (Op.equal t x y).run P w = .ok r w :=
  evEq_soundIn he hx hy 9999

/-- what evEq speaks of: values of one cell that are no number, no string, no struct -/
theorem evEq_form {t : Nat} {a b : V} {r : Bool} (he : evEq P t a b = some r) {x y : Value} (hx : VR w S B m a x) (hy : VR w S B m b y) (op : BinOp) (o1 o2 : Operand) :
    (eqGuard op t o1 o2 x y).run P w = .ok () w ∧ (op = .eql → (binOp op t x y).run P w = .ok (.bool r) w) ∧ (op = .neq → (binOp op t x y).run P w = .ok (.bool !r) w) := by
  have hr := evEq_sound he hx hy
  unfold evEq at he
  split at he
  · rename_i d hu
    have key : (∃ p q, x = .bool p ∧ y = .bool q) ∨ (∃ p q, x = .pointer p ∧ y = .pointer q) ∨ (∃ p q r p' q' r', x = .slice p q r ∧ y = .slice p' q' r') ∨ (x = .nilFunc ∨ ∃ p q r, x = .func p q r) := by
      unfold eq1 at he
      split at he
      · exact .inl ⟨_, _, hx.bool_inv, hy.bool_inv⟩
      · exact .inr (.inl ⟨_, _, hx.nilp_inv, hy.nilp_inv⟩)
      · obtain ⟨a, e⟩ := hy.ptr_shape; exact .inr (.inl ⟨_, _, hx.nilp_inv, e⟩)
      · obtain ⟨a, e⟩ := hx.ptr_shape; exact .inr (.inl ⟨_, _, e, hy.nilp_inv⟩)
      · obtain ⟨rb, o, vals, e, _⟩ := hy.fptr_inv; exact .inr (.inl ⟨_, _, hx.nilp_inv, e⟩)
      · obtain ⟨rb, o, vals, e, _⟩ := hx.fptr_inv; exact .inr (.inl ⟨_, _, e, hy.nilp_inv⟩)
      · exact .inr (.inr (.inl ⟨_, _, _, _, _, _, hx.nils_inv, hy.nils_inv⟩))
      · obtain ⟨a, cap, e, _⟩ := hy.sl_shape; exact .inr (.inr (.inl ⟨_, _, _, _, _, _, hx.nils_inv, e⟩))
      · obtain ⟨a, cap, e, _⟩ := hx.sl_shape; exact .inr (.inr (.inl ⟨_, _, _, _, _, _, e, hy.nils_inv⟩))
      · obtain ⟨a, n, cap, e⟩ := list_cons_some hy; exact .inr (.inr (.inl ⟨_, _, _, _, _, _, hx.nils_inv, e⟩))
      · obtain ⟨a, n, cap, e⟩ := list_cons_some hx; exact .inr (.inr (.inl ⟨_, _, _, _, _, _, e, hy.nils_inv⟩))
      · exact .inr (.inr (.inr (.inl hx.nilf_inv)))
      · exact .inr (.inr (.inr (.inl hx.nilf_inv)))
      · obtain ⟨xs, e, _⟩ := hx.fn_inv; exact .inr (.inr (.inr (.inr ⟨_, _, _, e⟩)))
      · cases he
    rcases key with ⟨p, q, rfl, rfl⟩ | ⟨p, q, rfl, rfl⟩ | ⟨p, q, r, p', q', r', rfl, rfl⟩ | rfl | ⟨p, q, r, rfl⟩
    all_goals
      refine ⟨by cases op <;> simp [eqGuard], fun e => ?_, fun e => ?_⟩ <;> (subst e; simp [binOp, hr])
  · cases he

theorem bin_sound {t : Nat} {op : BinOp} {a b v : V} (he : evBin P t op a b = some v) {x y : Value} (hx : VR w S B m a x) (hy : VR w S B m b y) (o1 o2 : Operand) :
    SoundV P B w S m v (do eqGuard op t o1 o2 x y; binOp op t x y) := by
  have gi : ∀ k n k' n', (eqGuard op t o1 o2 (.int k n) (.int k' n')).run P w = .ok () w := fun k n k' n' => by cases op <;> simp [eqGuard]
  have gs : ∀ p q, (eqGuard op t o1 o2 (.string p) (.string q)).run P w = .ok () w := fun p q => by cases op <;> simp [eqGuard]
  unfold evBin at he
  split at he
  · rename_i k n k' n'
    have := hx.int_inv; subst this
    have := hy.int_inv; subst this
    split at he
    · obtain ⟨z, hr, hz⟩ := evShift_sound (P := P) (B := B) (w := w) (S := S) (m := m) (k' := k') he t
      exact ⟨z, by simp [gi, hr], hz⟩
    · obtain ⟨z, hr, hz⟩ := evShift_sound (P := P) (B := B) (w := w) (S := S) (m := m) (k' := k') he t
      exact ⟨z, by simp [gi, hr], hz⟩
    · split at he
      · rename_i hk
        subst hk
        obtain ⟨z, hr, hz⟩ := evInt_sound (P := P) (B := B) (w := w) (S := S) (m := m) he t
        exact ⟨z, by simp [gi, hr], hz⟩
      · cases he
  · have := hx.str_inv; subst this
    have := hy.str_inv; subst this
    obtain ⟨z, hr, hz⟩ := evStr_sound (P := P) (B := B) (w := w) (S := S) (m := m) he t
    exact ⟨z, by simp [gs, hr], hz⟩
  · split at he
    · split at he
      · rename_i r hr
        cases he
        obtain ⟨q1, q2, q3⟩ := evEq_form hr hx hy .eql o1 o2
        exact ⟨.bool r, by simp [q1, q2 rfl], .b⟩
      · cases he
    · split at he
      · rename_i r hr
        cases he
        obtain ⟨q1, q2, q3⟩ := evEq_form hr hx hy .neq o1 o2
        exact ⟨.bool !r, by simp [q1, q3 rfl], .b⟩
      · cases he
    · cases he

theorem un_sound {op : UnOp} {a v : V} (he : evUn op a = some v) {x : Value} (hx : VR w S B m a x) : SoundV P B w S m v (Op.unary op x) := by
  unfold evUn at he
  split at he
  · cases he; have := hx.int_inv; subst this; exact ⟨_, by simp only [Op.unary, Op.intArith]; rfl, .i⟩
  · cases he; have := hx.int_inv; subst this; exact ⟨_, by simp only [Op.unary, Op.intBits]; rfl, .i⟩
  · cases he; have := hx.bool_inv; subst this; exact ⟨_, by simp only [Op.unary]; rfl, .b⟩
  · cases he
end
end Go.Proofs.Ytcamcfplcoklkaa.Iv

namespace Go.Proofs.Ytcamcfplcoklkaa.Iv
open Go
section
variable {P : Program} {K B : Nat → Prop} {w : World} {S : Nat → Prop} {m : Map} {H : Heap}
set_option linter.unusedVariables false
set_option linter.unusedSimpArgs false

/-! ### freezing -/
def FrzOf (H H1 : Heap) : Prop := ∀ i, H1 i = H i ∨ ∃ b, H i = some b ∧ H1 i = some { b with frz := true }
theorem FrzOf.refl (H : Heap) : FrzOf H H := fun _ => .inl rfl
theorem FrzOf.get {H H1 : Heap} (h : FrzOf H H1) {i : Id} {b : Blk} (hb : H i = some b) : ∃ f, H1 i = some { b with frz := f } := by
  rcases h i with e | ⟨b', e1, e2⟩
  · exact ⟨b.frz, by rw [e, hb]⟩
  · rw [hb] at e1; cases e1; exact ⟨true, e2⟩
theorem FrzOf.set {H H1 : Heap} (h : FrzOf H H1) {i : Id} {b : Blk} (hb : H i = some b) : FrzOf H (H1.set i { b with frz := true }) := by
  intro j
  by_cases e : j = i
  · subst e; exact .inr ⟨b, hb, Heap.set_same ..⟩
  · rw [Heap.set_ne _ _ e]; exact h j
theorem FrzOf.live {H H1 : Heap} (h : FrzOf H H1) {i : Id} {g : Nat} {b : Blk} (hb : live H i g = some b) : ∃ f, Iv.live H1 i g = some { b with frz := f } := by
  obtain ⟨h1, h2⟩ := live_some hb
  obtain ⟨f, hf⟩ := h.get h1
  exact ⟨f, by simp [Iv.live, hf, h2]⟩

theorem chunk_len (sz : Nat) : ∀ (n : Nat) (cs : List V), (chunk sz n cs).length = n
  | 0, _ => rfl
  | n + 1, cs => by simp [chunk, chunk_len sz n]
theorem chunk_flatten (sz : Nat) : ∀ (n : Nat) (cs : List V), cs.length = n * sz → (chunk sz n cs).flatten = cs
  | 0, cs, h => by simp at h; simp [chunk, h]
  | n + 1, cs, h => by
    simp only [chunk, List.flatten_cons]
    rw [chunk_flatten sz n (cs.drop sz) (by simp [h, Nat.succ_mul]), List.take_append_drop]
theorem chunk_each (sz : Nat) : ∀ (n : Nat) (cs : List V), cs.length = n * sz → ∀ x ∈ chunk sz n cs, x.length = sz
  | 0, _, _, x, hx => by simp [chunk] at hx
  | n + 1, cs, h, x, hx => by
    simp only [chunk, List.mem_cons] at hx
    rcases hx with e | hx
    · subst e; simp [h, Nat.succ_mul]
    · exact chunk_each sz n (cs.drop sz) (by simp [h, Nat.succ_mul]) x hx

/-- a slice of the heap's, read as a list -/
theorem sl_list (h : SR w S K m H) {i : Id} {g o n sz : Nat} {lim : Option Nat} {x : Value} {b : Blk} (hx : VR w S B m (.sl i g o n sz lim) x) (hl : live H i g = some b)
    {cs : List V} (hc : cut b.cells o (n * sz) = some cs) (hfl : b.flat = true) (hsz : 0 < sz) {S' B' : Nat → Prop} {m' : Map} {l : Bool} (hS : ∀ rb, S rb → S' rb)
    (him : ∀ im, m i = some im → S' im.rb ∨ (l = true ∧ B' im.rb)) : VR w S' B' m' (.list (chunk sz n cs) l) x := by
  obtain ⟨im, a, cap, hm, ok, rfl, hi, rfl, ha, h1, h2, h3, h4, h5⟩ := VR.sl_live h hx hl
  obtain ⟨xs, r2, hxl, hq⟩ := ok.read hc
  have hcl := (cut_some hc).2
  have key := VR.list_mk (w := w) (S := S') (B := B') (m := m') (xs := chunk sz n cs) (l := l) sz cap (some a) (fun j => xs.getD j undef) (by rw [chunk_len]; exact h1) (chunk_each sz n cs hcl)
    (fun hne => ?_) (fun j c hj => ?_)
  · rw [chunk_len] at key; exact key
  · have hn : 0 < n := by
      rcases Nat.eq_zero_or_pos n with e | e
      · subst e; exact absurd rfl hne
      · exact e
    refine ⟨im.rb, im.dl + o, by rw [ha (by omega)], him im hm, fun j hj => ?_⟩
    rw [chunk_flatten sz n cs hcl, hcl] at hj
    have : xs[j]? = some (xs.getD j undef) := by simp [List.getD, hxl, hj]
    exact hq j _ this
  · rw [chunk_flatten sz n cs hcl] at hj
    obtain ⟨x, hx, r⟩ := r2.get hj
    have : xs.getD j undef = x := by simp [List.getD, hx]
    simp only [this]
    exact (r.2.2 hfl).mono (fun _ _ => rfl) hS

theorem keep1_sound {H1 : Heap} (hF : FrzOf H H1) (h : SR w S K m H1) {v : V} {o : Out} (he : keep1 H v = some o) {x : Value} (hx : VR w S B m v x) :
    ∃ S', Step K w S m w S' m ∧ SR w S' K m (H1.sets o.ups) ∧ FrzOf H (H1.sets o.ups) ∧ VR w S' no m o.v x := by
  have same : ∀ {v' : V}, o = ⟨v', [], []⟩ → VR w S no m v' x → ∃ S', Step K w S m w S' m ∧ SR w S' K m (H1.sets o.ups) ∧ FrzOf H (H1.sets o.ups) ∧ VR w S' no m o.v x :=
    fun e hv => by subst e; exact ⟨S, Step.refl .., h, hF, hv⟩
  unfold keep1 at he
  split at he
  · rename_i i g o n sz lim
    split at he
    · rename_i b hb
      split at he
      · rename_i cs hc
        split at he
        · rename_i hq
          cases he
          obtain ⟨hb1, hg⟩ := live_some hb
          obtain ⟨f, hf⟩ := hF.live hb
          obtain ⟨f1, f2⟩ := live_some hf
          obtain ⟨im, hm, ok⟩ := h.blk i _ f1
          obtain ⟨S', hS, st, sr⟩ := SR.freeze h f1 hm
          refine ⟨S', st, sr, hF.set hb1, ?_⟩
          exact sl_list h hx hf (by exact hc) hq.1 hq.2 st.sub (fun im' hm' => by rw [hm] at hm'; cases hm'; exact .inl hS)
        · cases he
      · cases he
    · cases he
  · rename_i xs l
    split at he
    · cases he
    · rename_i hl
      cases he
      obtain ⟨sz, cap, a, vals, rfl, h1, h2, h3, h4⟩ := hx.list_inv
      exact same rfl (VR.list_mk sz cap a vals h1 h2 (fun hne => let ⟨rb, o, e, hs, hc⟩ := h3 hne; ⟨rb, o, e, hs.elim .inl (fun q => absurd q.1 (by simpa using hl)), hc⟩) h4)
  · cases he
    have := hx.nils_inv; subst this
    exact same rfl (VR.list_mk (xs := []) 0 0 none (fun _ => undef) (Nat.le_refl _) (fun x hx => by cases hx) (fun hne => absurd rfl hne) (fun j c hj => by simp at hj))
  · cases he
    obtain ⟨a, rfl⟩ := hx.emp_inv
    exact same rfl (VR.list_mk (xs := []) 0 0 a (fun _ => undef) (Nat.le_refl _) (fun x hx => by cases hx) (fun hne => absurd rfl hne) (fun j c hj => by simp at hj))
  · rename_i cs l
    split at he
    · cases he
    · rename_i hl
      cases he
      obtain rfl : l = false := by simpa using hl
      obtain ⟨rb, o, vals, rfl, h1, h2, h3⟩ := hx.fptr_inv
      exact same rfl (VR.fptr_mk rb o vals (h1.elim .inl (fun q => by cases q.1)) h2 h3)
  · cases he
  · cases he
  · cases he
  · rename_i f cs
    split at he
    · rename_i hk
      cases he
      obtain ⟨xs, rfl, h2⟩ := hx.fn_inv
      exact same rfl (VR.fn_mk (h2.imp' (fun c x hc r => r.kept (List.all_eq_true.1 hk c hc))))
    · cases he
  · rename_i n1 n2 n3 n4 n5 n6 n7 n8 n9
    cases he
    cases v with
    | fn f cs => exact absurd rfl (n9 _ _)
    | sl => exact absurd rfl (n1 _ _ _ _ _ _)
    | list => exact absurd rfl (n2 _ _)
    | nils => exact absurd rfl n3
    | emp => exact absurd rfl n4
    | fptr => exact absurd rfl (n5 _ _)
    | und => exact absurd rfl n6
    | tup => exact absurd rfl (n7 _)
    | agg => exact absurd rfl (n8 _)
    | _ => exact same rfl (hx.kept rfl)

theorem sets_app (H : Heap) : ∀ (a b : List (Id × Blk)), H.sets (a ++ b) = (H.sets a).sets b
  | [], _ => rfl
  | (i, x) :: r, b => by simp only [List.cons_append, Heap.sets]; exact sets_app _ r b

theorem keepL_sound : ∀ {cs : List V} {S : Nat → Prop} {H1 : Heap} (hF : FrzOf H H1) (h : SR w S K m H1) {o : List V × List (Id × Blk) × List Id} (he : keepL H cs = some o) {xs : List Value}
    (hx : All2 (VR w S B m) cs xs), ∃ S', Step K w S m w S' m ∧ SR w S' K m (H1.sets o.2.1) ∧ FrzOf H (H1.sets o.2.1) ∧ All2 (VR w S' no m) o.1 xs
  | [], S, H1, hF, h, o, he, [], _ => by simp [keepL] at he; subst he; exact ⟨S, Step.refl .., h, hF, trivial⟩
  | [], _, _, _, _, _, _, _ :: _, hx => hx.elim
  | _ :: _, _, _, _, _, _, _, [], hx => hx.elim
  | v :: r, S, H1, hF, h, o, he, x :: xs, hx => by
    simp only [keepL] at he
    split at he
    · rename_i v' u d hv
      split at he
      · rename_i vs us ds hr
        cases he
        obtain ⟨S1, st1, sr1, hF1, hv1⟩ := keep1_sound hF h hv hx.1
        obtain ⟨S2, st2, sr2, hF2, hv2⟩ := keepL_sound hF1 sr1 hr (hx.2.imp (fun c x r => by
          -- a step in which the world stays: whatever is lent reads as it did
          exact r.monoS st1))
        refine ⟨S2, st1.trans st2, ?_, ?_, ⟨hv1.mono st2 (fun _ f => f.elim), hv2⟩⟩
        · rw [sets_app]; exact sr2
        · rw [sets_app]; exact hF2
      · cases he
    · cases he

theorem keepV_sound {H1 : Heap} (hF : FrzOf H H1) (h : SR w S K m H1) {v : V} {o : Out} (he : keepV H v = some o) {x : Value} (hx : VR w S B m v x) :
    ∃ S', Step K w S m w S' m ∧ SR w S' K m (H1.sets o.ups) ∧ FrzOf H (H1.sets o.ups) ∧ VR w S' no m o.v x := by
  unfold keepV at he
  split at he
  · rename_i cs
    split at he
    · rename_i cs' u d hl
      cases he
      obtain ⟨xs, rfl, h2⟩ := hx.agg_inv
      obtain ⟨S', st, sr, hF', h3⟩ := keepL_sound hF h hl h2
      exact ⟨S', st, sr, hF', VR.agg_mk h3⟩
    · cases he
  · exact keep1_sound hF h he hx
end
end Go.Proofs.Ytcamcfplcoklkaa.Iv

namespace Go.Proofs.Ytcamcfplcoklkaa.Iv
open Go
section
variable {P : Program} {K B : Nat → Prop} {w : World} {S : Nat → Prop} {m : Map} {H : Heap}
set_option linter.unusedVariables false
set_option linter.unusedSimpArgs false

/-! ### filling -/
theorem fillOne {cells : List V} {arr ys : Array Value} {cs : List V} {R : V → Value → Prop} (off : Nat) (h : All2 R cells arr.toList) (k : All2 R cs ys.toList) (hle : off + cs.length ≤ cells.length) :
    All2 R (splice cells off cs) (ys.zipIdx.foldl (fun a (c, j) => a.setIfInBounds (off + j) c) arr).toList := by
  have e : ys.zipIdx.foldl (fun a (c, j) => a.setIfInBounds (off + j) c) arr = (ys.toList.zipIdx 0).foldl (fun cs (x : Value × Nat) => cs.setIfInBounds (off + x.2) x.1) arr := by
    rw [← Array.foldl_toList, Array.toList_zipIdx]
  obtain ⟨g1, g2⟩ := Great.foldl_set off ys.toList 0 arr
  rw [← e] at g1 g2
  have hl1 := h.len
  have hl2 := k.len
  have hx : (ys.zipIdx.foldl (fun a (c, j) => a.setIfInBounds (off + j) c) arr).toList = arr.toList.take off ++ ys.toList ++ arr.toList.drop (off + ys.toList.length) := by
    apply List.ext_getElem?
    intro j
    rw [Array.getElem?_toList, g2 j]
    simp only [Nat.add_zero]
    have hsz : arr.size = arr.toList.length := by simp
    have hto : (arr.toList.take off).length = off := by rw [List.length_take]; omega
    rw [List.append_assoc]
    rcases Nat.lt_or_ge j off with h1 | h1
    · rw [if_neg (by omega), List.getElem?_append_left (by omega), List.getElem?_take_of_lt h1, Array.getElem?_toList]
    · rw [List.getElem?_append_right (by omega), hto]
      rcases Nat.lt_or_ge (j - off) ys.toList.length with h2 | h2
      · rw [List.getElem?_append_left h2]
        by_cases h3 : j < arr.size
        · rw [if_pos ⟨h1, by omega, h3⟩]
        · omega
      · rw [if_neg (by omega), List.getElem?_append_right h2, List.getElem?_drop, Array.getElem?_toList]
        congr 1
        omega
  rw [hx]
  exact h.splice off k

theorem fill_sound {R : V → Value → Prop} {place : Nat → Option (Nat × Nat)} : ∀ {ps : List (Nat × V)} {qs : List (Nat × Value)} {cells : List V} {arr : Array Value} {r : List V},
    fillF place ps cells = some r → ps.length = qs.length → (∀ (j : Nat) p q, ps[j]? = some p → qs[j]? = some q → p.1 = q.1 ∧ All2 R p.2.cells q.2.cells.toList) → All2 R cells arr.toList →
    ∃ r', Instr.fill place arr qs = some r' ∧ All2 R r r'.toList
  | [], [], cells, arr, r, he, _, _, h => by simp [fillF] at he; subst he; exact ⟨arr, rfl, h⟩
  | [], _ :: _, _, _, _, _, hl, _, _ => by simp at hl
  | _ :: _, [], _, _, _, _, hl, _, _ => by simp at hl
  | (i, v) :: ps, (i', y) :: qs, cells, arr, r, he, hl, hpq, h => by
    obtain ⟨e1, hc⟩ := hpq 0 _ _ rfl rfl
    simp only at e1 hc
    subst e1
    simp only [fillF] at he
    split at he
    · rename_i off size hp
      split at he
      · rename_i hq
        obtain ⟨hq1, hq2⟩ := hq
        have hyl : y.cells.toList.length = v.cells.length := hc.len
        have hal := h.len
        have h' := fillOne off h hc (by omega)
        obtain ⟨r', hr, h2⟩ := fill_sound (place := place) he (by simpa using hl) (fun j p q h1 h2 => hpq (j + 1) p q (by simpa using h1) (by simpa using h2)) h'
        refine ⟨r', ?_, h2⟩
        simp only [Array.length_toList] at hyl hal
        simp only [Instr.fill, hp]
        rw [if_neg (by rw [hyl, hal, hq1]; simp; omega)]
        exact hr
      · cases he
    · cases he

theorem cells_of {v : V} {x : Value} (h : VR w S B m v x) (hu : v ≠ .und) (hv : ∀ cs, v ≠ .tup cs) : All2 (VR w S B m) v.cells x.cells.toList := by
  cases h with
  | fr hf =>
    have h1 : v.cells = [v] := by cases hf <;> rfl
    have h2 : x.cells = #[x] := by cases hf <;> rfl
    rw [h1, h2]; exact ⟨.fr hf, trivial⟩
  | agg cs vs hl hh => exact All2.of (by simpa [V.cells, Value.cells] using hl) (fun j c x h1 h2 => hh j c x h1 (by have h2' : vs.toList[j]? = some x := h2; simpa using h2'))
  | und => exact absurd rfl hu
  | tup cs => exact absurd rfl (hv _)
  | lfptr cs rb o vals a b c => exact ⟨.lfptr cs rb o vals a b c, trivial⟩
  | llist xs sz cap a vals a b c d => exact ⟨.llist xs sz cap _ vals a b c d, trivial⟩
  | ptr i o im hm => exact ⟨.ptr i o im hm, trivial⟩
  | ptrD i g o im a hm hg => exact ⟨.ptrD i g o im a hm hg, trivial⟩
  | sl i o n sz lim im a cap hm ha h1 h2 h3 h4 h5 => exact ⟨.sl i o n sz lim im a cap hm ha h1 h2 h3 h4 h5, trivial⟩
  | slD i g o n sz lim im a cap hm hg h1 h5 => exact ⟨.slD i g o n sz lim im a cap hm hg h1 h5, trivial⟩
  | fn f cs vs hl hh => exact ⟨.fn f cs vs hl hh, trivial⟩

/-- parts of a literal, related one by one -/
def PartsR (R : V → Value → Prop) (ps : List (Nat × V)) (qs : List (Nat × Value)) : Prop :=
  ps.length = qs.length ∧ ∀ (j : Nat) p q, ps[j]? = some p → qs[j]? = some q → p.1 = q.1 ∧ R p.2 q.2

theorem build_sound {t : Nat} {ps : List (Nat × V)} {v : V} (he : evBuild P t ps = some v) {qs : Array (Nat × Value)} (hp : PartsR (VR w S B m) ps qs.toList) : SoundV P B w S m v (Instr.build t qs) := by
  unfold evBuild at he
  split at he
  case isFalse => cases he
  rename_i hok
  have hu : ∀ p ∈ ps, p.2 ≠ .und ∧ ∀ cs, p.2 ≠ .tup cs := fun p hp => by
    have := List.all_eq_true.1 hok p hp
    exact ⟨fun e => (by rw [e] at this; cases this), fun cs e => (by rw [e] at this; cases this)⟩
  have hpq : ∀ (j : Nat) p q, ps[j]? = some p → qs.toList[j]? = some q → p.1 = q.1 ∧ All2 (VR w S B m) p.2.cells q.2.cells.toList := fun j p q h1 h2 => by
    obtain ⟨e, r⟩ := hp.2 j p q h1 h2
    have := hu p (List.mem_of_getElem? h1)
    exact ⟨e, cells_of r this.1 this.2⟩
  have zc : ∀ {z}, zOf P t = some z → ∃ zv, (zeroValue t).run P w = .ok zv w ∧ All2 (VR w S B m) z zv.cells.toList := fun hz => by
    obtain ⟨zv, hr, rfl⟩ := run_zero' hz w
    refine ⟨zv, hr, ?_⟩
    cases zv with
    | agg cs =>
      refine All2.of (by simp [ofVal, V.cells, Value.cells]) (fun j c x h1 h2 => ?_)
      simp only [ofVal, V.cells, List.getElem?_map, Value.cells] at h1 h2
      rw [h2] at h1
      simp only [Option.map_some, Option.some.injEq] at h1
      subst h1; exact sc_VR x
    | _ =>
      have e : ∀ y : Value, (sc y).cells = [sc y] := fun y => by
        cases hh : sc y <;> first | rfl | exact (sc_agg _ _ hh).elim
      simp only [ofVal, e, Value.cells]
      exact ⟨sc_VR _, trivial⟩
  split at he
  · rename_i fs z hu' hz
    obtain ⟨zv, hzr, hz2⟩ := zc hz
    obtain ⟨it, zv', hit, hiz, hze⟩ := zOf_info hz
    have : zv' = zv := by
      have : (zeroValue t).run P w = .ok zv' w := by unfold zeroValue typeInfo; simp [hit, hiz]
      rw [hzr] at this; cases this; rfl
    subst this
    split at he
    · rename_i places hpl
      split at he
      · rename_i r hf
        cases he
        obtain ⟨r', hr, h2⟩ := fill_sound hf hp.1 hpq hz2
        refine ⟨.agg r', run_build w t qs r' ?_, VR.agg_mk (xs := r'.toList) h2⟩
        unfold placesOf at hpl
        simp only [Program.built, hit, hu', hiz, hpl]
        rw [← hr]
        congr 1
        funext i
        simp
      · cases he
    · cases he
  · rename_i n e z hu' hz
    obtain ⟨zv, hzr, hz2⟩ := zc hz
    split at he
    · rename_i sz hs
      split at he
      · rename_i r hf
        cases he
        obtain ⟨r', hr, h2⟩ := fill_sound hf hp.1 hpq hz2
        refine ⟨.agg r', ?_, VR.agg_mk (xs := r'.toList) h2⟩
        simp [Instr.build, hzr, run_underlying hu', run_sizeOf' hs, hr]
      · cases he
    · cases he
  · cases he
end
end Go.Proofs.Ytcamcfplcoklkaa.Iv

namespace Go.Proofs.Ytcamcfplcoklkaa.Iv
open Go
section
variable {P : Program} {K B : Nat → Prop} {w : World} {S : Nat → Prop} {m : Map} {H : Heap}
set_option linter.unusedVariables false
set_option linter.unusedSimpArgs false

abbrev CellR (w : World) (S : Nat → Prop) (m : Map) (fl : Bool) (c : V) (y : Value) : Prop := y.oneCell' = true ∧ VR w S no m c y ∧ (fl = true → FR w S c y)

theorem cell_heap {w w' : World} (h : w'.heap = w.heap) (a : Addr) : w'.cell? a = w.cell? a := by unfold World.cell?; rw [h]

theorem run_loadCells_at {w' : World} (hw : w'.heap = w.heap) {rb o n : Nat} {xs : List Value} (hl : xs.length = n) (h : ∀ (j : Nat) (x : Value), xs[j]? = some x → w.cell? ⟨rb, o + j, none⟩ = some x) :
    (loadCells ⟨rb, o, none⟩ n).run P w' = .ok xs.toArray w' := by
  have := run_loadCells_list (P := P) w' ⟨rb, o, none⟩ xs (fun j x hj => by rw [add_eq, cell_heap hw]; exact h j x hj)
  rwa [hl] at this

theorem src_sound (h : SR w S K m H) {sz k : Nat} {v : V} {cs : List V} {fl : Bool} {rd : List Id} (he : src H sz v = some (cs, k, fl, rd)) {x : Value} (hx : VR w S B m v x) :
    ∃ news : List Value, All2 (CellR w S m fl) cs news ∧ (Builtin.lenOf x).run P w = .ok k w ∧ (∀ w' : World, w'.heap = w.heap → ∀ q, q ≤ k → (Builtin.firstCells sz q x).run P w' = .ok (news.take (q * sz)).toArray w') ∧ cs.length = k * sz := by
  unfold src at he
  split at he
  · rename_i i g o n s lim
    split at he
    · rename_i b hb
      split at he
      · rename_i cs' hc
        split at he
        · rename_i hs
          cases he
          subst hs
          obtain ⟨im, a, cap, hm, ok, rfl, hi, rfl, ha, h1, h2, h3, h4, h5⟩ := VR.sl_live h hx hb
          obtain ⟨xs, r2, hxl, hq⟩ := ok.read hc
          refine ⟨xs, r2.imp (fun c x r => ⟨r.2.1, r.1, r.2.2⟩), rfl, fun w' hw q hqk => ?_, (cut_some hc).2⟩
          rcases Nat.eq_zero_or_pos q with e | e
          · subst e; simp [Builtin.firstCells, loadCells, loadCellsFrom]
          · rw [ha (by omega)]
            simp only [Builtin.firstCells]
            have hle : q * s ≤ k * s := Nat.mul_le_mul_right _ hqk
            exact run_loadCells_at hw (by rw [List.length_take]; omega) (fun j x hj => by
              have : j < q * s := by
                have := (List.getElem?_eq_some_iff.1 hj).1
                rw [List.length_take] at this; omega
              rw [List.getElem?_take_of_lt this] at hj
              exact hq j x hj)
        · cases he
      · cases he
    · cases he
  · rename_i xs l
    split at he
    · rename_i hall
      cases he
      obtain ⟨sz', cap, a, vals, rfl, h1, h2, h3, h4⟩ := hx.list_inv
      have hz : ∀ x ∈ xs, x.length = sz := fun x hx => by simpa using List.all_eq_true.1 hall x hx
      have hfl := flatten_len sz xs hz
      refine ⟨(List.range xs.flatten.length).map vals, All2.of (by simp) (fun j c x e1 e2 => ?_), rfl, fun w' hw q hqk => ?_, hfl⟩
      · have hj : j < xs.flatten.length := (List.getElem?_eq_some_iff.1 e1).1
        rw [List.getElem?_map, List.getElem?_range hj] at e2
        simp only [Option.map_some, Option.some.injEq] at e2
        subst e2
        have := h4 j c e1
        exact ⟨this.one, .fr this, fun _ => this⟩
      · rcases Nat.eq_zero_or_pos q with e | e
        · subst e; cases a <;> simp [Builtin.firstCells, loadCells, loadCellsFrom]
        · obtain ⟨rb, o, rfl, hS, hcell⟩ := h3 (fun e => by subst e; simp at hqk; omega)
          simp only [Builtin.firstCells]
          have hle : q * sz ≤ xs.length * sz := Nat.mul_le_mul_right _ hqk
          refine run_loadCells_at hw (by rw [List.length_take, List.length_map, List.length_range]; omega) (fun j x hj => ?_)
          have hlt : j < q * sz := by
            have := (List.getElem?_eq_some_iff.1 hj).1
            rw [List.length_take] at this; omega
          rw [List.getElem?_take_of_lt hlt, List.getElem?_map, List.getElem?_range (by omega)] at hj
          simp only [Option.map_some, Option.some.injEq] at hj
          subst hj
          exact hcell j (by omega)
    · cases he
  · cases he
    have := hx.nils_inv; subst this
    exact ⟨[], trivial, rfl, fun w' hw q hq => by simp [Builtin.firstCells], by simp⟩
  · cases he
    obtain ⟨a, rfl⟩ := hx.emp_inv
    refine ⟨[], trivial, rfl, fun w' hw q hq => ?_, by simp⟩
    have : q = 0 := by omega
    subst this
    cases a <;> simp [Builtin.firstCells, loadCells, loadCellsFrom]
  · rename_i s
    split at he
    · rename_i hs
      cases he
      subst hs
      have := hx.str_inv; subst this
      refine ⟨s.map fun b => .int .u8 b.toNat, All2.of (by simp) (fun j c x e1 e2 => ?_), rfl, fun w' hw q hqk => ?_, by simp⟩
      · rw [List.getElem?_map] at e1 e2
        cases hb : s[j]? with
        | none => rw [hb] at e1; cases e1
        | some b =>
          rw [hb] at e1 e2
          simp only [Option.map_some, Option.some.injEq] at e1 e2
          subst e1 e2
          exact ⟨rfl, .i, fun _ => .int _ _⟩
      · simp only [Builtin.firstCells, Nat.mul_one]
        rw [ByteArray.extract_mk]
        simp [List.map_take]
    · cases he
  · cases he

/-! ### rows of the same cells -/
theorem repl_get {α : Type} (z : List α) : ∀ (n j : Nat), j < n * z.length → (List.replicate n z).flatten[j]? = z[j % z.length]?
  | 0, j, h => by simp at h
  | n + 1, j, h => by
    simp only [List.replicate_succ, List.flatten_cons]
    rcases Nat.lt_or_ge j z.length with h1 | h1
    · rw [List.getElem?_append_left h1, Nat.mod_eq_of_lt h1]
    · rw [List.getElem?_append_right h1, repl_get z n (j - z.length) (by rw [Nat.succ_mul] at h; omega), ← Nat.mod_eq_sub_mod h1]
theorem repl_len {α : Type} (z : List α) (n : Nat) : (List.replicate n z).flatten.length = n * z.length := by simp
theorem rep_cells {z : List V} {zs : Array Value} {R : V → Value → Prop} (h : All2 R z zs.toList) (n : Nat) {arr : Array Value} (ha : arr.size = n * zs.size)
    (hg : ∀ j, j < n * zs.size → arr[j]? = some (zs[j % zs.size]!)) : All2 R (rep n z) arr.toList := by
  have hl := h.len
  simp only [Array.length_toList] at hl
  have hrl : (rep n z).length = n * z.length := repl_len z n
  refine All2.of (by rw [hrl, Array.length_toList, ha, hl]) (fun j c x e1 e2 => ?_)
  have hj : j < n * z.length := by rw [← hrl]; exact (List.getElem?_eq_some_iff.1 e1).1
  have e1' : z[j % z.length]? = some c := by rw [← repl_get z n j hj]; exact e1
  rw [Array.getElem?_toList, hg j (by rw [hl]; exact hj)] at e2
  cases e2
  obtain ⟨x, hx, r⟩ := h.get e1'
  rw [hl]
  have hm : j % z.length < z.length := (List.getElem?_eq_some_iff.1 e1').1
  rw [Array.getElem?_toList] at hx
  have : zs[j % z.length]! = x := by
    rw [Array.getElem!_eq_getD, Array.getD_eq_getD_getElem?, hx]; rfl
  rw [this]; exact r

theorem zero_of {e : Nat} {z : List V} (hz : zOf P e = some z) (hp : z.all V.plain = true) : ∃ (i : TypeInfo) (zv : Value), P.info? e = some i ∧ i.zero = some zv ∧ zv.cells.size = z.length ∧
    ∀ (w : World) (S : Nat → Prop) (m : Map), All2 (CellR w S m true) z zv.cells.toList := by
  obtain ⟨i, zv, hi, hzz, rfl⟩ := zOf_info hz
  have := fun (w : World) (S : Nat → Prop) (m : Map) => (zero_cells (w := w) (S := S) (B := no) (m := m) zv hp).imp (R' := CellR w S m true) (fun c x r => ⟨r.2.one, r.1, fun _ => r.2⟩)
  refine ⟨i, zv, hi, hzz, ?_, this⟩
  have := (this w0 (fun _ => False) (fun _ => none)).len
  simpa using this
where w0 : World := default
end
end Go.Proofs.Ytcamcfplcoklkaa.Iv
