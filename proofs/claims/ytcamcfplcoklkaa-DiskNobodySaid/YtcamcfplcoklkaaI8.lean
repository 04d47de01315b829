import Derived.Test.YtcamcfplcoklkaaI7
namespace Go.Proofs.Ytcamcfplcoklkaa.Iv
open Go
section
variable {P : Program} {K B : Nat → Prop} {w : World} {S : Nat → Prop} {m : Map} {H : Heap}
set_option linter.unusedVariables false
set_option linter.unusedSimpArgs false

def OptR (R : V → Value → Prop) : Option V → Option Value → Prop
  | none, none => True
  | some v, some x => R v x
  | _, _ => False

theorem run_bound {k : IntKind} {i : Int} {y : Nat} {code : BoundsCode} (h : 0 ≤ i) (hy : i.toNat ≤ y) : (Instr.sliceBound (.int k i) y code).run P w = .ok i.toNat w := by
  have : 0 ≤ i ∧ i ≤ (y : Int) := ⟨h, by omega⟩
  simp [Instr.sliceBound, asIntOf, this]

theorem bnd_inv {o : Option V} {o' : Option Value} {d n : Nat} (hr : OptR (VR w S B m) o o') (h : bnd o d = some n) :
    (o' = none ∧ n = d ∧ o = none) ∨ ∃ k i, o' = some (.int k i) ∧ 0 ≤ i ∧ n = i.toNat ∧ o = some (.int k i) := by
  cases o with
  | none => cases o' with
    | none => simp [bnd] at h; exact .inl ⟨rfl, h.symm, rfl⟩
    | some => exact hr.elim
  | some v => cases o' with
    | none => exact hr.elim
    | some x =>
      unfold bnd at h
      split at h
      · rename_i e; cases e
      · rename_i k i e
        cases e
        have := VR.int_inv hr
        subst this
        split at h
        · rename_i h0; cases h; exact .inr ⟨_, _, rfl, h0, rfl, rfl⟩
        · cases h
      · cases h

theorem run_bounds2 {isS : Bool} {len cap l h : Nat} {lo hi : Option V} {lo' hi' : Option Value} (rl : OptR (VR w S B m) lo lo') (rh : OptR (VR w S B m) hi hi')
    (el : bnd lo 0 = some l) (eh : bnd hi len = some h) (hlh : l ≤ h) (hc : h ≤ cap) : (Instr.sliceBounds isS len cap lo' hi' none).run P w = .ok (l, h, cap) w := by
  unfold Instr.sliceBounds
  rcases bnd_inv rl el with ⟨rfl, rfl, _⟩ | ⟨k1, i1, rfl, p1, rfl, _⟩ <;> rcases bnd_inv rh eh with ⟨rfl, rfl, _⟩ | ⟨k2, i2, rfl, p2, rfl, _⟩ <;>
    simp [run_bound, *]
theorem run_bounds3 {len cap l h mm : Nat} {lo hi : Option V} {lo' hi' : Option Value} {mx : V} {mx' : Value} (rl : OptR (VR w S B m) lo lo') (rh : OptR (VR w S B m) hi hi') (rm : VR w S B m mx mx')
    (el : bnd lo 0 = some l) (eh : bnd hi 0 = some h) (em : bnd (some mx) 0 = some mm) (his : hi.isSome = true) (hlh : l ≤ h) (hc : h ≤ mm) (hmc : mm ≤ cap) :
    (Instr.sliceBounds true len cap lo' hi' (some mx')).run P w = .ok (l, h, mm) w := by
  unfold Instr.sliceBounds
  rcases bnd_inv (o := some mx) (o' := some mx') rm em with ⟨e, _⟩ | ⟨k3, i3, e, p3, rfl, _⟩
  · cases e
  · cases e
    rcases bnd_inv rh eh with ⟨_, _, e⟩ | ⟨k2, i2, rfl, p2, rfl, _⟩
    · subst e; simp at his
    · rcases bnd_inv rl el with ⟨rfl, rfl, _⟩ | ⟨k1, i1, rfl, p1, rfl, _⟩ <;> simp [run_bound, *]

theorem flatten_drop (sz : Nat) : ∀ (xs : List (List V)) (l : Nat), (∀ x ∈ xs, x.length = sz) → (xs.drop l).flatten = xs.flatten.drop (l * sz)
  | xs, 0, _ => by simp
  | [], l + 1, _ => by simp
  | y :: ys, l + 1, hz => by
    have hy : y.length = sz := hz y (by simp)
    simp only [List.drop_succ_cons, List.flatten_cons]
    have hd : y.drop ((l + 1) * sz) = [] := List.drop_eq_nil_of_le (by rw [hy, Nat.succ_mul]; omega)
    rw [flatten_drop sz ys l (fun z h => hz z (by simp [h])), List.drop_append, hy, hd, List.nil_append, show (l + 1) * sz - sz = l * sz by rw [Nat.succ_mul]; omega]
theorem flatten_take (sz : Nat) : ∀ (xs : List (List V)) (l : Nat), (∀ x ∈ xs, x.length = sz) → (xs.take l).flatten = xs.flatten.take (l * sz)
  | xs, 0, _ => by simp
  | [], l + 1, _ => by simp
  | y :: ys, l + 1, hz => by
    have hy : y.length = sz := hz y (by simp)
    simp only [List.take_succ_cons, List.flatten_cons]
    have hd : y.take ((l + 1) * sz) = y := List.take_of_length_le (by rw [hy, Nat.succ_mul]; omega)
    rw [flatten_take sz ys l (fun z h => hz z (by simp [h])), List.take_append, hy, hd, show (l + 1) * sz - sz = l * sz by rw [Nat.succ_mul]; omega]

theorem slice_slice {t e sz : Nat} (hu : P.underlying t = some (.slice e)) (hs : szOf P e = some sz) {a : Option Addr} {len cap l h mm : Nat} {lo hi mx : Option Value}
    (hb : (Instr.sliceBounds true len cap lo hi mx).run P w = .ok (l, h, mm) w) :
    (Instr.sliceAt t (.slice a len cap) lo hi mx).run P w = .ok (.slice (if mm = l then a else a.map (·.add (l * sz))) (h - l) (mm - l)) w := by
  simp [Instr.sliceAt, Instr.slice, run_underlying hu, hb, run_sizeOf' hs]

theorem slice_sound (h : SR w S K m H) {t : Nat} {a : V} {lo hi mx : Option V} {out : Out} (he : evSlice P H t a lo hi mx = some out) {x : Value} {lo' hi' mx' : Option Value}
    (hx : VR w S B m a x) (rl : OptR (VR w S B m) lo lo') (rh : OptR (VR w S B m) hi hi') (rm : OptR (VR w S B m) mx mx') :
    Sound P K B w S m H out (Instr.sliceAt t x lo' hi' mx') := by
  unfold evSlice at he
  split at he
  · rename_i hu
    split at he
    · rename_i s
      have := hx.str_inv; subst this
      cases mx' with
      | some => exact rm.elim
      | none =>
      split at he
      · rename_i l hh el eh
        split at he
        · rename_i hc
          cases he
          refine Sound.pure h (x := .string ⟨((s.take hh).drop l).toArray⟩) ?_ (.fr (.str _))
          have hb := run_bounds2 (P := P) (isS := false) (cap := s.length) rl rh el eh hc.1 hc.2
          have hsz : (⟨s.toArray⟩ : ByteArray).size = s.length := by simp [ByteArray.size]
          have hex : (⟨s.toArray⟩ : ByteArray).extract l hh = ⟨((s.take hh).drop l).toArray⟩ := by
            apply ByteArray.ext
            apply Array.ext'
            simp [ByteArray.data_extract, List.extract_eq_take_drop, List.drop_take]
          simp only [Instr.sliceAt, Instr.slice, Sem.run_bind, run_underlying hu, Result.andThen_ok, hsz, hb, Option.isSome_none, Bool.false_eq_true, if_false, hex]
          rfl
        · cases he
      · cases he
    · cases he
  · rename_i e hu
    split at he
    · rename_i sz hs
      split at he
      · cases he
      · rename_i hz
        split at he
        · -- nils
          have := hx.nils_inv; subst this
          split at he
          · rename_i e1 e2 e3
            split at he
            · cases he
            · rename_i hq
              cases he
              refine Sound.pure h (x := .slice none 0 0) ?_ (.fr .nils)
              cases mx with
              | none => cases mx' with
                | some => exact rm.elim
                | none =>
                  rw [slice_slice hu hs (run_bounds2 (P := P) (isS := true) rl rh e1 e2 (Nat.le_refl _) (Nat.le_refl _))]
                  simp
              | some mv => cases mx' with
                | none => exact rm.elim
                | some mv' =>
                  have his : hi.isSome = true := by cases hi <;> simp_all
                  rw [slice_slice hu hs (run_bounds3 (P := P) (len := 0) (cap := 0) rl rh rm e1 e2 e3 his (Nat.le_refl _) (Nat.le_refl _) (Nat.le_refl _))]
                  simp
          · cases he
        · -- emp
          obtain ⟨a0, rfl⟩ := hx.emp_inv
          split at he
          · rename_i e1 e2 e3
            split at he
            · cases he
            · rename_i hq
              cases he
              refine Sound.pure h (x := .slice a0 0 0) ?_ (.fr (.emp _))
              cases mx with
              | none => cases mx' with
                | some => exact rm.elim
                | none =>
                  rw [slice_slice hu hs (run_bounds2 (P := P) (isS := true) rl rh e1 e2 (Nat.le_refl _) (Nat.le_refl _))]
                  simp
              | some mv => cases mx' with
                | none => exact rm.elim
                | some mv' =>
                  have his : hi.isSome = true := by cases hi <;> simp_all
                  rw [slice_slice hu hs (run_bounds3 (P := P) (len := 0) (cap := 0) rl rh rm e1 e2 e3 his (Nat.le_refl _) (Nat.le_refl _) (Nat.le_refl _))]
                  simp
          · cases he
        · -- list
          rename_i xs lent
          obtain ⟨sz', cap, a, vals, rfl, h1, h2, h3, h4⟩ := hx.list_inv
          split at he
          · cases mx' with
            | some => exact rm.elim
            | none =>
            split at he
            · rename_i l hh el eh
              split at he
              · rename_i hc
                obtain ⟨hc1, hc2, hc3⟩ := hc
                cases he
                have hz' : ∀ x ∈ xs, x.length = sz := fun x hx => by simpa using List.all_eq_true.1 hc3 x hx
                have hfl : ((xs.take hh).drop l).flatten = (xs.flatten.take (hh * sz)).drop (l * sz) := by
                  rw [flatten_drop sz _ _ (fun x hx => hz' x (List.mem_of_mem_take hx)), flatten_take sz _ _ hz']
                have hlen : ((xs.take hh).drop l).length = hh - l := by simp; omega
                have hr := slice_slice (P := P) (w := w) hu hs (a := a) (run_bounds2 (P := P) (isS := true) (cap := cap) rl rh el eh hc1 (by omega))
                rw [← hlen] at hr
                refine Sound.pure h hr (VR.list_mk sz _ _ (fun j => vals (l * sz + j)) (by omega) (fun x hx => hz' x (List.mem_of_mem_take (List.mem_of_mem_drop hx))) (fun hne => ?_) (fun j c hj => ?_))
                · have hlt : l < hh := by
                    rcases Nat.lt_or_ge l hh with q | q
                    · exact q
                    · exact absurd (List.length_eq_zero_iff.1 (by omega)) hne
                  obtain ⟨rb, o, rfl, hS, hcell⟩ := h3 (fun e => by subst e; simp at hc2; omega)
                  refine ⟨rb, o + l * sz, ?_, hS, fun j hj => ?_⟩
                  · rw [if_neg (by omega)]; simp [add_eq]
                  · rw [hfl] at hj
                    rw [Nat.add_assoc]
                    exact hcell _ (by simp only [List.length_drop, List.length_take] at hj; omega)
                · rw [hfl, List.getElem?_drop] at hj
                  have hlt : l * sz + j < hh * sz := by
                    rcases Nat.lt_or_ge (l * sz + j) (hh * sz) with q | q
                    · exact q
                    · rw [List.getElem?_take, if_neg (by omega)] at hj; cases hj
                  rw [List.getElem?_take_of_lt hlt] at hj
                  exact h4 _ _ hj
              · cases he
            · cases he
          · rename_i mv
            cases mx' with
            | none => exact rm.elim
            | some mv' =>
            split at he
            · rename_i l hh mm el eh em
              split at he
              · rename_i hc
                obtain ⟨hc0, rfl, rfl, hc3⟩ := hc
                cases he
                have hr := slice_slice (P := P) (w := w) hu hs (a := a) (run_bounds3 (P := P) (len := xs.length) (cap := cap) rl rh rm el eh em hc0 (Nat.le_refl _) (Nat.le_refl _) (by omega))
                simp only [if_true, Nat.sub_self] at hr
                exact Sound.pure h hr (.fr (.emp _))
              · cases he
            · cases he
        · -- sl
          rename_i i g o n s2 lim
          split at he
          · rename_i hs2
            subst hs2
            split at he
            · cases mx' with
              | some => exact rm.elim
              | none =>
              split at he
              · rename_i l hh el eh
                split at he
                · rename_i hlh
                  split at he
                  · rename_i hhn
                    cases he
                    cases hx with
                    | fr h => cases h
                    | sl _ _ _ _ _ im a cap hm ha h1 h2 h3 h4 h5 =>
                      have hr := slice_slice (P := P) (w := w) hu hs (a := some a) (run_bounds2 (P := P) (isS := true) (cap := cap) rl rh el eh hlh (by omega))
                      rw [show (if cap = l then some a else Option.map (fun x => x.add (l * s2)) (some a)) = some (if cap = l then a else a.add (l * s2)) by split <;> rfl] at hr
                      have hls : l * s2 + (hh - l) * s2 = hh * s2 := by rw [← Nat.add_mul]; congr 1; omega
                      have hns : hh * s2 ≤ n * s2 := Nat.mul_le_mul_right _ hhn
                      have hcs : l * s2 + (cap - l) * s2 = cap * s2 := by rw [← Nat.add_mul]; congr 1; omega
                      refine Sound.pure h hr (VR.sl i _ _ _ _ im _ _ hm (fun hp => ?_) (by omega) (by omega) (by omega) (fun e => ?_) (fun c e => ?_))
                      · rw [if_neg (by omega), ha (by omega), add_eq, Nat.add_assoc]
                      · have := h4 (by cases lim <;> simp_all); omega
                      · cases lim with
                        | none => simp at e
                        | some c' => simp at e; have := h5 c' rfl; omega
                    | slD _ _ _ _ _ _ im a cap hm hg h1 h5 =>
                      have hr := slice_slice (P := P) (w := w) hu hs (a := some a) (run_bounds2 (P := P) (isS := true) (cap := cap) rl rh el eh hlh (by omega))
                      rw [show (if cap = l then some a else Option.map (fun x => x.add (l * s2)) (some a)) = some (if cap = l then a else a.add (l * s2)) by split <;> rfl] at hr
                      refine Sound.pure h hr (VR.slD i _ _ _ _ _ im _ _ hm hg (by omega) (fun c e => ?_))
                      cases lim with
                      | none => simp at e
                      | some c' => simp at e; have := h5 c' rfl; omega
                  · split at he
                    · rename_i b hb
                      split at he
                      · rename_i hc
                        obtain ⟨hc1, hc2⟩ := hc
                        cases he
                        obtain ⟨im, a, cap, hm, ok, rfl, hi, rfl, ha, h1, h2, h3, h4, h5⟩ := VR.sl_live h hx hb
                        have hn := ok.n
                        have hhc : hh ≤ cap := by
                          cases lim with
                          | none =>
                            have := h4 rfl
                            have : hh * s2 ≤ cap * s2 := by omega
                            exact Nat.le_of_mul_le_mul_right this (by omega)
                          | some c => have := h5 c rfl; have := hc2 c rfl; omega
                        have hr := slice_slice (P := P) (w := w) hu hs (a := some a) (run_bounds2 (P := P) (isS := true) (cap := cap) rl rh el eh hlh hhc)
                        rw [show (if cap = l then some a else Option.map (fun x => x.add (l * s2)) (some a)) = some (if cap = l then a else a.add (l * s2)) by split <;> rfl] at hr
                        have hls : l * s2 + (hh - l) * s2 = hh * s2 := by rw [← Nat.add_mul]; congr 1; omega
                        have hcs : l * s2 + (cap - l) * s2 = cap * s2 := by rw [← Nat.add_mul]; congr 1; omega
                        refine Sound.pure h hr (VR.sl i _ _ _ _ im _ _ hm (fun hp => ?_) (by omega) (by omega) (by omega) (fun e => ?_) (fun c e => ?_))
                        · rw [if_neg (by omega), ha (by omega), add_eq, Nat.add_assoc]
                        · have := h4 (by cases lim <;> simp_all); omega
                        · cases lim with
                          | none => simp at e
                          | some c' => simp at e; have := h5 c' rfl; omega
                      · cases he
                    · cases he
                · cases he
              · cases he
            · rename_i mv
              cases mx' with
              | none => exact rm.elim
              | some mv' =>
              split at he
              · rename_i l hh mm el eh em
                split at he
                · rename_i hc
                  obtain ⟨hc0, hc1, hc2, hc3⟩ := hc
                  cases he
                  cases hx with
                  | fr h => cases h
                  | sl _ _ _ _ _ im a cap hm ha h1 h2 h3 h4 h5 =>
                    have hr := slice_slice (P := P) (w := w) hu hs (a := some a) (run_bounds3 (P := P) (len := n) (cap := cap) rl rh rm el eh em hc0 hc1 hc2 (by omega))
                    rw [show (if mm = l then some a else Option.map (fun x => x.add (l * s2)) (some a)) = some (if mm = l then a else a.add (l * s2)) by split <;> rfl] at hr
                    have hls : l * s2 + (hh - l) * s2 = hh * s2 := by rw [← Nat.add_mul]; congr 1; omega
                    have hns : hh * s2 ≤ n * s2 := Nat.mul_le_mul_right _ (by omega)
                    have hms : l * s2 + (mm - l) * s2 = mm * s2 := by rw [← Nat.add_mul]; congr 1; omega
                    have hmc : mm * s2 ≤ cap * s2 := Nat.mul_le_mul_right _ (by omega)
                    refine Sound.pure h hr (VR.sl i _ _ _ _ im _ _ hm (fun hp => ?_) (by omega) (by omega) (by omega) (fun e => by cases e) (fun c e => by cases e; rfl))
                    rw [if_neg (by omega), ha (by omega), add_eq, Nat.add_assoc]
                  | slD _ _ _ _ _ _ im a cap hm hg h1 h5 =>
                    have hr := slice_slice (P := P) (w := w) hu hs (a := some a) (run_bounds3 (P := P) (len := n) (cap := cap) rl rh rm el eh em hc0 hc1 hc2 (by omega))
                    rw [show (if mm = l then some a else Option.map (fun x => x.add (l * s2)) (some a)) = some (if mm = l then a else a.add (l * s2)) by split <;> rfl] at hr
                    exact Sound.pure h hr (VR.slD i _ _ _ _ _ im _ _ hm hg (by omega) (fun c e => by cases e; rfl))
                · cases he
              · cases he
          · cases he
        · cases he
    · cases he
  · rename_i n e hu
    split at he
    · rename_i sz hs
      split at he
      · cases he
      · rename_i hz
        split at he
        · rename_i l hh el eh
          cases mx' with
          | some => exact rm.elim
          | none =>
          split at he
          · rename_i hc
            split at he
            · rename_i i g o
              split at he
              · rename_i b hb
                split at he
                · rename_i hle
                  cases he
                  obtain ⟨im, hm, ok, rfl, hi, rfl⟩ := VR.ptr_live h hx hb
                  have hn := ok.n
                  have hf := ok.fit
                  have hr : (Instr.sliceAt t (.pointer (some ⟨im.rb, im.dl + o, none⟩)) lo' hi' none).run P w = .ok (.slice (some (if n = l then ⟨im.rb, im.dl + o, none⟩ else ⟨im.rb, im.dl + o + l * sz, none⟩)) (hh - l) (n - l)) w := by
                    simp [Instr.sliceAt, Instr.sureAddr, run_underlying hu, run_bounds2 (P := P) (isS := false) rl rh el eh hc.1 hc.2, run_sizeOf' hs, add_eq]
                  have hls : l * sz + (hh - l) * sz = hh * sz := by rw [← Nat.add_mul]; congr 1; omega
                  have hns : hh * sz ≤ n * sz := Nat.mul_le_mul_right _ hc.2
                  have hcs : l * sz + (n - l) * sz = n * sz := by rw [← Nat.add_mul]; congr 1; omega
                  refine Sound.pure h hr (VR.sl i _ _ _ _ im _ _ hm (fun hp => ?_) (by omega) (by omega) (by omega) (fun e => by cases e) (fun c e => by cases e; rfl))
                  rw [if_neg (by omega), Nat.add_assoc]
                · cases he
              · cases he
            · cases he
          · cases he
        · cases he
    · cases he
  · cases he
end
end Go.Proofs.Ytcamcfplcoklkaa.Iv
