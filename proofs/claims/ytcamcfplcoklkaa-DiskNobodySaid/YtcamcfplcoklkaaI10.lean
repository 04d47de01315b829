import Derived.Test.YtcamcfplcoklkaaI9b
import Derived.Great.FillDense
namespace Go.Proofs.Ytcamcfplcoklkaa.Iv
open Go
section
variable {P : Program} {K B : Nat → Prop} {w : World} {S : Nat → Prop} {m : Map} {H : Heap}
set_option linter.unusedVariables false
set_option linter.unusedSimpArgs false

/-! ### freezing -/
def FrzOf (H H1 : Heap) : Prop := ∀ i, H1 i = H i ∨ ∃ b, H i = some b ∧ H1 i = some { b with frz := true }
theorem FrzOf.refl (H : Heap) : FrzOf H H := fun _ => .inl rfl
theorem FrzOf.get {H H1 : Heap} (h : FrzOf H H1) {i : Id} {b : Blk} (hb : H i = some b) : ∃ f, H1 i = some { b with frz := f } := by
  rcases h i with e | ⟨b', e1, e2⟩
  · exact ⟨b.frz, by rw [e, hb]⟩
  · rw [hb] at e1; cases e1; exact ⟨true, e2⟩
theorem FrzOf.set {H H1 : Heap} (h : FrzOf H H1) {i : Id} {b : Blk} (hb : H i = some b) : FrzOf H (H1.set i { b with frz := true }) := by
  intro j
  by_cases e : j = i
  · subst e; exact .inr ⟨b, hb, Heap.set_same ..⟩
  · rw [Heap.set_ne _ _ e]; exact h j
theorem FrzOf.live {H H1 : Heap} (h : FrzOf H H1) {i : Id} {g : Nat} {b : Blk} (hb : live H i g = some b) : ∃ f, Iv.live H1 i g = some { b with frz := f } := by
  obtain ⟨h1, h2⟩ := live_some hb
  obtain ⟨f, hf⟩ := h.get h1
  exact ⟨f, by simp [Iv.live, hf, h2]⟩

theorem chunk_len (sz : Nat) : ∀ (n : Nat) (cs : List V), (chunk sz n cs).length = n
  | 0, _ => rfl
  | n + 1, cs => by simp [chunk, chunk_len sz n]
theorem chunk_flatten (sz : Nat) : ∀ (n : Nat) (cs : List V), cs.length = n * sz → (chunk sz n cs).flatten = cs
  | 0, cs, h => by simp at h; simp [chunk, h]
  | n + 1, cs, h => by
    simp only [chunk, List.flatten_cons]
    rw [chunk_flatten sz n (cs.drop sz) (by simp [h, Nat.succ_mul]), List.take_append_drop]
theorem chunk_each (sz : Nat) : ∀ (n : Nat) (cs : List V), cs.length = n * sz → ∀ x ∈ chunk sz n cs, x.length = sz
  | 0, _, _, x, hx => by simp [chunk] at hx
  | n + 1, cs, h, x, hx => by
    simp only [chunk, List.mem_cons] at hx
    rcases hx with e | hx
    · subst e; simp [h, Nat.succ_mul]
    · exact chunk_each sz n (cs.drop sz) (by simp [h, Nat.succ_mul]) x hx

/-- a slice of the heap's, read as a list -/
theorem sl_list (h : SR w S K m H) {i : Id} {g o n sz : Nat} {lim : Option Nat} {x : Value} {b : Blk} (hx : VR w S B m (.sl i g o n sz lim) x) (hl : live H i g = some b)
    {cs : List V} (hc : cut b.cells o (n * sz) = some cs) (hfl : b.flat = true) (hsz : 0 < sz) {S' B' : Nat → Prop} {m' : Map} {l : Bool} (hS : ∀ rb, S rb → S' rb)
    (him : ∀ im, m i = some im → S' im.rb ∨ (l = true ∧ B' im.rb)) : VR w S' B' m' (.list (chunk sz n cs) l) x := by
  obtain ⟨im, a, cap, hm, ok, rfl, hi, rfl, ha, h1, h2, h3, h4, h5⟩ := VR.sl_live h hx hl
  obtain ⟨xs, r2, hxl, hq⟩ := ok.read hc
  have hcl := (cut_some hc).2
  have key := VR.list_mk (w := w) (S := S') (B := B') (m := m') (xs := chunk sz n cs) (l := l) sz cap (some a) (fun j => xs.getD j undef) (by rw [chunk_len]; exact h1) (chunk_each sz n cs hcl)
    (fun hne => ?_) (fun j c hj => ?_)
  · rw [chunk_len] at key; exact key
  · have hn : 0 < n := by
      rcases Nat.eq_zero_or_pos n with e | e
      · subst e; exact absurd rfl hne
      · exact e
    refine ⟨im.rb, im.dl + o, by rw [ha (by omega)], him im hm, fun j hj => ?_⟩
    rw [chunk_flatten sz n cs hcl, hcl] at hj
    have : xs[j]? = some (xs.getD j undef) := by simp [List.getD, hxl, hj]
    exact hq j _ this
  · rw [chunk_flatten sz n cs hcl] at hj
    obtain ⟨x, hx, r⟩ := r2.get hj
    have : xs.getD j undef = x := by simp [List.getD, hx]
    simp only [this]
    exact (r.2.2 hfl).mono (fun _ _ => rfl) hS

theorem keep1_sound {H1 : Heap} (hF : FrzOf H H1) (h : SR w S K m H1) {v : V} {o : Out} (he : keep1 H v = some o) {x : Value} (hx : VR w S B m v x) :
    ∃ S', Step K w S m w S' m ∧ SR w S' K m (H1.sets o.ups) ∧ FrzOf H (H1.sets o.ups) ∧ VR w S' no m o.v x := by
  have same : ∀ {v' : V}, o = ⟨v', [], []⟩ → VR w S no m v' x → ∃ S', Step K w S m w S' m ∧ SR w S' K m (H1.sets o.ups) ∧ FrzOf H (H1.sets o.ups) ∧ VR w S' no m o.v x :=
    fun e hv => by subst e; exact ⟨S, Step.refl .., h, hF, hv⟩
  unfold keep1 at he
  split at he
  · rename_i i g o n sz lim
    split at he
    · rename_i b hb
      split at he
      · rename_i cs hc
        split at he
        · rename_i hq
          cases he
          obtain ⟨hb1, hg⟩ := live_some hb
          obtain ⟨f, hf⟩ := hF.live hb
          obtain ⟨f1, f2⟩ := live_some hf
          obtain ⟨im, hm, ok⟩ := h.blk i _ f1
          obtain ⟨S', hS, st, sr⟩ := SR.freeze h f1 hm
          refine ⟨S', st, sr, hF.set hb1, ?_⟩
          exact sl_list h hx hf (by exact hc) hq.1 hq.2 st.sub (fun im' hm' => by rw [hm] at hm'; cases hm'; exact .inl hS)
        · cases he
      · cases he
    · cases he
  · rename_i xs l
    split at he
    · cases he
    · rename_i hl
      cases he
      obtain ⟨sz, cap, a, vals, rfl, h1, h2, h3, h4⟩ := hx.list_inv
      exact same rfl (VR.list_mk sz cap a vals h1 h2 (fun hne => let ⟨rb, o, e, hs, hc⟩ := h3 hne; ⟨rb, o, e, hs.elim .inl (fun q => absurd q.1 (by simpa using hl)), hc⟩) h4)
  · cases he
    have := hx.nils_inv; subst this
    exact same rfl (VR.list_mk (xs := []) 0 0 none (fun _ => undef) (Nat.le_refl _) (fun x hx => by cases hx) (fun hne => absurd rfl hne) (fun j c hj => by simp at hj))
  · cases he
    obtain ⟨a, rfl⟩ := hx.emp_inv
    exact same rfl (VR.list_mk (xs := []) 0 0 a (fun _ => undef) (Nat.le_refl _) (fun x hx => by cases hx) (fun hne => absurd rfl hne) (fun j c hj => by simp at hj))
  · rename_i cs l
    split at he
    · cases he
    · rename_i hl
      cases he
      obtain rfl : l = false := by simpa using hl
      obtain ⟨rb, o, vals, rfl, h1, h2, h3⟩ := hx.fptr_inv
      exact same rfl (VR.fptr_mk rb o vals (h1.elim .inl (fun q => by cases q.1)) h2 h3)
  · cases he
  · cases he
  · cases he
  · rename_i f cs
    split at he
    · rename_i hk
      cases he
      obtain ⟨xs, rfl, h2⟩ := hx.fn_inv
      exact same rfl (VR.fn_mk (h2.imp' (fun c x hc r => r.kept (List.all_eq_true.1 hk c hc))))
    · cases he
  · rename_i n1 n2 n3 n4 n5 n6 n7 n8 n9
    cases he
    cases v with
    | fn f cs => exact absurd rfl (n9 _ _)
    | sl => exact absurd rfl (n1 _ _ _ _ _ _)
    | list => exact absurd rfl (n2 _ _)
    | nils => exact absurd rfl n3
    | emp => exact absurd rfl n4
    | fptr => exact absurd rfl (n5 _ _)
    | und => exact absurd rfl n6
    | tup => exact absurd rfl (n7 _)
    | agg => exact absurd rfl (n8 _)
    | _ => exact same rfl (hx.kept rfl)

theorem sets_app (H : Heap) : ∀ (a b : List (Id × Blk)), H.sets (a ++ b) = (H.sets a).sets b
  | [], _ => rfl
  | (i, x) :: r, b => by simp only [List.cons_append, Heap.sets]; exact sets_app _ r b

theorem keepL_sound : ∀ {cs : List V} {S : Nat → Prop} {H1 : Heap} (hF : FrzOf H H1) (h : SR w S K m H1) {o : List V × List (Id × Blk) × List Id} (he : keepL H cs = some o) {xs : List Value}
    (hx : All2 (VR w S B m) cs xs), ∃ S', Step K w S m w S' m ∧ SR w S' K m (H1.sets o.2.1) ∧ FrzOf H (H1.sets o.2.1) ∧ All2 (VR w S' no m) o.1 xs
  | [], S, H1, hF, h, o, he, [], _ => by simp [keepL] at he; subst he; exact ⟨S, Step.refl .., h, hF, trivial⟩
  | [], _, _, _, _, _, _, _ :: _, hx => hx.elim
  | _ :: _, _, _, _, _, _, _, [], hx => hx.elim
  | v :: r, S, H1, hF, h, o, he, x :: xs, hx => by
    simp only [keepL] at he
    split at he
    · rename_i v' u d hv
      split at he
      · rename_i vs us ds hr
        cases he
        obtain ⟨S1, st1, sr1, hF1, hv1⟩ := keep1_sound hF h hv hx.1
        obtain ⟨S2, st2, sr2, hF2, hv2⟩ := keepL_sound hF1 sr1 hr (hx.2.imp (fun c x r => by
          -- a step in which the world stays: whatever is lent reads as it did
          exact r.monoS st1))
        refine ⟨S2, st1.trans st2, ?_, ?_, ⟨hv1.mono st2 (fun _ f => f.elim), hv2⟩⟩
        · rw [sets_app]; exact sr2
        · rw [sets_app]; exact hF2
      · cases he
    · cases he

theorem keepV_sound {H1 : Heap} (hF : FrzOf H H1) (h : SR w S K m H1) {v : V} {o : Out} (he : keepV H v = some o) {x : Value} (hx : VR w S B m v x) :
    ∃ S', Step K w S m w S' m ∧ SR w S' K m (H1.sets o.ups) ∧ FrzOf H (H1.sets o.ups) ∧ VR w S' no m o.v x := by
  unfold keepV at he
  split at he
  · rename_i cs
    split at he
    · rename_i cs' u d hl
      cases he
      obtain ⟨xs, rfl, h2⟩ := hx.agg_inv
      obtain ⟨S', st, sr, hF', h3⟩ := keepL_sound hF h hl h2
      exact ⟨S', st, sr, hF', VR.agg_mk h3⟩
    · cases he
  · exact keep1_sound hF h he hx
end
end Go.Proofs.Ytcamcfplcoklkaa.Iv
