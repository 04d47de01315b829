import Derived.Test.YtcamcfplcoklkaaM4
namespace Go.Proofs.Ytcamcfplcoklkaa.Iv
open Go
set_option linter.unusedVariables false
set_option linter.unusedSimpArgs false

/-! ### other names for blocks -/
def ImLike (a b : Im) : Prop := a.rb = b.rb ∧ a.dl = b.dl ∧ a.n = b.n ∧ a.tot = b.tot
def RenOK (f : Id → Nat → Option (Id × Nat)) (m m' : Map) : Prop :=
  ∀ i g i' g', f i g = some (i', g') → ∀ im, m i = some im → ∃ im', m' i' = some im' ∧ (im.gen = g → im'.gen = g' ∧ ImLike im im') ∧ (g < im.gen → g' < im'.gen)

theorem renL_map (f : Id → Nat → Option (Id × Nat)) : ∀ cs : List V, renL f cs = cs.map (ren f)
  | [] => rfl
  | c :: cs => by simp [renL, renL_map f cs]

theorem VR.ren {w : World} {S B : Nat → Prop} {m m' : Map} {f : Id → Nat → Option (Id × Nat)} (hf : RenOK f m m') {v : V} {x : Value} (h : VR w S B m v x) : VR w S B m' (Iv.ren f v) x := by
  induction h with
  | fr h => cases h with
    | fptr cs rb o vals a b c => exact .fr (.fptr cs rb o vals a b c)
    | list xs sz cap a vals h1 h2 h3 h4 => exact .fr (.list xs sz cap a vals h1 h2 h3 h4)
    | int k n => exact .fr (.int k n)
    | bool b => exact .fr (.bool b)
    | str s => exact .fr (.str s)
    | nilp => exact .fr .nilp
    | nils => exact .fr .nils
    | emp a => exact .fr (.emp a)
    | nilf => exact .fr .nilf
  | lfptr cs rb o vals h hc hv => exact .lfptr cs rb o vals h hc hv
  | llist xs sz cap a vals hcap hz ha hv => exact .llist xs sz cap a vals hcap hz ha hv
  | ptr i o im hm =>
    simp only [Iv.ren]
    cases e : f i im.gen with
    | none => exact .und _
    | some p =>
      obtain ⟨i', g'⟩ := p
      obtain ⟨im', hm', h1, _⟩ := hf i im.gen i' g' e im hm
      obtain ⟨rfl, q1, q2, q3, q4⟩ := h1 rfl
      rw [q1, q2]
      exact .ptr i' o im' hm'
  | ptrD i g o im a hm hg =>
    simp only [Iv.ren]
    cases e : f i g with
    | none => exact .und _
    | some p =>
      obtain ⟨i', g'⟩ := p
      obtain ⟨im', hm', _, h2⟩ := hf i g i' g' e im hm
      exact .ptrD i' g' o im' a hm' (h2 hg)
  | sl i o n sz lim im a cap hm ha h1 h2 h3 h4 h5 =>
    simp only [Iv.ren]
    cases e : f i im.gen with
    | none => exact .und _
    | some p =>
      obtain ⟨i', g'⟩ := p
      obtain ⟨im', hm', k1, _⟩ := hf i im.gen i' g' e im hm
      obtain ⟨rfl, q1, q2, q3, q4⟩ := k1 rfl
      exact .sl i' o n sz lim im' a cap hm' (fun hp => by rw [← q1, ← q2]; exact ha hp) h1 (by rw [← q3]; exact h2) (by rw [← q2, ← q4]; exact h3) (fun e => by rw [← q3]; exact h4 e) h5
  | slD i g o n sz lim im a cap hm hg h1 h5 =>
    simp only [Iv.ren]
    cases e : f i g with
    | none => exact .und _
    | some p =>
      obtain ⟨i', g'⟩ := p
      obtain ⟨im', hm', _, h2⟩ := hf i g i' g' e im hm
      exact .slD i' g' o n sz lim im' a cap hm' (h2 hg) h1 h5
  | agg cs vs hl h ih =>
    simp only [Iv.ren, renL_map]
    refine .agg _ _ (by simpa using hl) (fun j c x h1 h2 => ?_)
    rw [List.getElem?_map] at h1
    cases e : cs[j]? with
    | none => rw [e] at h1; cases h1
    | some c' => rw [e] at h1; cases h1; exact ih j c' x e h2
  | tup cs vs hl h ih =>
    simp only [Iv.ren, renL_map]
    refine .tup _ _ (by simpa using hl) (fun j c x h1 h2 => ?_)
    rw [List.getElem?_map] at h1
    cases e : cs[j]? with
    | none => rw [e] at h1; cases h1
    | some c' => rw [e] at h1; cases h1; exact ih j c' x e h2
  | fn k cs vs hl h ih =>
    simp only [Iv.ren, renL_map]
    refine .fn _ _ _ (by simpa using hl) (fun j c x h1 h2 => ?_)
    rw [List.getElem?_map] at h1
    cases e : cs[j]? with
    | none => rw [e] at h1; cases h1
    | some c' => rw [e] at h1; cases h1; exact ih j c' x e h2
  | und x => exact .und x

mutual
theorem ren_norefs (f : Id → Nat → Option (Id × Nat)) : ∀ v : V, refs v = [] → ren f v = v
  | .ptr i g o, h => by simp [refs] at h
  | .sl i g o n sz lim, h => by simp [refs] at h
  | .agg cs, h => by simp only [ren]; rw [renL_norefs f cs (by simpa [refs] using h)]
  | .tup cs, h => by simp only [ren]; rw [renL_norefs f cs (by simpa [refs] using h)]
  | .fn k cs, h => by simp only [ren]; rw [renL_norefs f cs (by simpa [refs] using h)]
  | .int .., _ => rfl
  | .bool _, _ => rfl
  | .str _, _ => rfl
  | .nilp, _ => rfl
  | .nils, _ => rfl
  | .emp, _ => rfl
  | .nilf, _ => rfl
  | .fptr .., _ => rfl
  | .list .., _ => rfl
  | .und, _ => rfl
theorem renL_norefs (f : Id → Nat → Option (Id × Nat)) : ∀ cs : List V, refsL cs = [] → renL f cs = cs
  | [], _ => rfl
  | c :: cs, h => by
    simp only [refsL, List.append_eq_nil_iff] at h
    simp only [renL]
    rw [ren_norefs f c h.1, renL_norefs f cs h.2]
end

theorem VR.monoB {w : World} {S B B' : Nat → Prop} {m : Map} (hB : ∀ rb, B rb → B' rb) {v : V} {x : Value} (h : VR w S B m v x) : VR w S B' m v x := by
  induction h with
  | fr h => exact .fr h
  | lfptr cs rb o vals h hc hv => exact .lfptr cs rb o vals (h.imp id (hB _)) hc (fun j c e => (hv j c e).map id (fun rb q => ⟨q.imp id (hB _), rfl⟩))
  | llist xs sz cap a vals hcap hz ha hv => exact .llist xs sz cap a vals hcap hz (fun hne => let ⟨rb, o, e, h, hc⟩ := ha hne; ⟨rb, o, e, h.imp id (hB _), hc⟩) hv
  | ptr i o im hm => exact .ptr i o im hm
  | ptrD i g o im x hm hg => exact .ptrD i g o im x hm hg
  | sl i o n sz lim im a cap hm ha h1 h2 h3 h4 h5 => exact .sl i o n sz lim im a cap hm ha h1 h2 h3 h4 h5
  | slD i g o n sz lim im a cap hm hg h1 h5 => exact .slD i g o n sz lim im a cap hm hg h1 h5
  | agg cs vs hl h ih => exact .agg cs vs hl ih
  | tup cs vs hl h ih => exact .tup cs vs hl ih
  | fn f cs vs hl h ih => exact .fn f cs vs hl ih
  | und x => exact .und x

/-! ### which blocks go over -/
theorem collect_spec {H : Heap} : ∀ (n : Nat) (todo : List (Id × Nat)) (acc acc' : List Id), collect H n todo acc = some acc' →
    (∀ i ∈ acc, i ∈ acc') ∧ (acc.Nodup → acc'.Nodup) ∧ ((∀ i ∈ acc, ∃ b, H i = some b) → ∀ i ∈ acc', ∃ b, H i = some b) ∧ (∀ p ∈ todo, p.1 ∈ acc')
  | _, [], acc, acc', h => by
    have : acc' = acc := by cases ‹Nat› <;> (simp [collect] at h; exact h.symm)
    subst this
    exact ⟨fun _ h => h, id, fun h => h, fun p hp => by cases hp⟩
  | 0, _ :: _, acc, acc', h => by simp [collect] at h
  | n + 1, (i, g) :: todo, acc, acc', h => by
    simp only [collect] at h
    split at h
    · rename_i hi
      obtain ⟨h1, h2, h3, h4⟩ := collect_spec n todo acc acc' h
      refine ⟨h1, h2, h3, fun p hp => ?_⟩
      rcases List.mem_cons.1 hp with rfl | hp
      · exact h1 _ hi
      · exact h4 p hp
    · rename_i hi
      split at h
      · rename_i b hb
        obtain ⟨h1, h2, h3, h4⟩ := collect_spec n _ (acc ++ [i]) acc' h
        obtain ⟨hb1, _⟩ := live_some hb
        refine ⟨fun j hj => h1 j (by simp [hj]), fun hnd => h2 ?_, fun hs => h3 (fun j hj => ?_), fun p hp => ?_⟩
        · rw [List.nodup_append]
          exact ⟨hnd, by simp, fun a ha b hb => by simp at hb; subst hb; intro e; subst e; exact hi ha⟩
        · rcases List.mem_append.1 hj with hj | hj
          · exact hs j hj
          · simp at hj; subst hj; exact ⟨b, hb1⟩
        · rcases List.mem_cons.1 hp with rfl | hp
          · exact h1 _ (by simp)
          · exact h4 p (by simp [hp])
      · cases h

theorem pos_spec {i : Id} : ∀ {l : List Id} {n j : Nat}, pos i l n = some j → n ≤ j ∧ l[j - n]? = some i
  | [], n, j, h => by simp [pos] at h
  | x :: r, n, j, h => by
    simp only [pos] at h
    split at h
    · rename_i e; cases h; exact ⟨Nat.le_refl _, by simp [e]⟩
    · obtain ⟨h1, h2⟩ := pos_spec h
      refine ⟨by omega, ?_⟩
      rw [show j - n = (j - (n + 1)) + 1 by omega, List.getElem?_cons_succ]
      exact h2

theorem sets_get (H : Heap) : ∀ (ups : List (Id × Blk)), (ups.map (·.1)).Nodup → (∀ p ∈ ups, (H.sets ups) p.1 = some p.2) ∧ (∀ i, i ∉ ups.map (·.1) → (H.sets ups) i = H i)
  | [], _ => ⟨(fun p hp => by cases hp), fun _ _ => rfl⟩
  | (i, b) :: r, hnd => by
    simp only [List.map_cons, List.nodup_cons] at hnd
    obtain ⟨h1, h2⟩ := sets_get (H.set i b) r hnd.2
    refine ⟨fun p hp => ?_, fun j hj => ?_⟩
    · rcases List.mem_cons.1 hp with rfl | hp
      · simp only [Heap.sets]; rw [h2 i hnd.1]; exact Heap.set_same ..
      · exact h1 p hp
    · simp only [List.map_cons, List.mem_cons, not_or] at hj
      simp only [Heap.sets]; rw [h2 j hj.2]; exact Heap.set_ne _ _ hj.1

theorem backUps_spec {H H' : Heap} {d : Nat} {acc acc' : List Id} : ∀ {l : List Id} {ups : List (Id × Blk)}, backUps H H' d acc acc' l = some ups →
    (∀ p ∈ ups, ∃ i ∈ l, ∃ b g, H' i = some b ∧ backName H d acc i = some (p.1, g) ∧ (b.flat || b.cells.all V.kept) = true ∧
      p.2 = { gen := g + b.gen, cells := if b.flat then b.cells else renL (backRen H d acc acc') b.cells, frz := b.frz, flat := b.flat }) ∧
    (∀ i ∈ l, ∃ i' g b, backName H d acc i = some (i', g) ∧ H' i = some b ∧ i' ∈ ups.map (·.1)) ∧
    ups.map (fun p => some p.1) = l.map (fun i => (backName H d acc i).map (·.1))
  | [], ups, h => by simp [backUps] at h; subst h; exact ⟨(fun p hp => by cases hp), (fun i hi => by cases hi), rfl⟩
  | i :: r, ups, h => by
    simp only [backUps] at h
    split at h
    · rename_i b i' g us hb hn hr
      split at h
      · rename_i hk
        cases h
        obtain ⟨h1, h2, h3⟩ := backUps_spec hr
        refine ⟨fun p hp => ?_, fun j hj => ?_, ?_⟩
        · rcases List.mem_cons.1 hp with rfl | hp
          · exact ⟨i, by simp, b, g, hb, hn, hk, rfl⟩
          · obtain ⟨j, hj, q⟩ := h1 p hp; exact ⟨j, by simp [hj], q⟩
        · rcases List.mem_cons.1 hj with rfl | hj
          · exact ⟨i', g, b, hn, hb, by simp⟩
          · obtain ⟨a, c, e, q1, q2, q3⟩ := h2 j hj; exact ⟨a, c, e, q1, q2, by simp [q3]⟩
        · simp [hn, h3]
      · cases h
    · cases h
end Go.Proofs.Ytcamcfplcoklkaa.Iv

namespace Go.Proofs.Ytcamcfplcoklkaa.Iv
open Go
set_option linter.unusedVariables false
set_option linter.unusedSimpArgs false
section
variable {P : Program} {K B : Nat → Prop} {w : World} {S : Nat → Prop} {m : Map} {H : Heap}

/-- what is lent besides: the blocks of these names -/
def Lend (B : Nat → Prop) (m : Map) (d : List Id) : Nat → Prop := fun rb => B rb ∨ ∃ i ∈ d, ∃ im, m i = some im ∧ im.rb = rb

theorem viewC_sound {H1 : Heap} (hF : FrzOf H H1) (h : SR w S K m H1) {c : V} {o : V × List Id} (he : viewC H c = some o) {x : Value} (hx : VR w S B m c x) : CR w S (Lend B m o.2) o.1 x := by
  unfold viewC at he
  split at he
  · rename_i i g o' n sz lim
    split at he
    · rename_i b hb
      split at he
      · rename_i cs hc
        split at he
        · rename_i hq
          cases he
          obtain ⟨f, hf⟩ := hF.live hb
          exact (sl_list (B' := Lend B m [i]) (m' := m) (b := { b with frz := f }) h hx hf hc hq.1 hq.2 (fun _ s => s) (fun im hm => .inr ⟨rfl, .inr ⟨i, by simp, im, hm, rfl⟩⟩)).cr
        · cases he
      · cases he
    · cases he
  · split at he
    · rename_i hp
      cases he
      exact .inl (hx.plain hp)
    · cases he
theorem CR.lend {d d' : List Id} (hd : ∀ i ∈ d, i ∈ d') {c : V} {x : Value} (h : CR w S (Lend B m d) c x) : CR w S (Lend B m d') c x :=
  h.map id (fun rb q => ⟨q.imp id (fun q => q.imp id (fun ⟨i, hi, z⟩ => ⟨i, hd i hi, z⟩)), rfl⟩)
theorem viewL_sound {H1 : Heap} (hF : FrzOf H H1) (h : SR w S K m H1) : ∀ {cs : List V} {o : List V × List Id} (he : viewL H cs = some o) {xs : List Value} (hx : All2 (VR w S B m) cs xs),
    All2 (CR w S (Lend B m o.2)) o.1 xs
  | [], o, he, [], _ => by simp [viewL] at he; subst he; trivial
  | [], _, _, _ :: _, hx => hx.elim
  | _ :: _, _, _, [], hx => hx.elim
  | c :: r, o, he, x :: xs, hx => by
    simp only [viewL] at he
    split at he
    · rename_i c' d hc
      split at he
      · rename_i cs ds hr
        cases he
        exact ⟨(viewC_sound hF h hc hx.1).lend (fun i hi => by simp [hi]), (viewL_sound hF h hr hx.2).imp (fun c x q => q.lend (fun i hi => by simp [hi]))⟩
      · cases he
    · cases he
theorem view1_sound {H1 : Heap} (hF : FrzOf H H1) (h : SR w S K m H1) {v : V} {o : Out} (he : view1 H v = some o) {x : Value} (hx : VR w S B m v x) :
    o.ups = [] ∧ VR w S (Lend B m o.rd) m o.v x := by
  unfold view1 at he
  split at he
  · rename_i i g o'
    split at he
    · rename_i b hb
      split at he
      · rename_i cs d hv
        cases he
        refine ⟨rfl, ?_⟩
        obtain ⟨f, hf⟩ := hF.live hb
        obtain ⟨im, hm, ok, rfl, hi, _⟩ := VR.ptr_live h hx hf
        obtain ⟨xs, r2, hq⟩ := All2.choose (R := fun c x => VR w S B m c x) (cs := b.cells.drop o') (Q := fun j x => w.cell? ⟨im.rb, im.dl + o' + j, none⟩ = some x) (fun j c hj => by
          rw [List.getElem?_drop] at hj
          obtain ⟨x, e1, _, e2, _⟩ := ok.cel (o' + j) c hj
          exact ⟨x, by rw [Nat.add_assoc]; exact e1, e2.lend⟩)
        have R := viewL_sound hF h hv r2
        refine .lfptr cs im.rb (im.dl + o') (fun j => xs.getD j undef) (.inr (.inr ⟨i, by simp, im, hm, rfl⟩)) (fun j hj => ?_) (fun j c hj => ?_)
        · have hjx : j < xs.length := by rw [R.len]; exact hj
          rw [hq j _ (List.getElem?_eq_getElem hjx)]
          simp [List.getD, List.getElem?_eq_getElem hjx]
        · obtain ⟨x, e1, e2⟩ := R.get hj
          have : xs.getD j undef = x := by simp [List.getD, e1]
          rw [this]
          exact e2.lend (fun i hi => by simp [hi])
      · cases he
    · cases he
  · cases he
    obtain ⟨rb, o', vals, rfl, h1, h2, h3⟩ := hx.fptr_inv
    refine ⟨rfl, .lfptr _ rb o' vals (h1.imp id (fun q => .inl q.2)) h2 (fun j c hj => ?_)⟩
    rename_i l
    cases l with
    | false => exact .inl (h3 j c hj)
    | true => exact (show CR w S B c (vals j) from h3 j c hj).map id (fun rb q => ⟨q.imp id .inl, rfl⟩)
  · cases he
    exact ⟨rfl, hx.monoB (fun _ b => .inl b)⟩
  · cases he

theorem argIn_sound0 {H1 : Heap} (hF : FrzOf H H1) (h : SR w S K m H1) {md : Mode} (hn : md ≠ .lentN) {v : V} {o : Out} (he : argIn H md v = some o) {x : Value} (hx : VR w S B m v x) :
    ∃ S', Step K w S m w S' m ∧ SR w S' K m (H1.sets o.ups) ∧ FrzOf H (H1.sets o.ups) ∧ VR w S' (Lend B m o.rd) m o.v x := by
  have keepCase : keepV H v = some o → ∃ S', Step K w S m w S' m ∧ SR w S' K m (H1.sets o.ups) ∧ FrzOf H (H1.sets o.ups) ∧ VR w S' (Lend B m o.rd) m o.v x := fun he => by
    obtain ⟨S', st, sr, hF', hv⟩ := keepV_sound hF h he hx
    exact ⟨S', st, sr, hF', hv.lend⟩
  cases md with
  | keep => exact keepCase he
  | lentN => exact absurd rfl hn
  | byref => simp only [argIn, pureO, Option.some.injEq] at he; subst he; exact ⟨S, Step.refl .., h, hF, hx.monoB (fun _ b => .inl b)⟩
  | view =>
    simp only [argIn] at he
    obtain ⟨e, hv⟩ := view1_sound hF h he hx
    rw [e]
    exact ⟨S, Step.refl .., h, hF, hv⟩
  | lent =>
    simp only [argIn] at he
    unfold lent1 at he
    split at he
    · rename_i i g o' n sz lim
      split at he
      · rename_i b hb
        split at he
        · rename_i cs hc
          split at he
          · rename_i hq
            cases he
            obtain ⟨f, hf⟩ := hF.live hb
            refine ⟨S, Step.refl .., h, hF, ?_⟩
            exact sl_list (b := { b with frz := f }) h hx hf hc hq.1 hq.2 (fun _ s => s) (fun im hm => .inr ⟨rfl, .inr ⟨i, by simp, im, hm, rfl⟩⟩)
          · cases he
        · cases he
      · cases he
    · rename_i xs l
      cases he
      obtain ⟨sz, cap, a, vals, rfl, h1, h2, h3, h4⟩ := hx.list_inv
      exact ⟨S, Step.refl .., h, hF, VR.list_mk sz cap a vals h1 h2 (fun hne => let ⟨rb, o, e, hs, hc⟩ := h3 hne; ⟨rb, o, e, hs.imp id (fun q => ⟨rfl, .inl q.2⟩), hc⟩) h4⟩
    · cases he
      have := hx.nils_inv; subst this
      exact ⟨S, Step.refl .., h, hF, VR.list_mk (xs := []) 0 0 none (fun _ => undef) (Nat.le_refl _) (fun x hx => by cases hx) (fun hne => absurd rfl hne) (fun j c hj => by simp at hj)⟩
    · cases he
      obtain ⟨a, rfl⟩ := hx.emp_inv
      exact ⟨S, Step.refl .., h, hF, VR.list_mk (xs := []) 0 0 a (fun _ => undef) (Nat.le_refl _) (fun x hx => by cases hx) (fun hne => absurd rfl hne) (fun j c hj => by simp at hj)⟩
    · exact keepCase he

theorem argIn_sound {H1 : Heap} (hF : FrzOf H H1) (h : SR w S K m H1) {md : Mode} {v : V} {o : Out} (he : argIn H md v = some o) {x : Value} (hx : VR w S B m v x) :
    ∃ S', Step K w S m w S' m ∧ SR w S' K m (H1.sets o.ups) ∧ FrzOf H (H1.sets o.ups) ∧ VR w S' (Lend B m o.rd) m o.v x := by
  by_cases hn : md = .lentN
  · subst hn
    simp only [argIn] at he
    split at he
    · simp only [pureO, Option.some.injEq] at he; subst he; exact ⟨S, Step.refl .., h, hF, hx.monoB (fun _ b => .inl b)⟩
    · simp only [pureO, Option.some.injEq] at he; subst he; exact ⟨S, Step.refl .., h, hF, hx.monoB (fun _ b => .inl b)⟩
    · exact argIn_sound0 hF h (md := .lent) (by simp) (by simpa [argIn] using he) hx
  · exact argIn_sound0 hF h hn he hx
theorem Lend.app_l {d1 d2 : List Id} {rb : Nat} (h : Lend B m d1 rb) : Lend B m (d1 ++ d2) rb := h.imp id (fun ⟨i, hi, q⟩ => ⟨i, by simp [hi], q⟩)
theorem Lend.app_r {d1 d2 : List Id} {rb : Nat} (h : Lend B m d2 rb) : Lend B m (d1 ++ d2) rb := h.imp id (fun ⟨i, hi, q⟩ => ⟨i, by simp [hi], q⟩)

theorem argsIn_sound : ∀ {ms : List Mode} {vs : List V} {S : Nat → Prop} {H1 : Heap} (hF : FrzOf H H1) (h : SR w S K m H1) {o : List V × List (Id × Blk) × List Id} (he : argsIn H ms vs = some o) {xs : List Value}
    (hx : All2 (VR w S B m) vs xs), ∃ S', Step K w S m w S' m ∧ SR w S' K m (H1.sets o.2.1) ∧ FrzOf H (H1.sets o.2.1) ∧ All2 (VR w S' (Lend B m o.2.2) m) o.1 xs
  | ms, [], S, H1, hF, h, o, he, [], _ => by
    have : o = ([], [], []) := by cases ms <;> simpa [argsIn] using he.symm
    subst this; exact ⟨S, Step.refl .., h, hF, trivial⟩
  | _, [], _, _, _, _, _, _, _ :: _, hx => hx.elim
  | _, _ :: _, _, _, _, _, _, _, [], hx => hx.elim
  | ms, v :: r, S, H1, hF, h, o, he, x :: xs, hx => by
    simp only [argsIn] at he
    split at he
    · rename_i v' u d hv
      split at he
      · rename_i vs us ds hr
        cases he
        obtain ⟨S1, st1, sr1, hF1, hv1⟩ := argIn_sound hF h hv hx.1
        obtain ⟨S2, st2, sr2, hF2, hv2⟩ := argsIn_sound hF1 sr1 hr (hx.2.imp (fun c x r => r.monoS st1))
        refine ⟨S2, st1.trans st2, by rw [sets_app]; exact sr2, by rw [sets_app]; exact hF2, ⟨(hv1.monoS st2).monoB (fun _ => Lend.app_l), hv2.imp (fun c x r => r.monoB (fun _ => Lend.app_r))⟩⟩
      · cases he
    · cases he

theorem keepTup_sound : ∀ {cs : List V} {S : Nat → Prop} {H1 : Heap} (hF : FrzOf H H1) (h : SR w S K m H1) {o : List V × List (Id × Blk) × List Id} (he : keepTup H cs = some o) {xs : List Value}
    (hx : All2 (VR w S B m) cs xs), ∃ S', Step K w S m w S' m ∧ SR w S' K m (H1.sets o.2.1) ∧ FrzOf H (H1.sets o.2.1) ∧ All2 (VR w S' no m) o.1 xs
  | [], S, H1, hF, h, o, he, [], _ => by simp [keepTup] at he; subst he; exact ⟨S, Step.refl .., h, hF, trivial⟩
  | [], _, _, _, _, _, _, _ :: _, hx => hx.elim
  | _ :: _, _, _, _, _, _, _, [], hx => hx.elim
  | v :: r, S, H1, hF, h, o, he, x :: xs, hx => by
    simp only [keepTup] at he
    split at he
    · rename_i v' u d hv
      split at he
      · rename_i vs us ds hr
        cases he
        obtain ⟨S1, st1, sr1, hF1, hv1⟩ := keepV_sound hF h hv hx.1
        obtain ⟨S2, st2, sr2, hF2, hv2⟩ := keepTup_sound hF1 sr1 hr (hx.2.imp (fun c x r => r.monoS st1))
        exact ⟨S2, st1.trans st2, by rw [sets_app]; exact sr2, by rw [sets_app]; exact hF2, ⟨hv1.monoS st2, hv2⟩⟩
      · cases he
    · cases he

theorem retIn_sound {own : Bool} (h : SR w S K m H) {r : V} {o : V × List (Id × Blk)} (he : retIn own H r = some o) {x : Value} (hx : VR w S B m r x) :
    ∃ S', Step K w S m w S' m ∧ SR w S' K m (H.sets o.2) ∧ VR w S' B m o.1 x := by
  cases own with
  | true => simp only [retIn, Option.some.injEq] at he; subst he; exact ⟨S, Step.refl .., h, hx⟩
  | false =>
    simp only [retIn] at he
    split at he
    · rename_i vs
      split at he
      · rename_i vs' us ds hk
        cases he
        obtain ⟨xs, rfl, h2⟩ := hx.tup_inv
        obtain ⟨S', st, sr, _, h3⟩ := keepTup_sound (FrzOf.refl H) h hk h2
        exact ⟨S', st, sr, VR.tup_mk (h3.imp (fun c x r => r.lend))⟩
      · cases he
    · split at he
      · rename_i r' us ds hk
        cases he
        obtain ⟨S', st, sr, _, h3⟩ := keepV_sound (FrzOf.refl H) h hk hx
        exact ⟨S', st, sr, h3.lend⟩
      · cases he

theorem keptR_no {v : V} {x : Value} (hk : v.keptR = true) (h : VR w S B m v x) : VR w S no m v x := by
  by_cases ha : ∃ cs, v = .agg cs
  · obtain ⟨cs, rfl⟩ := ha
    obtain ⟨xs, rfl, h2⟩ := h.agg_inv
    exact VR.agg_mk (h2.imp' (fun c x hc r => r.kept (List.all_eq_true.1 hk c hc)))
  · have : v.keptR = v.kept := by cases v <;> first | rfl | exact (ha ⟨_, rfl⟩).elim
    exact h.kept (by rw [← this]; exact hk)
theorem outKept_no {v : V} {x : Value} (hk : outKept v = true) (h : VR w S B m v x) : VR w S no m v x := by
  by_cases ha : ∃ cs, v = .tup cs
  · obtain ⟨cs, rfl⟩ := ha
    obtain ⟨xs, rfl, h2⟩ := h.tup_inv
    exact VR.tup_mk (h2.imp' (fun c x hc r => keptR_no (List.all_eq_true.1 hk c hc) r))
  · have : outKept v = v.keptR := by cases v <;> first | rfl | exact (ha ⟨_, rfl⟩).elim
    exact keptR_no (by rw [← this]; exact hk) h
end

/-- A function value can be entered. -/
def Enters (P : Program) (f : Nat) : Prop := ∃ fn, P.funcs[f]? = some fn ∧ fn.body.isSome = true ∧ (fn.name == "runtime.NumGoroutine") = false
/-- What 'call' says of a Go function is so. -/
structure RunOK (P : Program) (call : Nat → List V → Heap → Option (V × Heap)) : Prop where
  good : ∀ f args H r, call f args H = some r → Enters P f
  ok : ∀ f args H r H', call f args H = some (r, H') → ∀ (w : World) (S K B : Nat → Prop) (m : Map) (vs : List Value), SR w S K m H → (∀ rb, B rb → K rb) → All2 (VR w S B m) args vs →
    Calls P f vs.toArray w fun e w' => ∃ x S' m', e = .returned x ∧ Step K w S m w' S' m' ∧ SR w' S' K m' H' ∧ VR w' S' B m' r x
end Go.Proofs.Ytcamcfplcoklkaa.Iv

namespace Go.Proofs.Ytcamcfplcoklkaa.Iv
open Go
set_option linter.unusedVariables false
set_option linter.unusedSimpArgs false
section
variable {P : Program} {K B : Nat → Prop} {w : World} {S : Nat → Prop} {m : Map} {H : Heap}

theorem All2.map {R R' : V → Value → Prop} (f : V → V) (hf : ∀ c x, R c x → R' (f c) x) : ∀ {cs : List V} {xs : List Value}, All2 R cs xs → All2 R' (cs.map f) xs
  | [], [], _ => trivial
  | _ :: _, _ :: _, h => ⟨hf _ _ h.1, All2.map f hf h.2⟩
  | [], _ :: _, h => h.elim
  | _ :: _, [], h => h.elim

theorem keep1_frz {v : V} {o : Out} (he : keep1 H v = some o) : ∀ p ∈ o.ups, p.2.frz = true := by
  unfold keep1 at he
  split at he
  · split at he
    · split at he
      · split at he
        · cases he; intro p hp; simp at hp; subst hp; rfl
        · cases he
      · cases he
    · cases he
  · split at he
    · cases he
    · cases he; intro p hp; cases hp
  · cases he; intro p hp; cases hp
  · cases he; intro p hp; cases hp
  · split at he
    · cases he
    · cases he; intro p hp; cases hp
  · cases he
  · cases he
  · cases he
  · split at he
    · cases he; intro p hp; cases hp
    · cases he
  · cases he; intro p hp; cases hp
theorem keepL_frz : ∀ {cs : List V} {o : List V × List (Id × Blk) × List Id}, keepL H cs = some o → ∀ p ∈ o.2.1, p.2.frz = true
  | [], o, he => by simp [keepL] at he; subst he; intro p hp; cases hp
  | v :: r, o, he => by
    simp only [keepL] at he
    split at he
    · rename_i hv
      split at he
      · rename_i hr
        cases he
        intro p hp
        rcases List.mem_append.1 hp with hp | hp
        · exact keep1_frz hv p hp
        · exact keepL_frz hr p hp
      · cases he
    · cases he
theorem keepV_frz {v : V} {o : Out} (he : keepV H v = some o) : ∀ p ∈ o.ups, p.2.frz = true := by
  unfold keepV at he
  split at he
  · split at he
    · rename_i hl; cases he; exact keepL_frz hl
    · cases he
  · exact keep1_frz he
theorem view1_ups {v : V} {o : Out} (he : view1 H v = some o) : o.ups = [] := by
  unfold view1 at he
  split at he
  · split at he
    · split at he
      · cases he; rfl
      · cases he
    · cases he
  · cases he; rfl
  · cases he; rfl
  · cases he
theorem argIn_frz0 {md : Mode} (hn : md ≠ .lentN) {v : V} {o : Out} (he : argIn H md v = some o) : ∀ p ∈ o.ups, p.2.frz = true := by
  cases md with
  | keep => exact keepV_frz he
  | lentN => exact absurd rfl hn
  | byref => simp only [argIn, pureO, Option.some.injEq] at he; subst he; intro p hp; cases hp
  | view => simp only [argIn] at he; rw [view1_ups he]; intro p hp; cases hp
  | lent =>
    simp only [argIn] at he
    unfold lent1 at he
    split at he
    · split at he
      · split at he
        · split at he
          · cases he; intro p hp; cases hp
          · cases he
        · cases he
      · cases he
    · cases he; intro p hp; cases hp
    · cases he; intro p hp; cases hp
    · cases he; intro p hp; cases hp
    · exact keepV_frz he
theorem argIn_frz {md : Mode} {v : V} {o : Out} (he : argIn H md v = some o) : ∀ p ∈ o.ups, p.2.frz = true := by
  by_cases hn : md = .lentN
  · subst hn
    simp only [argIn] at he
    split at he
    · simp only [pureO, Option.some.injEq] at he; subst he; intro p hp; cases hp
    · simp only [pureO, Option.some.injEq] at he; subst he; intro p hp; cases hp
    · exact argIn_frz0 (md := .lent) (by simp) (by simpa [argIn] using he)
  · exact argIn_frz0 hn he
theorem argsIn_frz : ∀ {ms : List Mode} {vs : List V} {o : List V × List (Id × Blk) × List Id}, argsIn H ms vs = some o → ∀ p ∈ o.2.1, p.2.frz = true
  | ms, [], o, he => by
    have : o = ([], [], []) := by cases ms <;> simpa [argsIn] using he.symm
    subst this; intro p hp; cases hp
  | ms, v :: r, o, he => by
    simp only [argsIn] at he
    split at he
    · rename_i hv
      split at he
      · rename_i hr
        cases he
        intro p hp
        rcases List.mem_append.1 hp with hp | hp
        · exact argIn_frz hv p hp
        · exact argsIn_frz hr p hp
      · cases he
    · cases he
theorem sets_out (H : Heap) : ∀ (ups : List (Id × Blk)) (i : Id), i ∉ ups.map (·.1) → (H.sets ups) i = H i
  | [], _, _ => rfl
  | (j, b) :: r, i, h => by
    simp only [List.map_cons, List.mem_cons, not_or] at h
    simp only [Heap.sets]
    rw [sets_out _ r i h.2]; exact Heap.set_ne _ _ h.1
theorem sets_frz (H : Heap) : ∀ (ups : List (Id × Blk)), (∀ p ∈ ups, p.2.frz = true) → ∀ i ∈ ups.map (·.1), ∃ b, (H.sets ups) i = some b ∧ b.frz = true
  | [], _, i, hi => by cases hi
  | (j, b) :: r, h, i, hi => by
    simp only [Heap.sets]
    by_cases hr : i ∈ r.map (·.1)
    · exact sets_frz _ r (fun p hp => h p (by simp [hp])) i hr
    · simp only [List.map_cons, List.mem_cons] at hi
      rcases hi with rfl | hi
      · exact ⟨b, by rw [sets_out _ r _ hr]; exact Heap.set_same .., h (i, b) (by simp)⟩
      · exact absurd hi hr

theorem enterH_arg (H : Heap) (acc : List Id) (j : Nat) : enterH H acc (.arg j) = match acc[j]? with
    | some i => match H i with
      | some b => some { gen := 0, cells := if b.flat then b.cells else renL (intoRen H acc) b.cells, frz := b.frz, flat := b.flat }
      | none => none
    | none => none := by
  cases acc with
  | nil => simp [enterH]
  | cons a r => rfl
theorem enterH_other (H : Heap) (acc : List Id) (i : Id) (h : ∀ j, i ≠ .arg j) : enterH H acc i = none := by
  cases acc with
  | nil => rfl
  | cons a r => cases i with
    | arg j => exact absurd rfl (h j)
    | own => rfl
    | sub => rfl

theorem newName_inj {d : Nat} {acc : List Id} {i k : Id} (hi : i.alt = false) (hk : k.alt = false) (e : newName d acc i = newName d acc k) : i = k := by
  unfold newName at e
  split at e <;> split at e
  · simpa using e
  · simp only [Id.sub.injEq, true_and] at e
    subst e
    simp [Id.alt] at hk
  · simp only [Id.sub.injEq, true_and] at e
    subst e
    simp [Id.alt] at hi
  · simpa using e
theorem freshSubs_spec {d : Nat} {acc : List Id} : ∀ {l : List Id}, freshSubs d acc l = true → ∀ k ∈ l, (∀ j, k ≠ .arg j) → newName d acc k ∉ acc ∧ k.alt = false
  | [], _, k, hk, _ => by cases hk
  | x :: r, h, k, hk, hn => by
    cases x with
    | arg j =>
      rcases List.mem_cons.1 hk with rfl | hk
      · exact absurd rfl (hn j)
      · exact freshSubs_spec (by simpa [freshSubs] using h) k hk hn
    | own t =>
      simp only [freshSubs, Bool.and_eq_true] at h
      rcases List.mem_cons.1 hk with rfl | hk
      · simpa using h.1
      · exact freshSubs_spec h.2 k hk hn
    | sub t i =>
      simp only [freshSubs, Bool.and_eq_true] at h
      rcases List.mem_cons.1 hk with rfl | hk
      · simpa using h.1
      · exact freshSubs_spec h.2 k hk hn

theorem argIds_spec (H : Heap) : ∀ (n : Nat) (l : List (Id × Nat)), (∀ p ∈ l, p ∈ argIds n H l) ∧ ∀ j b, j < n → H (.arg j) = some b → (.arg j, b.gen) ∈ argIds n H l
  | 0, l => ⟨fun p hp => hp, fun j b hj => by omega⟩
  | n + 1, l => by
    simp only [argIds]
    obtain ⟨h1, h2⟩ := argIds_spec H n (match H (.arg n) with | some b => (.arg n, b.gen) :: l | none => l)
    refine ⟨fun p hp => h1 p ?_, fun j b hj hb => ?_⟩
    · split
      · exact List.mem_cons_of_mem _ hp
      · exact hp
    · rcases Nat.lt_or_ge j n with q | q
      · exact h2 j b q hb
      · have : j = n := by omega
        subst this
        refine h1 _ ?_
        rw [hb]
        exact List.mem_cons_self

/-- the blocks as they are known to whom they are handed -/
def mapIn (m : Map) (acc : List Id) : Map := fun
  | .arg j => match acc[j]? with
    | some i => (m i).map fun im => { im with gen := 0 }
    | none => none
  | _ => none

theorem into_ok {acc : List Id} (h : SR w S K m H) : RenOK (intoRen H acc) m (mapIn m acc) := by
  intro i g i' g' e im hm
  unfold intoRen at e
  split at e
  · rename_i j hp
    split at e
    · rename_i b hb
      cases e
      obtain ⟨_, hj⟩ := pos_spec hp
      obtain ⟨hb1, hb2⟩ := live_some hb
      obtain ⟨im0, hm0, ok⟩ := h.blk i b hb1
      rw [hm] at hm0; cases hm0
      have hg := ok.gen
      simp only [Nat.sub_zero] at hj
      exact ⟨{ im with gen := 0 }, by simp [mapIn, hj, hm], fun _ => ⟨rfl, rfl, rfl, rfl, rfl⟩, fun hlt => by omega⟩
    · cases e
  · cases e

/-- what stays while the call runs -/
def KIn (w : World) (m : Map) (H : Heap) (acc : List Id) : Nat → Prop := fun rb => rb < w.heap.size ∧ ¬ ∃ i ∈ acc, ∃ b im, H i = some b ∧ b.frz = false ∧ m i = some im ∧ im.rb = rb

theorem enter_sound {acc : List Id} (h : SR w S K m H) (hnd : acc.Nodup) : SR w S (KIn w m H acc) (mapIn m acc) (enterH H acc) := by
  have at_ : ∀ {i b}, enterH H acc i = some b → ∃ j i0 b0, i = .arg j ∧ acc[j]? = some i0 ∧ H i0 = some b0 ∧ b = { gen := 0, cells := if b0.flat then b0.cells else renL (intoRen H acc) b0.cells, frz := b0.frz, flat := b0.flat } := by
    intro i b hi
    cases i with
    | arg j =>
      rw [enterH_arg] at hi
      split at hi
      · rename_i i0 hj
        split at hi
        · rename_i b0 hb; cases hi; exact ⟨j, i0, b0, rfl, hj, hb, rfl⟩
        · cases hi
      · cases hi
    | own t => rw [enterH_other _ _ _ (by simp)] at hi; cases hi
    | sub t i => rw [enterH_other _ _ _ (by simp)] at hi; cases hi
  have map_ : ∀ {j i0 im}, acc[j]? = some i0 → mapIn m acc (.arg j) = some im → ∃ im0, m i0 = some im0 ∧ im = { im0 with gen := 0 } := by
    intro j i0 im hj hm
    simp only [mapIn, hj] at hm
    cases hm0 : m i0 with
    | none => rw [hm0] at hm; cases hm
    | some im0 => rw [hm0] at hm; cases hm; exact ⟨im0, rfl, rfl⟩
  refine ⟨h.sub, fun rb hk => hk.1, fun i b hi => ?_, fun i hi => ?_, fun i k bi im km hi hf hm hkm hne => ?_, fun i b im hi hf hm => ?_, h.scel⟩
  · obtain ⟨j, i0, b0, rfl, hj, hb0, rfl⟩ := at_ hi
    obtain ⟨im, hm, ok⟩ := h.blk i0 b0 hb0
    refine ⟨{ im with gen := 0 }, by simp [mapIn, hj, hm], ⟨rfl, ?_, ok.row, ok.fit, fun q c hq => ?_, ok.frz, ok.thaw⟩⟩
    · simp only
      split
      · exact ok.n
      · rw [renL_map, List.length_map]; exact ok.n
    · simp only at hq ⊢
      cases hfl : b0.flat with
      | true =>
        rw [hfl] at hq
        simp only [if_true] at hq
        obtain ⟨x, q1, q2, q3, q4⟩ := ok.cel q c hq
        exact ⟨x, q1, q2, .fr (q4 hfl), fun _ => q4 hfl⟩
      | false =>
        rw [hfl] at hq
        simp only [Bool.false_eq_true, if_false, renL_map, List.getElem?_map] at hq
        cases hc : b0.cells[q]? with
        | none => rw [hc] at hq; cases hq
        | some c0 =>
          rw [hc] at hq; cases hq
          obtain ⟨x, q1, q2, q3, q4⟩ := ok.cel q c0 hc
          exact ⟨x, q1, q2, q3.ren (into_ok h), fun e => by cases e⟩
  · cases i with
    | arg j =>
      rw [enterH_arg] at hi
      simp only [mapIn]
      split at hi
      · rename_i i0 hj
        split at hi
        · cases hi
        · rename_i hb; rw [h.non i0 hb]; rfl
      · rfl
    | own t => rfl
    | sub t i => rfl
  · obtain ⟨j, i0, b0, rfl, hj, hb0, rfl⟩ := at_ hi
    cases k with
    | arg j2 =>
      cases hj2 : acc[j2]? with
      | none => simp [mapIn, hj2] at hkm
      | some k0 =>
        obtain ⟨im0, hm0, rfl⟩ := map_ hj hm
        obtain ⟨km0, hkm0, rfl⟩ := map_ hj2 hkm
        refine h.inj i0 k0 b0 im0 km0 hb0 hf hm0 hkm0 (fun e => hne ?_)
        subst e
        obtain ⟨l1, e1⟩ := List.getElem?_eq_some_iff.1 hj
        obtain ⟨l2, e2⟩ := List.getElem?_eq_some_iff.1 hj2
        rw [(List.getElem_inj (h₀ := l1) (h₁ := l2) hnd).1 (e1.trans e2.symm)]
    | own t => simp [mapIn] at hkm
    | sub t i => simp [mapIn] at hkm
  · obtain ⟨j, i0, b0, rfl, hj, hb0, rfl⟩ := at_ hi
    obtain ⟨im0, hm0, rfl⟩ := map_ hj hm
    exact fun hk => hk.2 ⟨i0, List.mem_of_getElem? hj, b0, im0, hb0, hf, hm0, rfl⟩
end
end Go.Proofs.Ytcamcfplcoklkaa.Iv

namespace Go.Proofs.Ytcamcfplcoklkaa.Iv
open Go
set_option linter.unusedVariables false
set_option linter.unusedSimpArgs false
section
variable {P : Program} {K B : Nat → Prop} {w : World} {S : Nat → Prop} {m : Map} {H : Heap}

theorem nodup_names {d : Nat} {acc acc' : List Id} (hnd : acc.Nodup) (hnd' : acc'.Nodup) (hfs : freshSubs d acc acc' = true) {i k p : Id} {g g' : Nat} (hi : i ∈ acc') (hk : k ∈ acc')
    (e1 : backName H d acc i = some (p, g)) (e2 : backName H d acc k = some (p, g')) : i = k := by
  have argc : ∀ {j q g}, backName H d acc (.arg j) = some (q, g) → acc[j]? = some q := by
    intro j q g e
    simp only [backName] at e
    split at e
    · rename_i i0 hj
      split at e
      · cases e; exact hj
      · cases e
    · cases e
  have oth : ∀ {k q g}, (∀ j, k ≠ .arg j) → backName H d acc k = some (q, g) → q = newName d acc k := by
    intro k q g hn e
    cases k with
    | arg j => exact absurd rfl (hn j)
    | own t => simp [backName] at e; exact e.1.symm
    | sub t i => simp [backName] at e; exact e.1.symm
  by_cases h1 : ∃ j, i = .arg j
  · obtain ⟨j, rfl⟩ := h1
    have a1 := argc e1
    by_cases h2 : ∃ j, k = .arg j
    · obtain ⟨j2, rfl⟩ := h2
      have a2 := argc e2
      obtain ⟨l1, q1⟩ := List.getElem?_eq_some_iff.1 a1
      obtain ⟨l2, q2⟩ := List.getElem?_eq_some_iff.1 a2
      rw [(List.getElem_inj (h₀ := l1) (h₁ := l2) hnd).1 (q1.trans q2.symm)]
    · have a2 := oth (fun j e => h2 ⟨j, e⟩) e2
      subst a2
      exact absurd (List.mem_of_getElem? a1) (freshSubs_spec hfs k hk (fun j e => h2 ⟨j, e⟩)).1
  · have a1 := oth (fun j e => h1 ⟨j, e⟩) e1
    subst a1
    by_cases h2 : ∃ j, k = .arg j
    · obtain ⟨j2, rfl⟩ := h2
      exact absurd (List.mem_of_getElem? (argc e2)) (freshSubs_spec hfs i hi (fun j e => h1 ⟨j, e⟩)).1
    · have a2 := oth (fun j e => h2 ⟨j, e⟩) e2
      exact newName_inj (freshSubs_spec hfs i hi (fun j e => h1 ⟨j, e⟩)).2 (freshSubs_spec hfs k hk (fun j e => h2 ⟨j, e⟩)).2 a2

open Classical in
/-- the blocks as the caller knows them behind the call -/
noncomputable def mapOut (m m2 : Map) (nm : Id → Option (Id × Nat)) (acc' : List Id) : Map := fun i' =>
  if h : ∃ p : Id × Nat × Im, p.1 ∈ acc' ∧ nm p.1 = some (i', p.2.1) ∧ m2 p.1 = some p.2.2 then some { h.choose.2.2 with gen := h.choose.2.1 + h.choose.2.2.gen } else m i'
theorem mapOut_at {m m2 : Map} {nm : Id → Option (Id × Nat)} {acc' : List Id} (inj : ∀ {i k p g g'}, i ∈ acc' → k ∈ acc' → nm i = some (p, g) → nm k = some (p, g') → i = k)
    {i i' : Id} {g : Nat} {im : Im} (hi : i ∈ acc') (hn : nm i = some (i', g)) (hm : m2 i = some im) : mapOut m m2 nm acc' i' = some { im with gen := g + im.gen } := by
  have h : ∃ p : Id × Nat × Im, p.1 ∈ acc' ∧ nm p.1 = some (i', p.2.1) ∧ m2 p.1 = some p.2.2 := ⟨(i, g, im), hi, hn, hm⟩
  unfold mapOut
  rw [dif_pos h]
  obtain ⟨h1, h2, h3⟩ := h.choose_spec
  have e := inj h1 hi h2 hn
  rw [e] at h2 h3
  rw [hn] at h2; rw [hm] at h3
  simp only [Option.some.injEq, Prod.mk.injEq, true_and] at h2 h3
  rw [← h2, ← h3]
theorem mapOut_not {m m2 : Map} {nm : Id → Option (Id × Nat)} {acc' : List Id} {i' : Id} (hn : ∀ i ∈ acc', ∀ g, nm i ≠ some (i', g)) : mapOut m m2 nm acc' i' = m i' := by
  unfold mapOut
  rw [dif_neg (fun ⟨p, h1, h2, _⟩ => hn _ h1 _ h2)]

/-- THE WAY BACK: what the callee leaves, known by the caller's names. -/
theorem back_sound {acc acc' : List Id} (h : SR w S K m H) (hnd : acc.Nodup) (hex : ∀ i ∈ acc, ∃ b, H i = some b) {w' : World} {S' : Nat → Prop} {m2 : Map} {H2 : Heap} {d : Nat}
    (st : Step (KIn w m H acc) w S (mapIn m acc) w' S' m2) (sr : SR w' S' (KIn w m H acc) m2 H2) (hnd' : acc'.Nodup) (hall : ∀ j b, j < acc.length → H2 (.arg j) = some b → .arg j ∈ acc')
    (hfs : freshSubs d acc acc' = true) {ups : List (Id × Blk)} (hb : backUps H H2 d acc acc' acc' = some ups) :
    RenOK (backRen H d acc acc') m2 (mapOut m m2 (backName H d acc) acc') ∧ Step K w S m w' S' (mapOut m m2 (backName H d acc) acc') ∧
      SR w' S' K (mapOut m m2 (backName H d acc) acc') (H.sets ups) := by
  obtain ⟨u1, u2, u3⟩ := backUps_spec hb
  have inj : ∀ {i k p g g'}, i ∈ acc' → k ∈ acc' → backName H d acc i = some (p, g) → backName H d acc k = some (p, g') → i = k := fun hi hk e1 e2 => nodup_names hnd hnd' hfs hi hk e1 e2
  -- the names that are written
  have hupsnd : (ups.map (·.1)).Nodup := by
    have h1 : (acc'.map (fun i => (backName H d acc i).map (·.1))).Nodup := by
      unfold List.Nodup
      rw [List.pairwise_map]
      refine List.Pairwise.imp_of_mem (fun {a b} ha hb' hne e => hne ?_) hnd'
      obtain ⟨p, g, _, e1, _⟩ := u2 a ha
      obtain ⟨p', g', _, e2, _⟩ := u2 b hb'
      rw [e1, e2] at e
      simp only [Option.map_some, Option.some.injEq] at e
      subst e
      exact inj ha hb' e1 e2
    rw [← u3] at h1
    unfold List.Nodup at h1 ⊢
    rw [List.pairwise_map] at h1 ⊢
    exact h1.imp (fun hne e => hne (by rw [e]))
  obtain ⟨g1, g2⟩ := sets_get H ups hupsnd
  -- a name that is written, and one that is not
  have named : ∀ {i i' g b}, i ∈ acc' → backName H d acc i = some (i', g) → H2 i = some b →
      (H.sets ups) i' = some { gen := g + b.gen, cells := if b.flat then b.cells else renL (backRen H d acc acc') b.cells, frz := b.frz, flat := b.flat } ∧ (b.flat || b.cells.all V.kept) = true := by
    intro i i' g b hi hn hb2
    obtain ⟨p, g', b', e1, e2, e3⟩ := u2 i hi
    rw [hn] at e1; cases e1
    obtain ⟨q, hq, hq1⟩ := List.mem_map.1 e3
    obtain ⟨k, hk, bk, gk, f1, f2, f3, f4⟩ := u1 q hq
    rw [hq1] at f2
    have := inj hk hi f2 hn
    subst this
    rw [hn] at f2; cases f2
    rw [hb2] at f1; cases f1
    refine ⟨?_, f3⟩
    rw [← f4, ← hq1]
    exact g1 q hq
  have outN : ∀ {i'}, i' ∉ ups.map (·.1) → ∀ i ∈ acc', ∀ g, backName H d acc i ≠ some (i', g) := by
    intro i' hn i hi g e
    obtain ⟨p, g', b', e1, e2, e3⟩ := u2 i hi
    rw [e] at e1; cases e1
    exact hn e3
  have inN : ∀ {i'}, i' ∈ ups.map (·.1) → ∃ i ∈ acc', ∃ g b im, backName H d acc i = some (i', g) ∧ H2 i = some b ∧ m2 i = some im ∧ BlkOK w' S' m2 b im := by
    intro i' hi'
    obtain ⟨q, hq, hq1⟩ := List.mem_map.1 hi'
    obtain ⟨k, hk, bk, gk, f1, f2, f3, f4⟩ := u1 q hq
    rw [hq1] at f2
    obtain ⟨im, hm, ok⟩ := sr.blk k bk f1
    exact ⟨k, hk, gk, bk, im, f2, f1, hm, ok⟩
  -- what is handed over is named
  have argNamed : ∀ i ∈ acc, i ∈ ups.map (·.1) := by
    intro i hi
    obtain ⟨j, hj⟩ := List.getElem?_of_mem hi
    have hjl : j < acc.length := (List.getElem?_eq_some_iff.1 hj).1
    obtain ⟨b, hb⟩ := hex i hi
    obtain ⟨im, hm, ok⟩ := h.blk i b hb
    have hm0 : mapIn m acc (.arg j) = some { im with gen := 0 } := by simp [mapIn, hj, hm]
    obtain ⟨im2, hm2, _, _⟩ := st.ext _ _ hm0
    obtain ⟨b2, hb2, _⟩ := sr.of_map hm2
    have hin := hall j b2 hjl hb2
    obtain ⟨p, g', b', e1, e2, e3⟩ := u2 _ hin
    simp only [backName, hj, hb, Option.some.injEq, Prod.mk.injEq] at e1
    obtain ⟨rfl, _⟩ := e1
    exact e3
  have kOut : ∀ {i' im}, i' ∉ ups.map (·.1) → m i' = some im → KIn w m H acc im.rb := by
    intro i' im hn hm
    obtain ⟨b, hb, ok⟩ := h.of_map hm
    refine ⟨ok.lt, fun ⟨k, hk, bk, km, e1, e2, e3, e4⟩ => ?_⟩
    exact h.inj k i' bk km im e1 e2 e3 hm (fun e => hn (e ▸ argNamed k hk)) e4
  have kK : ∀ rb, K rb → KIn w m H acc rb := fun rb hk => ⟨h.kin rb hk, fun ⟨k, hk', bk, km, e1, e2, e3, e4⟩ => h.own k bk km e1 e2 e3 (e4 ▸ hk)⟩
  have hren : RenOK (backRen H d acc acc') m2 (mapOut m m2 (backName H d acc) acc') := by
    intro i g i' g' e im hm
    unfold backRen at e
    split at e
    · rename_i hi
      split at e
      · rename_i p b hp
        cases e
        exact ⟨_, mapOut_at inj hi hp hm, fun e => ⟨by simp only; omega, rfl, rfl, rfl, rfl⟩, fun e => by simp only; omega⟩
      · cases e
    · cases e
  have stF : Step K w S m w' S' (mapOut m m2 (backName H d acc) acc') := by
    refine ⟨st.os, st.tape, st.output, st.size, st.sub, fun rb hs => (st.fresh rb hs).imp id (fun hn hk => hn (kK rb hk)), fun rb hk => st.pres rb (hk.imp id (kK rb)), fun i' im hm => ?_, st.oth⟩
    by_cases hn : i' ∈ ups.map (·.1)
    · obtain ⟨i, hi, g, b2, im2, e1, e2, e3, ok2⟩ := inN hn
      refine ⟨_, mapOut_at inj hi e1 e3, ?_, fun e => ?_⟩
      all_goals
        cases i with
        | arg j =>
          simp only [backName] at e1
          split at e1
          · rename_i i0 hj
            split at e1
            · rename_i b0 hb0
              cases e1
              obtain ⟨im0, hm0, ok0⟩ := h.blk _ _ hb0
              rw [hm] at hm0; cases hm0
              have hg := ok0.gen
              have hmi : mapIn m acc (.arg j) = some { im with gen := 0 } := by simp [mapIn, hj, hm]
              obtain ⟨im2', hm2', h1, h2⟩ := st.ext _ _ hmi
              rw [e3] at hm2'; cases hm2'
              first
                | (simp only; omega)
                | (simp only at e
                   have h0 : im2.gen = 0 := by omega
                   have := h2 h0
                   rw [this]
                   cases im
                   simp only at hg ⊢
                   simp [hg])
            · cases e1
          · cases e1
        | own t =>
          simp only [backName, Option.some.injEq, Prod.mk.injEq] at e1
          obtain ⟨rfl, rfl⟩ := e1
          have := nextGen_lt h hm
          first | (simp only; omega) | (simp only at e; omega)
        | sub t i =>
          simp only [backName, Option.some.injEq, Prod.mk.injEq] at e1
          obtain ⟨rfl, rfl⟩ := e1
          have := nextGen_lt h hm
          first | (simp only; omega) | (simp only at e; omega)
    · exact ⟨im, by rw [mapOut_not (outN hn)]; exact hm, Nat.le_refl _, fun _ => rfl⟩
  refine ⟨hren, stF, ⟨sr.sub, fun rb hk => Nat.lt_of_lt_of_le (h.kin rb hk) st.size, fun i' b' hi' => ?_, fun i' hi' => ?_, fun i' k' bi im km hi' hf hm hkm hne => ?_, fun i' b' im hi' hf hm => ?_, sr.scel⟩⟩
  · by_cases hn : i' ∈ ups.map (·.1)
    · obtain ⟨i, hi, g, b2, im2, e1, e2, e3, ok2⟩ := inN hn
      obtain ⟨q1, q2⟩ := named hi e1 e2
      rw [q1] at hi'; cases hi'
      refine ⟨_, mapOut_at inj hi e1 e3, ⟨by simp only; rw [ok2.gen], ?_, ok2.row, ok2.fit, fun q c hq => ?_, ok2.frz, ok2.thaw⟩⟩
      · simp only
        split
        · exact ok2.n
        · rw [renL_map, List.length_map]; exact ok2.n
      · simp only at hq ⊢
        cases hfl : b2.flat with
        | true =>
          rw [hfl] at hq
          simp only [if_true] at hq
          obtain ⟨x, r1, r2, r3, r4⟩ := ok2.cel q c hq
          exact ⟨x, r1, r2, .fr (r4 hfl), fun _ => r4 hfl⟩
        | false =>
          rw [hfl] at hq
          simp only [Bool.false_eq_true, if_false, renL_map, List.getElem?_map] at hq
          cases hc : b2.cells[q]? with
          | none => rw [hc] at hq; cases hq
          | some c0 =>
            rw [hc] at hq; cases hq
            obtain ⟨x, r1, r2, r3, r4⟩ := ok2.cel q c0 hc
            exact ⟨x, r1, r2, r3.ren hren, fun e => by cases e⟩
    · rw [g2 i' hn] at hi'
      obtain ⟨im, hm, ok⟩ := h.blk i' b' hi'
      refine ⟨im, by rw [mapOut_not (outN hn)]; exact hm, ok.mono stF (st.pres _ (.inr (kOut hn hm))) (fun hf hs => ?_)⟩
      exact (st.fresh _ hs).elim (ok.thaw hf) (fun hk => hk (kOut hn hm))
  · by_cases hn : i' ∈ ups.map (·.1)
    · obtain ⟨i, hi, g, b2, im2, e1, e2, e3, ok2⟩ := inN hn
      rw [(named hi e1 e2).1] at hi'; cases hi'
    · rw [g2 i' hn] at hi'
      rw [mapOut_not (outN hn)]; exact h.non i' hi'
  · by_cases hn : i' ∈ ups.map (·.1)
    · obtain ⟨i, hi, g, b2, im2, e1, e2, e3, ok2⟩ := inN hn
      rw [(named hi e1 e2).1] at hi'; cases hi'
      rw [mapOut_at inj hi e1 e3] at hm; cases hm
      simp only at hf ⊢
      by_cases hk : k' ∈ ups.map (·.1)
      · obtain ⟨k, hk1, gk, bk, imk, f1, f2, f3, okk⟩ := inN hk
        rw [mapOut_at inj hk1 f1 f3] at hkm; cases hkm
        exact sr.inj i k b2 im2 imk e2 hf e3 f3 (fun e => hne (by subst e; rw [e1] at f1; cases f1; rfl))
      · rw [mapOut_not (outN hk)] at hkm
        exact fun e => sr.own i b2 im2 e2 hf e3 (e ▸ kOut hk hkm)
    · rw [g2 i' hn] at hi'
      rw [mapOut_not (outN hn)] at hm
      by_cases hk : k' ∈ ups.map (·.1)
      · obtain ⟨k, hk1, gk, bk, imk, f1, f2, f3, okk⟩ := inN hk
        rw [mapOut_at inj hk1 f1 f3] at hkm; cases hkm
        simp only
        intro e
        cases hfk : bk.frz with
        | false => exact sr.own k bk imk f2 hfk f3 (e ▸ kOut hn hm)
        | true =>
          have hs := okk.frz hfk
          rw [← e] at hs
          obtain ⟨im0, hm0, ok0⟩ := h.blk i' bi hi'
          rw [hm] at hm0; cases hm0
          exact (st.fresh _ hs).elim (ok0.thaw hf) (fun hk => hk (kOut hn hm))
      · rw [mapOut_not (outN hk)] at hkm
        exact h.inj i' k' bi im km hi' hf hm hkm hne
  · by_cases hn : i' ∈ ups.map (·.1)
    · obtain ⟨i, hi, g, b2, im2, e1, e2, e3, ok2⟩ := inN hn
      rw [(named hi e1 e2).1] at hi'; cases hi'
      rw [mapOut_at inj hi e1 e3] at hm; cases hm
      exact fun hk => sr.own i b2 im2 e2 hf e3 (kK _ hk)
    · rw [g2 i' hn] at hi'
      rw [mapOut_not (outN hn)] at hm
      exact h.own i' b' im hi' hf hm
end
end Go.Proofs.Ytcamcfplcoklkaa.Iv

namespace Go.Proofs.Ytcamcfplcoklkaa.Iv
open Go
set_option linter.unusedVariables false
set_option linter.unusedSimpArgs false
section
variable {P : Program} {K B : Nat → Prop} {w : World} {S : Nat → Prop} {m : Map} {H : Heap}

theorem renIf_eq {acc : List Id} (f : Id → Nat → Option (Id × Nat)) {as : List V} (h : acc = [] → refsL as = []) : renIf acc f as = as.map (ren f) := by
  cases acc with
  | nil => simp only [renIf]; rw [← renL_map, renL_norefs _ _ (h rfl)]
  | cons a r => simp only [renIf]; exact renL_map f as
theorem renIfV_eq {acc : List Id} (f : Id → Nat → Option (Id × Nat)) {r : V} (h : acc = [] → refs r = []) : renIfV acc f r = ren f r := by
  cases acc with
  | nil => simp only [renIfV]; rw [ren_norefs _ _ (h rfl)]
  | cons a q => rfl

theorem call_sound {call : Nat → List V → Heap → Option (V × Heap)} {pol : Nat → Pol} (hrun : RunOK P call) (h : SR w S K m H) (hB : ∀ rb, B rb → K rb) {d f : Nat} {args : List V} {out : Out}
    (he : evCall call pol H d f args = some out) {vs : List Value} (hx : All2 (VR w S B m) args vs) :
    Enters P f ∧ Calls P f vs.toArray w fun e w' => ∃ x S' m', e = .returned x ∧ Step K w S m w' S' m' ∧ SR w' S' K m' (H.sets out.ups) ∧ VR w' S' B m' out.v x := by
  unfold evCall at he
  split at he
  · rename_i as fz rd hargs
    obtain ⟨S1, st1, sr1, hF1, hv1⟩ := argsIn_sound (FrzOf.refl H) h hargs hx
    have hfz := argsIn_frz hargs
    simp only at sr1 hF1 hv1 hfz
    simp only at he
    split at he
    · rename_i acc hcol
      obtain ⟨_, c2, c3, c4⟩ := collect_spec _ _ _ _ hcol
      have hnd := c2 List.nodup_nil
      have hex := c3 (fun i hi => by cases hi)
      split at he
      · cases he
      · rename_i hheld
        -- what is lent is not handed over
        have hnot : ∀ i ∈ acc, i ∈ rd → ∃ b, (H.sets fz) i = some b ∧ b.frz = true := by
          intro i hi hr
          refine sets_frz H fz hfz i ?_
          refine Classical.byContradiction fun hn => hheld ?_
          rw [List.any_eq_true]
          refine ⟨i, hi, ?_⟩
          simp only [Bool.and_eq_true, List.contains_iff_mem, hr, true_and, Bool.not_eq_true', List.any_eq_false, beq_iff_eq]
          exact fun x hx e => hn (e ▸ List.mem_map_of_mem hx)
        have hB0 : ∀ rb, Lend B m rd rb → KIn w m (H.sets fz) acc rb := by
          rintro rb (hb | ⟨i, hi, im, hm, rfl⟩)
          · exact ⟨sr1.kin rb (hB rb hb), fun ⟨k, hk, bk, km, e1, e2, e3, e4⟩ => sr1.own k bk km e1 e2 e3 (e4 ▸ hB rb hb)⟩
          · obtain ⟨b, hb, ok⟩ := sr1.of_map hm
            refine ⟨ok.lt, fun ⟨k, hk, bk, km, e1, e2, e3, e4⟩ => ?_⟩
            by_cases hki : k = i
            · subst hki
              obtain ⟨b', e5, e6⟩ := hnot k hk hi
              rw [e1] at e5; cases e5
              rw [e2] at e6; cases e6
            · exact sr1.inj k i bk km im e1 e2 e3 hm hki e4
        have sr0 := enter_sound sr1 hnd
        have hargs' : All2 (VR w S1 (Lend B m rd) (mapIn m acc)) (renIf acc (intoRen (H.sets fz) acc) as) vs := by
          rw [renIf_eq _ (fun e => ?_)]
          · exact hv1.map _ (fun c x r => r.ren (into_ok sr1))
          · subst e
            cases hr : refsL as with
            | nil => rfl
            | cons p r => have := c4 p (by rw [hr]; simp); cases this
        split at he
        · rename_i r H' hcall
          have hen := hrun.good _ _ _ _ hcall
          have hc := hrun.ok _ _ _ _ _ hcall w S1 _ _ _ vs sr0 hB0 hargs'
          refine ⟨hen, hc.mono ?_⟩
          rintro e w' ⟨x, S2, m2, rfl, st2, sr2, hv2⟩
          split at he
          · rename_i r' us hret
            obtain ⟨S3, st3, sr3, hv3⟩ := retIn_sound sr2 hret hv2
            have st23 := st2.trans st3
            split at he
            · rename_i acc' hcol2
              obtain ⟨_, d2, d3, d4⟩ := collect_spec _ _ _ _ hcol2
              have hnd' := d2 List.nodup_nil
              obtain ⟨a1, a2⟩ := argIds_spec (H'.sets us) acc.length (refs r')
              split at he
              · rename_i ups hups
                split at he
                · rename_i hfin
                  simp only [Bool.and_eq_true] at hfin
                  cases he
                  have hv3' : ∃ B0 : Nat → Prop, VR w' S3 B0 m2 r' x ∧ ((∀ rb, B0 rb → False) ∨ B0 = B) := by
                    rcases Bool.or_eq_true _ _ ▸ hfin.1 with q | q
                    · exact ⟨no, outKept_no q hv3, .inl (fun _ f => f)⟩
                    · have : rd = [] := by simpa using q
                      subst this
                      have e : Lend B m [] = B := by funext rb; simp [Lend]
                      rw [e] at hv3
                      exact ⟨B, hv3, .inr rfl⟩
                  obtain ⟨hren, stF, srF⟩ := back_sound sr1 hnd hex st23 sr3 hnd' (fun j b hj hb => d4 _ (a2 j b hj hb)) hfin.2 hups
                  refine ⟨x, S3, _, rfl, st1.trans stF, ?_, ?_⟩
                  · simp only [sets_app]; exact srF
                  · simp only
                    rw [renIfV_eq _ (fun e => ?_)]
                    · obtain ⟨B0, q1, q2⟩ := hv3'
                      rcases q2 with q2 | q2
                      · have : B0 = no := by funext rb; exact propext ⟨fun h => q2 rb h, fun h => h.elim⟩
                        subst this
                        exact (q1.ren hren).lend
                      · subst q2; exact q1.ren hren
                    · subst e
                      cases hr : refs r' with
                      | nil => rfl
                      | cons p q => have := d4 p (a1 p (by rw [hr]; simp)); cases this
                · cases he
              · cases he
            · cases he
          · cases he
        · cases he
    · cases he
  · cases he

/-! ### one operation -/
/-- The post of one operation. -/
def Goes (P : Program) (K B : Nat → Prop) (w : World) (S : Nat → Prop) (m : Map) (H : Heap) (out : Out) (o : Oper) (a : Act) : Prop :=
  ∀ (next : Act → World → Prop) (Q : Exit → Act → World → Prop), (∀ x w' S' m', Step K w S m w' S' m' → SR w' S' K m' (H.sets out.ups) → VR w' S' B m' out.v x → next (a.put o.dst x) w') → o.wp P a w next Q

theorem Goes.of {out : Out} {o : Oper} {a : Act} {s : Sem Value} (hs : Sound P K B w S m H out s) (ho : execOp a.eval o = (do pure (.value (← s)))) : Goes P K B w S m H out o a := by
  intro next Q hn
  obtain ⟨x, w', S', m', hr, st, sr, hv⟩ := hs
  unfold Oper.wp
  rw [ho]
  simp only [Sem.run_bind, hr, Result.andThen_ok, Sem.run_pure, Oper.upon]
  exact hn x w' S' m' st sr hv

theorem parts_R {ρ : Operand → V} {ρ' : Operand → Value} (hρ : ∀ x, VR w S B m (ρ x) (ρ' x)) (ps : Array (Nat × Operand)) :
    PartsR (VR w S B m) (ps.toList.map fun p => (p.1, ρ p.2)) (ps.map fun (i, x) => (i, ρ' x)).toList := by
  refine ⟨by simp, fun j p q h1 h2 => ?_⟩
  simp only [Array.toList_map, List.getElem?_map] at h1 h2
  cases e : ps.toList[j]? with
  | none => rw [e] at h1; cases h1
  | some p0 =>
    rw [e] at h1 h2
    simp only [Option.map_some, Option.some.injEq] at h1 h2
    subst h1 h2
    exact ⟨rfl, hρ _⟩
theorem args_R {ρ : Operand → V} {ρ' : Operand → Value} (hρ : ∀ x, VR w S B m (ρ x) (ρ' x)) : ∀ (l : List Operand), All2 (VR w S B m) (l.map ρ) (l.map ρ')
  | [] => trivial
  | x :: r => ⟨hρ x, args_R hρ r⟩
theorem opt_R {ρ : Operand → V} {ρ' : Operand → Value} (hρ : ∀ x, VR w S B m (ρ x) (ρ' x)) (o : Option Operand) : OptR (VR w S B m) (o.map ρ) (o.map ρ') := by
  cases o with
  | none => trivial
  | some x => exact hρ x
end
end Go.Proofs.Ytcamcfplcoklkaa.Iv
