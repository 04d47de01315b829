import Derived.Test.YtcamcfplcoklkaaI17
namespace Go.Proofs.Ytcamcfplcoklkaa.Iv
open Go
set_option linter.unusedVariables false
set_option linter.unusedSimpArgs false
section
variable {P : Program} {K B : Nat → Prop} {w : World} {S : Nat → Prop} {m : Map} {H : Heap}

/-- what is lent besides: the blocks of these names -/
def Lend (B : Nat → Prop) (m : Map) (d : List Id) : Nat → Prop := fun rb => B rb ∨ ∃ i ∈ d, ∃ im, m i = some im ∧ im.rb = rb

theorem viewC_sound {H1 : Heap} (hF : FrzOf H H1) (h : SR w S K m H1) {c : V} {o : V × List Id} (he : viewC H c = some o) {x : Value} (hx : VR w S B m c x) : CR w S (Lend B m o.2) o.1 x := by
  unfold viewC at he
  split at he
  · rename_i i g o' n sz lim
    split at he
    · rename_i b hb
      split at he
      · rename_i cs hc
        split at he
        · rename_i hq
          cases he
          obtain ⟨f, hf⟩ := hF.live hb
          exact (sl_list (B' := Lend B m [i]) (m' := m) (b := { b with frz := f }) h hx hf hc hq.1 hq.2 (fun _ s => s) (fun im hm => .inr ⟨rfl, .inr ⟨i, by simp, im, hm, rfl⟩⟩)).cr
        · cases he
      · cases he
    · cases he
  · split at he
    · rename_i hp
      cases he
      exact .inl (hx.plain hp)
    · cases he
theorem CR.lend {d d' : List Id} (hd : ∀ i ∈ d, i ∈ d') {c : V} {x : Value} (h : CR w S (Lend B m d) c x) : CR w S (Lend B m d') c x :=
  h.map id (fun rb q => ⟨q.imp id (fun q => q.imp id (fun ⟨i, hi, z⟩ => ⟨i, hd i hi, z⟩)), rfl⟩)
theorem viewL_sound {H1 : Heap} (hF : FrzOf H H1) (h : SR w S K m H1) : ∀ {cs : List V} {o : List V × List Id} (he : viewL H cs = some o) {xs : List Value} (hx : All2 (VR w S B m) cs xs),
    All2 (CR w S (Lend B m o.2)) o.1 xs
  | [], o, he, [], _ => by simp [viewL] at he; subst he; trivial
  | [], _, _, _ :: _, hx => hx.elim
  | _ :: _, _, _, [], hx => hx.elim
  | c :: r, o, he, x :: xs, hx => by
    simp only [viewL] at he
    split at he
    · rename_i c' d hc
      split at he
      · rename_i cs ds hr
        cases he
        exact ⟨(viewC_sound hF h hc hx.1).lend (fun i hi => by simp [hi]), (viewL_sound hF h hr hx.2).imp (fun c x q => q.lend (fun i hi => by simp [hi]))⟩
      · cases he
    · cases he
theorem view1_sound {H1 : Heap} (hF : FrzOf H H1) (h : SR w S K m H1) {v : V} {o : Out} (he : view1 H v = some o) {x : Value} (hx : VR w S B m v x) :
    o.ups = [] ∧ VR w S (Lend B m o.rd) m o.v x := by
  unfold view1 at he
  split at he
  · rename_i i g o'
    split at he
    · rename_i b hb
      split at he
      · rename_i cs d hv
        cases he
        refine ⟨rfl, ?_⟩
        obtain ⟨f, hf⟩ := hF.live hb
        obtain ⟨im, hm, ok, rfl, hi, _⟩ := VR.ptr_live h hx hf
        obtain ⟨xs, r2, hq⟩ := All2.choose (R := fun c x => VR w S B m c x) (cs := b.cells.drop o') (Q := fun j x => w.cell? ⟨im.rb, im.dl + o' + j, none⟩ = some x) (fun j c hj => by
          rw [List.getElem?_drop] at hj
          obtain ⟨x, e1, _, e2, _⟩ := ok.cel (o' + j) c hj
          exact ⟨x, by rw [Nat.add_assoc]; exact e1, e2.lend⟩)
        have R := viewL_sound hF h hv r2
        refine .lfptr cs im.rb (im.dl + o') (fun j => xs.getD j undef) (.inr (.inr ⟨i, by simp, im, hm, rfl⟩)) (fun j hj => ?_) (fun j c hj => ?_)
        · have hjx : j < xs.length := by rw [R.len]; exact hj
          rw [hq j _ (List.getElem?_eq_getElem hjx)]
          simp [List.getD, List.getElem?_eq_getElem hjx]
        · obtain ⟨x, e1, e2⟩ := R.get hj
          have : xs.getD j undef = x := by simp [List.getD, e1]
          rw [this]
          exact e2.lend (fun i hi => by simp [hi])
      · cases he
    · cases he
  · cases he
    obtain ⟨rb, o', vals, rfl, h1, h2, h3⟩ := hx.fptr_inv
    refine ⟨rfl, .lfptr _ rb o' vals (h1.imp id (fun q => .inl q.2)) h2 (fun j c hj => ?_)⟩
    rename_i l
    cases l with
    | false => exact .inl (h3 j c hj)
    | true => exact (show CR w S B c (vals j) from h3 j c hj).map id (fun rb q => ⟨q.imp id .inl, rfl⟩)
  · cases he
    exact ⟨rfl, hx.monoB (fun _ b => .inl b)⟩
  · cases he

theorem argIn_sound0 {H1 : Heap} (hF : FrzOf H H1) (h : SR w S K m H1) {md : Mode} (hn : md ≠ .lentN) {v : V} {o : Out} (he : argIn H md v = some o) {x : Value} (hx : VR w S B m v x) :
    ∃ S', Step K w S m w S' m ∧ SR w S' K m (H1.sets o.ups) ∧ FrzOf H (H1.sets o.ups) ∧ VR w S' (Lend B m o.rd) m o.v x := by
  have keepCase : keepV H v = some o → ∃ S', Step K w S m w S' m ∧ SR w S' K m (H1.sets o.ups) ∧ FrzOf H (H1.sets o.ups) ∧ VR w S' (Lend B m o.rd) m o.v x := fun he => by
    obtain ⟨S', st, sr, hF', hv⟩ := keepV_sound hF h he hx
    exact ⟨S', st, sr, hF', hv.lend⟩
  cases md with
  | keep => exact keepCase he
  | lentN => exact absurd rfl hn
  | byref => simp only [argIn, pureO, Option.some.injEq] at he; subst he; exact ⟨S, Step.refl .., h, hF, hx.monoB (fun _ b => .inl b)⟩
  | view =>
    simp only [argIn] at he
    obtain ⟨e, hv⟩ := view1_sound hF h he hx
    rw [e]
    exact ⟨S, Step.refl .., h, hF, hv⟩
  | lent =>
    simp only [argIn] at he
    unfold lent1 at he
    split at he
    · rename_i i g o' n sz lim
      split at he
      · rename_i b hb
        split at he
        · rename_i cs hc
          split at he
          · rename_i hq
            cases he
            obtain ⟨f, hf⟩ := hF.live hb
            refine ⟨S, Step.refl .., h, hF, ?_⟩
            exact sl_list (b := { b with frz := f }) h hx hf hc hq.1 hq.2 (fun _ s => s) (fun im hm => .inr ⟨rfl, .inr ⟨i, by simp, im, hm, rfl⟩⟩)
          · cases he
        · cases he
      · cases he
    · rename_i xs l
      cases he
      obtain ⟨sz, cap, a, vals, rfl, h1, h2, h3, h4⟩ := hx.list_inv
      exact ⟨S, Step.refl .., h, hF, VR.list_mk sz cap a vals h1 h2 (fun hne => let ⟨rb, o, e, hs, hc⟩ := h3 hne; ⟨rb, o, e, hs.imp id (fun q => ⟨rfl, .inl q.2⟩), hc⟩) h4⟩
    · cases he
      have := hx.nils_inv; subst this
      exact ⟨S, Step.refl .., h, hF, VR.list_mk (xs := []) 0 0 none (fun _ => undef) (Nat.le_refl _) (fun x hx => by cases hx) (fun hne => absurd rfl hne) (fun j c hj => by simp at hj)⟩
    · cases he
      obtain ⟨a, rfl⟩ := hx.emp_inv
      exact ⟨S, Step.refl .., h, hF, VR.list_mk (xs := []) 0 0 a (fun _ => undef) (Nat.le_refl _) (fun x hx => by cases hx) (fun hne => absurd rfl hne) (fun j c hj => by simp at hj)⟩
    · exact keepCase he

theorem argIn_sound {H1 : Heap} (hF : FrzOf H H1) (h : SR w S K m H1) {md : Mode} {v : V} {o : Out} (he : argIn H md v = some o) {x : Value} (hx : VR w S B m v x) :
    ∃ S', Step K w S m w S' m ∧ SR w S' K m (H1.sets o.ups) ∧ FrzOf H (H1.sets o.ups) ∧ VR w S' (Lend B m o.rd) m o.v x := by
  by_cases hn : md = .lentN
  · subst hn
    simp only [argIn] at he
    split at he
    · simp only [pureO, Option.some.injEq] at he; subst he; exact ⟨S, Step.refl .., h, hF, hx.monoB (fun _ b => .inl b)⟩
    · simp only [pureO, Option.some.injEq] at he; subst he; exact ⟨S, Step.refl .., h, hF, hx.monoB (fun _ b => .inl b)⟩
    · exact argIn_sound0 hF h (md := .lent) (by simp) (by simpa [argIn] using he) hx
  · exact argIn_sound0 hF h hn he hx
theorem Lend.app_l {d1 d2 : List Id} {rb : Nat} (h : Lend B m d1 rb) : Lend B m (d1 ++ d2) rb := h.imp id (fun ⟨i, hi, q⟩ => ⟨i, by simp [hi], q⟩)
theorem Lend.app_r {d1 d2 : List Id} {rb : Nat} (h : Lend B m d2 rb) : Lend B m (d1 ++ d2) rb := h.imp id (fun ⟨i, hi, q⟩ => ⟨i, by simp [hi], q⟩)

theorem argsIn_sound : ∀ {ms : List Mode} {vs : List V} {S : Nat → Prop} {H1 : Heap} (hF : FrzOf H H1) (h : SR w S K m H1) {o : List V × List (Id × Blk) × List Id} (he : argsIn H ms vs = some o) {xs : List Value}
    (hx : All2 (VR w S B m) vs xs), ∃ S', Step K w S m w S' m ∧ SR w S' K m (H1.sets o.2.1) ∧ FrzOf H (H1.sets o.2.1) ∧ All2 (VR w S' (Lend B m o.2.2) m) o.1 xs
  | ms, [], S, H1, hF, h, o, he, [], _ => by
    have : o = ([], [], []) := by cases ms <;> simpa [argsIn] using he.symm
    subst this; exact ⟨S, Step.refl .., h, hF, trivial⟩
  | _, [], _, _, _, _, _, _, _ :: _, hx => hx.elim
  | _, _ :: _, _, _, _, _, _, _, [], hx => hx.elim
  | ms, v :: r, S, H1, hF, h, o, he, x :: xs, hx => by
    simp only [argsIn] at he
    split at he
    · rename_i v' u d hv
      split at he
      · rename_i vs us ds hr
        cases he
        obtain ⟨S1, st1, sr1, hF1, hv1⟩ := argIn_sound hF h hv hx.1
        obtain ⟨S2, st2, sr2, hF2, hv2⟩ := argsIn_sound hF1 sr1 hr (hx.2.imp (fun c x r => r.monoS st1))
        refine ⟨S2, st1.trans st2, by rw [sets_app]; exact sr2, by rw [sets_app]; exact hF2, ⟨(hv1.monoS st2).monoB (fun _ => Lend.app_l), hv2.imp (fun c x r => r.monoB (fun _ => Lend.app_r))⟩⟩
      · cases he
    · cases he

theorem keepTup_sound : ∀ {cs : List V} {S : Nat → Prop} {H1 : Heap} (hF : FrzOf H H1) (h : SR w S K m H1) {o : List V × List (Id × Blk) × List Id} (he : keepTup H cs = some o) {xs : List Value}
    (hx : All2 (VR w S B m) cs xs), ∃ S', Step K w S m w S' m ∧ SR w S' K m (H1.sets o.2.1) ∧ FrzOf H (H1.sets o.2.1) ∧ All2 (VR w S' no m) o.1 xs
  | [], S, H1, hF, h, o, he, [], _ => by simp [keepTup] at he; subst he; exact ⟨S, Step.refl .., h, hF, trivial⟩
  | [], _, _, _, _, _, _, _ :: _, hx => hx.elim
  | _ :: _, _, _, _, _, _, _, [], hx => hx.elim
  | v :: r, S, H1, hF, h, o, he, x :: xs, hx => by
    simp only [keepTup] at he
    split at he
    · rename_i v' u d hv
      split at he
      · rename_i vs us ds hr
        cases he
        obtain ⟨S1, st1, sr1, hF1, hv1⟩ := keepV_sound hF h hv hx.1
        obtain ⟨S2, st2, sr2, hF2, hv2⟩ := keepTup_sound hF1 sr1 hr (hx.2.imp (fun c x r => r.monoS st1))
        exact ⟨S2, st1.trans st2, by rw [sets_app]; exact sr2, by rw [sets_app]; exact hF2, ⟨hv1.monoS st2, hv2⟩⟩
      · cases he
    · cases he

theorem retIn_sound {own : Bool} (h : SR w S K m H) {r : V} {o : V × List (Id × Blk)} (he : retIn own H r = some o) {x : Value} (hx : VR w S B m r x) :
    ∃ S', Step K w S m w S' m ∧ SR w S' K m (H.sets o.2) ∧ VR w S' B m o.1 x := by
  cases own with
  | true => simp only [retIn, Option.some.injEq] at he; subst he; exact ⟨S, Step.refl .., h, hx⟩
  | false =>
    simp only [retIn] at he
    split at he
    · rename_i vs
      split at he
      · rename_i vs' us ds hk
        cases he
        obtain ⟨xs, rfl, h2⟩ := hx.tup_inv
        obtain ⟨S', st, sr, _, h3⟩ := keepTup_sound (FrzOf.refl H) h hk h2
        exact ⟨S', st, sr, VR.tup_mk (h3.imp (fun c x r => r.lend))⟩
      · cases he
    · split at he
      · rename_i r' us ds hk
        cases he
        obtain ⟨S', st, sr, _, h3⟩ := keepV_sound (FrzOf.refl H) h hk hx
        exact ⟨S', st, sr, h3.lend⟩
      · cases he

theorem keptR_no {v : V} {x : Value} (hk : v.keptR = true) (h : VR w S B m v x) : VR w S no m v x := by
  by_cases ha : ∃ cs, v = .agg cs
  · obtain ⟨cs, rfl⟩ := ha
    obtain ⟨xs, rfl, h2⟩ := h.agg_inv
    exact VR.agg_mk (h2.imp' (fun c x hc r => r.kept (List.all_eq_true.1 hk c hc)))
  · have : v.keptR = v.kept := by cases v <;> first | rfl | exact (ha ⟨_, rfl⟩).elim
    exact h.kept (by rw [← this]; exact hk)
theorem outKept_no {v : V} {x : Value} (hk : outKept v = true) (h : VR w S B m v x) : VR w S no m v x := by
  by_cases ha : ∃ cs, v = .tup cs
  · obtain ⟨cs, rfl⟩ := ha
    obtain ⟨xs, rfl, h2⟩ := h.tup_inv
    exact VR.tup_mk (h2.imp' (fun c x hc r => keptR_no (List.all_eq_true.1 hk c hc) r))
  · have : outKept v = v.keptR := by cases v <;> first | rfl | exact (ha ⟨_, rfl⟩).elim
    exact keptR_no (by rw [← this]; exact hk) h
end

/-- A function value can be entered. -/
def Enters (P : Program) (f : Nat) : Prop := ∃ fn, P.funcs[f]? = some fn ∧ fn.body.isSome = true ∧ (fn.name == "runtime.NumGoroutine") = false
/-- What 'call' says of a Go function is so. -/
structure RunOK (P : Program) (call : Nat → List V → Heap → Option (V × Heap)) : Prop where
  good : ∀ f args H r, call f args H = some r → Enters P f
  ok : ∀ f args H r H', call f args H = some (r, H') → ∀ (w : World) (S K B : Nat → Prop) (m : Map) (vs : List Value), SR w S K m H → (∀ rb, B rb → K rb) → All2 (VR w S B m) args vs →
    Calls P f vs.toArray w fun e w' => ∃ x S' m', e = .returned x ∧ Step K w S m w' S' m' ∧ SR w' S' K m' H' ∧ VR w' S' B m' r x
end Go.Proofs.Ytcamcfplcoklkaa.Iv
