import Derived.Test.YtcamcfplcoklkaaM1
namespace Go.Proofs.Ytcamcfplcoklkaa.Iv
open Go

abbrev Map := Id → Option Im
def Map.put (m : Map) (i : Id) (im : Im) : Map := fun j => if j = i then some im else m j
theorem Map.put_same (m : Map) (i : Id) (im : Im) : m.put i im i = some im := by simp [Map.put]
theorem Map.put_ne (m : Map) {i j : Id} (im : Im) (h : j ≠ i) : m.put i im j = m j := by simp [Map.put, h]
theorem Heap.set_same (H : Heap) (i : Id) (b : Blk) : H.set i b i = some b := by simp [Heap.set]
theorem Heap.set_ne (H : Heap) {i j : Id} (b : Blk) (h : j ≠ i) : H.set i b j = H j := by simp [Heap.set, h]

theorem BlkOK.mono0 {w : World} {S : Nat → Prop} {m : Id → Option Im} {w' : World} {S' : Nat → Prop} {m' : Id → Option Im} {b im} (h : BlkOK w S m b im) (hp : ∀ rb, S rb → w'.heap[rb]? = w.heap[rb]?) (hsub : ∀ rb, S rb → S' rb)
    (hext : ∀ i im, m i = some im → ∃ im', m' i = some im' ∧ im.gen ≤ im'.gen ∧ (im'.gen = im.gen → im' = im)) (hh : w'.heap[im.rb]? = w.heap[im.rb]?)
    (ht : b.frz = false → ¬ S' im.rb) : BlkOK w' S' m' b im := by
  obtain ⟨arr, ty, hr, hs⟩ := h.row
  refine ⟨h.gen, h.n, ⟨arr, ty, by rw [hh]; exact hr, hs⟩, h.fit, fun j c hj => ?_, fun hf => hsub _ (h.frz hf), ht⟩
  obtain ⟨x, h1, h2, h3, h4⟩ := h.cel j c hj
  exact ⟨x, by rw [cell_of_block hh]; exact h1, h2, h3.mono0 (fun rb q => hp rb (q.resolve_right (fun f => f.elim))) hsub hext, fun hf => (h4 hf).mono hp hsub⟩

theorem BlkOK.mono {K w S m w' S' m' b im} (h : BlkOK w S m b im) (st : Step K w S m w' S' m') (hh : w'.heap[im.rb]? = w.heap[im.rb]?)
    (ht : b.frz = false → ¬ S' im.rb) : BlkOK w' S' m' b im := h.mono0 (fun rb q => st.pres rb (.inl q)) st.sub st.ext hh ht

theorem BlkOK.lt {w S m b im} (h : BlkOK w S m b im) : im.rb < w.heap.size := by
  obtain ⟨arr, ty, hr, hs⟩ := h.row
  rcases Nat.lt_or_ge im.rb w.heap.size with h' | h'
  · exact h'
  · simp [Array.getElem?_eq_none h'] at hr

theorem SR.get {w S K m H i b} (h : SR w S K m H) (hi : H i = some b) : ∃ im, m i = some im ∧ BlkOK w S m b im := h.blk i b hi
theorem SR.of_map {w S K m H i im} (h : SR w S K m H) (hm : m i = some im) : ∃ b, H i = some b ∧ BlkOK w S m b im := by
  cases hb : H i with
  | none => rw [h.non i hb] at hm; cases hm
  | some b => obtain ⟨im', hm', ok⟩ := h.blk i b hb; rw [hm] at hm'; cases hm'; exact ⟨b, rfl, ok⟩

theorem nextGen_lt {w S K m H i im} (h : SR w S K m H) (hm : m i = some im) : im.gen < nextGen H i := by
  obtain ⟨b, hb, ok⟩ := h.of_map hm
  simp [nextGen, hb, ok.gen]

theorem alloc_row (w : World) (o : Obj) : (w.alloc o).heap[w.heap.size]? = some o := heap_alloc_new w o
theorem alloc_old (w : World) (o : Obj) {k : Nat} (h : k < w.heap.size) : (w.alloc o).heap[k]? = w.heap[k]? := Go.RowKit.Below.heap_alloc w o k h

theorem SR.alloc {w S K m H} (h : SR w S K m H) (i : Id) (cells : List V) (flat : Bool) (arr : Array Value) (ty : TypeId) (hl : cells.length ≤ arr.size)
    (hc : ∀ (j : Nat) (c : V), cells[j]? = some c → ∃ x, arr[j]? = some x ∧ x.oneCell' = true ∧ VR w S no m c x ∧ (flat = true → FR w S c x)) :
    Step K w S m (w.alloc (.cells arr ty)) S (Map.put m i ⟨nextGen H i, w.heap.size, 0, cells.length, arr.size⟩) ∧
    SR (w.alloc (.cells arr ty)) S K (Map.put m i ⟨nextGen H i, w.heap.size, 0, cells.length, arr.size⟩) (H.set i ⟨nextGen H i, cells, false, flat⟩) := by
  have st : Step K w S m (w.alloc (.cells arr ty)) S (Map.put m i ⟨nextGen H i, w.heap.size, 0, cells.length, arr.size⟩) := by
    refine ⟨rfl, rfl, rfl, by simp, fun _ x => x, fun _ x => .inl x, fun rb hb => alloc_old _ _ (hb.elim (h.sub rb) (h.kin rb)), fun j im hm => ?_, KeepsOthers.alloc _ _⟩
    by_cases e : j = i
    · subst e
      refine ⟨_, Map.put_same .., ?_, fun e => ?_⟩
      · exact Nat.le_of_lt (nextGen_lt h hm)
      · have := nextGen_lt h hm; simp only at e; omega
    · exact ⟨im, by rw [Map.put_ne _ _ e]; exact hm, Nat.le_refl _, fun _ => rfl⟩
  refine ⟨st, ⟨fun rb hb => Nat.lt_of_lt_of_le (h.sub rb hb) st.size, fun rb hb => Nat.lt_of_lt_of_le (h.kin rb hb) st.size, fun j b hj => ?_, fun j hj => ?_, fun j k bj jm km hj hf hjm hkm hne => ?_, fun j b im hj hf hm => ?_, fun rb hb => by rw [st.pres rb (.inl hb)]; exact h.scel rb hb⟩⟩
  · by_cases e : j = i
    · subst e
      rw [Heap.set_same] at hj; cases hj
      refine ⟨_, Map.put_same .., ⟨rfl, rfl, ⟨arr, ty, alloc_row _ _, rfl⟩, by simpa using hl, fun q c hq => ?_, (fun hf => by cases hf), fun _ hs => ?_⟩⟩
      · obtain ⟨x, h1, h2, h3, h4⟩ := hc q c hq
        refine ⟨x, ?_, h2, h3.mono st (fun _ f => f.elim), fun hf => (h4 hf).mono (fun rb hb => st.pres rb (.inl hb)) st.sub⟩
        rw [cell_of_row _ _ _ _ _ _ (alloc_row _ _)]
        simpa using h1
      · exact absurd (h.sub _ hs) (by simp)
    · rw [Heap.set_ne _ _ e] at hj
      obtain ⟨im, hm, ok⟩ := h.blk j b hj
      exact ⟨im, by rw [Map.put_ne _ _ e]; exact hm, ok.mono st (alloc_old _ _ ok.lt) ok.thaw⟩
  · by_cases e : j = i
    · subst e; rw [Heap.set_same] at hj; cases hj
    · rw [Heap.set_ne _ _ e] at hj; rw [Map.put_ne _ _ e]; exact h.non j hj
  · by_cases e : j = i
    · subst e
      rw [Map.put_same] at hjm; cases hjm
      rw [Map.put_ne _ _ (Ne.symm hne)] at hkm
      obtain ⟨b, _, ok⟩ := h.of_map hkm
      have := ok.lt
      simp only; omega
    · rw [Heap.set_ne _ _ e] at hj
      rw [Map.put_ne _ _ e] at hjm
      by_cases e' : k = i
      · subst e'
        rw [Map.put_same] at hkm; cases hkm
        obtain ⟨b, _, ok⟩ := h.of_map hjm
        have := ok.lt
        simp only; omega
      · rw [Map.put_ne _ _ e'] at hkm
        exact h.inj j k bj jm km hj hf hjm hkm hne
  · by_cases e : j = i
    · subst e
      rw [Map.put_same] at hm; cases hm
      exact fun hk => absurd (h.kin _ hk) (by simp)
    · rw [Heap.set_ne _ _ e] at hj
      rw [Map.put_ne _ _ e] at hm
      exact h.own j b im hj hf hm

theorem setRow_row {w : World} {g : Nat} {arr cs : Array Value} {ty : TypeId} (h : w.heap[g]? = some (.cells arr ty (0, 0))) :
    (w.setRow g cs).heap[g]? = some (.cells cs ty (0, 0)) := by
  simp [World.setRow, Array.getElem?_modify, h]
theorem setRow_other {w : World} {g k : Nat} {cs : Array Value} (h : k ≠ g) : (w.setRow g cs).heap[k]? = w.heap[k]? := by
  simp [World.setRow, Array.getElem?_modify, Ne.symm h]

theorem keeps_setRow {w : World} {g : Nat} {arr arr' : Array Value} {ty : TypeId} {fr : Nat × Nat} (h : w.heap[g]? = some (.cells arr ty fr)) : KeepsOthers w (w.setRow g arr') :=
  ⟨by simp, fun k o hk ho => by
    by_cases e : k = g
    · subst e; rw [h] at hk; cases hk; cases ho
    · rw [setRow_other e]; exact hk⟩

theorem SR.write {w S K m H i b im} (h : SR w S K m H) (hi : H i = some b) (hfr : b.frz = false) (hm : m i = some im)
    {arr : Array Value} {ty : TypeId} (hrow : w.heap[im.rb]? = some (.cells arr ty (0, 0))) (arr' : Array Value) (hsz : arr'.size = im.tot)
    (im' : Im) (hrb : im'.rb = im.rb) (htot : im'.tot = im.tot) (hge : im.gen ≤ im'.gen) (heq : im'.gen = im.gen → im' = im)
    (cells : List V) (flat : Bool) (hn : im'.n = cells.length) (hfit : im'.dl + im'.n ≤ im'.tot)
    (hc : ∀ (j : Nat) (c : V), cells[j]? = some c → ∃ x, arr'[im'.dl + j]? = some x ∧ x.oneCell' = true ∧ VR w S no m c x ∧ (flat = true → FR w S c x)) :
    Step K w S m (w.setRow im.rb arr') S (Map.put m i im') ∧ SR (w.setRow im.rb arr') S K (Map.put m i im') (H.set i ⟨im'.gen, cells, false, flat⟩) := by
  obtain ⟨im0, hm0, ok⟩ := h.blk i b hi
  rw [hm] at hm0; cases hm0
  have st : Step K w S m (w.setRow im.rb arr') S (Map.put m i im') := by
    refine ⟨rfl, rfl, rfl, by simp, fun _ x => x, fun _ x => .inl x, fun rb hb => setRow_other (fun e => ?_), fun j jm hj => ?_, keeps_setRow hrow⟩
    · subst e
      exact hb.elim (ok.thaw hfr) (h.own i b im hi hfr hm)
    · by_cases e : j = i
      · subst e
        rw [hm] at hj; cases hj
        exact ⟨im', Map.put_same .., hge, heq⟩
      · exact ⟨jm, by rw [Map.put_ne _ _ e]; exact hj, Nat.le_refl _, fun _ => rfl⟩
  refine ⟨st, ⟨fun rb hb => Nat.lt_of_lt_of_le (h.sub rb hb) st.size, fun rb hb => Nat.lt_of_lt_of_le (h.kin rb hb) st.size, fun j bj hj => ?_, fun j hj => ?_, fun j k bj jm km hj hf hjm hkm hne => ?_, fun j bj jm hj hf hjm => ?_, fun rb hb => by rw [st.pres rb (.inl hb)]; exact h.scel rb hb⟩⟩
  · by_cases e : j = i
    · subst e
      rw [Heap.set_same] at hj; cases hj
      refine ⟨im', Map.put_same .., ⟨rfl, hn, ⟨arr', ty, by rw [hrb]; exact setRow_row hrow, by rw [hsz, htot]⟩, hfit, fun q c hq => ?_, (fun hf => by cases hf), fun _ hs => ?_⟩⟩
      · obtain ⟨x, h1, h2, h3, h4⟩ := hc q c hq
        refine ⟨x, ?_, h2, h3.mono st (fun _ f => f.elim), fun hf => (h4 hf).mono (fun rb hb => st.pres rb (.inl hb)) st.sub⟩
        rw [hrb, cell_of_row _ _ _ _ _ _ (setRow_row hrow)]
        exact h1
      · rw [hrb] at hs; exact ok.thaw hfr hs
    · rw [Heap.set_ne _ _ e] at hj
      obtain ⟨jm, hjm, okj⟩ := h.blk j bj hj
      refine ⟨jm, by rw [Map.put_ne _ _ e]; exact hjm, okj.mono st (setRow_other (Ne.symm ?_)) okj.thaw⟩
      exact h.inj i j b im jm hi hfr hm hjm (Ne.symm e)
  · by_cases e : j = i
    · subst e; rw [Heap.set_same] at hj; cases hj
    · rw [Heap.set_ne _ _ e] at hj; rw [Map.put_ne _ _ e]; exact h.non j hj
  · by_cases e : j = i
    · subst e
      rw [Map.put_same] at hjm; cases hjm
      rw [Map.put_ne _ _ (Ne.symm hne)] at hkm
      rw [hrb]
      exact h.inj j k b im km hi hfr hm hkm hne
    · rw [Heap.set_ne _ _ e] at hj
      rw [Map.put_ne _ _ e] at hjm
      by_cases e' : k = i
      · subst e'
        rw [Map.put_same] at hkm; cases hkm
        rw [hrb]
        exact h.inj j k bj jm im hj hf hjm hm hne
      · rw [Map.put_ne _ _ e'] at hkm
        exact h.inj j k bj jm km hj hf hjm hkm hne
  · by_cases e : j = i
    · subst e
      rw [Map.put_same] at hjm; cases hjm
      rw [hrb]
      exact h.own j b im hi hfr hm
    · rw [Heap.set_ne _ _ e] at hj
      rw [Map.put_ne _ _ e] at hjm
      exact h.own j bj jm hj hf hjm

/-- freezing a block -/
theorem SR.freeze {w S K m H i b im} (h : SR w S K m H) (hi : H i = some b) (hm : m i = some im) :
    ∃ S' : Nat → Prop, S' im.rb ∧ Step K w S m w S' m ∧ SR w S' K m (H.set i { b with frz := true }) := by
  obtain ⟨im0, hm0, ok⟩ := h.blk i b hi
  rw [hm] at hm0; cases hm0
  have st : Step K w S m w (fun r => S r ∨ r = im.rb) m := ⟨rfl, rfl, rfl, Nat.le_refl _, fun _ x => .inl x, fun rb x => x.elim .inl (fun e => by
    subst e
    cases hf : b.frz with
    | true => exact .inl (ok.frz hf)
    | false => exact .inr (h.own i b im hi hf hm)), fun _ _ => rfl, fun _ im h => ⟨im, h, Nat.le_refl _, fun _ => rfl⟩, KeepsOthers.refl _⟩
  refine ⟨fun r => S r ∨ r = im.rb, .inr rfl, st, ⟨fun rb hb => hb.elim (h.sub rb) (fun e => e ▸ ok.lt), h.kin, fun j bj hj => ?_, fun j hj => ?_, fun j k bj jm km hj hf hjm hkm hne => ?_, fun j bj jm hj hf hjm => ?_, fun rb hb => hb.elim (h.scel rb) (fun e => by subst e; obtain ⟨arr, ty, hr, _⟩ := ok.row; exact ⟨_, hr, rfl⟩)⟩⟩
  · by_cases e : j = i
    · subst e
      rw [Heap.set_same] at hj; cases hj
      refine ⟨im, hm, ?_⟩
      refine ⟨ok.gen, ok.n, ok.row, ok.fit, fun q c hq => ?_, fun _ => .inr rfl, (fun hf => by cases hf)⟩
      obtain ⟨x, h1, h2, h3, h4⟩ := ok.cel q c hq
      exact ⟨x, h1, h2, h3.mono st (fun _ f => f.elim), fun hf => (h4 hf).mono (fun _ _ => rfl) st.sub⟩
    · rw [Heap.set_ne _ _ e] at hj
      obtain ⟨jm, hjm, okj⟩ := h.blk j bj hj
      refine ⟨jm, hjm, okj.mono st rfl (fun hf hs => hs.elim (okj.thaw hf) (fun e' => ?_))⟩
      exact h.inj j i bj jm im hj hf hjm hm e e'
  · by_cases e : j = i
    · subst e; rw [Heap.set_same] at hj; cases hj
    · rw [Heap.set_ne _ _ e] at hj; exact h.non j hj
  · by_cases e : j = i
    · subst e; rw [Heap.set_same] at hj; cases hj; cases hf
    · rw [Heap.set_ne _ _ e] at hj
      exact h.inj j k bj jm km hj hf hjm hkm hne
  · by_cases e : j = i
    · subst e; rw [Heap.set_same] at hj; cases hj; cases hf
    · rw [Heap.set_ne _ _ e] at hj
      exact h.own j bj jm hj hf hjm

theorem SR.drew {w S K m H} (h : SR w S K m H) : SR w.drew S K m H :=
  ⟨h.sub, h.kin, fun i b hi => let ⟨im, hm, ok⟩ := h.blk i b hi; ⟨im, hm, ok.mono (Step.drew K w S m) rfl ok.thaw⟩, h.non, h.inj, h.own, h.scel⟩
end Go.Proofs.Ytcamcfplcoklkaa.Iv

namespace Go.Proofs.Ytcamcfplcoklkaa.Iv
open Go

/-! ### two rows, cell by cell -/
def All2 (R : V → Value → Prop) : List V → List Value → Prop
  | [], [] => True
  | c :: cs, x :: xs => R c x ∧ All2 R cs xs
  | _, _ => False
namespace All2
variable {R R' : V → Value → Prop}
theorem len : ∀ {cs : List V} {xs : List Value}, All2 R cs xs → xs.length = cs.length
  | [], [], _ => rfl
  | _ :: _, _ :: _, h => by simp [len h.2]
  | [], _ :: _, h => h.elim
  | _ :: _, [], h => h.elim
theorem imp (hi : ∀ c x, R c x → R' c x) : ∀ {cs : List V} {xs : List Value}, All2 R cs xs → All2 R' cs xs
  | [], [], _ => trivial
  | _ :: _, _ :: _, h => ⟨hi _ _ h.1, imp hi h.2⟩
  | [], _ :: _, h => h.elim
  | _ :: _, [], h => h.elim
theorem imp' {cs : List V} (hi : ∀ c x, c ∈ cs → R c x → R' c x) {xs : List Value} (h : All2 R cs xs) : All2 R' cs xs := by
  induction cs generalizing xs with
  | nil => cases xs with | nil => trivial | cons => exact h.elim
  | cons c cs ih => cases xs with
    | nil => exact h.elim
    | cons x xs => exact ⟨hi _ _ (by simp) h.1, ih (fun c x hc => hi c x (by simp [hc])) h.2⟩
theorem get : ∀ {cs : List V} {xs : List Value}, All2 R cs xs → ∀ {j : Nat} {c : V}, cs[j]? = some c → ∃ x, xs[j]? = some x ∧ R c x
  | [], [], _, _, _, h => by simp at h
  | _ :: _, _ :: _, h, 0, _, e => by simp at e; subst e; exact ⟨_, rfl, h.1⟩
  | _ :: _, _ :: _, h, j + 1, _, e => by simp at e; simpa using get h.2 e
  | [], _ :: _, h, _, _, _ => h.elim
  | _ :: _, [], h, _, _, _ => h.elim
theorem of : ∀ {cs : List V} {xs : List Value}, xs.length = cs.length → (∀ (j : Nat) (c : V) (x : Value), cs[j]? = some c → xs[j]? = some x → R c x) → All2 R cs xs
  | [], [], _, _ => trivial
  | c :: cs, x :: xs, h, k => ⟨k 0 c x rfl rfl, of (by simpa using h) (fun j c x h1 h2 => k (j + 1) c x (by simpa using h1) (by simpa using h2))⟩
  | [], _ :: _, h, _ => by simp at h
  | _ :: _, [], h, _ => by simp at h
theorem choose : ∀ {cs : List V} {Q : Nat → Value → Prop}, (∀ (j : Nat) (c : V), cs[j]? = some c → ∃ x, Q j x ∧ R c x) → ∃ xs, All2 R cs xs ∧ ∀ (j : Nat) (x : Value), xs[j]? = some x → Q j x
  | [], Q, _ => ⟨[], trivial, fun j x h => by simp at h⟩
  | c :: cs, Q, h => by
    obtain ⟨x, h1, h2⟩ := h 0 c rfl
    obtain ⟨xs, h3, h4⟩ := choose (cs := cs) (Q := fun j => Q (j + 1)) (fun j c hj => h (j + 1) c (by simpa using hj))
    refine ⟨x :: xs, ⟨h2, h3⟩, fun j y hj => ?_⟩
    cases j with
    | zero => simp at hj; subst hj; exact h1
    | succ j => exact h4 j y (by simpa using hj)
theorem app : ∀ {cs ds : List V} {xs ys : List Value}, All2 R cs xs → All2 R ds ys → All2 R (cs ++ ds) (xs ++ ys)
  | [], _, [], _, _, h => h
  | _ :: _, _, _ :: _, _, h, k => ⟨h.1, app h.2 k⟩
  | [], _, _ :: _, _, h, _ => h.elim
  | _ :: _, _, [], _, h, _ => h.elim
theorem take : ∀ (n : Nat) {cs : List V} {xs : List Value}, All2 R cs xs → All2 R (cs.take n) (xs.take n)
  | 0, _, _, _ => by simp [All2]
  | n + 1, [], [], _ => trivial
  | n + 1, _ :: _, _ :: _, h => ⟨h.1, take n h.2⟩
  | _ + 1, [], _ :: _, h => h.elim
  | _ + 1, _ :: _, [], h => h.elim
theorem drop : ∀ (n : Nat) {cs : List V} {xs : List Value}, All2 R cs xs → All2 R (cs.drop n) (xs.drop n)
  | 0, _, _, h => by simpa using h
  | n + 1, [], [], _ => trivial
  | n + 1, _ :: _, _ :: _, h => by simpa using drop n h.2
  | _ + 1, [], _ :: _, h => h.elim
  | _ + 1, _ :: _, [], h => h.elim
theorem splice {cs ds : List V} {xs ys : List Value} (o : Nat) (h : All2 R cs xs) (k : All2 R ds ys) : All2 R (Iv.splice cs o ds) (xs.take o ++ ys ++ xs.drop (o + ys.length)) := by
  unfold Iv.splice
  rw [k.len]
  exact ((h.take o).app k).app (h.drop _)
end All2

theorem VR.agg_inv {w S B m cs x} (h : VR w S B m (.agg cs) x) : ∃ xs : List Value, x = .agg xs.toArray ∧ All2 (VR w S B m) cs xs := by
  cases h with
  | fr h => cases h
  | agg _ vs hl h => exact ⟨vs.toList, by simp, All2.of (by simpa using hl) (fun j c x h1 h2 => h j c x h1 (by simpa using h2))⟩
theorem VR.agg_mk {w S B m cs} {xs : List Value} (h : All2 (VR w S B m) cs xs) : VR w S B m (.agg cs) (.agg xs.toArray) := by
  refine .agg cs _ (by simpa using h.len) (fun j c x h1 h2 => ?_)
  obtain ⟨y, h3, h4⟩ := h.get h1
  have h2' : xs[j]? = some x := by simpa using h2
  rw [h3] at h2'; cases h2'; exact h4
theorem VR.tup_inv {w S B m cs x} (h : VR w S B m (.tup cs) x) : ∃ xs : List Value, x = .tuple xs.toArray ∧ All2 (VR w S B m) cs xs := by
  cases h with
  | fr h => cases h
  | tup _ vs hl h => exact ⟨vs.toList, by simp, All2.of (by simpa using hl) (fun j c x h1 h2 => h j c x h1 (by simpa using h2))⟩
theorem VR.tup_mk {w S B m cs} {xs : List Value} (h : All2 (VR w S B m) cs xs) : VR w S B m (.tup cs) (.tuple xs.toArray) := by
  refine .tup cs _ (by simpa using h.len) (fun j c x h1 h2 => ?_)
  obtain ⟨y, h3, h4⟩ := h.get h1
  have h2' : xs[j]? = some x := by simpa using h2
  rw [h3] at h2'; cases h2'; exact h4
theorem VR.fn_inv {w S B m f cs x} (h : VR w S B m (.fn f cs) x) : ∃ xs : List Value, x = .func (.func f) #[] xs.toArray ∧ All2 (VR w S B m) cs xs := by
  cases h with
  | fr h => cases h
  | fn _ _ vs hl h => exact ⟨vs.toList, by simp, All2.of (by simpa using hl) (fun j c x h1 h2 => h j c x h1 (by simpa using h2))⟩
theorem VR.fn_mk {w S B m f cs} {xs : List Value} (h : All2 (VR w S B m) cs xs) : VR w S B m (.fn f cs) (.func (.func f) #[] xs.toArray) := by
  refine .fn f cs _ (by simpa using h.len) (fun j c x h1 h2 => ?_)
  obtain ⟨y, h3, h4⟩ := h.get h1
  have h2' : xs[j]? = some x := by simpa using h2
  rw [h3] at h2'; cases h2'; exact h4

/-- a value whose cells may lie in the heap is as many cells in memory -/
theorem VR.cells {w S B m v x} (h : VR w S B m v x) (hk : v.cells.all V.kept = true) : All2 (fun c x => VR w S B m c x ∧ x.oneCell' = true ∧ VR w S no m c x) v.cells x.cells.toList := by
  have one : ∀ {c : V} {y : Value}, VR w S B m c y → c.kept = true → y.oneCell' = true := fun {c y} h hk => by
    cases h with
    | fr h => exact h.one
    | und => simp [V.kept, V.kept0] at hk
    | agg => simp [V.kept, V.kept0] at hk
    | tup => simp [V.kept, V.kept0] at hk
    | _ => rfl
  by_cases ha : ∃ cs, v = .agg cs
  · obtain ⟨cs, rfl⟩ := ha
    obtain ⟨xs, rfl, hx⟩ := h.agg_inv
    have hk' : ∀ c ∈ cs, c.kept = true := by simpa [V.cells] using hk
    simp only [Value.cells, V.cells]
    exact hx.imp' (fun c x hc r => ⟨r, one r (hk' c hc), r.kept (hk' c hc)⟩)
  · have hc : v.cells = [v] := by cases v <;> first | rfl | exact (ha ⟨_, rfl⟩).elim
    rw [hc] at hk ⊢
    have hk' : v.kept = true := by simpa using hk
    have ho := one h hk'
    have hx : x.cells = #[x] := by cases x <;> first | rfl | simp [Value.oneCell'] at ho
    rw [hx]
    exact ⟨⟨h, ho, h.kept hk'⟩, trivial⟩

/-! ### the tables -/
section
variable {P : Program}
theorem szOf_info {t sz : Nat} (h : szOf P t = some sz) : ∃ i, P.info? t = some i ∧ i.size = sz := by
  unfold szOf at h
  cases hi : P.info? t with
  | none => simp [hi] at h
  | some i => exact ⟨i, rfl, by simpa [hi] using h⟩
theorem byOf_info {t n : Nat} (h : byOf P t = some n) : ∃ i, P.info? t = some i ∧ i.bytes = n := by
  unfold byOf at h
  cases hi : P.info? t with
  | none => simp [hi] at h
  | some i => exact ⟨i, rfl, by simpa [hi] using h⟩
theorem run_sizeOf' {t sz : Nat} (h : szOf P t = some sz) (w : World) : (sizeOf t).run P w = .ok sz w := by
  obtain ⟨i, hi, rfl⟩ := szOf_info h
  unfold sizeOf typeInfo
  simp [hi]
theorem run_bytes' {t n : Nat} (h : byOf P t = some n) (w : World) : ∃ i, (typeInfo t).run P w = .ok i w ∧ i.bytes = n := by
  obtain ⟨i, hi, rfl⟩ := byOf_info h
  exact ⟨i, by unfold typeInfo; simp [hi], rfl⟩
theorem run_isAgg' {t : Nat} {ag : Bool} (h : agOf P t = some ag) (w : World) : (isAgg t).run P w = .ok ag w := by
  unfold agOf at h
  cases hu : P.underlying t with
  | none => simp [hu] at h
  | some d =>
    simp only [hu, Option.map_some, Option.some.injEq] at h
    unfold isAgg
    simp only [Sem.run_bind, run_underlying hu, Result.andThen_ok]
    subst h
    cases d <;> rfl
theorem zOf_info {t : Nat} {z : List V} (h : zOf P t = some z) : ∃ i v, P.info? t = some i ∧ i.zero = some v ∧ z = (ofVal v).cells := by
  unfold zOf at h
  cases hi : P.info? t with
  | none => simp [hi] at h
  | some i =>
    cases hz : i.zero with
    | none => simp [hi, hz] at h
    | some v => exact ⟨i, v, rfl, hz, by simpa [hi, hz] using h.symm⟩
theorem run_zero' {t : Nat} {z : List V} (h : zOf P t = some z) (w : World) : ∃ v, (zeroValue t).run P w = .ok v w ∧ z = (ofVal v).cells := by
  obtain ⟨i, v, hi, hz, rfl⟩ := zOf_info h
  exact ⟨v, by unfold zeroValue typeInfo; simp [hi, hz], rfl⟩
end
theorem sc_VR {w S B m} (x : Value) : VR w S B m (sc x) x := by
  unfold sc
  split
  · exact .fr (.int _ _)
  · exact .fr (.bool _)
  · rename_i s
    have := FR.str (w := w) (S := S) s.data.toList
    exact .fr (by simpa using this)
  · exact .fr .nilp
  · exact .fr .nils
  · exact .fr .nilf
  · exact .und _
theorem ofVal_VR {w S B m} (x : Value) : VR w S B m (ofVal x) x := by
  cases x with
  | agg cs =>
    refine .agg _ _ (by simp) (fun j c x h1 h2 => ?_)
    simp only [List.getElem?_map, Array.getElem?_toList, h2, Option.map_some, Option.some.injEq] at h1
    subst h1
    exact sc_VR x
  | _ => simp only [ofVal]; exact sc_VR _
theorem sc_FR {w S} {x : Value} (h : (sc x).plain = true) : FR w S (sc x) x := (sc_VR (w := w) (S := S) (B := no) (m := fun _ => none) x).plain h
theorem sc_agg (x : Value) (cs : List V) : sc x ≠ .agg cs := by unfold sc; split <;> simp
/-- the cells of a nought value -/
theorem zero_cells {w S B m} (x : Value) (hp : (ofVal x).cells.all V.plain = true) : All2 (fun c y => VR w S B m c y ∧ FR w S c y) (ofVal x).cells x.cells.toList := by
  cases x with
  | agg cs =>
    have hp' : ∀ c ∈ cs.toList.map sc, c.plain = true := fun c hc => List.all_eq_true.1 hp c hc
    refine All2.of (by simp [ofVal, V.cells, Value.cells]) (fun j c y h1 h2 => ?_)
    simp only [ofVal, V.cells, List.getElem?_map] at h1
    simp only [Value.cells] at h2
    rw [h2] at h1
    simp only [Option.map_some, Option.some.injEq] at h1
    have hc : c ∈ cs.toList.map sc := by subst h1; exact List.mem_map_of_mem (List.mem_of_getElem? h2)
    subst h1
    exact ⟨.fr (sc_FR (hp' _ hc)), sc_FR (hp' _ hc)⟩
  | _ =>
    have e : ∀ y : Value, (sc y).cells = [sc y] := fun y => by
      cases hh : sc y <;> first | rfl | exact (sc_agg _ _ hh).elim
    simp only [ofVal, e] at hp ⊢
    have hp' := hp
    simp only [List.all_cons, List.all_nil, Bool.and_true] at hp'
    exact ⟨⟨.fr (sc_FR hp'), sc_FR hp'⟩, trivial⟩
end Go.Proofs.Ytcamcfplcoklkaa.Iv

namespace Go.Proofs.Ytcamcfplcoklkaa.Iv
open Go

/-- 's' runs to a value that reads as 'out' says, and the heap becomes as 'out' says. -/
def Sound (P : Program) (K B : Nat → Prop) (w : World) (S : Nat → Prop) (m : Map) (H : Heap) (out : Out) (s : Sem Value) : Prop :=
  ∃ x w' S' m', s.run P w = .ok x w' ∧ Step K w S m w' S' m' ∧ SR w' S' K m' (H.sets out.ups) ∧ VR w' S' B m' out.v x

section
variable {P : Program} {K B : Nat → Prop} {w : World} {S : Nat → Prop} {m : Map} {H : Heap}

theorem Sound.pure {v : V} {rd : List Id} {s : Sem Value} {x : Value} (h : SR w S K m H) (hr : s.run P w = .ok x w) (hv : VR w S B m v x) : Sound P K B w S m H ⟨v, [], rd⟩ s :=
  ⟨x, w, S, m, hr, Step.refl .., h, hv⟩

theorem add_eq (rb o n : Nat) : (⟨rb, o, none⟩ : Addr).add n = ⟨rb, o + n, none⟩ := by unfold Addr.add; split <;> simp_all

theorem live_some {i : Id} {g : Nat} {b : Blk} (h : live H i g = some b) : H i = some b ∧ b.gen = g := by
  unfold live at h
  split at h
  · rename_i b' hb
    split at h
    · rename_i hg; cases h; exact ⟨hb, hg⟩
    · cases h
  · cases h

theorem cut_some {cs : List V} {o n : Nat} {xs : List V} (h : cut cs o n = some xs) : xs = (cs.drop o).take n ∧ xs.length = n := by
  unfold cut at h
  simp only at h
  split at h
  · rename_i hl; cases h; exact ⟨rfl, hl⟩
  · cases h
theorem cut_get {cs : List V} {o n : Nat} {xs : List V} (h : cut cs o n = some xs) {j : Nat} {c : V} (hj : xs[j]? = some c) : cs[o + j]? = some c ∧ j < n := by
  obtain ⟨rfl, hl⟩ := cut_some h
  have hjn : j < n := by rw [← hl]; exact (List.getElem?_eq_some_iff.1 hj).1
  rw [List.getElem?_take_of_lt hjn, List.getElem?_drop] at hj
  exact ⟨hj, hjn⟩
theorem cut_le {cs : List V} {o n : Nat} {xs : List V} (h : cut cs o n = some xs) (hn : 0 < n) : o + n ≤ cs.length := by
  obtain ⟨rfl, hl⟩ := cut_some h
  simp at hl
  omega

/-- the live reference -/
theorem VR.ptr_live {i : Id} {g o : Nat} {x : Value} {b : Blk} (h : SR w S K m H) (hx : VR w S B m (.ptr i g o) x) (hl : live H i g = some b) :
    ∃ im, m i = some im ∧ BlkOK w S m b im ∧ x = .pointer (some ⟨im.rb, im.dl + o, none⟩) ∧ H i = some b ∧ im.gen = g := by
  obtain ⟨hb, hg⟩ := live_some hl
  obtain ⟨im, hm, ok⟩ := h.blk i b hb
  cases hx with
  | fr h => cases h
  | ptr _ _ im' hm' => rw [hm] at hm'; cases hm'; exact ⟨im, hm, ok, rfl, hb, rfl⟩
  | ptrD _ _ _ im' _ hm' hlt => rw [hm] at hm'; cases hm'; have := ok.gen; omega
theorem VR.sl_live {i : Id} {g o n sz : Nat} {lim : Option Nat} {x : Value} {b : Blk} (h : SR w S K m H) (hx : VR w S B m (.sl i g o n sz lim) x) (hl : live H i g = some b) :
    ∃ im a cap, m i = some im ∧ BlkOK w S m b im ∧ x = .slice (some a) n cap ∧ H i = some b ∧ im.gen = g ∧ (0 < cap → a = ⟨im.rb, im.dl + o, none⟩) ∧ n ≤ cap ∧ o + n * sz ≤ im.n ∧
      im.dl + o + cap * sz ≤ im.tot ∧ (lim = none → im.n ≤ o + cap * sz) ∧ (∀ c, lim = some c → cap = c) := by
  obtain ⟨hb, hg⟩ := live_some hl
  obtain ⟨im, hm, ok⟩ := h.blk i b hb
  cases hx with
  | fr h => cases h
  | sl _ _ _ _ _ im' a cap hm' ha h1 h2 h3 h4 h5 => rw [hm] at hm'; cases hm'; exact ⟨im, a, cap, hm, ok, rfl, hb, rfl, ha, h1, h2, h3, h4, h5⟩
  | slD _ _ _ _ _ _ im' _ _ hm' hlt => rw [hm] at hm'; cases hm'; have := ok.gen; omega

/-- a row of cells of a block, as values -/
theorem BlkOK.read {b : Blk} {im : Im} (ok : BlkOK w S m b im) {o n : Nat} {cs : List V} (hc : cut b.cells o n = some cs) :
    ∃ xs : List Value, All2 (fun c x => VR w S no m c x ∧ x.oneCell' = true ∧ (b.flat = true → FR w S c x)) cs xs ∧ xs.length = n ∧
      ∀ (j : Nat) (x : Value), xs[j]? = some x → w.cell? ⟨im.rb, im.dl + o + j, none⟩ = some x := by
  obtain ⟨xs, h1, h2⟩ := All2.choose (R := fun c x => VR w S no m c x ∧ x.oneCell' = true ∧ (b.flat = true → FR w S c x)) (cs := cs)
    (Q := fun j x => w.cell? ⟨im.rb, im.dl + o + j, none⟩ = some x) (fun j c hj => by
      obtain ⟨x, q1, q2, q3, q4⟩ := ok.cel (o + j) c (cut_get hc hj).1
      exact ⟨x, by rw [Nat.add_assoc]; exact q1, q3, q2, q4⟩)
  exact ⟨xs, h1, by rw [h1.len, (cut_some hc).2], h2⟩

theorem run_loadVar' {t sz : Nat} {ag : Bool} (hs : szOf P t = some sz) (hg : agOf P t = some ag) {rb o : Nat} {cs : List V} {v : V} {R : V → Value → Prop} {xs : List Value}
    (h2 : All2 R cs xs) (hl : xs.length = sz) (hx : ∀ (j : Nat) (x : Value), xs[j]? = some x → w.cell? ⟨rb, o + j, none⟩ = some x) (hv : mkv ag cs = some v)
    (hR : ∀ c x, R c x → VR w S B m c x) : ∃ x, (loadVar t ⟨rb, o, none⟩).run P w = .ok x w ∧ VR w S B m v x := by
  unfold loadVar
  simp only [Sem.run_bind, run_isAgg' hg, Result.andThen_ok]
  cases ag with
  | true =>
    simp only [if_true, Sem.run_bind, run_sizeOf' hs, Result.andThen_ok]
    simp only [mkv, Option.some.injEq] at hv
    subst hv
    have := run_loadCells_list (P := P) w ⟨rb, o, none⟩ xs (fun j x hj => by rw [add_eq]; exact hx j x hj)
    rw [hl] at this
    rw [this]
    exact ⟨_, rfl, VR.agg_mk (h2.imp hR)⟩
  | false =>
    simp only [Bool.false_eq_true, if_false]
    cases cs with
    | nil => simp [mkv] at hv
    | cons c cs =>
      cases cs with
      | cons => simp [mkv] at hv
      | nil =>
        simp only [mkv, Option.some.injEq] at hv
        subst hv
        cases xs with
        | nil => exact h2.elim
        | cons x xs =>
          have h0 := hx 0 x rfl
          simp only [Nat.add_zero] at h0
          exact ⟨x, by rw [run_load, h0], hR _ _ h2.1⟩

theorem load_val (h : SR w S K m H) {t : Nat} {a : V} {out : Out} (he : evLoad P H t a = some out) {x : Value} (hx : VR w S B m a x) :
    out.ups = [] ∧ ∃ y, (Instr.loadAt t x).run P w = .ok y w ∧ VR w S B m out.v y := by
  unfold evLoad at he
  split at he
  · rename_i sz ag i g o hs hg
    split at he
    · rename_i b hb
      split at he
      · rename_i cs hc
        split at he
        · rename_i v hv
          cases he
          obtain ⟨im, hm, ok, rfl, hi, rfl⟩ := VR.ptr_live h hx hb
          obtain ⟨xs, h2, hl, hq⟩ := ok.read hc
          obtain ⟨y, hr, hy⟩ := run_loadVar' (P := P) (B := B) (m := m) (S := S) hs hg h2 hl hq hv (fun c x r => r.1.lend)
          refine ⟨rfl, y, ?_, hy⟩
          unfold Instr.loadAt Instr.sureAddr
          simpa using hr
        · cases he
      · cases he
    · cases he
  · rename_i sz ag cs lent hs hg
    split at he
    · rename_i cs' hc
      split at he
      · rename_i v hv
        cases he
        have key : ∀ rb o (vals : Nat → Value), x = .pointer (some ⟨rb, o, none⟩) → (∀ j, j < cs.length → w.cell? ⟨rb, o + j, none⟩ = some (vals j)) → (∀ (j : Nat) (c : V), cs[j]? = some c → CR w S B c (vals j)) →
            ∃ y, (Instr.loadAt t x).run P w = .ok y w ∧ VR w S B m v y := by
          intro rb o vals e hc' hv'
          subst e
          obtain ⟨xs, h2, hq⟩ := All2.choose (R := fun c x => CR w S B c x) (cs := cs') (Q := fun j x => w.cell? ⟨rb, o + j, none⟩ = some x) (fun j c hj => by
            have := (cut_get hc hj).1
            rw [Nat.zero_add] at this
            exact ⟨vals j, hc' j (List.getElem?_eq_some_iff.1 this).1, hv' j c this⟩)
          obtain ⟨y, hr, hy⟩ := run_loadVar' (P := P) (B := B) (m := m) (S := S) hs hg h2 (by rw [h2.len, (cut_some hc).2]) hq hv (fun c x r => r.vr)
          refine ⟨y, ?_, hy⟩
          unfold Instr.loadAt Instr.sureAddr
          simpa using hr
        cases hx with
        | fr hf => cases hf with | fptr _ rb o vals hs' hc' hv' => exact ⟨rfl, key rb o vals rfl hc' (fun j c e => .inl (hv' j c e))⟩
        | lfptr _ rb o vals hs' hc' hv' => exact ⟨rfl, key rb o vals rfl hc' hv'⟩
      · cases he
    · cases he
  · cases he
theorem load_sound (h : SR w S K m H) {t : Nat} {a : V} {out : Out} (he : evLoad P H t a = some out) {x : Value} (hx : VR w S B m a x) :
    Sound P K B w S m H out (Instr.loadAt t x) := by
  obtain ⟨e, y, hr, hy⟩ := load_val (P := P) h he hx
  exact ⟨y, w, S, m, hr, Step.refl .., by rw [e]; exact h, hy⟩

theorem row_cell {rb : Nat} {arr : Array Value} {ty : TypeId} (hrow : w.heap[rb]? = some (.cells arr ty (0, 0))) {o : Nat} {x : Value} (h : w.cell? ⟨rb, o, none⟩ = some x) : arr[o]? = some x := by
  rw [cell_of_row _ _ _ _ _ _ hrow] at h; exact h

/-- values written over cells of a block, in place, its length the same -/
theorem write_sound (h : SR w S K m H) {i : Id} {b : Blk} {im : Im} (hi : H i = some b) (hm : m i = some im) (hfr : b.frz = false) (o : Nat) (cs : List V) (ys : List Value)
    (h2 : All2 (fun c x => x.oneCell' = true ∧ VR w S no m c x ∧ (b.flat = true → FR w S c x)) cs ys) (ho : o + cs.length ≤ b.cells.length) :
    ∃ w' m', (storeCells ⟨im.rb, im.dl + o, none⟩ ys).run P w = .ok () w' ∧ Step K w S m w' S m' ∧ SR w' S K m' (H.set i { b with cells := splice b.cells o cs }) := by
  obtain ⟨im0, hm0, ok⟩ := h.blk i b hi
  rw [hm] at hm0; cases hm0
  obtain ⟨arr, ty, hrow, hsz⟩ := ok.row
  have hn := ok.n
  have hf := ok.fit
  have hyl := h2.len
  have hrun := run_storeCells_at (P := P) im.rb (im.dl + o) ty ys 0 arr w hrow (by omega) (fun v hv => by
    obtain ⟨j, hj⟩ := List.getElem?_of_mem hv
    have hjl : j < cs.length := by rw [← hyl]; exact (List.getElem?_eq_some_iff.1 hj).1
    obtain ⟨x, hx, hr⟩ := h2.get (List.getElem?_eq_getElem hjl)
    rw [hj] at hx; cases hx; exact hr.1)
  simp only [Nat.add_zero] at hrun
  have hlen : (splice b.cells o cs).length = b.cells.length := by unfold splice; simp; omega
  have hsz' : (arr.toList.take (im.dl + o) ++ ys ++ arr.toList.drop (im.dl + o + ys.length)).toArray.size = im.tot := by simp; omega
  have W := SR.write h hi hfr hm hrow (arr.toList.take (im.dl + o) ++ ys ++ arr.toList.drop (im.dl + o + ys.length)).toArray hsz' im rfl rfl (Nat.le_refl _) (fun _ => rfl)
    (splice b.cells o cs) b.flat (by rw [hlen]; exact hn) hf (fun j c hj => by
      have hjl : j < b.cells.length := by rw [← hlen]; exact (List.getElem?_eq_some_iff.1 hj).1
      unfold splice at hj
      have hto : (b.cells.take o).length = o := by simp; omega
      have hta : (arr.toList.take (im.dl + o)).length = im.dl + o := by simp; omega
      simp only [List.getElem?_toArray, List.append_assoc]
      rcases Nat.lt_or_ge j o with h1 | h1
      · rw [List.append_assoc, List.getElem?_append_left (by omega), List.getElem?_take_of_lt h1] at hj
        obtain ⟨x, q1, q2, q3, q4⟩ := ok.cel j c hj
        refine ⟨x, ?_, q2, q3, q4⟩
        rw [List.getElem?_append_left (by omega), List.getElem?_take_of_lt (by omega)]
        simpa using row_cell hrow q1
      · rw [List.append_assoc, List.getElem?_append_right (by omega), hto] at hj
        rcases Nat.lt_or_ge (j - o) cs.length with h3 | h3
        · rw [List.getElem?_append_left h3] at hj
          obtain ⟨x, hx, r1, r2, r3⟩ := h2.get hj
          refine ⟨x, ?_, r1, r2, r3⟩
          rw [List.getElem?_append_right (by omega), hta, List.getElem?_append_left (by omega), show im.dl + j - (im.dl + o) = j - o by omega]
          exact hx
        · rw [List.getElem?_append_right h3, List.getElem?_drop, show o + cs.length + (j - o - cs.length) = j by omega] at hj
          obtain ⟨x, q1, q2, q3, q4⟩ := ok.cel j c hj
          refine ⟨x, ?_, q2, q3, q4⟩
          rw [List.getElem?_append_right (by omega), hta, List.getElem?_append_right (by omega), List.getElem?_drop, show im.dl + o + ys.length + (im.dl + j - (im.dl + o) - ys.length) = im.dl + j by omega]
          simpa using row_cell hrow q1)
  rw [hfr]
  have hg : im.gen = b.gen := ok.gen
  refine ⟨_, _, hrun, W.1, ?_⟩
  have := W.2
  rw [hg] at this
  exact this

theorem plain_kept {v : V} (h : v.plain = true) : v.kept = true := by cases v <;> simp_all [V.plain, V.kept, V.kept0]

theorem store_sound (h : SR w S K m H) {t : Nat} {a v : V} {out : Out} (he : evStore P H t a v = some out) {x y : Value} (hx : VR w S B m a x) (hy : VR w S B m v y) :
    out.v = .und ∧ ∃ w' S' m', (Instr.storeAt t x y).run P w = .ok () w' ∧ Step K w S m w' S' m' ∧ SR w' S' K m' (H.sets out.ups) := by
  unfold evStore at he
  split at he
  · rename_i sz i g o hs
    split at he
    · rename_i b hb
      split at he
      · rename_i hc
        obtain ⟨hfr, hlen, ho, hall⟩ := hc
        cases he
        obtain ⟨im, hm, ok, rfl, hi, rfl⟩ := VR.ptr_live h hx hb
        have hk : v.cells.all V.kept = true := by
          refine List.all_eq_true.2 (fun c hc => ?_)
          have hq := List.all_eq_true.1 hall c hc
          cases hfl : b.flat with
          | false => rw [hfl] at hq; exact hq
          | true => rw [hfl] at hq; exact plain_kept hq
        have h2 := hy.cells hk
        obtain ⟨w', m', hrun, st, sr⟩ := write_sound (P := P) h hi hm hfr o v.cells y.cells.toList
          (h2.imp' (fun c x hc r => ⟨r.2.1, r.2.2, fun hf => by
            have hq := List.all_eq_true.1 hall c hc
            rw [hf] at hq
            exact r.1.plain hq⟩)) (by omega)
        refine ⟨rfl, w', S, m', ?_, st, sr⟩
        unfold Instr.storeAt Instr.sureAddr storeVar
        have hsz : y.cells.size = sz := by have := h2.len; simp at this; omega
        simp [run_sizeOf' hs, hsz, hrun]
      · cases he
    · cases he
  · cases he

theorem new_sound (h : SR w S K m H) (d : Nat) {cells : List V} {ys : List Value} (e : TypeId)
    (h2 : All2 (fun c x => x.oneCell' = true ∧ VR w S no m c x) cells ys) :
    let g := nextGen H (.own d)
    Sound P K B w S m H ⟨.ptr (.own d) g 0, [(.own d, ⟨g, cells, false, false⟩)], [.own d]⟩ (do pure (.pointer (some (← newRow e ys.toArray)))) := by
  have A := SR.alloc h (.own d) cells false ys.toArray e (by simp [h2.len]) (fun j c hj => by
    obtain ⟨x, hx, r⟩ := h2.get hj
    exact ⟨x, by simpa using hx, r.1, r.2, fun hf => by cases hf⟩)
  refine ⟨.pointer (some ⟨w.heap.size, 0, none⟩), _, S, _, ?_, A.1, A.2, ?_⟩
  · unfold newRow newObj; rfl
  · have := VR.ptr (w := w.alloc (.cells ys.toArray e)) (S := S) (B := B) (m := Map.put m (.own d) ⟨nextGen H (.own d), w.heap.size, 0, cells.length, ys.toArray.size⟩) (.own d) 0 _ (Map.put_same ..)
    simpa using this

theorem box_sound (h : SR w S K m H) (d : Nat) {v : V} {out : Out} (he : evBox H d v.cells = some out) {y : Value} (hy : VR w S B m v y) (e : TypeId) :
    Sound P K B w S m H out (Instr.box e y) := by
  unfold evBox at he
  split at he
  · rename_i hk
    cases he
    have h2 := (hy.cells hk).imp (R' := fun c x => x.oneCell' = true ∧ VR w S no m c x) (fun c x r => r.2)
    have := new_sound (P := P) (B := B) h d e h2
    simpa [Instr.box, newVar] using this
  · cases he

/-- what is laid and never written again -/
theorem SR.lay (h : SR w S K m H) (arr : Array Value) (ty : TypeId) : Step K w S m (w.alloc (.cells arr ty)) (fun r => S r ∨ r = w.heap.size) m ∧ SR (w.alloc (.cells arr ty)) (fun r => S r ∨ r = w.heap.size) K m H := by
  have st : Step K w S m (w.alloc (.cells arr ty)) (fun r => S r ∨ r = w.heap.size) m :=
    ⟨rfl, rfl, rfl, by simp, fun rb hb => .inl hb, fun rb hb => hb.elim .inl (fun e => .inr (fun hk => by have := h.kin rb hk; omega)), fun rb hb => alloc_old _ _ (hb.elim (h.sub rb) (h.kin rb)), fun i im hm => ⟨im, hm, Nat.le_refl _, fun _ => rfl⟩, KeepsOthers.alloc _ _⟩
  refine ⟨st, ⟨fun rb hb => hb.elim (fun q => Nat.lt_of_lt_of_le (h.sub rb q) st.size) (fun e => by subst e; simp), fun rb hb => Nat.lt_of_lt_of_le (h.kin rb hb) st.size, fun i b hi => ?_, h.non, h.inj, h.own, fun rb hb => hb.elim (fun q => by rw [st.pres rb (.inl q)]; exact h.scel rb q) (fun e => by subst e; exact ⟨_, alloc_row _ _, rfl⟩)⟩⟩
  obtain ⟨im, hm, ok⟩ := h.blk i b hi
  exact ⟨im, hm, ok.mono st (alloc_old _ _ ok.lt) (fun hf hs => hs.elim (ok.thaw hf) (fun e => by have := ok.lt; omega))⟩
theorem boxO_sound (h : SR w S K m H) (hB : ∀ rb, B rb → K rb) (d : Nat) {v : V} {out : Out} (he : boxO H d v = some out) {y : Value} (hy : VR w S B m v y) (e : TypeId) :
    Sound P K B w S m H out (Instr.box e y) := by
  unfold boxO at he
  split at he
  · rename_i xs
    cases he
    obtain ⟨st, sr⟩ := h.lay #[y] e
    have hcr : CR w S B (.list xs true) y := by
      cases hy with
      | fr h => cases h
      | llist _ sz cap a vals h1 h2 h3 h4 => exact .inr ⟨xs, rfl, sz, cap, a, vals, rfl, h1, h2, h3, h4⟩
    have hc1 : y.cells = #[y] := by
      cases hy with
      | fr h => cases h
      | llist _ sz cap a vals h1 h2 h3 h4 => rfl
    refine ⟨.pointer (some ⟨w.heap.size, 0, none⟩), _, _, m, ?_, st, sr, ?_⟩
    · simp [Instr.box, newVar, hc1]
      unfold newRow newObj; rfl
    · refine .lfptr _ w.heap.size 0 (fun _ => y) (.inl (.inr rfl)) (fun j hj => ?_) (fun j c hj => ?_)
      · have : j = 0 := by simpa using hj
        subst this
        rw [cell_of_row _ _ _ _ _ _ (alloc_row _ _)]
        rfl
      · have : j = 0 := by have := (List.getElem?_eq_some_iff.1 hj).1; simpa using this
        subst this
        simp at hj; subst hj
        rcases hcr with hcr | ⟨xs', e1, sz, cap, a, vals, e2, h1, h2, h3, h4⟩
        · cases hcr
        · refine .inr ⟨xs', e1, sz, cap, a, vals, e2, h1, h2, fun hne => ?_, fun j c hj => (h4 j c hj).mono (fun rb hb => st.pres rb (.inl hb)) st.sub⟩
          obtain ⟨rb, o, q1, q2, q3⟩ := h3 hne
          exact ⟨rb, o, q1, q2.imp .inl id, fun j hj => by rw [cell_of_block (st.pres rb (q2.imp id (hB rb)))]; exact q3 j hj⟩
  · exact box_sound h d he hy e

theorem alloc_sound (h : SR w S K m H) (d : Nat) {z : List V} {e : TypeId} (hz : zOf P e = some z) {out : Out} (he : evBox H d z = some out) :
    Sound P K B w S m H out (Instr.alloc e true (.tuple #[])) := by
  obtain ⟨y, hr, rfl⟩ := run_zero' hz w
  obtain ⟨x, w', S', m', h1, h2⟩ := box_sound (P := P) (B := B) h d he (ofVal_VR y) e
  refine ⟨x, w', S', m', ?_, h2⟩
  rw [← h1]
  simp [Instr.alloc, Instr.box, hr]
end
end Go.Proofs.Ytcamcfplcoklkaa.Iv

namespace Go.Proofs.Ytcamcfplcoklkaa.Iv
open Go
section
variable {P : Program} {K B : Nat → Prop} {w : World} {S : Nat → Prop} {m : Map} {H : Heap}
set_option linter.unusedVariables false
set_option linter.unusedSimpArgs false

theorem VR.int_inv {k n x} (h : VR w S B m (.int k n) x) : x = .int k n := by cases h with | fr h => cases h; rfl
theorem VR.bool_inv {b x} (h : VR w S B m (.bool b) x) : x = .bool b := by cases h with | fr h => cases h; rfl
theorem VR.str_inv {s x} (h : VR w S B m (.str s) x) : x = .string ⟨s.toArray⟩ := by cases h with | fr h => cases h; rfl
theorem VR.nilp_inv {x} (h : VR w S B m .nilp x) : x = .pointer none := by cases h with | fr h => cases h; rfl
theorem VR.nils_inv {x} (h : VR w S B m .nils x) : x = .slice none 0 0 := by cases h with | fr h => cases h; rfl
theorem VR.emp_inv {x} (h : VR w S B m .emp x) : ∃ a, x = .slice a 0 0 := by cases h with | fr h => cases h; exact ⟨_, rfl⟩
theorem VR.nilf_inv {x} (h : VR w S B m .nilf x) : x = .nilFunc := by cases h with | fr h => cases h; rfl
theorem VR.i {k n} : VR w S B m (.int k n) (.int k n) := .fr (.int k n)
theorem VR.b {b} : VR w S B m (.bool b) (.bool b) := .fr (.bool b)

/-- a list, lent or not -/
theorem VR.list_inv {xs : List (List V)} {l : Bool} {x : Value} (h : VR w S B m (.list xs l) x) :
    ∃ (sz cap : Nat) (a : Option Addr) (vals : Nat → Value), x = .slice a xs.length cap ∧ xs.length ≤ cap ∧ (∀ x ∈ xs, x.length = sz) ∧
      (xs ≠ [] → ∃ rb o, a = some ⟨rb, o, none⟩ ∧ (S rb ∨ (l = true ∧ B rb)) ∧ ∀ j, j < xs.flatten.length → w.cell? ⟨rb, o + j, none⟩ = some (vals j)) ∧
      (∀ (j : Nat) (c : V), xs.flatten[j]? = some c → FR w S c (vals j)) := by
  cases h with
  | fr h => cases h with
    | list _ sz cap a vals h1 h2 h3 h4 => exact ⟨sz, cap, a, vals, rfl, h1, h2, fun hne => let ⟨rb, o, e, hs, hc⟩ := h3 hne; ⟨rb, o, e, .inl hs, hc⟩, h4⟩
  | llist _ sz cap a vals h1 h2 h3 h4 => exact ⟨sz, cap, a, vals, rfl, h1, h2, fun hne => let ⟨rb, o, e, hs, hc⟩ := h3 hne; ⟨rb, o, e, hs.imp id (fun b => ⟨rfl, b⟩), hc⟩, h4⟩
theorem VR.list_mk {xs : List (List V)} {l : Bool} (sz cap : Nat) (a : Option Addr) (vals : Nat → Value) (h1 : xs.length ≤ cap) (h2 : ∀ x ∈ xs, x.length = sz)
    (h3 : xs ≠ [] → ∃ rb o, a = some ⟨rb, o, none⟩ ∧ (S rb ∨ (l = true ∧ B rb)) ∧ ∀ j, j < xs.flatten.length → w.cell? ⟨rb, o + j, none⟩ = some (vals j))
    (h4 : ∀ (j : Nat) (c : V), xs.flatten[j]? = some c → FR w S c (vals j)) : VR w S B m (.list xs l) (.slice a xs.length cap) := by
  cases l with
  | false => exact .fr (.list xs sz cap a vals h1 h2 (fun hne => let ⟨rb, o, e, hs, hc⟩ := h3 hne; ⟨rb, o, e, hs.elim id (fun q => by cases q.1), hc⟩) h4)
  | true => exact .llist xs sz cap a vals h1 h2 (fun hne => let ⟨rb, o, e, hs, hc⟩ := h3 hne; ⟨rb, o, e, hs.imp id (·.2), hc⟩) h4
/-- a cell of a block of which is said whether it is lent -/
def CRl (w : World) (S B : Nat → Prop) (l : Bool) (c : V) (x : Value) : Prop := match l with | true => CR w S B c x | false => FR w S c x
theorem CRl.of {w : World} {S B : Nat → Prop} {l : Bool} {c : V} {x : Value} (h : FR w S c x) : CRl w S B l c x := by cases l <;> first | exact h | exact .inl h
theorem VR.fptr_inv {cs : List V} {l : Bool} {x : Value} (h : VR w S B m (.fptr cs l) x) :
    ∃ (rb o : Nat) (vals : Nat → Value), x = .pointer (some ⟨rb, o, none⟩) ∧ (S rb ∨ (l = true ∧ B rb)) ∧ (∀ j, j < cs.length → w.cell? ⟨rb, o + j, none⟩ = some (vals j)) ∧
      (∀ (j : Nat) (c : V), cs[j]? = some c → CRl w S B l c (vals j)) := by
  cases h with
  | fr h => cases h with
    | fptr _ rb o vals h1 h2 h3 => exact ⟨rb, o, vals, rfl, .inl h1, h2, h3⟩
  | lfptr _ rb o vals h1 h2 h3 => exact ⟨rb, o, vals, rfl, h1.imp id (fun b => ⟨rfl, b⟩), h2, h3⟩
theorem VR.fptr_mk {cs : List V} {l : Bool} (rb o : Nat) (vals : Nat → Value) (h1 : S rb ∨ (l = true ∧ B rb)) (h2 : ∀ j, j < cs.length → w.cell? ⟨rb, o + j, none⟩ = some (vals j))
    (h3 : ∀ (j : Nat) (c : V), cs[j]? = some c → CRl w S B l c (vals j)) : VR w S B m (.fptr cs l) (.pointer (some ⟨rb, o, none⟩)) := by
  cases l with
  | false => exact .fr (.fptr cs rb o vals (h1.elim id (fun q => by cases q.1)) h2 h3)
  | true => exact .lfptr cs rb o vals (h1.imp id (·.2)) h2 h3

theorem flatten_get (sz : Nat) : ∀ (xs : List (List V)), (∀ x ∈ xs, x.length = sz) → ∀ (i j : Nat) (x : List V) (c : V), xs[i]? = some x → x[j]? = some c → xs.flatten[i * sz + j]? = some c
  | [], _, i, j, x, c, h, _ => by simp at h
  | y :: ys, hz, 0, j, x, c, h, hj => by
    simp at h; subst h
    have : j < y.length := (List.getElem?_eq_some_iff.1 hj).1
    simp only [List.flatten_cons, Nat.zero_mul, Nat.zero_add]
    rw [List.getElem?_append_left this]; exact hj
  | y :: ys, hz, i + 1, j, x, c, h, hj => by
    have hy : y.length = sz := hz y (by simp)
    simp only [List.flatten_cons]
    rw [List.getElem?_append_right (by rw [hy, Nat.succ_mul]; omega), hy, show (i + 1) * sz + j - sz = i * sz + j by rw [Nat.succ_mul]; omega]
    exact flatten_get sz ys (fun z hz' => hz z (by simp [hz'])) i j x c (by simpa using h) hj
theorem flatten_len (sz : Nat) : ∀ (xs : List (List V)), (∀ x ∈ xs, x.length = sz) → xs.flatten.length = xs.length * sz
  | [], _ => by simp
  | y :: ys, hz => by
    simp only [List.flatten_cons, List.length_append, List.length_cons, hz y (by simp), flatten_len sz ys (fun z h => hz z (by simp [h])), Nat.succ_mul]
    omega

theorem indexAddr_sound (h : SR w S K m H) {t : Nat} {a i : V} {out : Out} (he : evIndexAddr P t a i = some out) {x y : Value} (hx : VR w S B m a x) (hy : VR w S B m i y) :
    Sound P K B w S m H out (Instr.indexAt t x y) := by
  unfold evIndexAddr at he
  split at he
  · rename_i k n
    have := hy.int_inv; subst this
    split at he
    · rename_i h0
      split at he
      · rename_i e hu
        split at he
        · rename_i sz hs
          split at he
          · rename_i b g o n' s2 lim
            split at he
            · rename_i hc
              obtain ⟨rfl, hlt⟩ := hc
              cases he
              have hb : 0 ≤ n ∧ n < (n' : Int) := ⟨h0, by omega⟩
              cases hx with
              | fr h => cases h
              | sl _ _ _ _ _ im a cap hm ha h1 h2 h3 h4 h5 =>
                have ha' := ha (by omega)
                subst ha'
                refine Sound.pure h (x := .pointer (some ⟨im.rb, im.dl + (o + n.toNat * s2), none⟩)) ?_ (VR.ptr b _ im hm)
                simp [Instr.indexAt, asIntOf, run_underlying hu, run_sizeOf' hs, hb, add_eq, Nat.add_assoc]
              | slD _ _ _ _ _ _ im a cap hm hg =>
                refine Sound.pure h (x := .pointer (some (a.add (n.toNat * s2)))) ?_ (VR.ptrD b _ _ im _ hm hg)
                simp [Instr.indexAt, asIntOf, run_underlying hu, run_sizeOf' hs, hb]
            · cases he
          · rename_i xs l
            split at he
            · rename_i cs hcs
              split at he
              · rename_i hc
                obtain ⟨hlen, hpos⟩ := hc
                cases he
                obtain ⟨sz', cap, a, vals, rfl, h1, h2, h3, h4⟩ := hx.list_inv
                have hi : n.toNat < xs.length := (List.getElem?_eq_some_iff.1 hcs).1
                have hz : sz' = sz := by rw [← hlen]; exact (h2 cs (List.mem_of_getElem? hcs)).symm
                subst hz
                obtain ⟨rb, o, rfl, hS, hcell⟩ := h3 (fun e => by subst e; simp at hi)
                have hb : 0 ≤ n ∧ n < (xs.length : Int) := ⟨h0, by omega⟩
                refine Sound.pure h (x := .pointer (some ⟨rb, o + n.toNat * sz', none⟩)) ?_ (VR.fptr_mk rb _ (fun j => vals (n.toNat * sz' + j)) hS (fun j hj => ?_) (fun j c hj => ?_))
                · simp [Instr.indexAt, asIntOf, run_underlying hu, run_sizeOf' hs, hb, add_eq]
                · have := flatten_get sz' xs h2 _ j cs _ hcs (List.getElem?_eq_getElem hj)
                  rw [Nat.add_assoc]
                  exact hcell _ (List.getElem?_eq_some_iff.1 this).1
                · exact CRl.of (h4 _ _ (flatten_get sz' xs h2 _ j cs _ hcs hj))
              · cases he
            · cases he
          · cases he
        · cases he
      · rename_i n' e hu
        split at he
        · rename_i sz hs
          split at he
          · rename_i hlt
            have hb : 0 ≤ n ∧ n < (n' : Int) := ⟨h0, by omega⟩
            split at he
            · rename_i b g o
              cases he
              cases hx with
              | fr h => cases h
              | ptr _ _ im hm =>
                refine Sound.pure h (x := .pointer (some ⟨im.rb, im.dl + (o + n.toNat * sz), none⟩)) ?_ (VR.ptr b _ im hm)
                simp [Instr.indexAt, Instr.sureAddr, asIntOf, run_underlying hu, run_sizeOf' hs, hb, add_eq, Nat.add_assoc]
              | ptrD _ _ _ im a hm hg =>
                refine Sound.pure h (x := .pointer (some (a.add (n.toNat * sz)))) ?_ (VR.ptrD b _ _ im _ hm hg)
                simp [Instr.indexAt, Instr.sureAddr, asIntOf, run_underlying hu, run_sizeOf' hs, hb]
            · rename_i cs l
              split at he
              · rename_i hle
                cases he
                obtain ⟨rb, o, vals, rfl, h1, h2, h3⟩ := hx.fptr_inv
                refine Sound.pure h (x := .pointer (some ⟨rb, o + n.toNat * sz, none⟩)) ?_ (VR.fptr_mk rb _ (fun j => vals (n.toNat * sz + j)) h1 (fun j hj => ?_) (fun j c hj => ?_))
                · simp [Instr.indexAt, Instr.sureAddr, asIntOf, run_underlying hu, run_sizeOf' hs, hb, add_eq]
                · rw [Nat.add_assoc]; exact h2 _ (by simp at hj; omega)
                · rw [List.getElem?_drop] at hj; exact h3 _ _ hj
              · cases he
            · cases he
          · cases he
        · cases he
      · cases he
    · cases he
  · cases he

theorem fieldAddr_sound (h : SR w S K m H) {t f : Nat} {a : V} {out : Out} (he : evFieldAddr P t a f = some out) {x : Value} (hx : VR w S B m a x) :
    Sound P K B w S m H out (Instr.fieldAt t x f) := by
  unfold evFieldAddr at he
  split at he
  · rename_i fs hu
    split at he
    · rename_i fd hf
      split at he
      · rename_i s hs
        have hrun : ∀ a : Addr, (Instr.fieldAt t (.pointer (some a)) f).run P w = .ok (.pointer (some (a.add fd.offset))) w := by
          intro a
          simp [Instr.fieldAt, Instr.sureAddr, fieldPlace, run_underlying hu, hf, run_sizeOf' hs]
        split at he
        · rename_i b g o
          cases he
          cases hx with
          | fr h => cases h
          | ptr _ _ im hm =>
            refine Sound.pure h (hrun _) ?_
            rw [add_eq, Nat.add_assoc]
            exact VR.ptr b _ im hm
          | ptrD _ _ _ im a hm hg => exact Sound.pure h (hrun _) (VR.ptrD b _ _ im _ hm hg)
        · rename_i cs l
          split at he
          · rename_i hle
            cases he
            obtain ⟨rb, o, vals, rfl, h1, h2, h3⟩ := hx.fptr_inv
            refine Sound.pure h (hrun _) ?_
            rw [add_eq]
            refine VR.fptr_mk rb _ (fun j => vals (fd.offset + j)) h1 (fun j hj => ?_) (fun j c hj => ?_)
            · rw [Nat.add_assoc]; exact h2 _ (by simp at hj; omega)
            · rw [List.getElem?_drop] at hj; exact h3 _ _ hj
          · cases he
        · cases he
      · cases he
    · cases he
  · cases he

theorem mkv_VR {ag : Bool} {cs : List V} {v : V} (hv : mkv ag cs = some v) {xs : List Value} (h2 : All2 (VR w S B m) cs xs) :
    ∃ x, VR w S B m v x ∧ (ag = true → x = .agg xs.toArray) ∧ (ag = false → xs = [x]) := by
  cases ag with
  | true => simp only [mkv, Option.some.injEq] at hv; subst hv; exact ⟨_, VR.agg_mk h2, fun _ => rfl, fun h => by cases h⟩
  | false =>
    cases cs with
    | nil => simp [mkv] at hv
    | cons c cs => cases cs with
      | cons => simp [mkv] at hv
      | nil =>
        simp only [mkv, Option.some.injEq] at hv; subst hv
        cases xs with
        | nil => exact h2.elim
        | cons x xs => cases xs with
          | nil => exact ⟨x, h2.1, (fun h => by cases h), fun _ => rfl⟩
          | cons => exact h2.2.elim
theorem part_sound {t o : Nat} {cs : List V} {v : V} (he : evPart P t cs o = some v) {xs : List Value} (h2 : All2 (VR w S B m) cs xs) :
    ∃ x, (part t xs.toArray o).run P w = .ok x w ∧ VR w S B m v x := by
  unfold evPart at he
  split at he
  · rename_i sz ag hs hg
    split at he
    · rename_i ys hc
      obtain ⟨rfl, hl⟩ := cut_some hc
      have h3 := (h2.drop o).take sz
      obtain ⟨x, hx, ha, hb⟩ := mkv_VR he h3
      refine ⟨x, ?_, hx⟩
      unfold part
      simp only [Sem.run_bind, run_isAgg' hg, Result.andThen_ok]
      cases ag with
      | true =>
        rw [ha rfl]
        have : xs.toArray.extract o (o + sz) = (List.take sz (List.drop o xs)).toArray := by
          apply Array.ext'
          simp
        simp [run_sizeOf' hs]
      | false =>
        have hb' := hb rfl
        have : xs[o]? = some x := by
          have h0 : (List.take sz (List.drop o xs))[0]? = some x := by rw [hb']; rfl
          have hsz : 0 < sz := by
            rcases Nat.eq_zero_or_pos sz with e | e
            · subst e; simp at h0
            · exact e
          rw [List.getElem?_take_of_lt hsz, List.getElem?_drop] at h0
          simpa using h0
        simp [this]
    · cases he
  · cases he

/-- a value, by a function of the ideal machine that leaves the heap alone -/
def SoundV (P : Program) (B : Nat → Prop) (w : World) (S : Nat → Prop) (m : Map) (v : V) (s : Sem Value) : Prop := ∃ x, s.run P w = .ok x w ∧ VR w S B m v x
theorem SoundV.lift (h : SR w S K m H) {o : Option V} {out : Out} (he : liftO o = some out) {s : Sem Value} (hs : ∀ v, o = some v → SoundV P B w S m v s) : Sound P K B w S m H out s := by
  cases o with
  | none => cases he
  | some v =>
    cases he
    obtain ⟨x, hr, hv⟩ := hs v rfl
    exact Sound.pure h hr hv

theorem field_sound {t f : Nat} {a v : V} (he : evField P t a f = some v) {x : Value} (hx : VR w S B m a x) : SoundV P B w S m v (Instr.field t x f) := by
  unfold evField at he
  split at he
  · rename_i fs cs hu
    split at he
    · rename_i fd hf
      obtain ⟨xs, rfl, h2⟩ := hx.agg_inv
      obtain ⟨y, hr, hy⟩ := part_sound (w := w) (S := S) (B := B) (m := m) he h2
      exact ⟨y, by simp [Instr.field, run_underlying hu, hf, asAgg, hr], hy⟩
    · cases he
  · cases he

theorem index_sound {t : Nat} {a i v : V} (he : evIndex P t a i = some v) {x y : Value} (hx : VR w S B m a x) (hy : VR w S B m i y) : SoundV P B w S m v (Instr.index t x y) := by
  unfold evIndex at he
  split at he
  · rename_i k n
    have := hy.int_inv; subst this
    split at he
    · rename_i h0
      split at he
      · rename_i n' e cs hu
        split at he
        · rename_i sz hs
          split at he
          · rename_i hlt
            obtain ⟨xs, rfl, h2⟩ := hx.agg_inv
            obtain ⟨y, hr, hy⟩ := part_sound (w := w) (S := S) (B := B) (m := m) he h2
            have hb : 0 ≤ n ∧ n < (n' : Int) := ⟨h0, by omega⟩
            exact ⟨y, by simp [Instr.index, asIntOf, run_underlying hu, hb, run_sizeOf' hs, hr], hy⟩
          · cases he
        · cases he
      · rename_i s hu
        split at he
        · rename_i b hb
          cases he
          have := hx.str_inv; subst this
          have hlt : n.toNat < s.length := (List.getElem?_eq_some_iff.1 hb).1
          have : (⟨s.toArray⟩ : ByteArray)[n.toNat]? = some b := by
            have hb' := List.getElem?_eq_some_iff.1 hb
            have hs : n.toNat < (⟨s.toArray⟩ : ByteArray).size := by simpa [ByteArray.size] using hlt
            rw [getElem?_pos (⟨s.toArray⟩ : ByteArray) n.toNat hs]
            obtain ⟨q1, q2⟩ := hb'
            exact congrArg some q2
          exact ⟨_, by simp [Instr.index, asIntOf, run_underlying hu, h0, this], .i⟩
        · cases he
      · cases he
    · cases he
  · cases he

theorem extract_sound {vs : List V} {i : Nat} {v : V} (he : vs[i]? = some v) {x : Value} (hx : VR w S B m (.tup vs) x) : SoundV P B w S m v (Instr.extract x i) := by
  obtain ⟨xs, rfl, h2⟩ := hx.tup_inv
  obtain ⟨y, hy, hv⟩ := h2.get he
  exact ⟨y, by simp [Instr.extract, hy], hv⟩
end
end Go.Proofs.Ytcamcfplcoklkaa.Iv
