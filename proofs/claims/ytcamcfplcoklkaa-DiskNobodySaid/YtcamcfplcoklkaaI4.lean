import Derived.Test.YtcamcfplcoklkaaI3
namespace Go.Proofs.Ytcamcfplcoklkaa.Iv
open Go

abbrev Map := Id → Option Im
def Map.put (m : Map) (i : Id) (im : Im) : Map := fun j => if j = i then some im else m j
theorem Map.put_same (m : Map) (i : Id) (im : Im) : m.put i im i = some im := by simp [Map.put]
theorem Map.put_ne (m : Map) {i j : Id} (im : Im) (h : j ≠ i) : m.put i im j = m j := by simp [Map.put, h]
theorem Heap.set_same (H : Heap) (i : Id) (b : Blk) : H.set i b i = some b := by simp [Heap.set]
theorem Heap.set_ne (H : Heap) {i j : Id} (b : Blk) (h : j ≠ i) : H.set i b j = H j := by simp [Heap.set, h]

theorem BlkOK.mono0 {w : World} {S : Nat → Prop} {m : Id → Option Im} {w' : World} {S' : Nat → Prop} {m' : Id → Option Im} {b im} (h : BlkOK w S m b im) (hp : ∀ rb, S rb → w'.heap[rb]? = w.heap[rb]?) (hsub : ∀ rb, S rb → S' rb)
    (hext : ∀ i im, m i = some im → ∃ im', m' i = some im' ∧ im.gen ≤ im'.gen ∧ (im'.gen = im.gen → im' = im)) (hh : w'.heap[im.rb]? = w.heap[im.rb]?)
    (ht : b.frz = false → ¬ S' im.rb) : BlkOK w' S' m' b im := by
  obtain ⟨arr, ty, hr, hs⟩ := h.row
  refine ⟨h.gen, h.n, ⟨arr, ty, by rw [hh]; exact hr, hs⟩, h.fit, fun j c hj => ?_, fun hf => hsub _ (h.frz hf), ht⟩
  obtain ⟨x, h1, h2, h3, h4⟩ := h.cel j c hj
  exact ⟨x, by rw [cell_of_block hh]; exact h1, h2, h3.mono0 (fun rb q => hp rb (q.resolve_right (fun f => f.elim))) hsub hext, fun hf => (h4 hf).mono hp hsub⟩

theorem BlkOK.mono {K w S m w' S' m' b im} (h : BlkOK w S m b im) (st : Step K w S m w' S' m') (hh : w'.heap[im.rb]? = w.heap[im.rb]?)
    (ht : b.frz = false → ¬ S' im.rb) : BlkOK w' S' m' b im := h.mono0 (fun rb q => st.pres rb (.inl q)) st.sub st.ext hh ht

theorem BlkOK.lt {w S m b im} (h : BlkOK w S m b im) : im.rb < w.heap.size := by
  obtain ⟨arr, ty, hr, hs⟩ := h.row
  rcases Nat.lt_or_ge im.rb w.heap.size with h' | h'
  · exact h'
  · simp [Array.getElem?_eq_none h'] at hr

theorem SR.get {w S K m H i b} (h : SR w S K m H) (hi : H i = some b) : ∃ im, m i = some im ∧ BlkOK w S m b im := h.blk i b hi
theorem SR.of_map {w S K m H i im} (h : SR w S K m H) (hm : m i = some im) : ∃ b, H i = some b ∧ BlkOK w S m b im := by
  cases hb : H i with
  | none => rw [h.non i hb] at hm; cases hm
  | some b => obtain ⟨im', hm', ok⟩ := h.blk i b hb; rw [hm] at hm'; cases hm'; exact ⟨b, rfl, ok⟩

theorem nextGen_lt {w S K m H i im} (h : SR w S K m H) (hm : m i = some im) : im.gen < nextGen H i := by
  obtain ⟨b, hb, ok⟩ := h.of_map hm
  simp [nextGen, hb, ok.gen]

theorem alloc_row (w : World) (o : Obj) : (w.alloc o).heap[w.heap.size]? = some o := heap_alloc_new w o
theorem alloc_old (w : World) (o : Obj) {k : Nat} (h : k < w.heap.size) : (w.alloc o).heap[k]? = w.heap[k]? := Go.RowKit.Below.heap_alloc w o k h

theorem SR.alloc {w S K m H} (h : SR w S K m H) (i : Id) (cells : List V) (flat : Bool) (arr : Array Value) (ty : TypeId) (hl : cells.length ≤ arr.size)
    (hc : ∀ (j : Nat) (c : V), cells[j]? = some c → ∃ x, arr[j]? = some x ∧ x.oneCell' = true ∧ VR w S no m c x ∧ (flat = true → FR w S c x)) :
    Step K w S m (w.alloc (.cells arr ty)) S (Map.put m i ⟨nextGen H i, w.heap.size, 0, cells.length, arr.size⟩) ∧
    SR (w.alloc (.cells arr ty)) S K (Map.put m i ⟨nextGen H i, w.heap.size, 0, cells.length, arr.size⟩) (H.set i ⟨nextGen H i, cells, false, flat⟩) := by
  have st : Step K w S m (w.alloc (.cells arr ty)) S (Map.put m i ⟨nextGen H i, w.heap.size, 0, cells.length, arr.size⟩) := by
    refine ⟨rfl, rfl, rfl, by simp, fun _ x => x, fun _ x => .inl x, fun rb hb => alloc_old _ _ (hb.elim (h.sub rb) (h.kin rb)), fun j im hm => ?_, KeepsOthers.alloc _ _⟩
    by_cases e : j = i
    · subst e
      refine ⟨_, Map.put_same .., ?_, fun e => ?_⟩
      · exact Nat.le_of_lt (nextGen_lt h hm)
      · have := nextGen_lt h hm; simp only at e; omega
    · exact ⟨im, by rw [Map.put_ne _ _ e]; exact hm, Nat.le_refl _, fun _ => rfl⟩
  refine ⟨st, ⟨fun rb hb => Nat.lt_of_lt_of_le (h.sub rb hb) st.size, fun rb hb => Nat.lt_of_lt_of_le (h.kin rb hb) st.size, fun j b hj => ?_, fun j hj => ?_, fun j k bj jm km hj hf hjm hkm hne => ?_, fun j b im hj hf hm => ?_, fun rb hb => by rw [st.pres rb (.inl hb)]; exact h.scel rb hb⟩⟩
  · by_cases e : j = i
    · subst e
      rw [Heap.set_same] at hj; cases hj
      refine ⟨_, Map.put_same .., ⟨rfl, rfl, ⟨arr, ty, alloc_row _ _, rfl⟩, by simpa using hl, fun q c hq => ?_, (fun hf => by cases hf), fun _ hs => ?_⟩⟩
      · obtain ⟨x, h1, h2, h3, h4⟩ := hc q c hq
        refine ⟨x, ?_, h2, h3.mono st (fun _ f => f.elim), fun hf => (h4 hf).mono (fun rb hb => st.pres rb (.inl hb)) st.sub⟩
        rw [cell_of_row _ _ _ _ _ _ (alloc_row _ _)]
        simpa using h1
      · exact absurd (h.sub _ hs) (by simp)
    · rw [Heap.set_ne _ _ e] at hj
      obtain ⟨im, hm, ok⟩ := h.blk j b hj
      exact ⟨im, by rw [Map.put_ne _ _ e]; exact hm, ok.mono st (alloc_old _ _ ok.lt) ok.thaw⟩
  · by_cases e : j = i
    · subst e; rw [Heap.set_same] at hj; cases hj
    · rw [Heap.set_ne _ _ e] at hj; rw [Map.put_ne _ _ e]; exact h.non j hj
  · by_cases e : j = i
    · subst e
      rw [Map.put_same] at hjm; cases hjm
      rw [Map.put_ne _ _ (Ne.symm hne)] at hkm
      obtain ⟨b, _, ok⟩ := h.of_map hkm
      have := ok.lt
      simp only; omega
    · rw [Heap.set_ne _ _ e] at hj
      rw [Map.put_ne _ _ e] at hjm
      by_cases e' : k = i
      · subst e'
        rw [Map.put_same] at hkm; cases hkm
        obtain ⟨b, _, ok⟩ := h.of_map hjm
        have := ok.lt
        simp only; omega
      · rw [Map.put_ne _ _ e'] at hkm
        exact h.inj j k bj jm km hj hf hjm hkm hne
  · by_cases e : j = i
    · subst e
      rw [Map.put_same] at hm; cases hm
      exact fun hk => absurd (h.kin _ hk) (by simp)
    · rw [Heap.set_ne _ _ e] at hj
      rw [Map.put_ne _ _ e] at hm
      exact h.own j b im hj hf hm

theorem setRow_row {w : World} {g : Nat} {arr cs : Array Value} {ty : TypeId} (h : w.heap[g]? = some (.cells arr ty (0, 0))) :
    (w.setRow g cs).heap[g]? = some (.cells cs ty (0, 0)) := by
  simp [World.setRow, Array.getElem?_modify, h]
theorem setRow_other {w : World} {g k : Nat} {cs : Array Value} (h : k ≠ g) : (w.setRow g cs).heap[k]? = w.heap[k]? := by
  simp [World.setRow, Array.getElem?_modify, Ne.symm h]

theorem keeps_setRow {w : World} {g : Nat} {arr arr' : Array Value} {ty : TypeId} {fr : Nat × Nat} (h : w.heap[g]? = some (.cells arr ty fr)) : KeepsOthers w (w.setRow g arr') :=
  ⟨by simp, fun k o hk ho => by
    by_cases e : k = g
    · subst e; rw [h] at hk; cases hk; cases ho
    · rw [setRow_other e]; exact hk⟩

theorem SR.write {w S K m H i b im} (h : SR w S K m H) (hi : H i = some b) (hfr : b.frz = false) (hm : m i = some im)
    {arr : Array Value} {ty : TypeId} (hrow : w.heap[im.rb]? = some (.cells arr ty (0, 0))) (arr' : Array Value) (hsz : arr'.size = im.tot)
    (im' : Im) (hrb : im'.rb = im.rb) (htot : im'.tot = im.tot) (hge : im.gen ≤ im'.gen) (heq : im'.gen = im.gen → im' = im)
    (cells : List V) (flat : Bool) (hn : im'.n = cells.length) (hfit : im'.dl + im'.n ≤ im'.tot)
    (hc : ∀ (j : Nat) (c : V), cells[j]? = some c → ∃ x, arr'[im'.dl + j]? = some x ∧ x.oneCell' = true ∧ VR w S no m c x ∧ (flat = true → FR w S c x)) :
    Step K w S m (w.setRow im.rb arr') S (Map.put m i im') ∧ SR (w.setRow im.rb arr') S K (Map.put m i im') (H.set i ⟨im'.gen, cells, false, flat⟩) := by
  obtain ⟨im0, hm0, ok⟩ := h.blk i b hi
  rw [hm] at hm0; cases hm0
  have st : Step K w S m (w.setRow im.rb arr') S (Map.put m i im') := by
    refine ⟨rfl, rfl, rfl, by simp, fun _ x => x, fun _ x => .inl x, fun rb hb => setRow_other (fun e => ?_), fun j jm hj => ?_, keeps_setRow hrow⟩
    · subst e
      exact hb.elim (ok.thaw hfr) (h.own i b im hi hfr hm)
    · by_cases e : j = i
      · subst e
        rw [hm] at hj; cases hj
        exact ⟨im', Map.put_same .., hge, heq⟩
      · exact ⟨jm, by rw [Map.put_ne _ _ e]; exact hj, Nat.le_refl _, fun _ => rfl⟩
  refine ⟨st, ⟨fun rb hb => Nat.lt_of_lt_of_le (h.sub rb hb) st.size, fun rb hb => Nat.lt_of_lt_of_le (h.kin rb hb) st.size, fun j bj hj => ?_, fun j hj => ?_, fun j k bj jm km hj hf hjm hkm hne => ?_, fun j bj jm hj hf hjm => ?_, fun rb hb => by rw [st.pres rb (.inl hb)]; exact h.scel rb hb⟩⟩
  · by_cases e : j = i
    · subst e
      rw [Heap.set_same] at hj; cases hj
      refine ⟨im', Map.put_same .., ⟨rfl, hn, ⟨arr', ty, by rw [hrb]; exact setRow_row hrow, by rw [hsz, htot]⟩, hfit, fun q c hq => ?_, (fun hf => by cases hf), fun _ hs => ?_⟩⟩
      · obtain ⟨x, h1, h2, h3, h4⟩ := hc q c hq
        refine ⟨x, ?_, h2, h3.mono st (fun _ f => f.elim), fun hf => (h4 hf).mono (fun rb hb => st.pres rb (.inl hb)) st.sub⟩
        rw [hrb, cell_of_row _ _ _ _ _ _ (setRow_row hrow)]
        exact h1
      · rw [hrb] at hs; exact ok.thaw hfr hs
    · rw [Heap.set_ne _ _ e] at hj
      obtain ⟨jm, hjm, okj⟩ := h.blk j bj hj
      refine ⟨jm, by rw [Map.put_ne _ _ e]; exact hjm, okj.mono st (setRow_other (Ne.symm ?_)) okj.thaw⟩
      exact h.inj i j b im jm hi hfr hm hjm (Ne.symm e)
  · by_cases e : j = i
    · subst e; rw [Heap.set_same] at hj; cases hj
    · rw [Heap.set_ne _ _ e] at hj; rw [Map.put_ne _ _ e]; exact h.non j hj
  · by_cases e : j = i
    · subst e
      rw [Map.put_same] at hjm; cases hjm
      rw [Map.put_ne _ _ (Ne.symm hne)] at hkm
      rw [hrb]
      exact h.inj j k b im km hi hfr hm hkm hne
    · rw [Heap.set_ne _ _ e] at hj
      rw [Map.put_ne _ _ e] at hjm
      by_cases e' : k = i
      · subst e'
        rw [Map.put_same] at hkm; cases hkm
        rw [hrb]
        exact h.inj j k bj jm im hj hf hjm hm hne
      · rw [Map.put_ne _ _ e'] at hkm
        exact h.inj j k bj jm km hj hf hjm hkm hne
  · by_cases e : j = i
    · subst e
      rw [Map.put_same] at hjm; cases hjm
      rw [hrb]
      exact h.own j b im hi hfr hm
    · rw [Heap.set_ne _ _ e] at hj
      rw [Map.put_ne _ _ e] at hjm
      exact h.own j bj jm hj hf hjm

/-- freezing a block -/
theorem SR.freeze {w S K m H i b im} (h : SR w S K m H) (hi : H i = some b) (hm : m i = some im) :
    ∃ S' : Nat → Prop, S' im.rb ∧ Step K w S m w S' m ∧ SR w S' K m (H.set i { b with frz := true }) := by
  obtain ⟨im0, hm0, ok⟩ := h.blk i b hi
  rw [hm] at hm0; cases hm0
  have st : Step K w S m w (fun r => S r ∨ r = im.rb) m := ⟨rfl, rfl, rfl, Nat.le_refl _, fun _ x => .inl x, fun rb x => x.elim .inl (fun e => by
    subst e
    cases hf : b.frz with
    | true => exact .inl (ok.frz hf)
    | false => exact .inr (h.own i b im hi hf hm)), fun _ _ => rfl, fun _ im h => ⟨im, h, Nat.le_refl _, fun _ => rfl⟩, KeepsOthers.refl _⟩
  refine ⟨fun r => S r ∨ r = im.rb, .inr rfl, st, ⟨fun rb hb => hb.elim (h.sub rb) (fun e => e ▸ ok.lt), h.kin, fun j bj hj => ?_, fun j hj => ?_, fun j k bj jm km hj hf hjm hkm hne => ?_, fun j bj jm hj hf hjm => ?_, fun rb hb => hb.elim (h.scel rb) (fun e => by subst e; obtain ⟨arr, ty, hr, _⟩ := ok.row; exact ⟨_, hr, rfl⟩)⟩⟩
  · by_cases e : j = i
    · subst e
      rw [Heap.set_same] at hj; cases hj
      refine ⟨im, hm, ?_⟩
      refine ⟨ok.gen, ok.n, ok.row, ok.fit, fun q c hq => ?_, fun _ => .inr rfl, (fun hf => by cases hf)⟩
      obtain ⟨x, h1, h2, h3, h4⟩ := ok.cel q c hq
      exact ⟨x, h1, h2, h3.mono st (fun _ f => f.elim), fun hf => (h4 hf).mono (fun _ _ => rfl) st.sub⟩
    · rw [Heap.set_ne _ _ e] at hj
      obtain ⟨jm, hjm, okj⟩ := h.blk j bj hj
      refine ⟨jm, hjm, okj.mono st rfl (fun hf hs => hs.elim (okj.thaw hf) (fun e' => ?_))⟩
      exact h.inj j i bj jm im hj hf hjm hm e e'
  · by_cases e : j = i
    · subst e; rw [Heap.set_same] at hj; cases hj
    · rw [Heap.set_ne _ _ e] at hj; exact h.non j hj
  · by_cases e : j = i
    · subst e; rw [Heap.set_same] at hj; cases hj; cases hf
    · rw [Heap.set_ne _ _ e] at hj
      exact h.inj j k bj jm km hj hf hjm hkm hne
  · by_cases e : j = i
    · subst e; rw [Heap.set_same] at hj; cases hj; cases hf
    · rw [Heap.set_ne _ _ e] at hj
      exact h.own j bj jm hj hf hjm

theorem SR.drew {w S K m H} (h : SR w S K m H) : SR w.drew S K m H :=
  ⟨h.sub, h.kin, fun i b hi => let ⟨im, hm, ok⟩ := h.blk i b hi; ⟨im, hm, ok.mono (Step.drew K w S m) rfl ok.thaw⟩, h.non, h.inj, h.own, h.scel⟩
end Go.Proofs.Ytcamcfplcoklkaa.Iv
