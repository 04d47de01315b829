import Derived.Test.YtcamcfplcoklkaaI5
namespace Go.Proofs.Ytcamcfplcoklkaa.Iv
open Go

/-- 's' runs to a value that reads as 'out' says, and the heap becomes as 'out' says. -/
def Sound (P : Program) (K B : Nat → Prop) (w : World) (S : Nat → Prop) (m : Map) (H : Heap) (out : Out) (s : Sem Value) : Prop :=
  ∃ x w' S' m', s.run P w = .ok x w' ∧ Step K w S m w' S' m' ∧ SR w' S' K m' (H.sets out.ups) ∧ VR w' S' B m' out.v x

section
variable {P : Program} {K B : Nat → Prop} {w : World} {S : Nat → Prop} {m : Map} {H : Heap}

theorem Sound.pure {v : V} {rd : List Id} {s : Sem Value} {x : Value} (h : SR w S K m H) (hr : s.run P w = .ok x w) (hv : VR w S B m v x) : Sound P K B w S m H ⟨v, [], rd⟩ s :=
  ⟨x, w, S, m, hr, Step.refl .., h, hv⟩

theorem add_eq (rb o n : Nat) : (⟨rb, o, none⟩ : Addr).add n = ⟨rb, o + n, none⟩ := by unfold Addr.add; split <;> simp_all

theorem live_some {i : Id} {g : Nat} {b : Blk} (h : live H i g = some b) : H i = some b ∧ b.gen = g := by
  unfold live at h
  split at h
  · rename_i b' hb
    split at h
    · rename_i hg; cases h; exact ⟨hb, hg⟩
    · cases h
  · cases h

theorem cut_some {cs : List V} {o n : Nat} {xs : List V} (h : cut cs o n = some xs) : xs = (cs.drop o).take n ∧ xs.length = n := by
  unfold cut at h
  simp only at h
  split at h
  · rename_i hl; cases h; exact ⟨rfl, hl⟩
  · cases h
theorem cut_get {cs : List V} {o n : Nat} {xs : List V} (h : cut cs o n = some xs) {j : Nat} {c : V} (hj : xs[j]? = some c) : cs[o + j]? = some c ∧ j < n := by
  obtain ⟨rfl, hl⟩ := cut_some h
  have hjn : j < n := by rw [← hl]; exact (List.getElem?_eq_some_iff.1 hj).1
  rw [List.getElem?_take_of_lt hjn, List.getElem?_drop] at hj
  exact ⟨hj, hjn⟩
theorem cut_le {cs : List V} {o n : Nat} {xs : List V} (h : cut cs o n = some xs) (hn : 0 < n) : o + n ≤ cs.length := by
  obtain ⟨rfl, hl⟩ := cut_some h
  simp at hl
  omega

/-- the live reference -/
theorem VR.ptr_live {i : Id} {g o : Nat} {x : Value} {b : Blk} (h : SR w S K m H) (hx : VR w S B m (.ptr i g o) x) (hl : live H i g = some b) :
    ∃ im, m i = some im ∧ BlkOK w S m b im ∧ x = .pointer (some ⟨im.rb, im.dl + o, none⟩) ∧ H i = some b ∧ im.gen = g := by
  obtain ⟨hb, hg⟩ := live_some hl
  obtain ⟨im, hm, ok⟩ := h.blk i b hb
  cases hx with
  | fr h => cases h
  | ptr _ _ im' hm' => rw [hm] at hm'; cases hm'; exact ⟨im, hm, ok, rfl, hb, rfl⟩
  | ptrD _ _ _ im' _ hm' hlt => rw [hm] at hm'; cases hm'; have := ok.gen; omega
theorem VR.sl_live {i : Id} {g o n sz : Nat} {lim : Option Nat} {x : Value} {b : Blk} (h : SR w S K m H) (hx : VR w S B m (.sl i g o n sz lim) x) (hl : live H i g = some b) :
    ∃ im a cap, m i = some im ∧ BlkOK w S m b im ∧ x = .slice (some a) n cap ∧ H i = some b ∧ im.gen = g ∧ (0 < cap → a = ⟨im.rb, im.dl + o, none⟩) ∧ n ≤ cap ∧ o + n * sz ≤ im.n ∧
      im.dl + o + cap * sz ≤ im.tot ∧ (lim = none → im.n ≤ o + cap * sz) ∧ (∀ c, lim = some c → cap = c) := by
  obtain ⟨hb, hg⟩ := live_some hl
  obtain ⟨im, hm, ok⟩ := h.blk i b hb
  cases hx with
  | fr h => cases h
  | sl _ _ _ _ _ im' a cap hm' ha h1 h2 h3 h4 h5 => rw [hm] at hm'; cases hm'; exact ⟨im, a, cap, hm, ok, rfl, hb, rfl, ha, h1, h2, h3, h4, h5⟩
  | slD _ _ _ _ _ _ im' _ _ hm' hlt => rw [hm] at hm'; cases hm'; have := ok.gen; omega

/-- a row of cells of a block, as values -/
theorem BlkOK.read {b : Blk} {im : Im} (ok : BlkOK w S m b im) {o n : Nat} {cs : List V} (hc : cut b.cells o n = some cs) :
    ∃ xs : List Value, All2 (fun c x => VR w S no m c x ∧ x.oneCell' = true ∧ (b.flat = true → FR w S c x)) cs xs ∧ xs.length = n ∧
      ∀ (j : Nat) (x : Value), xs[j]? = some x → w.cell? ⟨im.rb, im.dl + o + j, none⟩ = some x := by
  obtain ⟨xs, h1, h2⟩ := All2.choose (R := fun c x => VR w S no m c x ∧ x.oneCell' = true ∧ (b.flat = true → FR w S c x)) (cs := cs)
    (Q := fun j x => w.cell? ⟨im.rb, im.dl + o + j, none⟩ = some x) (fun j c hj => by
      obtain ⟨x, q1, q2, q3, q4⟩ := ok.cel (o + j) c (cut_get hc hj).1
      exact ⟨x, by rw [Nat.add_assoc]; exact q1, q3, q2, q4⟩)
  exact ⟨xs, h1, by rw [h1.len, (cut_some hc).2], h2⟩

theorem run_loadVar' {t sz : Nat} {ag : Bool} (hs : szOf P t = some sz) (hg : agOf P t = some ag) {rb o : Nat} {cs : List V} {v : V} {R : V → Value → Prop} {xs : List Value}
    (h2 : All2 R cs xs) (hl : xs.length = sz) (hx : ∀ (j : Nat) (x : Value), xs[j]? = some x → w.cell? ⟨rb, o + j, none⟩ = some x) (hv : mkv ag cs = some v)
    (hR : ∀ c x, R c x → VR w S B m c x) : ∃ x, (loadVar t ⟨rb, o, none⟩).run P w = .ok x w ∧ VR w S B m v x := by
  unfold loadVar
  simp only [Sem.run_bind, run_isAgg' hg, Result.andThen_ok]
  cases ag with
  | true =>
    simp only [if_true, Sem.run_bind, run_sizeOf' hs, Result.andThen_ok]
    simp only [mkv, Option.some.injEq] at hv
    subst hv
    have := run_loadCells_list (P := P) w ⟨rb, o, none⟩ xs (fun j x hj => by rw [add_eq]; exact hx j x hj)
    rw [hl] at this
    rw [this]
    exact ⟨_, rfl, VR.agg_mk (h2.imp hR)⟩
  | false =>
    simp only [Bool.false_eq_true, if_false]
    cases cs with
    | nil => simp [mkv] at hv
    | cons c cs =>
      cases cs with
      | cons => simp [mkv] at hv
      | nil =>
        simp only [mkv, Option.some.injEq] at hv
        subst hv
        cases xs with
        | nil => exact h2.elim
        | cons x xs =>
          have h0 := hx 0 x rfl
          simp only [Nat.add_zero] at h0
          exact ⟨x, by rw [run_load, h0], hR _ _ h2.1⟩

theorem load_val (h : SR w S K m H) {t : Nat} {a : V} {out : Out} (he : evLoad P H t a = some out) {x : Value} (hx : VR w S B m a x) :
    out.ups = [] ∧ ∃ y, (Instr.loadAt t x).run P w = .ok y w ∧ VR w S B m out.v y := by
  unfold evLoad at he
  split at he
  · rename_i sz ag i g o hs hg
    split at he
    · rename_i b hb
      split at he
      · rename_i cs hc
        split at he
        · rename_i v hv
          cases he
          obtain ⟨im, hm, ok, rfl, hi, rfl⟩ := VR.ptr_live h hx hb
          obtain ⟨xs, h2, hl, hq⟩ := ok.read hc
          obtain ⟨y, hr, hy⟩ := run_loadVar' (P := P) (B := B) (m := m) (S := S) hs hg h2 hl hq hv (fun c x r => r.1.lend)
          refine ⟨rfl, y, ?_, hy⟩
          unfold Instr.loadAt Instr.sureAddr
          simpa using hr
        · cases he
      · cases he
    · cases he
  · rename_i sz ag cs lent hs hg
    split at he
    · rename_i cs' hc
      split at he
      · rename_i v hv
        cases he
        have key : ∀ rb o (vals : Nat → Value), x = .pointer (some ⟨rb, o, none⟩) → (∀ j, j < cs.length → w.cell? ⟨rb, o + j, none⟩ = some (vals j)) → (∀ (j : Nat) (c : V), cs[j]? = some c → CR w S B c (vals j)) →
            ∃ y, (Instr.loadAt t x).run P w = .ok y w ∧ VR w S B m v y := by
          intro rb o vals e hc' hv'
          subst e
          obtain ⟨xs, h2, hq⟩ := All2.choose (R := fun c x => CR w S B c x) (cs := cs') (Q := fun j x => w.cell? ⟨rb, o + j, none⟩ = some x) (fun j c hj => by
            have := (cut_get hc hj).1
            rw [Nat.zero_add] at this
            exact ⟨vals j, hc' j (List.getElem?_eq_some_iff.1 this).1, hv' j c this⟩)
          obtain ⟨y, hr, hy⟩ := run_loadVar' (P := P) (B := B) (m := m) (S := S) hs hg h2 (by rw [h2.len, (cut_some hc).2]) hq hv (fun c x r => r.vr)
          refine ⟨y, ?_, hy⟩
          unfold Instr.loadAt Instr.sureAddr
          simpa using hr
        cases hx with
        | fr hf => cases hf with | fptr _ rb o vals hs' hc' hv' => exact ⟨rfl, key rb o vals rfl hc' (fun j c e => .inl (hv' j c e))⟩
        | lfptr _ rb o vals hs' hc' hv' => exact ⟨rfl, key rb o vals rfl hc' hv'⟩
      · cases he
    · cases he
  · cases he
theorem load_sound (h : SR w S K m H) {t : Nat} {a : V} {out : Out} (he : evLoad P H t a = some out) {x : Value} (hx : VR w S B m a x) :
    Sound P K B w S m H out (Instr.loadAt t x) := by
  obtain ⟨e, y, hr, hy⟩ := load_val (P := P) h he hx
  exact ⟨y, w, S, m, hr, Step.refl .., by rw [e]; exact h, hy⟩

theorem row_cell {rb : Nat} {arr : Array Value} {ty : TypeId} (hrow : w.heap[rb]? = some (.cells arr ty (0, 0))) {o : Nat} {x : Value} (h : w.cell? ⟨rb, o, none⟩ = some x) : arr[o]? = some x := by
  rw [cell_of_row _ _ _ _ _ _ hrow] at h; exact h

/-- values written over cells of a block, in place, its length the same -/
theorem write_sound (h : SR w S K m H) {i : Id} {b : Blk} {im : Im} (hi : H i = some b) (hm : m i = some im) (hfr : b.frz = false) (o : Nat) (cs : List V) (ys : List Value)
    (h2 : All2 (fun c x => x.oneCell' = true ∧ VR w S no m c x ∧ (b.flat = true → FR w S c x)) cs ys) (ho : o + cs.length ≤ b.cells.length) :
    ∃ w' m', (storeCells ⟨im.rb, im.dl + o, none⟩ ys).run P w = .ok () w' ∧ Step K w S m w' S m' ∧ SR w' S K m' (H.set i { b with cells := splice b.cells o cs }) := by
  obtain ⟨im0, hm0, ok⟩ := h.blk i b hi
  rw [hm] at hm0; cases hm0
  obtain ⟨arr, ty, hrow, hsz⟩ := ok.row
  have hn := ok.n
  have hf := ok.fit
  have hyl := h2.len
  have hrun := run_storeCells_at (P := P) im.rb (im.dl + o) ty ys 0 arr w hrow (by omega) (fun v hv => by
    obtain ⟨j, hj⟩ := List.getElem?_of_mem hv
    have hjl : j < cs.length := by rw [← hyl]; exact (List.getElem?_eq_some_iff.1 hj).1
    obtain ⟨x, hx, hr⟩ := h2.get (List.getElem?_eq_getElem hjl)
    rw [hj] at hx; cases hx; exact hr.1)
  simp only [Nat.add_zero] at hrun
  have hlen : (splice b.cells o cs).length = b.cells.length := by unfold splice; simp; omega
  have hsz' : (arr.toList.take (im.dl + o) ++ ys ++ arr.toList.drop (im.dl + o + ys.length)).toArray.size = im.tot := by simp; omega
  have W := SR.write h hi hfr hm hrow (arr.toList.take (im.dl + o) ++ ys ++ arr.toList.drop (im.dl + o + ys.length)).toArray hsz' im rfl rfl (Nat.le_refl _) (fun _ => rfl)
    (splice b.cells o cs) b.flat (by rw [hlen]; exact hn) hf (fun j c hj => by
      have hjl : j < b.cells.length := by rw [← hlen]; exact (List.getElem?_eq_some_iff.1 hj).1
      unfold splice at hj
      have hto : (b.cells.take o).length = o := by simp; omega
      have hta : (arr.toList.take (im.dl + o)).length = im.dl + o := by simp; omega
      simp only [List.getElem?_toArray, List.append_assoc]
      rcases Nat.lt_or_ge j o with h1 | h1
      · rw [List.append_assoc, List.getElem?_append_left (by omega), List.getElem?_take_of_lt h1] at hj
        obtain ⟨x, q1, q2, q3, q4⟩ := ok.cel j c hj
        refine ⟨x, ?_, q2, q3, q4⟩
        rw [List.getElem?_append_left (by omega), List.getElem?_take_of_lt (by omega)]
        simpa using row_cell hrow q1
      · rw [List.append_assoc, List.getElem?_append_right (by omega), hto] at hj
        rcases Nat.lt_or_ge (j - o) cs.length with h3 | h3
        · rw [List.getElem?_append_left h3] at hj
          obtain ⟨x, hx, r1, r2, r3⟩ := h2.get hj
          refine ⟨x, ?_, r1, r2, r3⟩
          rw [List.getElem?_append_right (by omega), hta, List.getElem?_append_left (by omega), show im.dl + j - (im.dl + o) = j - o by omega]
          exact hx
        · rw [List.getElem?_append_right h3, List.getElem?_drop, show o + cs.length + (j - o - cs.length) = j by omega] at hj
          obtain ⟨x, q1, q2, q3, q4⟩ := ok.cel j c hj
          refine ⟨x, ?_, q2, q3, q4⟩
          rw [List.getElem?_append_right (by omega), hta, List.getElem?_append_right (by omega), List.getElem?_drop, show im.dl + o + ys.length + (im.dl + j - (im.dl + o) - ys.length) = im.dl + j by omega]
          simpa using row_cell hrow q1)
  rw [hfr]
  have hg : im.gen = b.gen := ok.gen
  refine ⟨_, _, hrun, W.1, ?_⟩
  have := W.2
  rw [hg] at this
  exact this

theorem plain_kept {v : V} (h : v.plain = true) : v.kept = true := by cases v <;> simp_all [V.plain, V.kept]

theorem store_sound (h : SR w S K m H) {t : Nat} {a v : V} {out : Out} (he : evStore P H t a v = some out) {x y : Value} (hx : VR w S B m a x) (hy : VR w S B m v y) :
    out.v = .und ∧ ∃ w' S' m', (Instr.storeAt t x y).run P w = .ok () w' ∧ Step K w S m w' S' m' ∧ SR w' S' K m' (H.sets out.ups) := by
  unfold evStore at he
  split at he
  · rename_i sz i g o hs
    split at he
    · rename_i b hb
      split at he
      · rename_i hc
        obtain ⟨hfr, hlen, ho, hall⟩ := hc
        cases he
        obtain ⟨im, hm, ok, rfl, hi, rfl⟩ := VR.ptr_live h hx hb
        have hk : v.cells.all V.kept = true := by
          refine List.all_eq_true.2 (fun c hc => ?_)
          have hq := List.all_eq_true.1 hall c hc
          cases hfl : b.flat with
          | false => rw [hfl] at hq; exact hq
          | true => rw [hfl] at hq; exact plain_kept hq
        have h2 := hy.cells hk
        obtain ⟨w', m', hrun, st, sr⟩ := write_sound (P := P) h hi hm hfr o v.cells y.cells.toList
          (h2.imp' (fun c x hc r => ⟨r.2.1, r.2.2, fun hf => by
            have hq := List.all_eq_true.1 hall c hc
            rw [hf] at hq
            exact r.1.plain hq⟩)) (by omega)
        refine ⟨rfl, w', S, m', ?_, st, sr⟩
        unfold Instr.storeAt Instr.sureAddr storeVar
        have hsz : y.cells.size = sz := by have := h2.len; simp at this; omega
        simp [run_sizeOf' hs, hsz, hrun]
      · cases he
    · cases he
  · cases he

theorem new_sound (h : SR w S K m H) (d : Nat) {cells : List V} {ys : List Value} (e : TypeId)
    (h2 : All2 (fun c x => x.oneCell' = true ∧ VR w S no m c x) cells ys) :
    let g := nextGen H (.own d)
    Sound P K B w S m H ⟨.ptr (.own d) g 0, [(.own d, ⟨g, cells, false, false⟩)], [.own d]⟩ (do pure (.pointer (some (← newRow e ys.toArray)))) := by
  have A := SR.alloc h (.own d) cells false ys.toArray e (by simp [h2.len]) (fun j c hj => by
    obtain ⟨x, hx, r⟩ := h2.get hj
    exact ⟨x, by simpa using hx, r.1, r.2, fun hf => by cases hf⟩)
  refine ⟨.pointer (some ⟨w.heap.size, 0, none⟩), _, S, _, ?_, A.1, A.2, ?_⟩
  · unfold newRow newObj; rfl
  · have := VR.ptr (w := w.alloc (.cells ys.toArray e)) (S := S) (B := B) (m := Map.put m (.own d) ⟨nextGen H (.own d), w.heap.size, 0, cells.length, ys.toArray.size⟩) (.own d) 0 _ (Map.put_same ..)
    simpa using this

theorem box_sound (h : SR w S K m H) (d : Nat) {v : V} {out : Out} (he : evBox H d v.cells = some out) {y : Value} (hy : VR w S B m v y) (e : TypeId) :
    Sound P K B w S m H out (Instr.box e y) := by
  unfold evBox at he
  split at he
  · rename_i hk
    cases he
    have h2 := (hy.cells hk).imp (R' := fun c x => x.oneCell' = true ∧ VR w S no m c x) (fun c x r => r.2)
    have := new_sound (P := P) (B := B) h d e h2
    simpa [Instr.box, newVar] using this
  · cases he

/-- what is laid and never written again -/
theorem SR.lay (h : SR w S K m H) (arr : Array Value) (ty : TypeId) : Step K w S m (w.alloc (.cells arr ty)) (fun r => S r ∨ r = w.heap.size) m ∧ SR (w.alloc (.cells arr ty)) (fun r => S r ∨ r = w.heap.size) K m H := by
  have st : Step K w S m (w.alloc (.cells arr ty)) (fun r => S r ∨ r = w.heap.size) m :=
    ⟨rfl, rfl, rfl, by simp, fun rb hb => .inl hb, fun rb hb => hb.elim .inl (fun e => .inr (fun hk => by have := h.kin rb hk; omega)), fun rb hb => alloc_old _ _ (hb.elim (h.sub rb) (h.kin rb)), fun i im hm => ⟨im, hm, Nat.le_refl _, fun _ => rfl⟩, KeepsOthers.alloc _ _⟩
  refine ⟨st, ⟨fun rb hb => hb.elim (fun q => Nat.lt_of_lt_of_le (h.sub rb q) st.size) (fun e => by subst e; simp), fun rb hb => Nat.lt_of_lt_of_le (h.kin rb hb) st.size, fun i b hi => ?_, h.non, h.inj, h.own, fun rb hb => hb.elim (fun q => by rw [st.pres rb (.inl q)]; exact h.scel rb q) (fun e => by subst e; exact ⟨_, alloc_row _ _, rfl⟩)⟩⟩
  obtain ⟨im, hm, ok⟩ := h.blk i b hi
  exact ⟨im, hm, ok.mono st (alloc_old _ _ ok.lt) (fun hf hs => hs.elim (ok.thaw hf) (fun e => by have := ok.lt; omega))⟩
theorem boxO_sound (h : SR w S K m H) (hB : ∀ rb, B rb → K rb) (d : Nat) {v : V} {out : Out} (he : boxO H d v = some out) {y : Value} (hy : VR w S B m v y) (e : TypeId) :
    Sound P K B w S m H out (Instr.box e y) := by
  unfold boxO at he
  split at he
  · rename_i xs
    cases he
    obtain ⟨st, sr⟩ := h.lay #[y] e
    have hcr : CR w S B (.list xs true) y := by
      cases hy with
      | fr h => cases h
      | llist _ sz cap a vals h1 h2 h3 h4 => exact .inr ⟨xs, rfl, sz, cap, a, vals, rfl, h1, h2, h3, h4⟩
    have hc1 : y.cells = #[y] := by
      cases hy with
      | fr h => cases h
      | llist _ sz cap a vals h1 h2 h3 h4 => rfl
    refine ⟨.pointer (some ⟨w.heap.size, 0, none⟩), _, _, m, ?_, st, sr, ?_⟩
    · simp [Instr.box, newVar, hc1]
      unfold newRow newObj; rfl
    · refine .lfptr _ w.heap.size 0 (fun _ => y) (.inl (.inr rfl)) (fun j hj => ?_) (fun j c hj => ?_)
      · have : j = 0 := by simpa using hj
        subst this
        rw [cell_of_row _ _ _ _ _ _ (alloc_row _ _)]
        rfl
      · have : j = 0 := by have := (List.getElem?_eq_some_iff.1 hj).1; simpa using this
        subst this
        simp at hj; subst hj
        rcases hcr with hcr | ⟨xs', e1, sz, cap, a, vals, e2, h1, h2, h3, h4⟩
        · cases hcr
        · refine .inr ⟨xs', e1, sz, cap, a, vals, e2, h1, h2, fun hne => ?_, fun j c hj => (h4 j c hj).mono (fun rb hb => st.pres rb (.inl hb)) st.sub⟩
          obtain ⟨rb, o, q1, q2, q3⟩ := h3 hne
          exact ⟨rb, o, q1, q2.imp .inl id, fun j hj => by rw [cell_of_block (st.pres rb (q2.imp id (hB rb)))]; exact q3 j hj⟩
  · exact box_sound h d he hy e

theorem alloc_sound (h : SR w S K m H) (d : Nat) {z : List V} {e : TypeId} (hz : zOf P e = some z) {out : Out} (he : evBox H d z = some out) :
    Sound P K B w S m H out (Instr.alloc e true (.tuple #[])) := by
  obtain ⟨y, hr, rfl⟩ := run_zero' hz w
  obtain ⟨x, w', S', m', h1, h2⟩ := box_sound (P := P) (B := B) h d he (ofVal_VR y) e
  refine ⟨x, w', S', m', ?_, h2⟩
  rw [← h1]
  simp [Instr.alloc, Instr.box, hr]
end
end Go.Proofs.Ytcamcfplcoklkaa.Iv
