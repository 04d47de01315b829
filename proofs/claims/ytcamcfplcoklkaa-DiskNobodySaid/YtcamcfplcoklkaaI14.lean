import Derived.Test.YtcamcfplcoklkaaI13
namespace Go.Proofs.Ytcamcfplcoklkaa.Iv
open Go
section
variable {P : Program} {K B : Nat → Prop} {w : World} {S : Nat → Prop} {m : Map} {H : Heap}
set_option linter.unusedVariables false
set_option linter.unusedSimpArgs false

theorem ofVal_len (x : Value) : (ofVal x).cells.length = x.cells.size := by
  cases x with
  | agg cs => simp [ofVal, V.cells, Value.cells]
  | _ =>
    have e : ∀ y : Value, (sc y).cells = [sc y] := fun y => by
      cases hh : sc y <;> first | rfl | exact (sc_agg _ _ hh).elim
    simp [ofVal, e, Value.cells]

theorem grownCap_ge (w : World) (need old : Nat) (e : TypeId) : need ≤ grownCap w need old e := by unfold grownCap Question.cut; exact Nat.le_add_right _ _

theorem cells_one {cs : List V} {ys : List Value} {fl : Bool} (h : All2 (CellR w S m fl) cs ys) : ∀ v ∈ ys, v.oneCell' = true := fun v hv => by
  obtain ⟨j, hj⟩ := List.getElem?_of_mem hv
  have hjl : j < cs.length := by rw [← h.len]; exact (List.getElem?_eq_some_iff.1 hj).1
  obtain ⟨x, hx, hr⟩ := h.get (List.getElem?_eq_getElem hjl)
  rw [hj] at hx; cases hx; exact hr.1

/-- the cells behind those that are known of a block are written: the block is longer now, and has a new generation -/
theorem extend_sound (h : SR w S K m H) {i : Id} {b : Blk} {im : Im} (hi : H i = some b) (hm : m i = some im) (hfr : b.frz = false) {o q : Nat} {old cs : List V} {ys : List Value}
    (hold : cut b.cells o q = some old) (h2 : All2 (CellR w S m b.flat) cs ys) (htot : im.dl + o + q + cs.length ≤ im.tot) (ho : o ≤ b.cells.length) :
    ∃ w' m', (storeCells ⟨im.rb, im.dl + o + q, none⟩ ys).run P w = .ok () w' ∧ Step K w S m w' S m' ∧ SR w' S K m' (H.set i ⟨b.gen + 1, old ++ cs, false, b.flat⟩) ∧
      m' i = some ⟨b.gen + 1, im.rb, im.dl + o, q + cs.length, im.tot⟩ := by
  obtain ⟨im0, hm0, ok⟩ := h.blk i b hi
  rw [hm] at hm0; cases hm0
  obtain ⟨arr, ty, hrow, hsz⟩ := ok.row
  have hg := ok.gen
  have hyl := h2.len
  have hol := (cut_some hold).2
  have hrun := run_storeCells_at (P := P) im.rb (im.dl + o + q) ty ys 0 arr w hrow (by omega) (cells_one h2)
  simp only [Nat.add_zero] at hrun
  have hsz' : (arr.toList.take (im.dl + o + q) ++ ys ++ arr.toList.drop (im.dl + o + q + ys.length)).toArray.size = im.tot := by simp; omega
  have W := SR.write h hi hfr hm hrow (arr.toList.take (im.dl + o + q) ++ ys ++ arr.toList.drop (im.dl + o + q + ys.length)).toArray hsz' ⟨b.gen + 1, im.rb, im.dl + o, q + cs.length, im.tot⟩ rfl rfl
    (by simp only; omega) (fun e => by simp only at e; omega) (old ++ cs) b.flat (by simp [hol]) (by simp only; omega) (fun j c hj => by
      have hta : (arr.toList.take (im.dl + o + q)).length = im.dl + o + q := by rw [List.length_take, Array.length_toList]; omega
      simp only [List.getElem?_toArray, List.append_assoc]
      rcases Nat.lt_or_ge j q with h1 | h1
      · rw [List.getElem?_append_left (by omega)] at hj
        obtain ⟨x, q1, q2, q3, q4⟩ := ok.cel (o + j) c (cut_get hold hj).1
        refine ⟨x, ?_, q2, q3, q4⟩
        rw [List.getElem?_append_left (by omega), List.getElem?_take_of_lt (by omega)]
        rw [← Nat.add_assoc] at q1
        simpa using row_cell hrow q1
      · rw [List.getElem?_append_right (by omega), hol] at hj
        obtain ⟨x, hx, r1, r2, r3⟩ := h2.get hj
        refine ⟨x, ?_, r1, r2, r3⟩
        have hjl : j - q < ys.length := (List.getElem?_eq_some_iff.1 hx).1
        rw [List.getElem?_append_right (by omega), hta, List.getElem?_append_left (by omega), show im.dl + o + j - (im.dl + o + q) = j - q by omega]
        exact hx)
  exact ⟨_, _, hrun, W.1, W.2, Map.put_same ..⟩

theorem splice_nil (cs : List V) (o : Nat) : splice cs o [] = cs := by simp [splice]
theorem set_self {H : Heap} {i : Id} {b : Blk} (h : H i = some b) : H.set i b = H := by
  funext j; unfold Heap.set; split
  · rename_i e; rw [e, h]
  · rfl

theorem appX_of (h : SR w S K m H) {e sz xT : Nat} {z : List V} {a : V} {cs : List V} {k : Nat} {fl : Bool} {rd : List Id} (hs : szOf P e = some sz) (hz : zOf P e = some z)
    (he : appSrc P H sz z xT a = some (cs, k, fl, rd)) {x : Value} (hx : VR w S B m a x) :
    ∃ news, AppX P w e sz (P.underlying xT) x k news ∧ All2 (CellR w S m fl) cs news ∧ cs.length = k * sz := by
  unfold appSrc at he
  split at he
  · rename_i kd kk n hu
    split at he
    · rename_i hc
      obtain ⟨c1, c2, c3, c4⟩ := hc
      cases he
      have := hx.int_inv; subst this
      obtain ⟨i, zv, hi, hzz, hzs, hz2⟩ := zero_of hz c4
      obtain ⟨i1, hi1, rfl⟩ := szOf_info hs
      rw [hi] at hi1; cases hi1
      have hzc : (Builtin.zeroCells zv.cells n.toNat).size = n.toNat * zv.cells.size := by simp [Builtin.zeroCells]
      refine ⟨(Builtin.zeroCells zv.cells n.toNat).toList, ⟨⟨_, hu⟩, fun q => by rw [hu] at q; simp [notInt] at q, fun _ => ⟨kk, n, rfl, c1, c2, rfl, i, zv, hi, hzz, fun q => ?_, fun q => by simp⟩⟩, ?_, ?_⟩
      · apply List.eq_nil_of_length_eq_zero
        rw [Array.length_toList, hzc, hzs, c3, q]
      · exact rep_cells (hz2 w S m) n.toNat hzc (fun j hj => by simp [Builtin.zeroCells, hj])
      · show (rep n.toNat z).length = _
        rw [show (rep n.toNat z).length = n.toNat * z.length from repl_len z _, c3]
    · cases he
  · cases he
  · rename_i d hd hu hn
    obtain ⟨news, h2, q1, q2, q3⟩ := src_sound (P := P) h he hx
    refine ⟨news, ⟨⟨_, hu⟩, fun _ => ⟨q1, fun w' hw => ?_⟩, fun q => ?_⟩, h2, q3⟩
    · have := q2 w' hw k (Nat.le_refl _)
      rwa [List.take_of_length_le (by rw [h2.len, q3]; exact Nat.le_refl _)] at this
    · rw [hu] at q
      simp only [Option.any_some] at q
      cases d with
      | int kd => first | exact absurd rfl (hd kd) | exact absurd rfl (hn kd) | exact (hd _ rfl).elim | exact (hn _ rfl).elim
      | _ => simp [notInt] at q
  · cases he

theorem lim47_le {n k by_ : Nat} (h : (n + k) * by_ ≤ lim47) : (n + k) * by_ ≤ 140737488355328 := by
  have : lim47 = 35184372088832 := rfl
  omega

/-- a row that is copied to a new block with room behind -/
theorem grow_sound (h : SR w S K m H) (d : Id) {sT xT ty e sz by_ : Nat} {ts : Array TypeId} (h0 : ts[0]? = some sT) (h1 : ts[1]? = some xT) (ht : P.underlying sT = some (.slice e)) (hs : szOf P e = some sz) (hby : byOf P e = some by_)
    {z : List V} (hz : zOf P e = some z) (hzl : z.length = sz) (hpos : 0 < by_) {rd : List Id} {x : Value} {k : Nat} {news : List Value} (hx : AppX P w e sz (P.underlying xT) x k news) {a : Option Addr} {n cap : Nat}
    (hb : (n + k) * by_ ≤ lim47) (hcap : cap < n + k) {olds : List Value} (ho : ∀ w' : World, w'.heap = w.heap → (Builtin.firstCells sz n (.slice a n cap)).run P w' = .ok olds.toArray w')
    {cs old : List V} {fl : Bool} (h2 : All2 (CellR w S m fl) (old ++ cs) (olds ++ news)) (hlen : (old ++ cs).length = (n + k) * sz) :
    Sound P K B w S m H ⟨.sl d (nextGen H d) 0 (n + k) sz none, [(d, ⟨nextGen H d, old ++ cs, false, fl⟩)], rd⟩ (Builtin.append_ ts ty #[.slice a n cap, x]) := by
  obtain ⟨i, zv, hi, hzz, rfl⟩ := zOf_info hz
  have hrun := run_app_grow (P := P) (ty := ty) h0 h1 ht hs hx hby hpos a (lim47_le hb) hcap ho hi hzz
  have hge := grownCap_ge w (n + k) cap e
  have hzs : zv.cells.size = sz := by rw [← ofVal_len, hzl]
  have hsz : (olds.toArray ++ (news.toArray ++ Builtin.zeroCells zv.cells (grownCap w (n + k) cap e - (n + k)))).size = grownCap w (n + k) cap e * sz := by
    have hl := h2.len
    rw [hlen, List.length_append] at hl
    simp only [Array.size_append, List.size_toArray, Builtin.zeroCells, Array.size_map, Array.size_range, hzs]
    have : (grownCap w (n + k) cap e - (n + k)) * sz + (n + k) * sz = grownCap w (n + k) cap e * sz := by rw [← Nat.add_mul]; congr 1; omega
    omega
  obtain ⟨m', st, sr, hv⟩ := fresh_sound (B := B) h d (w' := w.drew) (arr := olds.toArray ++ (news.toArray ++ Builtin.zeroCells zv.cells (grownCap w (n + k) cap e - (n + k)))) (lim := none) (sz := sz) (n := n + k) (cap := grownCap w (n + k) cap e) e h2
    (fun j x hj => by
      have hjl := (List.getElem?_eq_some_iff.1 hj).1
      rw [List.length_append] at hjl
      have e : olds.toArray ++ news.toArray = (olds ++ news).toArray := by simp
      rw [← Array.append_assoc, Array.getElem?_append_left (by rw [e]; simpa using hjl), e]
      simpa using hj)
    (by simp only [List.length_append, Array.size_append, List.size_toArray]; omega) (.inr rfl) hlen hge hsz.symm (fun c e => by cases e)
  exact ⟨_, _, S, m', hrun, st, sr, hv⟩

/-- nothing is appended -/
theorem app_nothing {sT xT ty e sz by_ : Nat} {ts : Array TypeId} (h0 : ts[0]? = some sT) (h1 : ts[1]? = some xT) (ht : P.underlying sT = some (.slice e)) (hs : szOf P e = some sz) (hby : byOf P e = some by_)
    {x : Value} {news : List Value} (hx : AppX P w e sz (P.underlying xT) x 0 news) (hn : news = []) (a : Option Addr) {n cap : Nat} (hc : n ≤ cap) :
    (Builtin.append_ ts ty #[.slice a n cap, x]).run P w = .ok (.slice a n cap) w := by
  rw [run_app_in (P := P) h0 h1 ht hs hx hby (by simp) a (by omega)]
  subst hn
  cases a <;> simp [storeCells]

theorem append_sound (h : SR w S K m H) (d : Nat) {sT xT ty : Nat} {ts : Array TypeId} (h0 : ts[0]? = some sT) (h1 : ts[1]? = some xT) {a b : V} {out : Out} (he : evAppend P H d sT xT a b = some out) {x y : Value}
    (hx : VR w S B m a x) (hy : VR w S B m b y) : Sound P K B w S m H out (Builtin.append_ ts ty #[x, y]) := by
  unfold evAppend at he
  split at he
  · rename_i e ht
    split at he
    · rename_i sz by_ z hs hby hz
      split at he
      · rename_i cs k fl rd hsrc
        obtain ⟨news, hA, h2, hcl⟩ := appX_of (P := P) h hs hz hsrc hy
        have hnl := h2.len
        split at he
        · rename_i hq
          obtain ⟨hsz, hbp, hzl⟩ := hq
          have zero : k = 0 → cs = [] ∧ news = [] := fun e => by
            subst e
            simp only [Nat.zero_mul] at hcl
            exact ⟨List.eq_nil_of_length_eq_zero hcl, List.eq_nil_of_length_eq_zero (by omega)⟩
          split at he
          · -- nils
            have := hx.nils_inv; subst this
            split at he
            · rename_i hk
              cases he
              subst hk
              exact Sound.pure h (app_nothing h0 h1 ht hs hby hA (zero rfl).2 none (Nat.le_refl _)) (.fr .nils)
            · rename_i hk
              split at he
              · rename_i hb
                cases he
                have := grow_sound (B := B) (ty := ty) (rd := .own d :: rd) h (.own d) h0 h1 ht hs hby hz hzl hbp hA (a := none) (n := 0) (cap := 0) (by simpa using hb) (by omega) (olds := []) (fun w' hw => by simp [Builtin.firstCells]) (old := []) (fl := fl) (by simpa using h2) (by simpa using hcl)
                simpa using this
              · cases he
          · -- emp
            obtain ⟨a0, rfl⟩ := hx.emp_inv
            split at he
            · rename_i hk
              cases he
              subst hk
              exact Sound.pure h (app_nothing h0 h1 ht hs hby hA (zero rfl).2 a0 (Nat.le_refl _)) (.fr (.emp _))
            · rename_i hk
              split at he
              · rename_i hb
                cases he
                have := grow_sound (B := B) (ty := ty) (rd := .own d :: rd) h (.own d) h0 h1 ht hs hby hz hzl hbp hA (a := a0) (n := 0) (cap := 0) (by simpa using hb) (by omega) (olds := []) (fun w' hw => by cases a0 <;> simp [Builtin.firstCells, loadCells, loadCellsFrom]) (old := []) (fl := fl) (by simpa using h2) (by simpa using hcl)
                simpa using this
              · cases he
          · -- list
            rename_i xs l
            split at he
            · rename_i hk
              cases he
              subst hk
              obtain ⟨sz', cap, a0, vals, rfl, q1, q2, q3, q4⟩ := hx.list_inv
              exact Sound.pure h (app_nothing h0 h1 ht hs hby hA (zero rfl).2 a0 q1) hx
            · cases he
          · -- sl
            rename_i i g o n s2 lim
            split at he
            · rename_i b hb
              split at he
              · rename_i hc
                obtain ⟨rfl, hfr, hflat, hbytes⟩ := hc
                obtain ⟨im, a0, cap, hm, ok, rfl, hi, rfl, ha, q1, q2, q3, q4, q5⟩ := VR.sl_live h hx hb
                have hn := ok.n
                have hf := ok.fit
                have hg := ok.gen
                have h2f : All2 (CellR w S m b.flat) cs news := h2.imp (fun c x r => ⟨r.1, r.2.1, fun e => r.2.2 (hflat e)⟩)
                have hkb : k * by_ ≤ 281474976710656 := by
                  have := lim47_le hbytes
                  have : k * by_ ≤ (n + k) * by_ := Nat.mul_le_mul_right _ (by omega)
                  omega
                have hns : n * s2 + k * s2 = (n + k) * s2 := (Nat.add_mul ..).symm
                -- written in place, within what is known
                have inplace : ∀ (lim' : Option Nat), (∀ c, lim' = some c → cap = c) → (lim' = none → im.n ≤ o + cap * s2) → n + k ≤ cap → o + (n + k) * s2 ≤ b.cells.length →
                    Sound P K B w S m H ⟨.sl i im.gen o (n + k) s2 lim', [(i, { b with cells := splice b.cells (o + n * s2) cs })], i :: rd⟩ (Builtin.append_ ts ty #[.slice (some a0) n cap, y]) := by
                  intro lim' hl1 hl2 hnk hfit
                  have hr := run_app_in (P := P) (ty := ty) h0 h1 ht hs hA hby hkb (some a0) hnk
                  rcases Nat.eq_zero_or_pos cap with e0 | e0
                  · have hk0 : k = 0 := by omega
                    obtain ⟨e1, e2⟩ := zero hk0
                    subst hk0 e1 e2
                    refine ⟨.slice (some a0) (n + 0) cap, w, S, m, by rw [hr]; rfl, Step.refl .., ?_, ?_⟩
                    · simp only [Heap.sets, splice_nil]
                      rw [show ({ gen := b.gen, cells := b.cells, frz := b.frz, flat := b.flat } : Blk) = b from rfl, set_self hi]
                      exact h
                    · exact VR.sl i o _ s2 lim' im a0 cap hm ha hnk (by omega) q3 hl2 hl1
                  · rw [ha e0] at hr ⊢
                    obtain ⟨w', m', hrun, st, sr⟩ := write_sound (P := P) h hi hm hfr (o + n * s2) cs news h2f (by omega)
                    have hm' : m' i = some im := by
                      obtain ⟨im', hm', hge, heq⟩ := st.ext i im hm
                      obtain ⟨b', hb', ok'⟩ := sr.of_map hm'
                      rw [Heap.set_same] at hb'; cases hb'
                      have := ok'.gen
                      rw [hm', heq (by simp only at this; omega)]
                    refine ⟨_, w', S, m', ?_, st, sr, VR.sl i o _ s2 lim' im _ cap hm' (fun _ => rfl) hnk (by omega) q3 hl2 hl1⟩
                    rw [hr]
                    simp only [add_eq]
                    rw [show im.dl + o + n * s2 = im.dl + (o + n * s2) by omega, hrun]
                    rfl
                have reads : ∀ xs : List Value, xs.length = n * s2 → (∀ (j : Nat) (x : Value), xs[j]? = some x → w.cell? ⟨im.rb, im.dl + o + j, none⟩ = some x) →
                    ∀ w' : World, w'.heap = w.heap → (Builtin.firstCells s2 n (.slice (some a0) n cap)).run P w' = .ok xs.toArray w' := by
                  intro xs hxl hxq w' hw
                  rcases Nat.eq_zero_or_pos n with e | e
                  · subst e
                    simp only [Nat.zero_mul] at hxl
                    have : xs = [] := List.eq_nil_of_length_eq_zero hxl
                    subst this
                    simp [Builtin.firstCells, loadCells, loadCellsFrom]
                  · rw [ha (by omega)]
                    simp only [Builtin.firstCells]
                    exact run_loadCells_at hw hxl hxq
                split at he
                · split at he
                  · rename_i hfit
                    cases he
                    have hnk : n + k ≤ cap := by
                      have := q4 rfl
                      have : (n + k) * s2 ≤ cap * s2 := by omega
                      exact Nat.le_of_mul_le_mul_right this hsz
                    exact inplace none (fun c e => by cases e) q4 hnk hfit
                  · rename_i hfit
                    split at he
                    · rename_i old hold
                      cases he
                      have hol := (cut_some hold).2
                      obtain ⟨xs, r2, hxl, hxq⟩ := ok.read hold
                      rw [hg]
                      by_cases hnk : n + k ≤ cap
                      · -- there is room
                        have hcp : 0 < cap := by
                          rcases Nat.eq_zero_or_pos cap with e | e
                          · have hk0 : k = 0 := by omega
                            have : n = 0 := by omega
                            subst hk0 this e
                            simp at hfit
                            omega
                          · exact e
                        have hr := run_app_in (P := P) (ty := ty) h0 h1 ht hs hA hby hkb (some a0) hnk
                        rw [ha hcp] at hr ⊢
                        have hcs : (n + k) * s2 ≤ cap * s2 := Nat.mul_le_mul_right _ hnk
                        obtain ⟨w', m', hrun, st, sr, hm'⟩ := extend_sound (P := P) h hi hm hfr hold h2f (by omega) (by omega)
                        refine ⟨.slice (some ⟨im.rb, im.dl + o, none⟩) (n + k) cap, w', S, m', ?_, st, sr, ?_⟩
                        · rw [hr]
                          simp only [add_eq]
                          rw [hrun]
                          rfl
                        · have := VR.sl (w := w') (S := S) (B := B) (m := m') i 0 (n + k) s2 none _ ⟨im.rb, im.dl + o, none⟩ cap hm' (fun _ => rfl) hnk (by simp only; omega) (by simp only; omega) (fun _ => by simp only; omega) (fun c e => by cases e)
                          exact this
                      · -- there is none: a new block
                        have hng : nextGen H i = b.gen + 1 := by simp [nextGen, hi]
                        have := grow_sound (B := B) (ty := ty) (rd := i :: rd) h i h0 h1 ht hs hby hz hzl hbp hA (a := some a0) hbytes (by omega) (olds := xs) (reads xs hxl hxq) (old := old) (fl := b.flat)
                          ((r2.imp (fun c x r => ⟨r.2.1, r.1, r.2.2⟩)).app h2f) (by rw [List.length_append, hol, hcl]; omega)
                        rw [hng] at this
                        exact this
                    · cases he
                · rename_i c
                  split at he
                  · rename_i hnk
                    split at he
                    · rename_i hfit
                      cases he
                      have hcc := q5 c rfl
                      exact inplace (some c) q5 (fun e => by cases e) (by omega) hfit
                    · cases he
                  · rename_i hnk
                    split at he
                    · rename_i old hold
                      cases he
                      have hol := (cut_some hold).2
                      obtain ⟨xs, r2, hxl, hxq⟩ := ok.read hold
                      have hcc := q5 c rfl
                      exact grow_sound (B := B) (ty := ty) h (.own d) h0 h1 ht hs hby hz hzl hbp hA (a := some a0) hbytes (by omega) (olds := xs) (reads xs hxl hxq) (old := old) (fl := b.flat && fl)
                        ((r2.imp (R' := CellR w S m (b.flat && fl)) (fun c x r => ⟨r.2.1, r.1, fun e => r.2.2 (by simp at e; exact e.1)⟩)).app (h2.imp (fun c x r => ⟨r.1, r.2.1, fun e => r.2.2 (by simp at e; exact e.2)⟩))) (by rw [List.length_append, hol, hcl]; omega)
                    · cases he
              · cases he
            · cases he
          · cases he
        · cases he
      · cases he
    · cases he
  · cases he
end
end Go.Proofs.Ytcamcfplcoklkaa.Iv
