import Derived.Test.YtcamcfplcoklkaaI14
namespace Go.Proofs.Ytcamcfplcoklkaa.Iv
open Go
section
variable {P : Program} {K B : Nat → Prop} {w : World} {S : Nat → Prop} {m : Map} {H : Heap}
set_option linter.unusedVariables false
set_option linter.unusedSimpArgs false

theorem empty_dst {v : V} (hv : v = .nils ∨ v = .emp ∨ ∃ l, v = .list [] l) {x : Value} (hx : VR w S B m v x) : ∃ a cap, x = .slice a 0 cap := by
  rcases hv with rfl | rfl | ⟨l, rfl⟩
  · exact ⟨_, _, hx.nils_inv⟩
  · obtain ⟨a, e⟩ := hx.emp_inv; exact ⟨_, _, e⟩
  · obtain ⟨sz, cap, a, vals, e, _⟩ := hx.list_inv; exact ⟨_, _, e⟩

theorem copy_sound (h : SR w S K m H) {dT ty : Nat} {ts : Array TypeId} (h0 : ts[0]? = some dT) {a b : V} {out : Out} (he : evCopy P H dT a b = some out) {x y : Value}
    (hx : VR w S B m a x) (hy : VR w S B m b y) : Sound P K B w S m H out (Builtin.copy_ ts ty #[x, y]) := by
  unfold evCopy at he
  split at he
  · rename_i e ht
    split at he
    · rename_i sz hs
      split at he
      · rename_i cs k fl rd hsrc
        obtain ⟨news, h2, q1, q2, hcl⟩ := src_sound (P := P) h hsrc hy
        have none_ : (a = .nils ∨ a = .emp ∨ ∃ l, a = .list [] l) → Sound P K B w S m H ⟨.int .i64 0, [], rd⟩ (Builtin.copy_ ts ty #[x, y]) := fun hv => by
          obtain ⟨a0, cap, rfl⟩ := empty_dst hv hx
          refine Sound.pure h (x := .int .i64 0) ?_ .i
          have q3 := q2 w rfl 0 (Nat.zero_le _)
          simp only [Nat.zero_mul, List.take_zero] at q3
          cases a0 <;> simp [Builtin.copy_, h0, run_underlying ht, run_sizeOf' hs, q1, q3, goInt, storeCells]
        split at he
        · cases he; exact none_ (.inl rfl)
        · cases he; exact none_ (.inr (.inl rfl))
        · cases he; exact none_ (.inr (.inr ⟨_, rfl⟩))
        · rename_i i g o n s2 lim
          split at he
          · rename_i b hb
            split at he
            · rename_i hc
              obtain ⟨rfl, hsz, hfr, hflat, hcs, ho⟩ := hc
              cases he
              obtain ⟨im, a0, cap, hm, ok, rfl, hi, rfl, ha, p1, p2, p3, p4, p5⟩ := VR.sl_live h hx hb
              have q3 := q2 w rfl (min k n) (Nat.min_le_left ..)
              have hmn : min k n * s2 ≤ n * s2 := Nat.mul_le_mul_right _ (Nat.min_le_right ..)
              have h2f : All2 (CellR w S m b.flat) (cs.take (min k n * s2)) (news.take (min k n * s2)) := (h2.take _).imp (fun c x r => ⟨r.1, r.2.1, fun e => r.2.2 (hflat e)⟩)
              have hrun0 : (Builtin.copy_ ts ty #[.slice (some a0) n cap, y]).run P w = ((storeCells a0 (news.take (min k n * s2))).run P w).andThen fun _ w' => .ok (.int .i64 (min k n : Nat)) w' := by
                simp [Builtin.copy_, h0, run_underlying ht, run_sizeOf' hs, q1, q3, goInt]
              rcases Nat.eq_zero_or_pos cap with e0 | e0
              · have hz : min k n = 0 := by omega
                refine ⟨.int .i64 (min k n : Nat), w, S, m, by rw [hrun0, hz]; simp [storeCells], Step.refl .., ?_, .i⟩
                simp only [Heap.sets, hz, Nat.zero_mul, List.take_zero, splice_nil]
                rw [show ({ gen := b.gen, cells := b.cells, frz := b.frz, flat := b.flat } : Blk) = b from rfl, set_self hi]
                exact h
              · rw [ha e0] at hrun0 ⊢
                obtain ⟨w', m', hrun, st, sr⟩ := write_sound (P := P) h hi hm hfr o _ _ h2f (by rw [List.length_take]; omega)
                refine ⟨_, w', S, m', ?_, st, sr, .i⟩
                rw [hrun0, hrun]
                rfl
            · cases he
          · cases he
        · cases he
      · cases he
    · cases he
  · cases he

theorem clear_sound (h : SR w S K m H) {t ty : Nat} {ts : Array TypeId} (h0 : ts[0]? = some t) {a : V} {out : Out} (he : evClear P H t a = some out) {x : Value}
    (hx : VR w S B m a x) : Sound P K B w S m H out (Builtin.clear_ ts ty #[x]) := by
  have tup0 : ∀ {w S m}, VR w S B m (.tup []) (.tuple #[]) := fun {w S m} => VR.tup_mk (xs := []) trivial
  unfold evClear at he
  split at he
  · rename_i e ht
    split at he
    · rename_i sz z hs hz
      have none_ : (a = .nils ∨ a = .emp ∨ ∃ l, a = .list [] l) → Sound P K B w S m H ⟨.tup [], [], []⟩ (Builtin.clear_ ts ty #[x]) := fun hv => by
        obtain ⟨a0, cap, rfl⟩ := empty_dst hv hx
        refine Sound.pure h (x := .tuple #[]) ?_ tup0
        cases a0 <;> simp [Builtin.clear_, h0, run_underlying ht]
      split at he
      · cases he; exact none_ (.inl rfl)
      · cases he; exact none_ (.inr (.inl rfl))
      · cases he; exact none_ (.inr (.inr ⟨_, rfl⟩))
      · rename_i i g o n s2 lim
        split at he
        · rename_i b hb
          split at he
          · rename_i hc
            obtain ⟨rfl, hsz, hfr, hzl, hzp, ho⟩ := hc
            cases he
            obtain ⟨im, a0, cap, hm, ok, rfl, hi, rfl, ha, p1, p2, p3, p4, p5⟩ := VR.sl_live h hx hb
            rcases Nat.eq_zero_or_pos n with e0 | e0
            · subst e0
              refine ⟨.tuple #[], w, S, m, by simp [Builtin.clear_, h0, run_underlying ht], Step.refl .., ?_, tup0⟩
              simp only [Heap.sets, rep, List.replicate_zero, List.flatten_nil, splice_nil]
              rw [show ({ gen := b.gen, cells := b.cells, frz := b.frz, flat := b.flat } : Blk) = b from rfl, set_self hi]
              exact h
            · obtain ⟨i0, zv, hi0, hzz, hzs, hz2⟩ := zero_of hz hzp
              have hzc : (Builtin.zeroCells zv.cells n).size = n * zv.cells.size := by simp [Builtin.zeroCells]
              have h2 := rep_cells (hz2 w S m) n hzc (fun j hj => by simp [Builtin.zeroCells, hj])
              have h2f : All2 (CellR w S m b.flat) (rep n z) (Builtin.zeroCells zv.cells n).toList := h2.imp (fun c x r => ⟨r.1, r.2.1, fun e => r.2.2 rfl⟩)
              rw [ha (by omega)]
              obtain ⟨w', m', hrun, st, sr⟩ := write_sound (P := P) h hi hm hfr o _ _ h2f (by rw [show (rep n z).length = n * z.length from repl_len z _, hzl]; omega)
              refine ⟨.tuple #[], w', S, m', ?_, st, sr, tup0⟩
              have hzr : (zeroValue e).run P w = .ok zv w := by unfold zeroValue typeInfo; simp [hi0, hzz]
              have hn0 : n ≠ 0 := by omega
              obtain ⟨n', rfl⟩ : ∃ q, n = q + 1 := ⟨n - 1, by omega⟩
              simp [Builtin.clear_, h0, run_underlying ht, hzr, hrun]
          · cases he
        · cases he
      · cases he
    · cases he
  · cases he

/-! ### literals of slices -/
theorem VR.one_of_kept {v : V} {x : Value} (h : VR w S B m v x) (hk : v.kept = true) : x.oneCell' = true := by
  cases h with
  | fr h => exact h.one
  | und => simp [V.kept] at hk
  | agg => simp [V.kept] at hk
  | tup => simp [V.kept] at hk
  | _ => rfl
theorem zero_VR {e : Nat} {z : List V} (hz : zOf P e = some z) : ∃ zv : Value, (∀ w : World, (zeroValue e).run P w = .ok zv w) ∧ zv.cells.size = z.length ∧ ∀ (w : World) (S B : Nat → Prop) (m : Map), All2 (VR w S B m) z zv.cells.toList := by
  obtain ⟨i, zv, hi, hzz, rfl⟩ := zOf_info hz
  refine ⟨zv, fun w => by unfold zeroValue typeInfo; simp [hi, hzz], (ofVal_len zv).symm, fun w S B m => ?_⟩
  cases zv with
  | agg cs =>
    refine All2.of (by simp [ofVal, V.cells, Value.cells]) (fun j c x h1 h2 => ?_)
    simp only [ofVal, V.cells, List.getElem?_map, Value.cells] at h1 h2
    rw [h2] at h1
    simp only [Option.map_some, Option.some.injEq] at h1
    subst h1; exact sc_VR x
  | _ =>
    have e : ∀ y : Value, (sc y).cells = [sc y] := fun y => by
      cases hh : sc y <;> first | rfl | exact (sc_agg _ _ hh).elim
    simp only [ofVal, e, Value.cells]
    exact ⟨sc_VR _, trivial⟩

theorem keep1_form {v : V} {o : Out} (he : keep1 H v = some o) : o.v ≠ .und ∧ ∀ cs, o.v ≠ .tup cs := by
  unfold keep1 at he
  split at he
  · split at he
    · split at he
      · split at he
        · cases he; exact ⟨by simp, by simp⟩
        · cases he
      · cases he
    · cases he
  · split at he
    · cases he
    · cases he; exact ⟨by simp, by simp⟩
  · cases he; exact ⟨by simp, by simp⟩
  · cases he; exact ⟨by simp, by simp⟩
  · split at he
    · cases he
    · cases he; exact ⟨by simp, by simp⟩
  · cases he
  · cases he
  · cases he
  · split at he
    · cases he; exact ⟨by simp, by simp⟩
    · cases he
  · rename_i n1 n2 n3 n4 n5 n6 n7 n8 n9
    cases he
    exact ⟨fun e => n6 e, fun cs e => n7 _ e⟩
theorem keepV_form {v : V} {o : Out} (he : keepV H v = some o) : o.v ≠ .und ∧ ∀ cs, o.v ≠ .tup cs := by
  unfold keepV at he
  split at he
  · split at he
    · cases he; exact ⟨by simp, by simp⟩
    · cases he
  · exact keep1_form he

theorem keepParts_sound : ∀ {ps : List (Nat × V)} {S : Nat → Prop} {H1 : Heap} (hF : FrzOf H H1) (h : SR w S K m H1) {o : List (Nat × List V) × List (Id × Blk) × List Id} (he : keepParts H ps = some o) {qs : List (Nat × Value)}
    (hx : PartsR (VR w S B m) ps qs), ∃ S', Step K w S m w S' m ∧ SR w S' K m (H1.sets o.2.1) ∧ FrzOf H (H1.sets o.2.1) ∧ o.1.length = qs.length ∧
      ∀ (j : Nat) p q, o.1[j]? = some p → qs[j]? = some q → p.1 = q.1 ∧ All2 (VR w S' no m) p.2 q.2.cells.toList
  | [], S, H1, hF, h, o, he, qs, hx => by
    simp [keepParts] at he; subst he
    have : qs = [] := List.eq_nil_of_length_eq_zero hx.1.symm
    subst this
    exact ⟨S, Step.refl .., h, hF, rfl, fun j p q e => by simp at e⟩
  | (i, v) :: r, S, H1, hF, h, o, he, [], hx => by have := hx.1; simp at this
  | (i, v) :: r, S, H1, hF, h, o, he, (i', x) :: qs, hx => by
    simp only [keepParts] at he
    split at he
    · rename_i v' u d hv
      split at he
      · rename_i vs us ds hr
        cases he
        obtain ⟨e1, hvx⟩ := hx.2 0 _ _ rfl rfl
        obtain ⟨S1, st1, sr1, hF1, hv1⟩ := keepV_sound hF h hv hvx
        have hform := keepV_form hv
        obtain ⟨S2, st2, sr2, hF2, hl2, hv2⟩ := keepParts_sound hF1 sr1 hr (qs := qs) ⟨by have := hx.1; simpa using this, fun j p q h1 h2 => by
          obtain ⟨a, b⟩ := hx.2 (j + 1) p q (by simpa using h1) (by simpa using h2)
          exact ⟨a, b.monoS st1⟩⟩
        refine ⟨S2, st1.trans st2, by rw [sets_app]; exact sr2, by rw [sets_app]; exact hF2, by simp [hl2], fun j p q h1 h2 => ?_⟩
        cases j with
        | zero =>
          simp at h1 h2; subst h1 h2
          exact ⟨e1, (cells_of hv1 hform.1 hform.2).imp (fun c x r => r.monoS st2)⟩
        | succ j => exact hv2 j p q (by simpa using h1) (by simpa using h2)
      · cases he
    · cases he

theorem fillV_eq (sz : Nat) : ∀ (ps : List (Nat × List V)) (cells : List V), fillV sz ps cells = fillF (fun i => some (i * sz, sz)) (ps.map fun p => (p.1, V.agg p.2)) cells
  | [], cells => rfl
  | (i, cs) :: r, cells => by
    simp only [fillV, List.map_cons, fillF]
    by_cases h : cs.length = sz ∧ i * sz + sz ≤ cells.length
    · have h' : (V.agg cs).cells.length = sz ∧ i * sz + sz ≤ cells.length := h
      rw [if_pos h, if_pos h']; exact fillV_eq sz r _
    · have h' : ¬ ((V.agg cs).cells.length = sz ∧ i * sz + sz ≤ cells.length) := h
      rw [if_neg h, if_neg h']

theorem nextGen_frz {H H1 : Heap} (hF : FrzOf H H1) (i : Id) : nextGen H1 i = nextGen H i := by
  rcases hF i with e | ⟨b, e1, e2⟩
  · simp [nextGen, e]
  · simp [nextGen, e1, e2]

theorem buildSlice_sound (h : SR w S K m H) (d : Nat) {t len : Nat} {ps : List (Nat × V)} {out : Out} (he : evBuildSlice P H d t len ps = some out) {qs : Array (Nat × Value)}
    (hp : PartsR (VR w S B m) ps qs.toList) : Sound P K B w S m H out (Instr.buildSlice t len qs) := by
  unfold evBuildSlice at he
  split at he
  · rename_i e ht
    split at he
    · rename_i sz z hs hz
      split at he
      · rename_i hc
        obtain ⟨c1, c2, c3⟩ := hc
        split at he
        · rename_i ps' u rd hk
          split at he
          · rename_i cells hf
            split at he
            · rename_i hkept
              cases he
              obtain ⟨S1, st1, sr1, hF1, hl1, hv1⟩ := keepParts_sound (FrzOf.refl H) h hk hp
              simp only at sr1 hF1 hl1 hv1
              obtain ⟨zv, hzr, hzs, hz2⟩ := zero_VR hz
              rw [fillV_eq] at hf
              have hzsz : zv.cells.size = sz := by rw [hzs, c3]
              have hzero : All2 (VR w S1 no m) (rep len z) ((Array.range (len * sz)).map (zv.cells[· % zv.cells.size]!)).toList :=
                rep_cells (hz2 w S1 no m) len (by simp [hzsz]) (fun j hj => by
                  rw [hzsz] at hj
                  simp [hj])
              obtain ⟨r', hr, h2⟩ := fill_sound hf (by rw [List.length_map]; exact hl1) (fun j p q e1 e2 => by
                rw [List.getElem?_map] at e1
                cases hp' : ps'[j]? with
                | none => rw [hp'] at e1; cases e1
                | some p' =>
                  rw [hp'] at e1
                  simp only [Option.map_some, Option.some.injEq] at e1
                  subst e1
                  exact hv1 j p' q hp' e2) hzero
              have hlen : cells.length = len * sz := by
                have hh : ∀ (ps : List (Nat × V)) (c r : List V), fillF (fun i => some (i * sz, sz)) ps c = some r → r.length = c.length := by
                  intro ps
                  induction ps with
                  | nil => intro c r e; simp [fillF] at e; subst e; rfl
                  | cons p ps ih =>
                    intro c r e
                    obtain ⟨i, v⟩ := p
                    simp only [fillF] at e
                    split at e
                    · rename_i q; rw [ih _ _ e]; unfold splice; simp; omega
                    · cases e
                rw [hh _ _ _ hf, show (rep len z).length = len * z.length from repl_len z _, c3]
              have h2c : All2 (CellR w S1 m (cells.all V.plain)) cells r'.toList := h2.imp' (fun c x hc r => ⟨r.one_of_kept (List.all_eq_true.1 hkept c hc), r, fun e => r.plain (List.all_eq_true.1 e c hc)⟩)
              have hrs : r'.size = len * sz := by have := h2c.len; rw [hlen] at this; simpa using this
              obtain ⟨m', st, sr, hv⟩ := fresh_sound (B := B) sr1 (.own d) (w' := w) (arr := r') (lim := some len) (sz := sz) (n := len) (cap := len) e h2c (fun j x hj => by simpa using hj) (by simp) (.inl rfl) hlen (Nat.le_refl _) hrs.symm (fun c e => by cases e; rfl)
              rw [nextGen_frz hF1] at sr hv
              refine ⟨_, _, S1, m', ?_, st1.trans st, ?_, hv⟩
              · have hbig : ¬ (16777216 < len * sz) := by omega
                by_cases h0 : len * sz = 0
                · have hl0 : len = 0 := by
                    rcases Nat.mul_eq_zero.1 h0 with q | q
                    · exact q
                    · omega
                  subst hl0
                  have e0 : ∀ f : Nat → Value, (Array.range (0 * sz)).map f = #[] := fun f => by apply Array.ext'; simp
                  have e1 : ∀ f : Nat → Value, (Array.range 0).map f = #[] := fun f => by apply Array.ext'; simp
                  rw [e0] at hr
                  simp [Instr.buildSlice, run_underlying ht, run_sizeOf' hs, newRow, hr, e0, e1]
                · simp [Instr.buildSlice, run_underlying ht, run_sizeOf' hs, hbig, h0, hzr, newRow, hr]
              · simp only [sets_app]
                exact sr
            · cases he
          · cases he
        · cases he
      · cases he
    · cases he
  · cases he
end
end Go.Proofs.Ytcamcfplcoklkaa.Iv
