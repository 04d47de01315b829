import Derived.Test.YtcamcfplcoklkaaI22
import Derived.RangeFuncNested
import Derived.OrdersIn
import Derived.TacticsIn
namespace Go.Proofs.Ytcamcfplcoklkaa.Iv
open Go
set_option linter.unusedVariables false
set_option linter.unusedSimpArgs false

/-! ### the fence that lets all in, within a round or not -/
def Fw (r : Option Nat) : Fence := { Fence.wide with round := r }
theorem fenced_fw (P : Program) (r : Option Nat) (m : Machine) : m.fenced P (Fw r) := fenced_wide P m
theorem room_fw (r : Option Nat) (n : Nat) : (Fw r).room n := room_wide n
theorem callsIn_fw {r : Option Nat} {n : Nat} {P : Program} {f : FuncId} {args : Array Value} {w : World} {R : Ending → World → Prop} : CallsIn (Fw r) n P f args w R ↔ Calls P f args w R :=
  callsIn_wide
theorem rowsIn_fw {r : Option Nat} {n : Nat} {P : Program} {row : String} {args : Array Value} {w : World} {R : Value → World → Prop} (h : Rows P row args w R) : RowsIn (Fw r) n P row args w R :=
  fun c cs _ => let ⟨v, w', q, s⟩ := h c cs; ⟨v, w', q, stepsIn_wide.2 s⟩
theorem oper_fw {r : Option Nat} {n : Nat} {P : Program} {o : Oper} {a : Act} {w : World} {K : Act → World → Prop} {Q : Exit → Act → World → Prop} (hd : ∀ c, o.op ≠ .defer c) (h : o.wp P a w K Q) : o.wpIn (Fw r) n P a w K Q := by
  refine ⟨fun _ _ => trivial, ?_⟩
  have e : o.semAt (Fw r).round a.eval = execOp a.eval o := by
    cases r with
    | none => exact Oper.semAt_none ..
    | some l => exact Oper.semAt_some l _ o hd
  rw [e]
  unfold Oper.wp at h
  generalize (execOp a.eval o).run P w = q at *
  cases q with
  | ok x w' =>
    cases x <;> simp only [Oper.upon, Oper.uponIn] at h ⊢ <;>
      first
        | exact h
        | exact ⟨fun q => by simp [Fw, Fence.wide] at q, callsIn_fw.2 h⟩
        | exact ⟨fun q => by simp [Fw, Fence.wide] at q, rowsIn_fw h⟩
        | exact h.elim
  | halt x w' => cases x <;> simp only [Oper.upon, Oper.uponIn] at h ⊢ <;> exact h

/-! ### loops, by the number of their rounds -/
def roundsW (r : Option Nat) (n : Nat) (P : Program) (c : Code) (Q : Exit → Act → World → Prop) : Nat → Act → World → Prop
  | 0, _, _ => False
  | j + 1, a, w => c.wpIn (Fw r) n P (Exit.then (roundsW r n P c Q j) Q) a w
theorem least_of {p : Nat → Prop} : ∀ n, p n → ∃ j, p j ∧ ∀ k, p k → j ≤ k := by
  intro n
  induction n using Nat.strongRecOn with
  | _ n ih =>
    intro hn
    by_cases h : ∃ k, k < n ∧ p k
    · obtain ⟨k, hk, hp⟩ := h; exact ih k hk hp
    · exact ⟨n, hn, fun k hp => Nat.le_of_not_lt fun q => h ⟨k, q, hp⟩⟩
theorem loop_fw {r : Option Nat} {n : Nat} {P : Program} {c : Code} {Q : Exit → Act → World → Prop} {a : Act} {w : World} (j : Nat) (h : roundsW r n P c Q j a w) : (Code.loop c).wpIn (Fw r) n P Q a w := by
  classical
  obtain ⟨mu, hmu⟩ : ∃ mu : Act → World → Nat, ∀ a w, (∃ j, roundsW r n P c Q j a w) → roundsW r n P c Q (mu a w) a w ∧ ∀ k, roundsW r n P c Q k a w → mu a w ≤ k := by
    refine ⟨fun a w => if h : ∃ j, roundsW r n P c Q j a w then (least_of (p := fun j => roundsW r n P c Q j a w) h.choose h.choose_spec).choose else 0, fun a w h => ?_⟩
    simp only [h, dif_pos]
    exact (least_of (p := fun j => roundsW r n P c Q j a w) h.choose h.choose_spec).choose_spec
  refine wpIn_loop (fun a w => ∃ j, roundsW r n P c Q j a w) mu ⟨j, h⟩ (fun a w hI => ?_)
  obtain ⟨h1, h2⟩ := hmu a w hI
  cases hj : mu a w with
  | zero => rw [hj] at h1; exact h1.elim
  | succ k =>
    rw [hj] at h1
    refine wpIn_mono (show c.wpIn (Fw r) n P (Exit.then (roundsW r n P c Q k) Q) a w from h1) (fun e a' w' q => ?_)
    cases e <;> first | exact q | skip
    have q' : roundsW r n P c Q k a' w' := q
    exact ⟨⟨k, q'⟩, by have := (hmu a' w' ⟨k, q'⟩).2 k q'; omega⟩

/-! ### what is no cells may turn -/
theorem grown_same {w w' : World} {row : Option Nat} (hg : w.grownBy w' row) (hr : ∀ q, row = some q → ∃ o : Obj, w.heap[q]? = some o ∧ o.isCells = false) {rb : Nat} {o : Obj} (h : w.heap[rb]? = some o) (hc : o.isCells = true) : w'.heap[rb]? = w.heap[rb]? := by
  refine hg.block rb (Array.getElem?_eq_some_iff.1 h).1 (fun e => ?_)
  obtain ⟨o', h1, h2⟩ := hr rb e.symm
  rw [h] at h1; cases h1; rw [hc] at h2; cases h2
section
variable {P : Program} {K B : Nat → Prop} {w : World} {S : Nat → Prop} {m : Map} {H : Heap}
theorem SR.grown (h : SR w S K m H) {w' : World} {row : Option Nat} (hg : w.grownBy w' row) (hr : ∀ q, row = some q → ∃ o : Obj, w.heap[q]? = some o ∧ o.isCells = false) : SR w' S K m H := by
  have hs : ∀ rb, S rb → w'.heap[rb]? = w.heap[rb]? := fun rb hb => by
    obtain ⟨o, h1, h2⟩ := h.scel rb hb
    exact grown_same hg hr h1 h2
  refine ⟨fun rb hb => Nat.lt_of_lt_of_le (h.sub rb hb) hg.size, fun rb hb => Nat.lt_of_lt_of_le (h.kin rb hb) hg.size, fun i b hi => ?_, h.non, h.inj, h.own, fun rb hb => by rw [hs rb hb]; exact h.scel rb hb⟩
  obtain ⟨im, hm, ok⟩ := h.blk i b hi
  obtain ⟨arr, ty, hrow, _⟩ := ok.row
  exact ⟨im, hm, ok.mono0 hs (fun _ h => h) (fun i im h => ⟨im, h, Nat.le_refl _, fun _ => rfl⟩) (grown_same hg hr hrow rfl) ok.thaw⟩
theorem VR.grown (h : SR w S K m H) (hB : ∀ rb, B rb → K rb) {w' : World} {row : Option Nat} (hg : w.grownBy w' row) (hr : ∀ q, row = some q → (∃ o : Obj, w.heap[q]? = some o ∧ o.isCells = false) ∧ ¬ K q) {v : V} {x : Value} (hv : VR w S B m v x) : VR w' S B m v x := by
  refine hv.mono0 (fun rb hb => ?_) (fun _ h => h) (fun i im h => ⟨im, h, Nat.le_refl _, fun _ => rfl⟩)
  rcases hb with hb | hb
  · obtain ⟨o, h1, h2⟩ := h.scel rb hb
    exact grown_same hg (fun q e => (hr q e).1) h1 h2
  · exact hg.block rb (h.kin rb (hB rb hb)) (fun e => (hr rb e.symm).2 (hB rb hb))
/-- what lies beyond may turn -/
theorem Step.grown {w1 : World} {S1 : Nat → Prop} {m1 : Map} (h : SR w S K m H) (st : Step K w S m w1 S1 m1) {w' : World} {row : Option Nat} (hg : w1.grownBy w' row) (hr : ∀ q, row = some q → w.heap.size ≤ q) : Step K w S m w' S1 m1 := by
  refine ⟨hg.os.trans st.os, hg.tape.trans st.tape, hg.output.trans st.output, Nat.le_trans st.size hg.size, st.sub, st.fresh, fun rb hb => ?_, st.ext, ⟨Nat.le_trans st.size hg.size, fun k o hk ho => ?_⟩⟩
  · have hlt : rb < w.heap.size := hb.elim (h.sub rb) (h.kin rb)
    rw [hg.block rb (Nat.lt_of_lt_of_le hlt st.size) (fun e => by have := hr rb e.symm; omega)]
    exact st.pres rb hb
  · have hlt : k < w.heap.size := (Array.getElem?_eq_some_iff.1 hk).1
    rw [hg.block k (Nat.lt_of_lt_of_le hlt st.size) (fun e => by have := hr k e.symm; omega)]
    exact st.oth.same k o hk ho
end

/-! ### a range over a function whose elements are known -/
/-- What a function hands on, one by one: N times, the k-th time what R says, as long as it is let go on; T stays from round to round. -/
def SeqRun (P : Program) (g : Nat) (lb : Array Value) (N : Nat) (R : Nat → World → Array Value → Prop) (T : Nat → Prop) (w : World) : Prop :=
  ∀ (n l : Nat) (J : Nat → World → Prop) (Jx : World → Prop),
    (∀ k W W' row, J k W → W.grownBy W' row → (∀ r, row = some r → w.heap.size ≤ r ∧ ∃ o : Obj, W.heap[r]? = some o ∧ o.isWalk = true) → J k W') →
    (∀ W W' row, Jx W → W.grownBy W' row → (∀ r, row = some r → w.heap.size ≤ r ∧ ∃ o : Obj, W.heap[r]? = some o ∧ o.isWalk = true) → Jx W') →
    (∀ k x W1, k < N → R k W1 x → J k W1 → YieldAt Fence.wide (n - 1) P l x W1 fun e W' =>
      (e = .returned (.bool true) ∧ J (k + 1) W' ∧ ∀ rb, T rb → W'.heap[rb]? = W1.heap[rb]?) ∨ (e = .returned (.bool false) ∧ Jx W')) →
    J 0 w → CallsIn Fence.wide n P g (#[.func (.yield l) #[] #[]] ++ lb) w fun e W' => (∃ v, e = .returned v) ∧ (J N W' ∨ Jx W')

/-- how a round may be left -/
def rpost (T : Nat → Prop) (I : World → Prop) (Ix : Code → World → Prop) (W : World) : Exit → Act → World → Prop
  | .normal, _, W' => KeepsOthers W W' ∧ (∀ rb, T rb → W'.heap[rb]? = W.heap[rb]?) ∧ I W'
  | .ret, _, W' => KeepsOthers W W' ∧ Ix .ret W'
  | .exit id, _, W' => KeepsOthers W W' ∧ Ix (.exit id) W'
  | _, _, _ => False
abbrev mark (D : Nat) : Deferred := { target := .collected D, args := #[] }

theorem range_fw {P : Program} {n : Nat} {g : Operand} {ps : Array Tmp} {assign body : Code} {Q : Exit → Act → World → Prop} {a : Act} {w : World} {gf : Nat} {lb : Array Value}
    (hg : a.eval g = .func (.func gf) #[] lb) (eg : ∀ args w, (callFunc gf args).run P w = .ok (.enter gf args) w)
    {N : Nat} {R : Nat → World → Array Value → Prop} {T : Nat → Prop} (hT : ∀ rb, T rb → rb < w.heap.size)
    (hseq : ∀ o1 o2 : Obj, o1.isCells = false → o2.isCells = false → SeqRun P gf lb N R T ((w.alloc o1).alloc o2))
    (I : Nat → World → Prop) (Ix : Code → World → Prop)
    (hI : ∀ k W W' row, I k W → W.grownBy W' row → (∀ r, row = some r → w.heap.size ≤ r ∧ ∃ o : Obj, W.heap[r]? = some o ∧ o.isCells = false) → I k W')
    (hIx : ∀ c W W' row, Ix c W → W.grownBy W' row → (∀ r, row = some r → w.heap.size ≤ r ∧ ∃ o : Obj, W.heap[r]? = some o ∧ o.isCells = false) → Ix c W')
    (h0 : I 0 w)
    (hround : ∀ (n l k : Nat) (x : Array Value) (W : World), k < N → R k W x → I k W → w.heap.size ≤ l → (∃ o : Obj, W.heap[l]? = some o ∧ o.isCells = false) →
      x.size = ps.size ∧ assign.wpIn (Fw (some l)) n P (Exit.then (fun a1 Wa => KeepsOthers W Wa ∧ (∀ rb, T rb → Wa.heap[rb]? = W.heap[rb]?) ∧
        ∀ Wb, Wa.grownBy Wb (some l) → body.wpIn (Fw (some l)) n P (rpost T (I (k + 1)) Ix Wb) a1 Wb) (fun _ _ _ => False))
        { tmps := (ps.zip x).foldl (fun t (p, v) => t.setIfInBounds p v) a.tmps, defers := [] } W)
    (hdone : ∀ (D : Nat) (W : World), w.heap.size ≤ D → I N W → W.heap[D]? = some (.deferred (some [])) → Q .normal { a with defers := mark D :: a.defers } W)
    (hstop : ∀ (D : Nat) (c : Code) (W : World), w.heap.size ≤ D → Ix c W → W.heap[D]? = some (.deferred (some [])) → c.wpIn Fence.wide n P Q { a with defers := mark D :: a.defers } W) :
    (Code.rangeFunc g ps assign body).wpIn Fence.wide n P Q a w := by
  refine wpIn_rangeFunc ?_
  intro fn hfn
  obtain ⟨rec, hrec⟩ : ∃ rec : LoopState → Option Code → Loop, rec = fun st pe => { state := st, pending := pe, fn, tmps := a.tmps, params := ps, assign, body, defers := w.heap.size } := ⟨_, rfl⟩
  obtain ⟨W1, hW1⟩ : ∃ W1, (w.alloc (.deferred (some []))).alloc (.loop (rec .ready none)) = W1 := ⟨_, rfl⟩
  have hL1 : W1.heap[w.heap.size + 1]? = some (.loop (rec .ready none)) := by
    rw [← hW1]; have := World.alloc_heap_new (w.alloc (.deferred (some []))) (.loop (rec .ready none)); rwa [World.size_alloc] at this
  have hK1 : W1.heap[w.heap.size]? = some (.deferred (some [])) := by
    rw [← hW1]; exact (RowKit.Below.heap_alloc _ _ _ (by simp)).trans (World.alloc_heap_new w _)
  have hsz : W1.heap.size = w.heap.size + 2 := by rw [← hW1]; simp
  have hI1 : I 0 W1 := by
    rw [← hW1]
    exact hI 0 _ _ none (hI 0 _ _ none h0 (World.grownBy_alloc w _ none) (fun r e => by cases e)) (World.grownBy_alloc _ _ none) (fun r e => by cases e)
  refine ⟨w.heap.size + 1, [mark w.heap.size], W1, { target := .fn (.func gf) lb, args := #[.func (.yield (w.heap.size + 1)) #[] #[]] }, W1, gf,
    #[.func (.yield (w.heap.size + 1)) #[] #[]] ++ lb, W1, ?_, ?_, fun _ _ => trivial, ?_, fun q => by simp [Fence.wide] at q, ?_⟩
  · rw [← hW1, hrec]; exact run_enterLoop_outer _ _ _ _ _
  · simp only [resolve, hg]
    simp [go_sem]
  · simp [invoke, go_sem, eg]
  · have hs := hseq (.deferred (some [])) (.loop (rec .ready none)) rfl rfl
    rw [hW1] at hs
    have hwk : ∀ {A B : World} {row : Option Nat}, (∀ r, row = some r → W1.heap.size ≤ r ∧ ∃ o : Obj, A.heap[r]? = some o ∧ o.isWalk = true) → (∀ r, row = some r → w.heap.size ≤ r ∧ ∃ o : Obj, A.heap[r]? = some o ∧ o.isCells = false) :=
      fun hr r e => by obtain ⟨q, o, ho, hw⟩ := hr r e; exact ⟨by omega, o, ho, Obj.not_cells_of_walk hw⟩
    have keep : ∀ {A B : World} {row : Option Nat} {k : Nat} {o : Obj}, A.grownBy B row → (∀ r, row = some r → W1.heap.size ≤ r ∧ ∃ o : Obj, A.heap[r]? = some o ∧ o.isWalk = true) → k < W1.heap.size → A.heap[k]? = some o → B.heap[k]? = some o :=
      fun hgr hr hk h => (hgr.block _ (Array.getElem?_eq_some_iff.1 h).1 (fun e => by have := (hr _ e.symm).1; omega)).trans h
    refine (hs _ (w.heap.size + 1) (fun k W => I k W ∧ W.heap[w.heap.size + 1]? = some (.loop (rec .ready none)) ∧ W.heap[w.heap.size]? = some (.deferred (some [])))
      (fun W => ∃ c, Ix c W ∧ W.heap[w.heap.size + 1]? = some (.loop (rec .done (some c))) ∧ W.heap[w.heap.size]? = some (.deferred (some [])))
      (fun k A B row h hgr hr => ⟨hI k A B row h.1 hgr (hwk (B := B) hr), keep hgr hr (by omega) h.2.1, keep hgr hr (by omega) h.2.2⟩)
      (fun A B row h hgr hr => let ⟨c, h1, h2, h3⟩ := h; ⟨c, hIx c A B row h1 hgr (hwk (B := B) hr), keep hgr hr (by omega) h2, keep hgr hr (by omega) h3⟩)
      ?_ ⟨hI1, hL1, hK1⟩).mono ?_
    · rintro k x W hkN hx ⟨hi, hl, hk⟩
      have hy := run_yield (P := P) (args := x) hl (by rw [hrec]; exact (hround 0 (w.heap.size + 1) k x W hkN hx hi (by omega) ⟨_, hl, rfl⟩).1)
      rw [hrec] at hy
      refine ⟨fn, _, assign, body, hy, roundIn_of_wpIn hfn (wpIn_mono (hround _ (w.heap.size + 1) k x W hkN hx hi (by omega) ⟨_, hl, rfl⟩).2 (fun e a1 Wa q => ?_))⟩
      cases e <;> first | exact q | skip
      obtain ⟨k1, t1, hb⟩ := q
      have hla := k1.same _ _ hl rfl
      have hka := k1.same _ _ hk rfl
      refine ⟨_, run_beginRound hla (by rw [hrec]), ?_⟩
      have hlt : w.heap.size + 1 < Wa.heap.size := (Array.getElem?_eq_some_iff.1 hla).1
      obtain ⟨Wb, hWb⟩ : ∃ Wb, Wa.putObj (w.heap.size + 1) (.loop { rec .ready none with state := .busy }) = Wb := ⟨_, rfl⟩
      have hlb : Wb.heap[w.heap.size + 1]? = some (.loop { rec .ready none with state := .busy }) := by rw [← hWb]; exact World.putObj_heap_same hlt
      have hkb : Wb.heap[w.heap.size]? = some (.deferred (some [])) := by rw [← hWb]; exact (World.putObj_heap_other (by omega)).trans hka
      have hgb : Wa.grownBy Wb (some (w.heap.size + 1)) := by rw [← hWb]; exact grownBy_putObj' ..
      rw [hWb]
      refine wpIn_mono (hb Wb hgb) (fun e a3 W3 hp => ?_)
      have fin : ∀ jump, KeepsOthers Wb W3 →
          (Instr.endRound (w.heap.size + 1) jump).run P W3 = .ok (.bool jump.isNone) (W3.putObj (w.heap.size + 1) (.loop (rec (if jump.isNone then .ready else .done) jump))) ∧
          W3.grownBy (W3.putObj (w.heap.size + 1) (.loop (rec (if jump.isNone then .ready else .done) jump))) (some (w.heap.size + 1)) ∧
          W3.heap[w.heap.size + 1]? = some (.loop { rec .ready none with state := .busy }) ∧
          (W3.putObj (w.heap.size + 1) (.loop (rec (if jump.isNone then .ready else .done) jump))).heap[w.heap.size + 1]? = some (.loop (rec (if jump.isNone then .ready else .done) jump)) ∧
          (W3.putObj (w.heap.size + 1) (.loop (rec (if jump.isNone then .ready else .done) jump))).heap[w.heap.size]? = some (.deferred (some [])) := fun jump hk3 => by
        have hl3 := hk3.same _ _ hlb rfl
        have := run_endRound (P := P) jump hl3
        rw [hrec] at this ⊢
        exact ⟨this, grownBy_putObj' .., by rw [hrec] at hl3; exact hl3, World.putObj_heap_same (Array.getElem?_eq_some_iff.1 hl3).1, (World.putObj_heap_other (by omega)).trans (hk3.same _ _ hkb rfl)⟩
      have rowOK : ∀ {A : World} {o : Obj}, A.heap[w.heap.size + 1]? = some o → o.isCells = false → ∀ r, some (w.heap.size + 1) = some r → w.heap.size ≤ r ∧ ∃ o : Obj, A.heap[r]? = some o ∧ o.isCells = false :=
        fun h hc r e => by cases e; exact ⟨by omega, _, h, hc⟩
      cases e with
      | normal =>
        obtain ⟨hk3, ht3, hi3⟩ := hp
        obtain ⟨hr, hg3, hl3, hl4, hk4⟩ := fin none hk3
        refine ⟨_, _, hr, .inl ⟨rfl, ⟨hI _ _ _ _ hi3 hg3 (rowOK hl3 rfl), hl4, hk4⟩, fun rb q => ?_⟩⟩
        have := hT rb q
        rw [World.putObj_heap_other (by omega), ht3 rb q, ← hWb, World.putObj_heap_other (by omega), t1 rb q]
      | ret =>
        obtain ⟨hk3, hi3⟩ := hp
        obtain ⟨hr, hg3, hl3, hl4, hk4⟩ := fin (some .ret) hk3
        exact ⟨_, _, hr, .inr ⟨rfl, .ret, hIx _ _ _ _ hi3 hg3 (rowOK hl3 rfl), hl4, hk4⟩⟩
      | exit id =>
        obtain ⟨hk3, hi3⟩ := hp
        obtain ⟨hr, hg3, hl3, hl4, hk4⟩ := fin (some (.exit id)) hk3
        exact ⟨_, _, hr, .inr ⟨rfl, .exit id, hIx _ _ _ _ hi3 hg3 (rowOK hl3 rfl), hl4, hk4⟩⟩
      | goto t => exact hp.elim
      | panic ch => exact hp.elim
      | outgrown => exact hp.elim
    · rintro e W2 ⟨⟨v, rfl⟩, (⟨hi, hl, hk⟩ | ⟨c, hi, hl, hk⟩)⟩
      · exact ⟨none, _, by have := run_endLoop (P := P) hl (by rw [hrec]; simp); rw [hrec] at this; exact this, hdone _ _ (Nat.le_refl _) (hI _ _ _ _ hi (grownBy_putObj' ..) (fun r e => by cases e; exact ⟨by omega, _, hl, rfl⟩)) ((World.putObj_heap_other (by omega)).trans hk)⟩
      · exact ⟨some c, _, by have := run_endLoop (P := P) hl (by rw [hrec]; simp); rw [hrec] at this; exact this, hstop _ c _ (Nat.le_refl _) (hIx _ _ _ _ hi (grownBy_putObj' ..) (fun r e => by cases e; exact ⟨by omega, _, hl, rfl⟩)) ((World.putObj_heap_other (by omega)).trans hk)⟩
end Go.Proofs.Ytcamcfplcoklkaa.Iv
