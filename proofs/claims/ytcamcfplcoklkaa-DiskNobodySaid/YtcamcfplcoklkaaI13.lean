import Derived.Test.YtcamcfplcoklkaaI12
namespace Go.Proofs.Ytcamcfplcoklkaa.Iv
open Go
section
variable {P : Program} {K B : Nat → Prop} {w : World} {S : Nat → Prop} {m : Map} {H : Heap}
set_option linter.unusedVariables false
set_option linter.unusedSimpArgs false

/-- a new block behind some draws, its first cells as 'cells' say -/
theorem fresh_sound (h : SR w S K m H) (d : Id) {cells : List V} {fl : Bool} {arr : Array Value} {ys : List Value} (e : TypeId) (h2 : All2 (CellR w S m fl) cells ys)
    (harr : ∀ (j : Nat) (x : Value), ys[j]? = some x → arr[j]? = some x) (hle : ys.length ≤ arr.size) {w' : World} (hw : w' = w ∨ w' = w.drew) {sz n cap : Nat}
    (hn : cells.length = n * sz) (hcap : n ≤ cap) (hsz : cap * sz = arr.size) {lim : Option Nat} (hlim : ∀ c, lim = some c → cap = c) :
    ∃ m', Step K w S m (w'.alloc (.cells arr e)) S m' ∧ SR (w'.alloc (.cells arr e)) S K m' (H.set d ⟨nextGen H d, cells, false, fl⟩) ∧
      VR (w'.alloc (.cells arr e)) S B m' (.sl d (nextGen H d) 0 n sz lim) (.slice (some ⟨w.heap.size, 0, none⟩) n cap) := by
  have key : ∀ w'', (w'' = w ∨ w'' = w.drew) → Step K w S m w'' S m ∧ SR w'' S K m H ∧ w''.heap.size = w.heap.size := fun w'' e => by
    rcases e with rfl | rfl
    · exact ⟨Step.refl .., h, rfl⟩
    · exact ⟨Step.drew .., h.drew, rfl⟩
  obtain ⟨st0, sr0, hs0⟩ := key w' hw
  have hl := h2.len
  have A := SR.alloc sr0 d cells fl arr e (by omega) (fun j c hj => by
    obtain ⟨x, hx, r⟩ := h2.get hj
    exact ⟨x, harr j x hx, r.1, r.2.1.mono st0 (fun _ f => f.elim), fun hf => (r.2.2 hf).mono (fun rb hb => st0.pres rb (.inl hb)) (fun _ x => x)⟩)
  refine ⟨_, st0.trans A.1, A.2, ?_⟩
  have V0 := VR.sl (w := w'.alloc (.cells arr e)) (S := S) (B := B) (m := Map.put m d ⟨nextGen H d, w'.heap.size, 0, cells.length, arr.size⟩) d 0 n sz lim _
    ⟨w.heap.size, 0, none⟩ cap (Map.put_same ..) (fun _ => by rw [hs0]) hcap (by simp only; omega) (by simp only; omega) (fun _ => by
      simp only
      have : n * sz ≤ cap * sz := Nat.mul_le_mul_right _ hcap
      omega) hlim
  exact V0

theorem makeSlice_sound (h : SR w S K m H) (d : Nat) {t : Nat} {l c : V} {out : Out} (he : evMakeSlice P H d t l c = some out) {x y : Value} (hx : VR w S B m l x) (hy : VR w S B m c y) :
    Sound P K B w S m H out (Instr.makeSlice t x y) := by
  unfold evMakeSlice at he
  split at he
  · rename_i e k1 l' k2 c' hu
    have := hx.int_inv; subst this
    have := hy.int_inv; subst this
    split at he
    · rename_i sz by_ z hs hb hz
      split at he
      · rename_i hc
        obtain ⟨c1, c2, c3, c4, c5, c6, c7⟩ := hc
        cases he
        obtain ⟨i, zv, hi, hzz, hzs, hz2⟩ := zero_of hz c7
        obtain ⟨i1, hi1, rfl⟩ := szOf_info hs
        obtain ⟨i2, hi2, rfl⟩ := byOf_info hb
        rw [hi] at hi1 hi2; cases hi1; cases hi2
        have hbytes : (i.bytes : Int) * c' ≤ 281474976710656 := by
          have e1 : ((i.bytes * c'.toNat : Nat) : Int) = (i.bytes : Int) * c' := by
            rw [Int.natCast_mul, Int.toNat_of_nonneg (by omega)]
          have e2 : i.bytes * c'.toNat ≤ 35184372088832 := by simpa [lim47] using c4
          rw [← e1]; omega
        have hrun := run_make (P := P) w t e i zv hu hi hzz k1 k2 l' c' c1 c2 hbytes (by omega)
        have hsize : (madeCells zv.cells (c'.toNat * i.size)).size = c'.toNat * i.size := size_madeCells _ _
        have hzc : zv.cells.size = i.size := by rw [hzs, c6]
        have hget : ∀ j, j < c'.toNat * i.size → (madeCells zv.cells (c'.toNat * i.size))[j]? = some (zv.cells[j % zv.cells.size]!) := fun j hj => by simp [madeCells, hj]
        have hle : l'.toNat * i.size ≤ c'.toNat * i.size := Nat.mul_le_mul_right _ (by omega)
        have h2 := rep_cells (hz2 w S m) l'.toNat (arr := (madeCells zv.cells (c'.toNat * i.size)).extract 0 (l'.toNat * i.size)) (by rw [Array.size_extract, hsize, hzc]; omega) (fun j hj => by
          rw [hzc] at hj
          rw [Array.getElem?_extract]
          simp only [Nat.zero_add, Nat.sub_zero]
          rw [if_pos (by omega)]
          rw [← hzc]; rw [hzc]
          have := hget j (by omega)
          rw [hzc] at this
          exact this)
        obtain ⟨m', st, sr, hv⟩ := fresh_sound (B := B) h (.own d) (w' := w) (lim := none) (sz := i.size) (n := l'.toNat) (cap := c'.toNat) e h2 (fun j x hj => by
            rw [Array.getElem?_toList, Array.getElem?_extract] at hj
            simp only [Nat.zero_add, Nat.sub_zero] at hj
            split at hj
            · exact hj
            · cases hj) (by rw [Array.length_toList, Array.size_extract]; omega) (.inl rfl) (by rw [show (rep l'.toNat z).length = l'.toNat * z.length from repl_len z _, c6]) (by omega) hsize.symm (fun c e => by cases e)
        exact ⟨_, _, S, m', hrun, st, sr, hv⟩
      · cases he
    · cases he
  · cases he

/-! ### append -/
def notInt : TypeDesc → Bool
  | .int _ => false
  | _ => true

/-- what is appended, as the machine comes to it: in any world with this heap -/
structure AppX (P : Program) (w : World) (e sz : Nat) (xT : Option TypeDesc) (x : Value) (k : Nat) (news : List Value) : Prop where
  some : ∃ d, xT = some d
  lit : xT.any notInt = true → (Builtin.lenOf x).run P w = .ok k w ∧ (∀ w' : World, w'.heap = w.heap → (Builtin.firstCells sz k x).run P w' = .ok news.toArray w')
  nul : xT.any notInt = false → ∃ kk n, x = .int kk n ∧ 0 ≤ n ∧ n < 4294967296 ∧ n.toNat = k ∧ ∃ i z, P.info? e = Option.some i ∧ i.zero = Option.some z ∧ (k * i.size = 0 → news = []) ∧ (k * i.size ≠ 0 → news.toArray = Builtin.zeroCells z.cells k)

theorem lenOf_world {x : Value} {k : Nat} {w w' : World} (h : (Builtin.lenOf x).run P w = .ok k w) : (Builtin.lenOf x).run P w' = .ok k w' := by
  cases x <;> simp [Builtin.lenOf] at h ⊢ <;> exact h

theorem notInt_match {d : TypeDesc} : (match d with | .int _ => true | _ => false) = !notInt d := by cases d <;> rfl

set_option maxHeartbeats 8000000 in
theorem run_app_in {sT xT ty e sz : Nat} {ts : Array TypeId} (h0 : ts[0]? = some sT) (h1 : ts[1]? = some xT) (ht : P.underlying sT = some (.slice e)) (hs : szOf P e = some sz) {x : Value} {k : Nat} {news : List Value}
    (hx : AppX P w e sz (P.underlying xT) x k news) {by_ : Nat} (hby : byOf P e = some by_) (hb48 : k * by_ ≤ 281474976710656) (a : Option Addr) {n cap : Nat} (hcap : n + k ≤ cap) :
    (Builtin.append_ ts ty #[.slice a n cap, x]).run P w =
      (((match a with | some a => storeCells (a.add (n * sz)) news | none => pure ()) : Sem Unit).run P w).andThen (fun _ w' => .ok (.slice a (n + k) cap) w') := by
  obtain ⟨d, hd⟩ := hx.some
  obtain ⟨i1, hi1, hi1b⟩ := szOf_info hs
  obtain ⟨i2, hi2, hi2b⟩ := byOf_info hby
  rw [hi1] at hi2; cases hi2
  subst hi1b hi2b
  cases hni : notInt d with
  | true =>
    obtain ⟨q1, q2⟩ := hx.lit (by rw [hd]; simpa using hni)
    have q3 := q2 w rfl
    cases d <;> first | (simp [notInt] at hni; done) | (cases a <;> simp [Builtin.append_, h0, h1, run_underlying ht, run_sizeOf' hs, run_underlying hd, q1, q3, hcap])
  | false =>
    obtain ⟨kk, nn, rfl, p1, p2, p3, i, z, hi, hz, e1, e2⟩ := hx.nul (by rw [hd]; simpa using hni)
    rw [hi1] at hi; cases hi
    obtain ⟨kd, rfl⟩ : ∃ kd, d = .int kd := by cases d <;> simp [notInt] at hni ⊢
    have hw : IntKind.i64.wrap nn = nn := by rw [IntKind.wrap_i64]; omega
    have hneg : ¬ nn < 0 := by omega
    have hbig : ¬ (281474976710656 < nn * (i1.bytes : Int)) := by
      have : nn * (i1.bytes : Int) = ((k * i1.bytes : Nat) : Int) := by rw [Int.natCast_mul, ← p3, Int.toNat_of_nonneg p1]
      rw [this]; omega
    by_cases hk : k * i1.size = 0
    · have e1' := e1 hk
      subst e1'
      cases a <;> simp [Builtin.append_, h0, h1, run_underlying ht, run_sizeOf' hs, run_underlying hd, asInt, asIntOf, hw, hneg, typeInfo, hi1, hbig, p3, hcap, hk, storeCells]
    · have e2' := e2 hk
      cases a <;> simp [Builtin.append_, h0, h1, run_underlying ht, run_sizeOf' hs, run_underlying hd, asInt, asIntOf, hw, hneg, typeInfo, hi1, hbig, p3, hcap, hk, zeroValue, hz, ← e2']

set_option maxHeartbeats 16000000 in
theorem run_app_grow {sT xT ty e sz : Nat} {ts : Array TypeId} (h0 : ts[0]? = some sT) (h1 : ts[1]? = some xT) (ht : P.underlying sT = some (.slice e)) (hs : szOf P e = some sz) {x : Value} {k : Nat} {news : List Value}
    (hx : AppX P w e sz (P.underlying xT) x k news) {by_ : Nat} (hby : byOf P e = some by_) (hpos : 0 < by_) (a : Option Addr) {n cap : Nat} (hb48 : (n + k) * by_ ≤ 140737488355328) (hcap : cap < n + k)
    {olds : List Value} (ho : ∀ w' : World, w'.heap = w.heap → (Builtin.firstCells sz n (.slice a n cap)).run P w' = .ok olds.toArray w') {i : TypeInfo} {z : Value} (hi : P.info? e = some i) (hz : i.zero = some z) :
    (Builtin.append_ ts ty #[.slice a n cap, x]).run P w = .ok (.slice (some ⟨w.heap.size, 0, none⟩) (n + k) (grownCap w (n + k) cap e))
      (w.drew.alloc (.cells (olds.toArray ++ (news.toArray ++ Builtin.zeroCells z.cells (grownCap w (n + k) cap e - (n + k)))) e)) := by
  obtain ⟨d, hd⟩ := hx.some
  obtain ⟨i1, hi1, hi1b⟩ := szOf_info hs
  obtain ⟨i2, hi2, hi2b⟩ := byOf_info hby
  rw [hi] at hi1 hi2; cases hi1; cases hi2
  subst hi1b hi2b
  have hnc : ¬ (n + k ≤ cap) := by omega
  have hle : n + k ≤ (n + k) * i.bytes := Nat.le_mul_of_pos_right _ hpos
  have h63 : ¬ (9223372036854775807 < ((n : Int) + (k : Int))) := by omega
  have hfit := growslice_fits (need := n + k) (old := cap) (bytes := i.bytes) hcap hb48
  have h48 : ¬ (281474976710656 < Builtin.nextslicecap (n + k) cap * i.bytes) := by omega
  have ho' := ho w.drew rfl
  have ho2 := ho { w with drawn := w.drawn + 1 } rfl
  cases hni : notInt d with
  | true =>
    obtain ⟨q1, q2⟩ := hx.lit (by rw [hd]; simpa using hni)
    have q3 := q2 w.drew rfl
    cases d <;> first | (simp [notInt] at hni; done) | (simp [Builtin.append_, h0, h1, run_underlying ht, run_sizeOf' hs, run_underlying hd, q1, q3, hnc, h63, h48, Question.forced, typeInfo, hi, zeroValue, hz, ho', newRow, grownCap])
  | false =>
    obtain ⟨kd, rfl⟩ : ∃ kd, d = .int kd := by cases d <;> simp [notInt] at hni ⊢
    obtain ⟨kk, nn, rfl, p1, p2, p3, i', z', hi', hz', e1, e2⟩ := hx.nul (by rw [hd]; simpa using hni)
    rw [hi] at hi'; cases hi'
    rw [hz] at hz'; cases hz'
    have hw : IntKind.i64.wrap nn = nn := by rw [IntKind.wrap_i64]; omega
    have hneg : ¬ nn < 0 := by omega
    have hkb : k * i.bytes ≤ (n + k) * i.bytes := Nat.mul_le_mul_right _ (by omega)
    have hbig : ¬ (281474976710656 < nn * (i.bytes : Int)) := by
      have : nn * (i.bytes : Int) = ((k * i.bytes : Nat) : Int) := by rw [Int.natCast_mul, ← p3, Int.toNat_of_nonneg p1]
      rw [this]; omega
    have h63' : ¬ (9223372036854775807 < ((n : Int) + max nn 0)) := by omega
    by_cases hk : k * i.size = 0
    · have e1' := e1 hk
      subst e1'
      simp [Builtin.append_, h0, h1, run_underlying ht, run_sizeOf' hs, run_underlying hd, asInt, asIntOf, hw, hneg, hbig, p3, hnc, h63, h63', h48, Question.forced, typeInfo, hi, zeroValue, hz, hk, ho', newRow, grownCap]
    · have e2' := e2 hk
      simp [Builtin.append_, h0, h1, run_underlying ht, run_sizeOf' hs, run_underlying hd, asInt, asIntOf, hw, hneg, hbig, p3, hnc, h63, h63', h48, Question.forced, typeInfo, hi, zeroValue, hz, hk, ho', newRow, grownCap, ← e2']
end
end Go.Proofs.Ytcamcfplcoklkaa.Iv
