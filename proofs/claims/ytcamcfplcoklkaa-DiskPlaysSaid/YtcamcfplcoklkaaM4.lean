import Derived.Test.YtcamcfplcoklkaaM3
namespace Go.Proofs.Ytcamcfplcoklkaa.Iv
open Go
section
variable {P : Program} {K B : Nat → Prop} {w : World} {S : Nat → Prop} {m : Map} {H : Heap}
set_option linter.unusedVariables false
set_option linter.unusedSimpArgs false

/-- a new block behind some draws, its first cells as 'cells' say -/
theorem fresh_sound (h : SR w S K m H) (d : Id) {cells : List V} {fl : Bool} {arr : Array Value} {ys : List Value} (e : TypeId) (h2 : All2 (CellR w S m fl) cells ys)
    (harr : ∀ (j : Nat) (x : Value), ys[j]? = some x → arr[j]? = some x) (hle : ys.length ≤ arr.size) {w' : World} (hw : w' = w ∨ w' = w.drew) {sz n cap : Nat}
    (hn : cells.length = n * sz) (hcap : n ≤ cap) (hsz : cap * sz = arr.size) {lim : Option Nat} (hlim : ∀ c, lim = some c → cap = c) :
    ∃ m', Step K w S m (w'.alloc (.cells arr e)) S m' ∧ SR (w'.alloc (.cells arr e)) S K m' (H.set d ⟨nextGen H d, cells, false, fl⟩) ∧
      VR (w'.alloc (.cells arr e)) S B m' (.sl d (nextGen H d) 0 n sz lim) (.slice (some ⟨w.heap.size, 0, none⟩) n cap) := by
  have key : ∀ w'', (w'' = w ∨ w'' = w.drew) → Step K w S m w'' S m ∧ SR w'' S K m H ∧ w''.heap.size = w.heap.size := fun w'' e => by
    rcases e with rfl | rfl
    · exact ⟨Step.refl .., h, rfl⟩
    · exact ⟨Step.drew .., h.drew, rfl⟩
  obtain ⟨st0, sr0, hs0⟩ := key w' hw
  have hl := h2.len
  have A := SR.alloc sr0 d cells fl arr e (by omega) (fun j c hj => by
    obtain ⟨x, hx, r⟩ := h2.get hj
    exact ⟨x, harr j x hx, r.1, r.2.1.mono st0 (fun _ f => f.elim), fun hf => (r.2.2 hf).mono (fun rb hb => st0.pres rb (.inl hb)) (fun _ x => x)⟩)
  refine ⟨_, st0.trans A.1, A.2, ?_⟩
  have V0 := VR.sl (w := w'.alloc (.cells arr e)) (S := S) (B := B) (m := Map.put m d ⟨nextGen H d, w'.heap.size, 0, cells.length, arr.size⟩) d 0 n sz lim _
    ⟨w.heap.size, 0, none⟩ cap (Map.put_same ..) (fun _ => by rw [hs0]) hcap (by simp only; omega) (by simp only; omega) (fun _ => by
      simp only
      have : n * sz ≤ cap * sz := Nat.mul_le_mul_right _ hcap
      omega) hlim
  exact V0

theorem makeSlice_sound (h : SR w S K m H) (d : Nat) {t : Nat} {l c : V} {out : Out} (he : evMakeSlice P H d t l c = some out) {x y : Value} (hx : VR w S B m l x) (hy : VR w S B m c y) :
    Sound P K B w S m H out (Instr.makeSlice t x y) := by
  unfold evMakeSlice at he
  split at he
  · rename_i e k1 l' k2 c' hu
    have := hx.int_inv; subst this
    have := hy.int_inv; subst this
    split at he
    · rename_i sz by_ z hs hb hz
      split at he
      · rename_i hc
        obtain ⟨c1, c2, c3, c4, c5, c6, c7⟩ := hc
        cases he
        obtain ⟨i, zv, hi, hzz, hzs, hz2⟩ := zero_of hz c7
        obtain ⟨i1, hi1, rfl⟩ := szOf_info hs
        obtain ⟨i2, hi2, rfl⟩ := byOf_info hb
        rw [hi] at hi1 hi2; cases hi1; cases hi2
        have hbytes : (i.bytes : Int) * c' ≤ 281474976710656 := by
          have e1 : ((i.bytes * c'.toNat : Nat) : Int) = (i.bytes : Int) * c' := by
            rw [Int.natCast_mul, Int.toNat_of_nonneg (by omega)]
          have e2 : i.bytes * c'.toNat ≤ 35184372088832 := by simpa [lim47] using c4
          rw [← e1]; omega
        have hrun := run_make (P := P) w t e i zv hu hi hzz k1 k2 l' c' c1 c2 hbytes (by omega)
        have hsize : (madeCells zv.cells (c'.toNat * i.size)).size = c'.toNat * i.size := size_madeCells _ _
        have hzc : zv.cells.size = i.size := by rw [hzs, c6]
        have hget : ∀ j, j < c'.toNat * i.size → (madeCells zv.cells (c'.toNat * i.size))[j]? = some (zv.cells[j % zv.cells.size]!) := fun j hj => by simp [madeCells, hj]
        have hle : l'.toNat * i.size ≤ c'.toNat * i.size := Nat.mul_le_mul_right _ (by omega)
        have h2 := rep_cells (hz2 w S m) l'.toNat (arr := (madeCells zv.cells (c'.toNat * i.size)).extract 0 (l'.toNat * i.size)) (by rw [Array.size_extract, hsize, hzc]; omega) (fun j hj => by
          rw [hzc] at hj
          rw [Array.getElem?_extract]
          simp only [Nat.zero_add, Nat.sub_zero]
          rw [if_pos (by omega)]
          rw [← hzc]; rw [hzc]
          have := hget j (by omega)
          rw [hzc] at this
          exact this)
        obtain ⟨m', st, sr, hv⟩ := fresh_sound (B := B) h (.own d) (w' := w) (lim := none) (sz := i.size) (n := l'.toNat) (cap := c'.toNat) e h2 (fun j x hj => by
            rw [Array.getElem?_toList, Array.getElem?_extract] at hj
            simp only [Nat.zero_add, Nat.sub_zero] at hj
            split at hj
            · exact hj
            · cases hj) (by rw [Array.length_toList, Array.size_extract]; omega) (.inl rfl) (by rw [show (rep l'.toNat z).length = l'.toNat * z.length from repl_len z _, c6]) (by omega) hsize.symm (fun c e => by cases e)
        exact ⟨_, _, S, m', hrun, st, sr, hv⟩
      · cases he
    · cases he
  · cases he

/-! ### append -/
def notInt : TypeDesc → Bool
  | .int _ => false
  | _ => true

/-- what is appended, as the machine comes to it: in any world with this heap -/
structure AppX (P : Program) (w : World) (e sz : Nat) (xT : Option TypeDesc) (x : Value) (k : Nat) (news : List Value) : Prop where
  some : ∃ d, xT = some d
  lit : xT.any notInt = true → (Builtin.lenOf x).run P w = .ok k w ∧ (∀ w' : World, w'.heap = w.heap → (Builtin.firstCells sz k x).run P w' = .ok news.toArray w')
  nul : xT.any notInt = false → ∃ kk n, x = .int kk n ∧ 0 ≤ n ∧ n < 4294967296 ∧ n.toNat = k ∧ ∃ i z, P.info? e = Option.some i ∧ i.zero = Option.some z ∧ (k * i.size = 0 → news = []) ∧ (k * i.size ≠ 0 → news.toArray = Builtin.zeroCells z.cells k)

theorem lenOf_world {x : Value} {k : Nat} {w w' : World} (h : (Builtin.lenOf x).run P w = .ok k w) : (Builtin.lenOf x).run P w' = .ok k w' := by
  cases x <;> simp [Builtin.lenOf] at h ⊢ <;> exact h

theorem notInt_match {d : TypeDesc} : (match d with | .int _ => true | _ => false) = !notInt d := by cases d <;> rfl

set_option maxHeartbeats 8000000 in
theorem run_app_in {sT xT ty e sz : Nat} {ts : Array TypeId} (h0 : ts[0]? = some sT) (h1 : ts[1]? = some xT) (ht : P.underlying sT = some (.slice e)) (hs : szOf P e = some sz) {x : Value} {k : Nat} {news : List Value}
    (hx : AppX P w e sz (P.underlying xT) x k news) {by_ : Nat} (hby : byOf P e = some by_) (hb48 : k * by_ ≤ 281474976710656) (a : Option Addr) {n cap : Nat} (hcap : n + k ≤ cap) :
    (Builtin.append_ ts ty #[.slice a n cap, x]).run P w =
      (((match a with | some a => storeCells (a.add (n * sz)) news | none => pure ()) : Sem Unit).run P w).andThen (fun _ w' => .ok (.slice a (n + k) cap) w') := by
  obtain ⟨d, hd⟩ := hx.some
  obtain ⟨i1, hi1, hi1b⟩ := szOf_info hs
  obtain ⟨i2, hi2, hi2b⟩ := byOf_info hby
  rw [hi1] at hi2; cases hi2
  subst hi1b hi2b
  cases hni : notInt d with
  | true =>
    obtain ⟨q1, q2⟩ := hx.lit (by rw [hd]; simpa using hni)
    have q3 := q2 w rfl
    cases d <;> first | (simp [notInt] at hni; done) | (cases a <;> simp [Builtin.append_, h0, h1, run_underlying ht, run_sizeOf' hs, run_underlying hd, q1, q3, hcap])
  | false =>
    obtain ⟨kk, nn, rfl, p1, p2, p3, i, z, hi, hz, e1, e2⟩ := hx.nul (by rw [hd]; simpa using hni)
    rw [hi1] at hi; cases hi
    obtain ⟨kd, rfl⟩ : ∃ kd, d = .int kd := by cases d <;> simp [notInt] at hni ⊢
    have hw : IntKind.i64.wrap nn = nn := by rw [IntKind.wrap_i64]; omega
    have hneg : ¬ nn < 0 := by omega
    have hbig : ¬ (281474976710656 < nn * (i1.bytes : Int)) := by
      have : nn * (i1.bytes : Int) = ((k * i1.bytes : Nat) : Int) := by rw [Int.natCast_mul, ← p3, Int.toNat_of_nonneg p1]
      rw [this]; omega
    by_cases hk : k * i1.size = 0
    · have e1' := e1 hk
      subst e1'
      cases a <;> simp [Builtin.append_, h0, h1, run_underlying ht, run_sizeOf' hs, run_underlying hd, asInt, asIntOf, hw, hneg, typeInfo, hi1, hbig, p3, hcap, hk, storeCells]
    · have e2' := e2 hk
      cases a <;> simp [Builtin.append_, h0, h1, run_underlying ht, run_sizeOf' hs, run_underlying hd, asInt, asIntOf, hw, hneg, typeInfo, hi1, hbig, p3, hcap, hk, zeroValue, hz, ← e2']

set_option maxHeartbeats 16000000 in
theorem run_app_grow {sT xT ty e sz : Nat} {ts : Array TypeId} (h0 : ts[0]? = some sT) (h1 : ts[1]? = some xT) (ht : P.underlying sT = some (.slice e)) (hs : szOf P e = some sz) {x : Value} {k : Nat} {news : List Value}
    (hx : AppX P w e sz (P.underlying xT) x k news) {by_ : Nat} (hby : byOf P e = some by_) (hpos : 0 < by_) (a : Option Addr) {n cap : Nat} (hb48 : (n + k) * by_ ≤ 140737488355328) (hcap : cap < n + k)
    {olds : List Value} (ho : ∀ w' : World, w'.heap = w.heap → (Builtin.firstCells sz n (.slice a n cap)).run P w' = .ok olds.toArray w') {i : TypeInfo} {z : Value} (hi : P.info? e = some i) (hz : i.zero = some z) :
    (Builtin.append_ ts ty #[.slice a n cap, x]).run P w = .ok (.slice (some ⟨w.heap.size, 0, none⟩) (n + k) (grownCap w (n + k) cap e))
      (w.drew.alloc (.cells (olds.toArray ++ (news.toArray ++ Builtin.zeroCells z.cells (grownCap w (n + k) cap e - (n + k)))) e)) := by
  obtain ⟨d, hd⟩ := hx.some
  obtain ⟨i1, hi1, hi1b⟩ := szOf_info hs
  obtain ⟨i2, hi2, hi2b⟩ := byOf_info hby
  rw [hi] at hi1 hi2; cases hi1; cases hi2
  subst hi1b hi2b
  have hnc : ¬ (n + k ≤ cap) := by omega
  have hle : n + k ≤ (n + k) * i.bytes := Nat.le_mul_of_pos_right _ hpos
  have h63 : ¬ (9223372036854775807 < ((n : Int) + (k : Int))) := by omega
  have hfit := growslice_fits (need := n + k) (old := cap) (bytes := i.bytes) hcap hb48
  have h48 : ¬ (281474976710656 < Builtin.nextslicecap (n + k) cap * i.bytes) := by omega
  have ho' := ho w.drew rfl
  have ho2 := ho { w with drawn := w.drawn + 1 } rfl
  cases hni : notInt d with
  | true =>
    obtain ⟨q1, q2⟩ := hx.lit (by rw [hd]; simpa using hni)
    have q3 := q2 w.drew rfl
    cases d <;> first | (simp [notInt] at hni; done) | (simp [Builtin.append_, h0, h1, run_underlying ht, run_sizeOf' hs, run_underlying hd, q1, q3, hnc, h63, h48, Question.forced, typeInfo, hi, zeroValue, hz, ho', newRow, grownCap])
  | false =>
    obtain ⟨kd, rfl⟩ : ∃ kd, d = .int kd := by cases d <;> simp [notInt] at hni ⊢
    obtain ⟨kk, nn, rfl, p1, p2, p3, i', z', hi', hz', e1, e2⟩ := hx.nul (by rw [hd]; simpa using hni)
    rw [hi] at hi'; cases hi'
    rw [hz] at hz'; cases hz'
    have hw : IntKind.i64.wrap nn = nn := by rw [IntKind.wrap_i64]; omega
    have hneg : ¬ nn < 0 := by omega
    have hkb : k * i.bytes ≤ (n + k) * i.bytes := Nat.mul_le_mul_right _ (by omega)
    have hbig : ¬ (281474976710656 < nn * (i.bytes : Int)) := by
      have : nn * (i.bytes : Int) = ((k * i.bytes : Nat) : Int) := by rw [Int.natCast_mul, ← p3, Int.toNat_of_nonneg p1]
      rw [this]; omega
    have h63' : ¬ (9223372036854775807 < ((n : Int) + max nn 0)) := by omega
    by_cases hk : k * i.size = 0
    · have e1' := e1 hk
      subst e1'
      simp [Builtin.append_, h0, h1, run_underlying ht, run_sizeOf' hs, run_underlying hd, asInt, asIntOf, hw, hneg, hbig, p3, hnc, h63, h63', h48, Question.forced, typeInfo, hi, zeroValue, hz, hk, ho', newRow, grownCap]
    · have e2' := e2 hk
      simp [Builtin.append_, h0, h1, run_underlying ht, run_sizeOf' hs, run_underlying hd, asInt, asIntOf, hw, hneg, hbig, p3, hnc, h63, h63', h48, Question.forced, typeInfo, hi, zeroValue, hz, hk, ho', newRow, grownCap, ← e2']
end
end Go.Proofs.Ytcamcfplcoklkaa.Iv

namespace Go.Proofs.Ytcamcfplcoklkaa.Iv
open Go
section
variable {P : Program} {K B : Nat → Prop} {w : World} {S : Nat → Prop} {m : Map} {H : Heap}
set_option linter.unusedVariables false
set_option linter.unusedSimpArgs false

theorem ofVal_len (x : Value) : (ofVal x).cells.length = x.cells.size := by
  cases x with
  | agg cs => simp [ofVal, V.cells, Value.cells]
  | _ =>
    have e : ∀ y : Value, (sc y).cells = [sc y] := fun y => by
      cases hh : sc y <;> first | rfl | exact (sc_agg _ _ hh).elim
    simp [ofVal, e, Value.cells]

theorem grownCap_ge (w : World) (need old : Nat) (e : TypeId) : need ≤ grownCap w need old e := by unfold grownCap Question.cut; exact Nat.le_add_right _ _

theorem cells_one {cs : List V} {ys : List Value} {fl : Bool} (h : All2 (CellR w S m fl) cs ys) : ∀ v ∈ ys, v.oneCell' = true := fun v hv => by
  obtain ⟨j, hj⟩ := List.getElem?_of_mem hv
  have hjl : j < cs.length := by rw [← h.len]; exact (List.getElem?_eq_some_iff.1 hj).1
  obtain ⟨x, hx, hr⟩ := h.get (List.getElem?_eq_getElem hjl)
  rw [hj] at hx; cases hx; exact hr.1

/-- the cells behind those that are known of a block are written: the block is longer now, and has a new generation -/
theorem extend_sound (h : SR w S K m H) {i : Id} {b : Blk} {im : Im} (hi : H i = some b) (hm : m i = some im) (hfr : b.frz = false) {o q : Nat} {old cs : List V} {ys : List Value}
    (hold : cut b.cells o q = some old) (h2 : All2 (CellR w S m b.flat) cs ys) (htot : im.dl + o + q + cs.length ≤ im.tot) (ho : o ≤ b.cells.length) :
    ∃ w' m', (storeCells ⟨im.rb, im.dl + o + q, none⟩ ys).run P w = .ok () w' ∧ Step K w S m w' S m' ∧ SR w' S K m' (H.set i ⟨b.gen + 1, old ++ cs, false, b.flat⟩) ∧
      m' i = some ⟨b.gen + 1, im.rb, im.dl + o, q + cs.length, im.tot⟩ := by
  obtain ⟨im0, hm0, ok⟩ := h.blk i b hi
  rw [hm] at hm0; cases hm0
  obtain ⟨arr, ty, hrow, hsz⟩ := ok.row
  have hg := ok.gen
  have hyl := h2.len
  have hol := (cut_some hold).2
  have hrun := run_storeCells_at (P := P) im.rb (im.dl + o + q) ty ys 0 arr w hrow (by omega) (cells_one h2)
  simp only [Nat.add_zero] at hrun
  have hsz' : (arr.toList.take (im.dl + o + q) ++ ys ++ arr.toList.drop (im.dl + o + q + ys.length)).toArray.size = im.tot := by simp; omega
  have W := SR.write h hi hfr hm hrow (arr.toList.take (im.dl + o + q) ++ ys ++ arr.toList.drop (im.dl + o + q + ys.length)).toArray hsz' ⟨b.gen + 1, im.rb, im.dl + o, q + cs.length, im.tot⟩ rfl rfl
    (by simp only; omega) (fun e => by simp only at e; omega) (old ++ cs) b.flat (by simp [hol]) (by simp only; omega) (fun j c hj => by
      have hta : (arr.toList.take (im.dl + o + q)).length = im.dl + o + q := by rw [List.length_take, Array.length_toList]; omega
      simp only [List.getElem?_toArray, List.append_assoc]
      rcases Nat.lt_or_ge j q with h1 | h1
      · rw [List.getElem?_append_left (by omega)] at hj
        obtain ⟨x, q1, q2, q3, q4⟩ := ok.cel (o + j) c (cut_get hold hj).1
        refine ⟨x, ?_, q2, q3, q4⟩
        rw [List.getElem?_append_left (by omega), List.getElem?_take_of_lt (by omega)]
        rw [← Nat.add_assoc] at q1
        simpa using row_cell hrow q1
      · rw [List.getElem?_append_right (by omega), hol] at hj
        obtain ⟨x, hx, r1, r2, r3⟩ := h2.get hj
        refine ⟨x, ?_, r1, r2, r3⟩
        have hjl : j - q < ys.length := (List.getElem?_eq_some_iff.1 hx).1
        rw [List.getElem?_append_right (by omega), hta, List.getElem?_append_left (by omega), show im.dl + o + j - (im.dl + o + q) = j - q by omega]
        exact hx)
  exact ⟨_, _, hrun, W.1, W.2, Map.put_same ..⟩

theorem splice_nil (cs : List V) (o : Nat) : splice cs o [] = cs := by simp [splice]
theorem set_self {H : Heap} {i : Id} {b : Blk} (h : H i = some b) : H.set i b = H := by
  funext j; unfold Heap.set; split
  · rename_i e; rw [e, h]
  · rfl

theorem appX_of (h : SR w S K m H) {e sz xT : Nat} {z : List V} {a : V} {cs : List V} {k : Nat} {fl : Bool} {rd : List Id} (hs : szOf P e = some sz) (hz : zOf P e = some z)
    (he : appSrc P H sz z xT a = some (cs, k, fl, rd)) {x : Value} (hx : VR w S B m a x) :
    ∃ news, AppX P w e sz (P.underlying xT) x k news ∧ All2 (CellR w S m fl) cs news ∧ cs.length = k * sz := by
  unfold appSrc at he
  split at he
  · rename_i kd kk n hu
    split at he
    · rename_i hc
      obtain ⟨c1, c2, c3, c4⟩ := hc
      cases he
      have := hx.int_inv; subst this
      obtain ⟨i, zv, hi, hzz, hzs, hz2⟩ := zero_of hz c4
      obtain ⟨i1, hi1, rfl⟩ := szOf_info hs
      rw [hi] at hi1; cases hi1
      have hzc : (Builtin.zeroCells zv.cells n.toNat).size = n.toNat * zv.cells.size := by simp [Builtin.zeroCells]
      refine ⟨(Builtin.zeroCells zv.cells n.toNat).toList, ⟨⟨_, hu⟩, fun q => by rw [hu] at q; simp [notInt] at q, fun _ => ⟨kk, n, rfl, c1, c2, rfl, i, zv, hi, hzz, fun q => ?_, fun q => by simp⟩⟩, ?_, ?_⟩
      · apply List.eq_nil_of_length_eq_zero
        rw [Array.length_toList, hzc, hzs, c3, q]
      · exact rep_cells (hz2 w S m) n.toNat hzc (fun j hj => by simp [Builtin.zeroCells, hj])
      · show (rep n.toNat z).length = _
        rw [show (rep n.toNat z).length = n.toNat * z.length from repl_len z _, c3]
    · cases he
  · cases he
  · rename_i d hd hu hn
    obtain ⟨news, h2, q1, q2, q3⟩ := src_sound (P := P) h he hx
    refine ⟨news, ⟨⟨_, hu⟩, fun _ => ⟨q1, fun w' hw => ?_⟩, fun q => ?_⟩, h2, q3⟩
    · have := q2 w' hw k (Nat.le_refl _)
      rwa [List.take_of_length_le (by rw [h2.len, q3]; exact Nat.le_refl _)] at this
    · rw [hu] at q
      simp only [Option.any_some] at q
      cases d with
      | int kd => first | exact absurd rfl (hd kd) | exact absurd rfl (hn kd) | exact (hd _ rfl).elim | exact (hn _ rfl).elim
      | _ => simp [notInt] at q
  · cases he

theorem lim47_le {n k by_ : Nat} (h : (n + k) * by_ ≤ lim47) : (n + k) * by_ ≤ 140737488355328 := by
  have : lim47 = 35184372088832 := rfl
  omega

/-- a row that is copied to a new block with room behind -/
theorem grow_sound (h : SR w S K m H) (d : Id) {sT xT ty e sz by_ : Nat} {ts : Array TypeId} (h0 : ts[0]? = some sT) (h1 : ts[1]? = some xT) (ht : P.underlying sT = some (.slice e)) (hs : szOf P e = some sz) (hby : byOf P e = some by_)
    {z : List V} (hz : zOf P e = some z) (hzl : z.length = sz) (hpos : 0 < by_) {rd : List Id} {x : Value} {k : Nat} {news : List Value} (hx : AppX P w e sz (P.underlying xT) x k news) {a : Option Addr} {n cap : Nat}
    (hb : (n + k) * by_ ≤ lim47) (hcap : cap < n + k) {olds : List Value} (ho : ∀ w' : World, w'.heap = w.heap → (Builtin.firstCells sz n (.slice a n cap)).run P w' = .ok olds.toArray w')
    {cs old : List V} {fl : Bool} (h2 : All2 (CellR w S m fl) (old ++ cs) (olds ++ news)) (hlen : (old ++ cs).length = (n + k) * sz) :
    Sound P K B w S m H ⟨.sl d (nextGen H d) 0 (n + k) sz none, [(d, ⟨nextGen H d, old ++ cs, false, fl⟩)], rd⟩ (Builtin.append_ ts ty #[.slice a n cap, x]) := by
  obtain ⟨i, zv, hi, hzz, rfl⟩ := zOf_info hz
  have hrun := run_app_grow (P := P) (ty := ty) h0 h1 ht hs hx hby hpos a (lim47_le hb) hcap ho hi hzz
  have hge := grownCap_ge w (n + k) cap e
  have hzs : zv.cells.size = sz := by rw [← ofVal_len, hzl]
  have hsz : (olds.toArray ++ (news.toArray ++ Builtin.zeroCells zv.cells (grownCap w (n + k) cap e - (n + k)))).size = grownCap w (n + k) cap e * sz := by
    have hl := h2.len
    rw [hlen, List.length_append] at hl
    simp only [Array.size_append, List.size_toArray, Builtin.zeroCells, Array.size_map, Array.size_range, hzs]
    have : (grownCap w (n + k) cap e - (n + k)) * sz + (n + k) * sz = grownCap w (n + k) cap e * sz := by rw [← Nat.add_mul]; congr 1; omega
    omega
  obtain ⟨m', st, sr, hv⟩ := fresh_sound (B := B) h d (w' := w.drew) (arr := olds.toArray ++ (news.toArray ++ Builtin.zeroCells zv.cells (grownCap w (n + k) cap e - (n + k)))) (lim := none) (sz := sz) (n := n + k) (cap := grownCap w (n + k) cap e) e h2
    (fun j x hj => by
      have hjl := (List.getElem?_eq_some_iff.1 hj).1
      rw [List.length_append] at hjl
      have e : olds.toArray ++ news.toArray = (olds ++ news).toArray := by simp
      rw [← Array.append_assoc, Array.getElem?_append_left (by rw [e]; simpa using hjl), e]
      simpa using hj)
    (by simp only [List.length_append, Array.size_append, List.size_toArray]; omega) (.inr rfl) hlen hge hsz.symm (fun c e => by cases e)
  exact ⟨_, _, S, m', hrun, st, sr, hv⟩

/-- nothing is appended -/
theorem app_nothing {sT xT ty e sz by_ : Nat} {ts : Array TypeId} (h0 : ts[0]? = some sT) (h1 : ts[1]? = some xT) (ht : P.underlying sT = some (.slice e)) (hs : szOf P e = some sz) (hby : byOf P e = some by_)
    {x : Value} {news : List Value} (hx : AppX P w e sz (P.underlying xT) x 0 news) (hn : news = []) (a : Option Addr) {n cap : Nat} (hc : n ≤ cap) :
    (Builtin.append_ ts ty #[.slice a n cap, x]).run P w = .ok (.slice a n cap) w := by
  rw [run_app_in (P := P) h0 h1 ht hs hx hby (by simp) a (by omega)]
  subst hn
  cases a <;> simp [storeCells]

theorem append_sound (h : SR w S K m H) (d : Nat) {sT xT ty : Nat} {ts : Array TypeId} (h0 : ts[0]? = some sT) (h1 : ts[1]? = some xT) {a b : V} {out : Out} (he : evAppend P H d sT xT a b = some out) {x y : Value}
    (hx : VR w S B m a x) (hy : VR w S B m b y) : Sound P K B w S m H out (Builtin.append_ ts ty #[x, y]) := by
  unfold evAppend at he
  split at he
  · rename_i e ht
    split at he
    · rename_i sz by_ z hs hby hz
      split at he
      · rename_i cs k fl rd hsrc
        obtain ⟨news, hA, h2, hcl⟩ := appX_of (P := P) h hs hz hsrc hy
        have hnl := h2.len
        split at he
        · rename_i hq
          obtain ⟨hsz, hbp, hzl⟩ := hq
          have zero : k = 0 → cs = [] ∧ news = [] := fun e => by
            subst e
            simp only [Nat.zero_mul] at hcl
            exact ⟨List.eq_nil_of_length_eq_zero hcl, List.eq_nil_of_length_eq_zero (by omega)⟩
          split at he
          · -- nils
            have := hx.nils_inv; subst this
            split at he
            · rename_i hk
              cases he
              subst hk
              exact Sound.pure h (app_nothing h0 h1 ht hs hby hA (zero rfl).2 none (Nat.le_refl _)) (.fr .nils)
            · rename_i hk
              split at he
              · rename_i hb
                cases he
                have := grow_sound (B := B) (ty := ty) (rd := .own d :: rd) h (.own d) h0 h1 ht hs hby hz hzl hbp hA (a := none) (n := 0) (cap := 0) (by simpa using hb) (by omega) (olds := []) (fun w' hw => by simp [Builtin.firstCells]) (old := []) (fl := fl) (by simpa using h2) (by simpa using hcl)
                simpa using this
              · cases he
          · -- emp
            obtain ⟨a0, rfl⟩ := hx.emp_inv
            split at he
            · rename_i hk
              cases he
              subst hk
              exact Sound.pure h (app_nothing h0 h1 ht hs hby hA (zero rfl).2 a0 (Nat.le_refl _)) (.fr (.emp _))
            · rename_i hk
              split at he
              · rename_i hb
                cases he
                have := grow_sound (B := B) (ty := ty) (rd := .own d :: rd) h (.own d) h0 h1 ht hs hby hz hzl hbp hA (a := a0) (n := 0) (cap := 0) (by simpa using hb) (by omega) (olds := []) (fun w' hw => by cases a0 <;> simp [Builtin.firstCells, loadCells, loadCellsFrom]) (old := []) (fl := fl) (by simpa using h2) (by simpa using hcl)
                simpa using this
              · cases he
          · -- list
            rename_i xs l
            split at he
            · rename_i hk
              cases he
              subst hk
              obtain ⟨sz', cap, a0, vals, rfl, q1, q2, q3, q4⟩ := hx.list_inv
              exact Sound.pure h (app_nothing h0 h1 ht hs hby hA (zero rfl).2 a0 q1) hx
            · cases he
          · -- sl
            rename_i i g o n s2 lim
            split at he
            · rename_i b hb
              split at he
              · rename_i hc
                obtain ⟨rfl, hfr, hflat, hbytes⟩ := hc
                obtain ⟨im, a0, cap, hm, ok, rfl, hi, rfl, ha, q1, q2, q3, q4, q5⟩ := VR.sl_live h hx hb
                have hn := ok.n
                have hf := ok.fit
                have hg := ok.gen
                have h2f : All2 (CellR w S m b.flat) cs news := h2.imp (fun c x r => ⟨r.1, r.2.1, fun e => r.2.2 (hflat e)⟩)
                have hkb : k * by_ ≤ 281474976710656 := by
                  have := lim47_le hbytes
                  have : k * by_ ≤ (n + k) * by_ := Nat.mul_le_mul_right _ (by omega)
                  omega
                have hns : n * s2 + k * s2 = (n + k) * s2 := (Nat.add_mul ..).symm
                -- written in place, within what is known
                have inplace : ∀ (lim' : Option Nat), (∀ c, lim' = some c → cap = c) → (lim' = none → im.n ≤ o + cap * s2) → n + k ≤ cap → o + (n + k) * s2 ≤ b.cells.length →
                    Sound P K B w S m H ⟨.sl i im.gen o (n + k) s2 lim', [(i, { b with cells := splice b.cells (o + n * s2) cs })], i :: rd⟩ (Builtin.append_ ts ty #[.slice (some a0) n cap, y]) := by
                  intro lim' hl1 hl2 hnk hfit
                  have hr := run_app_in (P := P) (ty := ty) h0 h1 ht hs hA hby hkb (some a0) hnk
                  rcases Nat.eq_zero_or_pos cap with e0 | e0
                  · have hk0 : k = 0 := by omega
                    obtain ⟨e1, e2⟩ := zero hk0
                    subst hk0 e1 e2
                    refine ⟨.slice (some a0) (n + 0) cap, w, S, m, by rw [hr]; rfl, Step.refl .., ?_, ?_⟩
                    · simp only [Heap.sets, splice_nil]
                      rw [show ({ gen := b.gen, cells := b.cells, frz := b.frz, flat := b.flat } : Blk) = b from rfl, set_self hi]
                      exact h
                    · exact VR.sl i o _ s2 lim' im a0 cap hm ha hnk (by omega) q3 hl2 hl1
                  · rw [ha e0] at hr ⊢
                    obtain ⟨w', m', hrun, st, sr⟩ := write_sound (P := P) h hi hm hfr (o + n * s2) cs news h2f (by omega)
                    have hm' : m' i = some im := by
                      obtain ⟨im', hm', hge, heq⟩ := st.ext i im hm
                      obtain ⟨b', hb', ok'⟩ := sr.of_map hm'
                      rw [Heap.set_same] at hb'; cases hb'
                      have := ok'.gen
                      rw [hm', heq (by simp only at this; omega)]
                    refine ⟨_, w', S, m', ?_, st, sr, VR.sl i o _ s2 lim' im _ cap hm' (fun _ => rfl) hnk (by omega) q3 hl2 hl1⟩
                    rw [hr]
                    simp only [add_eq]
                    rw [show im.dl + o + n * s2 = im.dl + (o + n * s2) by omega, hrun]
                    rfl
                have reads : ∀ xs : List Value, xs.length = n * s2 → (∀ (j : Nat) (x : Value), xs[j]? = some x → w.cell? ⟨im.rb, im.dl + o + j, none⟩ = some x) →
                    ∀ w' : World, w'.heap = w.heap → (Builtin.firstCells s2 n (.slice (some a0) n cap)).run P w' = .ok xs.toArray w' := by
                  intro xs hxl hxq w' hw
                  rcases Nat.eq_zero_or_pos n with e | e
                  · subst e
                    simp only [Nat.zero_mul] at hxl
                    have : xs = [] := List.eq_nil_of_length_eq_zero hxl
                    subst this
                    simp [Builtin.firstCells, loadCells, loadCellsFrom]
                  · rw [ha (by omega)]
                    simp only [Builtin.firstCells]
                    exact run_loadCells_at hw hxl hxq
                split at he
                · split at he
                  · rename_i hfit
                    cases he
                    have hnk : n + k ≤ cap := by
                      have := q4 rfl
                      have : (n + k) * s2 ≤ cap * s2 := by omega
                      exact Nat.le_of_mul_le_mul_right this hsz
                    exact inplace none (fun c e => by cases e) q4 hnk hfit
                  · rename_i hfit
                    split at he
                    · rename_i old hold
                      cases he
                      have hol := (cut_some hold).2
                      obtain ⟨xs, r2, hxl, hxq⟩ := ok.read hold
                      rw [hg]
                      by_cases hnk : n + k ≤ cap
                      · -- there is room
                        have hcp : 0 < cap := by
                          rcases Nat.eq_zero_or_pos cap with e | e
                          · have hk0 : k = 0 := by omega
                            have : n = 0 := by omega
                            subst hk0 this e
                            simp at hfit
                            omega
                          · exact e
                        have hr := run_app_in (P := P) (ty := ty) h0 h1 ht hs hA hby hkb (some a0) hnk
                        rw [ha hcp] at hr ⊢
                        have hcs : (n + k) * s2 ≤ cap * s2 := Nat.mul_le_mul_right _ hnk
                        obtain ⟨w', m', hrun, st, sr, hm'⟩ := extend_sound (P := P) h hi hm hfr hold h2f (by omega) (by omega)
                        refine ⟨.slice (some ⟨im.rb, im.dl + o, none⟩) (n + k) cap, w', S, m', ?_, st, sr, ?_⟩
                        · rw [hr]
                          simp only [add_eq]
                          rw [hrun]
                          rfl
                        · have := VR.sl (w := w') (S := S) (B := B) (m := m') i 0 (n + k) s2 none _ ⟨im.rb, im.dl + o, none⟩ cap hm' (fun _ => rfl) hnk (by simp only; omega) (by simp only; omega) (fun _ => by simp only; omega) (fun c e => by cases e)
                          exact this
                      · -- there is none: a new block
                        have hng : nextGen H i = b.gen + 1 := by simp [nextGen, hi]
                        have := grow_sound (B := B) (ty := ty) (rd := i :: rd) h i h0 h1 ht hs hby hz hzl hbp hA (a := some a0) hbytes (by omega) (olds := xs) (reads xs hxl hxq) (old := old) (fl := b.flat)
                          ((r2.imp (fun c x r => ⟨r.2.1, r.1, r.2.2⟩)).app h2f) (by rw [List.length_append, hol, hcl]; omega)
                        rw [hng] at this
                        exact this
                    · cases he
                · rename_i c
                  split at he
                  · rename_i hnk
                    split at he
                    · rename_i hfit
                      cases he
                      have hcc := q5 c rfl
                      exact inplace (some c) q5 (fun e => by cases e) (by omega) hfit
                    · cases he
                  · rename_i hnk
                    split at he
                    · rename_i old hold
                      cases he
                      have hol := (cut_some hold).2
                      obtain ⟨xs, r2, hxl, hxq⟩ := ok.read hold
                      have hcc := q5 c rfl
                      exact grow_sound (B := B) (ty := ty) h (.own d) h0 h1 ht hs hby hz hzl hbp hA (a := some a0) hbytes (by omega) (olds := xs) (reads xs hxl hxq) (old := old) (fl := b.flat && fl)
                        ((r2.imp (R' := CellR w S m (b.flat && fl)) (fun c x r => ⟨r.2.1, r.1, fun e => r.2.2 (by simp at e; exact e.1)⟩)).app (h2.imp (fun c x r => ⟨r.1, r.2.1, fun e => r.2.2 (by simp at e; exact e.2)⟩))) (by rw [List.length_append, hol, hcl]; omega)
                    · cases he
              · cases he
            · cases he
          · cases he
        · cases he
      · cases he
    · cases he
  · cases he
end
end Go.Proofs.Ytcamcfplcoklkaa.Iv

namespace Go.Proofs.Ytcamcfplcoklkaa.Iv
open Go
section
variable {P : Program} {K B : Nat → Prop} {w : World} {S : Nat → Prop} {m : Map} {H : Heap}
set_option linter.unusedVariables false
set_option linter.unusedSimpArgs false

theorem empty_dst {v : V} (hv : v = .nils ∨ v = .emp ∨ ∃ l, v = .list [] l) {x : Value} (hx : VR w S B m v x) : ∃ a cap, x = .slice a 0 cap := by
  rcases hv with rfl | rfl | ⟨l, rfl⟩
  · exact ⟨_, _, hx.nils_inv⟩
  · obtain ⟨a, e⟩ := hx.emp_inv; exact ⟨_, _, e⟩
  · obtain ⟨sz, cap, a, vals, e, _⟩ := hx.list_inv; exact ⟨_, _, e⟩

theorem copy_sound (h : SR w S K m H) {dT ty : Nat} {ts : Array TypeId} (h0 : ts[0]? = some dT) {a b : V} {out : Out} (he : evCopy P H dT a b = some out) {x y : Value}
    (hx : VR w S B m a x) (hy : VR w S B m b y) : Sound P K B w S m H out (Builtin.copy_ ts ty #[x, y]) := by
  unfold evCopy at he
  split at he
  · rename_i e ht
    split at he
    · rename_i sz hs
      split at he
      · rename_i cs k fl rd hsrc
        obtain ⟨news, h2, q1, q2, hcl⟩ := src_sound (P := P) h hsrc hy
        have none_ : (a = .nils ∨ a = .emp ∨ ∃ l, a = .list [] l) → Sound P K B w S m H ⟨.int .i64 0, [], rd⟩ (Builtin.copy_ ts ty #[x, y]) := fun hv => by
          obtain ⟨a0, cap, rfl⟩ := empty_dst hv hx
          refine Sound.pure h (x := .int .i64 0) ?_ .i
          have q3 := q2 w rfl 0 (Nat.zero_le _)
          simp only [Nat.zero_mul, List.take_zero] at q3
          cases a0 <;> simp [Builtin.copy_, h0, run_underlying ht, run_sizeOf' hs, q1, q3, goInt, storeCells]
        split at he
        · cases he; exact none_ (.inl rfl)
        · cases he; exact none_ (.inr (.inl rfl))
        · cases he; exact none_ (.inr (.inr ⟨_, rfl⟩))
        · rename_i i g o n s2 lim
          split at he
          · rename_i b hb
            split at he
            · rename_i hc
              obtain ⟨rfl, hsz, hfr, hflat, hcs, ho⟩ := hc
              cases he
              obtain ⟨im, a0, cap, hm, ok, rfl, hi, rfl, ha, p1, p2, p3, p4, p5⟩ := VR.sl_live h hx hb
              have q3 := q2 w rfl (min k n) (Nat.min_le_left ..)
              have hmn : min k n * s2 ≤ n * s2 := Nat.mul_le_mul_right _ (Nat.min_le_right ..)
              have h2f : All2 (CellR w S m b.flat) (cs.take (min k n * s2)) (news.take (min k n * s2)) := (h2.take _).imp (fun c x r => ⟨r.1, r.2.1, fun e => r.2.2 (hflat e)⟩)
              have hrun0 : (Builtin.copy_ ts ty #[.slice (some a0) n cap, y]).run P w = ((storeCells a0 (news.take (min k n * s2))).run P w).andThen fun _ w' => .ok (.int .i64 (min k n : Nat)) w' := by
                simp [Builtin.copy_, h0, run_underlying ht, run_sizeOf' hs, q1, q3, goInt]
              rcases Nat.eq_zero_or_pos cap with e0 | e0
              · have hz : min k n = 0 := by omega
                refine ⟨.int .i64 (min k n : Nat), w, S, m, by rw [hrun0, hz]; simp [storeCells], Step.refl .., ?_, .i⟩
                simp only [Heap.sets, hz, Nat.zero_mul, List.take_zero, splice_nil]
                rw [show ({ gen := b.gen, cells := b.cells, frz := b.frz, flat := b.flat } : Blk) = b from rfl, set_self hi]
                exact h
              · rw [ha e0] at hrun0 ⊢
                obtain ⟨w', m', hrun, st, sr⟩ := write_sound (P := P) h hi hm hfr o _ _ h2f (by rw [List.length_take]; omega)
                refine ⟨_, w', S, m', ?_, st, sr, .i⟩
                rw [hrun0, hrun]
                rfl
            · cases he
          · cases he
        · cases he
      · cases he
    · cases he
  · cases he

theorem clear_sound (h : SR w S K m H) {t ty : Nat} {ts : Array TypeId} (h0 : ts[0]? = some t) {a : V} {out : Out} (he : evClear P H t a = some out) {x : Value}
    (hx : VR w S B m a x) : Sound P K B w S m H out (Builtin.clear_ ts ty #[x]) := by
  have tup0 : ∀ {w S m}, VR w S B m (.tup []) (.tuple #[]) := fun {w S m} => VR.tup_mk (xs := []) trivial
  unfold evClear at he
  split at he
  · rename_i e ht
    split at he
    · rename_i sz z hs hz
      have none_ : (a = .nils ∨ a = .emp ∨ ∃ l, a = .list [] l) → Sound P K B w S m H ⟨.tup [], [], []⟩ (Builtin.clear_ ts ty #[x]) := fun hv => by
        obtain ⟨a0, cap, rfl⟩ := empty_dst hv hx
        refine Sound.pure h (x := .tuple #[]) ?_ tup0
        cases a0 <;> simp [Builtin.clear_, h0, run_underlying ht]
      split at he
      · cases he; exact none_ (.inl rfl)
      · cases he; exact none_ (.inr (.inl rfl))
      · cases he; exact none_ (.inr (.inr ⟨_, rfl⟩))
      · rename_i i g o n s2 lim
        split at he
        · rename_i b hb
          split at he
          · rename_i hc
            obtain ⟨rfl, hsz, hfr, hzl, hzp, ho⟩ := hc
            cases he
            obtain ⟨im, a0, cap, hm, ok, rfl, hi, rfl, ha, p1, p2, p3, p4, p5⟩ := VR.sl_live h hx hb
            rcases Nat.eq_zero_or_pos n with e0 | e0
            · subst e0
              refine ⟨.tuple #[], w, S, m, by simp [Builtin.clear_, h0, run_underlying ht], Step.refl .., ?_, tup0⟩
              simp only [Heap.sets, rep, List.replicate_zero, List.flatten_nil, splice_nil]
              rw [show ({ gen := b.gen, cells := b.cells, frz := b.frz, flat := b.flat } : Blk) = b from rfl, set_self hi]
              exact h
            · obtain ⟨i0, zv, hi0, hzz, hzs, hz2⟩ := zero_of hz hzp
              have hzc : (Builtin.zeroCells zv.cells n).size = n * zv.cells.size := by simp [Builtin.zeroCells]
              have h2 := rep_cells (hz2 w S m) n hzc (fun j hj => by simp [Builtin.zeroCells, hj])
              have h2f : All2 (CellR w S m b.flat) (rep n z) (Builtin.zeroCells zv.cells n).toList := h2.imp (fun c x r => ⟨r.1, r.2.1, fun e => r.2.2 rfl⟩)
              rw [ha (by omega)]
              obtain ⟨w', m', hrun, st, sr⟩ := write_sound (P := P) h hi hm hfr o _ _ h2f (by rw [show (rep n z).length = n * z.length from repl_len z _, hzl]; omega)
              refine ⟨.tuple #[], w', S, m', ?_, st, sr, tup0⟩
              have hzr : (zeroValue e).run P w = .ok zv w := by unfold zeroValue typeInfo; simp [hi0, hzz]
              have hn0 : n ≠ 0 := by omega
              obtain ⟨n', rfl⟩ : ∃ q, n = q + 1 := ⟨n - 1, by omega⟩
              simp [Builtin.clear_, h0, run_underlying ht, hzr, hrun]
          · cases he
        · cases he
      · cases he
    · cases he
  · cases he

/-! ### literals of slices -/
theorem VR.one_of_kept {v : V} {x : Value} (h : VR w S B m v x) (hk : v.kept = true) : x.oneCell' = true := by
  cases h with
  | fr h => exact h.one
  | und => simp [V.kept, V.kept0] at hk
  | agg => simp [V.kept, V.kept0] at hk
  | tup => simp [V.kept, V.kept0] at hk
  | _ => rfl
theorem zero_VR {e : Nat} {z : List V} (hz : zOf P e = some z) : ∃ zv : Value, (∀ w : World, (zeroValue e).run P w = .ok zv w) ∧ zv.cells.size = z.length ∧ ∀ (w : World) (S B : Nat → Prop) (m : Map), All2 (VR w S B m) z zv.cells.toList := by
  obtain ⟨i, zv, hi, hzz, rfl⟩ := zOf_info hz
  refine ⟨zv, fun w => by unfold zeroValue typeInfo; simp [hi, hzz], (ofVal_len zv).symm, fun w S B m => ?_⟩
  cases zv with
  | agg cs =>
    refine All2.of (by simp [ofVal, V.cells, Value.cells]) (fun j c x h1 h2 => ?_)
    simp only [ofVal, V.cells, List.getElem?_map, Value.cells] at h1 h2
    rw [h2] at h1
    simp only [Option.map_some, Option.some.injEq] at h1
    subst h1; exact sc_VR x
  | _ =>
    have e : ∀ y : Value, (sc y).cells = [sc y] := fun y => by
      cases hh : sc y <;> first | rfl | exact (sc_agg _ _ hh).elim
    simp only [ofVal, e, Value.cells]
    exact ⟨sc_VR _, trivial⟩

theorem keep1_form {v : V} {o : Out} (he : keep1 H v = some o) : o.v ≠ .und ∧ ∀ cs, o.v ≠ .tup cs := by
  unfold keep1 at he
  split at he
  · split at he
    · split at he
      · split at he
        · cases he; exact ⟨by simp, by simp⟩
        · cases he
      · cases he
    · cases he
  · split at he
    · cases he
    · cases he; exact ⟨by simp, by simp⟩
  · cases he; exact ⟨by simp, by simp⟩
  · cases he; exact ⟨by simp, by simp⟩
  · split at he
    · cases he
    · cases he; exact ⟨by simp, by simp⟩
  · cases he
  · cases he
  · cases he
  · split at he
    · cases he; exact ⟨by simp, by simp⟩
    · cases he
  · rename_i n1 n2 n3 n4 n5 n6 n7 n8 n9
    cases he
    exact ⟨fun e => n6 e, fun cs e => n7 _ e⟩
theorem keepV_form {v : V} {o : Out} (he : keepV H v = some o) : o.v ≠ .und ∧ ∀ cs, o.v ≠ .tup cs := by
  unfold keepV at he
  split at he
  · split at he
    · cases he; exact ⟨by simp, by simp⟩
    · cases he
  · exact keep1_form he

theorem keepParts_sound : ∀ {ps : List (Nat × V)} {S : Nat → Prop} {H1 : Heap} (hF : FrzOf H H1) (h : SR w S K m H1) {o : List (Nat × List V) × List (Id × Blk) × List Id} (he : keepParts H ps = some o) {qs : List (Nat × Value)}
    (hx : PartsR (VR w S B m) ps qs), ∃ S', Step K w S m w S' m ∧ SR w S' K m (H1.sets o.2.1) ∧ FrzOf H (H1.sets o.2.1) ∧ o.1.length = qs.length ∧
      ∀ (j : Nat) p q, o.1[j]? = some p → qs[j]? = some q → p.1 = q.1 ∧ All2 (VR w S' no m) p.2 q.2.cells.toList
  | [], S, H1, hF, h, o, he, qs, hx => by
    simp [keepParts] at he; subst he
    have : qs = [] := List.eq_nil_of_length_eq_zero hx.1.symm
    subst this
    exact ⟨S, Step.refl .., h, hF, rfl, fun j p q e => by simp at e⟩
  | (i, v) :: r, S, H1, hF, h, o, he, [], hx => by have := hx.1; simp at this
  | (i, v) :: r, S, H1, hF, h, o, he, (i', x) :: qs, hx => by
    simp only [keepParts] at he
    split at he
    · rename_i v' u d hv
      split at he
      · rename_i vs us ds hr
        cases he
        obtain ⟨e1, hvx⟩ := hx.2 0 _ _ rfl rfl
        obtain ⟨S1, st1, sr1, hF1, hv1⟩ := keepV_sound hF h hv hvx
        have hform := keepV_form hv
        obtain ⟨S2, st2, sr2, hF2, hl2, hv2⟩ := keepParts_sound hF1 sr1 hr (qs := qs) ⟨by have := hx.1; simpa using this, fun j p q h1 h2 => by
          obtain ⟨a, b⟩ := hx.2 (j + 1) p q (by simpa using h1) (by simpa using h2)
          exact ⟨a, b.monoS st1⟩⟩
        refine ⟨S2, st1.trans st2, by rw [sets_app]; exact sr2, by rw [sets_app]; exact hF2, by simp [hl2], fun j p q h1 h2 => ?_⟩
        cases j with
        | zero =>
          simp at h1 h2; subst h1 h2
          exact ⟨e1, (cells_of hv1 hform.1 hform.2).imp (fun c x r => r.monoS st2)⟩
        | succ j => exact hv2 j p q (by simpa using h1) (by simpa using h2)
      · cases he
    · cases he

theorem fillV_eq (sz : Nat) : ∀ (ps : List (Nat × List V)) (cells : List V), fillV sz ps cells = fillF (fun i => some (i * sz, sz)) (ps.map fun p => (p.1, V.agg p.2)) cells
  | [], cells => rfl
  | (i, cs) :: r, cells => by
    simp only [fillV, List.map_cons, fillF]
    by_cases h : cs.length = sz ∧ i * sz + sz ≤ cells.length
    · have h' : (V.agg cs).cells.length = sz ∧ i * sz + sz ≤ cells.length := h
      rw [if_pos h, if_pos h']; exact fillV_eq sz r _
    · have h' : ¬ ((V.agg cs).cells.length = sz ∧ i * sz + sz ≤ cells.length) := h
      rw [if_neg h, if_neg h']

theorem nextGen_frz {H H1 : Heap} (hF : FrzOf H H1) (i : Id) : nextGen H1 i = nextGen H i := by
  rcases hF i with e | ⟨b, e1, e2⟩
  · simp [nextGen, e]
  · simp [nextGen, e1, e2]

theorem buildSlice_sound (h : SR w S K m H) (d : Nat) {t len : Nat} {ps : List (Nat × V)} {out : Out} (he : evBuildSlice P H d t len ps = some out) {qs : Array (Nat × Value)}
    (hp : PartsR (VR w S B m) ps qs.toList) : Sound P K B w S m H out (Instr.buildSlice t len qs) := by
  unfold evBuildSlice at he
  split at he
  · rename_i e ht
    split at he
    · rename_i sz z hs hz
      split at he
      · rename_i hc
        obtain ⟨c1, c2, c3⟩ := hc
        split at he
        · rename_i ps' u rd hk
          split at he
          · rename_i cells hf
            split at he
            · rename_i hkept
              cases he
              obtain ⟨S1, st1, sr1, hF1, hl1, hv1⟩ := keepParts_sound (FrzOf.refl H) h hk hp
              simp only at sr1 hF1 hl1 hv1
              obtain ⟨zv, hzr, hzs, hz2⟩ := zero_VR hz
              rw [fillV_eq] at hf
              have hzsz : zv.cells.size = sz := by rw [hzs, c3]
              have hzero : All2 (VR w S1 no m) (rep len z) ((Array.range (len * sz)).map (zv.cells[· % zv.cells.size]!)).toList :=
                rep_cells (hz2 w S1 no m) len (by simp [hzsz]) (fun j hj => by
                  rw [hzsz] at hj
                  simp [hj])
              obtain ⟨r', hr, h2⟩ := fill_sound hf (by rw [List.length_map]; exact hl1) (fun j p q e1 e2 => by
                rw [List.getElem?_map] at e1
                cases hp' : ps'[j]? with
                | none => rw [hp'] at e1; cases e1
                | some p' =>
                  rw [hp'] at e1
                  simp only [Option.map_some, Option.some.injEq] at e1
                  subst e1
                  exact hv1 j p' q hp' e2) hzero
              have hlen : cells.length = len * sz := by
                have hh : ∀ (ps : List (Nat × V)) (c r : List V), fillF (fun i => some (i * sz, sz)) ps c = some r → r.length = c.length := by
                  intro ps
                  induction ps with
                  | nil => intro c r e; simp [fillF] at e; subst e; rfl
                  | cons p ps ih =>
                    intro c r e
                    obtain ⟨i, v⟩ := p
                    simp only [fillF] at e
                    split at e
                    · rename_i q; rw [ih _ _ e]; unfold splice; simp; omega
                    · cases e
                rw [hh _ _ _ hf, show (rep len z).length = len * z.length from repl_len z _, c3]
              have h2c : All2 (CellR w S1 m (cells.all V.plain)) cells r'.toList := h2.imp' (fun c x hc r => ⟨r.one_of_kept (List.all_eq_true.1 hkept c hc), r, fun e => r.plain (List.all_eq_true.1 e c hc)⟩)
              have hrs : r'.size = len * sz := by have := h2c.len; rw [hlen] at this; simpa using this
              obtain ⟨m', st, sr, hv⟩ := fresh_sound (B := B) sr1 (.own d) (w' := w) (arr := r') (lim := some len) (sz := sz) (n := len) (cap := len) e h2c (fun j x hj => by simpa using hj) (by simp) (.inl rfl) hlen (Nat.le_refl _) hrs.symm (fun c e => by cases e; rfl)
              rw [nextGen_frz hF1] at sr hv
              refine ⟨_, _, S1, m', ?_, st1.trans st, ?_, hv⟩
              · have hbig : ¬ (16777216 < len * sz) := by omega
                by_cases h0 : len * sz = 0
                · have hl0 : len = 0 := by
                    rcases Nat.mul_eq_zero.1 h0 with q | q
                    · exact q
                    · omega
                  subst hl0
                  have e0 : ∀ f : Nat → Value, (Array.range (0 * sz)).map f = #[] := fun f => by apply Array.ext'; simp
                  have e1 : ∀ f : Nat → Value, (Array.range 0).map f = #[] := fun f => by apply Array.ext'; simp
                  rw [e0] at hr
                  simp [Instr.buildSlice, run_underlying ht, run_sizeOf' hs, newRow, hr, e0, e1]
                · simp [Instr.buildSlice, run_underlying ht, run_sizeOf' hs, hbig, h0, hzr, newRow, hr]
              · simp only [sets_app]
                exact sr
            · cases he
          · cases he
        · cases he
      · cases he
    · cases he
  · cases he
end
end Go.Proofs.Ytcamcfplcoklkaa.Iv

namespace Go.Proofs.Ytcamcfplcoklkaa.Iv
open Go
section
variable {P : Program} {K B : Nat → Prop} {w : World} {S : Nat → Prop} {m : Map} {H : Heap}
set_option linter.unusedVariables false
set_option linter.unusedSimpArgs false

theorem toBytes_cells : ∀ {cs : List V} {l : List UInt8} {xs : List Value}, toBytes cs = some l → All2 (CellR w S m true) cs xs → ∃ ns : List Int, xs = ns.map (Value.int .u8) ∧ l = ns.map (fun n => UInt8.ofNat n.toNat)
  | [], l, [], he, _ => by simp [toBytes] at he; subst he; exact ⟨[], rfl, rfl⟩
  | [], _, _ :: _, _, h => h.elim
  | _ :: _, _, [], _, h => h.elim
  | c :: cs, l, x :: xs, he, h => by
    unfold toBytes at he
    split at he
    · rename_i e; cases e
    · rename_i n r e
      cases e
      split at he
      · rename_i l' hl
        cases he
        obtain ⟨ns, e1, e2⟩ := toBytes_cells hl h.2
        have hx := h.1.2.1.int_inv
        exact ⟨n :: ns, by simp [hx, e1], by simp [e2]⟩
      · cases he
    · cases he
theorem foldl_push (ns : List Int) : ∀ s : ByteArray, ns.foldl (fun r n => r.push (UInt8.ofNat n.toNat)) s = ⟨s.data ++ (ns.map (fun n => UInt8.ofNat n.toNat)).toArray⟩ := by
  induction ns with
  | nil => intro s; simp
  | cons n ns ih =>
    intro s
    simp only [List.foldl_cons, ih, List.map_cons]
    congr 1
    apply Array.ext'
    simp [ByteArray.push]

theorem bytes_flat : ∀ l : List UInt8, (l.map fun b => [V.int .u8 b.toNat]).flatten = l.map fun b => V.int .u8 b.toNat
  | [] => rfl
  | b :: l => by simp [bytes_flat l]
theorem convert_sound (h : SR w S K m H) {s t : Nat} {a : V} {out : Out} (he : evConvert P H s t a = some out) {x : Value} (hx : VR w S B m a x) : Sound P K B w S m H out (convert s t x) := by
  unfold evConvert at he
  split at he
  · rename_i e hs ht
    split at he
    · rename_i hu8
      split at he
      · rename_i cs k fl rd hsrc0
        split at he
        · rename_i l hb
          cases he
          have hsrc : src H 1 a = some (cs, k, fl, rd) ∧ ∀ s, a ≠ .str s := by
            unfold srcS at hsrc0
            split at hsrc0
            · cases hsrc0
            · rename_i q; exact ⟨hsrc0, fun s e => q s e⟩
          obtain ⟨hsrc, hns⟩ := hsrc
          obtain ⟨news, h2, q1, q2, hcl⟩ := src_sound (P := P) h hsrc hx
          have q3 := q2 w rfl k (Nat.le_refl _)
          rw [List.take_of_length_le (by rw [h2.len, hcl]; exact Nat.le_refl _)] at q3
          -- bytes are plain whatever block they lie in
          have h3 : All2 (CellR w S m true) cs news := by
            have : ∀ {cs : List V} {l : List UInt8}, toBytes cs = some l → ∀ c ∈ cs, ∃ n, c = .int .u8 n := by
              intro cs
              induction cs with
              | nil => intro l _ c hc; cases hc
              | cons c cs ih =>
                intro l e c' hc
                unfold toBytes at e
                split at e
                · rename_i q; cases q
                · rename_i n r q
                  cases q
                  split at e
                  · rename_i l' hl
                    rcases List.mem_cons.1 hc with rfl | hc
                    · exact ⟨n, rfl⟩
                    · exact ih hl c' hc
                  · cases e
                · cases e
            refine h2.imp' (fun c x hc r => ⟨r.1, r.2.1, fun _ => ?_⟩)
            obtain ⟨n, rfl⟩ := this hb c hc
            exact r.2.1.plain rfl
          obtain ⟨ns, e1, e2⟩ := toBytes_cells hb h3
          have hxs : ∃ a' n cap, x = .slice a' n cap := by
            unfold src at hsrc
            split at hsrc
            · obtain ⟨a', cap, e, _⟩ := hx.sl_shape; exact ⟨_, _, _, e⟩
            · obtain ⟨_, cap, a', _, e, _⟩ := hx.list_inv; exact ⟨_, _, _, e⟩
            · exact ⟨_, _, _, hx.nils_inv⟩
            · obtain ⟨a', e⟩ := hx.emp_inv; exact ⟨_, _, _, e⟩
            · exact absurd rfl (hns _)
            · cases hsrc
          obtain ⟨a0, n0, cap0, rfl⟩ := hxs
          have hn : n0 = k := by simp [Builtin.lenOf] at q1; exact q1
          subst hn
          refine Sound.pure h (x := .string ⟨l.toArray⟩) ?_ (.fr (.str _))
          rw [run_convert_bytes_string w s t e a0 n0 cap0 hs hu8 ht]
          cases a0 with
          | none =>
            simp only [Builtin.firstCells, Sem.run_pure, Result.ok.injEq, and_true] at q3
            have : news = [] := by simpa using q3.symm
            subst this
            have : ns = [] := by simpa using e1.symm
            subst this
            simp only [List.map_nil] at e2
            subst e2
            rfl
          | some a0 =>
            simp only [Builtin.firstCells, Nat.mul_one] at q3
            rw [e1] at q3
            rw [run_bytesToString w a0 n0 cap0 ns q3, foldl_push, e2]
            have e3 : ByteArray.empty.data ++ (ns.map fun n => UInt8.ofNat n.toNat).toArray = (ns.map fun n => UInt8.ofNat n.toNat).toArray := by
              show (#[] : Array UInt8) ++ _ = _
              simp
            rw [e3]
        · cases he
      · cases he
    · cases he
  · rename_i u k hs ht
    split at he
    · cases he
      have := hx.int_inv; subst this
      exact Sound.pure h (x := .int k (k.wrap _)) (by simp [convert, run_underlying hs, run_underlying ht, Conv.intToInt]) .i
    · cases he
  · rename_i u hs ht
    split at he
    · rename_i l
      cases he
      have := hx.str_inv; subst this
      exact Sound.pure h (x := .string ⟨l.toArray⟩) (by simp [convert, run_underlying hs, run_underlying ht]) (.fr (.str _))
    · cases he
  · rename_i u e hs ht
    split at he
    · rename_i l
      split at he
      · rename_i hu8
        split at he
        · rename_i sz z hsz hz
          cases he
          have := hx.str_inv; subst this
          have hrun := Lib.run_convert_string_bytes (P := P) w s t e ⟨l.toArray⟩ hs ht hu8
          have hbs : (⟨l.toArray⟩ : ByteArray).size = l.length := rfl
          have hold : ∀ k, k < w.heap.size → (Lib.bytesWorld w e ⟨l.toArray⟩).heap[k]? = w.heap[k]? := fun k hk => Lib.bytesWorld_at_old w e _ k hk
          have hS : ∀ rb, S rb → rb < w.heap.size := h.sub
          have st : Step K w S m (Lib.bytesWorld w e ⟨l.toArray⟩) (fun r => S r ∨ r = w.heap.size) m :=
            ⟨by unfold Lib.bytesWorld World.freeze; simp [World.alloc, World.drew, -World.alloc_eq, -World.drew_eq], by unfold Lib.bytesWorld World.freeze; simp [World.alloc, World.drew, -World.alloc_eq, -World.drew_eq],
              by unfold Lib.bytesWorld World.freeze; simp [World.alloc, World.drew, -World.alloc_eq, -World.drew_eq], by rw [Lib.bytesWorld_size]; omega, fun rb hb => .inl hb, fun rb hb => hb.elim .inl (fun e => .inr (fun hk => by have := h.kin rb hk; omega)), fun rb hb => hold rb (hb.elim (h.sub rb) (h.kin rb)), fun i im hm => ⟨im, hm, Nat.le_refl _, fun _ => rfl⟩, ⟨by rw [Lib.bytesWorld_size]; omega, fun k o hk _ => by
                rw [hold k (Array.getElem?_eq_some_iff.1 hk).1]; exact hk⟩⟩
          refine ⟨_, _, _, m, hrun, st, ⟨fun rb hb => (by rw [Lib.bytesWorld_size]; exact hb.elim (fun q => Nat.lt_succ_of_lt (h.sub rb q)) (fun q => q ▸ Nat.lt_succ_self _)), fun rb hb => (by rw [Lib.bytesWorld_size]; exact Nat.lt_succ_of_lt (h.kin rb hb)), fun i b hi => ?_, h.non, h.inj, h.own, fun rb hb => hb.elim (fun q => by rw [hold rb (h.sub rb q)]; exact h.scel rb q) (fun e => by subst e; exact ⟨_, Lib.bytesWorld_at_new w _ _, rfl⟩)⟩, ?_⟩
          · obtain ⟨im, hm, ok⟩ := h.blk i b hi
            exact ⟨im, hm, ok.mono st (hold _ ok.lt) (fun hf hs => hs.elim (ok.thaw hf) (fun e => by have := ok.lt; omega))⟩
          · have hgc := grownCap_ge w (⟨l.toArray⟩ : ByteArray).size 0 e
            have key := VR.list_mk (w := Lib.bytesWorld w e ⟨l.toArray⟩) (S := fun r => S r ∨ r = w.heap.size) (B := B) (m := m) (l := false) (xs := l.map fun b => [V.int .u8 b.toNat]) 1 (grownCap w (⟨l.toArray⟩ : ByteArray).size 0 e) (some ⟨w.heap.size, 0, none⟩)
              (fun j => .int .u8 (l.getD j 0).toNat) (by rw [List.length_map]; rw [hbs] at hgc; exact hgc) (fun x hx => by obtain ⟨b, _, rfl⟩ := List.mem_map.1 hx; rfl)
              (fun _ => ⟨w.heap.size, 0, rfl, .inl (.inr rfl), fun j hj => by
                have hj' : j < l.length := by
                  rw [flatten_len 1 _ (fun x hx => by obtain ⟨b, _, rfl⟩ := List.mem_map.1 hx; rfl)] at hj; simpa using hj
                have := Lib.bytesWorld_cell w e ⟨l.toArray⟩ j hj'
                simpa using this⟩)
              (fun j c hj => by
                rw [bytes_flat, List.getElem?_map] at hj
                cases hb : l[j]? with
                | none => rw [hb] at hj; cases hj
                | some b =>
                  rw [hb] at hj; cases hj
                  simp only [List.getD, hb, Option.getD_some]
                  exact .int _ _)
            rw [List.length_map] at key
            exact key
        · cases he
      · cases he
    · cases he
  · cases he
end
end Go.Proofs.Ytcamcfplcoklkaa.Iv
