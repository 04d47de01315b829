import Derived.Test.YtieapebabncliaaM1
import Derived.RangeFuncNested
import Derived.OrdersIn
import Derived.TacticsIn
import Derived.LoopN
import Derived.Scope
namespace Go.Proofs.Ytieapebabncliaa.Iv
open Go
section
variable {P : Program} {K B : Nat → Prop} {w : World} {S : Nat → Prop} {m : Map} {H : Heap}
set_option linter.unusedVariables false
set_option linter.unusedSimpArgs false

/-- a new block behind some draws, its first cells as 'cells' say -/
theorem fresh_sound (h : SR w S K m H) (d : Id) {cells : List V} {fl : Bool} {arr : Array Value} {ys : List Value} (e : TypeId) (h2 : All2 (CellR w S m fl) cells ys)
    (harr : ∀ (j : Nat) (x : Value), ys[j]? = some x → arr[j]? = some x) (hle : ys.length ≤ arr.size) {w' : World} (hw : w' = w ∨ w' = w.drew) {sz n cap : Nat}
    (hn : cells.length = n * sz) (hcap : n ≤ cap) (hsz : cap * sz = arr.size) {lim : Option Nat} (hlim : ∀ c, lim = some c → cap = c) :
    ∃ m', Step K w S m (w'.alloc (.cells arr e)) S m' ∧ SR (w'.alloc (.cells arr e)) S K m' (H.set d ⟨nextGen H d, cells, false, fl⟩) ∧
      VR (w'.alloc (.cells arr e)) S B m' (.sl d (nextGen H d) 0 n sz lim) (.slice (some ⟨w.heap.size, 0, none⟩) n cap) := by
  have key : ∀ w'', (w'' = w ∨ w'' = w.drew) → Step K w S m w'' S m ∧ SR w'' S K m H ∧ w''.heap.size = w.heap.size := fun w'' e => by
    rcases e with rfl | rfl
    · exact ⟨Step.refl .., h, rfl⟩
    · exact ⟨Step.drew .., h.drew, rfl⟩
  obtain ⟨st0, sr0, hs0⟩ := key w' hw
  have hl := h2.len
  have A := SR.alloc sr0 d cells fl arr e (by omega) (fun j c hj => by
    obtain ⟨x, hx, r⟩ := h2.get hj
    exact ⟨x, harr j x hx, r.1, r.2.1.mono st0 (fun _ f => f.elim), fun hf => (r.2.2 hf).mono (fun rb hb => st0.pres rb (.inl hb)) (fun _ x => x)⟩)
  refine ⟨_, st0.trans A.1, A.2, ?_⟩
  have V0 := VR.sl (w := w'.alloc (.cells arr e)) (S := S) (B := B) (m := Map.put m d ⟨nextGen H d, w'.heap.size, 0, cells.length, arr.size⟩) d 0 n sz lim _
    ⟨w.heap.size, 0, none⟩ cap (Map.put_same ..) (fun _ => by rw [hs0]) hcap (by simp only; omega) (by simp only; omega) (fun _ => by
      simp only
      have : n * sz ≤ cap * sz := Nat.mul_le_mul_right _ hcap
      omega) hlim
  exact V0

theorem makeSlice_sound (h : SR w S K m H) (d : Nat) {t : Nat} {l c : V} {out : Out} (he : evMakeSlice P H d t l c = some out) {x y : Value} (hx : VR w S B m l x) (hy : VR w S B m c y) :
    Sound P K B w S m H out (Instr.makeSlice t x y) := by
  unfold evMakeSlice at he
  split at he
  · rename_i e k1 l' k2 c' hu
    have := hx.int_inv; subst this
    have := hy.int_inv; subst this
    split at he
    · rename_i sz by_ z hs hb hz
      split at he
      · rename_i hc
        obtain ⟨c1, c2, c3, c4, c5, c6, c7⟩ := hc
        cases he
        obtain ⟨i, zv, hi, hzz, hzs, hz2⟩ := zero_of hz c7
        obtain ⟨i1, hi1, rfl⟩ := szOf_info hs
        obtain ⟨i2, hi2, rfl⟩ := byOf_info hb
        rw [hi] at hi1 hi2; cases hi1; cases hi2
        have hbytes : (i.bytes : Int) * c' ≤ 281474976710656 := by
          have e1 : ((i.bytes * c'.toNat : Nat) : Int) = (i.bytes : Int) * c' := by
            rw [Int.natCast_mul, Int.toNat_of_nonneg (by omega)]
          have e2 : i.bytes * c'.toNat ≤ 35184372088832 := by simpa [lim47] using c4
          rw [← e1]; omega
        have hrun := run_make (P := P) w t e i zv hu hi hzz k1 k2 l' c' c1 c2 hbytes (by omega)
        have hsize : (madeCells zv.cells (c'.toNat * i.size)).size = c'.toNat * i.size := size_madeCells _ _
        have hzc : zv.cells.size = i.size := by rw [hzs, c6]
        have hget : ∀ j, j < c'.toNat * i.size → (madeCells zv.cells (c'.toNat * i.size))[j]? = some (zv.cells[j % zv.cells.size]!) := fun j hj => by simp [madeCells, hj]
        have hle : l'.toNat * i.size ≤ c'.toNat * i.size := Nat.mul_le_mul_right _ (by omega)
        have h2 := rep_cells (hz2 w S m) l'.toNat (arr := (madeCells zv.cells (c'.toNat * i.size)).extract 0 (l'.toNat * i.size)) (by rw [Array.size_extract, hsize, hzc]; omega) (fun j hj => by
          rw [hzc] at hj
          rw [Array.getElem?_extract]
          simp only [Nat.zero_add, Nat.sub_zero]
          rw [if_pos (by omega)]
          rw [← hzc]; rw [hzc]
          have := hget j (by omega)
          rw [hzc] at this
          exact this)
        obtain ⟨m', st, sr, hv⟩ := fresh_sound (B := B) h (.own d) (w' := w) (lim := none) (sz := i.size) (n := l'.toNat) (cap := c'.toNat) e h2 (fun j x hj => by
            rw [Array.getElem?_toList, Array.getElem?_extract] at hj
            simp only [Nat.zero_add, Nat.sub_zero] at hj
            split at hj
            · exact hj
            · cases hj) (by rw [Array.length_toList, Array.size_extract]; omega) (.inl rfl) (by rw [show (rep l'.toNat z).length = l'.toNat * z.length from repl_len z _, c6]) (by omega) hsize.symm (fun c e => by cases e)
        exact ⟨_, _, S, m', hrun, st, sr, hv⟩
      · cases he
    · cases he
  · cases he

/-! ### append -/
def notInt : TypeDesc → Bool
  | .int _ => false
  | _ => true

/-- what is appended, as the machine comes to it: in any world with this heap -/
structure AppX (P : Program) (w : World) (e sz : Nat) (xT : Option TypeDesc) (x : Value) (k : Nat) (news : List Value) : Prop where
  some : ∃ d, xT = some d
  lit : xT.any notInt = true → (Builtin.lenOf x).run P w = .ok k w ∧ (∀ w' : World, w'.heap = w.heap → (Builtin.firstCells sz k x).run P w' = .ok news.toArray w')
  nul : xT.any notInt = false → ∃ kk n, x = .int kk n ∧ 0 ≤ n ∧ n < 4294967296 ∧ n.toNat = k ∧ ∃ i z, P.info? e = Option.some i ∧ i.zero = Option.some z ∧ (k * i.size = 0 → news = []) ∧ (k * i.size ≠ 0 → news.toArray = Builtin.zeroCells z.cells k)

theorem lenOf_world {x : Value} {k : Nat} {w w' : World} (h : (Builtin.lenOf x).run P w = .ok k w) : (Builtin.lenOf x).run P w' = .ok k w' := by
  cases x <;> simp [Builtin.lenOf] at h ⊢ <;> exact h

theorem notInt_match {d : TypeDesc} : (match d with | .int _ => true | _ => false) = !notInt d := by cases d <;> rfl

set_option maxHeartbeats 8000000 in
theorem run_app_in {sT xT ty e sz : Nat} {ts : Array TypeId} (h0 : ts[0]? = some sT) (h1 : ts[1]? = some xT) (ht : P.underlying sT = some (.slice e)) (hs : szOf P e = some sz) {x : Value} {k : Nat} {news : List Value}
    (hx : AppX P w e sz (P.underlying xT) x k news) {by_ : Nat} (hby : byOf P e = some by_) (hb48 : k * by_ ≤ 281474976710656) (a : Option Addr) {n cap : Nat} (hcap : n + k ≤ cap) :
    (Builtin.append_ ts ty #[.slice a n cap, x]).run P w =
      (((match a with | some a => storeCells (a.add (n * sz)) news | none => pure ()) : Sem Unit).run P w).andThen (fun _ w' => .ok (.slice a (n + k) cap) w') := by
  obtain ⟨d, hd⟩ := hx.some
  obtain ⟨i1, hi1, hi1b⟩ := szOf_info hs
  obtain ⟨i2, hi2, hi2b⟩ := byOf_info hby
  rw [hi1] at hi2; cases hi2
  subst hi1b hi2b
  cases hni : notInt d with
  | true =>
    obtain ⟨q1, q2⟩ := hx.lit (by rw [hd]; simpa using hni)
    have q3 := q2 w rfl
    cases d <;> first | (simp [notInt] at hni; done) | (cases a <;> simp [Builtin.append_, h0, h1, run_underlying ht, run_sizeOf' hs, run_underlying hd, q1, q3, hcap])
  | false =>
    obtain ⟨kk, nn, rfl, p1, p2, p3, i, z, hi, hz, e1, e2⟩ := hx.nul (by rw [hd]; simpa using hni)
    rw [hi1] at hi; cases hi
    obtain ⟨kd, rfl⟩ : ∃ kd, d = .int kd := by cases d <;> simp [notInt] at hni ⊢
    have hw : IntKind.i64.wrap nn = nn := by rw [IntKind.wrap_i64]; omega
    have hneg : ¬ nn < 0 := by omega
    have hbig : ¬ (281474976710656 < nn * (i1.bytes : Int)) := by
      have : nn * (i1.bytes : Int) = ((k * i1.bytes : Nat) : Int) := by rw [Int.natCast_mul, ← p3, Int.toNat_of_nonneg p1]
      rw [this]; omega
    by_cases hk : k * i1.size = 0
    · have e1' := e1 hk
      subst e1'
      cases a <;> simp [Builtin.append_, h0, h1, run_underlying ht, run_sizeOf' hs, run_underlying hd, asInt, asIntOf, hw, hneg, typeInfo, hi1, hbig, p3, hcap, hk, storeCells]
    · have e2' := e2 hk
      cases a <;> simp [Builtin.append_, h0, h1, run_underlying ht, run_sizeOf' hs, run_underlying hd, asInt, asIntOf, hw, hneg, typeInfo, hi1, hbig, p3, hcap, hk, zeroValue, hz, ← e2']

set_option maxHeartbeats 16000000 in
theorem run_app_grow {sT xT ty e sz : Nat} {ts : Array TypeId} (h0 : ts[0]? = some sT) (h1 : ts[1]? = some xT) (ht : P.underlying sT = some (.slice e)) (hs : szOf P e = some sz) {x : Value} {k : Nat} {news : List Value}
    (hx : AppX P w e sz (P.underlying xT) x k news) {by_ : Nat} (hby : byOf P e = some by_) (hpos : 0 < by_) (a : Option Addr) {n cap : Nat} (hb48 : (n + k) * by_ ≤ 140737488355328) (hcap : cap < n + k)
    {olds : List Value} (ho : ∀ w' : World, w'.heap = w.heap → (Builtin.firstCells sz n (.slice a n cap)).run P w' = .ok olds.toArray w') {i : TypeInfo} {z : Value} (hi : P.info? e = some i) (hz : i.zero = some z) :
    (Builtin.append_ ts ty #[.slice a n cap, x]).run P w = .ok (.slice (some ⟨w.heap.size, 0, none⟩) (n + k) (grownCap w (n + k) cap e))
      (w.drew.alloc (.cells (olds.toArray ++ (news.toArray ++ Builtin.zeroCells z.cells (grownCap w (n + k) cap e - (n + k)))) e)) := by
  obtain ⟨d, hd⟩ := hx.some
  obtain ⟨i1, hi1, hi1b⟩ := szOf_info hs
  obtain ⟨i2, hi2, hi2b⟩ := byOf_info hby
  rw [hi] at hi1 hi2; cases hi1; cases hi2
  subst hi1b hi2b
  have hnc : ¬ (n + k ≤ cap) := by omega
  have hle : n + k ≤ (n + k) * i.bytes := Nat.le_mul_of_pos_right _ hpos
  have h63 : ¬ (9223372036854775807 < ((n : Int) + (k : Int))) := by omega
  have hfit := growslice_fits (need := n + k) (old := cap) (bytes := i.bytes) hcap hb48
  have h48 : ¬ (281474976710656 < Builtin.nextslicecap (n + k) cap * i.bytes) := by omega
  have ho' := ho w.drew rfl
  have ho2 := ho { w with drawn := w.drawn + 1 } rfl
  cases hni : notInt d with
  | true =>
    obtain ⟨q1, q2⟩ := hx.lit (by rw [hd]; simpa using hni)
    have q3 := q2 w.drew rfl
    cases d <;> first | (simp [notInt] at hni; done) | (simp [Builtin.append_, h0, h1, run_underlying ht, run_sizeOf' hs, run_underlying hd, q1, q3, hnc, h63, h48, Question.forced, typeInfo, hi, zeroValue, hz, ho', newRow, grownCap])
  | false =>
    obtain ⟨kd, rfl⟩ : ∃ kd, d = .int kd := by cases d <;> simp [notInt] at hni ⊢
    obtain ⟨kk, nn, rfl, p1, p2, p3, i', z', hi', hz', e1, e2⟩ := hx.nul (by rw [hd]; simpa using hni)
    rw [hi] at hi'; cases hi'
    rw [hz] at hz'; cases hz'
    have hw : IntKind.i64.wrap nn = nn := by rw [IntKind.wrap_i64]; omega
    have hneg : ¬ nn < 0 := by omega
    have hkb : k * i.bytes ≤ (n + k) * i.bytes := Nat.mul_le_mul_right _ (by omega)
    have hbig : ¬ (281474976710656 < nn * (i.bytes : Int)) := by
      have : nn * (i.bytes : Int) = ((k * i.bytes : Nat) : Int) := by rw [Int.natCast_mul, ← p3, Int.toNat_of_nonneg p1]
      rw [this]; omega
    have h63' : ¬ (9223372036854775807 < ((n : Int) + max nn 0)) := by omega
    by_cases hk : k * i.size = 0
    · have e1' := e1 hk
      subst e1'
      simp [Builtin.append_, h0, h1, run_underlying ht, run_sizeOf' hs, run_underlying hd, asInt, asIntOf, hw, hneg, hbig, p3, hnc, h63, h63', h48, Question.forced, typeInfo, hi, zeroValue, hz, hk, ho', newRow, grownCap]
    · have e2' := e2 hk
      simp [Builtin.append_, h0, h1, run_underlying ht, run_sizeOf' hs, run_underlying hd, asInt, asIntOf, hw, hneg, hbig, p3, hnc, h63, h63', h48, Question.forced, typeInfo, hi, zeroValue, hz, hk, ho', newRow, grownCap, ← e2']
end
end Go.Proofs.Ytieapebabncliaa.Iv

namespace Go.Proofs.Ytieapebabncliaa.Iv
open Go
section
variable {P : Program} {K B : Nat → Prop} {w : World} {S : Nat → Prop} {m : Map} {H : Heap}
set_option linter.unusedVariables false
set_option linter.unusedSimpArgs false

theorem ofVal_len (x : Value) : (ofVal x).cells.length = x.cells.size := by
  cases x with
  | agg cs => simp [ofVal, V.cells, Value.cells]
  | _ =>
    have e : ∀ y : Value, (sc y).cells = [sc y] := fun y => by
      cases hh : sc y <;> first | rfl | exact (sc_agg _ _ hh).elim
    simp [ofVal, e, Value.cells]

theorem grownCap_ge (w : World) (need old : Nat) (e : TypeId) : need ≤ grownCap w need old e := by unfold grownCap Question.cut; exact Nat.le_add_right _ _

theorem cells_one {cs : List V} {ys : List Value} {fl : Bool} (h : All2 (CellR w S m fl) cs ys) : ∀ v ∈ ys, v.oneCell' = true := fun v hv => by
  obtain ⟨j, hj⟩ := List.getElem?_of_mem hv
  have hjl : j < cs.length := by rw [← h.len]; exact (List.getElem?_eq_some_iff.1 hj).1
  obtain ⟨x, hx, hr⟩ := h.get (List.getElem?_eq_getElem hjl)
  rw [hj] at hx; cases hx; exact hr.1

/-- the cells behind those that are known of a block are written: the block is longer now, and has a new generation -/
theorem extend_sound (h : SR w S K m H) {i : Id} {b : Blk} {im : Im} (hi : H i = some b) (hm : m i = some im) (hfr : b.frz = false) {o q : Nat} {old cs : List V} {ys : List Value}
    (hold : cut b.cells o q = some old) (h2 : All2 (CellR w S m b.flat) cs ys) (htot : im.dl + o + q + cs.length ≤ im.tot) (ho : o ≤ b.cells.length) :
    ∃ w' m', (storeCells ⟨im.rb, im.dl + o + q, none⟩ ys).run P w = .ok () w' ∧ Step K w S m w' S m' ∧ SR w' S K m' (H.set i ⟨b.gen + 1, old ++ cs, false, b.flat⟩) ∧
      m' i = some ⟨b.gen + 1, im.rb, im.dl + o, q + cs.length, im.tot⟩ := by
  obtain ⟨im0, hm0, ok⟩ := h.blk i b hi
  rw [hm] at hm0; cases hm0
  obtain ⟨arr, ty, hrow, hsz⟩ := ok.row0 hfr
  have hg := ok.gen
  have hyl := h2.len
  have hol := (cut_some hold).2
  have hrun := run_storeCells_at (P := P) im.rb (im.dl + o + q) ty ys 0 arr w hrow (by omega) (cells_one h2)
  simp only [Nat.add_zero] at hrun
  have hsz' : (arr.toList.take (im.dl + o + q) ++ ys ++ arr.toList.drop (im.dl + o + q + ys.length)).toArray.size = im.tot := by simp; omega
  have W := SR.write h hi hfr hm hrow (arr.toList.take (im.dl + o + q) ++ ys ++ arr.toList.drop (im.dl + o + q + ys.length)).toArray hsz' ⟨b.gen + 1, im.rb, im.dl + o, q + cs.length, im.tot⟩ rfl rfl
    (by simp only; omega) (fun e => by simp only at e; omega) (old ++ cs) b.flat (by simp [hol]) (by simp only; omega) (fun j c hj => by
      have hta : (arr.toList.take (im.dl + o + q)).length = im.dl + o + q := by rw [List.length_take, Array.length_toList]; omega
      simp only [List.getElem?_toArray, List.append_assoc]
      rcases Nat.lt_or_ge j q with h1 | h1
      · rw [List.getElem?_append_left (by omega)] at hj
        obtain ⟨x, q1, q2, q3, q4⟩ := ok.cel (o + j) c (cut_get hold hj).1
        refine ⟨x, ?_, q2, q3, q4⟩
        rw [List.getElem?_append_left (by omega), List.getElem?_take_of_lt (by omega)]
        rw [← Nat.add_assoc] at q1
        simpa using row_cell hrow q1
      · rw [List.getElem?_append_right (by omega), hol] at hj
        obtain ⟨x, hx, r1, r2, r3⟩ := h2.get hj
        refine ⟨x, ?_, r1, r2, r3⟩
        have hjl : j - q < ys.length := (List.getElem?_eq_some_iff.1 hx).1
        rw [List.getElem?_append_right (by omega), hta, List.getElem?_append_left (by omega), show im.dl + o + j - (im.dl + o + q) = j - q by omega]
        exact hx)
  exact ⟨_, _, hrun, W.1, W.2, Map.put_same ..⟩

theorem splice_nil (cs : List V) (o : Nat) : splice cs o [] = cs := by simp [splice]
theorem set_self {H : Heap} {i : Id} {b : Blk} (h : H i = some b) : H.set i b = H := by
  funext j; unfold Heap.set; split
  · rename_i e; rw [e, h]
  · rfl

theorem appX_of (h : SR w S K m H) {e sz xT : Nat} {z : List V} {a : V} {cs : List V} {k : Nat} {fl : Bool} {rd : List Id} (hs : szOf P e = some sz) (hz : zOf P e = some z)
    (he : appSrc P H sz z xT a = some (cs, k, fl, rd)) {x : Value} (hx : VR w S B m a x) :
    ∃ news, AppX P w e sz (P.underlying xT) x k news ∧ All2 (CellR w S m fl) cs news ∧ cs.length = k * sz := by
  unfold appSrc at he
  split at he
  · rename_i kd kk n hu
    split at he
    · rename_i hc
      obtain ⟨c1, c2, c3, c4⟩ := hc
      cases he
      have := hx.int_inv; subst this
      obtain ⟨i, zv, hi, hzz, hzs, hz2⟩ := zero_of hz c4
      obtain ⟨i1, hi1, rfl⟩ := szOf_info hs
      rw [hi] at hi1; cases hi1
      have hzc : (Builtin.zeroCells zv.cells n.toNat).size = n.toNat * zv.cells.size := by simp [Builtin.zeroCells]
      refine ⟨(Builtin.zeroCells zv.cells n.toNat).toList, ⟨⟨_, hu⟩, fun q => by rw [hu] at q; simp [notInt] at q, fun _ => ⟨kk, n, rfl, c1, c2, rfl, i, zv, hi, hzz, fun q => ?_, fun q => by simp⟩⟩, ?_, ?_⟩
      · apply List.eq_nil_of_length_eq_zero
        rw [Array.length_toList, hzc, hzs, c3, q]
      · exact rep_cells (hz2 w S m) n.toNat hzc (fun j hj => by simp [Builtin.zeroCells, hj])
      · show (rep n.toNat z).length = _
        rw [show (rep n.toNat z).length = n.toNat * z.length from repl_len z _, c3]
    · cases he
  · cases he
  · rename_i d hd hu hn
    obtain ⟨news, h2, q1, q2, q3⟩ := src_sound (P := P) h he hx
    refine ⟨news, ⟨⟨_, hu⟩, fun _ => ⟨q1, fun w' hw => ?_⟩, fun q => ?_⟩, h2, q3⟩
    · have := q2 w' hw k (Nat.le_refl _)
      rwa [List.take_of_length_le (by rw [h2.len, q3]; exact Nat.le_refl _)] at this
    · rw [hu] at q
      simp only [Option.any_some] at q
      cases d with
      | int kd => first | exact absurd rfl (hd kd) | exact absurd rfl (hn kd) | exact (hd _ rfl).elim | exact (hn _ rfl).elim
      | _ => simp [notInt] at q
  · cases he

theorem lim47_le {n k by_ : Nat} (h : (n + k) * by_ ≤ lim47) : (n + k) * by_ ≤ 140737488355328 := by
  have : lim47 = 35184372088832 := rfl
  omega

/-- a row that is copied to a new block with room behind -/
theorem grow_sound (h : SR w S K m H) (d : Id) {sT xT ty e sz by_ : Nat} {ts : Array TypeId} (h0 : ts[0]? = some sT) (h1 : ts[1]? = some xT) (ht : P.underlying sT = some (.slice e)) (hs : szOf P e = some sz) (hby : byOf P e = some by_)
    {z : List V} (hz : zOf P e = some z) (hzl : z.length = sz) (hpos : 0 < by_) {rd : List Id} {x : Value} {k : Nat} {news : List Value} (hx : AppX P w e sz (P.underlying xT) x k news) {a : Option Addr} {n cap : Nat}
    (hb : (n + k) * by_ ≤ lim47) (hcap : cap < n + k) {olds : List Value} (ho : ∀ w' : World, w'.heap = w.heap → (Builtin.firstCells sz n (.slice a n cap)).run P w' = .ok olds.toArray w')
    {cs old : List V} {fl : Bool} (h2 : All2 (CellR w S m fl) (old ++ cs) (olds ++ news)) (hlen : (old ++ cs).length = (n + k) * sz) :
    Sound P K B w S m H ⟨.sl d (nextGen H d) 0 (n + k) sz none, [(d, ⟨nextGen H d, old ++ cs, false, fl⟩)], rd⟩ (Builtin.append_ ts ty #[.slice a n cap, x]) := by
  obtain ⟨i, zv, hi, hzz, rfl⟩ := zOf_info hz
  have hrun := run_app_grow (P := P) (ty := ty) h0 h1 ht hs hx hby hpos a (lim47_le hb) hcap ho hi hzz
  have hge := grownCap_ge w (n + k) cap e
  have hzs : zv.cells.size = sz := by rw [← ofVal_len, hzl]
  have hsz : (olds.toArray ++ (news.toArray ++ Builtin.zeroCells zv.cells (grownCap w (n + k) cap e - (n + k)))).size = grownCap w (n + k) cap e * sz := by
    have hl := h2.len
    rw [hlen, List.length_append] at hl
    simp only [Array.size_append, List.size_toArray, Builtin.zeroCells, Array.size_map, Array.size_range, hzs]
    have : (grownCap w (n + k) cap e - (n + k)) * sz + (n + k) * sz = grownCap w (n + k) cap e * sz := by rw [← Nat.add_mul]; congr 1; omega
    omega
  obtain ⟨m', st, sr, hv⟩ := fresh_sound (B := B) h d (w' := w.drew) (arr := olds.toArray ++ (news.toArray ++ Builtin.zeroCells zv.cells (grownCap w (n + k) cap e - (n + k)))) (lim := none) (sz := sz) (n := n + k) (cap := grownCap w (n + k) cap e) e h2
    (fun j x hj => by
      have hjl := (List.getElem?_eq_some_iff.1 hj).1
      rw [List.length_append] at hjl
      have e : olds.toArray ++ news.toArray = (olds ++ news).toArray := by simp
      rw [← Array.append_assoc, Array.getElem?_append_left (by rw [e]; simpa using hjl), e]
      simpa using hj)
    (by simp only [List.length_append, Array.size_append, List.size_toArray]; omega) (.inr rfl) hlen hge hsz.symm (fun c e => by cases e)
  exact ⟨_, _, S, m', hrun, st, sr, hv⟩

/-- nothing is appended -/
theorem app_nothing {sT xT ty e sz by_ : Nat} {ts : Array TypeId} (h0 : ts[0]? = some sT) (h1 : ts[1]? = some xT) (ht : P.underlying sT = some (.slice e)) (hs : szOf P e = some sz) (hby : byOf P e = some by_)
    {x : Value} {news : List Value} (hx : AppX P w e sz (P.underlying xT) x 0 news) (hn : news = []) (a : Option Addr) {n cap : Nat} (hc : n ≤ cap) :
    (Builtin.append_ ts ty #[.slice a n cap, x]).run P w = .ok (.slice a n cap) w := by
  rw [run_app_in (P := P) h0 h1 ht hs hx hby (by simp) a (by omega)]
  subst hn
  cases a <;> simp [storeCells]

theorem append_sound (h : SR w S K m H) (d : Nat) {sT xT ty : Nat} {ts : Array TypeId} (h0 : ts[0]? = some sT) (h1 : ts[1]? = some xT) {a b : V} {out : Out} (he : evAppend P H d sT xT a b = some out) {x y : Value}
    (hx : VR w S B m a x) (hy : VR w S B m b y) : Sound P K B w S m H out (Builtin.append_ ts ty #[x, y]) := by
  unfold evAppend at he
  split at he
  · rename_i e ht
    split at he
    · rename_i sz by_ z hs hby hz
      split at he
      · rename_i cs k fl rd hsrc
        obtain ⟨news, hA, h2, hcl⟩ := appX_of (P := P) h hs hz hsrc hy
        have hnl := h2.len
        split at he
        · rename_i hq
          obtain ⟨hsz, hbp, hzl⟩ := hq
          have zero : k = 0 → cs = [] ∧ news = [] := fun e => by
            subst e
            simp only [Nat.zero_mul] at hcl
            exact ⟨List.eq_nil_of_length_eq_zero hcl, List.eq_nil_of_length_eq_zero (by omega)⟩
          split at he
          · -- nils
            have := hx.nils_inv; subst this
            split at he
            · rename_i hk
              cases he
              subst hk
              exact Sound.pure h (app_nothing h0 h1 ht hs hby hA (zero rfl).2 none (Nat.le_refl _)) (.fr .nils)
            · rename_i hk
              split at he
              · rename_i hb
                cases he
                have := grow_sound (B := B) (ty := ty) (rd := .own d :: rd) h (.own d) h0 h1 ht hs hby hz hzl hbp hA (a := none) (n := 0) (cap := 0) (by simpa using hb) (by omega) (olds := []) (fun w' hw => by simp [Builtin.firstCells]) (old := []) (fl := fl) (by simpa using h2) (by simpa using hcl)
                simpa using this
              · cases he
          · -- emp
            obtain ⟨a0, rfl⟩ := hx.emp_inv
            split at he
            · rename_i hk
              cases he
              subst hk
              exact Sound.pure h (app_nothing h0 h1 ht hs hby hA (zero rfl).2 a0 (Nat.le_refl _)) (.fr (.emp _))
            · rename_i hk
              split at he
              · rename_i hb
                cases he
                have := grow_sound (B := B) (ty := ty) (rd := .own d :: rd) h (.own d) h0 h1 ht hs hby hz hzl hbp hA (a := a0) (n := 0) (cap := 0) (by simpa using hb) (by omega) (olds := []) (fun w' hw => by cases a0 <;> simp [Builtin.firstCells, loadCells, loadCellsFrom]) (old := []) (fl := fl) (by simpa using h2) (by simpa using hcl)
                simpa using this
              · cases he
          · -- list
            rename_i xs l
            split at he
            · rename_i hk
              cases he
              subst hk
              obtain ⟨sz', cap, a0, vals, rfl, q1, q2, q3, q4⟩ := hx.list_inv
              exact Sound.pure h (app_nothing h0 h1 ht hs hby hA (zero rfl).2 a0 q1) hx
            · cases he
          · -- sl
            rename_i i g o n s2 lim
            split at he
            · rename_i b hb
              split at he
              · rename_i hc
                obtain ⟨rfl, hfr, hflat, hbytes⟩ := hc
                obtain ⟨im, a0, cap, hm, ok, rfl, hi, rfl, ha, q1, q2, q3, q4, q5⟩ := VR.sl_live h hx hb
                have hn := ok.n
                have hf := ok.fit
                have hg := ok.gen
                have h2f : overCap lim (n + k) = false → All2 (CellR w S m b.flat) cs news := fun hov => h2.imp (fun c x r => ⟨r.1, r.2.1, fun e => r.2.2 ((hflat e).elim id (fun q => by rw [hov] at q; cases q))⟩)
                have hkb : k * by_ ≤ 281474976710656 := by
                  have := lim47_le hbytes
                  have : k * by_ ≤ (n + k) * by_ := Nat.mul_le_mul_right _ (by omega)
                  omega
                have hns : n * s2 + k * s2 = (n + k) * s2 := (Nat.add_mul ..).symm
                -- written in place, within what is known
                have inplace : ∀ (lim' : Option Nat), overCap lim (n + k) = false → (∀ c, lim' = some c → cap = c) → (lim' = none → im.n ≤ o + cap * s2) → n + k ≤ cap → o + (n + k) * s2 ≤ b.cells.length →
                    Sound P K B w S m H ⟨.sl i im.gen o (n + k) s2 lim', [(i, { b with cells := splice b.cells (o + n * s2) cs })], i :: rd⟩ (Builtin.append_ ts ty #[.slice (some a0) n cap, y]) := by
                  intro lim' hov hl1 hl2 hnk hfit
                  have hr := run_app_in (P := P) (ty := ty) h0 h1 ht hs hA hby hkb (some a0) hnk
                  rcases Nat.eq_zero_or_pos cap with e0 | e0
                  · have hk0 : k = 0 := by omega
                    obtain ⟨e1, e2⟩ := zero hk0
                    subst hk0 e1 e2
                    refine ⟨.slice (some a0) (n + 0) cap, w, S, m, by rw [hr]; rfl, Step.refl .., ?_, ?_⟩
                    · simp only [Heap.sets, splice_nil]
                      rw [show ({ gen := b.gen, cells := b.cells, frz := b.frz, flat := b.flat } : Blk) = b from rfl, set_self hi]
                      exact h
                    · exact VR.sl i o _ s2 lim' im a0 cap hm ha hnk (by omega) q3 hl2 hl1
                  · rw [ha e0] at hr ⊢
                    obtain ⟨w', m', hrun, st, sr⟩ := write_sound (P := P) h hi hm hfr (o + n * s2) cs news (h2f hov) (by omega)
                    have hm' : m' i = some im := by
                      obtain ⟨im', hm', hge, heq⟩ := st.ext i im hm
                      obtain ⟨b', hb', ok'⟩ := sr.of_map hm'
                      rw [Heap.set_same] at hb'; cases hb'
                      have := ok'.gen
                      rw [hm', heq (by simp only at this; omega)]
                    refine ⟨_, w', S, m', ?_, st, sr, VR.sl i o _ s2 lim' im _ cap hm' (fun _ => rfl) hnk (by omega) q3 hl2 hl1⟩
                    rw [hr]
                    simp only [add_eq]
                    rw [show im.dl + o + n * s2 = im.dl + (o + n * s2) by omega, hrun]
                    rfl
                have reads : ∀ xs : List Value, xs.length = n * s2 → (∀ (j : Nat) (x : Value), xs[j]? = some x → w.cell? ⟨im.rb, im.dl + o + j, none⟩ = some x) →
                    ∀ w' : World, w'.heap = w.heap → (Builtin.firstCells s2 n (.slice (some a0) n cap)).run P w' = .ok xs.toArray w' := by
                  intro xs hxl hxq w' hw
                  rcases Nat.eq_zero_or_pos n with e | e
                  · subst e
                    simp only [Nat.zero_mul] at hxl
                    have : xs = [] := List.eq_nil_of_length_eq_zero hxl
                    subst this
                    simp [Builtin.firstCells, loadCells, loadCellsFrom]
                  · rw [ha (by omega)]
                    simp only [Builtin.firstCells]
                    exact run_loadCells_at hw hxl hxq
                split at he
                · split at he
                  · rename_i hfit
                    cases he
                    have hnk : n + k ≤ cap := by
                      have := q4 rfl
                      have : (n + k) * s2 ≤ cap * s2 := by omega
                      exact Nat.le_of_mul_le_mul_right this hsz
                    exact inplace none rfl (fun c e => by cases e) q4 hnk hfit
                  · rename_i hfit
                    split at he
                    · rename_i old hold
                      cases he
                      have hol := (cut_some hold).2
                      obtain ⟨xs, r2, hxl, hxq⟩ := ok.read hold
                      rw [hg]
                      by_cases hnk : n + k ≤ cap
                      · -- there is room
                        have hcp : 0 < cap := by
                          rcases Nat.eq_zero_or_pos cap with e | e
                          · have hk0 : k = 0 := by omega
                            have : n = 0 := by omega
                            subst hk0 this e
                            simp at hfit
                            omega
                          · exact e
                        have hr := run_app_in (P := P) (ty := ty) h0 h1 ht hs hA hby hkb (some a0) hnk
                        rw [ha hcp] at hr ⊢
                        have hcs : (n + k) * s2 ≤ cap * s2 := Nat.mul_le_mul_right _ hnk
                        obtain ⟨w', m', hrun, st, sr, hm'⟩ := extend_sound (P := P) h hi hm hfr hold (h2f rfl) (by omega) (by omega)
                        refine ⟨.slice (some ⟨im.rb, im.dl + o, none⟩) (n + k) cap, w', S, m', ?_, st, sr, ?_⟩
                        · rw [hr]
                          simp only [add_eq]
                          rw [hrun]
                          rfl
                        · have := VR.sl (w := w') (S := S) (B := B) (m := m') i 0 (n + k) s2 none _ ⟨im.rb, im.dl + o, none⟩ cap hm' (fun _ => rfl) hnk (by simp only; omega) (by simp only; omega) (fun _ => by simp only; omega) (fun c e => by cases e)
                          exact this
                      · -- there is none: a new block
                        have hng : nextGen H i = b.gen + 1 := by simp [nextGen, hi]
                        have := grow_sound (B := B) (ty := ty) (rd := i :: rd) h i h0 h1 ht hs hby hz hzl hbp hA (a := some a0) hbytes (by omega) (olds := xs) (reads xs hxl hxq) (old := old) (fl := b.flat)
                          ((r2.imp (fun c x r => ⟨r.2.1, r.1, r.2.2⟩)).app (h2f rfl)) (by rw [List.length_append, hol, hcl]; omega)
                        rw [hng] at this
                        exact this
                    · cases he
                · rename_i c
                  split at he
                  · rename_i hnk
                    split at he
                    · rename_i hfit
                      cases he
                      have hcc := q5 c rfl
                      exact inplace (some c) (by simp only [overCap]; cases hq : Nat.blt c (n + k) with | false => rfl | true => exact absurd (Nat.le_of_ble_eq_true hq) (by omega)) q5 (fun e => by cases e) (by omega) hfit
                    · cases he
                  · rename_i hnk
                    split at he
                    · rename_i old hold
                      cases he
                      have hol := (cut_some hold).2
                      obtain ⟨xs, r2, hxl, hxq⟩ := ok.read hold
                      have hcc := q5 c rfl
                      exact grow_sound (B := B) (ty := ty) h (.own d) h0 h1 ht hs hby hz hzl hbp hA (a := some a0) hbytes (by omega) (olds := xs) (reads xs hxl hxq) (old := old) (fl := b.flat && fl)
                        ((r2.imp (R' := CellR w S m (b.flat && fl)) (fun c x r => ⟨r.2.1, r.1, fun e => r.2.2 (by simp at e; exact e.1)⟩)).app (h2.imp (fun c x r => ⟨r.1, r.2.1, fun e => r.2.2 (by simp at e; exact e.2)⟩))) (by rw [List.length_append, hol, hcl]; omega)
                    · cases he
              · cases he
            · cases he
          · cases he
        · cases he
      · cases he
    · cases he
  · cases he
end
end Go.Proofs.Ytieapebabncliaa.Iv

namespace Go.Proofs.Ytieapebabncliaa.Iv
open Go
section
variable {P : Program} {K B : Nat → Prop} {w : World} {S : Nat → Prop} {m : Map} {H : Heap}
set_option linter.unusedVariables false
set_option linter.unusedSimpArgs false

theorem empty_dst {v : V} (hv : v = .nils ∨ v = .emp ∨ ∃ l, v = .list [] l) {x : Value} (hx : VR w S B m v x) : ∃ a cap, x = .slice a 0 cap := by
  rcases hv with rfl | rfl | ⟨l, rfl⟩
  · exact ⟨_, _, hx.nils_inv⟩
  · obtain ⟨a, e⟩ := hx.emp_inv; exact ⟨_, _, e⟩
  · obtain ⟨sz, cap, a, vals, e, _⟩ := hx.list_inv; exact ⟨_, _, e⟩

theorem copy_sound (h : SR w S K m H) {dT ty : Nat} {ts : Array TypeId} (h0 : ts[0]? = some dT) {a b : V} {out : Out} (he : evCopy P H dT a b = some out) {x y : Value}
    (hx : VR w S B m a x) (hy : VR w S B m b y) : Sound P K B w S m H out (Builtin.copy_ ts ty #[x, y]) := by
  unfold evCopy at he
  split at he
  · rename_i e ht
    split at he
    · rename_i sz hs
      split at he
      · rename_i cs k fl rd hsrc
        obtain ⟨news, h2, q1, q2, hcl⟩ := src_sound (P := P) h hsrc hy
        have none_ : (a = .nils ∨ a = .emp ∨ ∃ l, a = .list [] l) → Sound P K B w S m H ⟨.int .i64 0, [], rd⟩ (Builtin.copy_ ts ty #[x, y]) := fun hv => by
          obtain ⟨a0, cap, rfl⟩ := empty_dst hv hx
          refine Sound.pure h (x := .int .i64 0) ?_ .i
          have q3 := q2 w rfl 0 (Nat.zero_le _)
          simp only [Nat.zero_mul, List.take_zero] at q3
          cases a0 <;> simp [Builtin.copy_, h0, run_underlying ht, run_sizeOf' hs, q1, q3, goInt, storeCells]
        split at he
        · cases he; exact none_ (.inl rfl)
        · cases he; exact none_ (.inr (.inl rfl))
        · cases he; exact none_ (.inr (.inr ⟨_, rfl⟩))
        · rename_i i g o n s2 lim
          split at he
          · rename_i b hb
            split at he
            · rename_i hc
              obtain ⟨rfl, hsz, hfr, hflat, hcs, ho⟩ := hc
              cases he
              obtain ⟨im, a0, cap, hm, ok, rfl, hi, rfl, ha, p1, p2, p3, p4, p5⟩ := VR.sl_live h hx hb
              have q3 := q2 w rfl (min k n) (Nat.min_le_left ..)
              have hmn : min k n * s2 ≤ n * s2 := Nat.mul_le_mul_right _ (Nat.min_le_right ..)
              have h2f : All2 (CellR w S m b.flat) (cs.take (min k n * s2)) (news.take (min k n * s2)) := (h2.take _).imp (fun c x r => ⟨r.1, r.2.1, fun e => r.2.2 (hflat e)⟩)
              have hrun0 : (Builtin.copy_ ts ty #[.slice (some a0) n cap, y]).run P w = ((storeCells a0 (news.take (min k n * s2))).run P w).andThen fun _ w' => .ok (.int .i64 (min k n : Nat)) w' := by
                simp [Builtin.copy_, h0, run_underlying ht, run_sizeOf' hs, q1, q3, goInt]
              rcases Nat.eq_zero_or_pos cap with e0 | e0
              · have hz : min k n = 0 := by omega
                refine ⟨.int .i64 (min k n : Nat), w, S, m, by rw [hrun0, hz]; simp [storeCells], Step.refl .., ?_, .i⟩
                simp only [Heap.sets, hz, Nat.zero_mul, List.take_zero, splice_nil]
                rw [show ({ gen := b.gen, cells := b.cells, frz := b.frz, flat := b.flat } : Blk) = b from rfl, set_self hi]
                exact h
              · rw [ha e0] at hrun0 ⊢
                obtain ⟨w', m', hrun, st, sr⟩ := write_sound (P := P) h hi hm hfr o _ _ h2f (by rw [List.length_take]; omega)
                refine ⟨_, w', S, m', ?_, st, sr, .i⟩
                rw [hrun0, hrun]
                rfl
            · cases he
          · cases he
        · cases he
      · cases he
    · cases he
  · cases he

theorem clear_sound (h : SR w S K m H) {t ty : Nat} {ts : Array TypeId} (h0 : ts[0]? = some t) {a : V} {out : Out} (he : evClear P H t a = some out) {x : Value}
    (hx : VR w S B m a x) : Sound P K B w S m H out (Builtin.clear_ ts ty #[x]) := by
  have tup0 : ∀ {w S m}, VR w S B m (.tup []) (.tuple #[]) := fun {w S m} => VR.tup_mk (xs := []) trivial
  unfold evClear at he
  split at he
  · rename_i e ht
    split at he
    · rename_i sz z hs hz
      have none_ : (a = .nils ∨ a = .emp ∨ ∃ l, a = .list [] l) → Sound P K B w S m H ⟨.tup [], [], []⟩ (Builtin.clear_ ts ty #[x]) := fun hv => by
        obtain ⟨a0, cap, rfl⟩ := empty_dst hv hx
        refine Sound.pure h (x := .tuple #[]) ?_ tup0
        cases a0 <;> simp [Builtin.clear_, h0, run_underlying ht]
      split at he
      · cases he; exact none_ (.inl rfl)
      · cases he; exact none_ (.inr (.inl rfl))
      · cases he; exact none_ (.inr (.inr ⟨_, rfl⟩))
      · rename_i i g o n s2 lim
        split at he
        · rename_i b hb
          split at he
          · rename_i hc
            obtain ⟨rfl, hsz, hfr, hzl, hzp, ho⟩ := hc
            cases he
            obtain ⟨im, a0, cap, hm, ok, rfl, hi, rfl, ha, p1, p2, p3, p4, p5⟩ := VR.sl_live h hx hb
            rcases Nat.eq_zero_or_pos n with e0 | e0
            · subst e0
              refine ⟨.tuple #[], w, S, m, by simp [Builtin.clear_, h0, run_underlying ht], Step.refl .., ?_, tup0⟩
              simp only [Heap.sets, rep, List.replicate_zero, List.flatten_nil, splice_nil]
              rw [show ({ gen := b.gen, cells := b.cells, frz := b.frz, flat := b.flat } : Blk) = b from rfl, set_self hi]
              exact h
            · obtain ⟨i0, zv, hi0, hzz, hzs, hz2⟩ := zero_of hz hzp
              have hzc : (Builtin.zeroCells zv.cells n).size = n * zv.cells.size := by simp [Builtin.zeroCells]
              have h2 := rep_cells (hz2 w S m) n hzc (fun j hj => by simp [Builtin.zeroCells, hj])
              have h2f : All2 (CellR w S m b.flat) (rep n z) (Builtin.zeroCells zv.cells n).toList := h2.imp (fun c x r => ⟨r.1, r.2.1, fun e => r.2.2 rfl⟩)
              rw [ha (by omega)]
              obtain ⟨w', m', hrun, st, sr⟩ := write_sound (P := P) h hi hm hfr o _ _ h2f (by rw [show (rep n z).length = n * z.length from repl_len z _, hzl]; omega)
              refine ⟨.tuple #[], w', S, m', ?_, st, sr, tup0⟩
              have hzr : (zeroValue e).run P w = .ok zv w := by unfold zeroValue typeInfo; simp [hi0, hzz]
              have hn0 : n ≠ 0 := by omega
              obtain ⟨n', rfl⟩ : ∃ q, n = q + 1 := ⟨n - 1, by omega⟩
              simp [Builtin.clear_, h0, run_underlying ht, hzr, hrun]
          · cases he
        · cases he
      · cases he
    · cases he
  · cases he

/-! ### literals of slices -/
theorem VR.one_of_kept {v : V} {x : Value} (h : VR w S B m v x) (hk : v.kept = true) : x.oneCell' = true := by
  cases h with
  | fr h => exact h.one
  | und => simp [V.kept, V.kept0] at hk
  | agg => simp [V.kept, V.kept0] at hk
  | tup => simp [V.kept, V.kept0] at hk
  | _ => rfl
theorem zero_VR {e : Nat} {z : List V} (hz : zOf P e = some z) : ∃ zv : Value, (∀ w : World, (zeroValue e).run P w = .ok zv w) ∧ zv.cells.size = z.length ∧ ∀ (w : World) (S B : Nat → Prop) (m : Map), All2 (VR w S B m) z zv.cells.toList := by
  obtain ⟨i, zv, hi, hzz, rfl⟩ := zOf_info hz
  refine ⟨zv, fun w => by unfold zeroValue typeInfo; simp [hi, hzz], (ofVal_len zv).symm, fun w S B m => ?_⟩
  cases zv with
  | agg cs =>
    refine All2.of (by simp [ofVal, V.cells, Value.cells]) (fun j c x h1 h2 => ?_)
    simp only [ofVal, V.cells, List.getElem?_map, Value.cells] at h1 h2
    rw [h2] at h1
    simp only [Option.map_some, Option.some.injEq] at h1
    subst h1; exact sc_VR x
  | _ =>
    have e : ∀ y : Value, (sc y).cells = [sc y] := fun y => by
      cases hh : sc y <;> first | rfl | exact (sc_agg _ _ hh).elim
    simp only [ofVal, e, Value.cells]
    exact ⟨sc_VR _, trivial⟩

theorem keep1_form {v : V} {o : Out} (he : keep1 H v = some o) : o.v ≠ .und ∧ ∀ cs, o.v ≠ .tup cs := by
  unfold keep1 at he
  split at he
  · split at he
    · split at he
      · split at he
        · cases he; exact ⟨by simp, by simp⟩
        · cases he
      · cases he
    · cases he
  · split at he
    · cases he
    · cases he; exact ⟨by simp, by simp⟩
  · cases he; exact ⟨by simp, by simp⟩
  · cases he; exact ⟨by simp, by simp⟩
  · split at he
    · cases he
    · cases he; exact ⟨by simp, by simp⟩
  · cases he
  · cases he
  · cases he
  · split at he
    · cases he; exact ⟨by simp, by simp⟩
    · cases he
  · rename_i n1 n2 n3 n4 n5 n6 n7 n8 n9
    cases he
    exact ⟨fun e => n6 e, fun cs e => n7 _ e⟩
theorem keepV_form {v : V} {o : Out} (he : keepV H v = some o) : o.v ≠ .und ∧ ∀ cs, o.v ≠ .tup cs := by
  unfold keepV at he
  split at he
  · split at he
    · cases he; exact ⟨by simp, by simp⟩
    · cases he
  · exact keep1_form he

theorem VR.sl_any {i : Id} {g o n sz : Nat} {lim : Option Nat} {x : Value} (h : VR w S B m (.sl i g o n sz lim) x) {w' : World} {S' B' : Nat → Prop} : VR w' S' B' m (.sl i g o n sz lim) x := by
  cases h with
  | fr h => cases h
  | sl _ _ _ _ _ im a cap hm ha h1 h2 h3 h4 h5 => exact .sl _ _ _ _ _ im a cap hm ha h1 h2 h3 h4 h5
  | slD _ _ _ _ _ _ im a cap hm hg h1 h5 => exact .slD _ _ _ _ _ _ im a cap hm hg h1 h5
theorem keepR_sound {H1 : Heap} (hF : FrzOf H H1) (h : SR w S K m H1) {v : V} {o : Out} (he : (if v.isRef = true then pureO v else keepV H v) = some o) {x : Value} (hx : VR w S B m v x) :
    (∃ S', Step K w S m w S' m ∧ SR w S' K m (H1.sets o.ups) ∧ FrzOf H (H1.sets o.ups) ∧ VR w S' no m o.v x) ∧ o.v ≠ .und ∧ ∀ cs, o.v ≠ .tup cs := by
  split at he
  · rename_i hr
    cases he
    cases v <;> simp [V.isRef] at hr
    exact ⟨⟨S, Step.refl .., h, hF, hx.sl_any⟩, by simp, by simp⟩
  · exact ⟨keepV_sound hF h he hx, keepV_form he⟩
theorem keepParts_sound : ∀ {ps : List (Nat × V)} {S : Nat → Prop} {H1 : Heap} (hF : FrzOf H H1) (h : SR w S K m H1) {o : List (Nat × List V) × List (Id × Blk) × List Id} (he : keepParts H ps = some o) {qs : List (Nat × Value)}
    (hx : PartsR (VR w S B m) ps qs), ∃ S', Step K w S m w S' m ∧ SR w S' K m (H1.sets o.2.1) ∧ FrzOf H (H1.sets o.2.1) ∧ o.1.length = qs.length ∧
      ∀ (j : Nat) p q, o.1[j]? = some p → qs[j]? = some q → p.1 = q.1 ∧ All2 (VR w S' no m) p.2 q.2.cells.toList
  | [], S, H1, hF, h, o, he, qs, hx => by
    simp [keepParts] at he; subst he
    have : qs = [] := List.eq_nil_of_length_eq_zero hx.1.symm
    subst this
    exact ⟨S, Step.refl .., h, hF, rfl, fun j p q e => by simp at e⟩
  | (i, v) :: r, S, H1, hF, h, o, he, [], hx => by have := hx.1; simp at this
  | (i, v) :: r, S, H1, hF, h, o, he, (i', x) :: qs, hx => by
    simp only [keepParts] at he
    split at he
    · rename_i v' u d hv
      split at he
      · rename_i vs us ds hr
        cases he
        obtain ⟨e1, hvx⟩ := hx.2 0 _ _ rfl rfl
        obtain ⟨⟨S1, st1, sr1, hF1, hv1⟩, hform⟩ := keepR_sound hF h hv hvx
        obtain ⟨S2, st2, sr2, hF2, hl2, hv2⟩ := keepParts_sound hF1 sr1 hr (qs := qs) ⟨by have := hx.1; simpa using this, fun j p q h1 h2 => by
          obtain ⟨a, b⟩ := hx.2 (j + 1) p q (by simpa using h1) (by simpa using h2)
          exact ⟨a, b.monoS st1⟩⟩
        refine ⟨S2, st1.trans st2, by rw [sets_app]; exact sr2, by rw [sets_app]; exact hF2, by simp [hl2], fun j p q h1 h2 => ?_⟩
        cases j with
        | zero =>
          simp at h1 h2; subst h1 h2
          exact ⟨e1, (cells_of hv1 hform.1 hform.2).imp (fun c x r => r.monoS st2)⟩
        | succ j => exact hv2 j p q (by simpa using h1) (by simpa using h2)
      · cases he
    · cases he

theorem fillV_eq (sz : Nat) : ∀ (ps : List (Nat × List V)) (cells : List V), fillV sz ps cells = fillF (fun i => some (i * sz, sz)) (ps.map fun p => (p.1, V.agg p.2)) cells
  | [], cells => rfl
  | (i, cs) :: r, cells => by
    simp only [fillV, List.map_cons, fillF]
    by_cases h : cs.length = sz ∧ i * sz + sz ≤ cells.length
    · have h' : (V.agg cs).cells.length = sz ∧ i * sz + sz ≤ cells.length := h
      rw [if_pos h, if_pos h']; exact fillV_eq sz r _
    · have h' : ¬ ((V.agg cs).cells.length = sz ∧ i * sz + sz ≤ cells.length) := h
      rw [if_neg h, if_neg h']

theorem nextGen_frz {H H1 : Heap} (hF : FrzOf H H1) (i : Id) : nextGen H1 i = nextGen H i := by
  rcases hF i with e | ⟨b, e1, e2⟩
  · simp [nextGen, e]
  · simp [nextGen, e1, e2]

theorem buildSlice_sound (h : SR w S K m H) (d : Nat) {t len : Nat} {ps : List (Nat × V)} {out : Out} (he : evBuildSlice P H d t len ps = some out) {qs : Array (Nat × Value)}
    (hp : PartsR (VR w S B m) ps qs.toList) : Sound P K B w S m H out (Instr.buildSlice t len qs) := by
  unfold evBuildSlice at he
  split at he
  · rename_i e ht
    split at he
    · rename_i sz z hs hz
      split at he
      · rename_i hc
        obtain ⟨c1, c2, c3⟩ := hc
        split at he
        · rename_i ps' u rd hk
          split at he
          · rename_i cells hf
            split at he
            · rename_i hkept
              cases he
              obtain ⟨S1, st1, sr1, hF1, hl1, hv1⟩ := keepParts_sound (FrzOf.refl H) h hk hp
              simp only at sr1 hF1 hl1 hv1
              obtain ⟨zv, hzr, hzs, hz2⟩ := zero_VR hz
              rw [fillV_eq] at hf
              have hzsz : zv.cells.size = sz := by rw [hzs, c3]
              have hzero : All2 (VR w S1 no m) (rep len z) ((Array.range (len * sz)).map (zv.cells[· % zv.cells.size]!)).toList :=
                rep_cells (hz2 w S1 no m) len (by simp [hzsz]) (fun j hj => by
                  rw [hzsz] at hj
                  simp [hj])
              obtain ⟨r', hr, h2⟩ := fill_sound hf (by rw [List.length_map]; exact hl1) (fun j p q e1 e2 => by
                rw [List.getElem?_map] at e1
                cases hp' : ps'[j]? with
                | none => rw [hp'] at e1; cases e1
                | some p' =>
                  rw [hp'] at e1
                  simp only [Option.map_some, Option.some.injEq] at e1
                  subst e1
                  exact hv1 j p' q hp' e2) hzero
              have hlen : cells.length = len * sz := by
                have hh : ∀ (ps : List (Nat × V)) (c r : List V), fillF (fun i => some (i * sz, sz)) ps c = some r → r.length = c.length := by
                  intro ps
                  induction ps with
                  | nil => intro c r e; simp [fillF] at e; subst e; rfl
                  | cons p ps ih =>
                    intro c r e
                    obtain ⟨i, v⟩ := p
                    simp only [fillF] at e
                    split at e
                    · rename_i q; rw [ih _ _ e]; unfold splice; simp; omega
                    · cases e
                rw [hh _ _ _ hf, show (rep len z).length = len * z.length from repl_len z _, c3]
              have h2c : All2 (CellR w S1 m (cells.all V.plain)) cells r'.toList := h2.imp' (fun c x hc r => ⟨r.one_of_kept (List.all_eq_true.1 hkept c hc), r, fun e => r.plain (List.all_eq_true.1 e c hc)⟩)
              have hrs : r'.size = len * sz := by have := h2c.len; rw [hlen] at this; simpa using this
              obtain ⟨m', st, sr, hv⟩ := fresh_sound (B := B) sr1 (.own d) (w' := w) (arr := r') (lim := some len) (sz := sz) (n := len) (cap := len) e h2c (fun j x hj => by simpa using hj) (by simp) (.inl rfl) hlen (Nat.le_refl _) hrs.symm (fun c e => by cases e; rfl)
              rw [nextGen_frz hF1] at sr hv
              refine ⟨_, _, S1, m', ?_, st1.trans st, ?_, hv⟩
              · have hbig : ¬ (16777216 < len * sz) := by omega
                by_cases h0 : len * sz = 0
                · have hl0 : len = 0 := by
                    rcases Nat.mul_eq_zero.1 h0 with q | q
                    · exact q
                    · omega
                  subst hl0
                  have e0 : ∀ f : Nat → Value, (Array.range (0 * sz)).map f = #[] := fun f => by apply Array.ext'; simp
                  have e1 : ∀ f : Nat → Value, (Array.range 0).map f = #[] := fun f => by apply Array.ext'; simp
                  rw [e0] at hr
                  simp [Instr.buildSlice, run_underlying ht, run_sizeOf' hs, newRow, hr, e0, e1]
                · simp [Instr.buildSlice, run_underlying ht, run_sizeOf' hs, hbig, h0, hzr, newRow, hr]
              · simp only [sets_app]
                exact sr
            · cases he
          · cases he
        · cases he
      · cases he
    · cases he
  · cases he
end
end Go.Proofs.Ytieapebabncliaa.Iv

namespace Go.Proofs.Ytieapebabncliaa.Iv
open Go
section
variable {P : Program} {K B : Nat → Prop} {w : World} {S : Nat → Prop} {m : Map} {H : Heap}
set_option linter.unusedVariables false
set_option linter.unusedSimpArgs false

theorem toBytes_cells : ∀ {cs : List V} {l : List UInt8} {xs : List Value}, toBytes cs = some l → All2 (CellR w S m true) cs xs → ∃ ns : List Int, xs = ns.map (Value.int .u8) ∧ l = ns.map (fun n => UInt8.ofNat n.toNat)
  | [], l, [], he, _ => by simp [toBytes] at he; subst he; exact ⟨[], rfl, rfl⟩
  | [], _, _ :: _, _, h => h.elim
  | _ :: _, _, [], _, h => h.elim
  | c :: cs, l, x :: xs, he, h => by
    unfold toBytes at he
    split at he
    · rename_i e; cases e
    · rename_i n r e
      cases e
      split at he
      · rename_i l' hl
        cases he
        obtain ⟨ns, e1, e2⟩ := toBytes_cells hl h.2
        have hx := h.1.2.1.int_inv
        exact ⟨n :: ns, by simp [hx, e1], by simp [e2]⟩
      · cases he
    · cases he
theorem foldl_push (ns : List Int) : ∀ s : ByteArray, ns.foldl (fun r n => r.push (UInt8.ofNat n.toNat)) s = ⟨s.data ++ (ns.map (fun n => UInt8.ofNat n.toNat)).toArray⟩ := by
  induction ns with
  | nil => intro s; simp
  | cons n ns ih =>
    intro s
    simp only [List.foldl_cons, ih, List.map_cons]
    congr 1
    apply Array.ext'
    simp [ByteArray.push]

theorem bytes_flat : ∀ l : List UInt8, (l.map fun b => [V.int .u8 b.toNat]).flatten = l.map fun b => V.int .u8 b.toNat
  | [] => rfl
  | b :: l => by simp [bytes_flat l]
theorem convert_sound (h : SR w S K m H) {s t : Nat} {a : V} {out : Out} (he : evConvert P H s t a = some out) {x : Value} (hx : VR w S B m a x) : Sound P K B w S m H out (convert s t x) := by
  unfold evConvert at he
  split at he
  · rename_i e hs ht
    split at he
    · rename_i hu8
      split at he
      · rename_i cs k fl rd hsrc0
        split at he
        · rename_i l hb
          cases he
          have hsrc : src H 1 a = some (cs, k, fl, rd) ∧ ∀ s, a ≠ .str s := by
            unfold srcS at hsrc0
            split at hsrc0
            · cases hsrc0
            · rename_i q; exact ⟨hsrc0, fun s e => q s e⟩
          obtain ⟨hsrc, hns⟩ := hsrc
          obtain ⟨news, h2, q1, q2, hcl⟩ := src_sound (P := P) h hsrc hx
          have q3 := q2 w rfl k (Nat.le_refl _)
          rw [List.take_of_length_le (by rw [h2.len, hcl]; exact Nat.le_refl _)] at q3
          -- bytes are plain whatever block they lie in
          have h3 : All2 (CellR w S m true) cs news := by
            have : ∀ {cs : List V} {l : List UInt8}, toBytes cs = some l → ∀ c ∈ cs, ∃ n, c = .int .u8 n := by
              intro cs
              induction cs with
              | nil => intro l _ c hc; cases hc
              | cons c cs ih =>
                intro l e c' hc
                unfold toBytes at e
                split at e
                · rename_i q; cases q
                · rename_i n r q
                  cases q
                  split at e
                  · rename_i l' hl
                    rcases List.mem_cons.1 hc with rfl | hc
                    · exact ⟨n, rfl⟩
                    · exact ih hl c' hc
                  · cases e
                · cases e
            refine h2.imp' (fun c x hc r => ⟨r.1, r.2.1, fun _ => ?_⟩)
            obtain ⟨n, rfl⟩ := this hb c hc
            exact r.2.1.plain rfl
          obtain ⟨ns, e1, e2⟩ := toBytes_cells hb h3
          have hxs : ∃ a' n cap, x = .slice a' n cap := by
            unfold src at hsrc
            split at hsrc
            · obtain ⟨a', cap, e, _⟩ := hx.sl_shape; exact ⟨_, _, _, e⟩
            · obtain ⟨_, cap, a', _, e, _⟩ := hx.list_inv; exact ⟨_, _, _, e⟩
            · exact ⟨_, _, _, hx.nils_inv⟩
            · obtain ⟨a', e⟩ := hx.emp_inv; exact ⟨_, _, _, e⟩
            · exact absurd rfl (hns _)
            · cases hsrc
          obtain ⟨a0, n0, cap0, rfl⟩ := hxs
          have hn : n0 = k := by simp [Builtin.lenOf] at q1; exact q1
          subst hn
          refine Sound.pure h (x := .string ⟨l.toArray⟩) ?_ (.fr (.str _))
          rw [run_convert_bytes_string w s t e a0 n0 cap0 hs hu8 ht]
          cases a0 with
          | none =>
            simp only [Builtin.firstCells, Sem.run_pure, Result.ok.injEq, and_true] at q3
            have : news = [] := by simpa using q3.symm
            subst this
            have : ns = [] := by simpa using e1.symm
            subst this
            simp only [List.map_nil] at e2
            subst e2
            rfl
          | some a0 =>
            simp only [Builtin.firstCells, Nat.mul_one] at q3
            rw [e1] at q3
            rw [run_bytesToString w a0 n0 cap0 ns q3, foldl_push, e2]
            have e3 : ByteArray.empty.data ++ (ns.map fun n => UInt8.ofNat n.toNat).toArray = (ns.map fun n => UInt8.ofNat n.toNat).toArray := by
              show (#[] : Array UInt8) ++ _ = _
              simp
            rw [e3]
        · cases he
      · cases he
    · cases he
  · rename_i u k hs ht
    split at he
    · cases he
      have := hx.int_inv; subst this
      exact Sound.pure h (x := .int k (k.wrap _)) (by simp [convert, run_underlying hs, run_underlying ht, Conv.intToInt]) .i
    · cases he
  · rename_i u hs ht
    split at he
    · rename_i l
      cases he
      have := hx.str_inv; subst this
      exact Sound.pure h (x := .string ⟨l.toArray⟩) (by simp [convert, run_underlying hs, run_underlying ht]) (.fr (.str _))
    · cases he
  · rename_i u e hs ht
    split at he
    · rename_i l
      split at he
      · rename_i hu8
        split at he
        · rename_i sz z hsz hz
          cases he
          have := hx.str_inv; subst this
          have hrun := Lib.run_convert_string_bytes (P := P) w s t e ⟨l.toArray⟩ hs ht hu8
          have hbs : (⟨l.toArray⟩ : ByteArray).size = l.length := rfl
          have hold : ∀ k, k < w.heap.size → (Lib.bytesWorld w e ⟨l.toArray⟩).heap[k]? = w.heap[k]? := fun k hk => Lib.bytesWorld_at_old w e _ k hk
          have hS : ∀ rb, S rb → rb < w.heap.size := h.sub
          have st : Step K w S m (Lib.bytesWorld w e ⟨l.toArray⟩) (fun r => S r ∨ r = w.heap.size) m :=
            ⟨by unfold Lib.bytesWorld World.freeze; simp [World.alloc, World.drew, -World.alloc_eq, -World.drew_eq], by unfold Lib.bytesWorld World.freeze; simp [World.alloc, World.drew, -World.alloc_eq, -World.drew_eq],
              by unfold Lib.bytesWorld World.freeze; simp [World.alloc, World.drew, -World.alloc_eq, -World.drew_eq], by rw [Lib.bytesWorld_size]; omega, fun rb hb => .inl hb, fun rb hb => hb.elim .inl (fun e => .inr (fun hk => by have := h.kin rb hk; omega)), fun rb hb => hold rb (hb.elim (h.sub rb) (h.kin rb)), fun i im hm => ⟨im, hm, Nat.le_refl _, fun _ => rfl⟩, ⟨by rw [Lib.bytesWorld_size]; omega, fun k o hk _ => by
                rw [hold k (Array.getElem?_eq_some_iff.1 hk).1]; exact hk⟩⟩
          refine ⟨_, _, _, m, hrun, st, ⟨fun rb hb => (by rw [Lib.bytesWorld_size]; exact hb.elim (fun q => Nat.lt_succ_of_lt (h.sub rb q)) (fun q => q ▸ Nat.lt_succ_self _)), fun rb hb => (by rw [Lib.bytesWorld_size]; exact Nat.lt_succ_of_lt (h.kin rb hb)), fun i b hi => ?_, h.non, h.inj, h.own, fun rb hb => hb.elim (fun q => by rw [hold rb (h.sub rb q)]; exact h.scel rb q) (fun e => by subst e; exact ⟨_, Lib.bytesWorld_at_new w _ _, rfl⟩)⟩, ?_⟩
          · obtain ⟨im, hm, ok⟩ := h.blk i b hi
            exact ⟨im, hm, ok.mono st (hold _ ok.lt) (fun hf hs => hs.elim (ok.thaw hf) (fun e => by have := ok.lt; omega))⟩
          · have hgc := grownCap_ge w (⟨l.toArray⟩ : ByteArray).size 0 e
            have key := VR.list_mk (w := Lib.bytesWorld w e ⟨l.toArray⟩) (S := fun r => S r ∨ r = w.heap.size) (B := B) (m := m) (l := false) (xs := l.map fun b => [V.int .u8 b.toNat]) 1 (grownCap w (⟨l.toArray⟩ : ByteArray).size 0 e) (some ⟨w.heap.size, 0, none⟩)
              (fun j => .int .u8 (l.getD j 0).toNat) (by rw [List.length_map]; rw [hbs] at hgc; exact hgc) (fun x hx => by obtain ⟨b, _, rfl⟩ := List.mem_map.1 hx; rfl)
              (fun _ => ⟨w.heap.size, 0, rfl, .inl (.inr rfl), fun j hj => by
                have hj' : j < l.length := by
                  rw [flatten_len 1 _ (fun x hx => by obtain ⟨b, _, rfl⟩ := List.mem_map.1 hx; rfl)] at hj; simpa using hj
                have := Lib.bytesWorld_cell w e ⟨l.toArray⟩ j hj'
                simpa using this⟩)
              (fun j c hj => by
                rw [bytes_flat, List.getElem?_map] at hj
                cases hb : l[j]? with
                | none => rw [hb] at hj; cases hj
                | some b =>
                  rw [hb] at hj; cases hj
                  simp only [List.getD, hb, Option.getD_some]
                  exact .int _ _)
            rw [List.length_map] at key
            exact key
        · cases he
      · cases he
    · rename_i i g o n sz lim
      split at he
      · rename_i hu8
        split at he
        · rename_i b hb
          split at he
          · rename_i cs hc
            split at he
            · rename_i hq
              obtain ⟨rfl, q1, q2, q3, q4⟩ := hq
              cases he
              obtain ⟨im, a, cap, hm, ok, rfl, hi, rfl, ha, h1, h2, h3, h4, h5⟩ := VR.sl_live h hx hb
              have ha' := ha (by omega)
              subst ha'
              obtain ⟨arr, ty, hrow, hsz⟩ := ok.row0 q3
              obtain ⟨S', hS, st, sr⟩ := SR.mark h hi q3 hm arr.size
              have hlive : live (H.set i { b with frz := true }) i im.gen = some { b with frz := true } := by simp [live, Heap.set_same, ok.gen]
              refine ⟨_, _, S', m, ?_, st, sr, (sl_list (B := B) (B' := B) (b := { b with frz := true }) sr hx.sl_any hlive hc q1 q2 (fun _ x => x) (fun im' hm' => by rw [hm] at hm'; cases hm'; exact .inl hS))⟩
              have hshape : w.shape? im.rb = some (ty, arr.size) := by unfold World.shape?; rw [hrow]
              simp [convert, run_underlying ht, run_underlying hu8, markStringish, hshape]
            · cases he
          · cases he
        · cases he
      · cases he
    · cases he
  · cases he
end
end Go.Proofs.Ytieapebabncliaa.Iv

namespace Go.Proofs.Ytieapebabncliaa.Iv
open Go
set_option linter.unusedVariables false
set_option linter.unusedSimpArgs false

/-! ### other names for blocks -/
def ImLike (a b : Im) : Prop := a.rb = b.rb ∧ a.dl = b.dl ∧ a.n = b.n ∧ a.tot = b.tot
def RenOK (f : Id → Nat → Option (Id × Nat)) (m m' : Map) : Prop :=
  ∀ i g i' g', f i g = some (i', g') → ∀ im, m i = some im → ∃ im', m' i' = some im' ∧ (im.gen = g → im'.gen = g' ∧ ImLike im im') ∧ (g < im.gen → g' < im'.gen)

theorem renL_map (f : Id → Nat → Option (Id × Nat)) : ∀ cs : List V, renL f cs = cs.map (ren f)
  | [] => rfl
  | c :: cs => by simp [renL, renL_map f cs]

theorem VR.ren {w : World} {S B : Nat → Prop} {m m' : Map} {f : Id → Nat → Option (Id × Nat)} (hf : RenOK f m m') {v : V} {x : Value} (h : VR w S B m v x) : VR w S B m' (Iv.ren f v) x := by
  induction h with
  | fr h => cases h with
    | fptr cs rb o vals a b c => exact .fr (.fptr cs rb o vals a b c)
    | list xs sz cap a vals h1 h2 h3 h4 => exact .fr (.list xs sz cap a vals h1 h2 h3 h4)
    | int k n => exact .fr (.int k n)
    | bool b => exact .fr (.bool b)
    | str s => exact .fr (.str s)
    | nilp => exact .fr .nilp
    | nils => exact .fr .nils
    | emp a => exact .fr (.emp a)
    | nilf => exact .fr .nilf
  | lfptr cs rb o vals h hc hv => exact .lfptr cs rb o vals h hc hv
  | llist xs sz cap a vals hcap hz ha hv => exact .llist xs sz cap a vals hcap hz ha hv
  | ptr i o im hm =>
    simp only [Iv.ren]
    cases e : f i im.gen with
    | none => exact .und _
    | some p =>
      obtain ⟨i', g'⟩ := p
      obtain ⟨im', hm', h1, _⟩ := hf i im.gen i' g' e im hm
      obtain ⟨rfl, q1, q2, q3, q4⟩ := h1 rfl
      rw [q1, q2]
      exact .ptr i' o im' hm'
  | ptrD i g o im a hm hg =>
    simp only [Iv.ren]
    cases e : f i g with
    | none => exact .und _
    | some p =>
      obtain ⟨i', g'⟩ := p
      obtain ⟨im', hm', _, h2⟩ := hf i g i' g' e im hm
      exact .ptrD i' g' o im' a hm' (h2 hg)
  | sl i o n sz lim im a cap hm ha h1 h2 h3 h4 h5 =>
    simp only [Iv.ren]
    cases e : f i im.gen with
    | none => exact .und _
    | some p =>
      obtain ⟨i', g'⟩ := p
      obtain ⟨im', hm', k1, _⟩ := hf i im.gen i' g' e im hm
      obtain ⟨rfl, q1, q2, q3, q4⟩ := k1 rfl
      exact .sl i' o n sz lim im' a cap hm' (fun hp => by rw [← q1, ← q2]; exact ha hp) h1 (by rw [← q3]; exact h2) (by rw [← q2, ← q4]; exact h3) (fun e => by rw [← q3]; exact h4 e) h5
  | slD i g o n sz lim im a cap hm hg h1 h5 =>
    simp only [Iv.ren]
    cases e : f i g with
    | none => exact .und _
    | some p =>
      obtain ⟨i', g'⟩ := p
      obtain ⟨im', hm', _, h2⟩ := hf i g i' g' e im hm
      exact .slD i' g' o n sz lim im' a cap hm' (h2 hg) h1 h5
  | agg cs vs hl h ih =>
    simp only [Iv.ren, renL_map]
    refine .agg _ _ (by simpa using hl) (fun j c x h1 h2 => ?_)
    rw [List.getElem?_map] at h1
    cases e : cs[j]? with
    | none => rw [e] at h1; cases h1
    | some c' => rw [e] at h1; cases h1; exact ih j c' x e h2
  | tup cs vs hl h ih =>
    simp only [Iv.ren, renL_map]
    refine .tup _ _ (by simpa using hl) (fun j c x h1 h2 => ?_)
    rw [List.getElem?_map] at h1
    cases e : cs[j]? with
    | none => rw [e] at h1; cases h1
    | some c' => rw [e] at h1; cases h1; exact ih j c' x e h2
  | fn k cs vs hl h ih =>
    simp only [Iv.ren, renL_map]
    refine .fn _ _ _ (by simpa using hl) (fun j c x h1 h2 => ?_)
    rw [List.getElem?_map] at h1
    cases e : cs[j]? with
    | none => rw [e] at h1; cases h1
    | some c' => rw [e] at h1; cases h1; exact ih j c' x e h2
  | und x => exact .und x

mutual
theorem ren_norefs (f : Id → Nat → Option (Id × Nat)) : ∀ v : V, refs v = [] → ren f v = v
  | .ptr i g o, h => by simp [refs] at h
  | .sl i g o n sz lim, h => by simp [refs] at h
  | .agg cs, h => by simp only [ren]; rw [renL_norefs f cs (by simpa [refs] using h)]
  | .tup cs, h => by simp only [ren]; rw [renL_norefs f cs (by simpa [refs] using h)]
  | .fn k cs, h => by simp only [ren]; rw [renL_norefs f cs (by simpa [refs] using h)]
  | .int .., _ => rfl
  | .bool _, _ => rfl
  | .str _, _ => rfl
  | .nilp, _ => rfl
  | .nils, _ => rfl
  | .emp, _ => rfl
  | .nilf, _ => rfl
  | .fptr .., _ => rfl
  | .list .., _ => rfl
  | .und, _ => rfl
theorem renL_norefs (f : Id → Nat → Option (Id × Nat)) : ∀ cs : List V, refsL cs = [] → renL f cs = cs
  | [], _ => rfl
  | c :: cs, h => by
    simp only [refsL, List.append_eq_nil_iff] at h
    simp only [renL]
    rw [ren_norefs f c h.1, renL_norefs f cs h.2]
end

theorem VR.monoB {w : World} {S B B' : Nat → Prop} {m : Map} (hB : ∀ rb, B rb → B' rb) {v : V} {x : Value} (h : VR w S B m v x) : VR w S B' m v x := by
  induction h with
  | fr h => exact .fr h
  | lfptr cs rb o vals h hc hv => exact .lfptr cs rb o vals (h.imp id (hB _)) hc (fun j c e => (hv j c e).map id (fun rb q => ⟨q.imp id (hB _), rfl⟩))
  | llist xs sz cap a vals hcap hz ha hv => exact .llist xs sz cap a vals hcap hz (fun hne => let ⟨rb, o, e, h, hc⟩ := ha hne; ⟨rb, o, e, h.imp id (hB _), hc⟩) hv
  | ptr i o im hm => exact .ptr i o im hm
  | ptrD i g o im x hm hg => exact .ptrD i g o im x hm hg
  | sl i o n sz lim im a cap hm ha h1 h2 h3 h4 h5 => exact .sl i o n sz lim im a cap hm ha h1 h2 h3 h4 h5
  | slD i g o n sz lim im a cap hm hg h1 h5 => exact .slD i g o n sz lim im a cap hm hg h1 h5
  | agg cs vs hl h ih => exact .agg cs vs hl ih
  | tup cs vs hl h ih => exact .tup cs vs hl ih
  | fn f cs vs hl h ih => exact .fn f cs vs hl ih
  | und x => exact .und x

/-! ### which blocks go over -/
theorem collect_spec {H : Heap} : ∀ (n : Nat) (todo : List (Id × Nat)) (acc acc' : List Id), collect H n todo acc = some acc' →
    (∀ i ∈ acc, i ∈ acc') ∧ (acc.Nodup → acc'.Nodup) ∧ ((∀ i ∈ acc, ∃ b, H i = some b) → ∀ i ∈ acc', ∃ b, H i = some b) ∧ (∀ p ∈ todo, p.1 ∈ acc')
  | _, [], acc, acc', h => by
    have : acc' = acc := by cases ‹Nat› <;> (simp [collect] at h; exact h.symm)
    subst this
    exact ⟨fun _ h => h, id, fun h => h, fun p hp => by cases hp⟩
  | 0, _ :: _, acc, acc', h => by simp [collect] at h
  | n + 1, (i, g) :: todo, acc, acc', h => by
    simp only [collect] at h
    split at h
    · rename_i hi
      obtain ⟨h1, h2, h3, h4⟩ := collect_spec n todo acc acc' h
      refine ⟨h1, h2, h3, fun p hp => ?_⟩
      rcases List.mem_cons.1 hp with rfl | hp
      · exact h1 _ hi
      · exact h4 p hp
    · rename_i hi
      split at h
      · rename_i b hb
        obtain ⟨h1, h2, h3, h4⟩ := collect_spec n _ (acc ++ [i]) acc' h
        obtain ⟨hb1, _⟩ := live_some hb
        refine ⟨fun j hj => h1 j (by simp [hj]), fun hnd => h2 ?_, fun hs => h3 (fun j hj => ?_), fun p hp => ?_⟩
        · rw [List.nodup_append]
          exact ⟨hnd, by simp, fun a ha b hb => by simp at hb; subst hb; intro e; subst e; exact hi ha⟩
        · rcases List.mem_append.1 hj with hj | hj
          · exact hs j hj
          · simp at hj; subst hj; exact ⟨b, hb1⟩
        · rcases List.mem_cons.1 hp with rfl | hp
          · exact h1 _ (by simp)
          · exact h4 p (by simp [hp])
      · cases h

theorem pos_spec {i : Id} : ∀ {l : List Id} {n j : Nat}, pos i l n = some j → n ≤ j ∧ l[j - n]? = some i
  | [], n, j, h => by simp [pos] at h
  | x :: r, n, j, h => by
    simp only [pos] at h
    split at h
    · rename_i e; cases h; exact ⟨Nat.le_refl _, by simp [e]⟩
    · obtain ⟨h1, h2⟩ := pos_spec h
      refine ⟨by omega, ?_⟩
      rw [show j - n = (j - (n + 1)) + 1 by omega, List.getElem?_cons_succ]
      exact h2

theorem sets_get (H : Heap) : ∀ (ups : List (Id × Blk)), (ups.map (·.1)).Nodup → (∀ p ∈ ups, (H.sets ups) p.1 = some p.2) ∧ (∀ i, i ∉ ups.map (·.1) → (H.sets ups) i = H i)
  | [], _ => ⟨(fun p hp => by cases hp), fun _ _ => rfl⟩
  | (i, b) :: r, hnd => by
    simp only [List.map_cons, List.nodup_cons] at hnd
    obtain ⟨h1, h2⟩ := sets_get (H.set i b) r hnd.2
    refine ⟨fun p hp => ?_, fun j hj => ?_⟩
    · rcases List.mem_cons.1 hp with rfl | hp
      · simp only [Heap.sets]; rw [h2 i hnd.1]; exact Heap.set_same ..
      · exact h1 p hp
    · simp only [List.map_cons, List.mem_cons, not_or] at hj
      simp only [Heap.sets]; rw [h2 j hj.2]; exact Heap.set_ne _ _ hj.1

theorem backUps_spec {H H' : Heap} {d : Nat} {acc acc' : List Id} : ∀ {l : List Id} {ups : List (Id × Blk)}, backUps H H' d acc acc' l = some ups →
    (∀ p ∈ ups, ∃ i ∈ l, ∃ b g, H' i = some b ∧ backName H d acc i = some (p.1, g) ∧ (b.flat || b.cells.all V.kept) = true ∧
      p.2 = { gen := g + b.gen, cells := if b.flat then b.cells else renL (backRen H d acc acc') b.cells, frz := b.frz, flat := b.flat }) ∧
    (∀ i ∈ l, ∃ i' g b, backName H d acc i = some (i', g) ∧ H' i = some b ∧ i' ∈ ups.map (·.1)) ∧
    ups.map (fun p => some p.1) = l.map (fun i => (backName H d acc i).map (·.1))
  | [], ups, h => by simp [backUps] at h; subst h; exact ⟨(fun p hp => by cases hp), (fun i hi => by cases hi), rfl⟩
  | i :: r, ups, h => by
    simp only [backUps] at h
    split at h
    · rename_i b i' g us hb hn hr
      split at h
      · rename_i hk
        cases h
        obtain ⟨h1, h2, h3⟩ := backUps_spec hr
        refine ⟨fun p hp => ?_, fun j hj => ?_, ?_⟩
        · rcases List.mem_cons.1 hp with rfl | hp
          · exact ⟨i, by simp, b, g, hb, hn, hk, rfl⟩
          · obtain ⟨j, hj, q⟩ := h1 p hp; exact ⟨j, by simp [hj], q⟩
        · rcases List.mem_cons.1 hj with rfl | hj
          · exact ⟨i', g, b, hn, hb, by simp⟩
          · obtain ⟨a, c, e, q1, q2, q3⟩ := h2 j hj; exact ⟨a, c, e, q1, q2, by simp [q3]⟩
        · simp [hn, h3]
      · cases h
    · cases h
end Go.Proofs.Ytieapebabncliaa.Iv

namespace Go.Proofs.Ytieapebabncliaa.Iv
open Go
set_option linter.unusedVariables false
set_option linter.unusedSimpArgs false
section
variable {P : Program} {K B : Nat → Prop} {w : World} {S : Nat → Prop} {m : Map} {H : Heap}

/-- what is lent besides: the blocks of these names -/
def Lend (B : Nat → Prop) (m : Map) (d : List Id) : Nat → Prop := fun rb => B rb ∨ ∃ i ∈ d, ∃ im, m i = some im ∧ im.rb = rb

theorem viewC_sound {H1 : Heap} (hF : FrzOf H H1) (h : SR w S K m H1) {c : V} {o : V × List Id} (he : viewC H c = some o) {x : Value} (hx : VR w S B m c x) : CR w S (Lend B m o.2) o.1 x := by
  unfold viewC at he
  split at he
  · rename_i i g o' n sz lim
    split at he
    · rename_i b hb
      split at he
      · rename_i cs hc
        split at he
        · rename_i hq
          cases he
          obtain ⟨f, hf⟩ := hF.live hb
          exact (sl_list (B' := Lend B m [i]) (m' := m) (b := { b with frz := f }) h hx hf hc hq.1 hq.2 (fun _ s => s) (fun im hm => .inr ⟨rfl, .inr ⟨i, by simp, im, hm, rfl⟩⟩)).cr
        · cases he
      · cases he
    · cases he
  · split at he
    · rename_i hp
      cases he
      exact .inl (hx.plain hp)
    · cases he
      exact .inr (.inr rfl)
theorem CR.lend {d d' : List Id} (hd : ∀ i ∈ d, i ∈ d') {c : V} {x : Value} (h : CR w S (Lend B m d) c x) : CR w S (Lend B m d') c x :=
  h.map id (fun rb q => ⟨q.imp id (fun q => q.imp id (fun ⟨i, hi, z⟩ => ⟨i, hd i hi, z⟩)), rfl⟩)
theorem viewL_sound {H1 : Heap} (hF : FrzOf H H1) (h : SR w S K m H1) : ∀ {cs : List V} {o : List V × List Id} (he : viewL H cs = some o) {xs : List Value} (hx : All2 (VR w S B m) cs xs),
    All2 (CR w S (Lend B m o.2)) o.1 xs
  | [], o, he, [], _ => by simp [viewL] at he; subst he; trivial
  | [], _, _, _ :: _, hx => hx.elim
  | _ :: _, _, _, [], hx => hx.elim
  | c :: r, o, he, x :: xs, hx => by
    simp only [viewL] at he
    split at he
    · rename_i c' d hc
      split at he
      · rename_i cs ds hr
        cases he
        exact ⟨(viewC_sound hF h hc hx.1).lend (fun i hi => by simp [hi]), (viewL_sound hF h hr hx.2).imp (fun c x q => q.lend (fun i hi => by simp [hi]))⟩
      · cases he
    · cases he
theorem view1_sound {H1 : Heap} (hF : FrzOf H H1) (h : SR w S K m H1) {v : V} {o : Out} (he : view1 H v = some o) {x : Value} (hx : VR w S B m v x) :
    o.ups = [] ∧ VR w S (Lend B m o.rd) m o.v x := by
  unfold view1 at he
  split at he
  · rename_i i g o'
    split at he
    · rename_i b hb
      split at he
      · rename_i cs d hv
        cases he
        refine ⟨rfl, ?_⟩
        obtain ⟨f, hf⟩ := hF.live hb
        obtain ⟨im, hm, ok, rfl, hi, _⟩ := VR.ptr_live h hx hf
        obtain ⟨xs, r2, hq⟩ := All2.choose (R := fun c x => VR w S B m c x) (cs := b.cells.drop o') (Q := fun j x => w.cell? ⟨im.rb, im.dl + o' + j, none⟩ = some x) (fun j c hj => by
          rw [List.getElem?_drop] at hj
          obtain ⟨x, e1, _, e2, _⟩ := ok.cel (o' + j) c hj
          exact ⟨x, by rw [Nat.add_assoc]; exact e1, e2.lend⟩)
        have R := viewL_sound hF h hv r2
        refine .lfptr cs im.rb (im.dl + o') (fun j => xs.getD j undef) (.inr (.inr ⟨i, by simp, im, hm, rfl⟩)) (fun j hj => ?_) (fun j c hj => ?_)
        · have hjx : j < xs.length := by rw [R.len]; exact hj
          rw [hq j _ (List.getElem?_eq_getElem hjx)]
          simp [List.getD, List.getElem?_eq_getElem hjx]
        · obtain ⟨x, e1, e2⟩ := R.get hj
          have : xs.getD j undef = x := by simp [List.getD, e1]
          rw [this]
          exact e2.lend (fun i hi => by simp [hi])
      · cases he
    · cases he
  · cases he
    obtain ⟨rb, o', vals, rfl, h1, h2, h3⟩ := hx.fptr_inv
    refine ⟨rfl, .lfptr _ rb o' vals (h1.imp id (fun q => .inl q.2)) h2 (fun j c hj => ?_)⟩
    rename_i l
    cases l with
    | false => exact .inl (h3 j c hj)
    | true => exact (show CR w S B c (vals j) from h3 j c hj).map id (fun rb q => ⟨q.imp id .inl, rfl⟩)
  · cases he
    exact ⟨rfl, hx.monoB (fun _ b => .inl b)⟩
  · cases he

theorem argIn_sound0 {H1 : Heap} (hF : FrzOf H H1) (h : SR w S K m H1) {md : Mode} (hn : md ≠ .lentN) {v : V} {o : Out} (he : argIn H md v = some o) {x : Value} (hx : VR w S B m v x) :
    ∃ S', Step K w S m w S' m ∧ SR w S' K m (H1.sets o.ups) ∧ FrzOf H (H1.sets o.ups) ∧ VR w S' (Lend B m o.rd) m o.v x := by
  have keepCase : keepV H v = some o → ∃ S', Step K w S m w S' m ∧ SR w S' K m (H1.sets o.ups) ∧ FrzOf H (H1.sets o.ups) ∧ VR w S' (Lend B m o.rd) m o.v x := fun he => by
    obtain ⟨S', st, sr, hF', hv⟩ := keepV_sound hF h he hx
    exact ⟨S', st, sr, hF', hv.lend⟩
  cases md with
  | keep => exact keepCase he
  | lentN => exact absurd rfl hn
  | byref => simp only [argIn, pureO, Option.some.injEq] at he; subst he; exact ⟨S, Step.refl .., h, hF, hx.monoB (fun _ b => .inl b)⟩
  | view =>
    simp only [argIn] at he
    obtain ⟨e, hv⟩ := view1_sound hF h he hx
    rw [e]
    exact ⟨S, Step.refl .., h, hF, hv⟩
  | lent =>
    simp only [argIn] at he
    unfold lent1 at he
    split at he
    · rename_i i g o' n sz lim
      split at he
      · rename_i b hb
        split at he
        · rename_i cs hc
          split at he
          · rename_i hq
            cases he
            obtain ⟨f, hf⟩ := hF.live hb
            refine ⟨S, Step.refl .., h, hF, ?_⟩
            exact sl_list (b := { b with frz := f }) h hx hf hc hq.1 hq.2 (fun _ s => s) (fun im hm => .inr ⟨rfl, .inr ⟨i, by simp, im, hm, rfl⟩⟩)
          · cases he
        · cases he
      · cases he
    · rename_i xs l
      cases he
      obtain ⟨sz, cap, a, vals, rfl, h1, h2, h3, h4⟩ := hx.list_inv
      exact ⟨S, Step.refl .., h, hF, VR.list_mk sz cap a vals h1 h2 (fun hne => let ⟨rb, o, e, hs, hc⟩ := h3 hne; ⟨rb, o, e, hs.imp id (fun q => ⟨rfl, .inl q.2⟩), hc⟩) h4⟩
    · cases he
      have := hx.nils_inv; subst this
      exact ⟨S, Step.refl .., h, hF, VR.list_mk (xs := []) 0 0 none (fun _ => undef) (Nat.le_refl _) (fun x hx => by cases hx) (fun hne => absurd rfl hne) (fun j c hj => by simp at hj)⟩
    · cases he
      obtain ⟨a, rfl⟩ := hx.emp_inv
      exact ⟨S, Step.refl .., h, hF, VR.list_mk (xs := []) 0 0 a (fun _ => undef) (Nat.le_refl _) (fun x hx => by cases hx) (fun hne => absurd rfl hne) (fun j c hj => by simp at hj)⟩
    · exact keepCase he

theorem argIn_sound {H1 : Heap} (hF : FrzOf H H1) (h : SR w S K m H1) {md : Mode} {v : V} {o : Out} (he : argIn H md v = some o) {x : Value} (hx : VR w S B m v x) :
    ∃ S', Step K w S m w S' m ∧ SR w S' K m (H1.sets o.ups) ∧ FrzOf H (H1.sets o.ups) ∧ VR w S' (Lend B m o.rd) m o.v x := by
  by_cases hn : md = .lentN
  · subst hn
    simp only [argIn] at he
    split at he
    · simp only [pureO, Option.some.injEq] at he; subst he; exact ⟨S, Step.refl .., h, hF, hx.monoB (fun _ b => .inl b)⟩
    · simp only [pureO, Option.some.injEq] at he; subst he; exact ⟨S, Step.refl .., h, hF, hx.monoB (fun _ b => .inl b)⟩
    · exact argIn_sound0 hF h (md := .lent) (by simp) (by simpa [argIn] using he) hx
  · exact argIn_sound0 hF h hn he hx
theorem Lend.app_l {d1 d2 : List Id} {rb : Nat} (h : Lend B m d1 rb) : Lend B m (d1 ++ d2) rb := h.imp id (fun ⟨i, hi, q⟩ => ⟨i, by simp [hi], q⟩)
theorem Lend.app_r {d1 d2 : List Id} {rb : Nat} (h : Lend B m d2 rb) : Lend B m (d1 ++ d2) rb := h.imp id (fun ⟨i, hi, q⟩ => ⟨i, by simp [hi], q⟩)

theorem argsIn_sound : ∀ {ms : List Mode} {vs : List V} {S : Nat → Prop} {H1 : Heap} (hF : FrzOf H H1) (h : SR w S K m H1) {o : List V × List (Id × Blk) × List Id} (he : argsIn H ms vs = some o) {xs : List Value}
    (hx : All2 (VR w S B m) vs xs), ∃ S', Step K w S m w S' m ∧ SR w S' K m (H1.sets o.2.1) ∧ FrzOf H (H1.sets o.2.1) ∧ All2 (VR w S' (Lend B m o.2.2) m) o.1 xs
  | ms, [], S, H1, hF, h, o, he, [], _ => by
    have : o = ([], [], []) := by cases ms <;> simpa [argsIn] using he.symm
    subst this; exact ⟨S, Step.refl .., h, hF, trivial⟩
  | _, [], _, _, _, _, _, _, _ :: _, hx => hx.elim
  | _, _ :: _, _, _, _, _, _, _, [], hx => hx.elim
  | ms, v :: r, S, H1, hF, h, o, he, x :: xs, hx => by
    simp only [argsIn] at he
    split at he
    · rename_i v' u d hv
      split at he
      · rename_i vs us ds hr
        cases he
        obtain ⟨S1, st1, sr1, hF1, hv1⟩ := argIn_sound hF h hv hx.1
        obtain ⟨S2, st2, sr2, hF2, hv2⟩ := argsIn_sound hF1 sr1 hr (hx.2.imp (fun c x r => r.monoS st1))
        refine ⟨S2, st1.trans st2, by rw [sets_app]; exact sr2, by rw [sets_app]; exact hF2, ⟨(hv1.monoS st2).monoB (fun _ => Lend.app_l), hv2.imp (fun c x r => r.monoB (fun _ => Lend.app_r))⟩⟩
      · cases he
    · cases he

theorem keepTup_sound : ∀ {cs : List V} {S : Nat → Prop} {H1 : Heap} (hF : FrzOf H H1) (h : SR w S K m H1) {o : List V × List (Id × Blk) × List Id} (he : keepTup H cs = some o) {xs : List Value}
    (hx : All2 (VR w S B m) cs xs), ∃ S', Step K w S m w S' m ∧ SR w S' K m (H1.sets o.2.1) ∧ FrzOf H (H1.sets o.2.1) ∧ All2 (VR w S' no m) o.1 xs
  | [], S, H1, hF, h, o, he, [], _ => by simp [keepTup] at he; subst he; exact ⟨S, Step.refl .., h, hF, trivial⟩
  | [], _, _, _, _, _, _, _ :: _, hx => hx.elim
  | _ :: _, _, _, _, _, _, _, [], hx => hx.elim
  | v :: r, S, H1, hF, h, o, he, x :: xs, hx => by
    simp only [keepTup] at he
    split at he
    · rename_i v' u d hv
      split at he
      · rename_i vs us ds hr
        cases he
        obtain ⟨S1, st1, sr1, hF1, hv1⟩ := keepV_sound hF h hv hx.1
        obtain ⟨S2, st2, sr2, hF2, hv2⟩ := keepTup_sound hF1 sr1 hr (hx.2.imp (fun c x r => r.monoS st1))
        exact ⟨S2, st1.trans st2, by rw [sets_app]; exact sr2, by rw [sets_app]; exact hF2, ⟨hv1.monoS st2, hv2⟩⟩
      · cases he
    · cases he

theorem retIn_sound {own : Bool} (h : SR w S K m H) {r : V} {o : V × List (Id × Blk)} (he : retIn own H r = some o) {x : Value} (hx : VR w S B m r x) :
    ∃ S', Step K w S m w S' m ∧ SR w S' K m (H.sets o.2) ∧ VR w S' B m o.1 x := by
  cases own with
  | true => simp only [retIn, Option.some.injEq] at he; subst he; exact ⟨S, Step.refl .., h, hx⟩
  | false =>
    simp only [retIn] at he
    split at he
    · rename_i vs
      split at he
      · rename_i vs' us ds hk
        cases he
        obtain ⟨xs, rfl, h2⟩ := hx.tup_inv
        obtain ⟨S', st, sr, _, h3⟩ := keepTup_sound (FrzOf.refl H) h hk h2
        exact ⟨S', st, sr, VR.tup_mk (h3.imp (fun c x r => r.lend))⟩
      · cases he
    · split at he
      · rename_i r' us ds hk
        cases he
        obtain ⟨S', st, sr, _, h3⟩ := keepV_sound (FrzOf.refl H) h hk hx
        exact ⟨S', st, sr, h3.lend⟩
      · cases he

theorem fz1_sound {H1 : Heap} (hF : FrzOf H H1) (h : SR w S K m H1) {v : V} {o : V × List (Id × Blk)} (he : fz1 H v = some o) {x : Value} (hx : VR w S B m v x) :
    ∃ S', Step K w S m w S' m ∧ SR w S' K m (H1.sets o.2) ∧ FrzOf H (H1.sets o.2) ∧ VR w S' no m o.1 x := by
  unfold fz1 at he
  split at he
  · rename_i i g o'
    split at he
    · rename_i b hb
      split at he
      · rename_i hp
        cases he
        obtain ⟨hb1, hg⟩ := live_some hb
        obtain ⟨f, hf⟩ := hF.live hb
        obtain ⟨f1, f2⟩ := live_some hf
        obtain ⟨im, hm, ok, rfl, hi, rfl⟩ := VR.ptr_live h hx hf
        obtain ⟨S', hS, st, sr⟩ := SR.freeze h f1 hm
        refine ⟨S', st, sr, hF.set hb1, ?_⟩
        obtain ⟨xs, r2, hq⟩ := All2.choose (R := fun c x => c.plain = true → FR w S c x) (cs := b.cells.drop o') (Q := fun j x => w.cell? ⟨im.rb, im.dl + o' + j, none⟩ = some x) (fun j c hj => by
          rw [List.getElem?_drop] at hj
          obtain ⟨x, e1, _, e2, _⟩ := ok.cel (o' + j) c hj
          exact ⟨x, by rw [Nat.add_assoc]; exact e1, fun hc => e2.plain hc⟩)
        refine .fr (.fptr _ im.rb (im.dl + o') (fun j => xs.getD j undef) hS (fun j hj => ?_) (fun j c hj => ?_))
        · have hjx : j < xs.length := by rw [r2.len]; exact hj
          rw [hq j _ (List.getElem?_eq_getElem hjx)]
          simp [List.getD, List.getElem?_eq_getElem hjx]
        · obtain ⟨x, e1, e2⟩ := r2.get hj
          have : xs.getD j undef = x := by simp [List.getD, e1]
          rw [this]
          exact (e2 (List.all_eq_true.1 hp c (List.mem_of_getElem? hj))).mono (fun _ _ => rfl) st.sub
      · cases he
    · cases he
  · split at he
    · rename_i hp
      cases he
      exact ⟨S, Step.refl .., h, hF, .fr (hx.plain hp)⟩
    · cases he
theorem fzL_sound : ∀ {cs : List V} {S : Nat → Prop} {H1 : Heap} (hF : FrzOf H H1) (h : SR w S K m H1) {o : List V × List (Id × Blk)} (he : fzL H cs = some o) {xs : List Value}
    (hx : All2 (VR w S B m) cs xs), ∃ S', Step K w S m w S' m ∧ SR w S' K m (H1.sets o.2) ∧ FrzOf H (H1.sets o.2) ∧ All2 (VR w S' no m) o.1 xs
  | [], S, H1, hF, h, o, he, [], _ => by simp [fzL] at he; subst he; exact ⟨S, Step.refl .., h, hF, trivial⟩
  | [], _, _, _, _, _, _, _ :: _, hx => hx.elim
  | _ :: _, _, _, _, _, _, _, [], hx => hx.elim
  | v :: r, S, H1, hF, h, o, he, x :: xs, hx => by
    simp only [fzL] at he
    split at he
    · rename_i v' u hv
      split at he
      · rename_i vs us hr
        cases he
        obtain ⟨S1, st1, sr1, hF1, hv1⟩ := fz1_sound hF h hv hx.1
        obtain ⟨S2, st2, sr2, hF2, hv2⟩ := fzL_sound hF1 sr1 hr (hx.2.imp (fun c x r => r.monoS st1))
        exact ⟨S2, st1.trans st2, by rw [sets_app]; exact sr2, by rw [sets_app]; exact hF2, ⟨hv1.monoS st2, hv2⟩⟩
      · cases he
    · cases he
theorem retZ_sound {p : Pol} (h : SR w S K m H) {r : V} {o : V × List (Id × Blk)} (he : retZ p H r = some o) {x : Value} (hx : VR w S B m r x) :
    ∃ S', Step K w S m w S' m ∧ SR w S' K m (H.sets o.2) ∧ VR w S' B m o.1 x := by
  unfold retZ at he
  split at he
  · unfold fzFn at he
    split at he
    · rename_i f cs
      split at he
      · rename_i cs' us hk
        cases he
        obtain ⟨xs, rfl, h2⟩ := hx.fn_inv
        obtain ⟨S', st, sr, _, h3⟩ := fzL_sound (FrzOf.refl H) h hk h2
        exact ⟨S', st, sr, VR.fn_mk (h3.imp (fun c x r => r.lend))⟩
      · cases he
    · cases he
  · exact retIn_sound h he hx

theorem keptR_no {v : V} {x : Value} (hk : v.keptR = true) (h : VR w S B m v x) : VR w S no m v x := by
  by_cases ha : ∃ cs, v = .agg cs
  · obtain ⟨cs, rfl⟩ := ha
    obtain ⟨xs, rfl, h2⟩ := h.agg_inv
    exact VR.agg_mk (h2.imp' (fun c x hc r => r.kept (List.all_eq_true.1 hk c hc)))
  · have : v.keptR = v.kept := by cases v <;> first | rfl | exact (ha ⟨_, rfl⟩).elim
    exact h.kept (by rw [← this]; exact hk)
theorem outKept_no {v : V} {x : Value} (hk : outKept v = true) (h : VR w S B m v x) : VR w S no m v x := by
  by_cases ha : ∃ cs, v = .tup cs
  · obtain ⟨cs, rfl⟩ := ha
    obtain ⟨xs, rfl, h2⟩ := h.tup_inv
    exact VR.tup_mk (h2.imp' (fun c x hc r => keptR_no (List.all_eq_true.1 hk c hc) r))
  · have : outKept v = v.keptR := by cases v <;> first | rfl | exact (ha ⟨_, rfl⟩).elim
    exact keptR_no (by rw [← this]; exact hk) h
end

/-- A function value can be entered. -/
def Enters (P : Program) (f : Nat) : Prop := ∃ fn, P.funcs[f]? = some fn ∧ fn.body.isSome = true ∧ (fn.name == "runtime.NumGoroutine") = false
/-- What 'call' says of a Go function is so. -/
structure RunOK (P : Program) (call : Nat → List V → Heap → Option (V × Heap)) : Prop where
  good : ∀ f args H r, call f args H = some r → Enters P f
  ok : ∀ f args H r H', call f args H = some (r, H') → ∀ (w : World) (S K B : Nat → Prop) (m : Map) (vs : List Value), SR w S K m H → (∀ rb, B rb → K rb) → All2 (VR w S B m) args vs →
    Calls P f vs.toArray w fun e w' => ∃ x S' m', e = .returned x ∧ Step K w S m w' S' m' ∧ SR w' S' K m' H' ∧ VR w' S' B m' r x
end Go.Proofs.Ytieapebabncliaa.Iv

namespace Go.Proofs.Ytieapebabncliaa.Iv
open Go
set_option linter.unusedVariables false
set_option linter.unusedSimpArgs false
section
variable {P : Program} {K B : Nat → Prop} {w : World} {S : Nat → Prop} {m : Map} {H : Heap}

theorem All2.map {R R' : V → Value → Prop} (f : V → V) (hf : ∀ c x, R c x → R' (f c) x) : ∀ {cs : List V} {xs : List Value}, All2 R cs xs → All2 R' (cs.map f) xs
  | [], [], _ => trivial
  | _ :: _, _ :: _, h => ⟨hf _ _ h.1, All2.map f hf h.2⟩
  | [], _ :: _, h => h.elim
  | _ :: _, [], h => h.elim

theorem keep1_frz {v : V} {o : Out} (he : keep1 H v = some o) : ∀ p ∈ o.ups, p.2.frz = true := by
  unfold keep1 at he
  split at he
  · split at he
    · split at he
      · split at he
        · cases he; intro p hp; simp at hp; subst hp; rfl
        · cases he
      · cases he
    · cases he
  · split at he
    · cases he
    · cases he; intro p hp; cases hp
  · cases he; intro p hp; cases hp
  · cases he; intro p hp; cases hp
  · split at he
    · cases he
    · cases he; intro p hp; cases hp
  · cases he
  · cases he
  · cases he
  · split at he
    · cases he; intro p hp; cases hp
    · cases he
  · cases he; intro p hp; cases hp
theorem keepL_frz : ∀ {cs : List V} {o : List V × List (Id × Blk) × List Id}, keepL H cs = some o → ∀ p ∈ o.2.1, p.2.frz = true
  | [], o, he => by simp [keepL] at he; subst he; intro p hp; cases hp
  | v :: r, o, he => by
    simp only [keepL] at he
    split at he
    · rename_i hv
      split at he
      · rename_i hr
        cases he
        intro p hp
        rcases List.mem_append.1 hp with hp | hp
        · exact keep1_frz hv p hp
        · exact keepL_frz hr p hp
      · cases he
    · cases he
theorem keepV_frz {v : V} {o : Out} (he : keepV H v = some o) : ∀ p ∈ o.ups, p.2.frz = true := by
  unfold keepV at he
  split at he
  · split at he
    · rename_i hl; cases he; exact keepL_frz hl
    · cases he
  · exact keep1_frz he
theorem view1_ups {v : V} {o : Out} (he : view1 H v = some o) : o.ups = [] := by
  unfold view1 at he
  split at he
  · split at he
    · split at he
      · cases he; rfl
      · cases he
    · cases he
  · cases he; rfl
  · cases he; rfl
  · cases he
theorem argIn_frz0 {md : Mode} (hn : md ≠ .lentN) {v : V} {o : Out} (he : argIn H md v = some o) : ∀ p ∈ o.ups, p.2.frz = true := by
  cases md with
  | keep => exact keepV_frz he
  | lentN => exact absurd rfl hn
  | byref => simp only [argIn, pureO, Option.some.injEq] at he; subst he; intro p hp; cases hp
  | view => simp only [argIn] at he; rw [view1_ups he]; intro p hp; cases hp
  | lent =>
    simp only [argIn] at he
    unfold lent1 at he
    split at he
    · split at he
      · split at he
        · split at he
          · cases he; intro p hp; cases hp
          · cases he
        · cases he
      · cases he
    · cases he; intro p hp; cases hp
    · cases he; intro p hp; cases hp
    · cases he; intro p hp; cases hp
    · exact keepV_frz he
theorem argIn_frz {md : Mode} {v : V} {o : Out} (he : argIn H md v = some o) : ∀ p ∈ o.ups, p.2.frz = true := by
  by_cases hn : md = .lentN
  · subst hn
    simp only [argIn] at he
    split at he
    · simp only [pureO, Option.some.injEq] at he; subst he; intro p hp; cases hp
    · simp only [pureO, Option.some.injEq] at he; subst he; intro p hp; cases hp
    · exact argIn_frz0 (md := .lent) (by simp) (by simpa [argIn] using he)
  · exact argIn_frz0 hn he
theorem argsIn_frz : ∀ {ms : List Mode} {vs : List V} {o : List V × List (Id × Blk) × List Id}, argsIn H ms vs = some o → ∀ p ∈ o.2.1, p.2.frz = true
  | ms, [], o, he => by
    have : o = ([], [], []) := by cases ms <;> simpa [argsIn] using he.symm
    subst this; intro p hp; cases hp
  | ms, v :: r, o, he => by
    simp only [argsIn] at he
    split at he
    · rename_i hv
      split at he
      · rename_i hr
        cases he
        intro p hp
        rcases List.mem_append.1 hp with hp | hp
        · exact argIn_frz hv p hp
        · exact argsIn_frz hr p hp
      · cases he
    · cases he
theorem sets_out (H : Heap) : ∀ (ups : List (Id × Blk)) (i : Id), i ∉ ups.map (·.1) → (H.sets ups) i = H i
  | [], _, _ => rfl
  | (j, b) :: r, i, h => by
    simp only [List.map_cons, List.mem_cons, not_or] at h
    simp only [Heap.sets]
    rw [sets_out _ r i h.2]; exact Heap.set_ne _ _ h.1
theorem sets_frz (H : Heap) : ∀ (ups : List (Id × Blk)), (∀ p ∈ ups, p.2.frz = true) → ∀ i ∈ ups.map (·.1), ∃ b, (H.sets ups) i = some b ∧ b.frz = true
  | [], _, i, hi => by cases hi
  | (j, b) :: r, h, i, hi => by
    simp only [Heap.sets]
    by_cases hr : i ∈ r.map (·.1)
    · exact sets_frz _ r (fun p hp => h p (by simp [hp])) i hr
    · simp only [List.map_cons, List.mem_cons] at hi
      rcases hi with rfl | hi
      · exact ⟨b, by rw [sets_out _ r _ hr]; exact Heap.set_same .., h (i, b) (by simp)⟩
      · exact absurd hi hr

theorem enterH_arg (H : Heap) (acc : List Id) (j : Nat) : enterH H acc (.arg j) = match acc[j]? with
    | some i => match H i with
      | some b => some { gen := 0, cells := if b.flat then b.cells else renL (intoRen H acc) b.cells, frz := b.frz, flat := b.flat }
      | none => none
    | none => none := by
  cases acc with
  | nil => simp [enterH]
  | cons a r => rfl
theorem enterH_other (H : Heap) (acc : List Id) (i : Id) (h : ∀ j, i ≠ .arg j) : enterH H acc i = none := by
  cases acc with
  | nil => rfl
  | cons a r => cases i with
    | arg j => exact absurd rfl (h j)
    | own => rfl
    | sub => rfl

theorem newName_inj {d : Nat} {acc : List Id} {i k : Id} (hi : i.alt = false) (hk : k.alt = false) (e : newName d acc i = newName d acc k) : i = k := by
  unfold newName at e
  split at e <;> split at e
  · simpa using e
  · simp only [Id.sub.injEq, true_and] at e
    subst e
    simp [Id.alt] at hk
  · simp only [Id.sub.injEq, true_and] at e
    subst e
    simp [Id.alt] at hi
  · simpa using e
theorem freshSubs_spec {d : Nat} {acc : List Id} : ∀ {l : List Id}, freshSubs d acc l = true → ∀ k ∈ l, (∀ j, k ≠ .arg j) → newName d acc k ∉ acc ∧ k.alt = false
  | [], _, k, hk, _ => by cases hk
  | x :: r, h, k, hk, hn => by
    cases x with
    | arg j =>
      rcases List.mem_cons.1 hk with rfl | hk
      · exact absurd rfl (hn j)
      · exact freshSubs_spec (by simpa [freshSubs] using h) k hk hn
    | own t =>
      simp only [freshSubs, Bool.and_eq_true] at h
      rcases List.mem_cons.1 hk with rfl | hk
      · simpa using h.1
      · exact freshSubs_spec h.2 k hk hn
    | sub t i =>
      simp only [freshSubs, Bool.and_eq_true] at h
      rcases List.mem_cons.1 hk with rfl | hk
      · simpa using h.1
      · exact freshSubs_spec h.2 k hk hn

theorem argIds_spec (H : Heap) : ∀ (n : Nat) (l : List (Id × Nat)), (∀ p ∈ l, p ∈ argIds n H l) ∧ ∀ j b, j < n → H (.arg j) = some b → (.arg j, b.gen) ∈ argIds n H l
  | 0, l => ⟨fun p hp => hp, fun j b hj => by omega⟩
  | n + 1, l => by
    simp only [argIds]
    obtain ⟨h1, h2⟩ := argIds_spec H n (match H (.arg n) with | some b => (.arg n, b.gen) :: l | none => l)
    refine ⟨fun p hp => h1 p ?_, fun j b hj hb => ?_⟩
    · split
      · exact List.mem_cons_of_mem _ hp
      · exact hp
    · rcases Nat.lt_or_ge j n with q | q
      · exact h2 j b q hb
      · have : j = n := by omega
        subst this
        refine h1 _ ?_
        rw [hb]
        exact List.mem_cons_self

/-- the blocks as they are known to whom they are handed -/
def mapIn (m : Map) (acc : List Id) : Map := fun
  | .arg j => match acc[j]? with
    | some i => (m i).map fun im => { im with gen := 0 }
    | none => none
  | _ => none

theorem into_ok {acc : List Id} (h : SR w S K m H) : RenOK (intoRen H acc) m (mapIn m acc) := by
  intro i g i' g' e im hm
  unfold intoRen at e
  split at e
  · rename_i j hp
    split at e
    · rename_i b hb
      cases e
      obtain ⟨_, hj⟩ := pos_spec hp
      obtain ⟨hb1, hb2⟩ := live_some hb
      obtain ⟨im0, hm0, ok⟩ := h.blk i b hb1
      rw [hm] at hm0; cases hm0
      have hg := ok.gen
      simp only [Nat.sub_zero] at hj
      exact ⟨{ im with gen := 0 }, by simp [mapIn, hj, hm], fun _ => ⟨rfl, rfl, rfl, rfl, rfl⟩, fun hlt => by omega⟩
    · cases e
  · cases e

/-- what stays while the call runs -/
def KIn (w : World) (m : Map) (H : Heap) (acc : List Id) : Nat → Prop := fun rb => rb < w.heap.size ∧ ¬ ∃ i ∈ acc, ∃ b im, H i = some b ∧ b.frz = false ∧ m i = some im ∧ im.rb = rb

theorem enter_sound {acc : List Id} (h : SR w S K m H) (hnd : acc.Nodup) : SR w S (KIn w m H acc) (mapIn m acc) (enterH H acc) := by
  have at_ : ∀ {i b}, enterH H acc i = some b → ∃ j i0 b0, i = .arg j ∧ acc[j]? = some i0 ∧ H i0 = some b0 ∧ b = { gen := 0, cells := if b0.flat then b0.cells else renL (intoRen H acc) b0.cells, frz := b0.frz, flat := b0.flat } := by
    intro i b hi
    cases i with
    | arg j =>
      rw [enterH_arg] at hi
      split at hi
      · rename_i i0 hj
        split at hi
        · rename_i b0 hb; cases hi; exact ⟨j, i0, b0, rfl, hj, hb, rfl⟩
        · cases hi
      · cases hi
    | own t => rw [enterH_other _ _ _ (by simp)] at hi; cases hi
    | sub t i => rw [enterH_other _ _ _ (by simp)] at hi; cases hi
  have map_ : ∀ {j i0 im}, acc[j]? = some i0 → mapIn m acc (.arg j) = some im → ∃ im0, m i0 = some im0 ∧ im = { im0 with gen := 0 } := by
    intro j i0 im hj hm
    simp only [mapIn, hj] at hm
    cases hm0 : m i0 with
    | none => rw [hm0] at hm; cases hm
    | some im0 => rw [hm0] at hm; cases hm; exact ⟨im0, rfl, rfl⟩
  refine ⟨h.sub, fun rb hk => hk.1, fun i b hi => ?_, fun i hi => ?_, fun i k bi im km hi hf hm hkm hne => ?_, fun i b im hi hf hm => ?_, h.scel⟩
  · obtain ⟨j, i0, b0, rfl, hj, hb0, rfl⟩ := at_ hi
    obtain ⟨im, hm, ok⟩ := h.blk i0 b0 hb0
    refine ⟨{ im with gen := 0 }, by simp [mapIn, hj, hm], ⟨rfl, ?_, ok.row, ok.fit, fun q c hq => ?_, ok.frz, ok.thaw⟩⟩
    · simp only
      split
      · exact ok.n
      · rw [renL_map, List.length_map]; exact ok.n
    · simp only at hq ⊢
      cases hfl : b0.flat with
      | true =>
        rw [hfl] at hq
        simp only [if_true] at hq
        obtain ⟨x, q1, q2, q3, q4⟩ := ok.cel q c hq
        exact ⟨x, q1, q2, .fr (q4 hfl), fun _ => q4 hfl⟩
      | false =>
        rw [hfl] at hq
        simp only [Bool.false_eq_true, if_false, renL_map, List.getElem?_map] at hq
        cases hc : b0.cells[q]? with
        | none => rw [hc] at hq; cases hq
        | some c0 =>
          rw [hc] at hq; cases hq
          obtain ⟨x, q1, q2, q3, q4⟩ := ok.cel q c0 hc
          exact ⟨x, q1, q2, q3.ren (into_ok h), fun e => by cases e⟩
  · cases i with
    | arg j =>
      rw [enterH_arg] at hi
      simp only [mapIn]
      split at hi
      · rename_i i0 hj
        split at hi
        · cases hi
        · rename_i hb; rw [h.non i0 hb]; rfl
      · rfl
    | own t => rfl
    | sub t i => rfl
  · obtain ⟨j, i0, b0, rfl, hj, hb0, rfl⟩ := at_ hi
    cases k with
    | arg j2 =>
      cases hj2 : acc[j2]? with
      | none => simp [mapIn, hj2] at hkm
      | some k0 =>
        obtain ⟨im0, hm0, rfl⟩ := map_ hj hm
        obtain ⟨km0, hkm0, rfl⟩ := map_ hj2 hkm
        refine h.inj i0 k0 b0 im0 km0 hb0 hf hm0 hkm0 (fun e => hne ?_)
        subst e
        obtain ⟨l1, e1⟩ := List.getElem?_eq_some_iff.1 hj
        obtain ⟨l2, e2⟩ := List.getElem?_eq_some_iff.1 hj2
        rw [(List.getElem_inj (h₀ := l1) (h₁ := l2) hnd).1 (e1.trans e2.symm)]
    | own t => simp [mapIn] at hkm
    | sub t i => simp [mapIn] at hkm
  · obtain ⟨j, i0, b0, rfl, hj, hb0, rfl⟩ := at_ hi
    obtain ⟨im0, hm0, rfl⟩ := map_ hj hm
    exact fun hk => hk.2 ⟨i0, List.mem_of_getElem? hj, b0, im0, hb0, hf, hm0, rfl⟩
end
end Go.Proofs.Ytieapebabncliaa.Iv

namespace Go.Proofs.Ytieapebabncliaa.Iv
open Go
set_option linter.unusedVariables false
set_option linter.unusedSimpArgs false
section
variable {P : Program} {K B : Nat → Prop} {w : World} {S : Nat → Prop} {m : Map} {H : Heap}

theorem nodup_names {d : Nat} {acc acc' : List Id} (hnd : acc.Nodup) (hnd' : acc'.Nodup) (hfs : freshSubs d acc acc' = true) {i k p : Id} {g g' : Nat} (hi : i ∈ acc') (hk : k ∈ acc')
    (e1 : backName H d acc i = some (p, g)) (e2 : backName H d acc k = some (p, g')) : i = k := by
  have argc : ∀ {j q g}, backName H d acc (.arg j) = some (q, g) → acc[j]? = some q := by
    intro j q g e
    simp only [backName] at e
    split at e
    · rename_i i0 hj
      split at e
      · cases e; exact hj
      · cases e
    · cases e
  have oth : ∀ {k q g}, (∀ j, k ≠ .arg j) → backName H d acc k = some (q, g) → q = newName d acc k := by
    intro k q g hn e
    cases k with
    | arg j => exact absurd rfl (hn j)
    | own t => simp [backName] at e; exact e.1.symm
    | sub t i => simp [backName] at e; exact e.1.symm
  by_cases h1 : ∃ j, i = .arg j
  · obtain ⟨j, rfl⟩ := h1
    have a1 := argc e1
    by_cases h2 : ∃ j, k = .arg j
    · obtain ⟨j2, rfl⟩ := h2
      have a2 := argc e2
      obtain ⟨l1, q1⟩ := List.getElem?_eq_some_iff.1 a1
      obtain ⟨l2, q2⟩ := List.getElem?_eq_some_iff.1 a2
      rw [(List.getElem_inj (h₀ := l1) (h₁ := l2) hnd).1 (q1.trans q2.symm)]
    · have a2 := oth (fun j e => h2 ⟨j, e⟩) e2
      subst a2
      exact absurd (List.mem_of_getElem? a1) (freshSubs_spec hfs k hk (fun j e => h2 ⟨j, e⟩)).1
  · have a1 := oth (fun j e => h1 ⟨j, e⟩) e1
    subst a1
    by_cases h2 : ∃ j, k = .arg j
    · obtain ⟨j2, rfl⟩ := h2
      exact absurd (List.mem_of_getElem? (argc e2)) (freshSubs_spec hfs i hi (fun j e => h1 ⟨j, e⟩)).1
    · have a2 := oth (fun j e => h2 ⟨j, e⟩) e2
      exact newName_inj (freshSubs_spec hfs i hi (fun j e => h1 ⟨j, e⟩)).2 (freshSubs_spec hfs k hk (fun j e => h2 ⟨j, e⟩)).2 a2

open Classical in
/-- the blocks as the caller knows them behind the call -/
noncomputable def mapOut (m m2 : Map) (nm : Id → Option (Id × Nat)) (acc' : List Id) : Map := fun i' =>
  if h : ∃ p : Id × Nat × Im, p.1 ∈ acc' ∧ nm p.1 = some (i', p.2.1) ∧ m2 p.1 = some p.2.2 then some { h.choose.2.2 with gen := h.choose.2.1 + h.choose.2.2.gen } else m i'
theorem mapOut_at {m m2 : Map} {nm : Id → Option (Id × Nat)} {acc' : List Id} (inj : ∀ {i k p g g'}, i ∈ acc' → k ∈ acc' → nm i = some (p, g) → nm k = some (p, g') → i = k)
    {i i' : Id} {g : Nat} {im : Im} (hi : i ∈ acc') (hn : nm i = some (i', g)) (hm : m2 i = some im) : mapOut m m2 nm acc' i' = some { im with gen := g + im.gen } := by
  have h : ∃ p : Id × Nat × Im, p.1 ∈ acc' ∧ nm p.1 = some (i', p.2.1) ∧ m2 p.1 = some p.2.2 := ⟨(i, g, im), hi, hn, hm⟩
  unfold mapOut
  rw [dif_pos h]
  obtain ⟨h1, h2, h3⟩ := h.choose_spec
  have e := inj h1 hi h2 hn
  rw [e] at h2 h3
  rw [hn] at h2; rw [hm] at h3
  simp only [Option.some.injEq, Prod.mk.injEq, true_and] at h2 h3
  rw [← h2, ← h3]
theorem mapOut_not {m m2 : Map} {nm : Id → Option (Id × Nat)} {acc' : List Id} {i' : Id} (hn : ∀ i ∈ acc', ∀ g, nm i ≠ some (i', g)) : mapOut m m2 nm acc' i' = m i' := by
  unfold mapOut
  rw [dif_neg (fun ⟨p, h1, h2, _⟩ => hn _ h1 _ h2)]

/-- THE WAY BACK: what the callee leaves, known by the caller's names. -/
theorem back_sound {acc acc' : List Id} (h : SR w S K m H) (hnd : acc.Nodup) (hex : ∀ i ∈ acc, ∃ b, H i = some b) {w' : World} {S' : Nat → Prop} {m2 : Map} {H2 : Heap} {d : Nat}
    (st : Step (KIn w m H acc) w S (mapIn m acc) w' S' m2) (sr : SR w' S' (KIn w m H acc) m2 H2) (hnd' : acc'.Nodup) (hall : ∀ j b, j < acc.length → H2 (.arg j) = some b → .arg j ∈ acc')
    (hfs : freshSubs d acc acc' = true) {ups : List (Id × Blk)} (hb : backUps H H2 d acc acc' acc' = some ups) :
    RenOK (backRen H d acc acc') m2 (mapOut m m2 (backName H d acc) acc') ∧ Step K w S m w' S' (mapOut m m2 (backName H d acc) acc') ∧
      SR w' S' K (mapOut m m2 (backName H d acc) acc') (H.sets ups) := by
  obtain ⟨u1, u2, u3⟩ := backUps_spec hb
  have inj : ∀ {i k p g g'}, i ∈ acc' → k ∈ acc' → backName H d acc i = some (p, g) → backName H d acc k = some (p, g') → i = k := fun hi hk e1 e2 => nodup_names hnd hnd' hfs hi hk e1 e2
  -- the names that are written
  have hupsnd : (ups.map (·.1)).Nodup := by
    have h1 : (acc'.map (fun i => (backName H d acc i).map (·.1))).Nodup := by
      unfold List.Nodup
      rw [List.pairwise_map]
      refine List.Pairwise.imp_of_mem (fun {a b} ha hb' hne e => hne ?_) hnd'
      obtain ⟨p, g, _, e1, _⟩ := u2 a ha
      obtain ⟨p', g', _, e2, _⟩ := u2 b hb'
      rw [e1, e2] at e
      simp only [Option.map_some, Option.some.injEq] at e
      subst e
      exact inj ha hb' e1 e2
    rw [← u3] at h1
    unfold List.Nodup at h1 ⊢
    rw [List.pairwise_map] at h1 ⊢
    exact h1.imp (fun hne e => hne (by rw [e]))
  obtain ⟨g1, g2⟩ := sets_get H ups hupsnd
  -- a name that is written, and one that is not
  have named : ∀ {i i' g b}, i ∈ acc' → backName H d acc i = some (i', g) → H2 i = some b →
      (H.sets ups) i' = some { gen := g + b.gen, cells := if b.flat then b.cells else renL (backRen H d acc acc') b.cells, frz := b.frz, flat := b.flat } ∧ (b.flat || b.cells.all V.kept) = true := by
    intro i i' g b hi hn hb2
    obtain ⟨p, g', b', e1, e2, e3⟩ := u2 i hi
    rw [hn] at e1; cases e1
    obtain ⟨q, hq, hq1⟩ := List.mem_map.1 e3
    obtain ⟨k, hk, bk, gk, f1, f2, f3, f4⟩ := u1 q hq
    rw [hq1] at f2
    have := inj hk hi f2 hn
    subst this
    rw [hn] at f2; cases f2
    rw [hb2] at f1; cases f1
    refine ⟨?_, f3⟩
    rw [← f4, ← hq1]
    exact g1 q hq
  have outN : ∀ {i'}, i' ∉ ups.map (·.1) → ∀ i ∈ acc', ∀ g, backName H d acc i ≠ some (i', g) := by
    intro i' hn i hi g e
    obtain ⟨p, g', b', e1, e2, e3⟩ := u2 i hi
    rw [e] at e1; cases e1
    exact hn e3
  have inN : ∀ {i'}, i' ∈ ups.map (·.1) → ∃ i ∈ acc', ∃ g b im, backName H d acc i = some (i', g) ∧ H2 i = some b ∧ m2 i = some im ∧ BlkOK w' S' m2 b im := by
    intro i' hi'
    obtain ⟨q, hq, hq1⟩ := List.mem_map.1 hi'
    obtain ⟨k, hk, bk, gk, f1, f2, f3, f4⟩ := u1 q hq
    rw [hq1] at f2
    obtain ⟨im, hm, ok⟩ := sr.blk k bk f1
    exact ⟨k, hk, gk, bk, im, f2, f1, hm, ok⟩
  -- what is handed over is named
  have argNamed : ∀ i ∈ acc, i ∈ ups.map (·.1) := by
    intro i hi
    obtain ⟨j, hj⟩ := List.getElem?_of_mem hi
    have hjl : j < acc.length := (List.getElem?_eq_some_iff.1 hj).1
    obtain ⟨b, hb⟩ := hex i hi
    obtain ⟨im, hm, ok⟩ := h.blk i b hb
    have hm0 : mapIn m acc (.arg j) = some { im with gen := 0 } := by simp [mapIn, hj, hm]
    obtain ⟨im2, hm2, _, _⟩ := st.ext _ _ hm0
    obtain ⟨b2, hb2, _⟩ := sr.of_map hm2
    have hin := hall j b2 hjl hb2
    obtain ⟨p, g', b', e1, e2, e3⟩ := u2 _ hin
    simp only [backName, hj, hb, Option.some.injEq, Prod.mk.injEq] at e1
    obtain ⟨rfl, _⟩ := e1
    exact e3
  have kOut : ∀ {i' im}, i' ∉ ups.map (·.1) → m i' = some im → KIn w m H acc im.rb := by
    intro i' im hn hm
    obtain ⟨b, hb, ok⟩ := h.of_map hm
    refine ⟨ok.lt, fun ⟨k, hk, bk, km, e1, e2, e3, e4⟩ => ?_⟩
    exact h.inj k i' bk km im e1 e2 e3 hm (fun e => hn (e ▸ argNamed k hk)) e4
  have kK : ∀ rb, K rb → KIn w m H acc rb := fun rb hk => ⟨h.kin rb hk, fun ⟨k, hk', bk, km, e1, e2, e3, e4⟩ => h.own k bk km e1 e2 e3 (e4 ▸ hk)⟩
  have hren : RenOK (backRen H d acc acc') m2 (mapOut m m2 (backName H d acc) acc') := by
    intro i g i' g' e im hm
    unfold backRen at e
    split at e
    · rename_i hi
      split at e
      · rename_i p b hp
        cases e
        exact ⟨_, mapOut_at inj hi hp hm, fun e => ⟨by simp only; omega, rfl, rfl, rfl, rfl⟩, fun e => by simp only; omega⟩
      · cases e
    · cases e
  have stF : Step K w S m w' S' (mapOut m m2 (backName H d acc) acc') := by
    refine ⟨st.os, st.tape, st.output, st.size, st.sub, fun rb hs => (st.fresh rb hs).imp id (fun hn hk => hn (kK rb hk)), fun rb hk => st.pres rb (hk.imp id (kK rb)), fun i' im hm => ?_, st.oth⟩
    by_cases hn : i' ∈ ups.map (·.1)
    · obtain ⟨i, hi, g, b2, im2, e1, e2, e3, ok2⟩ := inN hn
      refine ⟨_, mapOut_at inj hi e1 e3, ?_, fun e => ?_⟩
      all_goals
        cases i with
        | arg j =>
          simp only [backName] at e1
          split at e1
          · rename_i i0 hj
            split at e1
            · rename_i b0 hb0
              cases e1
              obtain ⟨im0, hm0, ok0⟩ := h.blk _ _ hb0
              rw [hm] at hm0; cases hm0
              have hg := ok0.gen
              have hmi : mapIn m acc (.arg j) = some { im with gen := 0 } := by simp [mapIn, hj, hm]
              obtain ⟨im2', hm2', h1, h2⟩ := st.ext _ _ hmi
              rw [e3] at hm2'; cases hm2'
              first
                | (simp only; omega)
                | (simp only at e
                   have h0 : im2.gen = 0 := by omega
                   have := h2 h0
                   rw [this]
                   cases im
                   simp only at hg ⊢
                   simp [hg])
            · cases e1
          · cases e1
        | own t =>
          simp only [backName, Option.some.injEq, Prod.mk.injEq] at e1
          obtain ⟨rfl, rfl⟩ := e1
          have := nextGen_lt h hm
          first | (simp only; omega) | (simp only at e; omega)
        | sub t i =>
          simp only [backName, Option.some.injEq, Prod.mk.injEq] at e1
          obtain ⟨rfl, rfl⟩ := e1
          have := nextGen_lt h hm
          first | (simp only; omega) | (simp only at e; omega)
    · exact ⟨im, by rw [mapOut_not (outN hn)]; exact hm, Nat.le_refl _, fun _ => rfl⟩
  refine ⟨hren, stF, ⟨sr.sub, fun rb hk => Nat.lt_of_lt_of_le (h.kin rb hk) st.size, fun i' b' hi' => ?_, fun i' hi' => ?_, fun i' k' bi im km hi' hf hm hkm hne => ?_, fun i' b' im hi' hf hm => ?_, sr.scel⟩⟩
  · by_cases hn : i' ∈ ups.map (·.1)
    · obtain ⟨i, hi, g, b2, im2, e1, e2, e3, ok2⟩ := inN hn
      obtain ⟨q1, q2⟩ := named hi e1 e2
      rw [q1] at hi'; cases hi'
      refine ⟨_, mapOut_at inj hi e1 e3, ⟨by simp only; rw [ok2.gen], ?_, ok2.row, ok2.fit, fun q c hq => ?_, ok2.frz, ok2.thaw⟩⟩
      · simp only
        split
        · exact ok2.n
        · rw [renL_map, List.length_map]; exact ok2.n
      · simp only at hq ⊢
        cases hfl : b2.flat with
        | true =>
          rw [hfl] at hq
          simp only [if_true] at hq
          obtain ⟨x, r1, r2, r3, r4⟩ := ok2.cel q c hq
          exact ⟨x, r1, r2, .fr (r4 hfl), fun _ => r4 hfl⟩
        | false =>
          rw [hfl] at hq
          simp only [Bool.false_eq_true, if_false, renL_map, List.getElem?_map] at hq
          cases hc : b2.cells[q]? with
          | none => rw [hc] at hq; cases hq
          | some c0 =>
            rw [hc] at hq; cases hq
            obtain ⟨x, r1, r2, r3, r4⟩ := ok2.cel q c0 hc
            exact ⟨x, r1, r2, r3.ren hren, fun e => by cases e⟩
    · rw [g2 i' hn] at hi'
      obtain ⟨im, hm, ok⟩ := h.blk i' b' hi'
      refine ⟨im, by rw [mapOut_not (outN hn)]; exact hm, ok.mono stF (st.pres _ (.inr (kOut hn hm))) (fun hf hs => ?_)⟩
      exact (st.fresh _ hs).elim (ok.thaw hf) (fun hk => hk (kOut hn hm))
  · by_cases hn : i' ∈ ups.map (·.1)
    · obtain ⟨i, hi, g, b2, im2, e1, e2, e3, ok2⟩ := inN hn
      rw [(named hi e1 e2).1] at hi'; cases hi'
    · rw [g2 i' hn] at hi'
      rw [mapOut_not (outN hn)]; exact h.non i' hi'
  · by_cases hn : i' ∈ ups.map (·.1)
    · obtain ⟨i, hi, g, b2, im2, e1, e2, e3, ok2⟩ := inN hn
      rw [(named hi e1 e2).1] at hi'; cases hi'
      rw [mapOut_at inj hi e1 e3] at hm; cases hm
      simp only at hf ⊢
      by_cases hk : k' ∈ ups.map (·.1)
      · obtain ⟨k, hk1, gk, bk, imk, f1, f2, f3, okk⟩ := inN hk
        rw [mapOut_at inj hk1 f1 f3] at hkm; cases hkm
        exact sr.inj i k b2 im2 imk e2 hf e3 f3 (fun e => hne (by subst e; rw [e1] at f1; cases f1; rfl))
      · rw [mapOut_not (outN hk)] at hkm
        exact fun e => sr.own i b2 im2 e2 hf e3 (e ▸ kOut hk hkm)
    · rw [g2 i' hn] at hi'
      rw [mapOut_not (outN hn)] at hm
      by_cases hk : k' ∈ ups.map (·.1)
      · obtain ⟨k, hk1, gk, bk, imk, f1, f2, f3, okk⟩ := inN hk
        rw [mapOut_at inj hk1 f1 f3] at hkm; cases hkm
        simp only
        intro e
        cases hfk : bk.frz with
        | false => exact sr.own k bk imk f2 hfk f3 (e ▸ kOut hn hm)
        | true =>
          have hs := okk.frz hfk
          rw [← e] at hs
          obtain ⟨im0, hm0, ok0⟩ := h.blk i' bi hi'
          rw [hm] at hm0; cases hm0
          exact (st.fresh _ hs).elim (ok0.thaw hf) (fun hk => hk (kOut hn hm))
      · rw [mapOut_not (outN hk)] at hkm
        exact h.inj i' k' bi im km hi' hf hm hkm hne
  · by_cases hn : i' ∈ ups.map (·.1)
    · obtain ⟨i, hi, g, b2, im2, e1, e2, e3, ok2⟩ := inN hn
      rw [(named hi e1 e2).1] at hi'; cases hi'
      rw [mapOut_at inj hi e1 e3] at hm; cases hm
      exact fun hk => sr.own i b2 im2 e2 hf e3 (kK _ hk)
    · rw [g2 i' hn] at hi'
      rw [mapOut_not (outN hn)] at hm
      exact h.own i' b' im hi' hf hm
end
end Go.Proofs.Ytieapebabncliaa.Iv

namespace Go.Proofs.Ytieapebabncliaa.Iv
open Go
set_option linter.unusedVariables false
set_option linter.unusedSimpArgs false
section
variable {P : Program} {K B : Nat → Prop} {w : World} {S : Nat → Prop} {m : Map} {H : Heap}

theorem renIf_eq {acc : List Id} (f : Id → Nat → Option (Id × Nat)) {as : List V} (h : acc = [] → refsL as = []) : renIf acc f as = as.map (ren f) := by
  cases acc with
  | nil => simp only [renIf]; rw [← renL_map, renL_norefs _ _ (h rfl)]
  | cons a r => simp only [renIf]; exact renL_map f as
theorem renIfV_eq {acc : List Id} (f : Id → Nat → Option (Id × Nat)) {r : V} (h : acc = [] → refs r = []) : renIfV acc f r = ren f r := by
  cases acc with
  | nil => simp only [renIfV]; rw [ren_norefs _ _ (h rfl)]
  | cons a q => rfl

theorem call_sound {call : Nat → List V → Heap → Option (V × Heap)} {pol : Nat → Pol} (hrun : RunOK P call) (h : SR w S K m H) (hB : ∀ rb, B rb → K rb) {d f : Nat} {args : List V} {out : Out}
    (he : evCall call pol H d f args = some out) {vs : List Value} (hx : All2 (VR w S B m) args vs) :
    Enters P f ∧ Calls P f vs.toArray w fun e w' => ∃ x S' m', e = .returned x ∧ Step K w S m w' S' m' ∧ SR w' S' K m' (H.sets out.ups) ∧ VR w' S' B m' out.v x := by
  unfold evCall at he
  split at he
  · rename_i as fz rd hargs
    obtain ⟨S1, st1, sr1, hF1, hv1⟩ := argsIn_sound (FrzOf.refl H) h hargs hx
    have hfz := argsIn_frz hargs
    simp only at sr1 hF1 hv1 hfz
    simp only at he
    split at he
    · rename_i acc hcol
      obtain ⟨_, c2, c3, c4⟩ := collect_spec _ _ _ _ hcol
      have hnd := c2 List.nodup_nil
      have hex := c3 (fun i hi => by cases hi)
      split at he
      · cases he
      · rename_i hheld
        -- what is lent is not handed over
        have hnot : ∀ i ∈ acc, i ∈ rd → ∃ b, (H.sets fz) i = some b ∧ b.frz = true := by
          intro i hi hr
          refine sets_frz H fz hfz i ?_
          refine Classical.byContradiction fun hn => hheld ?_
          rw [List.any_eq_true]
          refine ⟨i, hi, ?_⟩
          simp only [Bool.and_eq_true, List.contains_iff_mem, hr, true_and, Bool.not_eq_true', List.any_eq_false, beq_iff_eq]
          exact fun x hx e => hn (e ▸ List.mem_map_of_mem hx)
        have hB0 : ∀ rb, Lend B m rd rb → KIn w m (H.sets fz) acc rb := by
          rintro rb (hb | ⟨i, hi, im, hm, rfl⟩)
          · exact ⟨sr1.kin rb (hB rb hb), fun ⟨k, hk, bk, km, e1, e2, e3, e4⟩ => sr1.own k bk km e1 e2 e3 (e4 ▸ hB rb hb)⟩
          · obtain ⟨b, hb, ok⟩ := sr1.of_map hm
            refine ⟨ok.lt, fun ⟨k, hk, bk, km, e1, e2, e3, e4⟩ => ?_⟩
            by_cases hki : k = i
            · subst hki
              obtain ⟨b', e5, e6⟩ := hnot k hk hi
              rw [e1] at e5; cases e5
              rw [e2] at e6; cases e6
            · exact sr1.inj k i bk km im e1 e2 e3 hm hki e4
        have sr0 := enter_sound sr1 hnd
        have hargs' : All2 (VR w S1 (Lend B m rd) (mapIn m acc)) (renIf acc (intoRen (H.sets fz) acc) as) vs := by
          rw [renIf_eq _ (fun e => ?_)]
          · exact hv1.map _ (fun c x r => r.ren (into_ok sr1))
          · subst e
            cases hr : refsL as with
            | nil => rfl
            | cons p r => have := c4 p (by rw [hr]; simp); cases this
        split at he
        · rename_i r H' hcall
          have hen := hrun.good _ _ _ _ hcall
          have hc := hrun.ok _ _ _ _ _ hcall w S1 _ _ _ vs sr0 hB0 hargs'
          refine ⟨hen, hc.mono ?_⟩
          rintro e w' ⟨x, S2, m2, rfl, st2, sr2, hv2⟩
          split at he
          · rename_i r' us hret
            obtain ⟨S3, st3, sr3, hv3⟩ := retZ_sound sr2 hret hv2
            have st23 := st2.trans st3
            split at he
            · rename_i acc' hcol2
              obtain ⟨_, d2, d3, d4⟩ := collect_spec _ _ _ _ hcol2
              have hnd' := d2 List.nodup_nil
              obtain ⟨a1, a2⟩ := argIds_spec (H'.sets us) acc.length (refs r')
              split at he
              rotate_left
              · cases he
              rename_i d rs hsite
              split at he
              · rename_i ups hups
                split at he
                · rename_i hfin
                  simp only [Bool.and_eq_true] at hfin
                  cases he
                  have hv3' : ∃ B0 : Nat → Prop, VR w' S3 B0 m2 r' x ∧ ((∀ rb, B0 rb → False) ∨ B0 = B) := by
                    rcases Bool.or_eq_true _ _ ▸ hfin.1 with q | q
                    · exact ⟨no, outKept_no q hv3, .inl (fun _ f => f)⟩
                    · have : rd = [] := by simpa using q
                      subst this
                      have e : Lend B m [] = B := by funext rb; simp [Lend]
                      rw [e] at hv3
                      exact ⟨B, hv3, .inr rfl⟩
                  obtain ⟨hren, stF, srF⟩ := back_sound sr1 hnd hex st23 sr3 hnd' (fun j b hj hb => d4 _ (a2 j b hj hb)) hfin.2 hups
                  refine ⟨x, S3, _, rfl, st1.trans stF, ?_, ?_⟩
                  · simp only [sets_app]; exact srF
                  · simp only
                    rw [renIfV_eq _ (fun e => ?_)]
                    · obtain ⟨B0, q1, q2⟩ := hv3'
                      rcases q2 with q2 | q2
                      · have : B0 = no := by funext rb; exact propext ⟨fun h => q2 rb h, fun h => h.elim⟩
                        subst this
                        exact (q1.ren hren).lend
                      · subst q2; exact q1.ren hren
                    · subst e
                      cases hr : refs r' with
                      | nil => rfl
                      | cons p q => have := d4 p (a1 p (by rw [hr]; simp)); cases this
                · cases he
              · cases he
            · cases he
          · cases he
        · cases he
    · cases he
  · cases he

/-! ### one operation -/
/-- The post of one operation. -/
def Goes (P : Program) (K B : Nat → Prop) (w : World) (S : Nat → Prop) (m : Map) (H : Heap) (out : Out) (o : Oper) (a : Act) : Prop :=
  ∀ (next : Act → World → Prop) (Q : Exit → Act → World → Prop), (∀ x w' S' m', Step K w S m w' S' m' → SR w' S' K m' (H.sets out.ups) → VR w' S' B m' out.v x → next (a.put o.dst x) w') → o.wp P a w next Q

theorem Goes.of {out : Out} {o : Oper} {a : Act} {s : Sem Value} (hs : Sound P K B w S m H out s) (ho : execOp a.eval o = (do pure (.value (← s)))) : Goes P K B w S m H out o a := by
  intro next Q hn
  obtain ⟨x, w', S', m', hr, st, sr, hv⟩ := hs
  unfold Oper.wp
  rw [ho]
  simp only [Sem.run_bind, hr, Result.andThen_ok, Sem.run_pure, Oper.upon]
  exact hn x w' S' m' st sr hv

theorem parts_R {ρ : Operand → V} {ρ' : Operand → Value} (hρ : ∀ x, VR w S B m (ρ x) (ρ' x)) (ps : Array (Nat × Operand)) :
    PartsR (VR w S B m) (ps.toList.map fun p => (p.1, ρ p.2)) (ps.map fun (i, x) => (i, ρ' x)).toList := by
  refine ⟨by simp, fun j p q h1 h2 => ?_⟩
  simp only [Array.toList_map, List.getElem?_map] at h1 h2
  cases e : ps.toList[j]? with
  | none => rw [e] at h1; cases h1
  | some p0 =>
    rw [e] at h1 h2
    simp only [Option.map_some, Option.some.injEq] at h1 h2
    subst h1 h2
    exact ⟨rfl, hρ _⟩
theorem args_R {ρ : Operand → V} {ρ' : Operand → Value} (hρ : ∀ x, VR w S B m (ρ x) (ρ' x)) : ∀ (l : List Operand), All2 (VR w S B m) (l.map ρ) (l.map ρ')
  | [] => trivial
  | x :: r => ⟨hρ x, args_R hρ r⟩
theorem opt_R {ρ : Operand → V} {ρ' : Operand → Value} (hρ : ∀ x, VR w S B m (ρ x) (ρ' x)) (o : Option Operand) : OptR (VR w S B m) (o.map ρ) (o.map ρ') := by
  cases o with
  | none => trivial
  | some x => exact hρ x
end
end Go.Proofs.Ytieapebabncliaa.Iv

namespace Go.Proofs.Ytieapebabncliaa.Iv
open Go
set_option linter.unusedVariables false
set_option linter.unusedSimpArgs false
section
variable {P : Program} {K B : Nat → Prop} {w : World} {S : Nat → Prop} {m : Map} {H : Heap}

theorem Goes.val {v : V} {rd : List Id} {o : Oper} {a : Act} (h : SR w S K m H) {x : Value} (hx : VR w S B m v x) (hr : (execOp a.eval o).run P w = .ok (.value x) w) : Goes P K B w S m H ⟨v, [], rd⟩ o a := by
  intro next Q hn
  unfold Oper.wp
  rw [hr]
  exact hn x w S m (Step.refl ..) h hx

theorem Goes.lift {ov : Option V} {out : Out} {o : Oper} {a : Act} (h : SR w S K m H) (he : liftO ov = some out) {s : Sem Value} (hs : ∀ v, ov = some v → SoundV P B w S m v s) (ho : execOp a.eval o = (do pure (.value (← s)))) : Goes P K B w S m H out o a :=
  Goes.of (SoundV.lift h he hs) ho

theorem Goes.of' {out : Out} {o : Oper} {a : Act} {s : Sem Value} (hs : Sound P K B w S m H out s) (ho : (execOp a.eval o).run P w = ((do pure (.value (← s))) : Sem Next).run P w) : Goes P K B w S m H out o a := by
  intro next Q hn
  obtain ⟨x, w', S', m', hr, st, sr, hv⟩ := hs
  unfold Oper.wp
  rw [ho]
  simp only [Sem.run_bind, hr, Result.andThen_ok, Sem.run_pure, Oper.upon]
  exact hn x w' S' m' st sr hv
theorem Goes.lift' {ov : Option V} {out : Out} {o : Oper} {a : Act} (h : SR w S K m H) (he : liftO ov = some out) {s : Sem Value} (hs : ∀ v, ov = some v → SoundV P B w S m v s) (ho : (execOp a.eval o).run P w = ((do pure (.value (← s))) : Sem Next).run P w) : Goes P K B w S m H out o a :=
  Goes.of' (SoundV.lift h he hs) ho

theorem builtin_goes (h : SR w S K m H) {ρ : Operand → V} {a : Act} (hρ : ∀ x, VR w S B m (ρ x) (a.eval x)) {d : Nat} {b : Builtin} {ts : Array TypeId} {args : Array Operand} {out : Out} {o : Oper}
    (ho : o.op = .call { callee := .builtin b, args := args, argTypes := ts }) (he : evBuiltin P H d b ts.toList (args.toList.map ρ) = some out) : Goes P K B w S m H out o a := by
  have hres : ∀ {s : Sem Value}, (∀ cs, builtin b ts o.type cs (args.map a.eval) = (do pure (.value (← s)))) → (execOp a.eval o).run P w = ((do pure (.value (← s))) : Sem Next).run P w := by
    intro s hs
    unfold execOp
    rw [ho]
    simp only [resolve, Sem.run_bind, Sem.run_pure, Result.andThen_ok, invoke]
    rw [hs]
    simp only [Sem.run_bind, Sem.run_pure]
  obtain ⟨args⟩ := args
  obtain ⟨ts⟩ := ts
  simp only at he
  unfold evBuiltin at he
  split at he
  · rename_i s x r p q hargs
    match args, hargs with
    | [o1, o2], hargs =>
      simp only [List.map_cons, List.map_nil, List.cons.injEq, and_true] at hargs
      obtain ⟨rfl, rfl⟩ := hargs
      exact Goes.of' (append_sound (P := P) (ty := o.type) (ts := (s :: x :: r).toArray) h d (by simp) (by simp) he (hρ o1) (hρ o2)) (hres (fun cs => by simp [builtin]))
  · rename_i s r p hargs
    match args, hargs with
    | [o1], hargs =>
      simp only [List.map_cons, List.map_nil, List.cons.injEq, and_true] at hargs
      subst hargs
      exact Goes.of' (len_sound (P := P) (ty := o.type) h he (hρ o1) (s :: r).toArray (by simp)) (hres (fun cs => by simp [builtin]))
  · rename_i s r p hargs
    match args, hargs with
    | [o1], hargs =>
      simp only [List.map_cons, List.map_nil, List.cons.injEq, and_true] at hargs
      subst hargs
      exact Goes.of' (cap_sound (P := P) (ty := o.type) h he (hρ o1) (s :: r).toArray (by simp)) (hres (fun cs => by simp [builtin]))
  · rename_i s r p q hargs
    match args, hargs with
    | [o1, o2], hargs =>
      simp only [List.map_cons, List.map_nil, List.cons.injEq, and_true] at hargs
      obtain ⟨rfl, rfl⟩ := hargs
      exact Goes.of' (copy_sound (P := P) (ty := o.type) (ts := (s :: r).toArray) h (by simp) he (hρ o1) (hρ o2)) (hres (fun cs => by simp [builtin]))
  · rename_i s r p hargs
    match args, hargs with
    | [o1], hargs =>
      simp only [List.map_cons, List.map_nil, List.cons.injEq, and_true] at hargs
      subst hargs
      exact Goes.of' (clear_sound (P := P) (ty := o.type) (ts := (s :: r).toArray) h (by simp) he (hρ o1)) (hres (fun cs => by simp [builtin]))
  · rename_i p r hargs
    match args, hargs with
    | o1 :: os, hargs =>
      simp only [List.map_cons, List.cons.injEq] at hargs
      obtain ⟨rfl, rfl⟩ := hargs
      exact Goes.lift' h he (fun v hv => foldO_sound (P := P) (fun e r1 r2 => max2_sound e r1 r2) hv (hρ o1) (args_R hρ os)) (hres (fun cs => by simp [builtin, Builtin.max_]))
  · rename_i p r hargs
    match args, hargs with
    | o1 :: os, hargs =>
      simp only [List.map_cons, List.cons.injEq] at hargs
      obtain ⟨rfl, rfl⟩ := hargs
      exact Goes.lift' h he (fun v hv => foldO_sound (P := P) (fun e r1 r2 => min2_sound e r1 r2) hv (hρ o1) (args_R hρ os)) (hres (fun cs => by simp [builtin, Builtin.min_]))
  · cases he

theorem evOp_sound {call : Nat → List V → Heap → Option (V × Heap)} {pol : Nat → Pol} (hrun : RunOK P call) (h : SR w S K m H) (hB : ∀ rb, B rb → K rb) {ρ : Operand → V} {a : Act} (hρ : ∀ x, VR w S B m (ρ x) (a.eval x))
    {d : Nat} {op : Op} {out : Out} (he : evOp P call pol H ρ d op = some out) {o : Oper} (ho : o.op = op) : Goes P K B w S m H out o a := by
  subst ho
  unfold evOp at he
  split at he
  · rename_i x e; cases he
    exact Goes.val h (hρ x) (by unfold execOp; rw [e]; rfl)
  · rename_i x e; cases he
    exact Goes.val h (hρ x) (by unfold execOp; rw [e]; rfl)
  · rename_i c p q e
    split at he
    · rename_i t ht
      cases he
      have := hρ c
      rw [ht] at this
      have := this.bool_inv
      refine Goes.val (x := if t then a.eval p else a.eval q) h ?_ (by unfold execOp; rw [e]; cases t <;> simp [this, asBool])
      cases t
      · exact hρ q
      · exact hρ p
    · cases he
  · rename_i el e
    split at he
    · rename_i z hz
      split at he
      · exact Goes.of (allocA_sound (P := P) h d hz he) (by unfold execOp; rw [e])
      · exact Goes.of (alloc_sound (P := P) h d hz he) (by unfold execOp; rw [e])
    · cases he
  · rename_i el x e
    split at he
    · exact Goes.of (boxA_sound (P := P) h d he (hρ x) el) (by unfold execOp; rw [e])
    · exact Goes.of (boxO_sound (P := P) h hB d he (hρ x) el) (by unfold execOp; rw [e])
  · rename_i t ps e
    exact Goes.lift h he (fun v hv => build_sound (P := P) hv (parts_R hρ ps)) (by unfold execOp; rw [e])
  · rename_i t len ps e
    exact Goes.of (buildSlice_sound (P := P) h d he (parts_R hρ ps)) (by unfold execOp; rw [e])
  · rename_i t x e
    exact Goes.of (load_sound (P := P) h he (hρ x)) (by unfold execOp; rw [e])
  · rename_i t x y e
    obtain ⟨e1, w', S', m', hr, st, sr⟩ := store_sound (P := P) h he (hρ x) (hρ y)
    intro next Q hn
    have : (execOp a.eval o).run P w = .ok .skip w' := by
      unfold execOp; rw [e]; simp [hr]
    unfold Oper.wp
    rw [this]
    exact hn undef w' S' m' st sr (by rw [e1]; exact .und _)
  · rename_i x e
    split at he
    · rename_i i g o' hv
      cases he
      have hx := hρ x
      rw [hv] at hx
      obtain ⟨ad, e1⟩ := hx.ptr_shape
      exact Goes.val h hx (by unfold execOp; rw [e]; simp [e1])
    · rename_i cs l hv
      cases he
      have hx := hρ x
      rw [hv] at hx
      obtain ⟨rb, o', vals, e1, _⟩ := hx.fptr_inv
      exact Goes.val h hx (by unfold execOp; rw [e]; simp [e1])
    · rename_i f c hv
      cases he
      have hx := hρ x
      rw [hv] at hx
      obtain ⟨xs, e1, _⟩ := hx.fn_inv
      exact Goes.val h hx (by unfold execOp; rw [e]; simp [e1])
    · cases he
  · rename_i op t x y yt e
    exact Goes.lift h he (fun v hv => bin_sound (P := P) hv (hρ x) (hρ y) x y) (by unfold execOp; rw [e])
  · rename_i op t x e
    exact Goes.lift h he (fun v hv => un_sound (P := P) hv (hρ x)) (by unfold execOp; rw [e])
  · rename_i s t x e
    exact Goes.of (convert_sound (P := P) h he (hρ x)) (by unfold execOp; rw [e])
  · rename_i f first cap e
    split at he
    · rename_i hlt
      split at he
      · rename_i hf
        cases he
        have hfe : first = #[] := by simpa using hf
        subst hfe
        have h2 := args_R hρ cap.toList
        refine Goes.val (x := .func (.func f) #[] (cap.map a.eval)) h ?_ (by unfold execOp; rw [e]; simp [Instr.makeFunc])
        have := VR.fn_mk0 (f := f) h2 hlt
        have e2 : cap.map a.eval = (cap.toList.map a.eval).toArray := by apply Array.ext'; simp
        rw [e2]
        exact this
      · split at he
        · rename_i hf
          cases he
          have hfe : cap = #[] := by simpa using hf
          subst hfe
          have h2 := args_R hρ first.toList
          refine Goes.val (x := .func (.func f) (first.map a.eval) #[]) h ?_ (by unfold execOp; rw [e]; simp [Instr.makeFunc])
          have := VR.fn_mk1 (f := f) h2 hlt
          have e2 : first.map a.eval = (first.toList.map a.eval).toArray := by apply Array.ext'; simp
          rw [e2]
          exact this
        · cases he
    · cases he
  · rename_i t l c e
    exact Goes.of (makeSlice_sound (P := P) h d he (hρ l) (hρ c)) (by unfold execOp; rw [e])
  · rename_i t x lo hi mx e
    exact Goes.of (slice_sound (P := P) h he (hρ x) (opt_R hρ lo) (opt_R hρ hi) (opt_R hρ mx)) (by unfold execOp; rw [e])
  · rename_i t x f e
    exact Goes.of (fieldAddr_sound (P := P) h he (hρ x)) (by unfold execOp; rw [e])
  · rename_i t x f e
    exact Goes.lift h he (fun v hv => field_sound (P := P) hv (hρ x)) (by unfold execOp; rw [e])
  · rename_i t x i e
    exact Goes.of (indexAddr_sound (P := P) h he (hρ x) (hρ i)) (by unfold execOp; rw [e])
  · rename_i t x i e
    exact Goes.lift h he (fun v hv => index_sound (P := P) hv (hρ x) (hρ i)) (by unfold execOp; rw [e])
  · rename_i t i e
    split at he
    · rename_i vs hv
      have hx := hρ t
      rw [hv] at hx
      exact Goes.lift h he (fun v hq => extract_sound (P := P) hq hx) (by unfold execOp; rw [e])
    · cases he
  · rename_i b args ts e
    exact builtin_goes h hρ e he
  · rename_i fo args ts e
    split at he
    · rename_i f cap hv
      have hx := hρ fo
      rw [hv] at hx
      split at he
      · rename_i hlt
        obtain ⟨xs, e1, h2⟩ := hx.fn_inv0 hlt
        obtain ⟨⟨fn, f1, f2, f3⟩, hc⟩ := call_sound hrun h hB he ((args_R hρ args.toList).app h2)
        intro next Q hn
        have hr : (execOp a.eval o).run P w = .ok (.enter f (args.toList.map a.eval ++ xs).toArray) w := by
          unfold execOp
          rw [e]
          have hnone : fn.body.isNone = false := by cases hb : fn.body <;> simp_all
          have e3 : args.map a.eval ++ xs.toArray = (args.toList.map a.eval ++ xs).toArray := by apply Array.ext'; simp
          have f3' : ¬ (fn.name = "runtime.NumGoroutine") := by simpa using f3
          simp only [resolve, e1, Deferred.ofValue, Sem.run_bind, Sem.run_pure, Result.andThen_ok, invoke, callFunc, run_program, f1]
          rw [← e3]
          simp [f3', hnone]
        unfold Oper.wp
        rw [hr]
        simp only [Oper.upon]
        refine hc.mono ?_
        rintro e' w' ⟨x, S', m', rfl, st, sr, hvx⟩
        exact hn x w' S' m' st sr hvx
      · rename_i hlt
        split at he
        · rename_i hnil
          obtain ⟨xs, e1, h2⟩ := hx.fn_inv1 hlt
          obtain ⟨⟨fn, f1, f2, f3⟩, hc⟩ := call_sound hrun h hB he h2
          intro next Q hn
          have hr : (execOp a.eval o).run P w = .ok (.enter (f % 1048576) xs.toArray) w := by
            unfold execOp
            rw [e]
            have hnone : fn.body.isNone = false := by cases hb : fn.body <;> simp_all
            have e3 : args.map a.eval = #[] := by
              have : args = #[] := by apply Array.ext'; simpa using hnil
              rw [this]; simp
            have f3' : ¬ (fn.name = "runtime.NumGoroutine") := by simpa using f3
            simp only [resolve, e1, Deferred.ofValue, Sem.run_bind, Sem.run_pure, Result.andThen_ok, invoke, callFunc, run_program, f1, e3]
            simp [f3', hnone]
          unfold Oper.wp
          rw [hr]
          simp only [Oper.upon]
          refine hc.mono ?_
          rintro e' w' ⟨x, S', m', rfl, st, sr, hvx⟩
          exact hn x w' S' m' st sr hvx
        · cases he
    · cases he
  · cases he
end
end Go.Proofs.Ytieapebabncliaa.Iv

namespace Go.Proofs.Ytieapebabncliaa.Iv
open Go
set_option linter.unusedVariables false
set_option linter.unusedSimpArgs false

/-! ### the fence that lets all in, within a round or not -/
def Fw (r : Option Nat) : Fence := { Fence.wide with round := r }
theorem fenced_fw (P : Program) (r : Option Nat) (m : Machine) : m.fenced P (Fw r) := fenced_wide P m
theorem room_fw (r : Option Nat) (n : Nat) : (Fw r).room n := room_wide n
theorem callsIn_fw {r : Option Nat} {n : Nat} {P : Program} {f : FuncId} {args : Array Value} {w : World} {R : Ending → World → Prop} : CallsIn (Fw r) n P f args w R ↔ Calls P f args w R :=
  callsIn_wide
theorem rowsIn_fw {r : Option Nat} {n : Nat} {P : Program} {row : String} {args : Array Value} {w : World} {R : Value → World → Prop} (h : Rows P row args w R) : RowsIn (Fw r) n P row args w R :=
  fun c cs _ => let ⟨v, w', q, s⟩ := h c cs; ⟨v, w', q, stepsIn_wide.2 s⟩
theorem oper_fw {r : Option Nat} {n : Nat} {P : Program} {o : Oper} {a : Act} {w : World} {K : Act → World → Prop} {Q : Exit → Act → World → Prop} (hd : ∀ c, o.op ≠ .defer c) (h : o.wp P a w K Q) : o.wpIn (Fw r) n P a w K Q := by
  refine ⟨fun _ _ => trivial, ?_⟩
  have e : o.semAt (Fw r).round a.eval = execOp a.eval o := by
    cases r with
    | none => exact Oper.semAt_none ..
    | some l => exact Oper.semAt_some l _ o hd
  rw [e]
  unfold Oper.wp at h
  generalize (execOp a.eval o).run P w = q at *
  cases q with
  | ok x w' =>
    cases x <;> simp only [Oper.upon, Oper.uponIn] at h ⊢ <;>
      first
        | exact h
        | exact ⟨fun q => by simp [Fw, Fence.wide] at q, callsIn_fw.2 h⟩
        | exact ⟨fun q => by simp [Fw, Fence.wide] at q, rowsIn_fw h⟩
        | exact h.elim
  | halt x w' => cases x <;> simp only [Oper.upon, Oper.uponIn] at h ⊢ <;> exact h

/-! ### loops, by the number of their rounds -/
def roundsW (r : Option Nat) (n : Nat) (P : Program) (c : Code) (Q : Exit → Act → World → Prop) : Nat → Act → World → Prop
  | 0, _, _ => False
  | j + 1, a, w => c.wpIn (Fw r) n P (Exit.then (roundsW r n P c Q j) Q) a w
theorem least_of {p : Nat → Prop} : ∀ n, p n → ∃ j, p j ∧ ∀ k, p k → j ≤ k := by
  intro n
  induction n using Nat.strongRecOn with
  | _ n ih =>
    intro hn
    by_cases h : ∃ k, k < n ∧ p k
    · obtain ⟨k, hk, hp⟩ := h; exact ih k hk hp
    · exact ⟨n, hn, fun k hp => Nat.le_of_not_lt fun q => h ⟨k, q, hp⟩⟩
theorem loop_fw {r : Option Nat} {n : Nat} {P : Program} {c : Code} {Q : Exit → Act → World → Prop} {a : Act} {w : World} (j : Nat) (h : roundsW r n P c Q j a w) : (Code.loop c).wpIn (Fw r) n P Q a w := by
  classical
  obtain ⟨mu, hmu⟩ : ∃ mu : Act → World → Nat, ∀ a w, (∃ j, roundsW r n P c Q j a w) → roundsW r n P c Q (mu a w) a w ∧ ∀ k, roundsW r n P c Q k a w → mu a w ≤ k := by
    refine ⟨fun a w => if h : ∃ j, roundsW r n P c Q j a w then (least_of (p := fun j => roundsW r n P c Q j a w) h.choose h.choose_spec).choose else 0, fun a w h => ?_⟩
    simp only [h, dif_pos]
    exact (least_of (p := fun j => roundsW r n P c Q j a w) h.choose h.choose_spec).choose_spec
  refine wpIn_loop (fun a w => ∃ j, roundsW r n P c Q j a w) mu ⟨j, h⟩ (fun a w hI => ?_)
  obtain ⟨h1, h2⟩ := hmu a w hI
  cases hj : mu a w with
  | zero => rw [hj] at h1; exact h1.elim
  | succ k =>
    rw [hj] at h1
    refine wpIn_mono (show c.wpIn (Fw r) n P (Exit.then (roundsW r n P c Q k) Q) a w from h1) (fun e a' w' q => ?_)
    cases e <;> first | exact q | skip
    have q' : roundsW r n P c Q k a' w' := q
    exact ⟨⟨k, q'⟩, by have := (hmu a' w' ⟨k, q'⟩).2 k q'; omega⟩

/-! ### what is no cells may turn -/
theorem grown_same {w w' : World} {row : Option Nat} (hg : w.grownBy w' row) (hr : ∀ q, row = some q → ∃ o : Obj, w.heap[q]? = some o ∧ o.isCells = false) {rb : Nat} {o : Obj} (h : w.heap[rb]? = some o) (hc : o.isCells = true) : w'.heap[rb]? = w.heap[rb]? := by
  refine hg.block rb (Array.getElem?_eq_some_iff.1 h).1 (fun e => ?_)
  obtain ⟨o', h1, h2⟩ := hr rb e.symm
  rw [h] at h1; cases h1; rw [hc] at h2; cases h2
section
variable {P : Program} {K B : Nat → Prop} {w : World} {S : Nat → Prop} {m : Map} {H : Heap}
theorem SR.grown (h : SR w S K m H) {w' : World} {row : Option Nat} (hg : w.grownBy w' row) (hr : ∀ q, row = some q → ∃ o : Obj, w.heap[q]? = some o ∧ o.isCells = false) : SR w' S K m H := by
  have hs : ∀ rb, S rb → w'.heap[rb]? = w.heap[rb]? := fun rb hb => by
    obtain ⟨o, h1, h2⟩ := h.scel rb hb
    exact grown_same hg hr h1 h2
  refine ⟨fun rb hb => Nat.lt_of_lt_of_le (h.sub rb hb) hg.size, fun rb hb => Nat.lt_of_lt_of_le (h.kin rb hb) hg.size, fun i b hi => ?_, h.non, h.inj, h.own, fun rb hb => by rw [hs rb hb]; exact h.scel rb hb⟩
  obtain ⟨im, hm, ok⟩ := h.blk i b hi
  obtain ⟨arr, ty, fz, hrow, _⟩ := ok.row
  exact ⟨im, hm, ok.mono0 hs (fun _ h => h) (fun i im h => ⟨im, h, Nat.le_refl _, fun _ => rfl⟩) (grown_same hg hr hrow rfl) ok.thaw⟩
theorem VR.grown (h : SR w S K m H) (hB : ∀ rb, B rb → K rb) {w' : World} {row : Option Nat} (hg : w.grownBy w' row) (hr : ∀ q, row = some q → (∃ o : Obj, w.heap[q]? = some o ∧ o.isCells = false) ∧ ¬ K q) {v : V} {x : Value} (hv : VR w S B m v x) : VR w' S B m v x := by
  refine hv.mono0 (fun rb hb => ?_) (fun _ h => h) (fun i im h => ⟨im, h, Nat.le_refl _, fun _ => rfl⟩)
  rcases hb with hb | hb
  · obtain ⟨o, h1, h2⟩ := h.scel rb hb
    exact grown_same hg (fun q e => (hr q e).1) h1 h2
  · exact hg.block rb (h.kin rb (hB rb hb)) (fun e => (hr rb e.symm).2 (hB rb hb))
/-- what lies beyond may turn -/
theorem Step.grown {w1 : World} {S1 : Nat → Prop} {m1 : Map} (h : SR w S K m H) (st : Step K w S m w1 S1 m1) {w' : World} {row : Option Nat} (hg : w1.grownBy w' row) (hr : ∀ q, row = some q → w.heap.size ≤ q) : Step K w S m w' S1 m1 := by
  refine ⟨hg.os.trans st.os, hg.tape.trans st.tape, hg.output.trans st.output, Nat.le_trans st.size hg.size, st.sub, st.fresh, fun rb hb => ?_, st.ext, ⟨Nat.le_trans st.size hg.size, fun k o hk ho => ?_⟩⟩
  · have hlt : rb < w.heap.size := hb.elim (h.sub rb) (h.kin rb)
    rw [hg.block rb (Nat.lt_of_lt_of_le hlt st.size) (fun e => by have := hr rb e.symm; omega)]
    exact st.pres rb hb
  · have hlt : k < w.heap.size := (Array.getElem?_eq_some_iff.1 hk).1
    rw [hg.block k (Nat.lt_of_lt_of_le hlt st.size) (fun e => by have := hr k e.symm; omega)]
    exact st.oth.same k o hk ho
end

/-! ### a range over a function whose elements are known -/
/-- What a function hands on, one by one: N times, the k-th time what R says, as long as it is let go on; T stays from round to round. -/
def SeqRun (P : Program) (g : Nat) (lb : Array Value) (N : Nat) (R : Nat → World → Array Value → Prop) (T : Nat → Prop) (w : World) : Prop :=
  ∀ (n l : Nat) (J : Nat → World → Prop) (Jx : World → Prop),
    (∀ k W W' row, J k W → W.grownBy W' row → (∀ r, row = some r → w.heap.size ≤ r ∧ ∃ o : Obj, W.heap[r]? = some o ∧ o.isWalk = true) → J k W') →
    (∀ W W' row, Jx W → W.grownBy W' row → (∀ r, row = some r → w.heap.size ≤ r ∧ ∃ o : Obj, W.heap[r]? = some o ∧ o.isWalk = true) → Jx W') →
    (∀ k x W1, k < N → R k W1 x → J k W1 → YieldAt Fence.wide (n - 1) P l x W1 fun e W' =>
      (e = .returned (.bool true) ∧ J (k + 1) W' ∧ ∀ rb, T rb → W'.heap[rb]? = W1.heap[rb]?) ∨ (e = .returned (.bool false) ∧ Jx W')) →
    J 0 w → CallsIn Fence.wide n P g (#[.func (.yield l) #[] #[]] ++ lb) w fun e W' => (∃ v, e = .returned v) ∧ (J N W' ∨ Jx W')

/-- how a round may be left -/
def rpost (T : Nat → Prop) (I : World → Prop) (Ix : Code → World → Prop) (W : World) : Exit → Act → World → Prop
  | .normal, _, W' => KeepsOthers W W' ∧ (∀ rb, T rb → W'.heap[rb]? = W.heap[rb]?) ∧ I W'
  | .ret, _, W' => KeepsOthers W W' ∧ Ix .ret W'
  | .exit id, _, W' => KeepsOthers W W' ∧ Ix (.exit id) W'
  | _, _, _ => False
abbrev mark (D : Nat) : Deferred := { target := .collected D, args := #[] }

theorem range_fw {P : Program} {n : Nat} {g : Operand} {ps : Array Tmp} {assign body : Code} {Q : Exit → Act → World → Prop} {a : Act} {w : World} {gf : Nat} {lb : Array Value}
    (hg : a.eval g = .func (.func gf) #[] lb) (eg : ∀ args w, (callFunc gf args).run P w = .ok (.enter gf args) w)
    {N : Nat} {R : Nat → World → Array Value → Prop} {T : Nat → Prop} (hT : ∀ rb, T rb → rb < w.heap.size)
    (hseq : ∀ o1 o2 : Obj, o1.isCells = false → o2.isCells = false → SeqRun P gf lb N R T ((w.alloc o1).alloc o2))
    (I : Nat → World → Prop) (Ix : Code → World → Prop)
    (hI : ∀ k W W' row, I k W → W.grownBy W' row → (∀ r, row = some r → w.heap.size ≤ r ∧ ∃ o : Obj, W.heap[r]? = some o ∧ o.isCells = false) → I k W')
    (hIx : ∀ c W W' row, Ix c W → W.grownBy W' row → (∀ r, row = some r → w.heap.size ≤ r ∧ ∃ o : Obj, W.heap[r]? = some o ∧ o.isCells = false) → Ix c W')
    (h0 : I 0 w)
    (hround : ∀ (n l k : Nat) (x : Array Value) (W : World), k < N → R k W x → I k W → w.heap.size ≤ l → (∃ o : Obj, W.heap[l]? = some o ∧ o.isCells = false) →
      x.size = ps.size ∧ assign.wpIn (Fw (some l)) n P (Exit.then (fun a1 Wa => KeepsOthers W Wa ∧ (∀ rb, T rb → Wa.heap[rb]? = W.heap[rb]?) ∧
        ∀ Wb, Wa.grownBy Wb (some l) → body.wpIn (Fw (some l)) n P (rpost T (I (k + 1)) Ix Wb) a1 Wb) (fun _ _ _ => False))
        { tmps := (ps.zip x).foldl (fun t (p, v) => t.setIfInBounds p v) a.tmps, defers := [] } W)
    (hdone : ∀ (D : Nat) (W : World), w.heap.size ≤ D → I N W → W.heap[D]? = some (.deferred (some [])) → Q .normal { a with defers := mark D :: a.defers } W)
    (hstop : ∀ (D : Nat) (c : Code) (W : World), w.heap.size ≤ D → Ix c W → W.heap[D]? = some (.deferred (some [])) → c.wpIn Fence.wide n P Q { a with defers := mark D :: a.defers } W) :
    (Code.rangeFunc g ps assign body).wpIn Fence.wide n P Q a w := by
  refine wpIn_rangeFunc ?_
  intro fn hfn
  obtain ⟨rec, hrec⟩ : ∃ rec : LoopState → Option Code → Loop, rec = fun st pe => { state := st, pending := pe, fn, tmps := a.tmps, params := ps, assign, body, defers := w.heap.size } := ⟨_, rfl⟩
  obtain ⟨W1, hW1⟩ : ∃ W1, (w.alloc (.deferred (some []))).alloc (.loop (rec .ready none)) = W1 := ⟨_, rfl⟩
  have hL1 : W1.heap[w.heap.size + 1]? = some (.loop (rec .ready none)) := by
    rw [← hW1]; have := World.alloc_heap_new (w.alloc (.deferred (some []))) (.loop (rec .ready none)); rwa [World.size_alloc] at this
  have hK1 : W1.heap[w.heap.size]? = some (.deferred (some [])) := by
    rw [← hW1]; exact (RowKit.Below.heap_alloc _ _ _ (by simp)).trans (World.alloc_heap_new w _)
  have hsz : W1.heap.size = w.heap.size + 2 := by rw [← hW1]; simp
  have hI1 : I 0 W1 := by
    rw [← hW1]
    exact hI 0 _ _ none (hI 0 _ _ none h0 (World.grownBy_alloc w _ none) (fun r e => by cases e)) (World.grownBy_alloc _ _ none) (fun r e => by cases e)
  refine ⟨w.heap.size + 1, [mark w.heap.size], W1, { target := .fn (.func gf) lb, args := #[.func (.yield (w.heap.size + 1)) #[] #[]] }, W1, gf,
    #[.func (.yield (w.heap.size + 1)) #[] #[]] ++ lb, W1, ?_, ?_, fun _ _ => trivial, ?_, fun q => by simp [Fence.wide] at q, ?_⟩
  · rw [← hW1, hrec]; exact run_enterLoop_outer _ _ _ _ _
  · simp only [resolve, hg]
    simp [go_sem]
  · simp [invoke, go_sem, eg]
  · have hs := hseq (.deferred (some [])) (.loop (rec .ready none)) rfl rfl
    rw [hW1] at hs
    have hwk : ∀ {A B : World} {row : Option Nat}, (∀ r, row = some r → W1.heap.size ≤ r ∧ ∃ o : Obj, A.heap[r]? = some o ∧ o.isWalk = true) → (∀ r, row = some r → w.heap.size ≤ r ∧ ∃ o : Obj, A.heap[r]? = some o ∧ o.isCells = false) :=
      fun hr r e => by obtain ⟨q, o, ho, hw⟩ := hr r e; exact ⟨by omega, o, ho, Obj.not_cells_of_walk hw⟩
    have keep : ∀ {A B : World} {row : Option Nat} {k : Nat} {o : Obj}, A.grownBy B row → (∀ r, row = some r → W1.heap.size ≤ r ∧ ∃ o : Obj, A.heap[r]? = some o ∧ o.isWalk = true) → k < W1.heap.size → A.heap[k]? = some o → B.heap[k]? = some o :=
      fun hgr hr hk h => (hgr.block _ (Array.getElem?_eq_some_iff.1 h).1 (fun e => by have := (hr _ e.symm).1; omega)).trans h
    refine (hs _ (w.heap.size + 1) (fun k W => I k W ∧ W.heap[w.heap.size + 1]? = some (.loop (rec .ready none)) ∧ W.heap[w.heap.size]? = some (.deferred (some [])))
      (fun W => ∃ c, Ix c W ∧ W.heap[w.heap.size + 1]? = some (.loop (rec .done (some c))) ∧ W.heap[w.heap.size]? = some (.deferred (some [])))
      (fun k A B row h hgr hr => ⟨hI k A B row h.1 hgr (hwk (B := B) hr), keep hgr hr (by omega) h.2.1, keep hgr hr (by omega) h.2.2⟩)
      (fun A B row h hgr hr => let ⟨c, h1, h2, h3⟩ := h; ⟨c, hIx c A B row h1 hgr (hwk (B := B) hr), keep hgr hr (by omega) h2, keep hgr hr (by omega) h3⟩)
      ?_ ⟨hI1, hL1, hK1⟩).mono ?_
    · rintro k x W hkN hx ⟨hi, hl, hk⟩
      have hy := run_yield (P := P) (args := x) hl (by rw [hrec]; exact (hround 0 (w.heap.size + 1) k x W hkN hx hi (by omega) ⟨_, hl, rfl⟩).1)
      rw [hrec] at hy
      refine ⟨fn, _, assign, body, hy, roundIn_of_wpIn hfn (wpIn_mono (hround _ (w.heap.size + 1) k x W hkN hx hi (by omega) ⟨_, hl, rfl⟩).2 (fun e a1 Wa q => ?_))⟩
      cases e <;> first | exact q | skip
      obtain ⟨k1, t1, hb⟩ := q
      have hla := k1.same _ _ hl rfl
      have hka := k1.same _ _ hk rfl
      refine ⟨_, run_beginRound hla (by rw [hrec]), ?_⟩
      have hlt : w.heap.size + 1 < Wa.heap.size := (Array.getElem?_eq_some_iff.1 hla).1
      obtain ⟨Wb, hWb⟩ : ∃ Wb, Wa.putObj (w.heap.size + 1) (.loop { rec .ready none with state := .busy }) = Wb := ⟨_, rfl⟩
      have hlb : Wb.heap[w.heap.size + 1]? = some (.loop { rec .ready none with state := .busy }) := by rw [← hWb]; exact World.putObj_heap_same hlt
      have hkb : Wb.heap[w.heap.size]? = some (.deferred (some [])) := by rw [← hWb]; exact (World.putObj_heap_other (by omega)).trans hka
      have hgb : Wa.grownBy Wb (some (w.heap.size + 1)) := by rw [← hWb]; exact grownBy_putObj' ..
      rw [hWb]
      refine wpIn_mono (hb Wb hgb) (fun e a3 W3 hp => ?_)
      have fin : ∀ jump, KeepsOthers Wb W3 →
          (Instr.endRound (w.heap.size + 1) jump).run P W3 = .ok (.bool jump.isNone) (W3.putObj (w.heap.size + 1) (.loop (rec (if jump.isNone then .ready else .done) jump))) ∧
          W3.grownBy (W3.putObj (w.heap.size + 1) (.loop (rec (if jump.isNone then .ready else .done) jump))) (some (w.heap.size + 1)) ∧
          W3.heap[w.heap.size + 1]? = some (.loop { rec .ready none with state := .busy }) ∧
          (W3.putObj (w.heap.size + 1) (.loop (rec (if jump.isNone then .ready else .done) jump))).heap[w.heap.size + 1]? = some (.loop (rec (if jump.isNone then .ready else .done) jump)) ∧
          (W3.putObj (w.heap.size + 1) (.loop (rec (if jump.isNone then .ready else .done) jump))).heap[w.heap.size]? = some (.deferred (some [])) := fun jump hk3 => by
        have hl3 := hk3.same _ _ hlb rfl
        have := run_endRound (P := P) jump hl3
        rw [hrec] at this ⊢
        exact ⟨this, grownBy_putObj' .., by rw [hrec] at hl3; exact hl3, World.putObj_heap_same (Array.getElem?_eq_some_iff.1 hl3).1, (World.putObj_heap_other (by omega)).trans (hk3.same _ _ hkb rfl)⟩
      have rowOK : ∀ {A : World} {o : Obj}, A.heap[w.heap.size + 1]? = some o → o.isCells = false → ∀ r, some (w.heap.size + 1) = some r → w.heap.size ≤ r ∧ ∃ o : Obj, A.heap[r]? = some o ∧ o.isCells = false :=
        fun h hc r e => by cases e; exact ⟨by omega, _, h, hc⟩
      cases e with
      | normal =>
        obtain ⟨hk3, ht3, hi3⟩ := hp
        obtain ⟨hr, hg3, hl3, hl4, hk4⟩ := fin none hk3
        refine ⟨_, _, hr, .inl ⟨rfl, ⟨hI _ _ _ _ hi3 hg3 (rowOK hl3 rfl), hl4, hk4⟩, fun rb q => ?_⟩⟩
        have := hT rb q
        rw [World.putObj_heap_other (by omega), ht3 rb q, ← hWb, World.putObj_heap_other (by omega), t1 rb q]
      | ret =>
        obtain ⟨hk3, hi3⟩ := hp
        obtain ⟨hr, hg3, hl3, hl4, hk4⟩ := fin (some .ret) hk3
        exact ⟨_, _, hr, .inr ⟨rfl, .ret, hIx _ _ _ _ hi3 hg3 (rowOK hl3 rfl), hl4, hk4⟩⟩
      | exit id =>
        obtain ⟨hk3, hi3⟩ := hp
        obtain ⟨hr, hg3, hl3, hl4, hk4⟩ := fin (some (.exit id)) hk3
        exact ⟨_, _, hr, .inr ⟨rfl, .exit id, hIx _ _ _ _ hi3 hg3 (rowOK hl3 rfl), hl4, hk4⟩⟩
      | goto t => exact hp.elim
      | panic ch => exact hp.elim
      | outgrown => exact hp.elim
    · rintro e W2 ⟨⟨v, rfl⟩, (⟨hi, hl, hk⟩ | ⟨c, hi, hl, hk⟩)⟩
      · exact ⟨none, _, by have := run_endLoop (P := P) hl (by rw [hrec]; simp); rw [hrec] at this; exact this, hdone _ _ (Nat.le_refl _) (hI _ _ _ _ hi (grownBy_putObj' ..) (fun r e => by cases e; exact ⟨by omega, _, hl, rfl⟩)) ((World.putObj_heap_other (by omega)).trans hk)⟩
      · exact ⟨some c, _, by have := run_endLoop (P := P) hl (by rw [hrec]; simp); rw [hrec] at this; exact this, hstop _ c _ (Nat.le_refl _) (hIx _ _ _ _ hi (grownBy_putObj' ..) (fun r e => by cases e; exact ⟨by omega, _, hl, rfl⟩)) ((World.putObj_heap_other (by omega)).trans hk)⟩
end Go.Proofs.Ytieapebabncliaa.Iv

namespace Go.Proofs.Ytieapebabncliaa.Iv
open Go
set_option linter.unusedVariables false
set_option linter.unusedSimpArgs false
section
variable {P : Program} {K B : Nat → Prop} {w : World} {S : Nat → Prop} {m : Map} {H : Heap}

/-- The slots read as they say. -/
structure Fit (K B : Nat → Prop) (env : List V) (a : Act) (w : World) (S : Nat → Prop) (m : Map) (H : Heap) : Prop where
  sr : SR w S K m H
  len : a.tmps.size = env.length
  tr : ∀ t, VR w S B m (env.getD t .und) (a.tmps.getD t undef)

theorem Fit.eval {env : List V} {a : Act} (h : Fit K B env a w S m H) (x : Operand) : VR w S B m (evOperand env x) (a.eval x) := by
  cases x with
  | tmp t => exact h.tr t
  | const v => exact ofVal_VR v
  | func f =>
    simp only [evOperand]
    split
    · rename_i hlt
      exact VR.fn_mk0 (f := f) (cs := []) (xs := []) trivial hlt
    · exact .und _
  | global g => exact .und _

theorem Fit.put {env env' : List V} {a : Act} (h : Fit K B env a w S m H) (hB : ∀ rb, B rb → K rb) {dst : Option Tmp} {v : V} (he : setV env dst v = some env') {x : Value} {w' : World} {S' : Nat → Prop} {m' : Map} {H' : Heap}
    (st : Step K w S m w' S' m') (sr : SR w' S' K m' H') (hv : VR w' S' B m' v x) : Fit K B env' (a.put dst x) w' S' m' H' := by
  cases dst with
  | none =>
    simp only [setV, Option.some.injEq] at he; subst he
    exact ⟨sr, h.len, fun t => (h.tr t).mono st hB⟩
  | some d =>
    simp only [setV] at he
    split at he
    · rename_i hd
      cases he
      refine ⟨sr, by simp [Act.put, h.len], fun t => ?_⟩
      have hl := h.len
      by_cases e : t = d
      · subst e
        have h1 : (env.set t v).getD t .und = v := by simp [List.getD, hd]
        have h2 : (a.put (some t) x).tmps.getD t undef = x := by simp [Act.put, Array.getElem?_setIfInBounds, hl, hd]
        rw [h1, h2]; exact hv
      · have h1 : (env.set d v).getD t .und = env.getD t .und := by simp [List.getD, List.getElem?_set_ne (Ne.symm e)]
        have h2 : (a.put (some d) x).tmps.getD t undef = a.tmps.getD t undef := by simp [Act.put, Array.getElem?_setIfInBounds, Ne.symm e]
        rw [h1, h2]; exact (h.tr t).mono st hB
    · cases he

theorem VR.tup0 {w : World} {S B : Nat → Prop} {m : Map} {x : Value} (h : VR w S B m (.tup []) x) : ∃ vs, x = .tuple vs := by
  obtain ⟨xs, e, _⟩ := h.tup_inv
  exact ⟨_, e⟩
theorem wanted_of {ops : Array Oper} {env : List V} {a : Act} (h : Fit K B env a w S m H) {o : Oper} {b : Bool} (he : wantV ops env o.guard = some b) : Region.wanted o (yielded ops a.tmps) = b := by
  unfold Region.wanted
  unfold wantV at he
  cases hg : o.guard with
  | none => rw [hg] at he; simp at he; subst he; rfl
  | some p =>
    obtain ⟨j, want⟩ := p
    rw [hg] at he
    simp only at he ⊢
    split at he
    · rename_i t ht
      split at he
      · rename_i c hc
        cases he
        have hx := h.tr t
        rw [hc] at hx
        have hx := hx.bool_inv
        have hlt : t < a.tmps.size := by
          rw [h.len]
          rcases Nat.lt_or_ge t env.length with q | q
          · exact q
          · simp [List.getD, List.getElem?_eq_none q] at hc
        have : a.tmps[t]? = some (.bool c) := by
          simp [Array.getD_eq_getD_getElem?, hlt] at hx ⊢
          exact hx
        simp [yielded, ht, this]
      · rename_i hc
        cases he
        have hx := h.tr t
        rw [hc] at hx
        obtain ⟨vs, hv⟩ := hx.tup0
        have : yielded ops a.tmps j = none := by
          cases hq : a.tmps[t]? with
          | none => simp [yielded, ht, hq]
          | some x =>
            have : a.tmps.getD t undef = x := by
              rw [Array.getD_eq_getD_getElem?, hq]; rfl
            rw [this] at hv
            subst hv
            simp [yielded, ht, hq]
        rw [this]; rfl
      · cases he
    · cases he

/-- One operation of a region, whatever comes behind. -/
theorem oper_sound {call : Nat → List V → Heap → Option (V × Heap)} {pol : Nat → Pol} (hrun : RunOK P call) (hB : ∀ rb, B rb → K rb) {ops : Array Oper} {k : Nat} {o : Oper} {env env' : List V} {a : Act}
    (h : Fit K B env a w S m H) {out : Out} (he : evOper P call pol ops k o env H = some out) (hs : setV env o.dst out.v = some env') (hk : ops[k]? = some o) {r : Option Nat} {n : Nat} {Q : Exit → Act → World → Prop} {next : Act → World → Prop}
    (hn : ∀ a' w' S' m', Step K w S m w' S' m' → Fit K B env' a' w' S' m' (H.sets out.ups) → a'.defers = a.defers → next a' w') : wpOpIn (Fw r) n P ops Q k next a w := by
  have put_defers : ∀ x, (a.put o.dst x).defers = a.defers := fun x => by cases o.dst <;> rfl
  unfold wpOpIn
  simp only [hk]
  unfold evOper at he
  split at he
  · rename_i hw
    rw [if_pos (wanted_of h hw)]
    refine oper_fw (fun c hc => ?_) (evOp_sound hrun h.sr hB h.eval he rfl next Q (fun x w' S' m' st sr hv => hn _ _ _ _ st (h.put hB hs st sr hv) (put_defers x)))
    rw [hc] at he
    simp [evOp] at he
  · rename_i hw
    cases he
    rw [if_neg (by rw [wanted_of h hw]; simp)]
    exact ⟨fun _ _ => trivial, hn _ _ _ _ (Step.refl ..) (h.put hB hs (Step.refl ..) h.sr (.tup [] #[] rfl (fun j c x hj => by simp at hj))) (put_defers _)⟩
  · cases he

theorem ops_sound {call : Nat → List V → Heap → Option (V × Heap)} {pol : Nat → Pol} (hrun : RunOK P call) (hB : ∀ rb, B rb → K rb) {ops : Array Oper} {r : Option Nat} {n : Nat} {Q : Exit → Act → World → Prop} :
    ∀ (l : List Oper) (k : Nat) (env : List V) (H : Heap) (lg : Log) {env' : List V} {H' : Heap} {lg' : Log} (a : Act) (w : World) (S : Nat → Prop) (m : Map),
      (∀ j, l[j]? = ops[k + j]?) → evOps P call pol ops l k env H lg = some (env', H', lg') → Fit K B env a w S m H →
      (∀ a' w' S' m', Step K w S m w' S' m' → Fit K B env' a' w' S' m' H' → a'.defers = a.defers → Q .normal a' w') → wpOpsIn (Fw r) n P ops Q (List.range' k l.length) a w
  | [], k, env, H, lg, env', H', lg', a, w, S, m, _, he, h, hq => by
    simp only [evOps, Option.some.injEq, Prod.mk.injEq] at he
    obtain ⟨rfl, rfl, rfl⟩ := he
    simpa [wpOpsIn] using hq a w S m (Step.refl ..) h rfl
  | o :: q, k, env, H, lg, env', H', lg', a, w, S, m, hl, he, h, hq => by
    simp only [evOps] at he
    split at he
    · rename_i v us rd ho
      split at he
      · rename_i env1 hs
        have hk : ops[k]? = some o := by simpa using (hl 0).symm
        simp only [List.length_cons, List.range'_succ]
        rw [wpOpsIn_cons]
        refine oper_sound hrun hB h ho hs hk (fun a1 w1 S1 m1 st1 h1 hd1 => ?_)
        exact ops_sound hrun hB q (k + 1) env1 _ _ a1 w1 S1 m1 (fun j => by have := hl (j + 1); simpa [Nat.add_assoc, Nat.add_comm 1 j] using this) he h1
          (fun a' w' S' m' st' h' hd' => hq a' w' S' m' (st1.trans st') h' (hd'.trans hd1))
      · cases he
    · cases he

def ExR : Ex → Exit → Prop
  | .nrm, .normal => True
  | .exit i, .exit j => i = j
  | .ret, .ret => True
  | _, _ => False

/-- What is to be done when the function returns: the marks of ranges over functions, whose rounds have deferred nothing. -/
def Marks (a : Act) (w : World) (a' : Act) (w' : World) : Prop :=
  ∃ ms : List Nat, a'.defers = ms.map mark ++ a.defers ∧ ms.Nodup ∧ ∀ D ∈ ms, w.heap.size ≤ D ∧ w'.heap[D]? = some (.deferred (some []))
theorem Marks.of_eq {a a' : Act} {w w' : World} (h : a'.defers = a.defers) : Marks a w a' w' := ⟨[], by simpa using h, List.nodup_nil, fun _ h => by cases h⟩
theorem Marks.trans {a a1 a2 : Act} {w w1 w2 : World} (h : Marks a w a1 w1) (k : Marks a1 w1 a2 w2) (hk : KeepsOthers w1 w2) (hs : w.heap.size ≤ w1.heap.size) : Marks a w a2 w2 := by
  obtain ⟨ms, h1, h2, h3⟩ := h
  obtain ⟨ns, k1, k2, k3⟩ := k
  refine ⟨ns ++ ms, by rw [k1, h1]; simp, List.nodup_append.2 ⟨k2, h2, fun x hx y hy e => ?_⟩, fun D hD => ?_⟩
  · subst e
    have := (k3 x hx).1
    have := (Array.getElem?_eq_some_iff.1 (h3 x hy).2).1
    omega
  · rcases List.mem_append.1 hD with q | q
    · exact ⟨Nat.le_trans hs (k3 D q).1, (k3 D q).2⟩
    · exact ⟨(h3 D q).1, hk.same D _ (h3 D q).2 rfl⟩

/-- What the ideal machine says of a piece of code is so. -/
def CodeOK (P : Program) (c : Code) (env : List V) (H : Heap) (ex : Ex) (env' : List V) (H' : Heap) : Prop :=
  ∀ (K B : Nat → Prop), (∀ rb, B rb → K rb) → ∀ (r : Option Nat) (n : Nat), (r = none ∨ flatC c = true) → ∀ (a : Act) (w : World) (S : Nat → Prop) (m : Map), Fit K B env a w S m H → ∀ Q : Exit → Act → World → Prop,
    (∀ e a' w' S' m', ExR ex e → Step K w S m w' S' m' → Fit K B env' a' w' S' m' H' → Marks a w a' w' → Q e a' w') → c.wpIn (Fw r) n P Q a w
/-- the same of a loop, whose rounds are counted -/
def LoopOK (P : Program) (c : Code) (env : List V) (H : Heap) (ex : Ex) (env' : List V) (H' : Heap) : Prop :=
  ∃ j, ∀ (K B : Nat → Prop), (∀ rb, B rb → K rb) → ∀ (r : Option Nat) (n : Nat), (r = none ∨ flatC c = true) → ∀ (a : Act) (w : World) (S : Nat → Prop) (m : Map), Fit K B env a w S m H → ∀ Q : Exit → Act → World → Prop,
    (∀ e a' w' S' m', ExR ex e → Step K w S m w' S' m' → Fit K B env' a' w' S' m' H' → Marks a w a' w' → Q e a' w') → roundsW r n P c Q j a w
/-- What the ideal machine says of a region that draws its order is so. -/
def DrawOK (P : Program) (call : Nat → List V → Heap → Option (V × Heap)) (pol : Nat → Pol) (id : Nat) (ops : Array Oper) : Prop :=
  ∀ (env : List V) (H : Heap) (env' : List V) (H' : Heap) (lg : Log), evOps P call pol ops ops.toList 0 env H [] = some (env', H', lg) → logOk ops lg = true →
    CodeOK P (.region id ops true) env H .nrm env' H'

/-- the regions of a piece of code that draw -/
def drawn : Code → List (Nat × Array Oper)
  | .region id ops true => [(id, ops)]
  | .seq a b => drawn a ++ drawn b
  | .cond _ a b => drawn a ++ drawn b
  | .block _ c => drawn c
  | .scope c => drawn c
  | .loop c => drawn c
  | .rangeFunc _ _ a b => drawn a ++ drawn b
  | _ => []

/-- What hands on its elements one by one does so. -/
def SeqOK (P : Program) (pol : Nat → Pol) : Prop :=
  ∀ (g : Nat) (cap : List V) (items : List (List V)), seqOf P pol g cap = some items → Enters P g ∧ ∀ (w : World) (S B : Nat → Prop) (m : Map) (lb : List Value), (∀ rb, S rb → ∃ o : Obj, w.heap[rb]? = some o ∧ o.isCells = true) → (∀ rb, B rb → rb < w.heap.size) → All2 (VR w S B m) cap lb →
    SeqRun P g lb.toArray items.length (fun k W x => ∃ it x0, items[k]? = some it ∧ x = x0.toArray ∧ All2 (VR W S B m) it x0) (fun rb => S rb ∨ B rb) w

/-- the jump that is left behind -/
def jumpOf : Ex → Code
  | .ret => .ret
  | .exit i => .exit i
  | .nrm => .skip

theorem enters_run {P : Program} {f : Nat} (h : Enters P f) (args : Array Value) (w : World) : (callFunc f args).run P w = .ok (.enter f args) w := by
  obtain ⟨fn, f1, f2, f3⟩ := h
  have hnone : fn.body.isNone = false := by cases hb : fn.body <;> simp_all
  have f3' : ¬ (fn.name = "runtime.NumGoroutine") := by simpa using f3
  simp only [callFunc, run_program, f1, Sem.run_bind, Result.andThen_ok]
  simp [f3', hnone]

theorem put_all : ∀ {ps : List Nat} {it env e : List V} {x : List Value} {t : Array Value}, putAll ps it env = some e → All2 (VR w S B m) it x → t.size = env.length → (∀ q, VR w S B m (env.getD q .und) (t.getD q undef)) →
    x.length = ps.length ∧ e.length = env.length ∧ ((ps.zip x).foldl (fun t (p, v) => t.setIfInBounds p v) t).size = e.length ∧ ∀ q, VR w S B m (e.getD q .und) (((ps.zip x).foldl (fun t (p, v) => t.setIfInBounds p v) t).getD q undef)
  | [], [], env, e, [], t, he, _, hl, ht => by simp only [putAll, Option.some.injEq] at he; subst he; exact ⟨rfl, rfl, hl, ht⟩
  | [], [], _, _, _ :: _, _, _, hx, _, _ => hx.elim
  | [], _ :: _, _, _, _, _, he, _, _, _ => by simp [putAll] at he
  | _ :: _, [], _, _, _, _, he, _, _, _ => by simp [putAll] at he
  | _ :: _, _ :: _, _, _, [], _, _, hx, _, _ => hx.elim
  | p :: ps, i :: it, env, e, v :: x, t, he, hx, hl, ht => by
    simp only [putAll] at he
    obtain ⟨q1, q2, q3, q4⟩ := put_all (t := t.setIfInBounds p v) he hx.2 (by simp [hl]) (fun q => by
      by_cases e1 : q = p
      · subst e1
        by_cases hlt : q < env.length
        · have h1 : (env.set q i).getD q .und = i := by simp [List.getD, hlt]
          have h2 : (t.setIfInBounds q v).getD q undef = v := by simp [Array.getElem?_setIfInBounds, hl, hlt]
          rw [h1, h2]; exact hx.1
        · have h1 : (env.set q i).getD q .und = .und := by simp [List.getD, hlt]
          rw [h1]; exact .und _
      · have h1 : (env.set p i).getD q .und = env.getD q .und := by simp [List.getD, List.getElem?_set_ne (Ne.symm e1)]
        have h2 : (t.setIfInBounds p v).getD q undef = t.getD q undef := by simp [Array.getElem?_setIfInBounds, Ne.symm e1]
        rw [h1, h2]; exact ht q)
    exact ⟨by simp [q1], by simpa using q2, q3, q4⟩

theorem stepR_scope {b : Frame} {k : List Item} {cs : List Frame} {a : Act} {c : Code} : step P (lone (b.atR a (.code (.scope c) :: k)) cs w) = .next (lone (b.atR a (.code c :: .inScope c :: k)) cs w) :=
  step_lone_go (by simp [stepG, stepG.exec, Frame.atR])
theorem stepR_inScope {b : Frame} {k : List Item} {cs : List Frame} {a : Act} {c : Code} : step P (lone (b.atR a (.inScope c :: k)) cs w) = .next (lone (b.atR a k) cs w) :=
  step_lone_go (by simp [stepG, stepG.exec, Frame.atR])
theorem wpIn_scope {F : Fence} {n : Nat} {Q : Exit → Act → World → Prop} {a : Act} {c : Code} (h : c.wpIn F n P (Exit.noGoto Q) a w) : (Code.scope c).wpIn F n P Q a w := by
  intro b k cs hro hb hr
  have h0 : (lone (b.atR a (.code (.scope c) :: k)) cs w).fenced P F := fenced_calm hb hr rfl
  obtain ⟨e, a₁, w₁, hq, harr⟩ := h b (.inScope c :: k) cs hro hb hr
  cases e with
  | normal => exact ⟨.normal, a₁, w₁, hq, .head h0 stepR_scope (StepsIn.trans harr (.one (fenced_calm hb hr rfl) stepR_inScope))⟩
  | exit id =>
    have hx : exitTo id (.inScope c :: k) = exitTo id k := by simp [exitTo]
    exact ⟨_, a₁, w₁, hq, fun k' hk => .head h0 stepR_scope (harr.1 k' (by rw [hx]; exact hk)), fun hr' hk => let ⟨k₁, h1, h2⟩ := harr.2 hr' (by rw [hx]; exact hk); ⟨k₁, h1, .head h0 stepR_scope h2⟩⟩
  | goto l => exact hq.elim
  | ret => exact ⟨_, a₁, w₁, hq, .of_steps (.one h0 stepR_scope) harr⟩
  | panic ch => exact ⟨_, a₁, w₁, hq, .of_steps (.one h0 stepR_scope) harr⟩
  | outgrown => exact ⟨_, a₁, w₁, hq, .of_steps (.one h0 stepR_scope) harr⟩

theorem evC_sound {call : Nat → List V → Heap → Option (V × Heap)} {pol : Nat → Pol} (hrun : RunOK P call) (hseq : SeqOK P pol) {again : Code → List V → Heap → Res} :
    ∀ (c : Code) (env : List V) (H : Heap) {ex : Ex} {env' : List V} {H' : Heap}, (∀ p ∈ drawn c, DrawOK P call pol p.1 p.2) →
      (∀ c' env H ex env' H', (∀ p ∈ drawn c', p ∈ drawn c) → again (.loop c') env H = some (ex, env', H') → LoopOK P c' env H ex env' H') →
      evC P call pol again c env H = some (ex, env', H') → CodeOK P c env H ex env' H' ∧ ∀ x, c = .loop x → LoopOK P x env H ex env' H' := by
  intro c
  induction c with
  | skip =>
    intro env H ex env' H' _ _ he
    simp only [evC, Option.some.injEq, Prod.mk.injEq] at he
    obtain ⟨rfl, rfl, rfl⟩ := he
    exact ⟨fun K B hB r n hr a w S m h Q hq => wpIn_skip (hq _ a w S m trivial (Step.refl ..) h (.of_eq rfl)), fun x e => by cases e⟩
  | label l =>
    intro env H ex env' H' _ _ he
    simp only [evC, Option.some.injEq, Prod.mk.injEq] at he
    obtain ⟨rfl, rfl, rfl⟩ := he
    exact ⟨fun K B hB r n hr a w S m h Q hq => wpIn_label (hq _ a w S m trivial (Step.refl ..) h (.of_eq rfl)), fun x e => by cases e⟩
  | ret =>
    intro env H ex env' H' _ _ he
    simp only [evC, Option.some.injEq, Prod.mk.injEq] at he
    obtain ⟨rfl, rfl, rfl⟩ := he
    exact ⟨fun K B hB r n hr a w S m h Q hq => wpIn_ret (hq _ a w S m trivial (Step.refl ..) h (.of_eq rfl)), fun x e => by cases e⟩
  | exit id =>
    intro env H ex env' H' _ _ he
    simp only [evC, Option.some.injEq, Prod.mk.injEq] at he
    obtain ⟨rfl, rfl, rfl⟩ := he
    exact ⟨fun K B hB r n hr a w S m h Q hq => wpIn_exit (hq _ a w S m rfl (Step.refl ..) h (.of_eq rfl)), fun x e => by cases e⟩
  | goto l => intro env H ex env' H' _ _ he; simp [evC] at he
  | refuse why => intro env H ex env' H' _ _ he; simp [evC] at he
  | rangeFunc g ps as body iha ihb =>
    intro env H ex env' H' hd hag he
    refine ⟨?_, fun x e => by cases e⟩
    simp only [evC] at he
    have dx : ∀ p ∈ drawn as, p ∈ drawn (.rangeFunc g ps as body) := fun p hp => by simp [drawn, hp]
    have dy : ∀ p ∈ drawn body, p ∈ drawn (.rangeFunc g ps as body) := fun p hp => by simp [drawn, hp]
    split at he
    · rename_i gf cap hgv
      split at he
      · rename_i items hit
        split at he
        · rename_i hfl
          simp only [Bool.and_eq_true] at hfl
          intro K B hB r n hr a w S m h Q hq
          have hrn : r = none := hr.elim id (fun q => by simp [flatC] at q)
          subst hrn
          have hx := h.eval g
          rw [hgv] at hx
          have hlt0 : gf < 1048576 := by
            unfold seqOf at hit
            split at hit
            · assumption
            · cases hit
          obtain ⟨lb, hge, hlb⟩ := hx.fn_inv0 hlt0
          obtain ⟨hent, hsq⟩ := hseq gf cap items hit
          have hlt : ∀ rb, S rb ∨ B rb → rb < w.heap.size := fun rb q => q.elim (h.sr.sub rb) (fun q => h.sr.kin rb (hB rb q))
          obtain ⟨rnd, hrnd⟩ : ∃ rnd : List V → Heap → Res, rnd = twoC ps.toList env (evC P call pol again as) (evC P call pol again body) := ⟨_, rfl⟩
          rw [← hrnd] at he
          -- the elements
          have same2 : ∀ (o1 o2 : Obj) (rb : Nat), rb < w.heap.size → ((w.alloc o1).alloc o2).heap[rb]? = w.heap[rb]? := fun o1 o2 rb q => by
            rw [RowKit.Below.heap_alloc _ _ _ (by simp; omega), RowKit.Below.heap_alloc _ _ _ q]
          have hrun' : ∀ o1 o2 : Obj, SeqRun P gf lb.toArray items.length (fun k W x => ∃ it x0, items[k]? = some it ∧ x = x0.toArray ∧ All2 (VR W S B m) it x0) (fun rb => S rb ∨ B rb) ((w.alloc o1).alloc o2) := fun o1 o2 =>
            hsq _ S B m lb (fun rb q => by rw [same2 o1 o2 rb (hlt rb (.inl q))]; exact h.sr.scel rb q) (fun rb q => by have := hlt rb (.inr q); simp; omega)
              (hlb.imp' (fun c x _ r => r.mono0 (fun rb q => same2 o1 o2 rb (hlt rb q)) (fun _ q => q) (fun i im q => ⟨im, q, Nat.le_refl _, fun _ => rfl⟩)))
          refine range_fw (gf := gf) (lb := lb.toArray) hge (enters_run hent) (N := items.length) (T := fun rb => S rb ∨ B rb) hlt
            (fun o1 o2 _ _ => hrun' o1 o2)
            (fun k W => ∃ Hk S' m', evItems env rnd (items.drop k) Hk = some (ex, env', H') ∧ Step K w S m W S' m' ∧ SR W S' K m' Hk)
            (fun c W => ∃ S' m', env' = env ∧ ex ≠ .nrm ∧ jumpOf ex = c ∧ Step K w S m W S' m' ∧ SR W S' K m' H')
            (fun k A A' row q hgr hrow => ?_) (fun c A A' row q hgr hrow => ?_) ⟨H, S, m, he, Step.refl .., h.sr⟩ ?_ ?_ ?_
          · obtain ⟨Hk, S', m', q1, q2, q3⟩ := q
            exact ⟨Hk, S', m', q1, q2.grown h.sr hgr (fun r e => (hrow r e).1), q3.grown hgr (fun r e => (hrow r e).2)⟩
          · obtain ⟨S', m', q1, q2, q3, q4, q5⟩ := q
            exact ⟨S', m', q1, q2, q3, q4.grown h.sr hgr (fun r e => (hrow r e).1), q5.grown hgr (fun r e => (hrow r e).2)⟩
          · rintro n' l k x W hk ⟨it0, x0, hit0, rfl, hv0⟩ ⟨Hk, S', m', hev, st, sr⟩ hll ⟨ol, hol, holc⟩
            · rw [List.getElem?_eq_getElem hk] at hit0
              rw [List.drop_eq_getElem_cons hk] at hev
              generalize items[k] = it at hev hit0
              cases hit0
              simp only [evItems] at hev
              obtain ⟨exb, eb, H2, hr2, hev⟩ : ∃ exb eb H2, rnd it0 Hk = some (exb, eb, H2) ∧ (match (some (exb, eb, H2) : Res) with | some (.nrm, _, H) => evItems env rnd (items.drop (k + 1)) H | some (ex, _, H) => some (ex, env, H) | none => none) = some (ex, env', H') := by
                cases hq2 : rnd it0 Hk with
                | none => rw [hq2] at hev; cases hev
                | some t => obtain ⟨exb, eb, H2⟩ := t; rw [hq2] at hev; exact ⟨exb, eb, H2, rfl, hev⟩
              rw [hrnd] at hr2
              unfold twoC at hr2
              split at hr2
              · rename_i e hpe
                split at hr2
                · rename_i e1 H1 hva
                  have hvals : All2 (VR W S' B m') it0 x0 := hv0.imp' (fun c x _ r => r.mono0 (fun _ _ => rfl) st.sub st.ext)
                  obtain ⟨p1, p2, p3, p4⟩ := put_all (t := a.tmps) hpe hvals h.len (fun q => (h.tr q).mono st hB)
                  have hfold : (ps.zip x0.toArray).foldl (fun t (p, v) => t.setIfInBounds p v) a.tmps = (ps.toList.zip x0).foldl (fun t (p, v) => t.setIfInBounds p v) a.tmps := by
                    rw [← Array.foldl_toList, Array.toList_zip]
                  refine ⟨by simpa using p1, ?_⟩
                  rw [hfold]
                  have fitA : Fit K B e { tmps := (ps.toList.zip x0).foldl (fun t (p, v) => t.setIfInBounds p v) a.tmps, defers := [] } W S' m' Hk := ⟨sr, p3, p4⟩
                  refine (iha e Hk (fun p hp => hd p (dx p hp)) (fun c' e h ex e' h' hp hh => hag c' e h ex e' h' (fun p hq => dx p (hp p hq)) hh) hva).1 K B hB (some l) n' (.inr hfl.1) _ W S' m' fitA _ (fun ex2 a1 Wa S2 m2 hex st2 fit2 mk => ?_)
                  cases ex2 <;> first | exact hex.elim | skip
                  have hTS : ∀ rb, S rb ∨ B rb → S' rb ∨ K rb := fun rb q => q.imp (st.sub rb) (hB rb)
                  refine ⟨st2.oth, fun rb q => st2.pres rb (hTS rb q), fun Wb hgb => ?_⟩
                  have hla := st2.oth.same l ol hol holc
                  have hnk : ¬ K l := fun q => by have := h.sr.kin l q; omega
                  have srB : SR Wb S2 K m2 H1 := fit2.sr.grown hgb (fun q e => by cases e; exact ⟨ol, hla, holc⟩)
                  have fitB : Fit K B e1 a1 Wb S2 m2 H1 := ⟨srB, fit2.len, fun t => VR.grown fit2.sr hB hgb (fun q e => by cases e; exact ⟨⟨ol, hla, holc⟩, hnk⟩) (fit2.tr t)⟩
                  refine (ihb e1 H1 (fun p hp => hd p (dy p hp)) (fun c' e h ex e' h' hp hh => hag c' e h ex e' h' (fun p hq => dy p (hp p hq)) hh) hr2).1 K B hB (some l) n' (.inr hfl.2) a1 Wb S2 m2 fitB _ (fun ex3 a3 W3 S3 m3 hex3 st3 fit3 mk3 => ?_)
                  have stAll : Step K w S m W3 S3 m3 := ((st.trans st2).grown h.sr hgb (fun q e => by cases e; exact hll)).trans st3
                  cases exb with
                  | nrm =>
                    cases ex3 <;> first | exact hex3.elim | skip
                    exact ⟨st3.oth, fun rb q => st3.pres rb ((hTS rb q).imp (st2.sub rb) id), H2, S3, m3, hev, stAll, fit3.sr⟩
                  | exit i =>
                    cases ex3 <;> first | exact hex3.elim | skip
                    simp only [Option.some.injEq, Prod.mk.injEq] at hev
                    obtain ⟨rfl, rfl, rfl⟩ := hev
                    have : i = _ := hex3
                    subst this
                    exact ⟨st3.oth, S3, m3, rfl, by simp, rfl, stAll, fit3.sr⟩
                  | ret =>
                    cases ex3 <;> first | exact hex3.elim | skip
                    simp only [Option.some.injEq, Prod.mk.injEq] at hev
                    obtain ⟨rfl, rfl, rfl⟩ := hev
                    exact ⟨st3.oth, S3, m3, rfl, by simp, rfl, stAll, fit3.sr⟩
                · cases hr2
              · cases hr2
          · rintro D W hD ⟨Hk, S', m', hev, st, sr⟩ hK
            rw [List.drop_of_length_le (Nat.le_refl _)] at hev
            simp only [evItems, Option.some.injEq, Prod.mk.injEq] at hev
            obtain ⟨rfl, rfl, rfl⟩ := hev
            exact hq .normal _ W S' m' trivial st ⟨sr, h.len, fun t => (h.tr t).mono st hB⟩ ⟨[D], rfl, by simp, fun D' hD' => by simp at hD'; subst hD'; exact ⟨hD, hK⟩⟩
          · rintro D c W hD ⟨S', m', rfl, hne, rfl, st, sr⟩ hK
            have mk : Marks a w { a with defers := mark D :: a.defers } W := ⟨[D], rfl, by simp, fun D' hD' => by simp at hD'; subst hD'; exact ⟨hD, hK⟩⟩
            cases ex with
            | nrm => exact absurd rfl hne
            | exit i => exact wpIn_exit (hq (.exit i) _ W S' m' rfl st ⟨sr, h.len, fun t => (h.tr t).mono st hB⟩ mk)
            | ret => exact wpIn_ret (hq .ret _ W S' m' trivial st ⟨sr, h.len, fun t => (h.tr t).mono st hB⟩ mk)
        · cases he
      · cases he
    · cases he
  | region id ops draw =>
    intro env H ex env' H' hd _ he
    refine ⟨?_, fun x e => by cases e⟩
    simp only [evC] at he
    split at he
    · rename_i env1 H1 lg ho
      split at he
      · cases he
      · rename_i hlg
        cases he
        cases draw with
        | true =>
          have : logOk ops lg = true := by simpa using hlg
          exact hd (id, ops) (by simp [drawn]) env H _ _ lg ho this
        | false =>
          intro K B hB r n hr a w S m h Q hq
          refine wpIn_region ?_
          have := ops_sound hrun hB ops.toList 0 env H [] a w S m (fun j => by simp) ho h (r := r) (n := n) (Q := Q) (fun a' w' S' m' st h' hdf => hq .normal a' w' S' m' trivial st h' (.of_eq hdf))
          rw [List.range_eq_range']
          simpa using this
    · cases he
  | seq x y ihx ihy =>
    intro env H ex env' H' hd hag he
    refine ⟨?_, fun x e => by cases e⟩
    simp only [evC] at he
    have dx : ∀ p ∈ drawn x, p ∈ drawn (.seq x y) := fun p hp => by simp [drawn, hp]
    have dy : ∀ p ∈ drawn y, p ∈ drawn (.seq x y) := fun p hp => by simp [drawn, hp]
    split at he
    · rename_i env1 H1 h1
      have a1 := ihx env H (fun p hp => hd p (dx p hp)) (fun c' e h ex e' h' hp hh => hag c' e h ex e' h' (fun p hq => dx p (hp p hq)) hh) h1 |>.1
      have a2 := ihy env1 H1 (fun p hp => hd p (dy p hp)) (fun c' e h ex e' h' hp hh => hag c' e h ex e' h' (fun p hq => dy p (hp p hq)) hh) he |>.1
      intro K B hB r n hr a w S m h Q hq
      refine wpIn_seq (a1 K B hB r n (hr.imp id (fun q => by simp only [flatC, Bool.and_eq_true] at q; exact q.1)) a w S m h _ (fun e a' w' S' m' hex st h' hdf => ?_))
      cases e <;> first | exact hex.elim | skip
      exact a2 K B hB r n (hr.imp id (fun q => by simp only [flatC, Bool.and_eq_true] at q; exact q.2)) a' w' S' m' h' Q (fun e a'' w'' S'' m'' hex' st' h'' hdf' => hq e a'' w'' S'' m'' hex' (st.trans st') h'' (hdf.trans hdf' st'.oth st.size))
    · rename_i hne
      have a1 := ihx env H (fun p hp => hd p (dx p hp)) (fun c' e h ex e' h' hp hh => hag c' e h ex e' h' (fun p hq => dx p (hp p hq)) hh) he |>.1
      intro K B hB r n hr a w S m h Q hq
      refine wpIn_seq (a1 K B hB r n (hr.imp id (fun q => by simp only [flatC, Bool.and_eq_true] at q; exact q.1)) a w S m h _ (fun e a' w' S' m' hex st h' hdf => ?_))
      cases e with
      | normal =>
        cases ex with
        | nrm => exact absurd he (hne _ _)
        | exit => exact hex.elim
        | ret => exact hex.elim
      | _ => exact hq _ a' w' S' m' hex st h' hdf
  | cond c x y ihx ihy =>
    intro env H ex env' H' hd hag he
    refine ⟨?_, fun x e => by cases e⟩
    simp only [evC] at he
    have dx : ∀ p ∈ drawn x, p ∈ drawn (.cond c x y) := fun p hp => by simp [drawn, hp]
    have dy : ∀ p ∈ drawn y, p ∈ drawn (.cond c x y) := fun p hp => by simp [drawn, hp]
    split at he
    · rename_i hc
      have a1 := ihx env H (fun p hp => hd p (dx p hp)) (fun c' e h ex e' h' hp hh => hag c' e h ex e' h' (fun p hq => dx p (hp p hq)) hh) he |>.1
      intro K B hB r n hr a w S m h Q hq
      have hx := h.eval c
      rw [hc] at hx
      exact wpIn_cond_true hx.bool_inv (a1 K B hB r n (hr.imp id (fun q => by simp only [flatC, Bool.and_eq_true] at q; exact q.1)) a w S m h Q hq)
    · rename_i hc
      have a1 := ihy env H (fun p hp => hd p (dy p hp)) (fun c' e h ex e' h' hp hh => hag c' e h ex e' h' (fun p hq => dy p (hp p hq)) hh) he |>.1
      intro K B hB r n hr a w S m h Q hq
      have hx := h.eval c
      rw [hc] at hx
      exact wpIn_cond_false hx.bool_inv (a1 K B hB r n (hr.imp id (fun q => by simp only [flatC, Bool.and_eq_true] at q; exact q.2)) a w S m h Q hq)
    · cases he
  | block id x ih =>
    intro env H ex env' H' hd hag he
    refine ⟨?_, fun x e => by cases e⟩
    simp only [evC] at he
    have dx : ∀ p ∈ drawn x, p ∈ drawn (.block id x) := fun p hp => by simpa [drawn] using hp
    split at he
    · rename_i j env1 H1 h1
      have a1 := ih env H (fun p hp => hd p (dx p hp)) (fun c' e h ex e' h' hp hh => hag c' e h ex e' h' (fun p hq => dx p (hp p hq)) hh) h1 |>.1
      intro K B hB r n hr a w S m h Q hq
      refine wpIn_block (a1 K B hB r n hr a w S m h _ (fun e a' w' S' m' hex st h' hdf => ?_))
      cases e <;> first | exact hex.elim | skip
      rename_i j'
      have : j = j' := hex
      subst this
      simp only [Exit.inBlock]
      split at he
      · rename_i hj
        cases he
        rw [if_pos hj]
        exact hq .normal a' w' S' m' trivial st h' hdf
      · rename_i hj
        cases he
        rw [if_neg hj]
        exact hq (.exit j) a' w' S' m' rfl st h' hdf
    · rename_i hne
      have a1 := ih env H (fun p hp => hd p (dx p hp)) (fun c' e h ex e' h' hp hh => hag c' e h ex e' h' (fun p hq => dx p (hp p hq)) hh) he |>.1
      intro K B hB r n hr a w S m h Q hq
      refine wpIn_block (a1 K B hB r n hr a w S m h _ (fun e a' w' S' m' hex st h' hdf => ?_))
      cases e with
      | exit j =>
        cases ex with
        | exit i => exact absurd he (hne _ _ _)
        | nrm => exact hex.elim
        | ret => exact hex.elim
      | _ => exact hq _ a' w' S' m' hex st h' hdf
  | scope x ih =>
    intro env H ex env' H' hd hag he
    refine ⟨?_, fun x e => by cases e⟩
    simp only [evC] at he
    have dx : ∀ p ∈ drawn x, p ∈ drawn (.scope x) := fun p hp => by simpa [drawn] using hp
    have a1 := (ih env H (fun p hp => hd p (dx p hp)) (fun c' e h ex e' h' hp hh => hag c' e h ex e' h' (fun p hq => dx p (hp p hq)) hh) he).1
    intro K B hB r n hr a w S m h Q hq
    refine wpIn_scope (a1 K B hB r n hr a w S m h _ (fun e a' w' S' m' hex st h' hdf => ?_))
    cases e with
    | goto l => cases ex <;> exact hex.elim
    | _ => exact hq _ a' w' S' m' hex st h' hdf
  | loop x ih =>
    intro env H ex env' H' hd hag he
    simp only [evC] at he
    have dx : ∀ p ∈ drawn x, p ∈ drawn (.loop x) := fun p hp => by simpa [drawn] using hp
    have L : LoopOK P x env H ex env' H' := by
      split at he
      · rename_i env1 H1 h1
        have a1 := (ih env H (fun p hp => hd p (dx p hp)) (fun c' e h ex e' h' hp hh => hag c' e h ex e' h' (fun p hq => dx p (hp p hq)) hh) h1).1
        obtain ⟨j, hn⟩ := hag x env1 H1 ex env' H' (fun p hp => dx p hp) he
        refine ⟨j + 1, fun K B hB r n hr a w S m h Q hq => ?_⟩
        refine a1 K B hB r n hr a w S m h _ (fun e a' w' S' m' hex st h' hdf => ?_)
        cases e <;> first | exact hex.elim | skip
        exact hn K B hB r n hr a' w' S' m' h' Q (fun e a'' w'' S'' m'' hex' st' h'' hdf' => hq e a'' w'' S'' m'' hex' (st.trans st') h'' (hdf.trans hdf' st'.oth st.size))
      · rename_i hne
        have a1 := (ih env H (fun p hp => hd p (dx p hp)) (fun c' e h ex e' h' hp hh => hag c' e h ex e' h' (fun p hq => dx p (hp p hq)) hh) he).1
        refine ⟨1, fun K B hB r n hr a w S m h Q hq => ?_⟩
        refine a1 K B hB r n hr a w S m h _ (fun e a' w' S' m' hex st h' hdf => ?_)
        cases e with
        | normal =>
          cases ex with
          | nrm => exact absurd he (hne _ _)
          | exit => exact hex.elim
          | ret => exact hex.elim
        | _ => exact hq _ a' w' S' m' hex st h' hdf
    refine ⟨fun K B hB r n hr a w S m h Q hq => ?_, fun y e => by cases e; exact L⟩
    obtain ⟨j, hn⟩ := L
    exact loop_fw j (hn K B hB r n hr a w S m h Q hq)
end
end Go.Proofs.Ytieapebabncliaa.Iv

namespace Go.Proofs.Ytieapebabncliaa.Iv
open Go
set_option linter.unusedVariables false
set_option linter.unusedSimpArgs false
section
variable {P : Program} {K B : Nat → Prop} {w : World} {S : Nat → Prop} {m : Map} {H : Heap}

theorem result_sound {env : List V} {a : Act} (h : Fit K B env a w S m H) {r : ResultVar} {v : V} (he : evResult P H env r = some v) :
    ∃ x, ((match r with | .tmp t => pure (a.tmps.getD t undef) | .cell ad t => do loadVar t (← asAddr (a.tmps.getD ad undef))) : Sem Value).run P w = .ok x w ∧ VR w S B m v x := by
  cases r with
  | tmp t => simp only [evResult, Option.some.injEq] at he; subst he; exact ⟨_, rfl, h.tr t⟩
  | cell ad t =>
    simp only [evResult] at he
    cases hl : evLoad P H t (env.getD ad .und) with
    | none => rw [hl] at he; cases he
    | some out =>
      rw [hl] at he
      simp only [Option.map_some, Option.some.injEq] at he
      subst he
      obtain ⟨_, y, hr, hy⟩ := load_val (P := P) h.sr hl (h.tr ad)
      refine ⟨y, ?_, hy⟩
      have hp : ∃ q, a.tmps.getD ad undef = .pointer (some q) := by
        have hx := h.tr ad
        unfold evLoad at hl
        split at hl
        · rename_i e; rw [e] at hx; exact hx.ptr_shape
        · rename_i e; rw [e] at hx; obtain ⟨rb, o, vals, e1, _⟩ := hx.fptr_inv; exact ⟨_, e1⟩
        · cases hl
      obtain ⟨q, hq⟩ := hp
      rw [hq] at hr
      simp only [hq]
      simpa [Instr.loadAt, Instr.sureAddr, asAddr] using hr

theorem results_list {env : List V} {a : Act} (h : Fit K B env a w S m H) : ∀ {rs : List ResultVar} {vs : List V}, evResults P H env rs = some vs →
    ∃ xs : List Value, (rs.mapM (fun r => ((match r with | .tmp t => pure (a.tmps.getD t undef) | .cell ad t => do loadVar t (← asAddr (a.tmps.getD ad undef))) : Sem Value))).run P w = .ok xs w ∧ All2 (VR w S B m) vs xs
  | [], vs, he => by simp [evResults] at he; subst he; exact ⟨[], by simp, trivial⟩
  | r :: rs, vs, he => by
    simp only [evResults] at he
    split at he
    · rename_i v vs' h1 h2
      cases he
      obtain ⟨x, hr, hx⟩ := result_sound h h1
      obtain ⟨xs, hrs, hxs⟩ := results_list h h2
      exact ⟨x :: xs, by simp only [List.mapM_cons, Sem.run_bind, hr, Result.andThen_ok, hrs, Sem.run_pure], ⟨hx, hxs⟩⟩
    · cases he

/-- the code of a function is one whose drawn regions are known to be sound -/
def GoodC (C : Cfg) (c : Code) : Prop := ∀ call, RunOK C.P call → ∀ p ∈ drawn c, DrawOK C.P call C.pol p.1 p.2
structure CfgOK (C : Cfg) : Prop where
  seq : SeqOK C.P C.pol
  name : ∀ f ∈ C.good, ∀ fn, C.P.funcs[f]? = some fn → (fn.name == "runtime.NumGoroutine") = false
  ext : RunOK C.P C.extern
  code : ∀ f ∈ C.good, ∀ fn c, C.P.funcs[f]? = some fn → fn.body = some c → GoodC C c

theorem body_sound {C : Cfg} (hC : CfgOK C) {call : Nat → List V → Heap → Option (V × Heap)} (hrun : RunOK C.P call) {again : Code → List V → Heap → Res}
    (hag : ∀ c' env H ex env' H', GoodC C c' → again (.loop c') env H = some (ex, env', H') → LoopOK C.P c' env H ex env' H') :
    RunOK C.P (evBody C call again) := by
  refine ⟨fun f args H r he => ?_, fun f args H r H' he w S K B m vs h hB hx => ?_⟩
  · unfold evBody at he
    split at he
    · rename_i hg
      split at he
      · rename_i fn hf
        split at he
        · rename_i c hc
          exact ⟨fn, hf, by rw [hc]; rfl, hC.name f (by simpa using hg) fn hf⟩
        · cases he
      · cases he
    · cases he
  · unfold evBody at he
    split at he
    · rename_i hg
      split at he
      · rename_i fn hf
        split at he
        · rename_i c hc
          split at he
          · rename_i hlen
            have hgc := hC.code f (by simpa using hg) fn c hf hc
            have hxl := hx.len
            have fit0 : Fit K B (args ++ List.replicate (fn.ntmps - args.length) .und) { tmps := vs.toArray ++ Array.replicate (fn.ntmps - vs.toArray.size) undef, defers := [] } w S m H := by
              refine ⟨h, by simp [hxl], fun t => ?_⟩
              rcases Nat.lt_or_ge t args.length with q | q
              · have h1 : (args ++ List.replicate (fn.ntmps - args.length) V.und).getD t .und = args[t] := by simp [List.getD, List.getElem?_append_left q, q]
                obtain ⟨x, e1, e2⟩ := hx.get (List.getElem?_eq_getElem q)
                have h2 : (vs.toArray ++ Array.replicate (fn.ntmps - vs.toArray.size) undef).getD t undef = x := by
                  rw [Array.getD_eq_getD_getElem?, Array.getElem?_append_left (by simpa [hxl] using q)]
                  simp [e1]
                rw [h1]; simp only; rw [h2]; exact e2
              · have h1 : (args ++ List.replicate (fn.ntmps - args.length) V.und).getD t .und = .und := by
                  simp only [List.getD, List.getElem?_append_right q, List.getElem?_replicate]
                  split <;> rfl
                rw [h1]; exact .und _
            split at he
            · cases he
            · rename_i ex env1 H1 hnex hev
              have CO := (evC_sound hrun hC.seq c _ _ (hgc call hrun) (fun c' env H ex env' H' hp hh => hag c' env H ex env' H' (fun call hr p hq => hgc call hr p (hp p hq)) hh) hev).1
              have hres : ∃ vs1, evResults C.P H1 env1 fn.results.toList = some vs1 ∧ H' = H1 ∧ r = (match vs1 with | [v] => v | vs => .tup vs) := by
                split at he
                · rename_i v hv; cases he; exact ⟨_, hv, rfl, rfl⟩
                · rename_i vs1 hne hv
                  cases he
                  refine ⟨_, hv, rfl, ?_⟩
                  split
                  · exact absurd rfl (hne _)
                  · rfl
                · cases he
              obtain ⟨vs1, hv1, rfl, hr⟩ := hres
              refine (callsIn_fw (r := none) (n := 0)).1 (callsIn_of_wp_marks hf hc trivial (CO K B hB none 0 (.inl rfl) _ w S m fit0 _ (fun e a' w' S' m' hex st fit' hmk => ?_)))
              obtain ⟨ms, hd, hnd, hms⟩ := hmk
              simp only [List.append_nil] at hd
              have fin : LeavesInM (Fw none) 0 C.P fn a'.tmps (fun e w' => ∃ x S' m', e = .returned x ∧ Step K w S m w' S' m' ∧ SR w' S' K m' H' ∧ VR w' S' B m' r x) a'.defers .returning w' := by
                rw [hd]
                clear hd
                revert w'
                induction ms with
                | nil =>
                  intro w' st fit' hms
                  obtain ⟨xs, hxs, h2⟩ := results_list fit' hv1
                  have hval : ∃ x, (results fn a'.tmps).run C.P w' = .ok x w' ∧ VR w' S' B m' r x := by
                    have hmap : (results fn a'.tmps).run C.P w' = .ok (if h : xs.toArray.size = 1 then xs.toArray[0] else .tuple xs.toArray) w' := by
                      unfold results
                      rw [Array.mapM_eq_mapM_toList]
                      simp only [Sem.run_bind, Sem.run_map]
                      generalize hq : Sem.run C.P (List.mapM _ fn.results.toList) w' = rr
                      have hrr : rr = .ok xs w' := hq.symm.trans hxs
                      rw [hrr]
                      rfl
                    refine ⟨_, hmap, ?_⟩
                    rw [hr]
                    cases vs1 with
                    | nil =>
                      cases xs with
                      | nil => exact VR.tup_mk h2
                      | cons => exact h2.elim
                    | cons v vr =>
                      cases xs with
                      | nil => exact h2.elim
                      | cons x xr =>
                        cases vr with
                        | nil =>
                          cases xr with
                          | nil => exact h2.1
                          | cons => exact h2.2.elim
                        | cons v2 vr2 =>
                          cases xr with
                          | nil => exact h2.2.elim
                          | cons x2 xr2 =>
                            rw [dif_neg (by simp)]
                            exact VR.tup_mk h2
                  obtain ⟨x, hrx, hvx⟩ := hval
                  exact ⟨x, hrx, x, S', m', rfl, st, fit'.sr, hvx⟩
                | cons D ms ih =>
                  intro w' st fit' hms
                  obtain ⟨hD, hDd⟩ := hms D (by simp)
                  have hgr : w'.grownBy (w'.putObj D (.deferred none)) (some D) := grownBy_putObj' ..
                  have hrow : ∀ q, some D = some q → ∃ o : Obj, w'.heap[q]? = some o ∧ o.isCells = false := fun q e => by cases e; exact ⟨_, hDd, rfl⟩
                  have hnk : ¬ K D := fun q => by have := h.kin D q; omega
                  refine ⟨by simp, .inl ⟨D, _, rfl, run_takeDeferred hDd, ?_⟩⟩
                  refine ih (List.nodup_cons.1 hnd).2 _ (st.grown h hgr (fun q e => by cases e; exact hD)) ⟨fit'.sr.grown hgr hrow, fit'.len, fun t => VR.grown fit'.sr hB hgr (fun q e => ⟨hrow q e, by cases e; exact hnk⟩) (fit'.tr t)⟩ (fun D' hD' => ?_)
                  have hne : D' ≠ D := fun e => by subst e; exact (List.nodup_cons.1 hnd).1 hD'
                  exact ⟨(hms D' (by simp [hD'])).1, (World.putObj_heap_other hne).trans (hms D' (by simp [hD'])).2⟩
              cases ex with
              | exit i => exact absurd rfl (hnex i)
              | nrm => cases e <;> first | exact hex.elim | exact fin
              | ret => cases e <;> first | exact hex.elim | exact fin
            · cases he
          · cases he
        · cases he
      · cases he
    · cases he

theorem fun_sound {C : Cfg} (hC : CfgOK C) {call : Nat → List V → Heap → Option (V × Heap)} (hrun : RunOK C.P call) {again : Code → List V → Heap → Res}
    (hag : ∀ c' env H ex env' H', GoodC C c' → again (.loop c') env H = some (ex, env', H') → LoopOK C.P c' env H ex env' H') :
    RunOK C.P (evFun C call again) := by
  have hb := body_sound hC hrun hag
  refine ⟨fun f args H r he => ?_, fun f args H r H' he => ?_⟩ <;> unfold evFun at he <;> split at he
  · exact hC.ext.good f args H r he
  · exact hb.good f args H r he
  · exact hC.ext.ok f args H r H' he
  · exact hb.ok f args H r H' he

theorem run_sound {C : Cfg} (hC : CfgOK C) : ∀ n, RunOK C.P (run C n) ∧
    ∀ c' env H ex env' H', GoodC C c' → again C n (.loop c') env H = some (ex, env', H') → LoopOK C.P c' env H ex env' H'
  | 0 => ⟨⟨fun f args H r he => by simp [run] at he, fun f args H r H' he => by simp [run] at he⟩, fun c env H ex env' H' _ he => by simp [again] at he⟩
  | n + 1 => by
    obtain ⟨hr, ha⟩ := run_sound hC n
    refine ⟨?_, fun c env H ex env' H' hg he => ?_⟩
    · have : run C (n + 1) = evFun C (run C n) (again C n) := by funext f args H; rfl
      rw [this]
      exact fun_sound hC hr ha
    · have he' : evC C.P (run C n) C.pol (again C n) (.loop c) env H = some (ex, env', H') := he
      exact (evC_sound hr hC.seq (.loop c) env H (fun p hp => hg _ hr p (by simpa [drawn] using hp)) (fun c' env H ex env' H' hp hh => ha c' env H ex env' H' (fun call hcr p hq => hg call hcr p (by simpa [drawn] using hp p hq)) hh) he').2 c rfl
end
end Go.Proofs.Ytieapebabncliaa.Iv

namespace Go.Proofs.Ytieapebabncliaa.Iv
open Go
set_option linter.unusedVariables false
set_option linter.unusedSimpArgs false

/-! ### what an operation reads of the heap is what it says that it reads -/
theorem live_same {H H' : Heap} {i : Id} (h : H' i = H i) (g : Nat) : live H' i g = live H i g := by unfold live; rw [h]
theorem next_same {H H' : Heap} {i : Id} (h : H' i = H i) : nextGen H' i = nextGen H i := by unfold nextGen; rw [h]

section
variable {P : Program} {H H' : Heap}

theorem load_loc {t : Nat} {a : V} {out : Out} (he : evLoad P H t a = some out) (hl : ∀ i ∈ out.rd, H' i = H i) : evLoad P H' t a = some out := by
  unfold evLoad at he ⊢
  split at he
  · split at he
    · split at he
      · split at he
        · cases he
          simp only [*, live_same (hl _ (List.mem_singleton_self _))]
        · cases he
      · cases he
    · cases he
  · exact he
  · cases he
theorem store_loc {t : Nat} {a v : V} {out : Out} (he : evStore P H t a v = some out) (hl : ∀ i ∈ out.rd, H' i = H i) : evStore P H' t a v = some out := by
  unfold evStore at he ⊢
  split at he
  · split at he
    · split at he
      · cases he
        rename_i hc
        simp only [*, live_same (hl _ (List.mem_singleton_self _))]
        simp
      · cases he
    · cases he
  · cases he
theorem box_loc {d : Nat} {cs : List V} {out : Out} (he : evBox H d cs = some out) (hl : ∀ i ∈ out.rd, H' i = H i) : evBox H' d cs = some out := by
  unfold evBox at he ⊢
  split at he
  · cases he
    rename_i hc
    rw [if_pos hc, next_same (hl _ (List.mem_singleton_self _))]
  · cases he
theorem boxA_loc {d : Nat} {cs : List V} {out : Out} (he : evBoxA H d cs = some out) (hl : ∀ i ∈ out.rd, H' i = H i) : evBoxA H' d cs = some out := by
  unfold evBoxA at he ⊢
  split at he
  · cases he
    rename_i hc
    rw [if_pos hc, next_same (hl _ (List.mem_singleton_self _))]
  · cases he
theorem boxO_loc {d : Nat} {v : V} {out : Out} (he : boxO H d v = some out) (hl : ∀ i ∈ out.rd, H' i = H i) : boxO H' d v = some out := by
  unfold boxO at he ⊢
  split at he
  · exact he
  · exact box_loc he hl
theorem keep1_loc {v : V} {out : Out} (he : keep1 H v = some out) (hl : ∀ i ∈ out.rd, H' i = H i) : keep1 H' v = some out := by
  unfold keep1 at he ⊢
  split at he
  · split at he
    · split at he
      · split at he
        · cases he
          rename_i hc
          simp only [*, live_same (hl _ (List.mem_singleton_self _))]
          simp
        · cases he
      · cases he
    · cases he
  all_goals exact he
theorem keepL_loc : ∀ {cs : List V} {out : List V × List (Id × Blk) × List Id}, keepL H cs = some out → (∀ i ∈ out.2.2, H' i = H i) → keepL H' cs = some out
  | [], out, he, _ => he
  | v :: r, out, he, hl => by
    simp only [keepL] at he ⊢
    split at he
    · rename_i v' u d hv
      split at he
      · rename_i vs us ds hr
        cases he
        rw [keep1_loc hv (fun i hi => hl i (by simp only [List.mem_append]; exact .inl hi)), keepL_loc hr (fun i hi => hl i (by simp only [List.mem_append]; exact .inr hi))]
      · cases he
    · cases he
theorem keepV_loc {v : V} {out : Out} (he : keepV H v = some out) (hl : ∀ i ∈ out.rd, H' i = H i) : keepV H' v = some out := by
  unfold keepV at he ⊢
  split at he
  · split at he
    · rename_i hk
      cases he
      simp only [keepL_loc hk hl]
    · cases he
  · exact keep1_loc he hl
theorem keepR_loc {v : V} {out : Out} (he : (if v.isRef = true then pureO v else keepV H v) = some out) (hl : ∀ i ∈ out.rd, H' i = H i) : (if v.isRef = true then pureO v else keepV H' v) = some out := by
  split at he
  · rename_i hr; rw [if_pos hr]; exact he
  · rename_i hr; rw [if_neg hr]; exact keepV_loc he hl
theorem keepParts_loc : ∀ {ps : List (Nat × V)} {out : List (Nat × List V) × List (Id × Blk) × List Id}, keepParts H ps = some out → (∀ i ∈ out.2.2, H' i = H i) → keepParts H' ps = some out
  | [], out, he, _ => he
  | (i, v) :: r, out, he, hl => by
    simp only [keepParts] at he ⊢
    split at he
    · rename_i v' u d hv
      split at he
      · rename_i vs us ds hr
        cases he
        rw [keepR_loc hv (fun i hi => hl i (by simp only [List.mem_append]; exact .inl hi)), keepParts_loc hr (fun i hi => hl i (by simp only [List.mem_append]; exact .inr hi))]
      · cases he
    · cases he
theorem buildSlice_loc {d t len : Nat} {ps : List (Nat × V)} {out : Out} (he : evBuildSlice P H d t len ps = some out) (hl : ∀ i ∈ out.rd, H' i = H i) : evBuildSlice P H' d t len ps = some out := by
  unfold evBuildSlice at he ⊢
  split at he
  · split at he
    · split at he
      · rename_i hc
        split at he
        · rename_i hk
          split at he
          · split at he
            · rename_i hk2
              cases he
              have e1 := keepParts_loc hk (fun i hi => hl i (List.mem_cons_of_mem _ hi))
              have e2 := next_same (hl _ List.mem_cons_self)
              simp only [*]
              simp
            · cases he
          · cases he
        · cases he
      · cases he
    · cases he
  · cases he
theorem makeSlice_loc {d t : Nat} {l c : V} {out : Out} (he : evMakeSlice P H d t l c = some out) (hl : ∀ i ∈ out.rd, H' i = H i) : evMakeSlice P H' d t l c = some out := by
  unfold evMakeSlice at he ⊢
  split at he
  · split at he
    · split at he
      · rename_i hc
        cases he
        rename_i h1 h2 h3 _
        rw [next_same (hl _ (List.mem_singleton_self _))]
        simp [*]
      · cases he
    · cases he
  · cases he
theorem src_loc {sz : Nat} {v : V} {out : List V × Nat × Bool × List Id} (he : src H sz v = some out) (hl : ∀ i ∈ out.2.2.2, H' i = H i) : src H' sz v = some out := by
  unfold src at he ⊢
  split at he
  · split at he
    · split at he
      · split at he
        · cases he
          rename_i hc
          subst hc
          simp only [*, live_same (hl _ (List.mem_singleton_self _))]
          simp
        · cases he
      · cases he
    · cases he
  all_goals exact he

theorem mem_c {α : Type} {a b : α} {l : List α} (h : a ∈ l) : a ∈ b :: l := List.mem_cons_of_mem _ h

theorem appSrc_loc {sz : Nat} {z : List V} {xT : Nat} {b : V} {r : List V × Nat × Bool × List Id} (hr : appSrc P H sz z xT b = some r) (hl : ∀ i ∈ r.2.2.2, H' i = H i) : appSrc P H' sz z xT b = some r := by
  unfold appSrc at hr ⊢
  split at hr
  · exact hr
  · exact hr
  · exact src_loc hr hl
  · cases hr
theorem append_loc {d sT xT : Nat} {a b : V} {out : Out} (he : evAppend P H d sT xT a b = some out) (hl : ∀ i ∈ out.rd, H' i = H i) : evAppend P H' d sT xT a b = some out := by
  unfold evAppend at he ⊢
  split at he
  · split at he
    · rename_i sz by_ z hs hb hz
      split at he
      · rename_i cs k fl rd hsrc
        have hsrc' := fun h => appSrc_loc (H' := H') hsrc h
        split at he
        · rename_i hq
          split at he
          · split at he
            · cases he
              have e1 := hsrc' hl
              simp only [e1]
              simp [*]
            · split at he
              · cases he
                have e1 := hsrc' (fun i hi => hl i (mem_c hi))
                have e2 := next_same (hl _ List.mem_cons_self)
                simp only [e1, e2]
                simp [*]
              · cases he
          · split at he
            · cases he
              have e1 := hsrc' hl
              simp only [e1]
              simp [*]
            · split at he
              · cases he
                have e1 := hsrc' (fun i hi => hl i (mem_c hi))
                have e2 := next_same (hl _ List.mem_cons_self)
                simp only [e1, e2]
                simp [*]
              · cases he
          · split at he
            · cases he
              have e1 := hsrc' hl
              simp only [e1]
              simp [*]
            · cases he
          · split at he
            · rename_i bb hbb
              split at he
              · rename_i hc
                split at he
                · split at he
                  · cases he
                    have e1 := hsrc' (fun i hi => hl i (mem_c hi))
                    have e2 := live_same (hl _ List.mem_cons_self)
                    simp only [e1, e2, hbb]
                    rw [if_pos hq, if_pos hc]
                    simp [*]
                  · split at he
                    · cases he
                      have e1 := hsrc' (fun i hi => hl i (mem_c hi))
                      have e2 := live_same (hl _ List.mem_cons_self)
                      simp only [e1, e2, hbb]
                      rw [if_pos hq, if_pos hc]
                      simp [*]
                    · cases he
                · split at he
                  · split at he
                    · cases he
                      have e1 := hsrc' (fun i hi => hl i (mem_c hi))
                      have e2 := live_same (hl _ List.mem_cons_self)
                      simp only [e1, e2, hbb]
                      rw [if_pos hq, if_pos hc]
                      simp [*]
                    · cases he
                  · split at he
                    · cases he
                      have e1 := hsrc' (fun i hi => hl i (mem_c (mem_c hi)))
                      have e2 := live_same (hl _ List.mem_cons_self)
                      have e3 := next_same (hl _ (mem_c List.mem_cons_self))
                      simp only [e1, e2, hbb, e3]
                      rw [if_pos hq, if_pos hc]
                      simp [*]
                    · cases he
              · cases he
            · cases he
          · cases he
        · cases he
      · cases he
    · cases he
  · cases he
end
end Go.Proofs.Ytieapebabncliaa.Iv
