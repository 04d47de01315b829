import Derived.Test.YtieapebabncliaaX0
import Derived.Shelf.SlSortCmp.WholeK
namespace Go.Proofs.Ytieapebabncliaa.X
open Go.RowKit Go.Proofs.YtieapebabncliaaW.PrintWords Go.Proofs.YtieapebabncliaaW.PrintLast Go.Proofs.YtieapebabncliaaW.PrintMore
set_option linter.unusedVariables false
set_option linter.unusedSimpArgs false
section
open Go.Sort
section
variable {α : Type} [Inhabited α] {enc : α → List Value} {k : Nat} {d : Kd α} {w : World} {base e : Nat}
structure Flat (d : Kd α) (enc : α → List Value) (k : Nat) : Prop where
 sz : d.sz = k
 pos : 0 < k
 len : ∀ x, (enc x).length = k
 one : ∀ x, ∀ v ∈ enc x, v.oneCell' = true
 M : ∀ w base ok x cs, d.M w base ok x cs ↔ cs = enc x
theorem flat_get (l : List α) (t : Nat) (h : t < l.length * k) (hk : 0 < k) : ∃ p, l[t / k]? = some p ∧ (flatK enc k l.toArray)[t]! = (enc p)[t % k]! := by
 have hlt : t / k < l.length := Nat.div_lt_of_lt_mul (by rw [Nat.mul_comm]; exact h)
 refine ⟨l[t / k], List.getElem?_eq_getElem hlt, ?_⟩
 rw [get_flatK enc k _ t (by simpa using h)]
 simp [hlt]
theorem flat_get? (l : List α) (t : Nat) (h : t < l.length * k) : (flatK enc k l.toArray).toList[t]? = some (flatK enc k l.toArray)[t]! := by
 have hs : t < (flatK enc k l.toArray).size := by simpa using h
 rw [Array.getElem?_toList, Array.getElem?_eq_getElem hs, getElem!_pos _ t hs]
theorem reps_flat (F : Flat d enc k) {ok : Nat → Prop} {l : List α} {inner : List Value} (h : Reps (d.M w base ok) d.sz l inner) : inner = (flatK enc k l.toArray).toList := by
 rw [F.sz] at h
 apply List.ext_getElem?
 intro t
 by_cases ht : t < l.length * k
 ·obtain ⟨p, hp, hq⟩ := flat_get (enc := enc) l t ht F.pos
  have hm := (F.M _ _ _ _ _).1 (h.2 (t / k) p hp)
  rw [flat_get? l t ht, hq]
  have hmod : t % k < k := Nat.mod_lt _ F.pos
  have h2 : ((inner.drop (t / k * k)).take k)[t % k]? = inner[t]? := by
   rw [List.getElem?_take, if_pos hmod, List.getElem?_drop, Nat.div_add_mod']
  rw [← h2, hm]
  have hl : t % k < (enc p).length := by rw [F.len]; exact hmod
  rw [List.getElem?_eq_getElem hl, getElem!_pos (enc p) _ hl]
 ·rw [List.getElem?_eq_none (by rw [h.1]; omega), List.getElem?_eq_none (by simp; omega)]
theorem flat_reps (F : Flat d enc k) (w : World) (base : Nat) (ok : Nat → Prop) (l : List α) : Reps (d.M w base ok) d.sz l (flatK enc k l.toArray).toList := by
 rw [F.sz]
 refine ⟨by simp, fun j p hp => (F.M _ _ _ _ _).2 ?_⟩
 obtain ⟨hj, hjp⟩ := List.getElem?_eq_some_iff.1 hp
 have hb : j * k + k ≤ l.length * k := by
  have := Nat.mul_le_mul_right k (show j + 1 ≤ l.length from hj); rwa [Nat.add_mul, Nat.one_mul] at this
 apply List.ext_getElem?
 intro t
 rw [List.getElem?_take, List.getElem?_drop]
 by_cases ht : t < k
 ·rw [if_pos ht, flat_get? l _ (by omega)]
  obtain ⟨p', hp', hq⟩ := flat_get (enc := enc) l (j * k + t) (by omega) F.pos
  have e1 : (j * k + t) / k = j := by
   rw [Nat.add_comm, Nat.add_mul_div_right _ _ F.pos, Nat.div_eq_of_lt ht, Nat.zero_add]
  have e2 : (j * k + t) % k = t := by
   rw [Nat.add_comm, Nat.add_mul_mod_self_right, Nat.mod_eq_of_lt ht]
  rw [e1, hp] at hp'
  obtain rfl := Option.some.inj hp'
  rw [hq, e2]
  have hl : t < (enc p).length := by rw [F.len]; exact ht
  rw [List.getElem?_eq_getElem hl, getElem!_pos (enc p) _ hl]
 ·rw [if_neg ht, List.getElem?_eq_none (by rw [F.len]; omega)]
theorem R_holds (F : Flat d enc k) {ok : Nat → Prop} {g n c : Nat} {l : List α} (h : d.R e w base ok (.slice (some ⟨g, 0, none⟩) n c) l) :
  HoldsK enc k w g 0 l.toArray ∧ g < w.heap.size ∧ n = l.length := by
 have hn := (Kd.R_reads' h).1
 obtain ⟨_, inner, ho, hr⟩ := h
 have hi := reps_flat F hr
 rw [F.sz] at ho
 subst hn
 refine ⟨fun j hj => ?_, (World.ownsRow.lt ho g (by simp [Value.ownBlock])).2, rfl⟩
 have hj' : j < l.length * k := by simpa using hj
 rw [Nat.zero_add]
 refine ⟨?_, World.ownsRow.frozenAt ho j⟩
 rw [World.ownsRow.cellAt ho j hj', hi, flat_get? l j hj']
 rfl
theorem toList_take_put (F : Array Value) (cur : Array Value) (h : F.size ≤ cur.size) : ((putCells id 0 F cur).toList).take F.size = F.toList := by
 apply List.ext_getElem?
 intro t
 rw [List.getElem?_take]
 by_cases ht : t < F.size
 ·rw [if_pos ht]
  have hs : t < cur.size := by omega
  simp [putCells, ht, hs]
 ·rw [if_neg ht, List.getElem?_eq_none (by simpa using ht)]
theorem R_sorted (F : Flat d enc k) {ok : Nat → Prop} {g n c m : Nat} {l : List α} {d' : Array α} {os : Array Obj} (h : d.R e w base ok (.slice (some ⟨g, 0, none⟩) n c) l) (hd : d'.size = l.length) :
  d.R e (sortWorldK enc k w g 0 m d' os) base ok (.slice (some ⟨g, 0, none⟩) n c) d'.toList ∧ w.grownBy (sortWorldK enc k w g 0 m d' os) (some g) := by
 have hn := (Kd.R_reads' h).1
 obtain ⟨hok, inner, ho, hr⟩ := h
 obtain ⟨hl, hrow⟩ := ho
 have hsz : (sortWorldK enc k w g 0 m d' os).heap = (w.heap.modify g (onCells (putCells id 0 (flatK enc k d')))) ++ os := rfl
 have hd1 : d'.toList.length = n := by rw [Array.length_toList, hd, hn]
 rw [F.sz] at hl
 rcases hrow with ⟨h1, _⟩ | ⟨g', cap, cur, h1, hg, hh, hnc, hcm, hcs, htake⟩
 ·simp at h1
 ·simp only [Value.slice.injEq, Option.some.injEq, Addr.mk.injEq, and_true, true_and] at h1
  obtain ⟨rfl, -, rfl⟩ := h1
  have hlt : g < w.heap.size := blk_lt hh
  rw [F.sz] at hcs
  rw [← hn] at hnc
  have hd2 : (flatK enc k d').size = n * k := by rw [size_flatK, hd, hn]
  have hle : (flatK enc k d').size ≤ cur.size := by rw [hd2, hcs]; exact Nat.mul_le_mul_right _ hnc
  refine ⟨⟨hok, (flatK enc k d').toList, ?_, ?_⟩, ⟨rfl, rfl, rfl, ?_, fun i hi hne => ?_⟩⟩
  ·rw [hd1]
   refine ⟨?_, .inr ⟨g, c, putCells id 0 (flatK enc k d') cur, rfl, hg, ?_, hnc, hcm, ?_, ?_⟩⟩
   ·rw [F.sz, Array.length_toList, hd2]
   ·rw [hsz, Array.getElem?_append, if_pos (by simpa using hlt), Array.getElem?_modify, if_pos rfl, hh]
    rfl
   ·rw [F.sz]; simpa [putCells] using hcs
   ·rw [F.sz, ← hd2]
    exact toList_take_put _ _ hle
  ·have := flat_reps F (sortWorldK enc k w g 0 m d' os) base (fun k_ => ok k_ ∧ some k_ ≠ (Value.slice (some ⟨g, 0, none⟩) n c).ownBlock) d'.toList
   simpa using this
  ·rw [hsz]; simp
  ·rw [hsz, Array.getElem?_append, if_pos (by simpa using hi), Array.getElem?_modify, if_neg (fun h => hne (by rw [h]))]
end
end
end Go.Proofs.Ytieapebabncliaa.X
