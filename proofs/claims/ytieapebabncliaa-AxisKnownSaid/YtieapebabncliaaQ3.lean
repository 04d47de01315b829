/- Plain laws about what the printed functions compute. -/
import Derived.Test.YtieapebabncliaaQ2
import Derived.Test.YtieapebabncliaaX15
import Derived.Test.YtieapebabncliaaX16
import Derived.Test.YtieapebabncliaaX17
import Derived.Test.YtieapebabncliaaX18
namespace Go.Proofs.Ytieapebabncliaa.X
open Go.RowKit Go.Proofs.YtieapebabncliaaW.PrintWords Go.Proofs.Ytieapebabncliaa.X
set_option linter.unusedVariables false
set_option linter.unusedSimpArgs false
theorem hasb_in (l : List S36) (v : Int) : hasb l v = true ↔ 1 ≤ v ∧ v ≤ 2147483647 ∧ inS l v := by
 unfold hasb inS
 simp only [Bool.and_eq_true, decide_eq_true_eq, List.any_eq_true, and_assoc]
theorem has_l0 (l : List S36) (hl : l.length < 1000000000) (v : Int) : ∀ (d j k : Nat), l.length - j = d → j ≤ l.length → d < k → incipitref19_Has.l0 k l v (j : Int) = some (hasb (l.drop j) v) := by
 intro d
 induction d with
 | zero =>
  intro j k hd hj hk
  obtain ⟨k, rfl⟩ : ∃ m, k = m + 1 := ⟨k - 1, by omega⟩
  obtain rfl : j = l.length := by omega
  simp only [incipitref19_Has.l0]
  rw [if_neg (by omega), List.drop_length]; simp [hasb]
 | succ d ih =>
  intro j k hd hj hk
  obtain ⟨k, rfl⟩ : ∃ m, k = m + 1 := ⟨k - 1, by omega⟩
  have hlt : j < l.length := by omega
  have e : hasb (l.drop j) v = (decide (1 ≤ v) && decide (v ≤ 2147483647) && (decide (l[j].f0 ≤ v) && decide (v ≤ l[j].f1)) || hasb (l.drop (j + 1)) v) := by
   rw [drop_c l j hlt]; unfold hasb; rw [List.any_cons, Bool.and_or_distrib_left]
  simp only [incipitref19_Has.l0]
  rw [if_pos (by omega), if_pos (by omega), rdT l j hlt, w64 (by omega) (by omega), cast_s, ih (j + 1) k (by omega) (by omega) (by omega), e]
  generalize l[j] = s
  by_cases h0 : s.f0 ≤ v
  ·rw [if_pos h0]
   by_cases h1 : v ≤ s.f1
   ·rw [if_pos h1]
    by_cases h2 : v > 0
    ·rw [if_pos h2]
     by_cases h3 : v ≤ 2147483647
     ·simp [h0, h1, h3, show 1 ≤ v by omega]
     ·simp [hasb, h3]
    ·rw [if_neg h2]
     simp [hasb, show ¬ 1 ≤ v by omega]
   ·rw [if_neg h1]; simp [h1]
  ·rw [if_neg h0]; simp [h0]
theorem has_f (k : Nat) (l : List S36) (v : Int) (hl : l.length < 1000000000) (hk : l.length < k) : incipitref19_Has.f k l v = some (hasb l v) := by
 unfold incipitref19_Has.f
 simpa using has_l0 l hl v l.length 0 k (by omega) (by omega) (by omega)
def ins (x : Int) : List Int → List Int
 | [] => [x]
 | y :: r => if y < x then y :: ins x r else if y = x then y :: r else x :: y :: r
def Up : Int → List Int → Prop
 | _, [] => True
 | lo, y :: r => lo ≤ y ∧ y ≤ 2147483647 ∧ Up (y + 1) r
theorem Up_mem {l : List Int} : ∀ {lo v : Int}, Up lo l → v ∈ l → lo ≤ v ∧ v ≤ 2147483647 := by
 induction l with
 | nil => intro lo v _ h; exact absurd h (by simp)
 | cons y r ih =>
  intro lo v h hv
  rcases List.mem_cons.mp hv with rfl | hv
  ·exact ⟨h.1, h.2.1⟩
  ·have := ih h.2.2 hv; have := h.1; omega
theorem ins_up {x : Int} (hx : x ≤ 2147483647) (l : List Int) : ∀ lo : Int, Up lo l → lo ≤ x → Up lo (ins x l) := by
 induction l with
 | nil => intro lo _ h; exact ⟨h, hx, trivial⟩
 | cons y r ih =>
  intro lo h hlo
  unfold ins
  split
  ·exact ⟨h.1, h.2.1, ih _ h.2.2 (by omega)⟩
  ·split
   ·exact h
   ·exact ⟨hlo, hx, by omega, h.2⟩
theorem ins_mem (x v : Int) (l : List Int) : v ∈ ins x l ↔ v = x ∨ v ∈ l := by
 induction l with
 | nil => simp [ins]
 | cons y r ih =>
  unfold ins
  split
  ·rw [List.mem_cons, ih, List.mem_cons]
   constructor
   ·rintro (h | h | h) <;> simp [h]
   ·rintro (h | h | h) <;> simp [h]
  ·split
   ·rename_i h; subst h; simp
   ·simp
theorem ins_len (x : Int) (l : List Int) : (ins x l).length ≤ l.length + 1 := by
 induction l with
 | nil => simp [ins]
 | cons y r ih =>
  unfold ins
  split
  ·simp only [List.length_cons]; omega
  ·split
   ·simp
   ·simp
def insE (l : List Int) (x : Int) : List Int := if 2 ≤ x ∧ x ≤ 2147483647 then ins x l else l
theorem edge_l0 (l : List Int) (x : Int) (hx : 2 ≤ x) (hx2 : x ≤ 2147483647) (hl : l.length < 1000000000) (hu : ∀ v ∈ l, 0 ≤ v ∧ v ≤ 2147483647) : ∀ (d j k : Nat), l.length - j = d → j ≤ l.length → d < k →
  incipitref19_edge.l0 k l x (j : Int) = some (l.take j ++ ins x (l.drop j)) := by
 have em : x % 4294967296 = x := Int.emod_eq_of_lt (by omega) (by omega)
 intro d
 induction d with
 | zero =>
  intro j k hd hj hk
  obtain ⟨k, rfl⟩ : ∃ m, k = m + 1 := ⟨k - 1, by omega⟩
  obtain rfl : j = l.length := by omega
  simp only [incipitref19_edge.l0, Option.bind_some, List.length_nil, Nat.zero_add, List.nil_append, Int.toNat_natCast, List.take_length, List.drop_length, List.length_append, List.length_singleton, em, ins]
  rw [if_neg (by omega), if_pos (by omega), if_pos (by omega), if_pos (by omega), if_pos (by omega), if_pos (by omega), List.append_nil]
 | succ d ih =>
  intro j k hd hj hk
  obtain ⟨k, rfl⟩ : ∃ m, k = m + 1 := ⟨k - 1, by omega⟩
  have hlt : j < l.length := by omega
  have hb := hu l[j] (List.getElem_mem ..)
  have hi := ih (j + 1) k (by omega) (by omega) (by omega)
  simp only [incipitref19_edge.l0, Option.bind_some, List.length_nil, Nat.zero_add, List.nil_append, Int.toNat_natCast, List.length_append, List.length_singleton, em]
  rw [if_pos (by omega), if_pos (by omega), rdI l j hlt, u64w (by omega) (by omega), w64 (by omega) (by omega), cast_s, hi]
  rw [drop_c l j hlt, List.take_succ_eq_append_getElem hlt, ins]
  by_cases h1 : l[j] < x
  ·rw [if_pos h1, if_pos h1, List.append_assoc]; rfl
  ·rw [if_neg h1, if_neg h1]
   by_cases h2 : l[j] = x
   ·rw [if_pos h2, if_pos h2]
    have : l.take j ++ l[j] :: l.drop (j + 1) = l := by rw [← drop_c l j hlt, List.take_append_drop]
    rw [this]
   ·rw [if_neg h2, if_neg h2, if_pos (by omega)]
    have ht : (l.take j).length = j := by rw [List.length_take]; omega
    have hd2 : (l[j] :: l.drop (j + 1)).length ≤ l.length := by rw [← drop_c l j hlt, List.length_drop]; omega
    rw [if_pos (by omega), if_pos (by omega), if_pos (by omega)]
    simp
theorem edge_f (k : Nat) (l : List Int) (x : Int) (hl : l.length < 1000000000) (hu : Up 1 l) (hk : l.length + 1 < k) : incipitref19_edge.f k l x = some (insE l x) := by
 obtain ⟨k, rfl⟩ : ∃ m, k = m + 1 := ⟨k - 1, by omega⟩
 unfold incipitref19_edge.f insE
 by_cases h0 : x < 2
 ·rw [if_pos h0, if_neg (by omega)]; simp [incipitref19_edge.j0]
 ·rw [if_neg h0]
  by_cases h1 : x > 2147483647
  ·rw [if_neg (by omega)]; simp [incipitref19_edge.j0, h1]
  ·rw [if_pos (by omega)]
   have := edge_l0 l x (by omega) (by omega) hl (fun v hv => by have := Up_mem hu hv; omega) l.length 0 k (by omega) (by omega) (by omega)
   simp only [incipitref19_edge.j0, decide_eq_false h1]
   simpa using this
theorem insE_len (l : List Int) (x : Int) : (insE l x).length ≤ l.length + 1 := by
 unfold insE; split
 ·exact ins_len x l
 ·omega
def Edg (E : List Int) : Prop := ∃ r, E = 1 :: r ∧ Up 2 r
theorem Edg_up {E : List Int} (h : Edg E) : Up 1 E := by obtain ⟨r, rfl, h⟩ := h; exact ⟨by omega, by omega, h⟩
theorem Edg_ins {E : List Int} (h : Edg E) (x : Int) : Edg (insE E x) := by
 unfold insE; split
 ·obtain ⟨r, rfl, hr⟩ := h
  rename_i hx
  rw [ins, if_pos (by omega)]
  exact ⟨_, rfl, ins_up hx.2 r 2 hr hx.1⟩
 ·exact h
theorem insE_mem (E : List Int) (x v : Int) : v ∈ insE E x ↔ v ∈ E ∨ (v = x ∧ 2 ≤ x ∧ x ≤ 2147483647) := by
 unfold insE; split
 ·rename_i hx; rw [ins_mem]; constructor
  ·rintro (h | h)
   ·exact .inr ⟨h, hx⟩
   ·exact .inl h
  ·rintro (h | h)
   ·exact .inr h
   ·exact .inl h.1
 ·rename_i hx; constructor
  ·exact .inl
  ·rintro (h | h)
   ·exact h
   ·exact absurd h.2 hx
def edgeS (E : List Int) (s : S36) : List Int := insE (insE E s.f0) (s.f1 + 1)
def edgeR (E : List Int) (l : List S36) : List Int := l.foldl edgeS E
def edgesR (E : List Int) (ls : List (List S36)) : List Int := ls.foldl edgeR E
theorem edgeR_spec (l : List S36) : ∀ E, Edg E → Edg (edgeR E l) ∧ (∀ v ∈ E, v ∈ edgeR E l) ∧ (edgeR E l).length ≤ E.length + 2 * l.length ∧ ∀ s ∈ l, (2 ≤ s.f0 → s.f0 ≤ 2147483647 → s.f0 ∈ edgeR E l) ∧ (2 ≤ s.f1 + 1 → s.f1 + 1 ≤ 2147483647 → s.f1 + 1 ∈ edgeR E l) := by
 induction l with
 | nil => intro E h; exact ⟨h, fun v hv => hv, by simp [edgeR], by simp⟩
 | cons s l ih =>
  intro E h
  obtain ⟨i1, i2, i3, i4⟩ := ih (edgeS E s) (Edg_ins (Edg_ins h _) _)
  have l1 := insE_len (insE E s.f0) (s.f1 + 1)
  have l2 := insE_len E s.f0
  have hs : ∀ v, v ∈ edgeS E s ↔ (v ∈ E ∨ (v = s.f0 ∧ 2 ≤ s.f0 ∧ s.f0 ≤ 2147483647)) ∨ (v = s.f1 + 1 ∧ 2 ≤ s.f1 + 1 ∧ s.f1 + 1 ≤ 2147483647) := fun v => by
   unfold edgeS; rw [insE_mem, insE_mem]
  have e : edgeR E (s :: l) = edgeR (edgeS E s) l := rfl
  rw [e]
  refine ⟨i1, fun v hv => i2 v ((hs v).mpr (.inl (.inl hv))), ?_, ?_⟩
  ·simp only [List.length_cons]; unfold edgeS at i3; unfold edgeS; omega
  ·intro t ht
   rcases List.mem_cons.mp ht with rfl | ht
   ·exact ⟨fun a b => i2 _ ((hs _).mpr (.inl (.inr ⟨rfl, a, b⟩))), fun a b => i2 _ ((hs _).mpr (.inr ⟨rfl, a, b⟩))⟩
   ·exact i4 t ht
theorem edgesR_spec (ls : List (List S36)) : ∀ E, Edg E → Edg (edgesR E ls) ∧ (∀ v ∈ E, v ∈ edgesR E ls) ∧ (edgesR E ls).length ≤ E.length + 2 * ls.flatten.length ∧ ∀ l ∈ ls, ∀ s ∈ l, (2 ≤ s.f0 → s.f0 ≤ 2147483647 → s.f0 ∈ edgesR E ls) ∧ (2 ≤ s.f1 + 1 → s.f1 + 1 ≤ 2147483647 → s.f1 + 1 ∈ edgesR E ls) := by
 induction ls with
 | nil => intro E h; exact ⟨h, fun v hv => hv, by simp [edgesR], by simp⟩
 | cons a ls ih =>
  intro E h
  obtain ⟨j1, j2, j3, j4⟩ := edgeR_spec a E h
  obtain ⟨i1, i2, i3, i4⟩ := ih (edgeR E a) j1
  have e : edgesR E (a :: ls) = edgesR (edgeR E a) ls := rfl
  rw [e]
  refine ⟨i1, fun v hv => i2 v (j2 v hv), ?_, ?_⟩
  ·simp only [List.flatten_cons, List.length_append]; omega
  ·intro l hl
   rcases List.mem_cons.mp hl with rfl | hl
   ·intro s hs; exact ⟨fun p q => i2 _ ((j4 s hs).1 p q), fun p q => i2 _ ((j4 s hs).2 p q)⟩
   ·exact i4 l hl
def OkL (l : List S36) : Prop := ∀ s ∈ l, 0 ≤ s.f0 ∧ s.f0 < 4294967296 ∧ 0 ≤ s.f1 ∧ s.f1 < 4294967296
theorem edges_l (ls : List (List S36)) (hn : ls.length < 1000000) (hf : ls.flatten.length < 100000000) (hok : ∀ l ∈ ls, OkL l) : ∀ (d i : Nat), ls.length - i = d → i ≤ ls.length →
  (∀ (k : Nat) (E : List Int), Edg E → E.length + 2 * (ls.drop i).flatten.length < 300000000 → 300000010 + d + d + (ls.drop i).flatten.length < k → incipitref19_Edges.l0 k ls E (i : Int) = some (edgesR E (ls.drop i))) := by
 intro d
 induction d with
 | zero =>
  intro i hd hi k E hE hl hk
  obtain ⟨k, rfl⟩ : ∃ m, k = m + 1 := ⟨k - 1, by omega⟩
  obtain rfl : i = ls.length := by omega
  simp only [incipitref19_Edges.l0]
  rw [if_neg (by omega), List.drop_length]; rfl
 | succ d ih =>
  intro i hd hi k E hE hl hk
  obtain ⟨k, rfl⟩ : ∃ m, k = m + 1 := ⟨k - 1, by omega⟩
  have hlt : i < ls.length := by omega
  rw [drop_c ls i hlt, List.flatten_cons, List.length_append] at hl hk
  rw [drop_c ls i hlt]
  have hokl := hok ls[i] (List.getElem_mem ..)
  have h1 := ih (i + 1) (by omega) (by omega)
  simp only [incipitref19_Edges.l0]
  rw [if_pos (by omega)]
  have inner : ∀ (e j k : Nat) (E : List Int), ls[i].length - j = e → j ≤ ls[i].length → Edg E → E.length + 2 * ((ls[i].drop j).length + (ls.drop (i + 1)).flatten.length) < 300000000 → 300000010 + d + d + e + (ls.drop (i + 1)).flatten.length + 1 < k →
    incipitref19_Edges.l1 k ls E (i : Int) (j : Int) = some (edgesR (edgeR E (ls[i].drop j)) (ls.drop (i + 1))) := by
   intro e
   induction e with
   | zero =>
    intro j k E he hj hE hl hk
    obtain ⟨k, rfl⟩ : ∃ m, k = m + 1 := ⟨k - 1, by omega⟩
    obtain rfl : j = ls[i].length := by omega
    rw [List.drop_length, List.length_nil] at hl
    simp only [incipitref19_Edges.l1]
    rw [if_pos (by omega), if_pos (by omega), rdL ls i hlt, if_neg (by omega), w64 (by omega) (by omega), cast_s, h1 k E hE (by omega) (by omega), List.drop_length]; rfl
   | succ e ihe =>
    intro j k E he hj hE hl hk
    obtain ⟨k, rfl⟩ : ∃ m, k = m + 1 := ⟨k - 1, by omega⟩
    have hjlt : j < ls[i].length := by omega
    have hs := hokl ls[i][j] (List.getElem_mem ..)
    have hll : ls[i].length < 1000000000 := by
     have := List.length_drop (l := ls[i]) (i := j)
     omega
    rw [drop_c ls[i] j hjlt] at hl ⊢
    simp only [List.length_cons] at hl
    simp only [incipitref19_Edges.l1]
    rw [if_pos (by omega), if_pos (by omega), rdL ls i hlt, if_pos (by omega), if_pos (by omega), rdT ls[i] j hjlt, w64 (x := (j : Int) + 1) (by omega) (by omega), cast_s]
    generalize ls[i][j] = s at hs ⊢
    have g1 := insE_len E s.f0
    have g2 := insE_len (insE E s.f0) (s.f1 + 1)
    rw [u64w (x := s.f0) (by omega) (by omega), u64w (x := s.f1) (by omega) (by omega), u64w (x := s.f1 + 1) (by omega) (by omega)]
    rw [edge_f k E s.f0 (by omega) (Edg_up hE) (by omega), Option.bind_some, edge_f k _ _ (by omega) (Edg_up (Edg_ins hE _)) (by omega), Option.bind_some]
    exact ihe (j + 1) k (edgeS E s) (by omega) (by omega) (Edg_ins (Edg_ins hE _) _) (by unfold edgeS; omega) (by omega)
  have := inner ls[i].length 0 k E (by omega) (by omega) hE (by rw [List.drop_zero]; omega) (by omega)
  rw [List.drop_zero] at this
  exact this
theorem edges_f (k : Nat) (ls : List (List S36)) (hn : ls.length < 1000000) (hf : ls.flatten.length < 100000000) (hok : ∀ l ∈ ls, OkL l) (hk : 500000000 < k) : incipitref19_Edges.f k ls = some (edgesR [1] ls) := by
 unfold incipitref19_Edges.f
 have := edges_l ls hn hf hok ls.length 0 (by omega) (by omega) k [1] ⟨[], rfl, trivial⟩ (by simp only [List.drop_zero, List.length_singleton]; omega) (by rw [List.drop_zero]; omega)
 simpa using this
def inB (ls : List (List S36)) (v op : Int) : Bool := if op = 0 then ls.any fun l => hasb l v else if op = 1 then ls.all fun l => hasb l v else !(ls.any fun l => hasb l v)
theorem inB_cnt (ls : List (List S36)) (v op : Int) : inB ls v op = if op = 0 then decide (0 < ls.countP fun l => hasb l v) else if op = 1 then decide ((ls.countP fun l => hasb l v) = ls.length) else decide ((ls.countP fun l => hasb l v) = 0) := by
 have ha : (ls.any fun l => hasb l v) = decide (0 < ls.countP fun l => hasb l v) := by
  rw [Bool.eq_iff_iff, List.any_eq_true, decide_eq_true_eq, List.countP_pos_iff]
 have hb : (ls.all fun l => hasb l v) = decide ((ls.countP fun l => hasb l v) = ls.length) := by
  rw [Bool.eq_iff_iff, List.all_eq_true, decide_eq_true_eq, List.countP_eq_length]
 unfold inB
 rw [ha, hb]
 split
 ·rfl
 ·split
  ·rfl
  ·rw [← decide_not]; congr 1; simp
theorem in_l0 (ls : List (List S36)) (v op : Int) (hn : ls.length < 1000000) (hl : ∀ l ∈ ls, l.length < 100000000) : ∀ (d j k n : Nat), ls.length - j = d → j ≤ ls.length → 100000000 + d < k → n = (ls.take j).countP (fun l => hasb l v) →
  incipitref19_In.l0 k ls v op (n : Int) (j : Int) = some (inB ls v op) := by
 intro d
 induction d with
 | zero =>
  intro j k n hd hj hk hnn
  obtain ⟨k, rfl⟩ : ∃ m, k = m + 1 := ⟨k - 1, by omega⟩
  obtain rfl : j = ls.length := by omega
  rw [List.take_length] at hnn
  simp only [incipitref19_In.l0]
  rw [if_neg (by omega), inB_cnt, ← hnn]
  split
  ·congr 1; rw [decide_eq_decide]; omega
  ·split
   ·congr 1; rw [Bool.eq_iff_iff]; simp; omega
   ·congr 1; rw [Bool.eq_iff_iff]; simp
 | succ d ih =>
  intro j k n hd hj hk hnn
  obtain ⟨k, rfl⟩ : ∃ m, k = m + 1 := ⟨k - 1, by omega⟩
  have hlt : j < ls.length := by omega
  have hll := hl ls[j] (List.getElem_mem ..)
  have hcl : (ls.take j).countP (fun l => hasb l v) ≤ (ls.take j).length := List.countP_le_length
  rw [List.length_take] at hcl
  simp only [incipitref19_In.l0]
  rw [if_pos (by omega), if_pos (by omega), rdL ls j hlt, has_f k _ v (by omega) (by omega), Option.bind_some, w64 (x := (j : Int) + 1) (by omega) (by omega), cast_s j]
  have hs : (ls.take (j + 1)).countP (fun l => hasb l v) = n + if hasb ls[j] v = true then 1 else 0 := by
   rw [List.take_succ_eq_append_getElem hlt, List.countP_append, ← hnn, List.countP_singleton]
  split
  ·rename_i ht
   rw [w64 (by omega) (by omega), cast_s n]
   exact ih (j + 1) k (n + 1) (by omega) (by omega) (by omega) (by rw [hs, if_pos ht])
  ·rename_i ht
   exact ih (j + 1) k n (by omega) (by omega) (by omega) (by rw [hs, if_neg ht]; omega)
theorem in_f (k : Nat) (ls : List (List S36)) (v op : Int) (hn : ls.length < 1000000) (hl : ∀ l ∈ ls, l.length < 100000000) (hk : 200000000 < k) : incipitref19_In.f k ls v op = some (inB ls v op) := by
 unfold incipitref19_In.f
 exact in_l0 ls v op hn hl ls.length 0 k 0 (by omega) (by omega) (by omega) (by simp)
def pushE (out : List S36) (e tt : Int) : List S36 := if 0 < out.length ∧ (rd_T36 out ((out.length : Int) - 1)).f1 + 1 = e then out.set (out.length - 1) ⟨(rd_T36 out ((out.length : Int) - 1)).f0, tt⟩ else out ++ [⟨e, tt⟩]
def nxt : List Int → Int
 | [] => 2147483648
 | a :: _ => a
def madeR (P : Int → Bool) : List S36 → List Int → List S36
 | out, [] => out
 | out, e :: r => madeR P (if P e = true then pushE out e (nxt r - 1) else out) r
theorem made_spec (P : Int → Bool) : ∀ (E : List Int) (out : List S36) (lo : Int), Up lo E → 1 ≤ lo → Can 1 out → (∀ t ∈ out, t.f1 + 1 ≤ nxt E) →
  (∀ a ∈ E, ∀ v, a ≤ v → v ≤ 2147483647 → (∀ b ∈ E, b ≤ v → b ≤ a) → P v = P a) →
  Can 1 (madeR P out E) ∧ ∀ v, inS (madeR P out E) v ↔ inS out v ∨ (nxt E ≤ v ∧ v ≤ 2147483647 ∧ P v = true) := by
 intro E
 induction E with
 | nil => intro out lo _ _ hc _ _; exact ⟨hc, fun v => by simp only [madeR, nxt]; exact ⟨.inl, fun h => h.elim id (fun h => absurd h.2.1 (by omega))⟩⟩
 | cons e r ih =>
  intro out lo hu hlo hc hout hP
  obtain ⟨u1, u2, u3⟩ := hu
  have hnx : e + 1 ≤ nxt r ∧ nxt r ≤ 2147483648 := by
   cases r with
   | nil => simp only [nxt]; omega
   | cons a r => exact ⟨u3.1, by have := u3.2.1; simp only [nxt]; omega⟩
  have hseg : ∀ v, e ≤ v → v < nxt r → P v = P e := fun v h1 h2 => hP e (List.mem_cons_self ..) v h1 (by omega) (fun b hb hv => by
   rcases List.mem_cons.mp hb with rfl | hb
   ·exact Int.le_refl _
   ·exfalso
    cases r with
    | nil => exact absurd hb (by simp)
    | cons a r =>
     simp only [nxt] at h2
     have := Up_mem (lo := a) (l := a :: r) ⟨Int.le_refl _, u3.2⟩ hb
     omega)
  have hP' : ∀ a ∈ r, ∀ v, a ≤ v → v ≤ 2147483647 → (∀ b ∈ r, b ≤ v → b ≤ a) → P v = P a := fun a ha v h1 h2 h3 => hP a (List.mem_cons_of_mem _ ha) v h1 h2 (fun b hb hv => by
   rcases List.mem_cons.mp hb with rfl | hb
   ·have := Up_mem u3 ha; omega
   ·exact h3 b hb hv)
  have hout' : ∀ t ∈ out, t.f1 + 1 ≤ e := hout
  show Can 1 (madeR P (if P e = true then pushE out e (nxt r - 1) else out) r) ∧ ∀ v, inS (madeR P (if P e = true then pushE out e (nxt r - 1) else out) r) v ↔ inS out v ∨ (e ≤ v ∧ v ≤ 2147483647 ∧ P v = true)
  by_cases hpe : P e = true
  ·rw [if_pos hpe]
   have key : Can 1 (pushE out e (nxt r - 1)) ∧ (∀ t ∈ pushE out e (nxt r - 1), t.f1 + 1 ≤ nxt r) ∧ ∀ v, inS (pushE out e (nxt r - 1)) v ↔ inS out v ∨ (e ≤ v ∧ v ≤ nxt r - 1) := by
    unfold pushE
    rcases snoc_cases out with rfl | ⟨o, y, rfl⟩
    ·rw [if_neg (by simp)]
     refine ⟨⟨by show 1 ≤ e; omega, by show e ≤ nxt r - 1; omega, by show nxt r - 1 ≤ _; omega, trivial⟩, ?_, ?_⟩
     ·intro t ht
      obtain rfl := List.mem_singleton.mp ht
      show nxt r - 1 + 1 ≤ _; omega
     ·intro v; rw [List.nil_append, inS_cons, inS_nil, or_false, false_or]
    ·obtain ⟨c1, c2, c3, c4, c5⟩ := Can_snoc.mp hc
     have hy := hout' y (by simp)
     rw [rd_last, set_last]
     by_cases hj : y.f1 + 1 = e
     ·rw [if_pos ⟨by simp, hj⟩]
      refine ⟨Can_snoc.mpr ⟨c1, c2, c3, by show y.f0 ≤ nxt r - 1; omega, by show nxt r - 1 ≤ _; omega⟩, ?_, ?_⟩
      ·intro t ht
       rcases List.mem_append.mp ht with ht | ht
       ·have := c2 t ht; omega
       ·obtain rfl := List.mem_singleton.mp ht
        show nxt r - 1 + 1 ≤ _; omega
      ·intro v
       rw [inS_append, inS_append, inS_cons, inS_cons, inS_nil, or_false, or_false, or_assoc]
       refine or_congr_right ?_
       show (y.f0 ≤ v ∧ v ≤ nxt r - 1) ↔ _
       omega
     ·rw [if_neg (fun h => hj h.2)]
      refine ⟨Can_snoc.mpr ⟨hc, ?_, by show 1 ≤ e; omega, by show e ≤ nxt r - 1; omega, by show nxt r - 1 ≤ _; omega⟩, ?_, ?_⟩
      ·intro t ht
       show t.f1 + 2 ≤ e
       rcases List.mem_append.mp ht with ht | ht
       ·have := c2 t ht; omega
       ·obtain rfl := List.mem_singleton.mp ht; omega
      ·intro t ht
       rcases List.mem_append.mp ht with ht | ht
       ·have := hout' t ht; omega
       ·obtain rfl := List.mem_singleton.mp ht
        show nxt r - 1 + 1 ≤ _; omega
      ·intro v
       rw [inS_append (o ++ [y]), inS_cons, inS_nil, or_false]
   obtain ⟨k1, k2, k3⟩ := key
   obtain ⟨i1, i2⟩ := ih (pushE out e (nxt r - 1)) (e + 1) u3 (by omega) k1 k2 hP'
   refine ⟨i1, fun v => ?_⟩
   rw [i2, k3]
   constructor
   ·rintro ((h | h) | h)
    ·exact .inl h
    ·exact .inr ⟨h.1, by omega, by rw [hseg v h.1 (by omega)]; exact hpe⟩
    ·exact .inr ⟨by omega, h.2⟩
   ·rintro (h | h)
    ·exact .inl (.inl h)
    ·by_cases hv : v ≤ nxt r - 1
     ·exact .inl (.inr ⟨h.1, hv⟩)
     ·exact .inr ⟨by omega, h.2⟩
  ·rw [if_neg hpe]
   obtain ⟨i1, i2⟩ := ih out (e + 1) u3 (by omega) hc (fun t ht => by have := hout' t ht; omega) hP'
   refine ⟨i1, fun v => ?_⟩
   rw [i2]
   refine or_congr_right ?_
   constructor
   ·rintro ⟨h1, h2, h3⟩; exact ⟨by omega, h2, h3⟩
   ·rintro ⟨h1, h2, h3⟩
    refine ⟨?_, h2, h3⟩
    rcases Int.lt_or_le v (nxt r) with hv | hv
    ·exact absurd (by rw [← hseg v h1 hv]; exact h3) hpe
    ·exact hv
theorem pushE_len (out : List S36) (e tt : Int) : (pushE out e tt).length ≤ out.length + 1 := by
 unfold pushE; split <;> simp
theorem pushE_low (out : List S36) (e tt : Int) (hto : 0 ≤ tt ∧ tt ≤ 2147483647) (h : ∀ t ∈ out, 0 ≤ t.f1 ∧ t.f1 ≤ 2147483647) : ∀ t ∈ pushE out e tt, 0 ≤ t.f1 ∧ t.f1 ≤ 2147483647 := by
 unfold pushE
 split
 ·intro t ht
  rcases List.mem_or_eq_of_mem_set ht with ht | rfl
  ·exact h t ht
  ·exact hto
 ·intro t ht
  rcases List.mem_append.mp ht with ht | ht
  ·exact h t ht
  ·obtain rfl := List.mem_singleton.mp ht; exact hto
theorem made_l0 (ls : List (List S36)) (op : Int) (hn : ls.length < 1000000) (hl : ∀ l ∈ ls, l.length < 100000000) (E : List Int) (hE : E.length < 1000000000) (hU : Up 1 E) : ∀ (d j k : Nat) (out : List S36), E.length - j = d → j ≤ E.length → 300000000 + d < k → out.length ≤ j → (∀ t ∈ out, 0 ≤ t.f1 ∧ t.f1 ≤ 2147483647) →
  incipitref19_Made.l0 k ls op out E (j : Int) = some (madeR (fun v => inB ls v op) out (E.drop j)) := by
 intro d
 induction d with
 | zero =>
  intro j k out hd hj hk ho hlow
  obtain ⟨k, rfl⟩ : ∃ m, k = m + 1 := ⟨k - 1, by omega⟩
  obtain rfl : j = E.length := by omega
  simp only [incipitref19_Made.l0]
  rw [if_neg (by omega), List.drop_length]; rfl
 | succ d ih =>
  intro j k out hd hj hk ho hlow
  obtain ⟨k, rfl⟩ : ∃ m, k = m + 1 := ⟨k - 1, by omega⟩
  have hlt : j < E.length := by omega
  have hb := Up_mem hU (List.getElem_mem (l := E) hlt)
  rw [drop_c E j hlt]
  have e0 : madeR (fun v => inB ls v op) out (E[j] :: E.drop (j + 1)) = madeR (fun v => inB ls v op) (if inB ls E[j] op = true then pushE out E[j] (nxt (E.drop (j + 1)) - 1) else out) (E.drop (j + 1)) := rfl
  rw [e0]
  simp only [incipitref19_Made.l0]
  rw [if_pos (by omega), if_pos (by omega), rdI E j hlt, in_f k ls _ op hn hl (by omega), Option.bind_some, w64 (x := (j : Int) + 1) (by omega) (by omega), cast_s j]
  have hlast : 0 < out.length → 0 ≤ (rd_T36 out ((out.length : Int) - 1)).f1 ∧ (rd_T36 out ((out.length : Int) - 1)).f1 ≤ 2147483647 := by
   intro hp
   rcases snoc_cases out with rfl | ⟨o, y, rfl⟩
   ·exact absurd hp (by simp)
   ·rw [rd_last]; exact hlow y (by simp)
  have done : ∀ tt, 0 ≤ tt ∧ tt ≤ 2147483647 → (if (out.length : Int) > 0 then (if 0 ≤ (wrap64 ((out.length : Int) - 1)) then (if (wrap64 ((out.length : Int) - 1)) < (out.length : Int) then (if ((((rd_T36 out (wrap64 ((out.length : Int) - 1))).f1) + 1) % 4294967296) = E[j] then (incipitref19_Made.l0 k ls op (out.set ((wrap64 ((out.length : Int) - 1)) : Int).toNat (⟨(rd_T36 out (wrap64 ((out.length : Int) - 1))).f0, tt⟩ : S36)) E ((j + 1 : Nat) : Int)) else (if out.length < 17592186044416 then (incipitref19_Made.l0 k ls op (out ++ [(⟨E[j], tt⟩ : S36)]) E ((j + 1 : Nat) : Int)) else (none))) else (none)) else (none)) else (if out.length < 17592186044416 then (incipitref19_Made.l0 k ls op (out ++ [(⟨E[j], tt⟩ : S36)]) E ((j + 1 : Nat) : Int)) else (none))) = incipitref19_Made.l0 k ls op (pushE out E[j] tt) E ((j + 1 : Nat) : Int) := by
   intro tt hto
   unfold pushE
   by_cases hp : 0 < out.length
   ·have hla := hlast hp
    have ht : ((out.length : Int) - 1).toNat = out.length - 1 := by omega
    rw [if_pos (by omega), w64 (by omega) (by omega), if_pos (by omega), if_pos (by omega), Int.emod_eq_of_lt (by omega) (by omega), ht]
    by_cases hj : (rd_T36 out ((out.length : Int) - 1)).f1 + 1 = E[j]
    ·rw [if_pos hj, if_pos ⟨hp, hj⟩]
    ·rw [if_neg hj, if_pos (show out.length < 17592186044416 by omega), if_neg (fun h => hj h.2)]
   ·rw [if_neg (by omega), if_pos (show out.length < 17592186044416 by omega), if_neg (fun h => hp h.1)]
  by_cases hin : inB ls E[j] op = true
  ·rw [if_pos hin, if_pos hin]
   have hpl := fun tt => pushE_len out E[j] tt
   by_cases hnx : j + 1 < E.length
   ·have hb2 := Up_mem hU (List.getElem_mem (l := E) hnx)
    have en : nxt (E.drop (j + 1)) = E[j + 1] := by rw [drop_c E (j + 1) hnx]; rfl
    rw [if_pos (by omega), if_pos (by omega), rdI E (j + 1) hnx, Int.emod_eq_of_lt (a := E[j + 1] - 1) (by omega) (by omega), done _ (by omega), en]
    exact ih (j + 1) k _ (by omega) (by omega) (by omega) (by have := hpl (E[j + 1] - 1); omega) (pushE_low _ _ _ (by omega) hlow)
   ·have en : nxt (E.drop (j + 1)) = 2147483648 := by rw [List.drop_eq_nil_of_le (by omega)]; rfl
    rw [if_neg (by omega), done _ (by omega), en]
    exact ih (j + 1) k _ (by omega) (by omega) (by omega) (by have := hpl (2147483648 - 1); exact Nat.le_trans this (by omega)) (pushE_low _ _ _ (by omega) hlow)
  ·rw [if_neg hin, if_neg hin]
   exact ih (j + 1) k _ (by omega) (by omega) (by omega) (by omega) hlow
def madeF (ls : List (List S36)) (op : Int) : List S36 := madeR (fun v => inB ls v op) [] (edgesR [1] ls)
theorem hasb_const (ls : List (List S36)) (l : List S36) (hl : l ∈ ls) (a v : Int) (ha : a ∈ edgesR [1] ls) (h1 : a ≤ v) (h2 : v ≤ 2147483647) (h3 : ∀ b ∈ edgesR [1] ls, b ≤ v → b ≤ a) : hasb l v = hasb l a := by
 obtain ⟨i1, i2, i3, i4⟩ := edgesR_spec ls [1] ⟨[], rfl, trivial⟩
 have ha1 := Up_mem (Edg_up i1) ha
 rw [Bool.eq_iff_iff, hasb_in, hasb_in]
 constructor
 ·rintro ⟨_, _, s, hs, p, q⟩
  refine ⟨ha1.1, ha1.2, s, hs, ?_, by omega⟩
  rcases Int.lt_or_le a s.f0 with h | h
  ·have := h3 s.f0 ((i4 l hl s hs).1 (by omega) (by omega)) p; omega
  ·exact h
 ·rintro ⟨_, _, s, hs, p, q⟩
  refine ⟨by omega, h2, s, hs, by omega, ?_⟩
  rcases Int.lt_or_le s.f1 v with h | h
  ·have := h3 (s.f1 + 1) ((i4 l hl s hs).2 (by omega) (by omega)) (by omega); omega
  ·exact h
theorem made_ok (ls : List (List S36)) (op : Int) : Can 1 (madeF ls op) ∧ ∀ v, inS (madeF ls op) v ↔ 1 ≤ v ∧ v ≤ 2147483647 ∧ inB ls v op = true := by
 obtain ⟨i1, i2, i3, i4⟩ := edgesR_spec ls [1] ⟨[], rfl, trivial⟩
 have hn : nxt (edgesR [1] ls) = 1 := by obtain ⟨r, hr, _⟩ := i1; rw [hr]; rfl
 have hh := fun l hl a v ha h1 h2 h3 => hasb_const ls l hl a v ha h1 h2 h3
 have hm := made_spec (fun v => inB ls v op) (edgesR [1] ls) [] 1 (Edg_up i1) (by omega) trivial (by simp) (fun a ha v h1 h2 h3 => by
  have hany : (ls.any fun l => hasb l v) = ls.any fun l => hasb l a := by
   rw [Bool.eq_iff_iff, List.any_eq_true, List.any_eq_true]
   constructor
   ·rintro ⟨l, hl, h⟩; exact ⟨l, hl, by rw [← hh l hl a v ha h1 h2 h3]; exact h⟩
   ·rintro ⟨l, hl, h⟩; exact ⟨l, hl, by rw [hh l hl a v ha h1 h2 h3]; exact h⟩
  have hall : (ls.all fun l => hasb l v) = ls.all fun l => hasb l a := by
   rw [Bool.eq_iff_iff, List.all_eq_true, List.all_eq_true]
   constructor
   ·intro h l hl; rw [← hh l hl a v ha h1 h2 h3]; exact h l hl
   ·intro h l hl; rw [hh l hl a v ha h1 h2 h3]; exact h l hl
  show inB ls v op = inB ls a op
  unfold inB; rw [hany, hall])
 refine ⟨hm.1, fun v => ?_⟩
 rw [show madeF ls op = madeR (fun v => inB ls v op) [] (edgesR [1] ls) from rfl, hm.2, inS_nil, false_or, hn]
theorem made_f (k : Nat) (ls : List (List S36)) (op : Int) (hn : ls.length < 1000000) (hf : ls.flatten.length < 100000000) (hok : ∀ l ∈ ls, OkL l) (hk : 600000000 < k) : incipitref19_Made.f k ls op = some (madeF ls op) := by
 obtain ⟨i1, i2, i3, i4⟩ := edgesR_spec ls [1] ⟨[], rfl, trivial⟩
 simp only [List.length_singleton] at i3
 unfold incipitref19_Made.f
 rw [edges_f k ls hn hf hok (by omega), Option.bind_some]
 have hll : ∀ l ∈ ls, l.length < 100000000 := fun l hl => by
  have : l.length ≤ ls.flatten.length := (List.sublist_flatten_of_mem hl).length_le
  omega
 have := made_l0 ls op hn hll (edgesR [1] ls) (by omega) (Edg_up i1) (edgesR [1] ls).length 0 k [] (by omega) (by omega) (by omega) (by simp) (by simp)
 rw [List.drop_zero] at this
 exact this
end Go.Proofs.Ytieapebabncliaa.X
