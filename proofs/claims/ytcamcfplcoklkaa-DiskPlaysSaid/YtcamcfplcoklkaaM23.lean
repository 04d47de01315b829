import Derived.Test.YtcamcfplcoklkaaM22
namespace Go.Proofs.Ytcamcfplcoklkaa.Iv
open Go
set_option linter.unusedVariables false
set_option linter.unusedSimpArgs false
/-! ### the two disks are one -/
def secL (ks : List Int) (N : Nat) : List (List UInt8) := (List.range N).map (secS ks)
theorem secsV_L {ks : List Int} {N : Nat} : secsV ks N = (secL ks N).map V.str := by simp [secsV, secL]
theorem secL_len {ks : List Int} {N : Nat} : (secL ks N).length = N := by simp [secL]
theorem secL_at {ks : List Int} {N i : Nat} (h : i < N) : (secL ks N)[i]? = some (secS ks i) := by simp [secL, h]
theorem strs_inj {a b : List (List UInt8)} (h : a.map V.str = b.map V.str) : a = b := by
  induction a generalizing b with
  | nil => cases b with
    | nil => rfl
    | cons y b => simp at h
  | cons x a ih => cases b with
    | nil => simp at h
    | cons y b =>
      simp only [List.map_cons, List.cons.injEq, V.str.injEq] at h
      rw [h.1, ih h.2]
theorem secL_putI {ks : List Int} {N n : Nat} {b : List Int} (hl : ks.length = N * 64) (hn : n < N) (hb : b.length ≤ 64) : secL (putI ks (n, b)) N = (secL ks N).set n (toStr b ++ (secS ks n).drop b.length) := by
  apply strs_inj
  rw [← secsV_L, secsV_putI hl hn hb, secsV_L, List.map_set]
def wOf (x : Nat × List Int) : Nat × List UInt8 := (x.1, toStr x.2)
structure Sim (p : PD) (r : RD) (N : Nat) : Prop where
  ok : p.ok N
  k : r.kept = secL p.ks N
  q : r.queue = p.items.map wOf
  t : r.trip = p.l
  c : r.cap = p.b
  d : r.dark = p.g
theorem toStr_len {b : List Int} : (toStr b).length = b.length := by simp [toStr]
theorem Sim.kl {p : PD} {r : RD} {N : Nat} (h : Sim p r N) : r.kept.length = N := by rw [h.k, secL_len]
theorem Sim.rok {p : PD} {r : RD} {N : Nat} (h : Sim p r N) : ROk r := by
  refine ⟨by rw [h.kl]; exact h.ok.pos, by rw [h.kl]; exact h.ok.le, fun s hs => ?_, fun x hx => ?_, by rw [h.q]; simp; have := h.ok.few; omega⟩
  · rw [h.k] at hs
    simp only [secL, List.mem_map, List.mem_range] at hs
    obtain ⟨i, hi, rfl⟩ := hs
    exact secS_len h.ok.len hi
  · rw [h.q] at hx
    simp only [List.mem_map] at hx
    obtain ⟨y, hy, rfl⟩ := hx
    have := h.ok.it y hy
    exact ⟨by rw [h.kl]; exact this.1, by simp only [wOf, toStr_len]; exact this.2⟩
theorem sim_new {N : Nat} (h1 : 1 ≤ N) (h2 : N ≤ 64) : Sim (PD.new N) (RD.new N) N := by
  have ok : (PD.new N).ok N := ⟨by simp [PD.new], by omega, h2, by simp [PD.new], fun x hx => by cases hx⟩
  refine ⟨ok, ?_, rfl, rfl, rfl, rfl⟩
  apply List.ext_getElem?
  intro i
  by_cases hi : i < N
  · rw [secL_at hi]
    have e : seg (List.replicate (N * 64) 0) i = List.replicate 64 0 := by
      apply List.ext_getElem?
      intro j
      rw [seg_get]
      by_cases hj : j < 64
      · rw [if_pos hj, List.getElem?_replicate, List.getElem?_replicate, if_pos hj, if_pos (by omega)]
      · rw [if_neg hj, List.getElem?_eq_none (by simp; omega)]
    have e2 : secS (PD.new N).ks i = z64 := by
      rw [secS_seg]
      show toStr (seg (List.replicate (N * 64) 0) i) = z64
      rw [e]; rfl
    rw [e2]
    simp [RD.new, hi]
  · rw [List.getElem?_eq_none (by simp [RD.new]; omega), List.getElem?_eq_none (by rw [secL_len]; omega)]
/-! reading -/
theorem seen_R {items : List (Nat × List Int)} {n : Nat} {s : List UInt8} : ∀ k, k ≤ items.length → rseen s ((items.map wOf).take k) n = match seen items (n : Int) k with | some b => toStr b | none => s
  | 0, _ => rfl
  | k + 1, hk => by
    have hlt : k < items.length := by omega
    have e1 : (items.map wOf)[k]? = some (wOf items[k]) := by simp [hlt]
    have e2 : items.getD k (0, []) = items[k] := by simp [List.getD, hlt]
    rw [rseen_succ e1, seen_R k (by omega)]
    simp only [seen, e2]
    by_cases h : items[k].1 = n
    · rw [if_pos (show (wOf items[k]).1 = n from h), if_pos (by omega)]; rfl
    · rw [if_neg (show ¬ (wOf items[k]).1 = n from h), if_neg (by omega)]
theorem sim_read {p : PD} {r : RD} {N : Nat} (h : Sim p r N) (n : Int) : (toStr (p.read n).1, (p.read n).2) = r.read n := by
  have hN := h.ok.n
  have hk := h.kl
  unfold PD.read RD.read
  rw [hN, hk, h.d]
  by_cases h1 : ¬ (0 ≤ n ∧ n < (N : Int))
  · rw [if_pos h1, if_pos h1]; rfl
  · rw [if_neg h1, if_neg h1]
    by_cases h2 : p.g = true
    · rw [if_pos h2, if_pos h2]; rfl
    · rw [if_neg h2, if_neg h2]
      have h1 := Classical.not_not.1 h1
      obtain ⟨a, rfl⟩ : ∃ a : Nat, n = (a : Int) := ⟨n.toNat, by omega⟩
      have ha : a < N := by omega
      have e1 : r.kept.getD (a : Int).toNat [] = secS p.ks a := by
        simp only [Int.toNat_natCast, List.getD, h.k, secL_at ha, Option.getD_some]
      have e2 := seen_R (items := p.items) (n := a) (s := secS p.ks a) p.items.length (Nat.le_refl _)
      rw [List.take_of_length_le (by simp)] at e2
      simp only [Int.toNat_natCast] at e1 ⊢
      rw [e1, h.q, e2]
      cases seen p.items (a : Int) p.items.length <;> rfl
theorem sim_pow {p : PD} {r : RD} {N : Nat} (h : Sim p r N) : (rpow r).dark = (p.g || (p.l == 0)) ∧ (rpow r).trip = left' p.l := by
  unfold rpow
  refine ⟨?_, ?_⟩
  · show (r.dark || (r.trip == 0)) = _
    rw [h.d, h.t]
  · show left' r.trip = _
    rw [h.t]
theorem sim_write {p : PD} {r : RD} {N : Nat} (h : Sim p r N) (hf : p.items.length < 999999) (n : Int) (bs : List Int) : Sim (p.write n bs).1 (rwrite r n bs).1 N ∧ (p.write n bs).2 = (rwrite r n bs).2 := by
  have hN := h.ok.n
  have hk := h.kl
  have hok := (h.ok.write hf n bs).1
  obtain ⟨s1, s2⟩ := sim_pow h
  unfold PD.write at hok ⊢
  unfold rwrite
  rw [hN] at hok ⊢
  rw [hk]
  by_cases h1 : ¬ ((0 ≤ n ∧ n < (N : Int)) ∧ bs.length = 64)
  · rw [if_pos h1, if_pos h1]
    exact ⟨h, rfl⟩
  · rw [if_neg h1] at hok ⊢
    rw [if_neg h1, s1]
    by_cases h2 : (p.g || (p.l == 0)) = true
    · rw [if_pos h2] at hok ⊢
      rw [if_pos h2]
      exact ⟨⟨hok, h.k, h.q, s2, h.c, by rw [s1]; exact h2⟩, rfl⟩
    · rw [if_neg h2] at hok ⊢
      have h2' : (p.g || (p.l == 0)) = false := by simpa using h2
      rw [if_neg h2, h.c]
      by_cases h3 : 0 ≤ p.b ∧ p.b ≤ n
      · rw [if_pos h3] at hok ⊢
        rw [if_pos h3]
        exact ⟨⟨hok, h.k, h.q, s2, h.c, by rw [s1]; exact h2'⟩, rfl⟩
      · rw [if_neg h3] at hok ⊢
        rw [if_neg h3]
        exact ⟨⟨hok, h.k, by simp only [h.q, List.map_append]; rfl, s2, h.c, by show (rpow r).dark = false; rw [s1]; exact h2'⟩, rfl⟩
theorem settle_R {N : Nat} : ∀ (l : List (Nat × List Int)) (ks : List Int), ks.length = N * 64 → (∀ x ∈ l, x.1 < N ∧ x.2.length = 64) → (l.map wOf).foldl rput (secL ks N) = secL (settledI ks l) N
  | [], ks, _, _ => rfl
  | x :: l, ks, hl, hx => by
    obtain ⟨h1, h2⟩ := hx x (by simp)
    have e : rput (secL ks N) (wOf x) = secL (putI ks x) N := by
      have := secL_putI (b := x.2) hl h1 (by omega)
      rw [h2, List.drop_eq_nil_of_le (by rw [secS_len hl h1]; omega), List.append_nil] at this
      exact this.symm
    simp only [List.map_cons, List.foldl_cons, settledI]
    rw [e]
    exact settle_R l (putI ks x) (by rw [putI_len (by omega), hl]) (fun y hy => hx y (by simp [hy]))
theorem rlast_R {p : PD} {r : RD} {N : Nat} (h : Sim p r N) (n : Nat) : (rlast r n).kept = secL (settledI p.ks (p.items.take n)) N := by
  show (r.queue.take n).foldl rput r.kept = _
  rw [h.q, h.k, ← List.map_take]
  exact settle_R _ _ h.ok.len (fun x hx => h.ok.it x (List.mem_of_mem_take hx))
theorem sim_sync {p : PD} {r : RD} {N : Nat} (h : Sim p r N) : Sim p.sync.1 (rsync r).1 N ∧ p.sync.2 = (rsync r).2 := by
  have hok := h.ok.sync.1
  obtain ⟨s1, s2⟩ := sim_pow h
  unfold PD.sync at hok ⊢
  unfold rsync
  rw [s1]
  by_cases h2 : (p.g || (p.l == 0)) = true
  · rw [if_pos h2] at hok ⊢
    rw [if_pos h2]
    exact ⟨⟨hok, h.k, h.q, s2, h.c, by rw [s1]; exact h2⟩, rfl⟩
  · have h2' : (p.g || (p.l == 0)) = false := by simpa using h2
    rw [if_neg h2] at hok ⊢
    rw [if_neg h2]
    refine ⟨⟨hok, ?_, rfl, s2, h.c, by show (rpow r).dark = false; rw [s1]; exact h2'⟩, rfl⟩
    show (rlast (rpow r) (rpow r).queue.length).kept = secL (settledI p.ks p.items) N
    have := rlast_R h r.queue.length
    rw [show (rlast (rpow r) (rpow r).queue.length).kept = (rlast r r.queue.length).kept from rfl, this, List.take_of_length_le (by rw [h.q]; simp)]
theorem sim_crash {p : PD} {r : RD} {N : Nat} (h : Sim p r N) (keep torn : Int) : Sim (p.crash keep torn) (rcrash r keep torn) N := by
  have hok := h.ok.crash keep torn
  refine ⟨hok, ?_, rfl, rfl, h.c, rfl⟩
  have hlen : r.queue.length = p.items.length := by rw [h.q]; simp
  show rtorn r (min keep.toNat r.queue.length) torn = secL (lastI p.ks p.items (min keep.toNat p.items.length) torn) N
  rw [hlen]
  generalize min keep.toNat p.items.length = kn
  have hr := rlast_R h kn
  unfold rtorn lastI
  have hq : r.queue[kn]? = (p.items[kn]?).map wOf := by rw [h.q, List.getElem?_map]
  rw [hq]
  cases hx : p.items[kn]? with
  | none => exact hr
  | some x =>
    obtain ⟨h1, h2⟩ := h.ok.it x (List.mem_of_getElem? hx)
    have hsl : (settledI p.ks (p.items.take kn)).length = N * 64 := by
      rw [settledI_len (fun y hy => h.ok.it2 y (List.mem_of_mem_take hy)), h.ok.len]
    simp only [Option.map_some]
    rw [hr]
    have ht : (x.2.take (min torn.toNat 64)).length = min torn.toNat 64 := by rw [List.length_take]; omega
    rw [secL_putI hsl h1 (by omega), ht]
    have e1 : (secL (settledI p.ks (p.items.take kn)) N).getD (wOf x).1 [] = secS (settledI p.ks (p.items.take kn)) x.1 := by
      simp only [wOf, List.getD, secL_at h1, Option.getD_some]
    have e2 : (wOf x).2.take (min torn.toNat 64) = toStr (x.2.take (min torn.toNat 64)) := by simp [wOf, toStr, List.map_take]
    rw [e1, e2]
    rfl
theorem sim_did {p : PD} {r : RD} {N : Nat} (h : Sim p r N) (hf : p.items.length < 999999) (a : Act4) : Sim (p.did a).1 (rmeant r a).1 N ∧ toStr (p.did a).2.1 = (rmeant r a).2.1 ∧ (p.did a).2.2 = (rmeant r a).2.2 := by
  have hok := (h.ok.did hf a).1
  unfold PD.did at hok ⊢
  unfold rmeant
  by_cases h0 : a.d = 0
  · rw [if_pos h0, if_pos h0]
    have := sim_read h a.n
    exact ⟨h, congrArg Prod.fst this, congrArg Prod.snd this⟩
  rw [if_neg h0] at hok ⊢
  rw [if_neg h0]
  by_cases h1 : a.d = 1
  · rw [if_pos h1, if_pos h1]
    have := sim_write h hf a.n a.b
    exact ⟨this.1, rfl, this.2⟩
  rw [if_neg h1] at hok ⊢
  rw [if_neg h1]
  by_cases h2 : a.d = 2
  · rw [if_pos h2, if_pos h2]
    have := sim_sync h
    exact ⟨this.1, rfl, this.2⟩
  rw [if_neg h2] at hok ⊢
  rw [if_neg h2]
  by_cases h3 : a.d = 3
  · rw [if_pos h3] at hok ⊢
    rw [if_pos h3]
    exact ⟨⟨hok, h.k, h.q, rfl, h.c, h.d⟩, rfl, rfl⟩
  rw [if_neg h3] at hok ⊢
  rw [if_neg h3]
  by_cases h4 : a.d = 4
  · rw [if_pos h4] at hok ⊢
    rw [if_pos h4]
    exact ⟨⟨hok, h.k, h.q, h.t, rfl, h.d⟩, rfl, rfl⟩
  rw [if_neg h4] at hok ⊢
  rw [if_neg h4]
  by_cases h5 : a.d = 5
  · rw [if_pos h5, if_pos h5]
    exact ⟨sim_crash h a.n a.m, rfl, rfl⟩
  rw [if_neg h5, if_neg h5]
  exact ⟨h, rfl, rfl⟩
/-- the image -/
theorem segs_flat {ks : List Int} : ∀ (N : Nat), ((List.range N).map (seg ks)).flatten = ks.take (N * 64)
  | 0 => by simp
  | N + 1 => by
    rw [List.range_succ, List.map_append, List.flatten_append, segs_flat N]
    have e : (N + 1) * 64 = N * 64 + 64 := by omega
    have : [N].map (seg ks) = [seg ks N] := rfl
    rw [this]
    simp only [List.flatten_cons, List.flatten_nil, List.append_nil, seg]
    rw [← List.take_append_drop (N * 64) (ks.take ((N + 1) * 64))]
    congr 1
    · rw [List.take_take]; congr 1; omega
    · rw [List.take_append_drop]
theorem sim_image {p : PD} {r : RD} {N : Nat} (h : Sim p r N) : r.kept.flatten = toStr p.ks := by
  have e : secL p.ks N = ((List.range N).map (seg p.ks)).map toStr := by simp [secL, secS_seg]
  rw [h.k, e]
  have : ∀ l : List (List Int), (l.map toStr).flatten = toStr l.flatten := by
    intro l
    induction l with
    | nil => rfl
    | cons x l ih => simp [toStr_app, ih]
  rw [this, segs_flat, List.take_of_length_le (by rw [h.ok.len]; omega)]
end Go.Proofs.Ytcamcfplcoklkaa.Iv
