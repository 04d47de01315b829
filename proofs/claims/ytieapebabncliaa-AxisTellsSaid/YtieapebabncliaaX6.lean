import Derived.Test.YtieapebabncliaaX0
import Derived.Test.YtieapebabncliaaX2
import Derived.Test.YtieapebabncliaaX3
import Derived.Test.YtieapebabncliaaX5
import Derived.Shelf.SlSortCmp.NoneTotal
import Derived.Test.YtieapebabncliaaShelf
namespace Go.Proofs.Ytieapebabncliaa.X
open Go.RowKit Go.Proofs.YtieapebabncliaaW.PrintWords Go.Proofs.YtieapebabncliaaW.PrintLast Go.Proofs.YtieapebabncliaaW.PrintMore
set_option linter.unusedVariables false
set_option linter.unusedSimpArgs false
theorem below_alloc2 {w0 W : World} (h : Below w0.heap.size w0 W) (o : Obj) : Below w0.heap.size w0 (W.alloc o) := bwA h o
theorem kept_succ_len {α : Type} (p : α → Bool) (l : List α) (j : Nat) (hj : j < l.length) (hp : p l[j] = true) : (kept p l (j + 1)).length = (kept p l j).length + 1 := by
 unfold kept; rw [filter_take_succ p l j hj, if_pos hp, List.length_append, List.length_singleton]
theorem zx_st {ops : Array Oper} {rest : List Oper} {o : Oper} {a : Act} {Q : Exit → Act → World → Prop} {w0 W : World} (hN : o.dst = none) (hgd : o.guard = none) (p x : Operand) (ho : o.op = .store 36 p x) {g n cap : Nat} (m : Nat) (xs : List S36) (x' : S36) (ok : Nat → Prop)
  (haddr : a.eval p = .pointer (some ⟨g, m * 2, none⟩)) (hx : a.eval x = .agg #[.int .u32 x'.f0, .int .u32 x'.f1]) (HO : Kd.R k36 36 W w0.heap.size ok (.slice (some ⟨g, 0, none⟩) n cap) xs) (hm : m < n) (HB : Below w0.heap.size w0 W)
  (h : ∀ w1, Kd.R k36 36 w1 w0.heap.size ok (.slice (some ⟨g, 0, none⟩) n cap) (xs.set m x') → Below w0.heap.size w0 w1 → W.grownBy w1 (some g) → wpList Try.prog ops Q rest a w1) : wpList Try.prog ops Q (o :: rest) a W := by
 obtain ⟨hn, _, hC⟩ := Kd.R_reads' HO
 obtain ⟨ad, e1, hy0, hy1⟩ := at_T36 hC (m : Int) (by omega) (by omega)
 injection e1 with e1
 subst e1
 simp only [Int.toNat_natCast, add_plain] at hy0 hy1
 generalize rd_T36 xs m = y at hy0 hy1
 refine Kd.R_store k36 (w0 := w0) w0.heap.size hN hgd 36 p x ho 36 (m : Int) 0 xs x' (.agg #[.int .u32 x'.f0, .int .u32 x'.f1]) [.int .u32 x'.f0, .int .u32 x'.f1] [.int .u32 y.f0, .int .u32 y.f1] ok (fun _ => False) haddr rfl hx rfl ?_ ?_ HO (by omega) (by omega) rfl ?_ (Nat.le_refl 2) (k36_mkM _ _ _ _) (fun _ h => h.elim) HB ?_
 ·obtain ⟨i, hi, _, hz, _⟩ := info_parts info36
  rw [hi]; exact congrArg some hz
 ·intro u hu
  simp only [List.mem_cons, List.not_mem_nil, or_false] at hu
  rcases hu with rfl | rfl <;> rfl
 ·intro j u hj
  match j, hj with
  | 0, hj => simp only [List.getElem?_cons_zero, Option.some.injEq] at hj; subst hj; exact hy0
  | 1, hj => simp only [List.getElem?_cons_succ, List.getElem?_cons_zero, Option.some.injEq] at hj; subst hj; exact hy1
  | j + 2, hj => simp at hj
 ·intro w1 h1 h2 h3
  rw [Int.toNat_natCast] at h1
  exact h w1 h1 h2 h3
set_option maxHeartbeats 2000000 in
theorem zx_delete (P0_ : Nat → Prop) (u : Value) (l0 : List S36) (w0 w : World) (hB : Below w0.heap.size w0 w) (ho0 : Kd.R k36 36 w w0.heap.size P0_ u l0) (hl : l0.length < 17592186044416) :
  Calls Try.prog 39 #[u, .func (.func 41) #[] #[]] w fun e w' => ∃ v0_ : Value, e = .returned (v0_) ∧ Kd.R k36 36 w' w0.heap.size (fun k_ => (P0_ k_ ∨ w.heap.size ≤ k_)) v0_ (l0.filter fun x => !gone x) ∧ Below w0.heap.size w0 w' ∧ Kept w w' (fun k_ => P0_ k_) := by
 have huS := Try.underlying36
 have eg : ∀ args w, (callFunc 41 args).run Try.prog w = .ok (.enter 41 args) w := enters_of Try.func41 (by kernel_rfl) rfl
 have HL := Sd.mk hl
 rcases idxf_cases gone l0 with ⟨hi, hf⟩ | ⟨i, hil, hi, hgi, hgn⟩
 ·obtain ⟨A, c, rfl⟩ := Kd.R_slice ho0
  have hcall := zx_index A c l0 w (Kd.R_reads' ho0).2.2 hl
  rw [hi] at hcall
  have HF := Sd.mk hf
  have HO := Sd.mk ho0
  have HB := Sd.mk hB
  clear hi hf ho0 hB hl
  go_enter Try.func39, Try.ntmps39
  go_wp2_with (go_at_call 49; refine hcall.mono ?_; rintro e w1 ⟨rfl, hb⟩)
  go_ret
  exact ⟨_, rfl, by rw [HF.out]; exact Kd.R_mono (Kd.R_below HO.out hb) (fun _ h => .inl h), below_weaken HB.out HB.out.size hb, Kept.of_below hb _⟩
 ·obtain ⟨g, c, rfl⟩ := R_head ho0 (by omega)
  have hcall := zx_index (some ⟨g, 0, none⟩) c l0 w (Kd.R_reads' ho0).2.2 hl
  rw [hi] at hcall
  have HST := Sd.mk (kept_start gone l0 i hil hgi hgn)
  have HO := Sd.mk ho0
  have HB := Sd.mk hB
  clear hi hgi hgn ho0 hB
  go_enter Try.func39, Try.ntmps39
  go_wp2_with (go_at_call 49; refine hcall.mono ?_; rintro e w1 ⟨rfl, hb⟩)
  have HO1 : Sd (Kd.R k36 36 w1 w0.heap.size (fun k_ => (P0_ k_ ∨ w.heap.size ≤ k_)) (.slice (some ⟨g, 0, none⟩) l0.length c) l0) := ⟨Kd.R_mono (Kd.R_below HO.out hb) (fun _ h => .inl h)⟩
  have HB1 : Sd (Below w0.heap.size w0 w1) := ⟨below_weaken HB.out HB.out.size hb⟩
  have HK1 : Sd (Kept w w1 (fun k_ => P0_ k_)) := ⟨Kept.of_below hb _⟩
  have HW : Sd (w.heap.size ≤ w1.heap.size) := ⟨hb.size⟩
  have HPg : Sd (P0_ g) := ⟨HO.out.1 g rfl⟩
  have HGw : Sd (g < w.heap.size) := ⟨by obtain ⟨_, hgb⟩ := Kd.R_typed HO.out g rfl; exact blk_lt hgb⟩
  clear hb HO HB
  generalize hq : (fun x => !gone x) = q at HST ⊢
  have HQ := Sd.mk hq
  clear hq
  go_loopg [5, 6] l0.length (fun gg s5 s6 wr => ∃ j : Nat, j ≤ l0.length ∧ l0.length - j ≤ gg ∧ s6 = .int .i64 j ∧ s5 = .int .i64 (kept q l0 j).length ∧ Sd (Kd.R k36 36 wr w0.heap.size (fun k_ => (P0_ k_ ∨ w.heap.size ≤ k_)) (.slice (some ⟨g, 0, none⟩) l0.length c) (kept q l0 j ++ l0.drop (kept q l0 j).length)) ∧ Sd (Below w0.heap.size w0 wr) ∧ Sd (Kept w wr (fun k_ => P0_ k_)))
  case atStart =>
   have e : (kept q l0 (i + 1)).length = i := by rw [HST.out, List.length_take]; omega
   refine ⟨i + 1, by omega, by omega, by go_num, by rw [e], ⟨?_⟩, HB1, HK1⟩
   rw [e, HST.out, List.take_append_drop]; exact HO1.out
  case round =>
   clear HO1 HB1 HK1 HST hcall
   obtain ⟨j, hj, hg, rfl, rfl, HO, HB, HK⟩ := hrel
   have HM := Sd.mk (kept_le q l0 j)
   by_cases hlt : j < l0.length
   ·have HLen := Sd.mk (kept_row_len q l0 j hj)
    have hC := (Kd.R_reads' HO.out).2.2
    obtain ⟨ad, e1, hx0, hx1⟩ := at_T36 hC (j : Int) (by omega) (by rw [HLen.out]; omega)
    injection e1 with e1
    subst e1
    have hx : rd_T36 (kept q l0 j ++ l0.drop (kept q l0 j).length) (j : Int) = l0[j] := by
     unfold rd_T36
     rw [Int.toNat_natCast, List.getD_eq_getElem?_getD, kept_row_get q l0 j hlt]; rfl
    rw [hx] at hx0 hx1
    simp only [Int.toNat_natCast, add_plain] at hx0 hx1
    clear hC hx
    have HSET := kept_row_set q l0 j hlt
    have HSKIP := kept_skip q l0 j hlt
    have HSUC := kept_succ_len q l0 j hlt
    have HQX : Sd (q l0[j] = !gone l0[j]) := ⟨by rw [← HQ.out]⟩
    generalize l0[j] = x at hx0 hx1 HSET HSKIP HQX HSUC
    cases hgx : gone x with
    | true =>
     have hcall : ∀ W, Calls Try.prog 41 #[.agg #[.int .u32 x.f0, .int .u32 x.f1]] W fun e w' => e = .returned (.bool true) ∧ Below W.heap.size W w' := fun W => by rw [← hgx]; exact zx_c41 x W
     have HSK := Sd.mk (HSKIP (by rw [HQX.out, hgx]; rfl))
     clear HSET HSKIP HQX hgx HSUC
     have hltz : (j : Int) < (l0.length : Int) := by omega
     go_wp2_with (go_at_fn 41; refine (hcall _).mono ?_; rintro e w2 ⟨rfl, hb2⟩)
     go_roundg (l0.length - (j + 1))
     case measure => omega
     case rel => exact ⟨j + 1, by omega, by omega, by go_num, by rw [HSK.out], ⟨by rw [HSK.out]; exact Kd.R_below (Kd.R_alloc HO.out _) hb2⟩, ⟨below_weaken ((below_alloc2 HB.out) _) (Nat.le_trans HB.out.size (by simp)) hb2⟩, ⟨Kept.then_ (Kept.then_ HK.out (Kept.of_below (bwA (Below.refl _ wr) _) (fun _ => False)) (fun _ h => h.elim)) (Kept.of_below hb2 (fun _ => False)) (fun _ h => h.elim)⟩⟩
    | false =>
     have hcall : ∀ W, Calls Try.prog 41 #[.agg #[.int .u32 x.f0, .int .u32 x.f1]] W fun e w' => e = .returned (.bool false) ∧ Below W.heap.size W w' := fun W => by rw [← hgx]; exact zx_c41 x W
     have HSE := Sd.mk (HSET (by rw [HQX.out, hgx]; rfl))
     have HKL := Sd.mk (HSUC (by rw [HQX.out, hgx]; rfl))
     clear HSET HSKIP HQX hgx HSUC
     have hltz : (j : Int) < (l0.length : Int) := by omega
     have hmn : (kept q l0 j).length < l0.length := by have := HM.out; omega
     go_wp2_with (first | (go_at_fn 41; refine (hcall _).mono ?_; rintro e w2 ⟨rfl, hb2⟩; have hx2 : w2.cell? ⟨wr.heap.size, 0, none⟩ = some (.int .u32 x.f0) := (hb2.cell (by simp)).trans (by simp); have hx3 : w2.cell? ⟨wr.heap.size, 1, none⟩ = some (.int .u32 x.f1) := (hb2.cell (by simp)).trans (by simp); have HO2 := Sd.mk (Kd.R_below (Kd.R_alloc HO.out _) hb2); have HB2 := Sd.mk (below_weaken (below_alloc2 HB.out _) (Nat.le_trans HB.out.size (by simp)) hb2); have HK2 : Sd (Kept w w2 (fun k_ => P0_ k_)) := ⟨(HK.out.alloc _).below hb2⟩; clear hb2 hx0 hx1) | ((with_reducible refine gate_store (t := 36) (p := 33) rfl ?_); refine zx_st (w0 := w0) rfl rfl (.tmp 33) (.tmp 32) rfl (kept q l0 j).length _ x _ rfl rfl HO2.out hmn HB2.out ?_; intro w3 ho3 hb3 hg3; have HO3 := Sd.mk ho3; have HB3 := Sd.mk hb3; have HK3 : Sd (Kept w w3 (fun k_ => P0_ k_)) := ⟨Kept.of_grown hg3 HK2.out (fun k e => .inl (by injection e with e; rw [← e]; exact HPg.out))⟩; clear ho3 hb3 hg3))
     go_roundg (l0.length - (j + 1))
     case measure => omega
     case rel => exact ⟨j + 1, by omega, by omega, by go_num, by rw [HKL.out]; go_num, ⟨by rw [← HSE.out]; exact HO3.out⟩, HB3, HK3⟩
   ·obtain rfl : j = l0.length := by omega
    have HF : Sd (kept q l0 l0.length = l0.filter q) := ⟨by unfold kept; rw [List.take_length]⟩
    have hm := HM.out
    rw [HF.out] at hm HO ⊢
    clear HM
    obtain ⟨w2, hrun, ho2, hg2⟩ := R_clear (P := Try.prog) 26 0 (.agg #[(.int .u32 0), (.int .u32 0)]) z36 Try.underlying26 Try.zeroValue36 rfl (by decide) (by decide) (l0.filter q).length hm (fun w ok => k36_mkM _ _ _ _) HO.out
    have HO2 := Sd.mk (Kd.R_take (m := (l0.filter q).length) ho2 (by simp))
    have HB2 : Sd (Below w0.heap.size w0 w2) := ⟨HB.out.grown hg2 HB.out.size (fun k e => by injection e with e; rw [← e]; exact Kd.R_base HO.out g rfl)⟩
    have HK2 : Sd (Kept w w2 (fun k_ => P0_ k_)) := ⟨Kept.of_grown hg2 HK.out (fun k e => .inl (by injection e with e; rw [← e]; exact HPg.out))⟩
    clear ho2 hg2
    have HE : Sd ((l0.filter q ++ l0.drop (l0.filter q).length).take (l0.filter q).length ++ List.replicate (l0.length - (l0.filter q).length) z36 = l0.filter q ++ List.replicate (l0.length - (l0.filter q).length) z36) := ⟨by rw [List.take_left]⟩
    have hrun2 : (Builtin.clear_ #[26] 0 #[.slice (some ⟨g, (l0.filter q).length * 2, none⟩) (l0.length - (l0.filter q).length) (c - (l0.filter q).length)]).run Try.prog wr = .ok (.tuple #[]) w2 := hrun
    clear hrun
    have HO3 : Sd (Kd.R k36 36 w2 w0.heap.size (fun k_ => (P0_ k_ ∨ w.heap.size ≤ k_)) (.slice (some ⟨g, 0, none⟩) (l0.filter q).length c) (l0.filter fun x => !gone x)) := ⟨by have := HO2.out; rw [HE.out, List.take_left] at this; rw [HQ.out]; exact this⟩
    have hcap : l0.length ≤ c := (Kd.R_reads' HO.out).2.1
    clear HO2 HE HF HO
    generalize (l0.filter q).length = m at hm hrun2 HO3
    have hnn : ¬ ((l0.length : Int) < (l0.length : Int)) := by omega
    by_cases hcm : c = m
    ·obtain rfl : m = l0.length := by omega
     subst hcm
     have e2 : wr = w2 := by
      rw [Nat.sub_self] at hrun2
      simp [Builtin.clear_, run_underlying Try.underlying26] at hrun2
      exact hrun2
     subst e2
     have hclr : ∀ ty, (Builtin.clear_ #[26] ty #[.slice (some ⟨g, 0, none⟩) 0 0]).run Try.prog wr = .ok (.tuple #[]) wr := fun ty => by simp [Builtin.clear_, run_underlying Try.underlying26]
     clear hrun2
     go_wp2
     go_ret
     exact ⟨_, rfl, HO3.out, HB2.out, HK2.out⟩
    ·go_wp2
     go_ret
     exact ⟨_, rfl, HO3.out, HB2.out, HK2.out⟩
section
open Go.Sort
def zx_enc (x : S36) : List Value := [.int .u32 x.f0, .int .u32 x.f1]
instance : Inhabited S36 := ⟨z36⟩
theorem zx_flat : Flat k36 zx_enc 2 where
 sz := rfl
 pos := by decide
 len := fun _ => rfl
 one := fun x v hv => by simp [zx_enc] at hv; rcases hv with rfl | rfl <;> rfl
 M := fun w base ok x cs => ⟨fun h => k36_openM h, fun h => by rw [h]; exact k36_mkM _ _ _ _⟩
def zx_cf (x y : S36) : Int := cmpi x.f0 y.f0
theorem zx_lt (x y : S36) : ltOf zx_cf x y = decide (x.f0 < y.f0) := by
 unfold ltOf zx_cf cmpi
 by_cases h1 : x.f0 < y.f0
 ·simp [h1]
 ·by_cases h2 : y.f0 < x.f0 <;> simp [h1, h2]
theorem zx_swo : SWO (ltOf zx_cf) where
 irrefl x := by rw [zx_lt]; simp
 trans x y z h1 h2 := by rw [zx_lt] at *; simp at *; omega
 ntrans x y z h1 h2 := by rw [zx_lt] at *; simp at *; omega
def zx_pdq (l : List S36) : List S36 := (Sort.pdq (ltOf zx_cf) l.toArray 0 l.length (Lib.bitLen l.length) true true).toList
theorem zx_pdq_spec (l : List S36) : PermIn 0 l.length l.toArray (zx_pdq l).toArray ∧ SortedIn (ltOf zx_cf) 0 l.length (zx_pdq l).toArray := by
 have h := pdq_sorts (ltOf zx_cf) zx_swo l.toArray 0 l.length (Lib.bitLen l.length) true true (Nat.zero_le _) (by simp) (Or.inl rfl)
 exact ⟨by simpa [zx_pdq] using h.1, by simpa [zx_pdq] using h.2⟩
theorem zx_pdq_perm (l : List S36) : (zx_pdq l).Perm l := by
 have h := (zx_pdq_spec l).1
 have h2 := h.2.2
 have hs : (zx_pdq l).length = l.length := by simpa using h.1
 have e1 : ((zx_pdq l).toArray.extract 0 l.length).toList = zx_pdq l := by simp [← hs]
 have e2 : (l.toArray.extract 0 l.length).toList = l := by simp
 rwa [e1, e2] at h2
theorem zx_pdq_len (l : List S36) : (zx_pdq l).length = l.length := (zx_pdq_perm l).length_eq
theorem zx_pdq_sorted (l : List S36) : (zx_pdq l).Pairwise (fun x y => x.f0 ≤ y.f0) := by
 rw [List.pairwise_iff_getElem]
 intro i j hi hj hij
 have h := (zx_pdq_spec l).2 i j (Nat.zero_le _) hij (by rw [← zx_pdq_len l]; exact hj)
 rw [zx_lt] at h
 have hi' : i < (zx_pdq l).toArray.size := by simpa using hi
 have hj' : j < (zx_pdq l).toArray.size := by simpa using hj
 rw [getElem!_pos _ i hi', getElem!_pos _ j hj'] at h
 simp at h
 exact h
set_option maxHeartbeats 1000000 in
theorem zx_sort (P0_ : Nat → Prop) (u : Value) (l0 : List S36) (w0 w : World) (hB : Go.RowKit.Below w0.heap.size w0 w) (ho0 : Kd.R k36 36 w w0.heap.size P0_ u l0) (hl : l0.length < 17592186044416) :
  Calls Try.prog 42 #[u, .func (.func 43) #[] #[]] w fun e w' => e = .returned (.tuple #[]) ∧ Kd.R k36 36 w' w0.heap.size (fun k_ => (P0_ k_ ∨ w.heap.size ≤ k_)) u (zx_pdq l0) ∧ Go.RowKit.Below w0.heap.size w0 w' ∧ Kept w w' (fun k_ => P0_ k_) := by
 have eg : ∀ args w, (callFunc 43 args).run Try.prog w = .ok (.enter 43 args) w := enters_of Try.func43 (by kernel_rfl) rfl
 rcases Nat.eq_zero_or_pos l0.length with h0 | hpos
 ·obtain rfl : l0 = [] := List.eq_nil_of_length_eq_zero h0
  obtain ⟨A, c, rfl⟩ := Kd.R_slice ho0
  have hcon := AnyF.slices_SortFunc_none Try.sortSpan A c (.func (.func 43) #[] #[]) w
  change Calls Try.prog 42 #[.slice A 0 c, _] _ _ at hcon
  have hnil : zx_pdq [] = [] := List.eq_nil_of_length_eq_zero (zx_pdq_len [])
  refine hcon.mono ?_
  rintro e w' ⟨rfl, rfl⟩
  exact ⟨rfl, by rw [hnil]; exact Kd.R_mono ho0 (fun _ h => .inl h), hB, Kept.refl _ _⟩
 ·obtain ⟨g, c, rfl⟩ := R_head ho0 hpos
  obtain ⟨hH, hg, _⟩ := R_holds zx_flat ho0
  have hcon := AnyQ.slices_SortFunc_eq Try.sortSpan 2 Try.isAgg36 Try.sizeOf36 zx_enc zx_flat.len zx_flat.one zx_cf zx_swo 43 #[] g 0 c l0.toArray w eg (fun _ _ _ _ x y => zx_c43 x y _) hH hg (by simp; omega)
  change Calls Try.prog 42 #[.slice (some ⟨g, 0, none⟩) l0.length c, _] _ _ at hcon
  refine hcon.mono ?_
  rintro e w' ⟨rfl, m, os, rfl⟩
  have hp : (Sort.pdq (ltOf zx_cf) l0.toArray 0 l0.toArray.size (Lib.bitLen l0.toArray.size) true true).toList = zx_pdq l0 := by simp [zx_pdq]
  have hsz : (Sort.pdq (ltOf zx_cf) l0.toArray 0 l0.toArray.size (Lib.bitLen l0.toArray.size) true true).size = l0.length := by
   rw [← Array.length_toList, hp, zx_pdq_len]
  obtain ⟨h1, h2⟩ := R_sorted (m := m) (os := os) zx_flat ho0 hsz
  rw [hp] at h1
  exact ⟨rfl, Kd.R_mono h1 (fun _ h => .inl h), hB.grown h2 hB.size (fun k e => by injection e with e; rw [← e]; exact Kd.R_base ho0 g rfl), Kept.of_grown h2 (Kept.refl _ _) (fun k e => .inl (by injection e with e; rw [← e]; exact ho0.1 g rfl))⟩
end
end Go.Proofs.Ytieapebabncliaa.X
