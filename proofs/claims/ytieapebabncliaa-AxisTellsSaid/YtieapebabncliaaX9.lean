import Derived.Test.YtieapebabncliaaX0
import Derived.Test.YtieapebabncliaaX3
import Derived.Test.YtieapebabncliaaX5
import Derived.Test.YtieapebabncliaaX6
import Derived.Test.YtieapebabncliaaX7
import Derived.Test.YtieapebabncliaaX8
namespace Go.Proofs.Ytieapebabncliaa.X
open Go.RowKit Go.Proofs.YtieapebabncliaaW.PrintWords Go.Proofs.YtieapebabncliaaW.PrintLast Go.Proofs.YtieapebabncliaaW.PrintMore
set_option linter.unusedVariables false
set_option linter.unusedSimpArgs false
theorem wrap_id {x : Int} (h0 : -9223372036854775808 ≤ x) (h1 : x < 9223372036854775808) : wrap64 x = x := by unfold wrap64; omega
theorem rdL2 (l : List (List S36)) (j : Nat) (h : j < l.length) : rd_L3 l (j : Int) = l[j] := by unfold rd_L3; simp [h]
theorem concat_l1 (l : List (List S36)) (hl : l.length < 4611686018427387904) : ∀ (d j k : Nat) (x : List S36), l.length - j = d → j ≤ l.length → d < k → x.length + (l.drop j).flatten.length < 17592186044416 →
  api_Span_40.l1 k x l (l.length : Int) (j : Int) = some (x ++ (l.drop j).flatten) := by
 intro d
 induction d with
 | zero =>
  intro j k x hd hj hk hx
  obtain ⟨k, rfl⟩ : ∃ m, k = m + 1 := ⟨k - 1, by omega⟩
  obtain rfl : j = l.length := by omega
  simp only [api_Span_40.l1]
  rw [if_neg (by omega), List.drop_length]; simp
 | succ d ih =>
  intro j k x hd hj hk hx
  obtain ⟨k, rfl⟩ : ∃ m, k = m + 1 := ⟨k - 1, by omega⟩
  have hlt : j < l.length := by omega
  have e : (l.drop j).flatten = l[j] ++ (l.drop (j + 1)).flatten := by rw [List.drop_eq_getElem_cons hlt, List.flatten_cons]
  rw [e, List.length_append] at hx
  simp only [api_Span_40.l1]
  rw [if_pos (by omega), if_pos (by omega), if_pos (by omega), rdL2 l j hlt, if_pos (by omega), wrap_id (by omega) (by omega)]
  have := ih (j + 1) k (x ++ l[j]) (by omega) (by omega) (by omega) (by rw [List.length_append]; omega)
  rw [show ((j : Int) + 1) = ((j + 1 : Nat) : Int) by omega, this, e, List.append_assoc]
theorem concat_l0 (l : List (List S36)) (hl : l.length < 4611686018427387904) (hf : l.flatten.length < 17592186044416) : ∀ (d j k : Nat) (x : Int), l.length - j = d → j ≤ l.length → d + l.length + 1 < k → x + ((l.drop j).flatten.length : Int) = l.flatten.length → 0 ≤ x →
  api_Span_40.l0 k l x l (l.length : Int) (j : Int) = some l.flatten := by
 intro d
 induction d with
 | zero =>
  intro j k x hd hj hk hx h0
  obtain ⟨k, rfl⟩ : ∃ m, k = m + 1 := ⟨k - 1, by omega⟩
  obtain rfl : j = l.length := by omega
  simp only [api_Span_40.l0]
  rw [if_neg (by omega)]
  unfold api_Span_50_nil.f
  rw [List.drop_length] at hx
  simp only [List.flatten_nil, List.length_nil] at hx
  rw [if_pos (by omega), if_pos (by omega)]
  simp only [Option.bind_some]
  have := concat_l1 l hl l.length 0 k [] (by omega) (by omega) (by omega) (by simpa using hf)
  simpa using this
 | succ d ih =>
  intro j k x hd hj hk hx h0
  obtain ⟨k, rfl⟩ : ∃ m, k = m + 1 := ⟨k - 1, by omega⟩
  have hlt : j < l.length := by omega
  have e : (l.drop j).flatten = l[j] ++ (l.drop (j + 1)).flatten := by rw [List.drop_eq_getElem_cons hlt, List.flatten_cons]
  rw [e, List.length_append] at hx
  simp only [api_Span_40.l0]
  rw [if_pos (by omega), if_pos (by omega), if_pos (by omega), rdL2 l j hlt, wrap_id (by omega) (by omega), if_neg (by omega), wrap_id (x := (j : Int) + 1) (by omega) (by omega)]
  have := ih (j + 1) k (x + (l[j].length : Int)) (by omega) (by omega) (by omega) (by omega) (by omega)
  rw [show ((j : Int) + 1) = ((j + 1 : Nat) : Int) by omega, this]
theorem concat_f (l : List (List S36)) (hl : l.length < 4611686018427387904) (hf : l.flatten.length < 17592186044416) : ∃ k, api_Span_40.f k l = some l.flatten :=
 ⟨2 * l.length + 2, by unfold api_Span_40.f; exact concat_l0 l hl hf l.length 0 _ 0 (by omega) (by omega) (by omega) (by simp) (by omega)⟩
def spanUp (x : S36) : S36 := ⟨max x.f0 1, min x.f1 2147483647⟩
def stepU (out : List S36) (x : S36) : List S36 :=
 if 0 < out.length ∧ (spanUp x).f0 ≤ ((rd_T36 out ((out.length : Int) - 1)).f1 + 1) % 4294967296 then
  out.set (out.length - 1) ⟨(rd_T36 out ((out.length : Int) - 1)).f0, max (rd_T36 out ((out.length : Int) - 1)).f1 (spanUp x).f1⟩
 else out ++ [spanUp x]
theorem stepU_len (out : List S36) (x : S36) : (stepU out x).length ≤ out.length + 1 := by
 unfold stepU
 split
 ·simp
 ·simp
def joinU (l : List S36) : List S36 := l.foldl stepU []
theorem foldU_len (l : List S36) : ∀ out : List S36, (l.foldl stepU out).length ≤ out.length + l.length := by
 induction l with
 | nil => intro out; simp
 | cons x l ih =>
  intro out
  have h1 := ih (stepU out x)
  have h2 := stepU_len out x
  simp only [List.foldl_cons, List.length_cons]
  omega
theorem joinU_take (l : List S36) (j : Nat) (hj : j < l.length) : joinU (l.take (j + 1)) = stepU (joinU (l.take j)) l[j] := by
 unfold joinU
 rw [List.take_succ_eq_append_getElem hj, List.foldl_append]; rfl
theorem joinU_len (l : List S36) (j : Nat) : (joinU (l.take j)).length ≤ j := by
 have := foldU_len (l.take j) []
 rw [List.length_take] at this
 simp only [List.length_nil] at this
 unfold joinU
 omega
def unionF (l : List S36) : List S36 := joinU (zx_pdq (l.filter fun x => !gone x))
set_option maxHeartbeats 2000000 in
theorem zx_union (A0 : Option Addr) (c0 : Nat) (l0 : List (List S36)) (w : World) (hr0 : Kd.C (Kd.slice 36 k36) w A0 l0.length l0) (hc0 : l0.length ≤ c0) (hl : l0.length < 4611686018427387904) (hf : l0.flatten.length < 17592186044416) :
  Calls Try.prog 12 #[.slice A0 l0.length c0] w fun e w' => ∃ v0_ : Value, e = .returned (v0_) ∧ Kd.R k36 36 w' w.heap.size (fun _ => True) v0_ (unionF l0.flatten) ∧ Below w.heap.size w w' := by
 have huS := Try.underlying36
 obtain ⟨k, hk⟩ := concat_f l0 hl hf
 have hconc := api_Span_40.calls k A0 c0 l0 _ w hr0 hc0 hk
 have HFL := Sd.mk hf
 generalize l0.flatten = l1 at hconc HFL ⊢
 clear hr0 hk hf
 go_enter Try.func12, Try.ntmps12
 go_wp2_with (first | (go_at_call 40; refine hconc.mono ?_; rintro e w1 ⟨v1, rfl, ho1, hb1⟩; have HD : ∀ x, Sd (x = l1.filter fun x => !gone x) → Calls Try.prog 39 #[v1, .func (.func 41) #[] #[]] w1 fun e w' => ∃ v0_ : Value, e = .returned (v0_) ∧ Kd.R k36 36 w' w.heap.size (fun _ => True) v0_ x ∧ Below w.heap.size w w' := (fun x hx => (zx_delete (fun _ => True) v1 l1 w w1 hb1 ho1 HFL.out).mono (by rintro e w' ⟨v, h1, h2, h3, _⟩; exact ⟨v, h1, by rw [hx.out]; exact Kd.R_mono h2 (fun _ _ => trivial), h3⟩)); clear hconc ho1 hb1) | (go_at_call 39; refine (HD _ ⟨rfl⟩).mono ?_; rintro e w2 ⟨v2, rfl, ho2, hb2⟩; have HS := zx_sort (fun _ => True) v2 _ w w2 hb2 ho2 (Nat.lt_of_le_of_lt (List.length_filter_le _ _) HFL.out); clear HD ho2 hb2) | (go_at_call 42; refine HS.mono ?_; rintro e w3 ⟨rfl, ho3, hb3, _⟩; have HO3 := Sd.mk (Kd.R_mono (ok' := fun _ => True) ho3 (fun _ _ => trivial)); have HB3 := Sd.mk hb3; clear HS ho3 hb3; obtain ⟨A3, c3, rfl⟩ := Kd.R_slice HO3.out))
 have HLL : Sd ((zx_pdq (l1.filter fun x => !gone x)).length < 17592186044416) := ⟨by rw [zx_pdq_len]; exact Nat.lt_of_le_of_lt (List.length_filter_le _ _) HFL.out⟩
 have HUF : Sd (unionF l1 = joinU (zx_pdq (l1.filter fun x => !gone x))) := ⟨rfl⟩
 generalize (zx_pdq (l1.filter fun x => !gone x)) = l at HLL HUF HO3
 have hll := HLL.out
 go_loopg [4, 15] l.length (fun gg s4 s15 wr => ∃ j : Nat, j ≤ l.length ∧ l.length - j ≤ gg ∧ s15 = .int .i64 j ∧ Sd (Kd.R k36 36 wr w.heap.size (fun _ => True) s4 (joinU (l.take j))) ∧ Sd (Kd.R k36 36 wr w.heap.size (fun k_ => True ∧ some k_ ≠ s4.ownBlock) (.slice A3 l.length c3) l) ∧ Sd (Below w.heap.size w wr))
 case atStart =>
  exact ⟨0, Nat.zero_le _, by omega, rfl, ⟨Kd.R_nil _ _ _ _ _⟩, ⟨Kd.R_mono HO3.out (fun k _ => ⟨trivial, by simp [Value.ownBlock]⟩)⟩, HB3⟩
 case round =>
  clear HO3 HB3
  obtain ⟨j, hj, hg, rfl, HO, HA, HB⟩ := hrel
  have hjl := joinU_len l j
  by_cases hlt : j < l.length
  ·obtain ⟨ad, e1, hx0, hx1⟩ := at_T36 (Kd.R_reads' HA.out).2.2 (j : Int) (by omega) (by omega)
   subst e1
   simp only [Int.toNat_natCast] at hx0 hx1
   have HJT := Sd.mk (joinU_take l j hlt)
   have HX := Sd.mk (rd_get l j hlt)
   rw [← HX.out] at HJT
   generalize rd_T36 l j = x at hx0 hx1 HX HJT
   obtain ⟨s0, hs0⟩ : ∃ s0, max x.f0 1 = s0 := ⟨_, rfl⟩
   obtain ⟨s1, hs1⟩ : ∃ s1, min x.f1 2147483647 = s1 := ⟨_, rfl⟩
   have HSU : Sd (spanUp x = ⟨s0, s1⟩) := ⟨by unfold spanUp; rw [hs0, hs1]⟩
   have hltz : (j : Int) < (l.length : Int) := by omega
   generalize hout : joinU (l.take j) = out at hjl HO HJT
   have HOUT := Sd.mk hout
   clear hout
   rcases Nat.eq_zero_or_pos out.length with h0 | hpos
   ·obtain rfl : out = [] := List.eq_nil_of_length_eq_zero h0
    have HST : Sd (stepU [] x = [⟨s0, s1⟩]) := ⟨by unfold stepU; rw [if_neg (by simp), HSU.out]; rfl⟩
    clear h0
    rcases R_two HO.out with rfl | ⟨g4, c4, rfl⟩
    all_goals
     go_wp2
     go_quiet (fail)
     obtain ⟨wq, hwq⟩ : ∃ wq, wq = (wr.alloc (Obj.cells #[Value.int IntKind.u32 s0, Value.int IntKind.u32 s1] 36)).drewN nq := ⟨_, rfl⟩
     have hb0 : wq.cell? ⟨wr.heap.size, 0, none⟩ = some (.int .u32 s0) := by rw [hwq]; exact (show (wr.alloc _).cell? _ = _ by simp)
     have hb1 : wq.cell? ⟨wr.heap.size, 1, none⟩ = some (.int .u32 s1) := by rw [hwq]; exact (show (wr.alloc _).cell? _ = _ by simp)
     have HOq := Sd.mk (show Kd.R k36 36 wq w.heap.size (fun _ => True) _ _ from by rw [hwq]; exact Kd.R_drewN (Kd.R_alloc HO.out _) _)
     have HAq := Sd.mk (show Kd.R k36 36 wq w.heap.size _ _ _ from by rw [hwq]; exact Kd.R_drewN (Kd.R_alloc HA.out _) _)
     have HBq := Sd.mk (show Below w.heap.size w wq from by rw [hwq]; exact pwN (bwA HB.out _) _)
     rw [← hwq]
     clear hwq HO HA HB hx0 hx1
     go_wp2_with (first | ((with_reducible refine gate_builtin (b := .append) (xs := #[.tmp 54, .tmp 56]) rfl ?_); at_builtin; refine Kd.R_append k36 (w0 := w) w.heap.size rfl (.tmp 54) (.tmp 56) 26 36 (.agg #[(.int .u32 0), (.int .u32 0)]) 8 rfl Try.underlying26 info36 rfl (by decide) (by decide) _ [] (⟨s0, s1⟩ : S36) [.int .u32 s0, .int .u32 s1] (fun _ => True) (fun _ => False) rfl rfl (k36_mkM _ _ _ (⟨s0, s1⟩ : S36)) (fun _ hk => hk.elim) (fun _ _ => trivial) HOq.out HBq.out (below_size HBq.out) (by simp) ?_; intro v5 w5 ho hb hg hat; have HO5 := Sd.mk ho; have HB5 := Sd.mk hb; have HA5 := Sd.mk (Kd.R_after (v1 := v5) (ok := fun _ => True) HAq.out hg hat); clear ho hb hg hat))
     go_roundg (l.length - (j + 1))
     case measure => omega
     case rel => exact ⟨j + 1, by omega, by omega, by go_num, ⟨by rw [HJT.out, HST.out]; exact HO5.out⟩, HA5, HB5⟩
   ·obtain ⟨g4, c4, rfl⟩ := R_head HO.out hpos
    obtain ⟨ad4, e4, hy0, hy1⟩ := at_T36 (Kd.R_reads' HO.out).2.2 ((out.length : Int) - 1) (by omega) (by omega)
    injection e4 with e4
    subst e4
    have hto : ((out.length : Int) - 1).toNat = out.length - 1 := by omega
    rw [hto] at hy0 hy1
    simp only [add_plain] at hy0 hy1
    have HST : Sd (stepU out x = if s0 ≤ ((rd_T36 out ((out.length : Int) - 1)).f1 + 1) % 4294967296 then out.set (out.length - 1) ⟨(rd_T36 out ((out.length : Int) - 1)).f0, max (rd_T36 out ((out.length : Int) - 1)).f1 s1⟩ else out ++ [⟨s0, s1⟩]) := ⟨by
     unfold stepU; rw [HSU.out]
     by_cases hc : s0 ≤ ((rd_T36 out ((out.length : Int) - 1)).f1 + 1) % 4294967296
     ·rw [if_pos ⟨hpos, hc⟩, if_pos hc]
     ·rw [if_neg (fun h => hc h.2), if_neg hc]⟩
    generalize rd_T36 out ((out.length : Int) - 1) = y at hy0 hy1 HST
    have hya : ∀ o, (wr.alloc o).cell? ⟨g4, (out.length - 1) * 2 + 1, none⟩ = some (.int .u32 y.f1) := fun o => pw_cell_below (bwA (Below.refl _ _) o) hy1
    have h1l : 1 ≤ (out.length : Int) := by omega
    have h1d : decide (1 ≤ (out.length : Int)) = true := decide_eq_true h1l
    have h0l : 0 ≤ (out.length : Int) - 1 := by omega
    have h0d : decide (0 ≤ (out.length : Int) - 1) = true := decide_eq_true h0l
    have hlo : (out.length : Int) - 1 < (out.length : Int) := by omega
    by_cases hc : s0 ≤ (y.f1 + 1) % 4294967296
    ·rw [if_pos hc] at HST
     have hcd : decide (s0 ≤ (y.f1 + 1) % 4294967296) = true := decide_eq_true hc
     clear hc
     go_wp2
     go_quiet (fail)
     obtain ⟨wq, hwq⟩ : ∃ wq, wq = (wr.alloc (Obj.cells #[Value.int IntKind.u32 s0, Value.int IntKind.u32 s1] 36)).drewN nq := ⟨_, rfl⟩
     have hb0 : wq.cell? ⟨wr.heap.size, 0, none⟩ = some (.int .u32 s0) := by rw [hwq]; exact (show (wr.alloc _).cell? _ = _ by simp)
     have hb1 : wq.cell? ⟨wr.heap.size, 1, none⟩ = some (.int .u32 s1) := by rw [hwq]; exact (show (wr.alloc _).cell? _ = _ by simp)
     have HOq := Sd.mk (show Kd.R k36 36 wq w.heap.size (fun _ => True) _ _ from by rw [hwq]; exact Kd.R_drewN (Kd.R_alloc HO.out _) _)
     have HAq := Sd.mk (show Kd.R k36 36 wq w.heap.size _ _ _ from by rw [hwq]; exact Kd.R_drewN (Kd.R_alloc HA.out _) _)
     have HBq := Sd.mk (show Below w.heap.size w wq from by rw [hwq]; exact pwN (bwA HB.out _) _)
     have hyq : wq.cell? ⟨g4, (out.length - 1) * 2 + 1, none⟩ = some (.int .u32 y.f1) := by rw [hwq]; exact hya _
     have hyf : wq.frozen? ⟨g4, (out.length - 1) * 2 + 1, none⟩ = false := World.ownsRow.frozenAt HOq.out.2.choose_spec.1 _
     have hy0q : wq.cell? ⟨g4, (out.length - 1) * 2, none⟩ = some (.int .u32 y.f0) := by rw [hwq]; exact pw_cell_below (pwN (bwA (Below.refl _ _) _) _) hy0
     rw [← hwq]
     clear hwq HO HA HB hx0 hx1 hy0 hy1 hya
     go_wp2
     go_region
     obtain ⟨hro, hrg⟩ := Kd.R_seg (okp := fun _ => False) HOq.out ((out.length : Int) - 1) (by omega) (by omega) (c := [.int .u32 y.f0, .int .u32 y.f1]) (seg := [.int .u32 (max y.f1 s1)]) (j := 1) rfl (by
      intro q u hq
      rw [hto]
      match q, hq with
      | 0, hq => simp only [List.getElem?_cons_zero, Option.some.injEq] at hq; subst hq; exact hy0q
      | 1, hq => simp only [List.getElem?_cons_succ, List.getElem?_cons_zero, Option.some.injEq] at hq; subst hq; exact hyq
      | q + 2, hq => simp at hq) (Nat.le_refl 2) (x' := (⟨y.f0, max y.f1 s1⟩ : S36)) (k36_mkM _ _ _ (⟨y.f0, max y.f1 s1⟩ : S36)) (fun _ h => h.elim)
     rw [hto] at hro hrg
     have hro2 : Kd.R k36 36 (wq.setCell ⟨g4, (out.length - 1) * 2 + 1, none⟩ (.int .u32 (max y.f1 s1))) w.heap.size (fun _ => True) (.slice (some ⟨g4, 0, none⟩) out.length c4) (out.set (out.length - 1) ⟨y.f0, max y.f1 s1⟩) := hro
     have hrg2 : wq.grownBy (wq.setCell ⟨g4, (out.length - 1) * 2 + 1, none⟩ (.int .u32 (max y.f1 s1))) (some g4) := hrg
     clear hro hrg
     have HO6 := Sd.mk hro2
     have HA6 := Sd.mk (Kd.R_grown HAq.out hrg2 (fun k hk => hk.2))
     have HB6 : Sd (Below w.heap.size w (wq.setCell ⟨g4, (out.length - 1) * 2 + 1, none⟩ (.int .u32 (max y.f1 s1)))) := ⟨HBq.out.grown hrg2 HBq.out.size (fun k e => by injection e with e; rw [← e]; exact Kd.R_base HOq.out g4 rfl)⟩
     clear hro2 hrg2
     go_wp2
     go_roundg (l.length - (j + 1))
     case measure => omega
     case rel => exact ⟨j + 1, by omega, by omega, by go_num, ⟨by rw [HJT.out, HST.out]; exact Kd.R_drew HO6.out⟩, ⟨Kd.R_drew HA6.out⟩, ⟨below_drew HB6.out⟩⟩
    ·rw [if_neg hc] at HST
     have hcd : decide (s0 ≤ (y.f1 + 1) % 4294967296) = false := decide_eq_false hc
     clear hc
     go_wp2
     go_quiet (fail)
     obtain ⟨wq, hwq⟩ : ∃ wq, wq = (wr.alloc (Obj.cells #[Value.int IntKind.u32 s0, Value.int IntKind.u32 s1] 36)).drewN nq := ⟨_, rfl⟩
     have hb0 : wq.cell? ⟨wr.heap.size, 0, none⟩ = some (.int .u32 s0) := by rw [hwq]; exact (show (wr.alloc _).cell? _ = _ by simp)
     have hb1 : wq.cell? ⟨wr.heap.size, 1, none⟩ = some (.int .u32 s1) := by rw [hwq]; exact (show (wr.alloc _).cell? _ = _ by simp)
     have HOq := Sd.mk (show Kd.R k36 36 wq w.heap.size (fun _ => True) _ _ from by rw [hwq]; exact Kd.R_drewN (Kd.R_alloc HO.out _) _)
     have HAq := Sd.mk (show Kd.R k36 36 wq w.heap.size _ _ _ from by rw [hwq]; exact Kd.R_drewN (Kd.R_alloc HA.out _) _)
     have HBq := Sd.mk (show Below w.heap.size w wq from by rw [hwq]; exact pwN (bwA HB.out _) _)
     rw [← hwq]
     clear hwq HO HA HB hx0 hx1 hy0 hy1 hya
     go_wp2_with (first | ((with_reducible refine gate_builtin (b := .append) (xs := #[.tmp 54, .tmp 56]) rfl ?_); at_builtin; refine Kd.R_append k36 (w0 := w) w.heap.size rfl (.tmp 54) (.tmp 56) 26 36 (.agg #[(.int .u32 0), (.int .u32 0)]) 8 rfl Try.underlying26 info36 rfl (by decide) (by decide) _ out (⟨s0, s1⟩ : S36) [.int .u32 s0, .int .u32 s1] (fun _ => True) (fun _ => False) rfl rfl (k36_mkM _ _ _ (⟨s0, s1⟩ : S36)) (fun _ hk => hk.elim) (fun _ _ => trivial) HOq.out HBq.out (below_size HBq.out) (by omega) ?_; intro v5 w5 ho hb hg hat; have HO5 := Sd.mk ho; have HB5 := Sd.mk hb; have HA5 := Sd.mk (Kd.R_after (v1 := v5) (ok := fun _ => True) HAq.out hg hat); clear ho hb hg hat))
     go_roundg (l.length - (j + 1))
     case measure => omega
     case rel => exact ⟨j + 1, by omega, by omega, by go_num, ⟨by rw [HJT.out, HST.out]; exact HO5.out⟩, HA5, HB5⟩
  ·clear HA
   obtain ⟨A4, c4, rfl⟩ := Kd.R_slice HO.out
   go_wp2
   go_ret
   have HJ : joinU (l.take j) = joinU l := by rw [List.take_of_length_le (by omega)]
   exact ⟨_, rfl, by rw [HUF.out, ← HJ]; exact HO.out, HB.out⟩
def axis_Union.f (l0 : List (List (S36))) : Option (List (S36)) := if l0.length < 4611686018427387904 ∧ l0.flatten.length < 17592186044416 then some (unionF l0.flatten) else none
theorem axis_Union.calls (A0 : Option Addr) (c0 : Nat) (l0 : List (List (S36))) (r : List (S36)) (w : World) (hr0 : Kd.C (Kd.slice 36 k36) w A0 l0.length l0) (hc0 : l0.length ≤ c0) (h : axis_Union.f l0 = some r) :
  Calls Try.prog 12 #[.slice A0 l0.length c0] w fun e w' => ∃ v0_ : Value, e = .returned (v0_) ∧ Kd.R k36 36 w' w.heap.size (fun _ => True) v0_ r ∧ Below w.heap.size w w' := by
 unfold axis_Union.f at h
 split at h
 ·rename_i hh
  obtain rfl := Option.some.inj h
  exact zx_union A0 c0 l0 w hr0 hc0 hh.1 hh.2
 ·cases h
end Go.Proofs.Ytieapebabncliaa.X
