import Derived.Test.YtieapebabncliaaX0
import Derived.Shelf.SlSortCmp.WholeK
namespace Go.Proofs.Ytieapebabncliaa.X
open Go.RowKit Go.Proofs.YtieapebabncliaaW.PrintWords Go.Proofs.YtieapebabncliaaW.PrintLast Go.Proofs.YtieapebabncliaaW.PrintMore
attribute [local go_sem] max2_int min2_int max_two min_two max_three min_three max_four min_four
set_option linter.unusedVariables false
set_option linter.unusedSimpArgs false
theorem ret_bool {a b : Bool} (h : a = b) : Ending.returned (.bool a) = .returned (.bool b) := by rw [h]
theorem ret_int {k : IntKind} {a b : Int} (h : a = b) : Ending.returned (.int k a) = .returned (.int k b) := by rw [h]
def gone (x : S36) : Bool := decide (min x.f1 2147483647 < max x.f0 1)
set_option maxHeartbeats 400000 in
theorem zx_c41 (x : S36) (W : World) : Calls Try.prog 41 #[.agg #[.int .u32 x.f0, .int .u32 x.f1]] W fun e w' => e = .returned (.bool (gone x)) ∧ Below W.heap.size W w' := by
 go_enter Try.func41, Try.ntmps41
 go_wp2
 all_goals
  go_ret
  exact ⟨ret_bool (by unfold gone; rw [eq_comm]; first | (simp; omega) | (rw [decide_eq_decide]; omega)), (Below.refl _ _).alloc (Nat.le_refl _) _⟩
def cmpi (x y : Int) : Int := if x < y then -1 else if y < x then 1 else 0
set_option maxHeartbeats 400000 in
theorem zx_c44 (x y : Int) (W : World) : Calls Try.prog 44 #[.int .u32 x, .int .u32 y] W fun e w' => e = .returned (.int .i64 (cmpi x y)) ∧ w' = W := by
 go_enter Try.func44, Try.ntmps44
 go_wp2
 all_goals
  go_ret
  exact ⟨ret_int (by unfold cmpi; first | (rw [if_pos (by omega)]) | (rw [if_neg (by omega), if_pos (by omega)]) | (rw [if_neg (by omega), if_neg (by omega)])), rfl⟩
open Go.Sort in
set_option maxHeartbeats 400000 in
theorem zx_c43 (x y : S36) (W : World) : Calls Try.prog 43 #[.agg #[.int .u32 x.f0, .int .u32 x.f1], .agg #[.int .u32 y.f0, .int .u32 y.f1]] W fun e w' => e = .returned (.int .i64 (cmpi x.f0 y.f0)) ∧ ∃ q os', w' = grow (W.drewN q) os' := by
 go_enter Try.func43, Try.ntmps43
 go_wp2_with (go_at_call 44; refine (zx_c44 _ _ _).mono ?_; rintro e w' ⟨rfl, rfl⟩)
 go_ret
 exact ⟨rfl, 0, _, by rw [alloc_eq_grow, alloc_eq_grow, grow_grow]; rfl⟩
def idxf {α : Type} (p : α → Bool) (l : List α) : Int := match l.findIdx? p with | some i => (i : Int) | none => -1
theorem idxf_hit {α : Type} {p : α → Bool} {l : List α} {k : Nat} (h : k < l.length) (hp : p l[k] = true) (hn : ∀ j (hj : j < k), p (l[j]'(by omega)) = false) : idxf p l = k := by
 unfold idxf
 have : l.findIdx? p = some k := by
  rw [List.findIdx?_eq_some_iff_getElem]
  exact ⟨h, hp, fun j hj => by simp [hn j hj]⟩
 rw [this]
theorem idxf_none {α : Type} {p : α → Bool} {l : List α} (hn : ∀ j (hj : j < l.length), p l[j] = false) : idxf p l = -1 := by
 unfold idxf
 have : l.findIdx? p = none := by
  rw [List.findIdx?_eq_none_iff]
  intro x hx
  obtain ⟨j, hj, rfl⟩ := List.getElem_of_mem hx
  exact hn j hj
 rw [this]
theorem rd_get (l : List S36) (k : Nat) (h : k < l.length) : rd_T36 l k = l[k] := by
 unfold rd_T36
 simp [h]
def PredS (g : Nat) (lb : Array Value) (p : S36 → Bool) (w : World) : Prop :=
 ∀ (W : World) (x : S36), Below w.heap.size w W → Calls Try.prog g (#[.agg #[.int .u32 x.f0, .int .u32 x.f1]] ++ lb) W fun e w' => e = .returned (.bool (p x)) ∧ Below W.heap.size W w'
set_option maxHeartbeats 1000000 in
theorem zx_indexp (g : Nat) (lb : Array Value) (p : S36 → Bool) (eg : ∀ args w, (callFunc g args).run Try.prog w = .ok (.enter g args) w) (A0 : Option Addr) (c0 : Nat) (l0 : List S36) (w : World) (hp : PredS g lb p w) (hr0 : Kd.C k36 w A0 l0.length l0) (hl : l0.length < 17592186044416) :
  Calls Try.prog 49 #[.slice A0 l0.length c0, .func (.func g) #[] lb] w fun e w' => e = .returned (.int .i64 (idxf p l0)) ∧ Below w.heap.size w w' := by
 have huS := Try.underlying36
 have HR := Sd.mk hr0
 clear hr0
 go_enter Try.func49, Try.ntmps49
 go_wp2
 go_loopg [5, 8] l0.length (fun gg _ s8 wr => ∃ kk : Nat, kk ≤ l0.length ∧ l0.length - kk ≤ gg ∧ s8 = .int .i64 kk ∧ Sd (Below w.heap.size w wr) ∧ Sd (∀ j (hj : j < l0.length), j < kk → p l0[j] = false))
 case atStart => exact ⟨0, Nat.zero_le _, by omega, rfl, ⟨Below.refl _ w⟩, ⟨fun j hj h => absurd h (Nat.not_lt_zero _)⟩⟩
 case round =>
  obtain ⟨kk, hkk, hg, rfl, BW, AN⟩ := hrel
  by_cases hlt : kk < l0.length
  ·obtain ⟨ad, e1, hx0, hx1⟩ := at_T36 HR.out (kk : Int) (by omega) (by omega)
   subst e1
   simp only [Int.toNat_natCast] at hx0 hx1
   replace hx0 := (BW.out.cell (World.block_lt_of_cell? w _ hx0)).trans hx0
   replace hx1 := (BW.out.cell (World.block_lt_of_cell? w _ hx1)).trans hx1
   have hltz : (kk : Int) < (l0.length : Int) := by omega
   have HX := Sd.mk (rd_get l0 kk hlt)
   generalize rd_T36 l0 kk = x at hx0 hx1 HX
   have hcall := hp wr x BW.out
   cases hq : p x with
   | true =>
    rw [hq] at hcall
    have HQ := Sd.mk hq
    clear hq
    go_wp2_with (go_at_fn g; refine hcall.mono ?_; rintro e w' ⟨rfl, hb'⟩)
    go_ret
    exact ⟨ret_int (by rw [idxf_hit hlt (by rw [← HX.out]; exact HQ.out) (fun j hj => AN.out j (by omega) hj)]), below_step BW.out hb'⟩
   | false =>
    rw [hq] at hcall
    have HQ := Sd.mk hq
    clear hq
    go_wp2_with (go_at_fn g; refine hcall.mono ?_; rintro e w' ⟨rfl, hb'⟩)
    go_roundg (l0.length - (kk + 1))
    case measure => omega
    case rel => exact ⟨kk + 1, by omega, by omega, by go_num, ⟨below_step BW.out hb'⟩, ⟨fun j hj h => by
     by_cases e : j = kk
     ·subst e; rw [← HX.out]; exact HQ.out
     ·exact AN.out j hj (by omega)⟩⟩
  ·go_wp2
   go_ret
   exact ⟨ret_int (by rw [idxf_none (fun j hj => AN.out j hj (by omega))]), BW.out⟩
theorem zx_index (A0 : Option Addr) (c0 : Nat) (l0 : List S36) (w : World) (hr0 : Kd.C k36 w A0 l0.length l0) (hl : l0.length < 17592186044416) :
  Calls Try.prog 49 #[.slice A0 l0.length c0, .func (.func 41) #[] #[]] w fun e w' => e = .returned (.int .i64 (idxf gone l0)) ∧ Below w.heap.size w w' :=
 zx_indexp 41 #[] gone (enters_of Try.func41 (by kernel_rfl) rfl) A0 c0 l0 w (fun W x _ => zx_c41 x W) hr0 hl
theorem idxf_any {α : Type} (p : α → Bool) (l : List α) : decide (0 ≤ idxf p l) = l.any p := by
 unfold idxf
 cases h : l.findIdx? p with
 | none =>
  rw [List.findIdx?_eq_none_iff] at h
  symm
  rw [show decide (0 ≤ (-1 : Int)) = false from rfl, List.any_eq_false]
  intro x hx
  simp [h x hx]
 | some i =>
  rw [List.findIdx?_eq_some_iff_getElem] at h
  obtain ⟨hi, h1, _⟩ := h
  have : l.any p = true := List.any_eq_true.2 ⟨l[i], List.getElem_mem hi, h1⟩
  rw [this]; simp
set_option maxHeartbeats 400000 in
theorem zx_containsp (g : Nat) (lb : Array Value) (p : S36 → Bool) (eg : ∀ args w, (callFunc g args).run Try.prog w = .ok (.enter g args) w) (A0 : Option Addr) (c0 : Nat) (l0 : List S36) (w : World) (hp : PredS g lb p w) (hr0 : Kd.C k36 w A0 l0.length l0) (hl : l0.length < 17592186044416) :
  Calls Try.prog 46 #[.slice A0 l0.length c0, .func (.func g) #[] lb] w fun e w' => e = .returned (.bool (l0.any p)) ∧ Below w.heap.size w w' := by
 have hcall := zx_indexp g lb p eg A0 c0 l0 w hp hr0 hl
 rw [← idxf_any]
 generalize idxf p l0 = r at hcall ⊢
 clear hr0 hp
 go_enter Try.func46, Try.ntmps46
 go_wp2_with (go_at_call 49; refine hcall.mono ?_; rintro e w' ⟨rfl, hb'⟩)
 go_ret
 exact ⟨rfl, hb'⟩
theorem zx_c47 (id : Int) (b : Nat) (x : S36) (W : World) (hb : W.cell? ⟨b, 0, none⟩ = some (.int .u32 id)) : Calls Try.prog 47 (#[.agg #[.int .u32 x.f0, .int .u32 x.f1]] ++ #[.pointer (some ⟨b, 0, none⟩)]) W fun e w' => e = .returned (.bool (decide (x.f0 ≤ id) && decide (id ≤ x.f1))) ∧ Below W.heap.size W w' := by
 have hlt : b < W.heap.size := World.block_lt_of_cell? W _ hb
 by_cases h1 : x.f0 ≤ id
 ·have hd : decide (x.f0 ≤ id) = true := decide_eq_true h1
  clear h1
  go_enter Try.func47, Try.ntmps47
  go_wp2
  go_ret
  exact ⟨ret_bool (by rw [hd]; rfl), (Below.refl _ _).alloc (Nat.le_refl _) _⟩
 ·have hd : decide (x.f0 ≤ id) = false := decide_eq_false h1
  clear h1
  go_enter Try.func47, Try.ntmps47
  go_wp2
  go_ret
  exact ⟨ret_bool (by rw [hd]; rfl), (Below.refl _ _).alloc (Nat.le_refl _) _⟩
def hasb (l0 : List S36) (a1 : Int) : Bool := decide (1 ≤ a1) && decide (a1 ≤ 2147483647) && l0.any fun s => decide (s.f0 ≤ a1) && decide (a1 ≤ s.f1)
set_option maxHeartbeats 400000 in
theorem zx_has (A0 : Option Addr) (c0 : Nat) (l0 : List S36) (a1 : Int) (w : World) (hr0 : Kd.C k36 w A0 l0.length l0) (hl : l0.length < 17592186044416) :
  Calls Try.prog 26 #[.slice A0 l0.length c0, .int .u32 a1] w fun e w' => e = .returned (.bool (hasb l0 a1)) ∧ Below w.heap.size w w' := by
 have eg : ∀ args w, (callFunc 47 args).run Try.prog w = .ok (.enter 47 args) w := enters_of Try.func47 (by kernel_rfl) rfl
 have hcall := zx_containsp 47 #[.pointer (some ⟨w.heap.size, 0, none⟩)] (fun s => decide (s.f0 ≤ a1) && decide (a1 ≤ s.f1)) eg A0 c0 l0 (w.alloc (.cells #[.int .u32 a1] 34))
  (fun W x hW => zx_c47 a1 w.heap.size x W ((hW.cell (by simp)).trans (by simp))) (Kd.C_alloc hr0 _) hl
 have HR : Sd (hasb l0 a1 = (decide (1 ≤ a1) && decide (a1 ≤ 2147483647) && l0.any fun s => decide (s.f0 ≤ a1) && decide (a1 ≤ s.f1))) := ⟨rfl⟩
 generalize hasb l0 a1 = R at HR ⊢
 generalize (l0.any fun s => decide (s.f0 ≤ a1) && decide (a1 ≤ s.f1)) = r at hcall HR
 clear hr0
 by_cases h1 : 1 ≤ a1
 ·have hd1 : decide (1 ≤ a1) = true := decide_eq_true h1
  by_cases h2 : a1 ≤ 2147483647
  ·have hd2 : decide (a1 ≤ 2147483647) = true := decide_eq_true h2
   clear h1 h2
   go_enter Try.func26, Try.ntmps26
   go_wp2_with (go_at_call 46; refine hcall.mono ?_; rintro e w' ⟨rfl, hb'⟩)
   go_ret
   exact ⟨ret_bool (by rw [HR.out, hd1, hd2]; rfl), below_then (bwA (Below.refl _ w) _) (by simp) hb'⟩
  ·have hd2 : decide (a1 ≤ 2147483647) = false := decide_eq_false h2
   clear h1 h2 hcall
   go_enter Try.func26, Try.ntmps26
   go_wp2
   go_ret
   exact ⟨ret_bool (by rw [HR.out, hd1, hd2]; rfl), bwA (Below.refl _ w) _⟩
 ·have hd1 : decide (1 ≤ a1) = false := decide_eq_false h1
  clear h1 hcall
  go_enter Try.func26, Try.ntmps26
  go_wp2
  go_ret
  exact ⟨ret_bool (by rw [HR.out, hd1]; rfl), bwA (Below.refl _ w) _⟩
end Go.Proofs.Ytieapebabncliaa.X
