import Derived.Test.YtcamcfplcoklkaaI9
namespace Go.Proofs.Ytcamcfplcoklkaa.Iv
open Go
section
variable {P : Program} {K B : Nat → Prop} {w : World} {S : Nat → Prop} {m : Map} {H : Heap}
set_option linter.unusedVariables false
set_option linter.unusedSimpArgs false

theorem run_binInt {op : BinOp} {k : IntKind} {a b : Int} (t : Nat) (h1 : op ≠ .shl) (h2 : op ≠ .shr) : binOp op t (.int k a) (.int k b) =
    (match op with
    | .add | .sub | .mul => Op.intArith op k a b
    | .quo | .rem => Op.intDiv op k a b
    | .and | .or | .xor | .andNot => Op.intBits op k a b
    | _ => Op.intCmp op a b) := by
  cases op <;> first | (exact absurd rfl h1) | (exact absurd rfl h2) | simp [binOp]
theorem evInt_sound {op : BinOp} {k : IntKind} {a b : Int} {v : V} (he : evInt op k a b = some v) (t : Nat) : SoundV P B w S m v (binOp op t (.int k a) (.int k b)) := by
  unfold SoundV
  cases op <;> simp only [evInt] at he
  case quo =>
    split at he
    · cases he
    · rename_i hb; cases he; rw [run_binInt t (by simp) (by simp)]; exact ⟨_, by simp only [Op.intDiv, hb, if_false]; rfl, .i⟩
  case rem =>
    split at he
    · cases he
    · rename_i hb; cases he; rw [run_binInt t (by simp) (by simp)]; exact ⟨_, by simp only [Op.intDiv, hb, if_false]; rfl, .i⟩
  case shl => cases he
  case shr => cases he
  all_goals
    cases he
    rw [run_binInt t (by simp) (by simp)]
    first | exact ⟨_, rfl, .i⟩ | exact ⟨_, rfl, .b⟩
theorem evShift_sound {op : BinOp} {k k' : IntKind} {a b : Int} {v : V} (he : evShift op k a b = some v) (t : Nat) : SoundV P B w S m v (binOp op t (.int k a) (.int k' b)) := by
  unfold evShift at he
  split at he
  · cases he
  · rename_i hb
    split at he
    · cases he; exact ⟨_, by simp only [binOp, Op.shift, hb, if_false]; rfl, .i⟩
    · cases he; exact ⟨_, by simp only [binOp, Op.shift, hb, if_false]; rfl, .i⟩
    · cases he
theorem evStr_sound {op : BinOp} {a b : List UInt8} {v : V} (he : evStr op a b = some v) (t : Nat) : SoundV P B w S m v (binOp op t (.string ⟨a.toArray⟩) (.string ⟨b.toArray⟩)) := by
  cases op <;> simp only [evStr] at he
  case add =>
    split at he
    · rename_i hle
      cases he
      refine ⟨.string ⟨(a ++ b).toArray⟩, ?_, .fr (.str _)⟩
      have e : (⟨a.toArray⟩ : ByteArray) ++ ⟨b.toArray⟩ = ⟨(a ++ b).toArray⟩ := by apply ByteArray.ext; simp
      have h1 : ¬ (9223372036854775807 < ((a.length : Int) + (b.length : Int))) := by omega
      simp [binOp, Op.stringOp, ByteArray.size, e, h1]
    · cases he
  all_goals first
    | (cases he; done)
    | (cases he
       refine ⟨.bool _, ?_, .b⟩
       simp only [binOp, Op.stringOp, ByteArray.toList_mk]
       rfl)

theorem list_cons_some {x : Value} {c : List V} {cs : List (List V)} {l : Bool} (hx : VR w S B m (.list (c :: cs) l) x) : ∃ a n cap, x = .slice (some a) n cap := by
  obtain ⟨_, cap, a, vals, rfl, _, _, h3, _⟩ := hx.list_inv
  obtain ⟨rb, o, rfl, _⟩ := h3 (by simp)
  exact ⟨_, _, _, rfl⟩

theorem evEq_soundIn {t : Nat} {a b : V} {r : Bool} (he : evEq P t a b = some r) {x y : Value} (hx : VR w S B m a x) (hy : VR w S B m b y) (d : Nat) : (Op.equalIn (d + 1) t x y).run P w = .ok r w := by
  unfold evEq at he
  split at he
  · rename_i d hu
    unfold eq1 at he
    split at he
    · cases he
      have := hx.bool_inv; subst this
      have := hy.bool_inv; subst this
      simp [Op.equalIn, run_underlying hu]
    · cases he
      have := hx.nilp_inv; subst this
      have := hy.nilp_inv; subst this
      simp [Op.equalIn, run_underlying hu]
    · cases he
      have := hx.nilp_inv; subst this
      obtain ⟨a, rfl⟩ := hy.ptr_shape
      simp [Op.equalIn, run_underlying hu]
    · cases he
      have := hy.nilp_inv; subst this
      obtain ⟨a, rfl⟩ := hx.ptr_shape
      simp [Op.equalIn, run_underlying hu]
    · cases he
      have := hx.nilp_inv; subst this
      obtain ⟨rb, o, vals, rfl, _⟩ := hy.fptr_inv
      simp [Op.equalIn, run_underlying hu]
    · cases he
      have := hy.nilp_inv; subst this
      obtain ⟨rb, o, vals, rfl, _⟩ := hx.fptr_inv
      simp [Op.equalIn, run_underlying hu]
    · cases he
      have := hx.nils_inv; subst this
      have := hy.nils_inv; subst this
      simp [Op.equalIn, run_underlying hu]
    · cases he
      have := hx.nils_inv; subst this
      obtain ⟨a, cap, rfl, _⟩ := hy.sl_shape
      simp [Op.equalIn, run_underlying hu]
    · cases he
      have := hy.nils_inv; subst this
      obtain ⟨a, cap, rfl, _⟩ := hx.sl_shape
      simp [Op.equalIn, run_underlying hu]
    · cases he
      have := hx.nils_inv; subst this
      obtain ⟨a, n, cap, rfl⟩ := list_cons_some hy
      simp [Op.equalIn, run_underlying hu]
    · cases he
      have := hy.nils_inv; subst this
      obtain ⟨a, n, cap, rfl⟩ := list_cons_some hx
      simp [Op.equalIn, run_underlying hu]
    · cases he
      have := hx.nilf_inv; subst this
      have := hy.nilf_inv; subst this
      simp [Op.equalIn, run_underlying hu]
    · cases he
      have := hx.nilf_inv; subst this
      obtain ⟨xs, rfl, _⟩ := hy.fn_inv
      simp [Op.equalIn, run_underlying hu]
    · cases he
      have := hy.nilf_inv; subst this
      obtain ⟨xs, rfl, _⟩ := hx.fn_inv
      simp [Op.equalIn, run_underlying hu]
    · cases he
  · cases he

theorem evEq_sound {t : Nat} {a b : V} {r : Bool} (he : evEq P t a b = some r) {x y : Value} (hx : VR w S B m a x) (hy : VR w S B m b y) : (Op.equal t x y).run P w = .ok r w :=
  evEq_soundIn he hx hy 9999

/-- what evEq speaks of: values of one cell that are no number, no string, no struct -/
theorem evEq_form {t : Nat} {a b : V} {r : Bool} (he : evEq P t a b = some r) {x y : Value} (hx : VR w S B m a x) (hy : VR w S B m b y) (op : BinOp) (o1 o2 : Operand) :
    (eqGuard op t o1 o2 x y).run P w = .ok () w ∧ (op = .eql → (binOp op t x y).run P w = .ok (.bool r) w) ∧ (op = .neq → (binOp op t x y).run P w = .ok (.bool !r) w) := by
  have hr := evEq_sound he hx hy
  unfold evEq at he
  split at he
  · rename_i d hu
    have key : (∃ p q, x = .bool p ∧ y = .bool q) ∨ (∃ p q, x = .pointer p ∧ y = .pointer q) ∨ (∃ p q r p' q' r', x = .slice p q r ∧ y = .slice p' q' r') ∨ (x = .nilFunc ∨ ∃ p q r, x = .func p q r) := by
      unfold eq1 at he
      split at he
      · exact .inl ⟨_, _, hx.bool_inv, hy.bool_inv⟩
      · exact .inr (.inl ⟨_, _, hx.nilp_inv, hy.nilp_inv⟩)
      · obtain ⟨a, e⟩ := hy.ptr_shape; exact .inr (.inl ⟨_, _, hx.nilp_inv, e⟩)
      · obtain ⟨a, e⟩ := hx.ptr_shape; exact .inr (.inl ⟨_, _, e, hy.nilp_inv⟩)
      · obtain ⟨rb, o, vals, e, _⟩ := hy.fptr_inv; exact .inr (.inl ⟨_, _, hx.nilp_inv, e⟩)
      · obtain ⟨rb, o, vals, e, _⟩ := hx.fptr_inv; exact .inr (.inl ⟨_, _, e, hy.nilp_inv⟩)
      · exact .inr (.inr (.inl ⟨_, _, _, _, _, _, hx.nils_inv, hy.nils_inv⟩))
      · obtain ⟨a, cap, e, _⟩ := hy.sl_shape; exact .inr (.inr (.inl ⟨_, _, _, _, _, _, hx.nils_inv, e⟩))
      · obtain ⟨a, cap, e, _⟩ := hx.sl_shape; exact .inr (.inr (.inl ⟨_, _, _, _, _, _, e, hy.nils_inv⟩))
      · obtain ⟨a, n, cap, e⟩ := list_cons_some hy; exact .inr (.inr (.inl ⟨_, _, _, _, _, _, hx.nils_inv, e⟩))
      · obtain ⟨a, n, cap, e⟩ := list_cons_some hx; exact .inr (.inr (.inl ⟨_, _, _, _, _, _, e, hy.nils_inv⟩))
      · exact .inr (.inr (.inr (.inl hx.nilf_inv)))
      · exact .inr (.inr (.inr (.inl hx.nilf_inv)))
      · obtain ⟨xs, e, _⟩ := hx.fn_inv; exact .inr (.inr (.inr (.inr ⟨_, _, _, e⟩)))
      · cases he
    rcases key with ⟨p, q, rfl, rfl⟩ | ⟨p, q, rfl, rfl⟩ | ⟨p, q, r, p', q', r', rfl, rfl⟩ | rfl | ⟨p, q, r, rfl⟩
    all_goals
      refine ⟨by cases op <;> simp [eqGuard], fun e => ?_, fun e => ?_⟩ <;> (subst e; simp [binOp, hr])
  · cases he

theorem bin_sound {t : Nat} {op : BinOp} {a b v : V} (he : evBin P t op a b = some v) {x y : Value} (hx : VR w S B m a x) (hy : VR w S B m b y) (o1 o2 : Operand) :
    SoundV P B w S m v (do eqGuard op t o1 o2 x y; binOp op t x y) := by
  have gi : ∀ k n k' n', (eqGuard op t o1 o2 (.int k n) (.int k' n')).run P w = .ok () w := fun k n k' n' => by cases op <;> simp [eqGuard]
  have gs : ∀ p q, (eqGuard op t o1 o2 (.string p) (.string q)).run P w = .ok () w := fun p q => by cases op <;> simp [eqGuard]
  unfold evBin at he
  split at he
  · rename_i k n k' n'
    have := hx.int_inv; subst this
    have := hy.int_inv; subst this
    split at he
    · obtain ⟨z, hr, hz⟩ := evShift_sound (P := P) (B := B) (w := w) (S := S) (m := m) (k' := k') he t
      exact ⟨z, by simp [gi, hr], hz⟩
    · obtain ⟨z, hr, hz⟩ := evShift_sound (P := P) (B := B) (w := w) (S := S) (m := m) (k' := k') he t
      exact ⟨z, by simp [gi, hr], hz⟩
    · split at he
      · rename_i hk
        subst hk
        obtain ⟨z, hr, hz⟩ := evInt_sound (P := P) (B := B) (w := w) (S := S) (m := m) he t
        exact ⟨z, by simp [gi, hr], hz⟩
      · cases he
  · have := hx.str_inv; subst this
    have := hy.str_inv; subst this
    obtain ⟨z, hr, hz⟩ := evStr_sound (P := P) (B := B) (w := w) (S := S) (m := m) he t
    exact ⟨z, by simp [gs, hr], hz⟩
  · split at he
    · split at he
      · rename_i r hr
        cases he
        obtain ⟨q1, q2, q3⟩ := evEq_form hr hx hy .eql o1 o2
        exact ⟨.bool r, by simp [q1, q2 rfl], .b⟩
      · cases he
    · split at he
      · rename_i r hr
        cases he
        obtain ⟨q1, q2, q3⟩ := evEq_form hr hx hy .neq o1 o2
        exact ⟨.bool !r, by simp [q1, q3 rfl], .b⟩
      · cases he
    · cases he

theorem un_sound {op : UnOp} {a v : V} (he : evUn op a = some v) {x : Value} (hx : VR w S B m a x) : SoundV P B w S m v (Op.unary op x) := by
  unfold evUn at he
  split at he
  · cases he; have := hx.int_inv; subst this; exact ⟨_, by simp only [Op.unary, Op.intArith]; rfl, .i⟩
  · cases he; have := hx.int_inv; subst this; exact ⟨_, by simp only [Op.unary, Op.intBits]; rfl, .i⟩
  · cases he; have := hx.bool_inv; subst this; exact ⟨_, by simp only [Op.unary]; rfl, .b⟩
  · cases he
end
end Go.Proofs.Ytcamcfplcoklkaa.Iv
