import Derived.Test.YtcamcfplcoklkaaI8
import Derived.Laws.Append
import Derived.Laws.MakeOwn
import Derived.Lib.ConvBytes
import Derived.Laws.BytesString
import Derived.Laws.Strings
namespace Go.Proofs.Ytcamcfplcoklkaa.Iv
open Go
section
variable {P : Program} {K B : Nat → Prop} {w : World} {S : Nat → Prop} {m : Map} {H : Heap}
set_option linter.unusedVariables false
set_option linter.unusedSimpArgs false

theorem VR.sl_shape {i : Id} {g o n sz : Nat} {lim : Option Nat} {x : Value} (hx : VR w S B m (.sl i g o n sz lim) x) : ∃ a cap, x = .slice (some a) n cap ∧ n ≤ cap ∧ (∀ c, lim = some c → cap = c) := by
  cases hx with
  | fr h => cases h
  | sl _ _ _ _ _ im a cap hm ha h1 h2 h3 h4 h5 => exact ⟨a, cap, rfl, h1, h5⟩
  | slD _ _ _ _ _ _ im a cap hm hg h1 h5 => exact ⟨a, cap, rfl, h1, h5⟩
theorem VR.ptr_shape {i : Id} {g o : Nat} {x : Value} (hx : VR w S B m (.ptr i g o) x) : ∃ a, x = .pointer (some a) := by
  cases hx with
  | fr h => cases h
  | ptr => exact ⟨_, rfl⟩
  | ptrD => exact ⟨_, rfl⟩

theorem len_sound (h : SR w S K m H) {t ty : Nat} {a : V} {out : Out} (he : evLen P t a = some out) {x : Value} (hx : VR w S B m a x) (ts : Array TypeId) (hts : ts[0]? = some t) :
    Sound P K B w S m H out (Builtin.len_ ts ty #[x]) := by
  unfold evLen at he
  split at he
  · rename_i s hu
    cases he
    have := hx.str_inv; subst this
    exact Sound.pure h (x := .int .i64 s.length) (by simp [Builtin.len_, hts, run_underlying hu, goInt] <;> rfl) .i
  · rename_i hu
    cases he
    obtain ⟨a, cap, rfl, _, _⟩ := hx.sl_shape
    exact Sound.pure h (x := .int .i64 _) (by simp [Builtin.len_, hts, run_underlying hu, goInt]) .i
  · rename_i hu
    cases he
    obtain ⟨_, cap, a, vals, rfl, _⟩ := hx.list_inv
    exact Sound.pure h (x := .int .i64 _) (by simp [Builtin.len_, hts, run_underlying hu, goInt]) .i
  · rename_i hu
    cases he
    have := hx.nils_inv; subst this
    exact Sound.pure h (x := .int .i64 0) (by simp [Builtin.len_, hts, run_underlying hu, goInt]) .i
  · rename_i hu
    cases he
    obtain ⟨a0, rfl⟩ := hx.emp_inv
    exact Sound.pure h (x := .int .i64 0) (by simp [Builtin.len_, hts, run_underlying hu, goInt]) .i
  · rename_i n e hu
    cases he
    exact Sound.pure h (x := .int .i64 n) (by simp [Builtin.len_, hts, run_underlying hu, goInt]) .i
  · cases he

theorem cap_sound (h : SR w S K m H) {t ty : Nat} {a : V} {out : Out} (he : evCap P t a = some out) {x : Value} (hx : VR w S B m a x) (ts : Array TypeId) (hts : ts[0]? = some t) :
    Sound P K B w S m H out (Builtin.cap_ ts ty #[x]) := by
  unfold evCap at he
  split at he
  · rename_i hu
    cases he
    have := hx.nils_inv; subst this
    exact Sound.pure h (x := .int .i64 0) (by simp [Builtin.cap_, hts, run_underlying hu, goInt]) .i
  · rename_i hu
    cases he
    obtain ⟨a0, rfl⟩ := hx.emp_inv
    exact Sound.pure h (x := .int .i64 0) (by simp [Builtin.cap_, hts, run_underlying hu, goInt]) .i
  · rename_i c hu
    cases he
    obtain ⟨a, cap, rfl, _, hc⟩ := hx.sl_shape
    have := hc _ rfl
    subst this
    exact Sound.pure h (x := .int .i64 _) (by simp [Builtin.cap_, hts, run_underlying hu, goInt]) .i
  · cases he

theorem max2_sound {a b v : V} (he : max2 a b = some v) {x y : Value} (hx : VR w S B m a x) (hy : VR w S B m b y) : SoundV P B w S m v (Builtin.max2 x y) := by
  unfold max2 at he
  split at he
  · cases he
    have := hx.int_inv; subst this
    have := hy.int_inv; subst this
    exact ⟨_, by simp only [Builtin.max2]; rfl, .i⟩
  · cases he
theorem min2_sound {a b v : V} (he : min2 a b = some v) {x y : Value} (hx : VR w S B m a x) (hy : VR w S B m b y) : SoundV P B w S m v (Builtin.min2 x y) := by
  unfold min2 at he
  split at he
  · cases he
    have := hx.int_inv; subst this
    have := hy.int_inv; subst this
    exact ⟨_, by simp only [Builtin.min2]; rfl, .i⟩
  · cases he
theorem foldO_sound {f : V → V → Option V} {g : Value → Value → Sem Value} (hfg : ∀ {a b v x y}, f a b = some v → VR w S B m a x → VR w S B m b y → SoundV P B w S m v (g x y)) :
    ∀ {l : List V} {xs : List Value} {a v : V} {x : Value}, foldO f a l = some v → VR w S B m a x → All2 (VR w S B m) l xs → SoundV P B w S m v (xs.foldlM g x)
  | [], [], a, v, x, he, hx, _ => by simp [foldO] at he; subst he; exact ⟨x, rfl, hx⟩
  | b :: l, y :: ys, a, v, x, he, hx, h2 => by
    simp only [foldO] at he
    split at he
    · rename_i z hz
      obtain ⟨q, hr, hq⟩ := hfg hz hx h2.1
      obtain ⟨u, hr2, hu⟩ := foldO_sound hfg he hq h2.2
      exact ⟨u, by simp [List.foldlM_cons, hr, hr2], hu⟩
    · cases he
  | [], _ :: _, _, _, _, _, _, h2 => h2.elim
  | _ :: _, [], _, _, _, _, _, h2 => h2.elim

end
end Go.Proofs.Ytcamcfplcoklkaa.Iv
