import Derived.Test.YtcamcfplcoklkaaI2
import Derived.Laws.CopyRow
import Derived.Laws.Cells
import Derived.Laws.Rows
import Derived.Laws.Entries
import Derived.RangeFuncNested
namespace Go.Proofs.Ytcamcfplcoklkaa.Iv
open Go

structure Im where
  gen : Nat
  rb : Nat
  dl : Nat
  n : Nat
  tot : Nat

/-- A cell without references reads as it says: what it reads in memory lies in blocks of S, which stay as they are. -/
inductive FR (w : World) (S : Nat → Prop) : V → Value → Prop
  | int (k : IntKind) (n : Int) : FR w S (.int k n) (.int k n)
  | bool (b : Bool) : FR w S (.bool b) (.bool b)
  | str (s : List UInt8) : FR w S (.str s) (.string ⟨s.toArray⟩)
  | nilp : FR w S .nilp (.pointer none)
  | nils : FR w S .nils (.slice none 0 0)
  | emp (a : Option Addr) : FR w S .emp (.slice a 0 0)
  | nilf : FR w S .nilf .nilFunc
  | fptr (cs : List V) (rb o : Nat) (vals : Nat → Value) (hs : S rb)
      (hc : ∀ j, j < cs.length → w.cell? ⟨rb, o + j, none⟩ = some (vals j)) (hv : ∀ (j : Nat) (c : V), cs[j]? = some c → FR w S c (vals j)) :
      FR w S (.fptr cs false) (.pointer (some ⟨rb, o, none⟩))
  | list (xs : List (List V)) (sz cap : Nat) (a : Option Addr) (vals : Nat → Value) (hcap : xs.length ≤ cap) (hz : ∀ x ∈ xs, x.length = sz)
      (ha : xs ≠ [] → ∃ rb o, a = some ⟨rb, o, none⟩ ∧ S rb ∧ ∀ j, j < xs.flatten.length → w.cell? ⟨rb, o + j, none⟩ = some (vals j))
      (hv : ∀ (j : Nat) (c : V), xs.flatten[j]? = some c → FR w S c (vals j)) :
      FR w S (.list xs false) (.slice a xs.length cap)

/-- A list that is lent. -/
def LL (w : World) (S B : Nat → Prop) (xs : List (List V)) (x : Value) : Prop :=
  ∃ (sz cap : Nat) (a : Option Addr) (vals : Nat → Value), x = .slice a xs.length cap ∧ xs.length ≤ cap ∧ (∀ x ∈ xs, x.length = sz) ∧
    (xs ≠ [] → ∃ rb o, a = some ⟨rb, o, none⟩ ∧ (S rb ∨ B rb) ∧ ∀ j, j < xs.flatten.length → w.cell? ⟨rb, o + j, none⟩ = some (vals j)) ∧
    ∀ (j : Nat) (c : V), xs.flatten[j]? = some c → FR w S c (vals j)
/-- A cell of a block that is lent. -/
def CR (w : World) (S B : Nat → Prop) (c : V) (x : Value) : Prop := FR w S c x ∨ ∃ xs, c = .list xs true ∧ LL w S B xs x

/-- A value reads as it says. -/
inductive VR (w : World) (S B : Nat → Prop) (m : Id → Option Im) : V → Value → Prop
  | fr {v : V} {x : Value} (h : FR w S v x) : VR w S B m v x
  | lfptr (cs : List V) (rb o : Nat) (vals : Nat → Value) (hs : S rb ∨ B rb)
      (hc : ∀ j, j < cs.length → w.cell? ⟨rb, o + j, none⟩ = some (vals j)) (hv : ∀ (j : Nat) (c : V), cs[j]? = some c → CR w S B c (vals j)) :
      VR w S B m (.fptr cs true) (.pointer (some ⟨rb, o, none⟩))
  | llist (xs : List (List V)) (sz cap : Nat) (a : Option Addr) (vals : Nat → Value) (hcap : xs.length ≤ cap) (hz : ∀ x ∈ xs, x.length = sz)
      (ha : xs ≠ [] → ∃ rb o, a = some ⟨rb, o, none⟩ ∧ (S rb ∨ B rb) ∧ ∀ j, j < xs.flatten.length → w.cell? ⟨rb, o + j, none⟩ = some (vals j))
      (hv : ∀ (j : Nat) (c : V), xs.flatten[j]? = some c → FR w S c (vals j)) :
      VR w S B m (.list xs true) (.slice a xs.length cap)
  | ptr (i : Id) (o : Nat) (im : Im) (hm : m i = some im) : VR w S B m (.ptr i im.gen o) (.pointer (some ⟨im.rb, im.dl + o, none⟩))
  | ptrD (i : Id) (g o : Nat) (im : Im) (a : Addr) (hm : m i = some im) (hg : g < im.gen) : VR w S B m (.ptr i g o) (.pointer (some a))
  | sl (i : Id) (o n sz : Nat) (lim : Option Nat) (im : Im) (a : Addr) (cap : Nat) (hm : m i = some im) (ha : 0 < cap → a = ⟨im.rb, im.dl + o, none⟩)
      (h1 : n ≤ cap) (h2 : o + n * sz ≤ im.n) (h3 : im.dl + o + cap * sz ≤ im.tot) (h4 : lim = none → im.n ≤ o + cap * sz) (h5 : ∀ c, lim = some c → cap = c) :
      VR w S B m (.sl i im.gen o n sz lim) (.slice (some a) n cap)
  | slD (i : Id) (g o n sz : Nat) (lim : Option Nat) (im : Im) (a : Addr) (cap : Nat) (hm : m i = some im) (hg : g < im.gen) (h1 : n ≤ cap) (h5 : ∀ c, lim = some c → cap = c) : VR w S B m (.sl i g o n sz lim) (.slice (some a) n cap)
  | agg (cs : List V) (vs : Array Value) (hl : vs.size = cs.length) (h : ∀ (j : Nat) (c : V) (x : Value), cs[j]? = some c → vs[j]? = some x → VR w S B m c x) : VR w S B m (.agg cs) (.agg vs)
  | tup (cs : List V) (vs : Array Value) (hl : vs.size = cs.length) (h : ∀ (j : Nat) (c : V) (x : Value), cs[j]? = some c → vs[j]? = some x → VR w S B m c x) : VR w S B m (.tup cs) (.tuple vs)
  | fn (f : Nat) (cs : List V) (vs : Array Value) (hl : vs.size = cs.length) (h : ∀ (j : Nat) (c : V) (x : Value), cs[j]? = some c → vs[j]? = some x → VR w S B m c x) : VR w S B m (.fn f cs) (.func (.func f) #[] vs)
  | und (x : Value) : VR w S B m .und x

def no : Nat → Prop := fun _ => False

structure BlkOK (w : World) (S : Nat → Prop) (m : Id → Option Im) (b : Blk) (im : Im) : Prop where
  gen : im.gen = b.gen
  n : im.n = b.cells.length
  row : ∃ arr ty, w.heap[im.rb]? = some (.cells arr ty (0, 0)) ∧ arr.size = im.tot
  fit : im.dl + im.n ≤ im.tot
  cel : ∀ (j : Nat) (c : V), b.cells[j]? = some c → ∃ x, w.cell? ⟨im.rb, im.dl + j, none⟩ = some x ∧ x.oneCell' = true ∧ VR w S no m c x ∧ (b.flat = true → FR w S c x)
  frz : b.frz = true → S im.rb
  thaw : b.frz = false → ¬ S im.rb

structure SR (w : World) (S K : Nat → Prop) (m : Id → Option Im) (H : Heap) : Prop where
  sub : ∀ rb, S rb → rb < w.heap.size
  kin : ∀ rb, K rb → rb < w.heap.size
  blk : ∀ i b, H i = some b → ∃ im, m i = some im ∧ BlkOK w S m b im
  non : ∀ i, H i = none → m i = none
  inj : ∀ i j bi im jm, H i = some bi → bi.frz = false → m i = some im → m j = some jm → i ≠ j → im.rb ≠ jm.rb
  own : ∀ i b im, H i = some b → b.frz = false → m i = some im → ¬ K im.rb
  scel : ∀ rb, S rb → ∃ o : Obj, w.heap[rb]? = some o ∧ o.isCells = true

structure Step (K : Nat → Prop) (w : World) (S : Nat → Prop) (m : Id → Option Im) (w' : World) (S' : Nat → Prop) (m' : Id → Option Im) : Prop where
  os : w'.os = w.os
  tape : w'.tape = w.tape
  output : w'.output = w.output
  size : w.heap.size ≤ w'.heap.size
  sub : ∀ rb, S rb → S' rb
  fresh : ∀ rb, S' rb → S rb ∨ ¬ K rb
  pres : ∀ rb, (S rb ∨ K rb) → w'.heap[rb]? = w.heap[rb]?
  ext : ∀ i im, m i = some im → ∃ im', m' i = some im' ∧ im.gen ≤ im'.gen ∧ (im'.gen = im.gen → im' = im)
  /-- what is no cells stays -/
  oth : KeepsOthers w w'

theorem Step.refl (K : Nat → Prop) (w : World) (S : Nat → Prop) (m : Id → Option Im) : Step K w S m w S m :=
  ⟨rfl, rfl, rfl, Nat.le_refl _, fun _ h => h, fun _ h => .inl h, fun _ _ => rfl, fun _ im h => ⟨im, h, Nat.le_refl _, fun _ => rfl⟩, KeepsOthers.refl _⟩
theorem Step.trans {K : Nat → Prop} {w S m w1 S1 m1 w2 S2 m2} (h : Step K w S m w1 S1 m1) (k : Step K w1 S1 m1 w2 S2 m2) : Step K w S m w2 S2 m2 := by
  refine ⟨k.os.trans h.os, k.tape.trans h.tape, k.output.trans h.output, Nat.le_trans h.size k.size, fun rb x => k.sub _ (h.sub _ x), fun rb x => (k.fresh rb x).elim (h.fresh rb) .inr, fun rb x => ?_, fun i im x => ?_, h.oth.trans k.oth⟩
  · rw [k.pres rb (x.imp (h.sub _) id), h.pres rb x]
  · obtain ⟨a, ha, hg, he⟩ := h.ext i im x
    obtain ⟨b, hb, hg', he'⟩ := k.ext i a ha
    refine ⟨b, hb, Nat.le_trans hg hg', fun e => ?_⟩
    have : a.gen = im.gen := by omega
    rw [he' (by omega), he this]
theorem Step.drew (K : Nat → Prop) (w : World) (S : Nat → Prop) (m : Id → Option Im) : Step K w S m w.drew S m :=
  ⟨rfl, rfl, rfl, Nat.le_refl _, fun _ h => h, fun _ h => .inl h, fun _ _ => rfl, fun _ im h => ⟨im, h, Nat.le_refl _, fun _ => rfl⟩, KeepsOthers.drew _⟩

theorem cell_of_block {w w' : World} {rb o : Nat} (h : w'.heap[rb]? = w.heap[rb]?) : w'.cell? ⟨rb, o, none⟩ = w.cell? ⟨rb, o, none⟩ := by
  unfold World.cell?
  simp only [h]

theorem FR.mono {w w' : World} {S S' : Nat → Prop} (hp : ∀ rb, S rb → w'.heap[rb]? = w.heap[rb]?) (hs : ∀ rb, S rb → S' rb) {v : V} {x : Value}
    (h : FR w S v x) : FR w' S' v x := by
  induction h with
  | int k n => exact .int k n
  | bool b => exact .bool b
  | str s => exact .str s
  | nilp => exact .nilp
  | nils => exact .nils
  | emp a => exact .emp a
  | nilf => exact .nilf
  | fptr cs rb o vals h hc hv ih => exact .fptr cs rb o vals (hs _ h) (fun j hj => by rw [cell_of_block (hp _ h)]; exact hc j hj) ih
  | list xs sz cap a vals hcap hz ha hv ih =>
    refine .list xs sz cap a vals hcap hz (fun hne => ?_) ih
    obtain ⟨rb, o, e, h, hc⟩ := ha hne
    exact ⟨rb, o, e, hs _ h, fun j hj => by rw [cell_of_block (hp _ h)]; exact hc j hj⟩

theorem CR.map {w w' : World} {S B S' B' : Nat → Prop} (hF : ∀ {v x}, FR w S v x → FR w' S' v x) (hB : ∀ rb, S rb ∨ B rb → (S' rb ∨ B' rb) ∧ w'.heap[rb]? = w.heap[rb]?) {c : V} {x : Value} (h : CR w S B c x) : CR w' S' B' c x := by
  rcases h with h | ⟨xs, rfl, sz, cap, a, vals, rfl, h1, h2, h3, h4⟩
  · exact .inl (hF h)
  · refine .inr ⟨xs, rfl, sz, cap, a, vals, rfl, h1, h2, fun hne => ?_, fun j c e => hF (h4 j c e)⟩
    obtain ⟨rb, o, e, h, hc⟩ := h3 hne
    exact ⟨rb, o, e, (hB _ h).1, fun j hj => by rw [cell_of_block (hB _ h).2]; exact hc j hj⟩
theorem CR.vr {w S B m c x} (h : CR w S B c x) : VR w S B m c x := by
  rcases h with h | ⟨xs, rfl, sz, cap, a, vals, rfl, h1, h2, h3, h4⟩
  · exact .fr h
  · exact .llist xs sz cap a vals h1 h2 h3 h4
theorem VR.cr {w S B m} {xs : List (List V)} {x : Value} (h : VR w S B m (.list xs true) x) : CR w S B (.list xs true) x := by
  cases h with
  | fr h => cases h
  | llist _ sz cap a vals h1 h2 h3 h4 => exact .inr ⟨xs, rfl, sz, cap, a, vals, rfl, h1, h2, h3, h4⟩

theorem VR.mono0 {w : World} {S : Nat → Prop} {m : Id → Option Im} {w' : World} {S' : Nat → Prop} {m' : Id → Option Im} {B : Nat → Prop} (hp : ∀ rb, S rb ∨ B rb → w'.heap[rb]? = w.heap[rb]?) (hsub : ∀ rb, S rb → S' rb)
    (hext : ∀ i im, m i = some im → ∃ im', m' i = some im' ∧ im.gen ≤ im'.gen ∧ (im'.gen = im.gen → im' = im)) {v : V} {x : Value}
    (h : VR w S B m v x) : VR w' S' B m' v x := by
  have hF : ∀ {v x}, FR w S v x → FR w' S' v x := fun h => h.mono (fun rb hb => hp rb (.inl hb)) hsub
  induction h with
  | fr h => exact .fr (hF h)
  | lfptr cs rb o vals h hc hv => exact .lfptr cs rb o vals (h.imp (hsub _) id) (fun j hj => by rw [cell_of_block (hp _ h)]; exact hc j hj) (fun j c e => (hv j c e).map hF (fun rb q => ⟨q.imp (hsub _) id, hp _ q⟩))
  | llist xs sz cap a vals hcap hz ha hv =>
    refine .llist xs sz cap a vals hcap hz (fun hne => ?_) (fun j c e => hF (hv j c e))
    obtain ⟨rb, o, e, h, hc⟩ := ha hne
    exact ⟨rb, o, e, h.imp (hsub _) id, fun j hj => by rw [cell_of_block (hp _ h)]; exact hc j hj⟩
  | ptr i o im hm =>
    obtain ⟨im', hm', hg, he⟩ := hext i im hm
    by_cases e : im'.gen = im.gen
    · have := he e; subst this; exact .ptr i o im' hm'
    · exact .ptrD i im.gen o im' _ hm' (by omega)
  | ptrD i g o im x hm hg =>
    obtain ⟨im', hm', hg', he⟩ := hext i im hm
    exact .ptrD i g o im' x hm' (by omega)
  | sl i o n sz lim im a cap hm ha h1 h2 h3 h4 h5 =>
    obtain ⟨im', hm', hg, he⟩ := hext i im hm
    by_cases e : im'.gen = im.gen
    · have := he e; subst this; exact .sl i o n sz lim im' a cap hm' ha h1 h2 h3 h4 h5
    · exact .slD i im.gen o n sz lim im' a cap hm' (by omega) h1 h5
  | slD i g o n sz lim im a cap hm hg h1 h5 =>
    obtain ⟨im', hm', hg', he⟩ := hext i im hm
    exact .slD i g o n sz lim im' a cap hm' (by omega) h1 h5
  | agg cs vs hl h ih => exact .agg cs vs hl ih
  | tup cs vs hl h ih => exact .tup cs vs hl ih
  | fn f cs vs hl h ih => exact .fn f cs vs hl ih
  | und x => exact .und x

theorem VR.mono {K w S m w' S' m'} {B : Nat → Prop} (st : Step K w S m w' S' m') (hB : ∀ rb, B rb → K rb) {v : V} {x : Value}
    (h : VR w S B m v x) : VR w' S' B m' v x := h.mono0 (fun rb q => st.pres rb (q.imp id (hB rb))) st.sub st.ext

/-- the world stays, more is known to stay -/
theorem VR.monoS {K w S m S'} {B : Nat → Prop} (st : Step K w S m w S' m) {v : V} {x : Value} (h : VR w S B m v x) : VR w S' B m v x := by
  have hF : ∀ {v x}, FR w S v x → FR w S' v x := fun h => h.mono (fun _ _ => rfl) st.sub
  induction h with
  | fr h => exact .fr (hF h)
  | lfptr cs rb o vals h hc hv => exact .lfptr cs rb o vals (h.imp (st.sub _) id) hc (fun j c e => (hv j c e).map hF (fun rb q => ⟨q.imp (st.sub _) id, rfl⟩))
  | llist xs sz cap a vals hcap hz ha hv =>
    exact .llist xs sz cap a vals hcap hz (fun hne => let ⟨rb, o, e, h, hc⟩ := ha hne; ⟨rb, o, e, h.imp (st.sub _) id, hc⟩) (fun j c e => hF (hv j c e))
  | ptr i o im hm => exact .ptr i o im hm
  | ptrD i g o im x hm hg => exact .ptrD i g o im x hm hg
  | sl i o n sz lim im a cap hm ha h1 h2 h3 h4 h5 => exact .sl i o n sz lim im a cap hm ha h1 h2 h3 h4 h5
  | slD i g o n sz lim im a cap hm hg h1 h5 => exact .slD i g o n sz lim im a cap hm hg h1 h5
  | agg cs vs hl h ih => exact .agg cs vs hl ih
  | tup cs vs hl h ih => exact .tup cs vs hl ih
  | fn f cs vs hl h ih => exact .fn f cs vs hl ih
  | und x => exact .und x

/-- what lies in the heap may be said under any lending -/
theorem VR.lend {w S m} {B : Nat → Prop} {v : V} {x : Value} (h : VR w S no m v x) : VR w S B m v x := by
  induction h with
  | fr h => exact .fr h
  | lfptr cs rb o vals h hc hv => exact .lfptr cs rb o vals (h.imp id (fun f => f.elim)) hc (fun j c e => (hv j c e).map id (fun rb q => ⟨q.imp id (fun f => f.elim), rfl⟩))
  | llist xs sz cap a vals hcap hz ha hv =>
    exact .llist xs sz cap a vals hcap hz (fun hne => let ⟨rb, o, e, h, hc⟩ := ha hne; ⟨rb, o, e, h.imp id (fun f => f.elim), hc⟩) hv
  | ptr i o im hm => exact .ptr i o im hm
  | ptrD i g o im x hm hg => exact .ptrD i g o im x hm hg
  | sl i o n sz lim im a cap hm ha h1 h2 h3 h4 h5 => exact .sl i o n sz lim im a cap hm ha h1 h2 h3 h4 h5
  | slD i g o n sz lim im a cap hm hg h1 h5 => exact .slD i g o n sz lim im a cap hm hg h1 h5
  | agg cs vs hl h ih => exact .agg cs vs hl ih
  | tup cs vs hl h ih => exact .tup cs vs hl ih
  | fn f cs vs hl h ih => exact .fn f cs vs hl ih
  | und x => exact .und x

theorem FR.one {w S v x} (h : FR w S v x) : x.oneCell' = true := by cases h <;> rfl
theorem FR.plain {w S v x} (h : FR w S v x) : v.plain = true := by cases h <;> rfl

/-- a kept cell: nothing of it is lent -/
theorem VR.kept {w S m} {B : Nat → Prop} {v : V} {x : Value} (h : VR w S B m v x) (hk : v.kept = true) : VR w S no m v x := by
  cases h with
  | fr h => exact .fr h
  | lfptr => simp [V.kept] at hk
  | llist => simp [V.kept] at hk
  | ptr i o im hm => exact .ptr i o im hm
  | ptrD i g o im x hm hg => exact .ptrD i g o im x hm hg
  | sl i o n sz lim im a cap hm ha h1 h2 h3 h4 h5 => exact .sl i o n sz lim im a cap hm ha h1 h2 h3 h4 h5
  | slD i g o n sz lim im a cap hm hg h1 h5 => exact .slD i g o n sz lim im a cap hm hg h1 h5
  | agg => simp [V.kept] at hk
  | tup => simp [V.kept] at hk
  | fn f cs vs hl h =>
    cases cs with
    | nil => exact .fn f [] vs hl (fun j c x e => by simp at e)
    | cons => simp [V.kept] at hk
  | und x => exact .und x
theorem VR.plain {w S m} {B : Nat → Prop} {v : V} {x : Value} (h : VR w S B m v x) (hk : v.plain = true) : FR w S v x := by
  cases h <;> first | assumption | (simp [V.plain] at hk; done)
end Go.Proofs.Ytcamcfplcoklkaa.Iv
