import Derived.Test.YtcamcfplcoklkaaM15
import Derived.Test.YtcamcfplcoklkaaM14
namespace Go.Proofs.Ytcamcfplcoklkaa.Iv
open Go
set_option linter.unusedVariables false
theorem len22 {x} : evLen Try.prog 22 x = lenS x := by cases x <;> kernel_rfl
theorem len34 {x} : evLen Try.prog 34 x = lenS x := by cases x <;> kernel_rfl
theorem ia22 {x i} : evIndexAddr Try.prog 22 x i = iaR 4 x i := by kernel_rfl
theorem fa36_0 {x} : evFieldAddr Try.prog 36 x 0 = faR 0 x := by kernel_rfl
theorem fa36_3 {x} : evFieldAddr Try.prog 36 x 3 = faR 3 x := by kernel_rfl
theorem ld34 {H x} : evLoad Try.prog H 34 x = ldR 1 false H x := by kernel_rfl
theorem ld3 {H x} : evLoad Try.prog H 3 x = ldR 1 false H x := by kernel_rfl
theorem ld36 {H x} : evLoad Try.prog H 36 x = ldR 4 true H x := by kernel_rfl
theorem ld23 {H x} : evLoad Try.prog H 23 x = ldR 1 false H x := by kernel_rfl
structure Act4 where
  d : Int
  n : Int
  m : Int
  b : List Int
def bytesV (b : List Int) : V := .list (b.map fun u => [.int .u8 u]) false
def actV (a : Act4) : List V := [.int .i64 a.d, .int .i64 a.n, .int .i64 a.m, bytesV a.b]
def actsV (l : List Act4) : V := .list (l.map actV) false

/-- long: a loop over the acts -/
theorem long_loop {l : List Act4} (hlen : l.length ≤ 9223372036854775807) {Q : KQ} {H : Heap} {t1 : V}
    (hx : ∀ (i : Nat) t4 t5 t6 t7 t8 t9 t10 t11 t12 t13 t14 t15 t16 t17 t18 t19 t20 t21 t22 t23, (l.length ≤ 200 → ∀ (j : Nat) a, l[j]? = some a → a.b.length ≤ 200) →
      Q (.exit 0) [actsV l, t1, .bool false, .int .i64 i, t4, t5, t6, t7, t8, t9, t10, t11, t12, t13, t14, t15, t16, t17, t18, t19, t20, t21, t22, t23] H)
    (hr : ∀ (i : Nat) t4 t5 t6 t7 t8 t9 t10 t11 t12 t13 t14 t15 t16 t17 t18 t19 t20 t21 t22 t23,
      Q .ret [actsV l, t1, .bool true, .int .i64 i, t4, t5, t6, t7, t8, t9, t10, t11, t12, t13, t14, t15, t16, t17, t18, t19, t20, t21, t22, t23] H) :
    ∀ (k i : Nat), i + k = l.length → (∀ (j : Nat) a, j < i → l[j]? = some a → a.b.length ≤ 200) → ∀ t4 t5 t6 t7 t8 t9 t10 t11 t12 t13 t14 t15 t16 t17 t18 t19 t20 t21 t22 t23,
      LoopR dcfg c10_7 [actsV l, t1, .bool false, .int .i64 i, t4, t5, t6, t7, t8, t9, t10, t11, t12, t13, t14, t15, t16, t17, t18, t19, t20, t21, t22, t23] H Q := by
  intro k
  induction k with
  | zero =>
    intro i hi hall t4 t5 t6 t7 t8 t9 t10 t11 t12 t13 t14 t15 t16 t17 t18 t19 t20 t21 t22 t23
    refine LoopR.step ?_
    show wC Try.prog dcfg.pol (CallR dcfg) (LoopR dcfg) c10_7 _ H _
    have h1 : decide (((i : Nat) : Int) < (((l.map actV).length : Nat) : Int)) = false := by simp; omega
    simp only [w10_7, w10_8, w10_9, w10_9_0, w10_10, w10_12, seqK, len22]
    refine mk0 _ (by simp only [actsV, lenS]; rfl) ?_
    refine mk0 _ (by rw [bin_lss, h1]) ?_
    refine gnf (gnf (mk0 (.bool false) (by rfl) ?_))
    exact condF (hx i _ _ _ _ _ _ _ _ _ _ _ _ _ _ _ _ _ _ _ _ (fun _ j a h => hall j a (by have := (List.getElem?_eq_some_iff.1 h).1; omega) h))
  | succ k ih =>
    intro i hi hall t4 t5 t6 t7 t8 t9 t10 t11 t12 t13 t14 t15 t16 t17 t18 t19 t20 t21 t22 t23
    refine LoopR.step ?_
    show wC Try.prog dcfg.pol (CallR dcfg) (LoopR dcfg) c10_7 _ H _
    have h1 : decide (((i : Nat) : Int) < (((l.map actV).length : Nat) : Int)) = true := by simp; omega
    simp only [w10_7, w10_8, w10_9, w10_9_0, w10_10, w10_11, w10_12, seqK, len22]
    refine mk0 _ (by simp only [actsV, lenS]; rfl) ?_
    refine mk0 _ (by rw [bin_lss, h1]) ?_
    refine gp (gy0 _ (bin_leq ..) (mk0 (.bool (decide ((i : Int) ≤ 200))) (by rfl) ?_))
    by_cases h2 : (i : Int) ≤ 200
    · rw [decide_eq_true h2]
      refine condT ?_
      simp only [w10_13, w10_14, w10_15, w10_16, w10_16_0, w10_17, w10_18, w10_19, w10_19_0, w10_20, w10_21, w10_22, w10_22_0, seqK, blockK, ia22, fa36_3, ld34, len34]
      have hlt : i < l.length := by omega
      have hg : (l.map actV)[i]? = some (actV l[i]) := by simp [hlt]
      refine mk0 _ (ia_list hg (by rfl) (by decide)) ?_
      refine mk0 (.fptr [bytesV l[i].b] false) (by rfl) (mk0 (bytesV l[i].b) (by rfl) (mk0 _ (by simp only [bytesV, lenS]; rfl) (mk0 _ (bin_gtr ..) ?_)))
      by_cases h3 : (((l[i].b.map fun u => [V.int .u8 u]).length : Nat) : Int) > 200
      · rw [decide_eq_true h3]
        exact condT (hr ..)
      · rw [decide_eq_false h3]
        refine condF (mk0 _ (bin_add (by omega) (by omega)) ?_)
        have := ih (i + 1) (by omega) (fun j a hj ha => by
          by_cases e : j = i
          · subst e
            rw [List.getElem?_eq_getElem hlt] at ha; cases ha
            simp at h3; omega
          · exact hall j a (by omega) ha)
        exact this ..
    · rw [decide_eq_false h2]
      exact condF (hx i _ _ _ _ _ _ _ _ _ _ _ _ _ _ _ _ _ _ _ _ (fun h => by omega))
end Go.Proofs.Ytcamcfplcoklkaa.Iv

namespace Go.Proofs.Ytcamcfplcoklkaa.Iv
open Go
set_option linter.unusedVariables false
set_option linter.unusedSimpArgs false
set_option maxRecDepth 100000
/-! ### the disk as plain data -/
structure PD where
  l : Int
  g : Bool
  b : Int
  ks : List Int
  items : List (Nat × List Int)
def putI (ks : List Int) (x : Nat × List Int) : List Int := ks.take (x.1 * 64) ++ x.2 ++ ks.drop (x.1 * 64 + x.2.length)
def settledI (ks : List Int) (l : List (Nat × List Int)) : List Int := l.foldl putI ks
def lastI (ks : List Int) (items : List (Nat × List Int)) (kn : Nat) (torn : Int) : List Int :=
  match items[kn]? with
  | some x => putI (settledI ks (items.take kn)) (x.1, x.2.take (min torn.toNat 64))
  | none => settledI ks (items.take kn)
theorem put1_I {ks : List Int} {x : Nat × List Int} : put1 (cellsB ks) x = cellsB (putI ks x) := by
  simp [put1, splice, cellsB, putI, List.map_take, List.map_drop]
theorem settled_I : ∀ {l : List (Nat × List Int)} {ks : List Int}, settled (cellsB ks) l = cellsB (settledI ks l)
  | [], ks => rfl
  | x :: r, ks => by
    have := settled_I (l := r) (ks := putI ks x)
    simp only [settled, settledI, List.foldl_cons, put1_I] at this ⊢
    exact this
theorem last_I {ks : List Int} {items : List (Nat × List Int)} {kn : Nat} {torn : Int} : lastC (cellsB ks) items kn torn = cellsB (lastI ks items kn torn) := by
  unfold lastC lastI
  cases items[kn]? with
  | none => exact settled_I
  | some x => simp only [settled_I, put1_I]
theorem cellsB_len (ks : List Int) : (cellsB ks).length = ks.length := by simp [cellsB]
structure PD.ok (p : PD) (N : Nat) : Prop where
  len : p.ks.length = N * 64
  pos : 0 < N
  le : N ≤ 64
  few : p.items.length < 1000000
  it : ∀ x ∈ p.items, x.1 < N ∧ x.2.length = 64
def PD.N (p : PD) : Nat := p.ks.length / 64
theorem PD.ok.n {p : PD} {N : Nat} (h : p.ok N) : p.N = N := by
  have := h.len
  unfold PD.N; omega
theorem PD.ok.secs {p : PD} {N : Nat} (h : p.ok N) : secs (bytesL p.ks) = N := by
  have h1 := h.len
  have h2 := h.le
  have e : (bytesL p.ks).length = N * 64 := by simp [bytesL, h1]
  unfold Iv.secs
  rw [e]
  have e2 : (((N * 64 : Nat) : Int).tdiv 64) = N := by
    rw [show ((N * 64 : Nat) : Int) = (N : Int) * 64 by omega]
    exact Int.mul_tdiv_cancel _ (by omega)
  rw [e2, i64_wrap (by omega) (by omega)]
theorem PD.ok.secOf {p : PD} {N : Nat} (h : p.ok N) : secOf (cellsB p.ks) = N := by
  unfold Iv.secOf
  rw [chunk_b]; exact h.secs
def PD.read (p : PD) (n : Int) : List Int × Int :=
  if ¬ (0 ≤ n ∧ n < (p.N : Int)) then ([], 1) else if p.g = true then ([], 11) else ((seen p.items n p.items.length).getD ((p.ks.take ((n.toNat + 1) * 64)).drop (n.toNat * 64)), 0)
def PD.write (p : PD) (n : Int) (bs : List Int) : PD × Int :=
  if ¬ ((0 ≤ n ∧ n < (p.N : Int)) ∧ bs.length = 64) then (p, 1)
  else if (p.g || (p.l == 0)) = true then ({ p with l := left' p.l, g := true }, 11)
  else if 0 ≤ p.b ∧ p.b ≤ n then ({ p with l := left' p.l, g := false }, 7)
  else ({ p with l := left' p.l, g := false, items := p.items ++ [(n.toNat, bs)] }, 0)
def PD.sync (p : PD) : PD × Int :=
  if (p.g || (p.l == 0)) = true then ({ p with l := left' p.l, g := true }, 11)
  else (⟨left' p.l, false, p.b, settledI p.ks p.items, []⟩, 0)
def PD.crash (p : PD) (keep torn : Int) : PD := ⟨-1, false, p.b, lastI p.ks p.items (min keep.toNat p.items.length) torn, []⟩
def PD.did (p : PD) (a : Act4) : PD × List Int × Int :=
  if a.d = 0 then (p, p.read a.n)
  else if a.d = 1 then ((p.write a.n a.b).1, [], (p.write a.n a.b).2)
  else if a.d = 2 then (p.sync.1, [], p.sync.2)
  else if a.d = 3 then ({ p with l := maxm a.n }, [], 0)
  else if a.d = 4 then ({ p with b := maxm a.n }, [], 0)
  else if a.d = 5 then (p.crash a.n a.m, [], 0)
  else (p, [], 0)
/-- a disk in a frame, as plain data -/
abbrev PDF (H : Heap) (D K : Id) (gd gk : Nat) (qn : Option (Id × Nat)) (p : PD) : Prop := DFr H D K gd gk qn p.l p.g p.b (cellsB p.ks) p.items
theorem DFr.other {H H' : Heap} {D K : Id} {gd gk : Nat} {qn : Option (Id × Nat)} {l b : Int} {g : Bool} {kc : List V} {items : List (Nat × List Int)} (h : DFr H D K gd gk qn l g b kc items) (e : ∀ i ∈ accOf D K qn, H' i = H i) : DFr H' D K gd gk qn l g b kc items := by
  have e0 : H' D = H D := e D (by cases qn <;> simp [accOf])
  have e1 : H' K = H K := e K (by cases qn <;> simp [accOf])
  refine ⟨by rw [e0]; exact h.hD, by rw [e1]; exact h.hK, fun Q gq hq => ?_, h.hn, h.dk⟩
  subst hq
  obtain ⟨q1, q2, q3⟩ := h.hQ Q gq rfl
  exact ⟨by rw [e Q (by simp [accOf])]; exact q1, q2, q3⟩
/-! ### bytes and strings -/
def toStr (bs : List Int) : List UInt8 := bs.map fun n => UInt8.ofNat n.toNat
theorem toBytes_cb : ∀ (bs : List Int), toBytes (cellsB bs) = some (toStr bs)
  | [] => rfl
  | x :: r => by
    have := toBytes_cb r
    simp only [cellsB, List.map_cons, toBytes, toStr] at this ⊢
    rw [this]
theorem cut_cb (bs : List Int) : cut (cellsB bs) 0 (bs.length * 1) = some (cellsB bs) := by
  have := cut_all (cellsB bs)
  rw [cellsB_len] at this
  rw [Nat.mul_one]; exact this
theorem u9s : Try.prog.underlying 9 = some .string := by kernel_rfl
theorem u5i : Try.prog.underlying 5 = some (.int .u8) := by kernel_rfl
theorem conv_sl {H : Heap} {i : Id} {g : Nat} {bs : List Int} {lim : Option Nat} (h : H i = some ⟨g, cellsB bs, false, true⟩) : evConvert Try.prog H 34 9 (.sl i g 0 bs.length 1 lim) = some ⟨.str (toStr bs), [], [i]⟩ := by
  have l1 : live H i g = some ⟨g, cellsB bs, false, true⟩ := by simp [live, h]
  unfold evConvert
  simp only [u34b, u9s, u5i, srcS, src, l1, cut_cb, if_true, toBytes_cb]
theorem conv_nil {H : Heap} : evConvert Try.prog H 34 9 .nils = some ⟨.str [], [], []⟩ := by kernel_rfl
theorem clear_sl {H : Heap} {i : Id} {g : Nat} {bs : List Int} {lim : Option Nat} (h : H i = some ⟨g, cellsB bs, false, true⟩) : ∃ cs, evClear Try.prog H 34 (.sl i g 0 bs.length 1 lim) = some ⟨.tup [], [(i, ⟨g, cs, false, true⟩)], [i]⟩ := by
  have l1 : live H i g = some ⟨g, cellsB bs, false, true⟩ := by simp [live, h]
  unfold evClear
  simp only [u34b, sz5, z5, l1]
  have c : True ∧ 0 < 1 ∧ True ∧ [V.int IntKind.u8 0].length = 1 ∧ [V.int IntKind.u8 0].all V.plain = true ∧ 0 + bs.length * 1 ≤ (cellsB bs).length := ⟨trivial, by omega, trivial, rfl, rfl, by simp [cellsB]⟩
  exact ⟨_, if_pos c⟩
theorem clear_nil {H : Heap} : evClear Try.prog H 34 .nils = pureO (.tup []) := by kernel_rfl
end Go.Proofs.Ytcamcfplcoklkaa.Iv

namespace Go.Proofs.Ytcamcfplcoklkaa.Iv
open Go
set_option linter.unusedVariables false
set_option linter.unusedSimpArgs false
set_option maxRecDepth 100000
/-! ### did's frame -/
def qInn (qa : Option (Id × Nat)) : Option (Id × Nat) := match qa with | none => none | some _ => some (.arg 2, 0)
structure DidIn (H : Heap) (p : PD) (a : Act4) (qa : Option (Id × Nat)) : Prop where
  h : PDF H (.arg 0) (.arg 1) 0 0 (qInn qa) p
  ha : H (.own 3) = some ⟨0, actV a, false, false⟩
def QOut (qa qo : Option (Id × Nat)) (H' : Heap) : Prop :=
  match qa with
  | none => qo = none ∨ ∃ go, qo = some (.sub 37 (.own 49), go)
  | some _ => (qo = none ∧ ∃ bb, H' (.arg 2) = some bb ∧ bb.flat = true) ∨ ∃ go, qo = some (.arg 2, go)
def DidR (H' : Heap) (qa : Option (Id × Nat)) (p : PD) : Prop := ∃ qo, PDF H' (.arg 0) (.arg 1) 0 0 qo p ∧ QOut qa qo H'
theorem DidR.other {H H' : Heap} {qa : Option (Id × Nat)} {p : PD} (h : DidR H qa p) (e1 : ∀ j, H' (.arg j) = H (.arg j)) (e2 : H' (.sub 37 (.own 49)) = H (.sub 37 (.own 49))) : DidR H' qa p := by
  obtain ⟨qo, h1, h2⟩ := h
  refine ⟨qo, h1.other (fun i hi => ?_), ?_⟩
  · cases qo with
    | none =>
      simp only [accOf, List.mem_cons, List.not_mem_nil, or_false] at hi
      rcases hi with rfl | rfl <;> exact e1 _
    | some q =>
      obtain ⟨Q, gq⟩ := q
      simp only [accOf, List.mem_cons, List.not_mem_nil, or_false] at hi
      rcases hi with rfl | rfl | rfl
      · exact e1 _
      · exact e1 _
      · cases qa with
        | none =>
          rcases h2 with h2 | ⟨go, h2⟩
          · cases h2
          · simp only [Option.some.injEq, Prod.mk.injEq] at h2
            rw [h2.1]; exact e2
        | some q =>
          rcases h2 with ⟨h2, _⟩ | ⟨go, h2⟩
          · cases h2
          · simp only [Option.some.injEq, Prod.mk.injEq] at h2
            rw [h2.1]; exact e1 _
  · cases qa with
    | none => exact h2
    | some q =>
      rcases h2 with ⟨h2, bb, h3, h4⟩ | h2
      · exact .inl ⟨h2, bb, by rw [e1]; exact h3, h4⟩
      · exact .inr h2
theorem DidIn.same {H : Heap} {p : PD} {a : Act4} {qa : Option (Id × Nat)} (h : DidIn H p a qa) : DidR H qa p := by
  refine ⟨qInn qa, h.h, ?_⟩
  cases qa with
  | none => exact .inl rfl
  | some q => exact .inr ⟨0, rfl⟩
theorem DidIn.back {H : Heap} {p p' : PD} {a : Act4} {qa : Option (Id × Nat)} {us : List (Id × Blk)} (h : DidIn H p a qa) (hb : Back H (.arg 0) (.arg 1) 0 0 (qInn qa) p'.l p'.g p'.b (cellsB p'.ks) p'.items (accOf (.arg 0) (.arg 1) (qInn qa)) us) : DidR (H.sets us) qa p' := by
  refine ⟨qInn qa, hb.1, ?_⟩
  cases qa with
  | none => exact .inl rfl
  | some q => exact .inr ⟨0, rfl⟩
theorem DidIn.backN {H : Heap} {p p' : PD} {a : Act4} {qa : Option (Id × Nat)} {us : List (Id × Blk)} (h : DidIn H p a qa) (hb : Back H (.arg 0) (.arg 1) 0 0 none p'.l p'.g p'.b (cellsB p'.ks) p'.items (accOf (.arg 0) (.arg 1) (qInn qa)) us) : DidR (H.sets us) qa p' := by
  refine ⟨none, hb.1, ?_⟩
  cases qa with
  | none => exact .inl rfl
  | some q => exact .inl ⟨rfl, hb.2.2 (.arg 2) (by simp [accOf, qInn]) (by simp)⟩
theorem DidIn.grow {H : Heap} {p p' : PD} {a : Act4} {qa qn' : Option (Id × Nat)} {us : List (Id × Blk)} {tc : List Id} {go : Nat} (h : DidIn H p a qa) (h1 : ∀ q, qInn qa = some q → qn' = some (q.1, q.2 + 1)) (h2 : qInn qa = none → qn' = some (.sub 37 (.own 49), go))
    (hb : Back H (.arg 0) (.arg 1) 0 0 qn' p'.l p'.g p'.b (cellsB p'.ks) p'.items tc us) : DidR (H.sets us) qa p' := by
  refine ⟨qn', hb.1, ?_⟩
  cases qa with
  | none => exact .inr ⟨go, h2 rfl⟩
  | some q => exact .inr ⟨1, h1 _ rfl⟩
theorem DidIn.other {H H' : Heap} {p : PD} {a : Act4} {qa : Option (Id × Nat)} (h : DidIn H p a qa) (e1 : ∀ j, H' (.arg j) = H (.arg j)) (e2 : H' (.own 3) = H (.own 3)) : DidIn H' p a qa := by
  refine ⟨h.h.other (fun i hi => ?_), by rw [e2]; exact h.ha⟩
  cases qa with
  | none =>
    simp only [accOf, qInn, List.mem_cons, List.not_mem_nil, or_false] at hi
    rcases hi with rfl | rfl <;> exact e1 _
  | some q =>
    simp only [accOf, qInn, List.mem_cons, List.not_mem_nil, or_false] at hi
    rcases hi with rfl | rfl | rfl <;> exact e1 _
theorem fa36_1 {x} : evFieldAddr Try.prog 36 x 1 = faR 1 x := by kernel_rfl
theorem fa36_2 {x} : evFieldAddr Try.prog 36 x 2 = faR 2 x := by kernel_rfl
theorem ld_act {H : Heap} {a : Act4} (h : H (.own 3) = some ⟨0, actV a, false, false⟩) {k : Nat} {v : V} (hv : (actV a)[k]? = some v) : ldR 1 false H (.ptr (.own 3) 0 k) = some ⟨v, [], [.own 3]⟩ := by
  have l1 : live H (.own 3) 0 = some ⟨0, actV a, false, false⟩ := by simp [live, h]
  have hk : k < (actV a).length := (List.getElem?_eq_some_iff.1 hv).1
  have c : cut (actV a) k 1 = some [v] := by
    unfold cut
    obtain ⟨h1, h2⟩ := List.getElem?_eq_some_iff.1 hv
    rw [List.drop_eq_getElem_cons h1, h2]
    simp
  simp [ldR, l1, c, mkv]
theorem bytesV_all (b : List Int) : (b.map fun u => [V.int .u8 u]).all (fun x => x.length == 1) = true := by simp
/-- the law's own copy of an act's bytes -/
theorem own_copy {H : Heap} {gg : Nat} {b : List Int} (h1 : H (.own 29) = some ⟨gg, [], false, true⟩) (hb : b.length ≤ 1000) : ∃ i g lim us rd, (i = .own 29 ∨ i = .own 32) ∧ evAppend Try.prog H 32 34 34 (.sl (.own 29) gg 0 0 1 (some 0)) (bytesV b) = some ⟨.sl i g 0 b.length 1 lim, us, rd⟩ ∧
    (H.sets us) i = some ⟨g, cellsB b, false, true⟩ ∧ ∀ j, j ≠ .own 29 → j ≠ .own 32 → (H.sets us) j = H j := by
  have l1 : live H (.own 29) gg = some ⟨gg, [], false, true⟩ := by simp [live, h1]
  have hs : appSrc Try.prog H 1 [.int .u8 0] 34 (bytesV b) = some (cellsB b, b.length, true, []) := by
    have e := flat_bytes b
    unfold bytesL at e
    simp only [appSrc, u34b, src, bytesV, bytesV_all, e, List.length_map, if_true]
  have c : (0 + b.length) * 1 ≤ lim47 := by unfold lim47; omega
  by_cases hz : b = []
  · subst hz
    refine ⟨.own 29, gg, some 0, [(.own 29, ⟨gg, [], false, true⟩)], [.own 29], .inl rfl, ?_, ?_, ?_⟩
    · unfold evAppend
      simp only [u34b, sz5, by5, z5, hs, l1]
      rfl
    · simp [Heap.sets, Heap.set, cellsB]
    · intro j h1 h2
      simp [Heap.sets, Heap.set, h1]
  · have hl : ¬ (b.length = 0) := fun e => hz (List.length_eq_zero_iff.1 e)
    refine ⟨.own 32, nextGen H (.own 32), none, [(.own 32, ⟨nextGen H (.own 32), cellsB b, false, true⟩)], [.own 29, .own 32], .inr rfl, ?_, ?_, ?_⟩
    · unfold evAppend
      simp only [u34b, sz5, by5, z5, hs, l1]
      simp [cut, hl, lim47]
      omega
    · simp [Heap.sets, Heap.set]
    · intro j h1 h2
      simp [Heap.sets, Heap.set, h2]
end Go.Proofs.Ytcamcfplcoklkaa.Iv

namespace Go.Proofs.Ytcamcfplcoklkaa.Iv
open Go
set_option linter.unusedVariables false
set_option linter.unusedSimpArgs false
set_option maxRecDepth 100000
theorem oE : ofVal (Value.string { data := #[] }) = .str [] := by kernel_rfl
theorem at1 {a : Act4} : (actV a)[1]? = some (.int .i64 a.n) := rfl
set_option maxHeartbeats 4000000 in
/-- did: an act at a disk -/
theorem did_body {N : Nat} {H : Heap} {p : PD} {a : Act4} {qa : Option (Id × Nat)} (hp : p.ok N) (hi : DidIn H p a qa) (hb : a.b.length ≤ 1000) {Q : V → Heap → Prop}
    (hQ : ∀ H', DidR H' qa (p.did a).1 → Q (.tup [.str (toStr (p.did a).2.1), .int .i64 (p.did a).2.2]) H') : ∀ t1 t2 t4 t5 t6 t7 t8 t9 t10 t11 t12 t13 t14 t15 t16 t17 t18 t19 t20 t21 t22 t23 t24 t25 t26 t27 t28 t29 t30 t31 t32 t33 t34 t35 t36 t37 t38 t39 t40 t41 t42 t43 t44 t45 t46 t47 t48 t49 t50 t51 t52 t53 t54 t55 t56 t57 t58 t59 t60 t61 t62 t63,
    wC Try.prog dcfg.pol (CallR dcfg) (LoopR dcfg) c12_2 [.ptr (.arg 0) 0 0, t1, t2, .ptr (.own 3) 0 0, t4, t5, t6, t7, t8, t9, t10, t11, t12, t13, t14, t15, t16, t17, t18, t19, t20, t21, t22, t23, t24, t25, t26, t27, t28, t29, t30, t31, t32, t33, t34, t35, t36, t37, t38, t39, t40, t41, t42, t43, t44, t45, t46, t47, t48, t49, t50, t51, t52, t53, t54, t55, t56, t57, t58, t59, t60, t61, t62, t63] H (wRes Try.prog [.tmp 4, .tmp 5] Q) := by
  intro t1 t2 t4 t5 t6 t7 t8 t9 t10 t11 t12 t13 t14 t15 t16 t17 t18 t19 t20 t21 t22 t23 t24 t25 t26 t27 t28 t29 t30 t31 t32 t33 t34 t35 t36 t37 t38 t39 t40 t41 t42 t43 t44 t45 t46 t47 t48 t49 t50 t51 t52 t53 t54 t55 t56 t57 t58 t59 t60 t61 t62 t63
  have fin : ∀ (env : List V) (H' : Heap) (s : List UInt8) (e : Int) (ex : Ex), (ex = .ret ∨ ex = .nrm) → env.getD 4 .und = .str s → env.getD 5 .und = .int .i64 e → Q (.tup [.str s, .int .i64 e]) H' → wRes Try.prog [.tmp 4, .tmp 5] Q ex env H' := by
    intro env H' s e ex he h4 h5 hq
    rcases he with rfl | rfl <;> simp only [wRes, evResults, evResult, h4, h5] <;> exact hq
  have hit : ∀ x ∈ p.items, (x.1 + 1) * 64 ≤ (cellsB p.ks).length ∧ x.2.length = 64 := fun x hx => by
    have h1 := hp.it x hx
    rw [cellsB_len, hp.len]
    exact ⟨by omega, h1.2⟩
  have hit' : ∀ x ∈ p.items, (x.1 + 1) * 64 ≤ (cellsB p.ks).length ∧ x.2.length ≤ 64 := fun x hx => ⟨(hit x hx).1, by have := (hit x hx).2; omega⟩
  have hlen : (cellsB p.ks).length ≤ 4096 := by rw [cellsB_len, hp.len]; have := hp.le; omega
  have hsz : secOf (cellsB p.ks) ≠ 0 := by rw [hp.secOf]; have := hp.pos; omega
  have hsp : secOf (cellsB p.ks) > 0 := by rw [hp.secOf]; have := hp.pos; omega
  have hNN : (p.N : Int) = N := by rw [hp.n]
  have ld : ∀ {k : Nat} {v : V}, (actV a)[k]? = some v → ldR 1 false H (.ptr (.own 3) 0 (0 + k)) = some ⟨v, [], [.own 3]⟩ := fun hv => by rw [Nat.zero_add]; exact ld_act hi.ha hv
  simp only [w12_2, w12_3, w12_4, w12_4_0, w12_5, w12_6, w12_7, w12_7_0, w12_8, seqK, blockK, fa36_0, ld3b]
  refine mk0 (.ptr (.own 3) 0 (0 + 0)) (by rfl) ?_
  refine mk (.int .i64 a.d) [] [.own 3] (ld rfl) ?_
  simp only [sets_nilE]
  refine mk0 _ (bin_eql ..) ?_
  by_cases h0 : a.d = 0
  · have e : (a.d == 0) = true := by simpa using h0
    rw [e]
    refine condT ?_
    have hd : p.did a = (p, p.read a.n) := by simp only [PD.did, if_pos h0]
    rw [hd] at hQ
    simp only [w12_9, w12_10, w12_10_0, w12_11, w12_12, w12_12_0, w12_13, w12_14, w12_14_0, w12_15, w12_16, w12_16_0, w12_17, seqK, blockK, fa36_1, ld3b]
    refine mk0 (.ptr (.own 3) 0 (0 + 1)) (by rfl) ?_
    refine mk (.int .i64 a.n) [] [.own 3] (ld rfl) ?_
    simp only [sets_nilE]
    have nores : ∀ e : Int, p.read a.n = ([], e) → Q (.tup [.str [], .int .i64 e]) H := fun e he => by
      have := hQ H hi.same
      rw [he] at this
      exact this
    refine read_call (Q := fun o => _) hi.h (fun x hx => (hit x hx).2) hp.few (by rw [cellsB_len] at hlen; omega) (by rw [hp.secs, hp.len]; omega) (fun hn rd => ?_) (fun hn hg rd => ?_) (fun hn hg bs hbs t gg rd => ?_)
    · refine mk0 .nils (by rfl) ?_
      refine mk0 (.int .i64 1) (by rfl) ?_
      refine mk _ _ _ conv_nil ?_
      refine mk0 _ clear_nil ?_
      refine fin _ _ [] 1 _ (.inl rfl) (by rfl) (by rfl) ?_
      refine nores 1 ?_
      unfold PD.read
      rw [hp.secs] at hn
      rw [if_pos (by rw [hNN]; exact hn)]
    · refine mk0 .nils (by rfl) ?_
      refine mk0 (.int .i64 11) (by rfl) ?_
      refine mk _ _ _ conv_nil ?_
      refine mk0 _ clear_nil ?_
      refine fin _ _ [] 11 _ (.inl rfl) (by rfl) (by rfl) ?_
      refine nores 11 ?_
      unfold PD.read
      rw [hp.secs] at hn
      rw [if_neg (by rw [hNN]; exact fun h => h hn), if_pos hg]
    · refine mk0 (.sl (.sub 19 (.sub t (.own 7))) gg 0 bs.length 1 none) (by rfl) ?_
      refine mk0 (.int .i64 0) (by rfl) ?_
      have hh : (Heap.sets H [(.sub 19 (.sub t (.own 7)), ⟨gg, cellsB bs, false, true⟩)]) (.sub 19 (.sub t (.own 7))) = some ⟨gg, cellsB bs, false, true⟩ := by simp [Heap.sets, Heap.set]
      refine mk _ _ _ (conv_sl hh) ?_
      obtain ⟨cs, hc⟩ := clear_sl (lim := none) hh
      refine mk _ _ _ hc ?_
      refine fin _ _ (toStr bs) 0 _ (.inl rfl) (by rfl) (by rfl) ?_
      have he : p.read a.n = (bs, 0) := by
        unfold PD.read
        rw [hp.secs] at hn
        rw [if_neg (by rw [hNN]; exact fun h => h hn), if_neg (by rw [hg]; simp), ← hbs]
      have := hQ _ (hi.same.other (H' := Heap.sets (Heap.sets (Heap.sets H [(.sub 19 (.sub t (.own 7)), ⟨gg, cellsB bs, false, true⟩)]) []) [(.sub 19 (.sub t (.own 7)), ⟨gg, cs, false, true⟩)]) (fun j => by simp [Heap.sets, Heap.set]) (by simp [Heap.sets, Heap.set]))
      rw [he] at this
      exact this
  have e : (a.d == 0) = false := by simpa using h0
  rw [e]
  refine condF ?_
  simp only [w12_18, w12_19, w12_19_0, w12_20, seqK, blockK]
  refine mk0 _ (bin_eql ..) ?_
  by_cases h1 : a.d = 1
  · have e : (a.d == 1) = true := by simpa using h1
    rw [e]
    refine condT ?_
    have hd : p.did a = ((p.write a.n a.b).1, [], (p.write a.n a.b).2) := by simp only [PD.did, if_neg h0, if_pos h1]
    rw [hd] at hQ
    simp only [w12_21, w12_22, w12_22_0, w12_23, w12_24, w12_24_0, w12_25, w12_26, w12_26_0, w12_27, w12_28, w12_28_0, w12_29, seqK, blockK, fa36_3, fa36_1, ld3b, ld34]
    refine mk (.sl (.own 29) (nextGen H (.own 29)) 0 0 1 (some 0)) [(.own 29, ⟨nextGen H (.own 29), [], false, true⟩)] [.own 29] (by kernel_rfl) ?_
    generalize nextGen H (.own 29) = g0
    have hH1 : (Heap.sets H [(.own 29, ⟨g0, [], false, true⟩)]) (.own 29) = some ⟨g0, [], false, true⟩ := by simp [Heap.sets, Heap.set]
    have hi1 : DidIn (Heap.sets H [(.own 29, ⟨g0, [], false, true⟩)]) p a qa := hi.other (fun j => by simp [Heap.sets, Heap.set]) (by simp [Heap.sets, Heap.set])
    generalize Heap.sets H [(.own 29, ⟨g0, [], false, true⟩)] = H1 at hH1 hi1 ⊢
    have ld1 : ∀ {k : Nat} {v : V}, (actV a)[k]? = some v → ldR 1 false H1 (.ptr (.own 3) 0 (0 + k)) = some ⟨v, [], [.own 3]⟩ := fun hv => by rw [Nat.zero_add]; exact ld_act hi1.ha hv
    refine mk0 (.ptr (.own 3) 0 (0 + 3)) (by rfl) ?_
    refine mk (bytesV a.b) [] [.own 3] (ld1 rfl) ?_
    simp only [sets_nilE]
    obtain ⟨i, g, lim, us, rd, hid, hap, hcb, hoth⟩ := own_copy (gg := g0) hH1 hb
    refine mk _ _ _ hap ?_
    have hi2 : DidIn (H1.sets us) p a qa := hi1.other (fun j => hoth _ (by simp) (by simp)) (hoth _ (by simp) (by simp))
    generalize H1.sets us = H2 at hcb hi2 ⊢
    have ld2 : ∀ {k : Nat} {v : V}, (actV a)[k]? = some v → ldR 1 false H2 (.ptr (.own 3) 0 (0 + k)) = some ⟨v, [], [.own 3]⟩ := fun hv => by rw [Nat.zero_add]; exact ld_act hi2.ha hv
    refine mk0 (.ptr (.own 3) 0 (0 + 1)) (by rfl) ?_
    refine mk (.int .i64 a.n) [] [.own 3] (ld2 rfl) ?_
    simp only [sets_nilE]
    have li : live H2 i g = some ⟨g, cellsB a.b, false, true⟩ := by simp [live, hcb]
    have ck : chunk 1 a.b.length (cellsB a.b) = bytesL a.b := by have := chunk_b a.b; rw [cellsB_len] at this; exact this
    have hlent : lent1 H2 (.sl i g 0 a.b.length 1 lim) = some ⟨.list (bytesL a.b) true, [], [i]⟩ := by
      simp only [lent1, li, cut_cb, ck]
      simp
    have hm : (dcfg.pol 20).modes = [.byref, .keep, .lent] := by kernel_rfl
    have hA : argsIn H2 (dcfg.pol 20).modes [.ptr (.arg 0) 0 0, .int .i64 a.n, .sl i g 0 a.b.length 1 lim] = some ([.ptr (.arg 0) 0 0, .int .i64 a.n, .list (bytesL a.b) true], [], [i]) := by
      rw [hm]
      simp only [argsIn, List.headD, argIn, List.tail, hlent, keepV, keep1]
      rfl
    have hrd : ∀ j ∈ accOf (.arg 0) (.arg 1) (qInn qa), j ∉ [i] := by
      intro j hj
      have hj2 : ∃ k, j = .arg k := by
        cases qa with
        | none =>
          simp only [accOf, qInn, List.mem_cons, List.not_mem_nil, or_false] at hj
          rcases hj with rfl | rfl <;> exact ⟨_, rfl⟩
        | some q =>
          simp only [accOf, qInn, List.mem_cons, List.not_mem_nil, or_false] at hj
          rcases hj with rfl | rfl | rfl <;> exact ⟨_, rfl⟩
      obtain ⟨k, rfl⟩ := hj2
      rcases hid with rfl | rfl <;> simp
    have hiA : ∀ j, i ≠ .arg j := fun j => by rcases hid with rfl | rfl <;> simp
    have hiS : i ≠ .sub 37 (.own 49) := by rcases hid with rfl | rfl <;> simp
    have hiacc : i ∉ accOf (.arg 0) (.arg 1) (qInn qa) := fun hj => hrd i hj (by simp)
    have tail : ∀ (us2 : List (Id × Blk)) (e : Int) (cs : List V), p.write a.n a.b = ((p.write a.n a.b).1, e) → DidR (H2.sets us2) qa (p.write a.n a.b).1 → Q (.tup [.str [], .int .i64 e]) ((H2.sets us2).sets [(i, ⟨g, cs, false, true⟩)]) := fun us2 e cs he hR => by
      have := hQ _ (hR.other (H' := (H2.sets us2).sets [(i, ⟨g, cs, false, true⟩)]) (fun j => by simp [Heap.sets, Heap.set, Ne.symm (hiA j)]) (by simp [Heap.sets, Heap.set, Ne.symm hiS]))
      rw [he] at this
      exact this
    refine write_call (Q := fun o => _) hi2.h hp.few ⟨by simp, by simp⟩ hA hrd (fun hz us2 rd2 hB => ?_) (fun hz hg us2 rd2 hB => ?_) (fun hz hg hb7 us2 rd2 hB => ?_) (fun hz hg hb7 qn' us2 rd2 hq1 hq2 hB => ?_)
    · have hi3 : (H2.sets us2) i = some ⟨g, cellsB a.b, false, true⟩ := by rw [hB.2.1 i hiacc]; exact hcb
      obtain ⟨cs, hc⟩ := clear_sl (lim := lim) hi3
      refine mk _ _ _ hc ?_
      refine fin _ _ [] 1 _ (.inl rfl) (by rfl) (by rfl) ?_
      have hw : p.write a.n a.b = (p, 1) := by
        unfold PD.write; rw [hp.secOf, ← hNN] at hz; rw [if_pos hz]
      exact tail us2 1 cs (by rw [hw]) (by rw [hw]; exact hi2.back hB)
    · have hi3 : (H2.sets us2) i = some ⟨g, cellsB a.b, false, true⟩ := by rw [hB.2.1 i hiacc]; exact hcb
      obtain ⟨cs, hc⟩ := clear_sl (lim := lim) hi3
      refine mk _ _ _ hc ?_
      refine fin _ _ [] 11 _ (.inl rfl) (by rfl) (by rfl) ?_
      have hw : p.write a.n a.b = ({ p with l := left' p.l, g := true }, 11) := by
        unfold PD.write; rw [hp.secOf, ← hNN] at hz; rw [if_neg (fun h => h hz), if_pos hg]
      exact tail us2 11 cs (by rw [hw]) (by rw [hw]; exact hi2.back hB)
    · have hi3 : (H2.sets us2) i = some ⟨g, cellsB a.b, false, true⟩ := by rw [hB.2.1 i hiacc]; exact hcb
      obtain ⟨cs, hc⟩ := clear_sl (lim := lim) hi3
      refine mk _ _ _ hc ?_
      refine fin _ _ [] 7 _ (.inl rfl) (by rfl) (by rfl) ?_
      have hw : p.write a.n a.b = ({ p with l := left' p.l, g := false }, 7) := by
        unfold PD.write; rw [hp.secOf, ← hNN] at hz; rw [if_neg (fun h => h hz), if_neg (by rw [hg]; simp), if_pos hb7]
      exact tail us2 7 cs (by rw [hw]) (by rw [hw]; exact hi2.back hB)
    · have hi4 : i ∉ accOf (.arg 0) (.arg 1) qn' := by
        cases qa with
        | none =>
          rw [hq2 rfl]
          simp only [accOf, List.mem_cons, List.not_mem_nil, or_false, not_or]
          exact ⟨hiA _, hiA _, hiS⟩
        | some q =>
          rw [hq1 _ rfl]
          simp only [accOf, List.mem_cons, List.not_mem_nil, or_false, not_or]
          exact ⟨hiA _, hiA _, hiA _⟩
      have hi3 : (H2.sets us2) i = some ⟨g, cellsB a.b, false, true⟩ := by rw [hB.2.1 i hi4]; exact hcb
      obtain ⟨cs, hc⟩ := clear_sl (lim := lim) hi3
      refine mk _ _ _ hc ?_
      refine fin _ _ [] 0 _ (.inl rfl) (by rfl) (by rfl) ?_
      have hw : p.write a.n a.b = ({ p with l := left' p.l, g := false, items := p.items ++ [(a.n.toNat, a.b)] }, 0) := by
        unfold PD.write; rw [hp.secOf, ← hNN] at hz; rw [if_neg (fun h => h hz), if_neg (by rw [hg]; simp), if_neg hb7]
      exact tail us2 0 cs (by rw [hw]) (by rw [hw]; exact hi2.grow hq1 hq2 hB)
  have e : (a.d == 1) = false := by simpa using h1
  rw [e]
  refine condF ?_
  simp only [w12_30, w12_31, w12_31_0, w12_32, seqK, blockK]
  refine mk0 _ (bin_eql ..) ?_
  by_cases h2 : a.d = 2
  · have e : (a.d == 2) = true := by simpa using h2
    rw [e]
    refine condT ?_
    have hd : p.did a = (p.sync.1, [], p.sync.2) := by simp only [PD.did, if_neg h0, if_neg h1, if_pos h2]
    rw [hd] at hQ
    simp only [w12_33, w12_34, w12_34_0, w12_35, seqK, blockK]
    refine sync_call (Q := fun o => _) hi.h hp.few (by omega) hit' (fun hz => absurd hz hsz) (fun _ hg us2 rd2 hB => ?_) (fun _ hg us2 rd2 hB => ?_)
    · refine fin _ _ [] 11 _ (.inl rfl) (by rfl) (by rfl) ?_
      have hw : p.sync = ({ p with l := left' p.l, g := true }, 11) := by unfold PD.sync; rw [if_pos hg]
      have := hQ (H.sets us2) (by rw [hw]; exact hi.back hB)
      rw [hw] at this
      exact this
    · refine fin _ _ [] 0 _ (.inl rfl) (by rfl) (by rfl) ?_
      have hw : p.sync = (⟨left' p.l, false, p.b, settledI p.ks p.items, []⟩, 0) := by unfold PD.sync; rw [if_neg (by rw [hg]; simp)]
      rw [settled_I] at hB
      have := hQ (H.sets us2) (by rw [hw]; exact hi.backN hB)
      rw [hw] at this
      exact this
  have e : (a.d == 2) = false := by simpa using h2
  rw [e]
  refine condF ?_
  simp only [w12_36, w12_37, w12_37_0, w12_38, seqK, blockK]
  refine mk0 _ (bin_eql ..) ?_
  by_cases h3 : a.d = 3
  · have e : (a.d == 3) = true := by simpa using h3
    rw [e]
    refine condT ?_
    have hd : p.did a = ({ p with l := maxm a.n }, [], 0) := by simp only [PD.did, if_neg h0, if_neg h1, if_neg h2, if_pos h3]
    rw [hd] at hQ
    simp only [w12_39, w12_39_0, w12_49, w12_50, w12_50_0, w12_51, seqK, blockK, fa36_1, ld3b]
    refine mk0 (.ptr (.own 3) 0 (0 + 1)) (by rfl) ?_
    refine mk (.int .i64 a.n) [] [.own 3] (ld rfl) ?_
    simp only [sets_nilE]
    refine trip_call (Q := fun o => _) hi.h (fun us2 rd2 hB => ?_)
    rw [if_pos hsp] at hB
    refine fin _ _ [] 0 _ (.inl rfl) (by rfl) (by rfl) ?_
    exact hQ (H.sets us2) (hi.back (p' := { p with l := maxm a.n }) hB)
  have e : (a.d == 3) = false := by simpa using h3
  rw [e]
  refine condF ?_
  simp only [w12_40, w12_41, w12_41_0, w12_42, seqK, blockK]
  refine mk0 _ (bin_eql ..) ?_
  by_cases h4 : a.d = 4
  · have e : (a.d == 4) = true := by simpa using h4
    rw [e]
    refine condT ?_
    have hd : p.did a = ({ p with b := maxm a.n }, [], 0) := by simp only [PD.did, if_neg h0, if_neg h1, if_neg h2, if_neg h3, if_pos h4]
    rw [hd] at hQ
    simp only [w12_43, w12_43_0, w12_49, w12_50, w12_50_0, w12_51, seqK, blockK, fa36_1, ld3b]
    refine mk0 (.ptr (.own 3) 0 (0 + 1)) (by rfl) ?_
    refine mk (.int .i64 a.n) [] [.own 3] (ld rfl) ?_
    simp only [sets_nilE]
    refine cap_call (Q := fun o => _) hi.h (fun us2 rd2 hB => ?_)
    rw [if_pos hsp] at hB
    refine fin _ _ [] 0 _ (.inl rfl) (by rfl) (by rfl) ?_
    exact hQ (H.sets us2) (hi.back (p' := { p with b := maxm a.n }) hB)
  have e : (a.d == 4) = false := by simpa using h4
  rw [e]
  refine condF ?_
  simp only [w12_44, w12_45, w12_45_0, w12_46, seqK, blockK]
  refine mk0 _ (bin_eql ..) ?_
  by_cases h5 : a.d = 5
  · have e : (a.d == 5) = true := by simpa using h5
    rw [e]
    refine condT ?_
    have hd : p.did a = (p.crash a.n a.m, [], 0) := by simp only [PD.did, if_neg h0, if_neg h1, if_neg h2, if_neg h3, if_neg h4, if_pos h5]
    rw [hd] at hQ
    simp only [w12_47, w12_47_0, w12_49, w12_50, w12_50_0, w12_51, seqK, blockK, fa36_1, fa36_2, ld3b]
    refine mk0 (.ptr (.own 3) 0 (0 + 1)) (by rfl) ?_
    refine mk (.int .i64 a.n) [] [.own 3] (ld rfl) ?_
    simp only [sets_nilE]
    refine mk0 (.ptr (.own 3) 0 (0 + 2)) (by rfl) ?_
    refine mk (.int .i64 a.m) [] [.own 3] (ld rfl) ?_
    simp only [sets_nilE]
    refine crash_call (Q := fun o => _) hi.h hp.few (by omega) hit (fun hz => absurd hz hsz) (fun _ us2 rd2 hB => ?_)
    rw [last_I] at hB
    refine fin _ _ [] 0 _ (.inl rfl) (by rfl) (by rfl) ?_
    exact hQ (H.sets us2) (hi.backN (p' := p.crash a.n a.m) hB)
  have e : (a.d == 5) = false := by simpa using h5
  rw [e]
  refine condF ?_
  simp only [w12_48, w12_49, w12_50, w12_50_0, w12_51, seqK, blockK]
  have hd : p.did a = (p, [], 0) := by simp only [PD.did, if_neg h0, if_neg h1, if_neg h2, if_neg h3, if_neg h4, if_neg h5]
  rw [hd] at hQ
  refine fin _ _ [] 0 _ (.inl rfl) (by rfl) (by rfl) ?_
  exact hQ H hi.same
end Go.Proofs.Ytcamcfplcoklkaa.Iv

namespace Go.Proofs.Ytcamcfplcoklkaa.Iv
open Go
set_option linter.unusedVariables false
set_option linter.unusedSimpArgs false
set_option maxRecDepth 100000
theorem DFr.WH {p : PD} {qa : Option (Id × Nat)} (hn : qa = none → p.items = []) : PDF (WH p.l p.g p.b (cellsB p.ks) (qIn qa p.items) (qbIn qa p.items)) (.arg 0) (.arg 1) 0 0 (qInn qa) p := by
  cases qa with
  | none => exact ⟨rfl, rfl, fun Q gq e => (by cases e), fun _ => hn rfl, by simp⟩
  | some q => exact ⟨rfl, rfl, fun Q gq e => (by cases e; exact ⟨rfl, by simp, by simp⟩), fun e => (by cases e), by simp⟩
/-- did, on a disk -/
theorem did_spec {N : Nat} {p : PD} {a : Act4} {qa : Option (Id × Nat)} (hp : p.ok N) (hn : qa = none → p.items = []) (hb : a.b.length ≤ 1000) {Q : V → Heap → Prop}
    (hQ : ∀ H', DidR H' qa (p.did a).1 → Q (.tup [.str (toStr (p.did a).2.1), .int .i64 (p.did a).2.2]) H') :
    CallR dcfg 12 [.ptr (.arg 0) 0 0, .agg (actV a)] (WH p.l p.g p.b (cellsB p.ks) (qIn qa p.items) (qbIn qa p.items)) Q := by
  refine CallR.body' (K := dcfg) (f := 12) (fn := Try.f12) (c := c12_0) (env := [.ptr (.arg 0) 0 0, .agg (actV a), .und, .und, .und, .und, .und, .und, .und, .und, .und, .und, .und, .und, .und, .und, .und, .und, .und, .und, .und, .und, .und, .und, .und, .und, .und, .und, .und, .und, .und, .und, .und, .und, .und, .und, .und, .und, .und, .und, .und, .und, .und, .und, .und, .und, .und, .und, .und, .und, .und, .und, .und, .und, .und, .und, .und, .und, .und, .und, .und, .und, .und, .und]) (rs := [.tmp 4, .tmp 5]) rfl (by kernel_rfl) (by kernel_rfl) (by kernel_rfl) (by kernel_rfl) (by kernel_rfl) (by kernel_rfl) ?_
  show wC Try.prog dcfg.pol (CallR dcfg) (LoopR dcfg) c12_0 _ _ _
  simp only [w12_0, w12_1, w12_1_0, seqK]
  refine mk (.ptr (.own 3) 0 0) [(.own 3, ⟨0, actV a, false, false⟩)] [.own 3] (by kernel_rfl) ?_
  refine did_body hp ⟨(DFr.WH hn).other (fun i hi => ?_), by simp [Heap.sets, Heap.set]⟩ hb hQ _ _ _ _ _ _ _ _ _ _ _ _ _ _ _ _ _ _ _ _ _ _ _ _ _ _ _ _ _ _ _ _ _ _ _ _ _ _ _ _ _ _ _ _ _ _ _ _ _ _ _ _ _ _ _ _ _ _ _ _ _ _
  have h3 : i ≠ .own 3 := by
    cases qa with
    | none =>
      simp only [accOf, qInn, List.mem_cons, List.not_mem_nil, or_false] at hi
      rcases hi with rfl | rfl <;> simp
    | some q =>
      simp only [accOf, qInn, List.mem_cons, List.not_mem_nil, or_false] at hi
      rcases hi with rfl | rfl | rfl <;> simp
  simp [Heap.sets, Heap.set, h3]
theorem dout_of {H' : Heap} {n : Nat} {qo : Option (Id × Nat)} {p : PD} (h : PDF H' (.arg 0) (.arg 1) 0 0 qo p) : DOut H' n qo p.l p.g p.b (cellsB p.ks) p.items :=
  ⟨h.hD, h.hK, fun Q gq e => (h.hQ Q gq e).1, h.hn⟩
theorem pitems_nil {H' : Heap} {p : PD} (h : PDF H' (.arg 0) (.arg 1) 0 0 none p) : p.items = [] := h.hn rfl
/-- did, at a frame -/
theorem did_call {H : Heap} {D K : Id} {gd gk : Nat} {qn : Option (Id × Nat)} {p : PD} {N : Nat} {a : Act4} {d : Nat} (h : PDF H D K gd gk qn p) (hp : p.ok N) (hb : a.b.length ≤ 1000)
    (hq : qn = none ∨ ∃ g, qn = some (.sub d (.sub 37 (.own 49)), g)) (hnd : Id.sub d (.sub 37 (.own 49)) ≠ D ∧ Id.sub d (.sub 37 (.own 49)) ≠ K) {x : V} {rd : List Id}
    (ha : argsIn H (dcfg.pol 12).modes [.ptr D gd 0, x] = some ([.ptr D gd 0, .agg (actV a)], [], rd)) (hrd : ∀ i ∈ accOf D K qn, i ∉ rd) {Q : Out → Prop}
    (hQ : ∀ qn' us rd, (qn' = none ∨ ∃ g, qn' = some (.sub d (.sub 37 (.own 49)), g)) → PDF (H.sets us) D K gd gk qn' (p.did a).1 → (∀ i, i ≠ D → i ≠ K → i ≠ .sub d (.sub 37 (.own 49)) → (H.sets us) i = H i) → Q ⟨.tup [.str (toStr (p.did a).2.1), .int .i64 (p.did a).2.2], us, rd⟩) :
    wCall dcfg.pol (CallR dcfg) H d 12 [.ptr D gd 0, x] Q := by
  have ho : (dcfg.pol 12).own = false := by kernel_rfl
  have hret : ∀ (H' : Heap) (s : List UInt8) (e : Int), retIn (dcfg.pol 12).own H' (.tup [.str s, .int .i64 e]) = some (.tup [.str s, .int .i64 e], []) := fun H' s e => by rw [ho]; rfl
  have hrr : ∀ (s : List UInt8) (e : Int), refs (.tup [.str s, .int .i64 e]) = [] := fun s e => rfl
  have hkk : ∀ (s : List UInt8) (e : Int), outKept (.tup [.str s, .int .i64 e]) = true := fun s e => rfl
  have hac : refsL [.agg (actV a)] = [] := by kernel_rfl
  unfold wCall
  rw [pre_d h (f := 12) (rest := [.agg (actV a)]) ha hac hrd]
  refine did_spec hp h.hn hb (fun H' hR => ?_)
  obtain ⟨qo, h1, h2⟩ := hR
  cases qn with
  | none =>
    have hi := h.hn rfl
    rw [show accOf D K none = [D, K] from rfl]
    simp only [qIn, qbIn]
    rcases h2 with h2 | ⟨go, h2⟩
    · subst h2
      have hi' := pitems_nil h1
      have hd := dout_of (n := 2) h1
      show outW (callPost dcfg.pol H d 12 _ _ _) Q
      rw [hi'] at hd
      rw [post_nn h hd (hret _ _ _) (hrr _ _) (hkk _ _)]
      have hB := back2 (H := H) (gd := gd) (gk := gk) (l := (p.did a).1.l) (b := (p.did a).1.b) (g := (p.did a).1.g) (kc := cellsB (p.did a).1.ks) h.dk
      rw [← hi'] at hB
      exact hQ none _ _ (.inl rfl) hB.1 (fun i i1 i2 i3 => hB.2.1 i (by simp [i1, i2]))
    · subst h2
      have hd := dout_of (n := 2) h1
      show outW (callPost dcfg.pol H d 12 _ _ _) Q
      rw [post_nw (fun j => by simp) rfl h hd (hret _ _ _) (hrr _ _) (hkk _ _) hnd]
      have hB := back3 (H := H) (gd := gd) (gk := gk) (gq := nextGen H (.sub d (.sub 37 (.own 49))) + go) (l := (p.did a).1.l) (b := (p.did a).1.b) (g := (p.did a).1.g) (kc := cellsB (p.did a).1.ks) (items := (p.did a).1.items) h.dk hnd.1 hnd.2
      exact hQ _ _ _ (.inr ⟨_, rfl⟩) hB.1 (fun i i1 i2 i3 => hB.2.1 i (by simp [i1, i2, i3]))
  | some q =>
    obtain ⟨Qn, gq⟩ := q
    have hQn : Qn = .sub d (.sub 37 (.own 49)) := by
      rcases hq with hq | ⟨g, hq⟩ <;> cases hq
      rfl
    subst hQn
    obtain ⟨q1, q2, q3⟩ := h.hQ _ gq rfl
    rw [show accOf D K (some (.sub d (.sub 37 (.own 49)), gq)) = [D, K, .sub d (.sub 37 (.own 49))] from rfl]
    simp only [qIn, qbIn]
    rcases h2 with ⟨h2, bb, h3, h4⟩ | ⟨go, h2⟩
    · subst h2
      have hi' := pitems_nil h1
      have hd := dout_of (n := 3) h1
      rw [hi'] at hd
      show outW (callPost dcfg.pol H d 12 _ _ _) Q
      rw [post_sn h hd h3 h4 (hret _ _ _) (hrr _ _) (hkk _ _)]
      have hB := back3n (H := H) (D := D) (K := K) (gd := gd) (gk := gk) (l := (p.did a).1.l) (b := (p.did a).1.b) (g := (p.did a).1.g) (kc := cellsB (p.did a).1.ks) (x := ⟨gq + bb.gen, bb.cells, bb.frz, true⟩) rfl h.dk q2 q3
      rw [← hi'] at hB
      exact hQ none _ _ (.inl rfl) hB.1 (fun i i1 i2 i3 => hB.2.1 i (by simp [i1, i2, i3]))
    · subst h2
      have hd := dout_of (n := 3) h1
      show outW (callPost dcfg.pol H d 12 _ _ _) Q
      rw [post_sg h hd (hret _ _ _) (hrr _ _) (hkk _ _)]
      have hB := back3 (H := H) (gd := gd) (gk := gk) (gq := gq + go) (l := (p.did a).1.l) (b := (p.did a).1.b) (g := (p.did a).1.g) (kc := cellsB (p.did a).1.ks) (items := (p.did a).1.items) h.dk q2 q3
      exact hQ _ _ _ (.inr ⟨_, rfl⟩) hB.1 (fun i i1 i2 i3 => hB.2.1 i (by simp [i1, i2, i3]))
end Go.Proofs.Ytcamcfplcoklkaa.Iv
