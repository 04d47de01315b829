import Derived.Test.YtcamcfplcoklkaaM20
import Derived.Test.YtcamcfplcoklkaaM21
namespace Go.Proofs.Ytcamcfplcoklkaa.Iv
open Go
set_option linter.unusedVariables false
set_option linter.unusedSimpArgs false
set_option maxRecDepth 100000
/-! ### sectors of an image, behind a write -/
def seg (ks : List Int) (i : Nat) : List Int := (ks.take ((i + 1) * 64)).drop (i * 64)
theorem seg_get {ks : List Int} {i j : Nat} : (seg ks i)[j]? = if j < 64 then ks[i * 64 + j]? else none := by
  unfold seg
  rw [List.getElem?_drop, List.getElem?_take]
  by_cases h : j < 64
  · rw [if_pos h, if_pos (by omega)]
  · rw [if_neg h, if_neg (by omega)]
theorem putI_get {ks : List Int} {x : Nat × List Int} (h : x.1 * 64 + x.2.length ≤ ks.length) {m : Nat} : (putI ks x)[m]? = if x.1 * 64 ≤ m ∧ m < x.1 * 64 + x.2.length then x.2[m - x.1 * 64]? else ks[m]? := by
  unfold putI
  have l1 : (ks.take (x.1 * 64)).length = x.1 * 64 := by simp; omega
  rw [List.append_assoc]
  by_cases h1 : m < x.1 * 64
  · rw [List.getElem?_append_left (by omega), if_neg (by omega), List.getElem?_take, if_pos h1]
  · rw [List.getElem?_append_right (by omega), l1]
    by_cases h2 : m < x.1 * 64 + x.2.length
    · rw [List.getElem?_append_left (by omega), if_pos ⟨by omega, h2⟩]
    · rw [List.getElem?_append_right (by omega), if_neg (by omega), List.getElem?_drop]
      congr 1; omega
theorem seg_putI {ks : List Int} {N n i : Nat} {b : List Int} (hl : ks.length = N * 64) (hn : n < N) (hb : b.length ≤ 64) : seg (putI ks (n, b)) i = if i = n then b ++ (seg ks n).drop b.length else seg ks i := by
  apply List.ext_getElem?
  intro j
  rw [seg_get, putI_get (by simp only; omega)]
  by_cases h : i = n
  · subst h
    simp only [if_true]
    by_cases hj : j < 64
    · rw [if_pos hj]
      by_cases h2 : j < b.length
      · rw [if_pos ⟨by omega, by omega⟩, List.getElem?_append_left h2]
        congr 1; omega
      · rw [if_neg (by omega), List.getElem?_append_right (by omega), List.getElem?_drop, seg_get, if_pos (by omega)]
        congr 1; omega
    · rw [if_neg hj, List.getElem?_append_right (by omega), List.getElem?_drop, seg_get, if_neg (by omega)]
  · rw [if_neg h, seg_get]
    by_cases hj : j < 64
    · rw [if_pos hj, if_pos hj, if_neg]
      rintro ⟨h1, h2⟩
      simp only at h1 h2
      rcases Nat.lt_or_gt_of_ne h with h3 | h3 <;> omega
    · rw [if_neg hj, if_neg hj]
theorem secS_seg {ks : List Int} {i : Nat} : secS ks i = toStr (seg ks i) := rfl
theorem toStr_app {a b : List Int} : toStr (a ++ b) = toStr a ++ toStr b := by simp [toStr]
theorem toStr_drop {a : List Int} {n : Nat} : toStr (a.drop n) = (toStr a).drop n := by simp [toStr, List.map_drop]
theorem secsV_putI {ks : List Int} {N n : Nat} {b : List Int} (hl : ks.length = N * 64) (hn : n < N) (hb : b.length ≤ 64) : secsV (putI ks (n, b)) N = (secsV ks N).set n (.str (toStr b ++ (secS ks n).drop b.length)) := by
  apply List.ext_getElem?
  intro i
  by_cases hi : i < N
  · rw [secsV_at hi]
    rw [secS_seg, seg_putI hl hn hb]
    by_cases h : i = n
    · subst h
      rw [if_pos rfl, List.getElem?_set_self (by rw [secsV_len]; exact hi), toStr_app, toStr_drop, secS_seg]
    · rw [if_neg h, List.getElem?_set_ne (Ne.symm h), secsV_at hi, secS_seg]
  · rw [List.getElem?_eq_none (by rw [secsV_len]; omega), List.getElem?_eq_none (by rw [List.length_set, secsV_len]; omega)]
theorem seg_len {ks : List Int} {N i : Nat} (hl : ks.length = N * 64) (hi : i < N) : (seg ks i).length = 64 := by
  unfold seg; simp; omega
theorem secS_len {ks : List Int} {N i : Nat} (hl : ks.length = N * 64) (hi : i < N) : (secS ks i).length = 64 := by
  rw [secS_seg]; unfold toStr; rw [List.length_map, seg_len hl hi]
theorem secsV_put64 {ks : List Int} {N n : Nat} {b : List Int} (hl : ks.length = N * 64) (hn : n < N) (hb : b.length = 64) : secsV (putI ks (n, b)) N = (secsV ks N).set n (.str (toStr b)) := by
  rw [secsV_putI hl hn (by omega), hb, List.drop_eq_nil_of_le (by rw [secS_len hl hn]; omega), List.append_nil]
theorem settledI_take {ks : List Int} {items : List (Nat × List Int)} {k : Nat} {x : Nat × List Int} (h : items[k]? = some x) : settledI ks (items.take (k + 1)) = putI (settledI ks (items.take k)) x := by
  have e : items.take (k + 1) = items.take k ++ [x] := by
    rw [List.take_add_one, h]; rfl
  rw [e]
  simp [settledI]
/-! ### the queue of acts -/
def qaC (l : List Act4) : List V := (l.map actV).flatten
theorem qaC_len : ∀ (l : List Act4), (qaC l).length = l.length * 4
  | [] => rfl
  | a :: r => by
    have := qaC_len r
    simp only [qaC, List.map_cons, List.flatten_cons, List.length_append, List.length_cons] at this ⊢
    rw [this]
    simp [actV]; omega
theorem qaC_at : ∀ (l : List Act4) {k f : Nat} {a : Act4}, l[k]? = some a → f < 4 → (qaC l)[k * 4 + f]? = (actV a)[f]?
  | [], k, f, a, h, hf => by simp at h
  | x :: r, 0, f, a, h, hf => by
    simp at h; subst h
    simp only [qaC, List.map_cons, List.flatten_cons]
    rw [List.getElem?_append_left (by simp [actV]; omega)]
    congr 1; omega
  | x :: r, k + 1, f, a, h, hf => by
    have := qaC_at r (k := k) (f := f) (a := a) (by simpa using h) hf
    simp only [qaC, List.map_cons, List.flatten_cons] at this ⊢
    rw [List.getElem?_append_right (by simp [actV]; omega), ← this]
    congr 1
    simp [actV]; omega
theorem qaC_cut {l : List Act4} {k : Nat} {a : Act4} (h : l[k]? = some a) : cut (qaC l) (0 + k * 4) 4 = some (actV a) := by
  have hl := qaC_len l
  have hk : k < l.length := (List.getElem?_eq_some_iff.1 h).1
  have e : ((qaC l).drop (k * 4)).take 4 = actV a := by
    apply List.ext_getElem?
    intro j
    rw [List.getElem?_take]
    by_cases hj : j < 4
    · rw [if_pos hj, List.getElem?_drop, qaC_at l h hj]
    · rw [if_neg hj, List.getElem?_eq_none (by simp [actV]; omega)]
  unfold cut
  rw [Nat.zero_add, e]
  simp [actV]
theorem qaC_app (l : List Act4) (a : Act4) : qaC (l ++ [a]) = qaC l ++ actV a := by simp [qaC]
def itemsOf (l : List Act4) : List (Nat × List Int) := l.map fun a => (a.n.toNat, a.b)
/-! ### operations -/
theorem ld_cell {H : Heap} {i : Id} {g j : Nat} {cs : List V} {fz fl : Bool} {v : V} (h : H i = some ⟨g, cs, fz, fl⟩) (hv : cs[j]? = some v) : ldR 1 false H (.ptr i g j) = some ⟨v, [], [i]⟩ := by
  have := ld_at (j := j) h hv
  rw [Nat.mul_one, Nat.zero_add] at this
  exact this
theorem st_cell {H : Heap} {i : Id} {g j : Nat} {cs : List V} {s : List UInt8} (h : H i = some ⟨g, cs, false, true⟩) (hj : j < cs.length) : stR 1 H (.ptr i g (0 + j * 1)) (.str s) = some ⟨.und, [(i, ⟨g, cs.set j (.str s), false, true⟩)], [i]⟩ := by
  have l1 : live H i g = some ⟨g, cs, false, true⟩ := by simp [live, h]
  have e : splice cs j [V.str s] = cs.set j (.str s) := by
    rw [List.set_eq_take_append_cons_drop, if_pos hj]
    simp [splice]
  have c : True ∧ [V.str s].length = 1 ∧ j + 1 ≤ cs.length ∧ [V.str s].all (fits true) = true := ⟨trivial, rfl, by omega, rfl⟩
  simp only [stR, l1, V.cells, Nat.mul_one, Nat.zero_add]
  rw [if_pos c, e]
theorem conv_list {H : Heap} {bs : List Int} {fl : Bool} : evConvert Try.prog H 34 9 (.list (bytesL bs) fl) = some ⟨.str (toStr bs), [], []⟩ := by
  have e : (bytesL bs).all (fun x => x.length == 1) = true := by simp [bytesL]
  unfold evConvert
  simp only [u34b, u9s, u5i, srcS, src, e, if_true, flat_bytes, toBytes_cb]
theorem slice9 {H : Heap} {s : List UInt8} {h : Nat} (h1 : h ≤ s.length) : evSlice Try.prog H 9 (.str s) (some (.int .i64 (h : Int))) none none = pureO (.str (s.drop h)) := by
  simp [evSlice, u9s, bnd, h1]
theorem bin_sadd {P : Program} {t : Nat} {a b : List UInt8} (h : a.length + b.length ≤ 1000000) : liftO (evBin P t .add (.str a) (.str b)) = pureO (.str (a ++ b)) := by
  have c : ((a.length + b.length : Nat) : Int) ≤ 9223372036854775807 := by omega
  show liftO (evStr .add a b) = _
  simp only [evStr]
  rw [if_pos c]
  rfl
theorem st9 {H x v} : evStore Try.prog H 9 x v = stR 1 H x v := by kernel_rfl
theorem st36 {H x v} : evStore Try.prog H 36 x v = stR 4 H x v := by kernel_rfl
theorem u22s : Try.prog.underlying 22 = some (.slice 36) := by kernel_rfl
theorem sz36 : szOf Try.prog 36 = some 4 := by kernel_rfl
theorem by36 : byOf Try.prog 36 = some 48 := by kernel_rfl
theorem z36 : zOf Try.prog 36 = some [.int .i64 0, .int .i64 0, .int .i64 0, .nils] := by kernel_rfl
/-- the queue of acts, as the law holds it -/
def QB (H : Heap) (q : V) (qs : List Act4) : Prop := (q = .nils ∧ qs = []) ∨ ∃ g, q = .sl (.own 103) g 0 qs.length 4 none ∧ H (.own 103) = some ⟨g, qaC qs, false, true⟩
theorem QB.len {H : Heap} {q : V} {qs : List Act4} (h : QB H q qs) : evLen Try.prog 22 q = pureO (.int .i64 (qs.length : Int)) := by
  rw [len22]
  rcases h with ⟨rfl, rfl⟩ | ⟨g, rfl, _⟩ <;> rfl
theorem QB.other {H H' : Heap} {q : V} {qs : List Act4} (h : QB H q qs) (e : H' (.own 103) = H (.own 103)) : QB H' q qs := by
  rcases h with h | ⟨g, h1, h2⟩
  · exact .inl h
  · exact .inr ⟨g, h1, by rw [e]; exact h2⟩
theorem ia_sl4 {i : Id} {g n j : Nat} {lim : Option Nat} (h : j < n) : iaR 4 (.sl i g 0 n 4 lim) (.int .i64 (j : Int)) = pureO (.ptr i g (0 + j * 4)) := by
  simp [iaR, h]
theorem app_act {H : Heap} {q : V} {qs : List Act4} {a : Act4} {gg : Nat} (h : QB H q qs) (h2 : H (.own 102) = some ⟨gg, actV a, false, true⟩) (hl : qs.length ≤ 1000000) : ∃ y g rd, evAppend Try.prog H 103 22 22 q (.sl (.own 102) gg 0 1 4 (some 1)) = some ⟨y, [(.own 103, ⟨g, qaC (qs ++ [a]), false, true⟩)], rd⟩ ∧ y = .sl (.own 103) g 0 (qs ++ [a]).length 4 none := by
  have l2 : live H (.own 102) gg = some ⟨gg, actV a, false, true⟩ := by simp [live, h2]
  have ca : cut (actV a) 0 (1 * 4) = some (actV a) := by simp [cut, actV]
  have hs : appSrc Try.prog H 4 [.int .i64 0, .int .i64 0, .int .i64 0, .nils] 22 (.sl (.own 102) gg 0 1 4 (some 1)) = some (actV a, 1, true, [.own 102]) := by
    simp only [appSrc, u22s, src, l2, ca, if_true]
  rcases h with ⟨rfl, rfl⟩ | ⟨g, rfl, h1⟩
  · refine ⟨_, nextGen H (.own 103), [.own 103, .own 102], ?_, rfl⟩
    unfold evAppend
    simp only [u22s, sz36, by36, z36, hs]
    simp [lim47, qaC]
  · have l1 : live H (.own 103) g = some ⟨g, qaC qs, false, true⟩ := by simp [live, h1]
    have c1 : (qs.length + 1) * 48 ≤ lim47 := by unfold lim47; omega
    have c2 : cut (qaC qs) 0 (qs.length * 4) = some (qaC qs) := by rw [← qaC_len]; exact cut_all _
    have c3 : ¬ ((qs.length + 1) * 4 ≤ (qaC qs).length) := by rw [qaC_len]; omega
    refine ⟨_, g + 1, [.own 103, .own 102], ?_, rfl⟩
    unfold evAppend
    simp only [u22s, sz36, by36, z36, hs, l1]
    simp [c1, c2, c3, qaC_app]
end Go.Proofs.Ytcamcfplcoklkaa.Iv

namespace Go.Proofs.Ytcamcfplcoklkaa.Iv
open Go
set_option linter.unusedVariables false
set_option linter.unusedSimpArgs false
set_option maxRecDepth 100000

/-- the frame of DiskBegins: the disk p; want: the sectors of ks; the queue of acts -/
structure BF (H : Heap) (gd gk gw : Nat) (qn : Option (Id × Nat)) (p : PD) (q : V) (qs : List Act4) (ks : List Int) : Prop where
  hP : PDF H (.sub 23 (.own 15)) (.sub 23 (.own 13)) gd gk qn p
  hn : qn = none ∨ ∃ g, qn = some ((.sub 81 (.own 49)), g)
  hw : H (.sub 36 (.own 23)) = some ⟨gw, secsV ks 16, false, true⟩
  hl : ks.length = 16 * 64
  hb : QB H q qs
theorem BF.acc {H : Heap} {gd gk gw : Nat} {qn : Option (Id × Nat)} {p : PD} {q : V} {qs : List Act4} {ks : List Int} (h : BF H gd gk gw qn p q qs ks) {i : Id} (hi : i ∈ accOf (.sub 23 (.own 15)) (.sub 23 (.own 13)) qn) : i = (.sub 23 (.own 15)) ∨ i = (.sub 23 (.own 13)) ∨ i = (.sub 81 (.own 49)) := by
  rcases h.hn with rfl | ⟨g, rfl⟩
  · simp only [accOf, List.mem_cons, List.not_mem_nil, or_false] at hi
    rcases hi with rfl | rfl
    · exact .inl rfl
    · exact .inr (.inl rfl)
  · simpa only [accOf, List.mem_cons, List.not_mem_nil, or_false] using hi
theorem BF.other {H H' : Heap} {gd gk gw : Nat} {qn : Option (Id × Nat)} {p : PD} {q : V} {qs : List Act4} {ks : List Int} (h : BF H gd gk gw qn p q qs ks) (e1 : H' (.sub 23 (.own 15)) = H (.sub 23 (.own 15))) (e2 : H' (.sub 23 (.own 13)) = H (.sub 23 (.own 13))) (e3 : H' (.sub 81 (.own 49)) = H (.sub 81 (.own 49))) (e4 : H' (.sub 36 (.own 23)) = H (.sub 36 (.own 23))) (e5 : H' (.own 103) = H (.own 103)) : BF H' gd gk gw qn p q qs ks :=
  ⟨h.hP.other (fun i hi => by
    rcases h.acc hi with rfl | rfl | rfl
    · exact e1
    · exact e2
    · exact e3), h.hn, by rw [e4]; exact h.hw, h.hl, h.hb.other e5⟩
/-- want is set -/
theorem BF.put {H : Heap} {gd gk gw : Nat} {qn : Option (Id × Nat)} {p : PD} {q : V} {qs : List Act4} {ks ks' : List Int} (h : BF H gd gk gw qn p q qs ks) (hl : ks'.length = 16 * 64) : BF (H.sets [((.sub 36 (.own 23)), ⟨gw, secsV ks' 16, false, true⟩)]) gd gk gw qn p q qs ks' :=
  ⟨h.hP.other (fun i hi => by
    rcases h.acc hi with rfl | rfl | rfl <;> simp [Heap.sets, Heap.set]), h.hn, by simp [Heap.sets, Heap.set], hl, h.hb.other (by simp [Heap.sets, Heap.set])⟩
theorem QB.at {H : Heap} {q : V} {qs : List Act4} (h : QB H q qs) {k : Nat} {a : Act4} (hk : qs[k]? = some a) : ∃ g, q = .sl (.own 103) g 0 qs.length 4 none ∧ H (.own 103) = some ⟨g, qaC qs, false, true⟩ ∧ k < qs.length := by
  have hlt : k < qs.length := (List.getElem?_eq_some_iff.1 hk).1
  rcases h with ⟨_, rfl⟩ | ⟨g, h1, h2⟩
  · simp at hlt
  · exact ⟨g, h1, h2, hlt⟩
theorem qa_n {H : Heap} {g : Nat} {qs : List Act4} {k : Nat} {a : Act4} (h : H (.own 103) = some ⟨g, qaC qs, false, true⟩) (hk : qs[k]? = some a) : ldR 1 false H (.ptr (.own 103) g (0 + k * 4 + 1)) = some ⟨.int .i64 a.n, [], [.own 103]⟩ :=
  ld_cell h (by rw [Nat.zero_add, qaC_at qs hk (by omega)]; rfl)
theorem qa_b {H : Heap} {g : Nat} {qs : List Act4} {k : Nat} {a : Act4} (h : H (.own 103) = some ⟨g, qaC qs, false, true⟩) (hk : qs[k]? = some a) : ldR 1 false H (.ptr (.own 103) g (0 + k * 4 + 3)) = some ⟨bytesV a.b, [], [.own 103]⟩ :=
  ld_cell h (by rw [Nat.zero_add, qaC_at qs hk (by omega)]; rfl)
theorem conv_bv {H : Heap} {bs : List Int} : evConvert Try.prog H 34 9 (bytesV bs) = some ⟨.str (toStr bs), [], []⟩ := conv_list
def goodQ (qs : List Act4) : Prop := ∀ a ∈ qs, 0 ≤ a.n ∧ a.n < 16 ∧ a.b.length = 64
theorem itemsOf_at {qs : List Act4} {k : Nat} {a : Act4} (h : qs[k]? = some a) : (itemsOf qs)[k]? = some (a.n.toNat, a.b) := by simp [itemsOf, h]
theorem itemsOf_ok {qs : List Act4} (hg : goodQ qs) {N : Nat} (hN : N = 16 * 64) : ∀ x ∈ itemsOf qs, (x.1 + 1) * 64 ≤ N ∧ x.2.length = 64 := by
  intro x hx
  simp only [itemsOf, List.mem_map] at hx
  obtain ⟨a, ha, rfl⟩ := hx
  have := hg a ha
  simp only
  exact ⟨by omega, this.2.2⟩
theorem itemsOf_ok2 {qs : List Act4} (hg : goodQ qs) {N k : Nat} (hN : N = 16 * 64) : ∀ x ∈ (itemsOf qs).take k, (x.1 + 1) * 64 ≤ N ∧ x.2.length ≤ 64 := by
  intro x hx
  have := itemsOf_ok hg hN x (List.mem_of_mem_take hx)
  exact ⟨this.1, by omega⟩
set_option maxHeartbeats 8000000 in
/-- what was queued is set, behind a Sync -/
theorem begins_put {l : List Act4} {gd gk gw : Nat} {keep torn : Int} {qn : Option (Id × Nat)} {p : PD} {q : V} {qs : List Act4} (hgq : goodQ qs) (hsz : qs.length ≤ 200) {ks : List Int} (hks : ks.length = 16 * 64) {m : Nat} (hm : m ≤ qs.length) {x11 x12 : V} {ob : Option Blk} {Q : KQ}
    (hx : ∀ (H' : Heap) t3 t4 t5 t8 t13 t14 t15 t16 t17 t18 t19 t20 t21 t22 t23 t24 t25 t26 t27 t28 t29 t30 t31 t32 t33 t34 t35 t36 t37 t38 t39 t40 t41 t42 t43 t44 t45 t46 t47 t48 t49 t50 t51 t52 t53 t54 t55 t56 t57 t58 t59 t60 t61 t62 t63 t64 t65 t66 t67 t68 t69 t70 t71 t72 t73 t74 t75 t76 t77 t78 t79 t80 t81 t82 t83 t84 t85 t86 t87 t88 t89 t90 t91 t92 t93 t94 t95 t96 t97 t98 t99 t100 t101 t102 t103 t104 t105 t106 t107 t108 t109 t110 t111 t112 t113 t114 t115 t116 t117 t118 t119 t120 t121 t122 t123 t124 t125 t126 t127 t128 t129 t130 t131 t132 t133 t134 t135 t136 t137 t138 t139 t140 t141 t142 t143 t144 t145 t146 t147 t148 t149 t150 t151 t152 t153 t154 t155 t156 t157 t158 t159 t160 t161 t162 t163 t164 t165 t166 t167 t168 t169 t170 t171 t172 t173 t174 t175 t176 t177 t178 t179 t180 t181 t182 t183 t184 t185 t186 t187 t188 t189 t190 t191 t192 t193 t194 t195 t196 t197 t198 t199 t200 t201 t202 t203 t204 t205 t206 t207 t208 t209 t210 t211 t212 t213, BF H' gd gk gw qn p q qs (settledI ks ((itemsOf qs).take qs.length)) → H' (.own 12) = ob → Q (.exit 2) [actsV l, .int .i64 keep, .int .i64 torn, t3, t4, t5, .bool false, .ptr (.sub 23 (.own 15)) gd 0, t8, .sl (.sub 36 (.own 23)) gw 0 16 1 none, q, x11, x12, t13, t14, t15, t16, t17, t18, t19, t20, t21, t22, t23, t24, t25, t26, t27, t28, t29, t30, t31, t32, t33, t34, t35, t36, t37, t38, t39, t40, t41, t42, t43, t44, t45, t46, t47, t48, t49, t50, t51, t52, t53, t54, t55, t56, t57, t58, t59, t60, t61, t62, t63, t64, t65, t66, t67, t68, t69, t70, t71, t72, t73, t74, t75, t76, t77, t78, t79, t80, t81, t82, t83, t84, t85, t86, t87, t88, t89, t90, t91, t92, t93, t94, t95, t96, t97, t98, t99, t100, t101, t102, t103, t104, t105, t106, t107, t108, t109, t110, t111, t112, t113, t114, t115, t116, t117, t118, t119, t120, t121, t122, t123, t124, t125, t126, t127, t128, t129, t130, t131, t132, t133, t134, t135, t136, t137, t138, t139, t140, t141, t142, t143, t144, t145, t146, t147, t148, t149, t150, t151, t152, t153, t154, t155, t156, t157, t158, t159, t160, t161, t162, t163, t164, t165, t166, t167, t168, t169, t170, t171, t172, t173, t174, t175, t176, t177, t178, t179, t180, t181, t182, t183, t184, t185, t186, t187, t188, t189, t190, t191, t192, t193, t194, t195, t196, t197, t198, t199, t200, t201, t202, t203, t204, t205, t206, t207, t208, t209, t210, t211, t212, t213] H') :
    ∀ (r k : Nat), k + r = qs.length → ∀ (H : Heap) t3 t4 t5 t8 t14 t15 t16 t17 t18 t19 t20 t21 t22 t23 t24 t25 t26 t27 t28 t29 t30 t31 t32 t33 t34 t35 t36 t37 t38 t39 t40 t41 t42 t43 t44 t45 t46 t47 t48 t49 t50 t51 t52 t53 t54 t55 t56 t57 t58 t59 t60 t61 t62 t63 t64 t65 t66 t67 t68 t69 t70 t71 t72 t73 t74 t75 t76 t77 t78 t79 t80 t81 t82 t83 t84 t85 t86 t87 t88 t89 t90 t91 t92 t93 t94 t95 t96 t97 t98 t99 t100 t101 t102 t103 t104 t105 t106 t107 t108 t109 t110 t111 t112 t113 t114 t115 t116 t117 t118 t119 t120 t121 t122 t123 t124 t125 t126 t127 t128 t129 t130 t131 t132 t133 t134 t135 t136 t137 t138 t139 t140 t141 t142 t143 t144 t145 t146 t147 t148 t149 t150 t151 t152 t153 t154 t155 t156 t157 t158 t159 t160 t161 t162 t163 t164 t165 t166 t167 t168 t169 t170 t171 t172 t173 t174 t175 t176 t177 t178 t179 t180 t181 t182 t183 t184 t185 t186 t187 t188 t189 t190 t191 t192 t193 t194 t195 t196 t197 t198 t199 t200 t201 t202 t203 t204 t205 t206 t207 t208 t209 t210 t211 t212 t213, BF H gd gk gw qn p q qs (settledI ks ((itemsOf qs).take k)) → H (.own 12) = ob → LoopR dcfg c5_56 [actsV l, .int .i64 keep, .int .i64 torn, t3, t4, t5, .bool false, .ptr (.sub 23 (.own 15)) gd 0, t8, .sl (.sub 36 (.own 23)) gw 0 16 1 none, q, x11, x12, .int .i64 (k : Int), t14, t15, t16, t17, t18, t19, t20, t21, t22, t23, t24, t25, t26, t27, t28, t29, t30, t31, t32, t33, t34, t35, t36, t37, t38, t39, t40, t41, t42, t43, t44, t45, t46, t47, t48, t49, t50, t51, t52, t53, t54, t55, t56, t57, t58, t59, t60, t61, t62, t63, t64, t65, t66, t67, t68, t69, t70, t71, t72, t73, t74, t75, t76, t77, t78, t79, t80, t81, t82, t83, t84, t85, t86, t87, t88, t89, t90, t91, t92, t93, t94, t95, t96, t97, t98, t99, t100, t101, t102, t103, t104, t105, t106, t107, t108, t109, t110, t111, t112, t113, t114, t115, t116, t117, t118, t119, t120, t121, t122, t123, t124, t125, t126, t127, t128, t129, t130, t131, t132, t133, t134, t135, t136, t137, t138, t139, t140, t141, t142, t143, t144, t145, t146, t147, t148, t149, t150, t151, t152, t153, t154, t155, t156, t157, t158, t159, t160, t161, t162, t163, t164, t165, t166, t167, t168, t169, t170, t171, t172, t173, t174, t175, t176, t177, t178, t179, t180, t181, t182, t183, t184, t185, t186, t187, t188, t189, t190, t191, t192, t193, t194, t195, t196, t197, t198, t199, t200, t201, t202, t203, t204, t205, t206, t207, t208, t209, t210, t211, t212, t213] H Q := by
  intro r
  induction r with
  | zero =>
    intro k hk H t3 t4 t5 t8 t14 t15 t16 t17 t18 t19 t20 t21 t22 t23 t24 t25 t26 t27 t28 t29 t30 t31 t32 t33 t34 t35 t36 t37 t38 t39 t40 t41 t42 t43 t44 t45 t46 t47 t48 t49 t50 t51 t52 t53 t54 t55 t56 t57 t58 t59 t60 t61 t62 t63 t64 t65 t66 t67 t68 t69 t70 t71 t72 t73 t74 t75 t76 t77 t78 t79 t80 t81 t82 t83 t84 t85 t86 t87 t88 t89 t90 t91 t92 t93 t94 t95 t96 t97 t98 t99 t100 t101 t102 t103 t104 t105 t106 t107 t108 t109 t110 t111 t112 t113 t114 t115 t116 t117 t118 t119 t120 t121 t122 t123 t124 t125 t126 t127 t128 t129 t130 t131 t132 t133 t134 t135 t136 t137 t138 t139 t140 t141 t142 t143 t144 t145 t146 t147 t148 t149 t150 t151 t152 t153 t154 t155 t156 t157 t158 t159 t160 t161 t162 t163 t164 t165 t166 t167 t168 t169 t170 t171 t172 t173 t174 t175 t176 t177 t178 t179 t180 t181 t182 t183 t184 t185 t186 t187 t188 t189 t190 t191 t192 t193 t194 t195 t196 t197 t198 t199 t200 t201 t202 t203 t204 t205 t206 t207 t208 t209 t210 t211 t212 t213 hBF hob
    have hk2 : k = qs.length := by omega
    subst hk2
    refine LoopR.step ?_
    show wC Try.prog dcfg.pol (CallR dcfg) (LoopR dcfg) c5_56 _ H _
    simp only [w5_56, w5_57, w5_58, w5_58_0, w5_59, w5_60, w5_61, seqK]
    refine mk0 _ hBF.hb.len ?_
    refine mk0 (.bool false) (by rw [bin_lss, decide_eq_false (by omega)]) ?_
    refine condF ?_
    exact hx H _ _ _ _ _ _ _ _ _ _ _ _ _ _ _ _ _ _ _ _ _ _ _ _ _ _ _ _ _ _ _ _ _ _ _ _ _ _ _ _ _ _ _ _ _ _ _ _ _ _ _ _ _ _ _ _ _ _ _ _ _ _ _ _ _ _ _ _ _ _ _ _ _ _ _ _ _ _ _ _ _ _ _ _ _ _ _ _ _ _ _ _ _ _ _ _ _ _ _ _ _ _ _ _ _ _ _ _ _ _ _ _ _ _ _ _ _ _ _ _ _ _ _ _ _ _ _ _ _ _ _ _ _ _ _ _ _ _ _ _ _ _ _ _ _ _ _ _ _ _ _ _ _ _ _ _ _ _ _ _ _ _ _ _ _ _ _ _ _ _ _ _ _ _ _ _ _ _ _ _ _ _ _ _ _ _ _ _ _ _ _ _ _ _ _ _ _ _ _ _ _ _ _ _ _ hBF hob
  | succ r ih =>
    intro k hk H t3 t4 t5 t8 t14 t15 t16 t17 t18 t19 t20 t21 t22 t23 t24 t25 t26 t27 t28 t29 t30 t31 t32 t33 t34 t35 t36 t37 t38 t39 t40 t41 t42 t43 t44 t45 t46 t47 t48 t49 t50 t51 t52 t53 t54 t55 t56 t57 t58 t59 t60 t61 t62 t63 t64 t65 t66 t67 t68 t69 t70 t71 t72 t73 t74 t75 t76 t77 t78 t79 t80 t81 t82 t83 t84 t85 t86 t87 t88 t89 t90 t91 t92 t93 t94 t95 t96 t97 t98 t99 t100 t101 t102 t103 t104 t105 t106 t107 t108 t109 t110 t111 t112 t113 t114 t115 t116 t117 t118 t119 t120 t121 t122 t123 t124 t125 t126 t127 t128 t129 t130 t131 t132 t133 t134 t135 t136 t137 t138 t139 t140 t141 t142 t143 t144 t145 t146 t147 t148 t149 t150 t151 t152 t153 t154 t155 t156 t157 t158 t159 t160 t161 t162 t163 t164 t165 t166 t167 t168 t169 t170 t171 t172 t173 t174 t175 t176 t177 t178 t179 t180 t181 t182 t183 t184 t185 t186 t187 t188 t189 t190 t191 t192 t193 t194 t195 t196 t197 t198 t199 t200 t201 t202 t203 t204 t205 t206 t207 t208 t209 t210 t211 t212 t213 hBF hob
    have hlt : k < qs.length := by omega
    obtain ⟨a, hka⟩ : ∃ a, qs[k]? = some a := ⟨qs[k], by simp [hlt]⟩
    have hma : a ∈ qs := List.mem_of_getElem? hka
    obtain ⟨ha0, ha16, hab⟩ := hgq a hma
    obtain ⟨gq, rfl, hq, _⟩ := hBF.hb.at hka
    obtain ⟨na, hna⟩ : ∃ na : Nat, a.n = (na : Int) := ⟨a.n.toNat, by omega⟩
    refine LoopR.step ?_
    show wC Try.prog dcfg.pol (CallR dcfg) (LoopR dcfg) c5_56 _ H _
    simp only [w5_56, w5_57, w5_58, w5_58_0, w5_59, w5_60, w5_61, w5_62, w5_63, w5_64, w5_64_0c, w5_64_0, w5_64_12, w5_65, w5_65_0, seqK, blockK, ia22, ia38, fa36_1, fa36_3, ld3b, ld34, st9]
    refine mk0 _ hBF.hb.len ?_
    refine mk0 (.bool true) (by rw [bin_lss, decide_eq_true (by omega)]) ?_
    refine condT ?_
    refine mkL0 (.sl (.sub 36 (.own 23)) gw 0 16 1 none) [] (by rfl) ?_
    refine mkL0 (.sl (.own 103) gq 0 qs.length 4 none) [] (by rfl) ?_
    refine mkL0 (.int .i64 (k : Int)) [] (by rfl) ?_
    refine mkL0 (.ptr (.own 103) gq (0 + k * 4)) [] (ia_sl4 hlt) ?_
    refine mkL0 (.ptr (.own 103) gq (0 + k * 4 + 1)) [] (by rfl) ?_
    refine mkL (.int .i64 a.n) [] [.own 103] (qa_n hq hka) ?_
    refine mkL0 (.sl (.own 103) gq 0 qs.length 4 none) [] (by rfl) ?_
    refine mkL0 (.int .i64 (k : Int)) [] (by rfl) ?_
    refine mkL0 (.ptr (.own 103) gq (0 + k * 4)) [] (ia_sl4 hlt) ?_
    refine mkL0 (.ptr (.own 103) gq (0 + k * 4 + 3)) [] (by rfl) ?_
    simp only [sets_nilE]
    refine mkL (bytesV a.b) [] [.own 103] (qa_b hq hka) ?_
    refine mkL (.str (toStr a.b)) [] [] conv_bv ?_
    rw [hna]
    refine mkL0 (.ptr (.sub 36 (.own 23)) gw (0 + na * 1)) [] (ia_sl (by omega)) ?_
    simp only [sets_nilE]
    refine mkL .und [((.sub 36 (.own 23)), ⟨gw, (secsV (settledI ks ((itemsOf qs).take k)) 16).set na (.str (toStr a.b)), false, true⟩)] [(.sub 36 (.own 23))] (st_cell hBF.hw (by rw [secsV_len]; omega)) ?_
    refine ⟨by kernel_rfl, ?_⟩
    have hst : (settledI ks ((itemsOf qs).take k)).length = 16 * 64 := by rw [settledI_len (itemsOf_ok2 hgq hks), hks]
    have hnat : a.n.toNat = na := by omega
    have e1 : settledI ks ((itemsOf qs).take (k + 1)) = putI (settledI ks ((itemsOf qs).take k)) (na, a.b) := by
      rw [settledI_take (itemsOf_at hka), hnat]
    have e2 : (secsV (settledI ks ((itemsOf qs).take k)) 16).set na (.str (toStr a.b)) = secsV (settledI ks ((itemsOf qs).take (k + 1))) 16 := by
      rw [e1, secsV_put64 hst (by omega) hab]
    rw [e2]
    refine mk0 _ (bin_add (by omega) (by omega)) ?_
    exact ih (k + 1) (by omega) _ _ _ _ _ _ _ _ _ _ _ _ _ _ _ _ _ _ _ _ _ _ _ _ _ _ _ _ _ _ _ _ _ _ _ _ _ _ _ _ _ _ _ _ _ _ _ _ _ _ _ _ _ _ _ _ _ _ _ _ _ _ _ _ _ _ _ _ _ _ _ _ _ _ _ _ _ _ _ _ _ _ _ _ _ _ _ _ _ _ _ _ _ _ _ _ _ _ _ _ _ _ _ _ _ _ _ _ _ _ _ _ _ _ _ _ _ _ _ _ _ _ _ _ _ _ _ _ _ _ _ _ _ _ _ _ _ _ _ _ _ _ _ _ _ _ _ _ _ _ _ _ _ _ _ _ _ _ _ _ _ _ _ _ _ _ _ _ _ _ _ _ _ _ _ _ _ _ _ _ _ _ _ _ _ _ _ _ _ _ _ _ _ _ _ _ _ _ _ _ _ _ _ _ _ (hBF.put (by rw [e1, putI_len (by rw [hst]; simp only; omega), hst])) (by simp [Heap.sets, Heap.set]; exact hob)
set_option maxHeartbeats 8000000 in
/-- what is kept is set, behind the Crash -/
theorem begins_put2 {l : List Act4} {gd gk gw : Nat} {keep torn : Int} {qn : Option (Id × Nat)} {p : PD} {q : V} {qs : List Act4} (hgq : goodQ qs) (hsz : qs.length ≤ 200) {ks : List Int} (hks : ks.length = 16 * 64) {m : Nat} (hm : m ≤ qs.length) {x11 x12 : V} {ob : Option Blk} {Q : KQ}
    (hx : ∀ (H' : Heap) t3 t4 t5 t8 t13 t15 t16 t17 t18 t19 t20 t21 t22 t23 t24 t25 t26 t27 t28 t29 t30 t31 t32 t33 t34 t35 t36 t37 t38 t39 t40 t41 t42 t43 t44 t45 t46 t47 t48 t49 t50 t51 t52 t53 t54 t55 t56 t57 t58 t59 t60 t61 t62 t63 t64 t65 t66 t67 t68 t69 t70 t71 t72 t73 t74 t75 t76 t77 t78 t79 t80 t81 t82 t83 t84 t85 t86 t87 t88 t89 t90 t91 t92 t93 t94 t95 t96 t97 t98 t99 t100 t101 t102 t103 t104 t105 t106 t107 t108 t109 t110 t111 t112 t113 t114 t115 t116 t117 t118 t119 t120 t121 t122 t123 t124 t125 t126 t127 t128 t129 t130 t131 t132 t133 t134 t135 t136 t137 t138 t139 t140 t141 t142 t143 t144 t145 t146 t147 t148 t149 t150 t151 t152 t153 t154 t155 t156 t157 t158 t159 t160 t161 t162 t163 t164 t165 t166 t167 t168 t169 t170 t171 t172 t173 t174 t175 t176 t177 t178 t179 t180 t181 t182 t183 t184 t185 t186 t187 t188 t189 t190 t191 t192 t193 t194 t195 t196 t197 t198 t199 t200 t201 t202 t203 t204 t205 t206 t207 t208 t209 t210 t211 t212 t213, BF H' gd gk gw qn p q qs (settledI ks ((itemsOf qs).take m)) → H' (.own 12) = ob → Q (.exit 4) [actsV l, .int .i64 keep, .int .i64 torn, t3, t4, t5, .bool false, .ptr (.sub 23 (.own 15)) gd 0, t8, .sl (.sub 36 (.own 23)) gw 0 16 1 none, q, x11, x12, t13, .int .i64 (m : Int), t15, t16, t17, t18, t19, t20, t21, t22, t23, t24, t25, t26, t27, t28, t29, t30, t31, t32, t33, t34, t35, t36, t37, t38, t39, t40, t41, t42, t43, t44, t45, t46, t47, t48, t49, t50, t51, t52, t53, t54, t55, t56, t57, t58, t59, t60, t61, t62, t63, t64, t65, t66, t67, t68, t69, t70, t71, t72, t73, t74, t75, t76, t77, t78, t79, t80, t81, t82, t83, t84, t85, t86, t87, t88, t89, t90, t91, t92, t93, t94, t95, t96, t97, t98, t99, t100, t101, t102, t103, t104, t105, t106, t107, t108, t109, t110, t111, t112, t113, t114, t115, t116, t117, t118, t119, t120, t121, t122, t123, t124, t125, t126, t127, t128, t129, t130, t131, t132, t133, t134, t135, t136, t137, t138, t139, t140, t141, t142, t143, t144, t145, t146, t147, t148, t149, t150, t151, t152, t153, t154, t155, t156, t157, t158, t159, t160, t161, t162, t163, t164, t165, t166, t167, t168, t169, t170, t171, t172, t173, t174, t175, t176, t177, t178, t179, t180, t181, t182, t183, t184, t185, t186, t187, t188, t189, t190, t191, t192, t193, t194, t195, t196, t197, t198, t199, t200, t201, t202, t203, t204, t205, t206, t207, t208, t209, t210, t211, t212, t213] H') :
    ∀ (r k : Nat), k + r = m → ∀ (H : Heap) t3 t4 t5 t8 t13 t16 t17 t18 t19 t20 t21 t22 t23 t24 t25 t26 t27 t28 t29 t30 t31 t32 t33 t34 t35 t36 t37 t38 t39 t40 t41 t42 t43 t44 t45 t46 t47 t48 t49 t50 t51 t52 t53 t54 t55 t56 t57 t58 t59 t60 t61 t62 t63 t64 t65 t66 t67 t68 t69 t70 t71 t72 t73 t74 t75 t76 t77 t78 t79 t80 t81 t82 t83 t84 t85 t86 t87 t88 t89 t90 t91 t92 t93 t94 t95 t96 t97 t98 t99 t100 t101 t102 t103 t104 t105 t106 t107 t108 t109 t110 t111 t112 t113 t114 t115 t116 t117 t118 t119 t120 t121 t122 t123 t124 t125 t126 t127 t128 t129 t130 t131 t132 t133 t134 t135 t136 t137 t138 t139 t140 t141 t142 t143 t144 t145 t146 t147 t148 t149 t150 t151 t152 t153 t154 t155 t156 t157 t158 t159 t160 t161 t162 t163 t164 t165 t166 t167 t168 t169 t170 t171 t172 t173 t174 t175 t176 t177 t178 t179 t180 t181 t182 t183 t184 t185 t186 t187 t188 t189 t190 t191 t192 t193 t194 t195 t196 t197 t198 t199 t200 t201 t202 t203 t204 t205 t206 t207 t208 t209 t210 t211 t212 t213, BF H gd gk gw qn p q qs (settledI ks ((itemsOf qs).take k)) → H (.own 12) = ob → LoopR dcfg c5_99 [actsV l, .int .i64 keep, .int .i64 torn, t3, t4, t5, .bool false, .ptr (.sub 23 (.own 15)) gd 0, t8, .sl (.sub 36 (.own 23)) gw 0 16 1 none, q, x11, x12, t13, .int .i64 (m : Int), .int .i64 (k : Int), t16, t17, t18, t19, t20, t21, t22, t23, t24, t25, t26, t27, t28, t29, t30, t31, t32, t33, t34, t35, t36, t37, t38, t39, t40, t41, t42, t43, t44, t45, t46, t47, t48, t49, t50, t51, t52, t53, t54, t55, t56, t57, t58, t59, t60, t61, t62, t63, t64, t65, t66, t67, t68, t69, t70, t71, t72, t73, t74, t75, t76, t77, t78, t79, t80, t81, t82, t83, t84, t85, t86, t87, t88, t89, t90, t91, t92, t93, t94, t95, t96, t97, t98, t99, t100, t101, t102, t103, t104, t105, t106, t107, t108, t109, t110, t111, t112, t113, t114, t115, t116, t117, t118, t119, t120, t121, t122, t123, t124, t125, t126, t127, t128, t129, t130, t131, t132, t133, t134, t135, t136, t137, t138, t139, t140, t141, t142, t143, t144, t145, t146, t147, t148, t149, t150, t151, t152, t153, t154, t155, t156, t157, t158, t159, t160, t161, t162, t163, t164, t165, t166, t167, t168, t169, t170, t171, t172, t173, t174, t175, t176, t177, t178, t179, t180, t181, t182, t183, t184, t185, t186, t187, t188, t189, t190, t191, t192, t193, t194, t195, t196, t197, t198, t199, t200, t201, t202, t203, t204, t205, t206, t207, t208, t209, t210, t211, t212, t213] H Q := by
  intro r
  induction r with
  | zero =>
    intro k hk H t3 t4 t5 t8 t13 t16 t17 t18 t19 t20 t21 t22 t23 t24 t25 t26 t27 t28 t29 t30 t31 t32 t33 t34 t35 t36 t37 t38 t39 t40 t41 t42 t43 t44 t45 t46 t47 t48 t49 t50 t51 t52 t53 t54 t55 t56 t57 t58 t59 t60 t61 t62 t63 t64 t65 t66 t67 t68 t69 t70 t71 t72 t73 t74 t75 t76 t77 t78 t79 t80 t81 t82 t83 t84 t85 t86 t87 t88 t89 t90 t91 t92 t93 t94 t95 t96 t97 t98 t99 t100 t101 t102 t103 t104 t105 t106 t107 t108 t109 t110 t111 t112 t113 t114 t115 t116 t117 t118 t119 t120 t121 t122 t123 t124 t125 t126 t127 t128 t129 t130 t131 t132 t133 t134 t135 t136 t137 t138 t139 t140 t141 t142 t143 t144 t145 t146 t147 t148 t149 t150 t151 t152 t153 t154 t155 t156 t157 t158 t159 t160 t161 t162 t163 t164 t165 t166 t167 t168 t169 t170 t171 t172 t173 t174 t175 t176 t177 t178 t179 t180 t181 t182 t183 t184 t185 t186 t187 t188 t189 t190 t191 t192 t193 t194 t195 t196 t197 t198 t199 t200 t201 t202 t203 t204 t205 t206 t207 t208 t209 t210 t211 t212 t213 hBF hob
    have hk2 : k = m := by omega
    subst hk2
    refine LoopR.step ?_
    show wC Try.prog dcfg.pol (CallR dcfg) (LoopR dcfg) c5_99 _ H _
    simp only [w5_99, w5_100, w5_101, w5_101_0, w5_102, w5_103, w5_104, seqK]
    refine mk0 (.bool false) (by rw [bin_lss, decide_eq_false (by omega)]) ?_
    refine condF ?_
    exact hx H _ _ _ _ _ _ _ _ _ _ _ _ _ _ _ _ _ _ _ _ _ _ _ _ _ _ _ _ _ _ _ _ _ _ _ _ _ _ _ _ _ _ _ _ _ _ _ _ _ _ _ _ _ _ _ _ _ _ _ _ _ _ _ _ _ _ _ _ _ _ _ _ _ _ _ _ _ _ _ _ _ _ _ _ _ _ _ _ _ _ _ _ _ _ _ _ _ _ _ _ _ _ _ _ _ _ _ _ _ _ _ _ _ _ _ _ _ _ _ _ _ _ _ _ _ _ _ _ _ _ _ _ _ _ _ _ _ _ _ _ _ _ _ _ _ _ _ _ _ _ _ _ _ _ _ _ _ _ _ _ _ _ _ _ _ _ _ _ _ _ _ _ _ _ _ _ _ _ _ _ _ _ _ _ _ _ _ _ _ _ _ _ _ _ _ _ _ _ _ _ _ _ _ _ hBF hob
  | succ r ih =>
    intro k hk H t3 t4 t5 t8 t13 t16 t17 t18 t19 t20 t21 t22 t23 t24 t25 t26 t27 t28 t29 t30 t31 t32 t33 t34 t35 t36 t37 t38 t39 t40 t41 t42 t43 t44 t45 t46 t47 t48 t49 t50 t51 t52 t53 t54 t55 t56 t57 t58 t59 t60 t61 t62 t63 t64 t65 t66 t67 t68 t69 t70 t71 t72 t73 t74 t75 t76 t77 t78 t79 t80 t81 t82 t83 t84 t85 t86 t87 t88 t89 t90 t91 t92 t93 t94 t95 t96 t97 t98 t99 t100 t101 t102 t103 t104 t105 t106 t107 t108 t109 t110 t111 t112 t113 t114 t115 t116 t117 t118 t119 t120 t121 t122 t123 t124 t125 t126 t127 t128 t129 t130 t131 t132 t133 t134 t135 t136 t137 t138 t139 t140 t141 t142 t143 t144 t145 t146 t147 t148 t149 t150 t151 t152 t153 t154 t155 t156 t157 t158 t159 t160 t161 t162 t163 t164 t165 t166 t167 t168 t169 t170 t171 t172 t173 t174 t175 t176 t177 t178 t179 t180 t181 t182 t183 t184 t185 t186 t187 t188 t189 t190 t191 t192 t193 t194 t195 t196 t197 t198 t199 t200 t201 t202 t203 t204 t205 t206 t207 t208 t209 t210 t211 t212 t213 hBF hob
    have hlt : k < qs.length := by omega
    obtain ⟨a, hka⟩ : ∃ a, qs[k]? = some a := ⟨qs[k], by simp [hlt]⟩
    have hma : a ∈ qs := List.mem_of_getElem? hka
    obtain ⟨ha0, ha16, hab⟩ := hgq a hma
    obtain ⟨gq, rfl, hq, _⟩ := hBF.hb.at hka
    obtain ⟨na, hna⟩ : ∃ na : Nat, a.n = (na : Int) := ⟨a.n.toNat, by omega⟩
    refine LoopR.step ?_
    show wC Try.prog dcfg.pol (CallR dcfg) (LoopR dcfg) c5_99 _ H _
    simp only [w5_99, w5_100, w5_101, w5_101_0, w5_102, w5_103, w5_104, w5_105, w5_106, w5_107, w5_107_0c, w5_107_0, w5_107_12, w5_108, w5_108_0, seqK, blockK, ia22, ia38, fa36_1, fa36_3, ld3b, ld34, st9]
    refine mk0 (.bool true) (by rw [bin_lss, decide_eq_true (by omega)]) ?_
    refine condT ?_
    refine mkL0 (.sl (.sub 36 (.own 23)) gw 0 16 1 none) [] (by rfl) ?_
    refine mkL0 (.sl (.own 103) gq 0 qs.length 4 none) [] (by rfl) ?_
    refine mkL0 (.int .i64 (k : Int)) [] (by rfl) ?_
    refine mkL0 (.ptr (.own 103) gq (0 + k * 4)) [] (ia_sl4 hlt) ?_
    refine mkL0 (.ptr (.own 103) gq (0 + k * 4 + 1)) [] (by rfl) ?_
    refine mkL (.int .i64 a.n) [] [.own 103] (qa_n hq hka) ?_
    refine mkL0 (.sl (.own 103) gq 0 qs.length 4 none) [] (by rfl) ?_
    refine mkL0 (.int .i64 (k : Int)) [] (by rfl) ?_
    refine mkL0 (.ptr (.own 103) gq (0 + k * 4)) [] (ia_sl4 hlt) ?_
    refine mkL0 (.ptr (.own 103) gq (0 + k * 4 + 3)) [] (by rfl) ?_
    simp only [sets_nilE]
    refine mkL (bytesV a.b) [] [.own 103] (qa_b hq hka) ?_
    refine mkL (.str (toStr a.b)) [] [] conv_bv ?_
    rw [hna]
    refine mkL0 (.ptr (.sub 36 (.own 23)) gw (0 + na * 1)) [] (ia_sl (by omega)) ?_
    simp only [sets_nilE]
    refine mkL .und [((.sub 36 (.own 23)), ⟨gw, (secsV (settledI ks ((itemsOf qs).take k)) 16).set na (.str (toStr a.b)), false, true⟩)] [(.sub 36 (.own 23))] (st_cell hBF.hw (by rw [secsV_len]; omega)) ?_
    refine ⟨by kernel_rfl, ?_⟩
    have hst : (settledI ks ((itemsOf qs).take k)).length = 16 * 64 := by rw [settledI_len (itemsOf_ok2 hgq hks), hks]
    have hnat : a.n.toNat = na := by omega
    have e1 : settledI ks ((itemsOf qs).take (k + 1)) = putI (settledI ks ((itemsOf qs).take k)) (na, a.b) := by
      rw [settledI_take (itemsOf_at hka), hnat]
    have e2 : (secsV (settledI ks ((itemsOf qs).take k)) 16).set na (.str (toStr a.b)) = secsV (settledI ks ((itemsOf qs).take (k + 1))) 16 := by
      rw [e1, secsV_put64 hst (by omega) hab]
    rw [e2]
    refine mk0 _ (bin_add (by omega) (by omega)) ?_
    exact ih (k + 1) (by omega) _ _ _ _ _ _ _ _ _ _ _ _ _ _ _ _ _ _ _ _ _ _ _ _ _ _ _ _ _ _ _ _ _ _ _ _ _ _ _ _ _ _ _ _ _ _ _ _ _ _ _ _ _ _ _ _ _ _ _ _ _ _ _ _ _ _ _ _ _ _ _ _ _ _ _ _ _ _ _ _ _ _ _ _ _ _ _ _ _ _ _ _ _ _ _ _ _ _ _ _ _ _ _ _ _ _ _ _ _ _ _ _ _ _ _ _ _ _ _ _ _ _ _ _ _ _ _ _ _ _ _ _ _ _ _ _ _ _ _ _ _ _ _ _ _ _ _ _ _ _ _ _ _ _ _ _ _ _ _ _ _ _ _ _ _ _ _ _ _ _ _ _ _ _ _ _ _ _ _ _ _ _ _ _ _ _ _ _ _ _ _ _ _ _ _ _ _ _ _ _ _ _ _ _ (hBF.put (by rw [e1, putI_len (by rw [hst]; simp only; omega), hst])) (by simp [Heap.sets, Heap.set]; exact hob)
end Go.Proofs.Ytcamcfplcoklkaa.Iv
