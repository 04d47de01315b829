import Derived.Test.YtaiegfeppgaedaaM5
namespace Go.Proofs.Ytaiegfeppgaedaa.Iv
open Go
/-! ### SHA-256: words -/
def add32 (a b : Int) : Int := IntKind.u32.wrap (a + b)
def xor32 (a b : Int) : Int := IntKind.u32.wrap ((BitVec.ofInt 32 a ^^^ BitVec.ofInt 32 b).toNat : Int)
def and32 (a b : Int) : Int := IntKind.u32.wrap ((BitVec.ofInt 32 a &&& BitVec.ofInt 32 b).toNat : Int)
def or32 (a b : Int) : Int := IntKind.u32.wrap ((BitVec.ofInt 32 a ||| BitVec.ofInt 32 b).toNat : Int)
def not32 (a : Int) : Int := IntKind.u32.wrap ((BitVec.ofInt 32 (if IntKind.u32.signed then -1 else IntKind.u32.max) ^^^ BitVec.ofInt 32 a).toNat : Int)
def shl32 (a : Int) (n : Nat) : Int := IntKind.u32.wrap (a * 2 ^ n)
def shr32 (a : Int) (n : Nat) : Int := a.fdiv (2 ^ n)
def cv32 (a : Int) : Int := IntKind.u32.wrap a
def rot32 (a : Int) (n : Nat) : Int := or32 (shl32 a n) (shr32 a (32 - n))
def T718 (x : Int) : Int := xor32 (xor32 0 (rot32 x 25)) (rot32 x 14)
def T1719 (x : Int) : Int := xor32 (xor32 0 (rot32 x 15)) (rot32 x 13)
def T61125 (x : Int) : Int := xor32 (xor32 (xor32 0 (rot32 x 26)) (rot32 x 21)) (rot32 x 7)
def T21322 (x : Int) : Int := xor32 (xor32 (xor32 0 (rot32 x 30)) (rot32 x 19)) (rot32 x 10)
noncomputable def scfg : Cfg := { P := Try.prog, pol := fun f => if f = 102 then ⟨false, [.keep, .lent], none, [], false⟩ else ⟨false, [], none, [], false⟩, good := [94, 102, 103, 104] }
def i64s (l : List Int) : List (List V) := l.map fun n => [.int .i64 n]
theorem t718 {x : Int} : (run scfg 40 102 [.int .u32 x, .list [[.int .i64 7], [.int .i64 18]] true] (fun _ => none)) = some (.int .u32 (T718 x), fun _ => none) := by kernel_rfl
theorem t1719 {x : Int} : (run scfg 40 102 [.int .u32 x, .list [[.int .i64 17], [.int .i64 19]] true] (fun _ => none)) = some (.int .u32 (T1719 x), fun _ => none) := by kernel_rfl
theorem t61125 {x : Int} : (run scfg 40 102 [.int .u32 x, .list [[.int .i64 6], [.int .i64 11], [.int .i64 25]] true] (fun _ => none)) = some (.int .u32 (T61125 x), fun _ => none) := by kernel_rfl
theorem t21322 {x : Int} : (run scfg 40 102 [.int .u32 x, .list [[.int .i64 2], [.int .i64 13], [.int .i64 22]] true] (fun _ => none)) = some (.int .u32 (T21322 x), fun _ => none) := by kernel_rfl
end Go.Proofs.Ytaiegfeppgaedaa.Iv

namespace Go.Proofs.Ytaiegfeppgaedaa.Iv
open Go
set_option linter.unusedVariables false
set_option linter.unusedSimpArgs false
set_option maxRecDepth 100000
theorem mkL {o : Option Out} {H : Heap} {lg : Log} {k : Nat} {Q : V → Heap → Log → Prop} (v : V) (us : List (Id × Blk)) (rd : List Id) (h : o = some ⟨v, us, rd⟩) (q : Q v (H.sets us) ((k, rd, us.map (·.1)) :: lg)) : stepL o H lg k Q := by subst h; exact q
theorem mkL0 {o : Option Out} {H : Heap} {lg : Log} {k : Nat} {Q : V → Heap → Log → Prop} (v : V) (rd : List Id) (h : o = some ⟨v, [], rd⟩) (q : Q v H ((k, rd, []) :: lg)) : stepL o H lg k Q := by subst h; exact q
theorem lssN {P : Program} {t : Nat} {k : IntKind} {a b : Nat} : liftO (evBin P t .lss (.int k (a : Int)) (.int k (b : Int))) = pureO (.bool (decide (a < b))) := by simp [evBin, evInt, liftO]
theorem addN {P : Program} {t : Nat} {a b : Nat} (h : a + b ≤ 1000000000) : liftO (evBin P t .add (.int .i64 (a : Int)) (.int .i64 (b : Int))) = pureO (.int .i64 ((a + b : Nat) : Int)) := by
  rw [bin_add (by omega) (by omega)]; simp
theorem subN {P : Program} {t : Nat} {a b : Nat} (h : a ≤ 1000000000) (h2 : b ≤ a) : liftO (evBin P t .sub (.int .i64 (a : Int)) (.int .i64 (b : Int))) = pureO (.int .i64 ((a - b : Nat) : Int)) := by
  rw [bin_sub (by omega) (by omega), Int.ofNat_sub h2]
theorem mulN {P : Program} {t : Nat} {a b : Nat} (h : a * b ≤ 1000000000) : liftO (evBin P t .mul (.int .i64 (a : Int)) (.int .i64 (b : Int))) = pureO (.int .i64 ((a * b : Nat) : Int)) := by
  have e : ((a : Int) * (b : Int)) = ((a * b : Nat) : Int) := by simp
  simp [evBin, evInt, liftO]
  rw [e, i64_wrap (by omega) (by omega)]
theorem b32_add {t : Nat} {a b : Int} : liftO (evBin Try.prog t .add (.int .u32 a) (.int .u32 b)) = pureO (.int .u32 (add32 a b)) := rfl
theorem b32_xor {t : Nat} {a b : Int} : liftO (evBin Try.prog t .xor (.int .u32 a) (.int .u32 b)) = pureO (.int .u32 (xor32 a b)) := rfl
theorem b32_and {t : Nat} {a b : Int} : liftO (evBin Try.prog t .and (.int .u32 a) (.int .u32 b)) = pureO (.int .u32 (and32 a b)) := rfl
theorem b32_or {t : Nat} {a b : Int} : liftO (evBin Try.prog t .or (.int .u32 a) (.int .u32 b)) = pureO (.int .u32 (or32 a b)) := rfl
theorem b32_not {a : Int} : liftO (evUn .xor (.int .u32 a)) = pureO (.int .u32 (not32 a)) := rfl
theorem b32_shl {t : Nat} {a : Int} (n : Nat) (h : Nat.ble n 31 = true) : liftO (evBin Try.prog t .shl (.int .u32 a) (.int .u64 (n : Int))) = pureO (.int .u32 (shl32 a n)) := by
  have h1 : ¬ ((n : Int) < 0) := by omega
  have h2 : min n 32 = n := by have := Nat.le_of_ble_eq_true h; omega
  show liftO (evShift .shl .u32 a (n : Int)) = _
  simp only [evShift, h1, if_false, Int.toNat_natCast, liftO]
  show pureO (V.int .u32 (IntKind.u32.wrap (a * 2 ^ (min n 32)))) = _
  rw [h2]; rfl
theorem b32_shr {t : Nat} {a : Int} (n : Nat) (h : Nat.ble n 31 = true) : liftO (evBin Try.prog t .shr (.int .u32 a) (.int .u64 (n : Int))) = pureO (.int .u32 (shr32 a n)) := by
  have h1 : ¬ ((n : Int) < 0) := by omega
  have h2 : min n 32 = n := by have := Nat.le_of_ble_eq_true h; omega
  show liftO (evShift .shr .u32 a (n : Int)) = _
  simp only [evShift, h1, if_false, Int.toNat_natCast, liftO]
  show pureO (V.int .u32 (a.fdiv (2 ^ (min n 32)))) = _
  rw [h2]; rfl
theorem cv8 {H : Heap} {a : Int} : evConvert Try.prog H 5 138 (.int .u8 a) = pureO (.int .u32 (cv32 a)) := by kernel_rfl
theorem ia22 {x i} : evIndexAddr Try.prog 22 x i = iaR 1 x i := by kernel_rfl
theorem ld5 {H x} : evLoad Try.prog H 5 x = ldR 1 false H x := by kernel_rfl
theorem ld138 {H x} : evLoad Try.prog H 138 x = ldR 1 false H x := by kernel_rfl
theorem st138 {H x y} : evStore Try.prog H 138 x y = stR 1 H x y := by kernel_rfl
theorem ia_sl {i : Id} {g o n j : Nat} {lim : Option Nat} (h : j < n) : iaR 1 (.sl i g o n 1 lim) (.int .i64 (j : Int)) = pureO (.ptr i g (o + j * 1)) := by
  simp [iaR, h]
def iaA (n sz : Nat) (x ix : V) : Option Out :=
  match ix with
  | .int _ i =>
    if 0 ≤ i then
      if i.toNat < n then match x with
        | .ptr b g o => pureO (.ptr b g (o + i.toNat * sz))
        | .fptr cs l => if i.toNat * sz ≤ cs.length then pureO (.fptr (cs.drop (i.toNat * sz)) l) else none
        | _ => none
      else none
    else none
  | _ => none
theorem ia155 {x i} : evIndexAddr Try.prog 155 x i = iaA 64 1 x i := by kernel_rfl
theorem ia143 {x i} : evIndexAddr Try.prog 143 x i = iaA 8 1 x i := by kernel_rfl
theorem ia_arr {n : Nat} {b : Id} {g o j : Nat} (h : j < n) : iaA n 1 (.ptr b g o) (.int .i64 (j : Int)) = pureO (.ptr b g (o + j * 1)) := by
  simp [iaA, h]
theorem ld_at {H : Heap} {i : Id} {g o j : Nat} {cs : List V} {fz fl : Bool} {v : V} (h : H i = some ⟨g, cs, fz, fl⟩) (hv : cs[o + j]? = some v) : ldR 1 false H (.ptr i g (o + j * 1)) = some ⟨v, [], [i]⟩ := by
  have l1 : live H i g = some ⟨g, cs, fz, fl⟩ := by simp [live, h]
  have c : cut cs (o + j * 1) 1 = some [v] := by
    obtain ⟨h1, h2⟩ := List.getElem?_eq_some_iff.1 hv
    unfold cut
    rw [Nat.mul_one, List.drop_eq_getElem_cons h1, h2]
    simp
  unfold ldR
  simp only [l1, c, mkv]
theorem ld_any {H : Heap} {i : Id} {g o : Nat} {cs : List V} {fz fl : Bool} {v : V} (h : H i = some ⟨g, cs, fz, fl⟩) (hv : cs[o]? = some v) : ldR 1 false H (.ptr i g o) = some ⟨v, [], [i]⟩ := by
  have := ld_at (o := o) (j := 0) h hv; simpa using this
def u32 (n : Int) : V := .int .u32 n
theorem st_any {H : Heap} {i : Id} {g o : Nat} {cs : List V} {fl : Bool} {n : Int} (h : H i = some ⟨g, cs, false, fl⟩) (hl : o < cs.length) : stR 1 H (.ptr i g o) (.int .u32 n) = some ⟨.und, [(i, ⟨g, cs.set o (.int .u32 n), false, fl⟩)], [i]⟩ := by
  have l1 : live H i g = some ⟨g, cs, false, fl⟩ := by simp [live, h]
  have e : splice cs o [V.int .u32 n] = cs.set o (.int .u32 n) := by
    unfold splice
    rw [List.set_eq_take_append_cons_drop, if_pos hl]; simp
  unfold stR
  simp only [l1]
  have hf : ([V.int .u32 n].all (fits fl)) = true := by cases fl <;> rfl
  rw [if_pos]
  · simp only [V.cells, e]
  · first | exact ⟨rfl, rfl, by omega, hf⟩ | exact ⟨trivial, rfl, by omega, hf⟩
/-- the first loop's words -/
def ld4 (b : Nat → Int) (i : Nat) : Int := or32 (or32 (or32 (shl32 (cv32 (b (i * 4))) 24) (shl32 (cv32 (b (i * 4 + 1))) 16)) (shl32 (cv32 (b (i * 4 + 2))) 8)) (cv32 (b (i * 4 + 3)))
def gw (W : List Int) (i : Nat) : Int := W.getD i 0
def nxW (W : List Int) (i : Nat) : Int := add32 (add32 (add32 (gw W (i - 16)) (gw W (i - 7))) (xor32 (T718 (gw W (i - 15))) (shr32 (gw W (i - 15)) 3))) (xor32 (T1719 (gw W (i - 2))) (shr32 (gw W (i - 2)) 10))
def stW (b : Nat → Int) (i : Nat) (W : List Int) : List Int := W.set i (if i < 16 then ld4 b i else nxW W i)
def goW (b : Nat → Int) : Nat → Nat → List Int → List Int
  | 0, _, W => W
  | k + 1, i, W => goW b k (i + 1) (stW b i W)
structure L1 (H0 H : Heap) (W : List Int) : Prop where
  w : H (.own 4) = some ⟨0, W.map u32, false, true⟩
  n : W.length = 64
  a : ∀ j, H (.arg j) = H0 (.arg j)
  s : H (.own 6) = H0 (.own 6)
theorem L1.get {H0 H : Heap} {W : List Int} (h : L1 H0 H W) {j : Nat} (hj : j < 64) : (W.map u32)[0 + j]? = some (.int .u32 (gw W j)) := by
  have : j < W.length := by rw [h.n]; exact hj
  simp [gw, this, u32]
theorem L1.ld {H0 H : Heap} {W : List Int} (h : L1 H0 H W) {j : Nat} (hj : j < 64) : ldR 1 false H (.ptr (.own 4) 0 (0 + j * 1)) = some ⟨.int .u32 (gw W j), [], [.own 4]⟩ := ld_at h.w (h.get hj)
theorem hs_oth {H : Heap} {i j : Id} {b : Blk} (h : j ≠ i) : (H.sets [(i, b)]) j = H j := by show (H.set i b) j = _; simp [Heap.set, h]
theorem hs_self {H : Heap} {i : Id} {b : Blk} : (H.sets [(i, b)]) i = some b := by show (H.set i b) i = _; simp [Heap.set]
theorem L1.oth {H0 H : Heap} {W : List Int} (h : L1 H0 H W) {d : Nat} {b : Blk} (h4 : d ≠ 4) (h6 : d ≠ 6) : L1 H0 (H.sets [(.own d, b)]) W :=
  ⟨by rw [hs_oth (by intro e; cases e; exact h4 rfl)]; exact h.w, h.n, fun j => by rw [hs_oth (by intro e; cases e)]; exact h.a j, by rw [hs_oth (by intro e; cases e; exact h6 rfl)]; exact h.s⟩
theorem L1.st {H0 H : Heap} {W : List Int} (h : L1 H0 H W) {j : Nat} {n : Int} : L1 H0 (H.sets [(.own 4, ⟨0, (W.map u32).set j (.int .u32 n), false, true⟩)]) (W.set j n) :=
  ⟨by rw [hs_self, List.map_set]; rfl, by simp [h.n], fun j => by rw [hs_oth (by intro e; cases e)]; exact h.a j, by rw [hs_oth (by intro e; cases e)]; exact h.s⟩
theorem turns_pre {H : Heap} {d g n : Nat} {x : Int} {cs : List V} (h : H (.own d) = some ⟨g, cs, false, true⟩) (hn : cs.length = n * 1) : callPre scfg.pol H 102 [.int .u32 x, .sl (.own d) g 0 n 1 (some n)] = some ⟨[.int .u32 x, .list (chunk 1 n cs) true], fun _ => none, [], [], [.own d]⟩ := by
  have e : (scfg.pol 102).modes = [.keep, .lent] := by kernel_rfl
  have l1 : live H (.own d) g = some ⟨g, cs, false, true⟩ := by simp [live, h]
  have c : cut cs 0 n = some cs := by rw [Nat.mul_one] at hn; simp [cut, hn, List.take_of_length_le (Nat.le_of_eq hn)]
  have k : argsIn H [.keep, .lent] [.int .u32 x, .sl (.own d) g 0 n 1 (some n)] = some ([.int .u32 x, .list (chunk 1 n cs) true], [], [.own d]) := by
    simp only [argsIn, argIn, keepV, keep1, List.headD, lent1, List.tail, Nat.mul_one, l1, c]
    simp
  unfold callPre
  rw [e, k]
  rfl
theorem turns_call {H : Heap} {d D g n : Nat} {x r : Int} {cs : List V} {Q : Out → Prop} (h : H (.own d) = some ⟨g, cs, false, true⟩) (hn : cs.length = n * 1) (hr : run scfg 40 102 [.int .u32 x, .list (chunk 1 n cs) true] (fun _ => none) = some (.int .u32 r, fun _ => none)) (q : Q ⟨.int .u32 r, [], [.own d]⟩) : wCall scfg.pol (CallR scfg) H D 102 [.int .u32 x, .sl (.own d) g 0 n 1 (some n)] Q := by
  unfold wCall
  rw [turns_pre h hn]
  refine ⟨40, _, _, hr, ?_⟩
  have e : callPost scfg.pol H D 102 ⟨[.int .u32 x, .list (chunk 1 n cs) true], fun _ => none, [], [], [.own d]⟩ (.int .u32 r) (fun _ => none) = some ⟨.int .u32 r, [], [.own d]⟩ := by kernel_rfl
  show outW (callPost scfg.pol H D 102 ⟨[.int .u32 x, .list (chunk 1 n cs) true], fun _ => none, [], [], [.own d]⟩ (.int .u32 r) (fun _ => none)) Q
  rw [e]; exact q
theorem turns_callL {H : Heap} {lg : Log} {k d D g n : Nat} {x r : Int} {cs : List V} {Q : V → Heap → Log → Prop} (h : H (.own d) = some ⟨g, cs, false, true⟩) (hn : cs.length = n * 1) (hr : run scfg 40 102 [.int .u32 x, .list (chunk 1 n cs) true] (fun _ => none) = some (.int .u32 r, fun _ => none)) (q : Q (.int .u32 r) H ((k, [.own d], []) :: lg)) : callL scfg.pol (CallR scfg) H lg k D 102 [.int .u32 x, .sl (.own d) g 0 n 1 (some n)] Q := turns_call h hn hr q
theorem bs2 {H : Heap} {d : Nat} {a b : Int} : evBuildSlice Try.prog H d 68 2 [(0, .int .i64 a), (1, .int .i64 b)] = some ⟨.sl (.own d) (nextGen H (.own d)) 0 2 1 (some 2), [(.own d, ⟨nextGen H (.own d), [.int .i64 a, .int .i64 b], false, true⟩)], [.own d]⟩ := by kernel_rfl
theorem bs3 {H : Heap} {d : Nat} {a b c : Int} : evBuildSlice Try.prog H d 68 3 [(0, .int .i64 a), (1, .int .i64 b), (2, .int .i64 c)] = some ⟨.sl (.own d) (nextGen H (.own d)) 0 3 1 (some 3), [(.own d, ⟨nextGen H (.own d), [.int .i64 a, .int .i64 b, .int .i64 c], false, true⟩)], [.own d]⟩ := by kernel_rfl

set_option maxHeartbeats 2000000 in
theorem loop1 {H0 : Heap} {b : Nat → Int} {o : Nat} {lim : Option Nat} {a0 : V} {cs : List V} {fz fl : Bool} (h1 : H0 (.arg 1) = some ⟨0, cs, fz, fl⟩) (hb : ∀ k, k < 64 → cs[o + k]? = some (.int .u8 (b k))) {Q : KQ} :
    ∀ (k i : Nat), i + k = 64 → ∀ (W : List Int) (H : Heap), L1 H0 H W → (∀ H' t2 t3 t5 t6 t7 t8 t9 t10 t11 t12 t13 t15 t16 t17 t18 t19 t20 t21 t22 t23 t24 t25 t26 t27 t28 t29 t30 t31 t32 t33 t34 t35 t36 t37 t38 t39 t40 t41 t42 t43 t44 t45 t46 t47 t48 t49 t50 t51 t52 t53 t54 t55 t56 t57 t58 t59 t60 t61 t62 t63 t64 t65 t66 t67 t68 t69 t70 t71 t72 t73 t74 t75 t76 t77 t78 t79 t80 t81 t82 t83 t84 t85 t86 t87 t88 t89 t90 t91 t92 t93 t94 t95 t96 t97 t98 t99 t100 t101 t102 t103 t104 t105 t106 t107 t108 t109 t110 t111 t112 t113 t114 t115 t116 t117 t118 t119 t120 t121 t122 t123 t124 t125 t126 t127 t128 t129 t130 t131 t132 t133 t134 t135 t136 t137 t138 t139 t140 t141 t142 t143 t144 t145 t146 t147 t148 t149 t150 t151 t152 t153 t154 t155 t156 t157 t158 t159 t160 t161 t162 t163 t164 t165 t166 t167 t168 t169 t170 t171 t172 t173 t174 t175 t176 t177 t178 t179, L1 H0 H' (goW b k i W) → Q (.exit 0) [a0, .sl (.arg 1) 0 o 64 1 lim, t2, t3, .ptr (.own 4) 0 0, t5, t6, t7, t8, t9, t10, t11, t12, t13, .int .i64 ((64 : Nat) : Int), t15, t16, t17, t18, t19, t20, t21, t22, t23, t24, t25, t26, t27, t28, t29, t30, t31, t32, t33, t34, t35, t36, t37, t38, t39, t40, t41, t42, t43, t44, t45, t46, t47, t48, t49, t50, t51, t52, t53, t54, t55, t56, t57, t58, t59, t60, t61, t62, t63, t64, t65, t66, t67, t68, t69, t70, t71, t72, t73, t74, t75, t76, t77, t78, t79, t80, t81, t82, t83, t84, t85, t86, t87, t88, t89, t90, t91, t92, t93, t94, t95, t96, t97, t98, t99, t100, t101, t102, t103, t104, t105, t106, t107, t108, t109, t110, t111, t112, t113, t114, t115, t116, t117, t118, t119, t120, t121, t122, t123, t124, t125, t126, t127, t128, t129, t130, t131, t132, t133, t134, t135, t136, t137, t138, t139, t140, t141, t142, t143, t144, t145, t146, t147, t148, t149, t150, t151, t152, t153, t154, t155, t156, t157, t158, t159, t160, t161, t162, t163, t164, t165, t166, t167, t168, t169, t170, t171, t172, t173, t174, t175, t176, t177, t178, t179] H') → ∀ t2 t3 t5 t6 t7 t8 t9 t10 t11 t12 t13 t15 t16 t17 t18 t19 t20 t21 t22 t23 t24 t25 t26 t27 t28 t29 t30 t31 t32 t33 t34 t35 t36 t37 t38 t39 t40 t41 t42 t43 t44 t45 t46 t47 t48 t49 t50 t51 t52 t53 t54 t55 t56 t57 t58 t59 t60 t61 t62 t63 t64 t65 t66 t67 t68 t69 t70 t71 t72 t73 t74 t75 t76 t77 t78 t79 t80 t81 t82 t83 t84 t85 t86 t87 t88 t89 t90 t91 t92 t93 t94 t95 t96 t97 t98 t99 t100 t101 t102 t103 t104 t105 t106 t107 t108 t109 t110 t111 t112 t113 t114 t115 t116 t117 t118 t119 t120 t121 t122 t123 t124 t125 t126 t127 t128 t129 t130 t131 t132 t133 t134 t135 t136 t137 t138 t139 t140 t141 t142 t143 t144 t145 t146 t147 t148 t149 t150 t151 t152 t153 t154 t155 t156 t157 t158 t159 t160 t161 t162 t163 t164 t165 t166 t167 t168 t169 t170 t171 t172 t173 t174 t175 t176 t177 t178 t179,
      LoopR scfg c94_7 [a0, .sl (.arg 1) 0 o 64 1 lim, t2, t3, .ptr (.own 4) 0 0, t5, t6, t7, t8, t9, t10, t11, t12, t13, .int .i64 ((i : Nat) : Int), t15, t16, t17, t18, t19, t20, t21, t22, t23, t24, t25, t26, t27, t28, t29, t30, t31, t32, t33, t34, t35, t36, t37, t38, t39, t40, t41, t42, t43, t44, t45, t46, t47, t48, t49, t50, t51, t52, t53, t54, t55, t56, t57, t58, t59, t60, t61, t62, t63, t64, t65, t66, t67, t68, t69, t70, t71, t72, t73, t74, t75, t76, t77, t78, t79, t80, t81, t82, t83, t84, t85, t86, t87, t88, t89, t90, t91, t92, t93, t94, t95, t96, t97, t98, t99, t100, t101, t102, t103, t104, t105, t106, t107, t108, t109, t110, t111, t112, t113, t114, t115, t116, t117, t118, t119, t120, t121, t122, t123, t124, t125, t126, t127, t128, t129, t130, t131, t132, t133, t134, t135, t136, t137, t138, t139, t140, t141, t142, t143, t144, t145, t146, t147, t148, t149, t150, t151, t152, t153, t154, t155, t156, t157, t158, t159, t160, t161, t162, t163, t164, t165, t166, t167, t168, t169, t170, t171, t172, t173, t174, t175, t176, t177, t178, t179] H Q := by
  intro k
  induction k with
  | zero =>
    intro i hi W H hL hq t2 t3 t5 t6 t7 t8 t9 t10 t11 t12 t13 t15 t16 t17 t18 t19 t20 t21 t22 t23 t24 t25 t26 t27 t28 t29 t30 t31 t32 t33 t34 t35 t36 t37 t38 t39 t40 t41 t42 t43 t44 t45 t46 t47 t48 t49 t50 t51 t52 t53 t54 t55 t56 t57 t58 t59 t60 t61 t62 t63 t64 t65 t66 t67 t68 t69 t70 t71 t72 t73 t74 t75 t76 t77 t78 t79 t80 t81 t82 t83 t84 t85 t86 t87 t88 t89 t90 t91 t92 t93 t94 t95 t96 t97 t98 t99 t100 t101 t102 t103 t104 t105 t106 t107 t108 t109 t110 t111 t112 t113 t114 t115 t116 t117 t118 t119 t120 t121 t122 t123 t124 t125 t126 t127 t128 t129 t130 t131 t132 t133 t134 t135 t136 t137 t138 t139 t140 t141 t142 t143 t144 t145 t146 t147 t148 t149 t150 t151 t152 t153 t154 t155 t156 t157 t158 t159 t160 t161 t162 t163 t164 t165 t166 t167 t168 t169 t170 t171 t172 t173 t174 t175 t176 t177 t178 t179
    refine LoopR.step ?_
    show wC Try.prog scfg.pol (CallR scfg) (LoopR scfg) c94_7 _ H _
    have hi : i = 64 := by omega
    subst hi
    simp only [w94_7, w94_8, w94_8_0, w94_9, w94_10, w94_12, seqK]
    refine mk0 (.bool false) (lssN (a := 64) (b := 64)) ?_
    refine condF ?_
    exact hq H _ _ _ _ _ _ _ _ _ _ _ _ _ _ _ _ _ _ _ _ _ _ _ _ _ _ _ _ _ _ _ _ _ _ _ _ _ _ _ _ _ _ _ _ _ _ _ _ _ _ _ _ _ _ _ _ _ _ _ _ _ _ _ _ _ _ _ _ _ _ _ _ _ _ _ _ _ _ _ _ _ _ _ _ _ _ _ _ _ _ _ _ _ _ _ _ _ _ _ _ _ _ _ _ _ _ _ _ _ _ _ _ _ _ _ _ _ _ _ _ _ _ _ _ _ _ _ _ _ _ _ _ _ _ _ _ _ _ _ _ _ _ _ _ _ _ _ _ _ _ _ _ _ _ _ _ _ _ _ _ _ _ _ _ _ _ _ _ _ _ _ _ _ _ _ _ hL
  | succ k ih =>
    intro i hi W H hL hq t2 t3 t5 t6 t7 t8 t9 t10 t11 t12 t13 t15 t16 t17 t18 t19 t20 t21 t22 t23 t24 t25 t26 t27 t28 t29 t30 t31 t32 t33 t34 t35 t36 t37 t38 t39 t40 t41 t42 t43 t44 t45 t46 t47 t48 t49 t50 t51 t52 t53 t54 t55 t56 t57 t58 t59 t60 t61 t62 t63 t64 t65 t66 t67 t68 t69 t70 t71 t72 t73 t74 t75 t76 t77 t78 t79 t80 t81 t82 t83 t84 t85 t86 t87 t88 t89 t90 t91 t92 t93 t94 t95 t96 t97 t98 t99 t100 t101 t102 t103 t104 t105 t106 t107 t108 t109 t110 t111 t112 t113 t114 t115 t116 t117 t118 t119 t120 t121 t122 t123 t124 t125 t126 t127 t128 t129 t130 t131 t132 t133 t134 t135 t136 t137 t138 t139 t140 t141 t142 t143 t144 t145 t146 t147 t148 t149 t150 t151 t152 t153 t154 t155 t156 t157 t158 t159 t160 t161 t162 t163 t164 t165 t166 t167 t168 t169 t170 t171 t172 t173 t174 t175 t176 t177 t178 t179
    refine LoopR.step ?_
    show wC Try.prog scfg.pol (CallR scfg) (LoopR scfg) c94_7 _ H _
    have hi64 : i < 64 := by omega
    have hlt : decide (i < 64) = true := decide_eq_true hi64
    simp only [w94_7, w94_8, w94_8_0, w94_9, w94_10, w94_11, seqK]
    refine mk0 (.bool true) (by have := lssN (P := Try.prog) (t := 3) (k := .i64) (a := i) (b := 64); rw [hlt] at this; exact this) ?_
    refine condT ?_
    simp only [w94_13, w94_14, w94_15, w94_16, w94_16_0, w94_17, w94_18, w94_19, w94_19_0, w94_20, seqK, blockK]
    by_cases h16 : i < 16
    · refine mk0 (.bool true) (by have := lssN (P := Try.prog) (t := 3) (k := .i64) (a := i) (b := 16); rw [decide_eq_true h16] at this; exact this) ?_
      refine condT ?_
      simp only [w94_21, w94_22, w94_22_0c, w94_22_0, seqK, blockK, ia22, ld5]
      refine mkL0 _ [] rfl ?_
      refine mkL0 _ [] rfl ?_
      refine mkL0 _ [] rfl ?_
      refine mkL0 (.int .i64 ((4 * i : Nat) : Int)) [] (mulN (a := 4) (b := i) (by omega)) ?_
      refine mkL0 (.ptr (.arg 1) 0 (o + (4 * i) * 1)) [] (ia_sl (j := 4 * i) (by omega)) ?_
      refine mkL0 (.int .u8 (b (4 * i))) [.arg 1] (ld_at ((hL.a 1).trans h1) (hb (4 * i) (by omega))) ?_
      refine mkL0 _ [] cv8 ?_
      refine mkL0 _ [] (b32_shl 24 rfl) ?_
      refine mkL0 _ [] rfl ?_
      refine mkL0 _ [] rfl ?_
      refine mkL0 (.int .i64 ((4 * i : Nat) : Int)) [] (mulN (a := 4) (b := i) (by omega)) ?_
      refine mkL0 (.int .i64 ((4 * i + 1 : Nat) : Int)) [] (addN (a := 4 * i) (b := 1) (by omega)) ?_
      simp only [w94_22_12c, w94_22_12, ia22, ld5]
      refine mkL0 (.ptr (.arg 1) 0 (o + (4 * i + 1) * 1)) [] (ia_sl (j := 4 * i + 1) (by omega)) ?_
      refine mkL0 (.int .u8 (b (4 * i + 1))) [.arg 1] (ld_at ((hL.a 1).trans h1) (hb (4 * i + 1) (by omega))) ?_
      refine mkL0 _ [] cv8 ?_
      refine mkL0 _ [] (b32_shl 16 rfl) ?_
      refine mkL0 _ [] b32_or ?_
      refine mkL0 _ [] rfl ?_
      refine mkL0 _ [] rfl ?_
      refine mkL0 (.int .i64 ((4 * i : Nat) : Int)) [] (mulN (a := 4) (b := i) (by omega)) ?_
      refine mkL0 (.int .i64 ((4 * i + 2 : Nat) : Int)) [] (addN (a := 4 * i) (b := 2) (by omega)) ?_
      refine mkL0 (.ptr (.arg 1) 0 (o + (4 * i + 2) * 1)) [] (ia_sl (j := 4 * i + 2) (by omega)) ?_
      refine mkL0 (.int .u8 (b (4 * i + 2))) [.arg 1] (ld_at ((hL.a 1).trans h1) (hb (4 * i + 2) (by omega))) ?_
      refine mkL0 _ [] cv8 ?_
      simp only [w94_22_24, ia22, ld5, ia155, st138]
      refine mkL0 _ [] (b32_shl 8 rfl) ?_
      refine mkL0 _ [] b32_or ?_
      refine mkL0 _ [] rfl ?_
      refine mkL0 _ [] rfl ?_
      refine mkL0 (.int .i64 ((4 * i : Nat) : Int)) [] (mulN (a := 4) (b := i) (by omega)) ?_
      refine mkL0 (.int .i64 ((4 * i + 3 : Nat) : Int)) [] (addN (a := 4 * i) (b := 3) (by omega)) ?_
      refine mkL0 (.ptr (.arg 1) 0 (o + (4 * i + 3) * 1)) [] (ia_sl (j := 4 * i + 3) (by omega)) ?_
      refine mkL0 (.int .u8 (b (4 * i + 3))) [.arg 1] (ld_at ((hL.a 1).trans h1) (hb (4 * i + 3) (by omega))) ?_
      refine mkL0 _ [] cv8 ?_
      refine mkL0 _ [] b32_or ?_
      refine mkL0 (.ptr (.own 4) 0 (0 + i * 1)) [] (ia_arr (j := i) hi64) ?_
      refine mkL _ _ _ (st_any hL.w (by simp [hL.n]; omega)) ?_
      refine ⟨by kernel_rfl, ?_⟩
      simp only [w94_23, seqK, blockK, if_true, w94_26, w94_26_0]
      refine mk0 (.int .i64 ((i + 1 : Nat) : Int)) (addN (a := i) (b := 1) (by omega)) ?_
      refine ih (i + 1) (by omega) (stW b i W) _ ?_ hq _ _ _ _ _ _ _ _ _ _ _ _ _ _ _ _ _ _ _ _ _ _ _ _ _ _ _ _ _ _ _ _ _ _ _ _ _ _ _ _ _ _ _ _ _ _ _ _ _ _ _ _ _ _ _ _ _ _ _ _ _ _ _ _ _ _ _ _ _ _ _ _ _ _ _ _ _ _ _ _ _ _ _ _ _ _ _ _ _ _ _ _ _ _ _ _ _ _ _ _ _ _ _ _ _ _ _ _ _ _ _ _ _ _ _ _ _ _ _ _ _ _ _ _ _ _ _ _ _ _ _ _ _ _ _ _ _ _ _ _ _ _ _ _ _ _ _ _ _ _ _ _ _ _ _ _ _ _ _ _ _ _ _ _ _ _ _ _ _ _ _ _ _ _ _ _
      have e : stW b i W = W.set (0 + i * 1) (or32 (or32 (or32 (shl32 (cv32 (b (4 * i))) 24) (shl32 (cv32 (b (4 * i + 1))) 16)) (shl32 (cv32 (b (4 * i + 2))) 8)) (cv32 (b (4 * i + 3)))) := by simp only [stW, if_pos h16, ld4, Nat.mul_one, Nat.zero_add, Nat.mul_comm i 4]
      rw [e]; exact hL.st
    · refine mk0 (.bool false) (by have := lssN (P := Try.prog) (t := 3) (k := .i64) (a := i) (b := 16); rw [decide_eq_false h16] at this; exact this) ?_
      refine condF ?_
      simp only [w94_24, w94_25, w94_25_0c, w94_25_0, seqK, blockK, ia155, ld138]
      refine mkL0 _ [] rfl ?_
      refine mkL0 _ [] rfl ?_
      refine mkL0 (.int .i64 ((i - 16 : Nat) : Int)) [] (subN (a := i) (b := 16) (by omega) (by omega)) ?_
      refine mkL0 (.ptr (.own 4) 0 (0 + (i - 16) * 1)) [] (ia_arr (j := i - 16) (by omega)) ?_
      refine mkL0 (.int .u32 (gw W (i - 16))) [.own 4] (hL.ld (j := i - 16) (by omega)) ?_
      refine mkL0 _ [] rfl ?_
      refine mkL0 (.int .i64 ((i - 7 : Nat) : Int)) [] (subN (a := i) (b := 7) (by omega) (by omega)) ?_
      refine mkL0 (.ptr (.own 4) 0 (0 + (i - 7) * 1)) [] (ia_arr (j := i - 7) (by omega)) ?_
      refine mkL0 (.int .u32 (gw W (i - 7))) [.own 4] (hL.ld (j := i - 7) (by omega)) ?_
      refine mkL0 _ [] b32_add ?_
      refine mkL0 _ [] rfl ?_
      refine mkL0 (.int .i64 ((i - 15 : Nat) : Int)) [] (subN (a := i) (b := 15) (by omega) (by omega)) ?_
      simp only [w94_25_12c, w94_25_12, ia155, ld138]
      refine mkL0 (.ptr (.own 4) 0 (0 + (i - 15) * 1)) [] (ia_arr (j := i - 15) (by omega)) ?_
      refine mkL0 (.int .u32 (gw W (i - 15))) [.own 4] (hL.ld (j := i - 15) (by omega)) ?_
      refine mkL _ _ _ bs2 ?_
      have hL2 := hL.oth (d := 68) (b := ⟨nextGen H (.own 68), [.int .i64 7, .int .i64 18], false, true⟩) (by decide) (by decide)
      have hs := hs_self (H := H) (i := .own 68) (b := ⟨nextGen H (.own 68), [.int .i64 7, .int .i64 18], false, true⟩)
      generalize (H.sets [(.own 68, ⟨nextGen H (.own 68), [.int .i64 7, .int .i64 18], false, true⟩)]) = H2 at hL2 hs ⊢
      refine turns_callL hs rfl t718 ?_
      refine mkL0 _ [] rfl ?_
      refine mkL0 (.int .i64 ((i - 15 : Nat) : Int)) [] (subN (a := i) (b := 15) (by omega) (by omega)) ?_
      refine mkL0 (.ptr (.own 4) 0 (0 + (i - 15) * 1)) [] (ia_arr (j := i - 15) (by omega)) ?_
      refine mkL0 (.int .u32 (gw W (i - 15))) [.own 4] (hL2.ld (j := i - 15) (by omega)) ?_
      refine mkL0 _ [] (b32_shr 3 rfl) ?_
      refine mkL0 _ [] b32_xor ?_
      refine mkL0 _ [] b32_add ?_
      refine mkL0 _ [] rfl ?_
      simp only [w94_25_24c, w94_25_24, ia155, ld138]
      refine mkL0 (.int .i64 ((i - 2 : Nat) : Int)) [] (subN (a := i) (b := 2) (by omega) (by omega)) ?_
      refine mkL0 (.ptr (.own 4) 0 (0 + (i - 2) * 1)) [] (ia_arr (j := i - 2) (by omega)) ?_
      refine mkL0 (.int .u32 (gw W (i - 2))) [.own 4] (hL2.ld (j := i - 2) (by omega)) ?_
      refine mkL _ _ _ bs2 ?_
      have hL3 := hL2.oth (d := 81) (b := ⟨nextGen H2 (.own 81), [.int .i64 17, .int .i64 19], false, true⟩) (by decide) (by decide)
      have hs3 := hs_self (H := H2) (i := .own 81) (b := ⟨nextGen H2 (.own 81), [.int .i64 17, .int .i64 19], false, true⟩)
      generalize (H2.sets [(.own 81, ⟨nextGen H2 (.own 81), [.int .i64 17, .int .i64 19], false, true⟩)]) = H3 at hL3 hs3 ⊢
      refine turns_callL hs3 rfl t1719 ?_
      refine mkL0 _ [] rfl ?_
      refine mkL0 (.int .i64 ((i - 2 : Nat) : Int)) [] (subN (a := i) (b := 2) (by omega) (by omega)) ?_
      refine mkL0 (.ptr (.own 4) 0 (0 + (i - 2) * 1)) [] (ia_arr (j := i - 2) (by omega)) ?_
      refine mkL0 (.int .u32 (gw W (i - 2))) [.own 4] (hL3.ld (j := i - 2) (by omega)) ?_
      refine mkL0 _ [] (b32_shr 10 rfl) ?_
      refine mkL0 _ [] b32_xor ?_
      refine mkL0 _ [] b32_add ?_
      simp only [w94_25_36, ia155, st138]
      refine mkL0 (.ptr (.own 4) 0 (0 + i * 1)) [] (ia_arr (j := i) hi64) ?_
      refine mkL _ _ _ (st_any hL3.w (by simp [hL.n]; omega)) ?_
      refine ⟨by kernel_rfl, ?_⟩
      simp only [seqK, blockK, w94_26, w94_26_0]
      refine mk0 (.int .i64 ((i + 1 : Nat) : Int)) (addN (a := i) (b := 1) (by omega)) ?_
      refine ih (i + 1) (by omega) (stW b i W) _ ?_ hq _ _ _ _ _ _ _ _ _ _ _ _ _ _ _ _ _ _ _ _ _ _ _ _ _ _ _ _ _ _ _ _ _ _ _ _ _ _ _ _ _ _ _ _ _ _ _ _ _ _ _ _ _ _ _ _ _ _ _ _ _ _ _ _ _ _ _ _ _ _ _ _ _ _ _ _ _ _ _ _ _ _ _ _ _ _ _ _ _ _ _ _ _ _ _ _ _ _ _ _ _ _ _ _ _ _ _ _ _ _ _ _ _ _ _ _ _ _ _ _ _ _ _ _ _ _ _ _ _ _ _ _ _ _ _ _ _ _ _ _ _ _ _ _ _ _ _ _ _ _ _ _ _ _ _ _ _ _ _ _ _ _ _ _ _ _ _ _ _ _ _ _ _ _ _ _
      have e : stW b i W = W.set (0 + i * 1) (nxW W i) := by simp only [stW, if_neg h16, Nat.mul_one, Nat.zero_add]
      rw [e]; exact hL3.st
end Go.Proofs.Ytaiegfeppgaedaa.Iv

namespace Go.Proofs.Ytaiegfeppgaedaa.Iv
open Go
set_option linter.unusedVariables false
set_option linter.unusedSimpArgs false
set_option maxRecDepth 100000
structure Oct where
  a : Int
  b : Int
  c : Int
  d : Int
  e : Int
  f : Int
  g : Int
  h : Int
def Oct.cells (x : Oct) : List V := [.int .u32 x.a, .int .u32 x.b, .int .u32 x.c, .int .u32 x.d, .int .u32 x.e, .int .u32 x.f, .int .u32 x.g, .int .u32 x.h]
def tF (x : Oct) (k w : Int) : Int := add32 (add32 (add32 (add32 x.h (T61125 x.e)) (xor32 (and32 x.e x.f) (and32 (not32 x.e) x.g))) k) w
def uF (x : Oct) : Int := add32 (T21322 x.a) (xor32 (xor32 (and32 x.a x.b) (and32 x.a x.c)) (and32 x.b x.c))
def rnd (x : Oct) (k w : Int) : Oct := ⟨add32 (tF x k w) (uF x), x.a, x.b, x.c, add32 x.d (tF x k w), x.e, x.f, x.g⟩
def goX (ks W : List Int) : Nat → Nat → Oct → Oct
  | 0, _, x => x
  | n + 1, i, x => goX ks W n (i + 1) (rnd x (gw ks i) (gw W i))
structure L2 (H0 H : Heap) (W : List Int) (x : Oct) : Prop where
  w : H (.own 4) = some ⟨0, W.map u32, false, true⟩
  n : W.length = 64
  a : ∀ j, H (.arg j) = H0 (.arg j)
  x : H (.own 6) = some ⟨0, x.cells, false, true⟩
theorem L2.ldw {H0 H : Heap} {W : List Int} {x : Oct} (h : L2 H0 H W x) {j : Nat} (hj : j < 64) : ldR 1 false H (.ptr (.own 4) 0 (0 + j * 1)) = some ⟨.int .u32 (gw W j), [], [.own 4]⟩ := by
  refine ld_at h.w ?_
  have : j < W.length := by rw [h.n]; exact hj
  simp [gw, this, u32]
theorem L2.ld {H0 H : Heap} {W : List Int} {x : Oct} (h : L2 H0 H W x) (j : Nat) {v : Int} (hv : x.cells[0 + j]? = some (.int .u32 v)) : ldR 1 false H (.ptr (.own 6) 0 (0 + j * 1)) = some ⟨.int .u32 v, [], [.own 6]⟩ := ld_at h.x hv
theorem L2.oth {H0 H : Heap} {W : List Int} {x : Oct} (h : L2 H0 H W x) {d : Nat} {b : Blk} (h4 : d ≠ 4) (h6 : d ≠ 6) : L2 H0 (H.sets [(.own d, b)]) W x :=
  ⟨by rw [hs_oth (by intro e; cases e; exact h4 rfl)]; exact h.w, h.n, fun j => by rw [hs_oth (by intro e; cases e)]; exact h.a j, by rw [hs_oth (by intro e; cases e; exact h6 rfl)]; exact h.x⟩
theorem ix155 {cs : List V} {i : Nat} {v : Int} (h : i < 64) (hv : cs[i]? = some (.int .u32 v)) : liftO (evIndex Try.prog 155 (.agg cs) (.int .i64 (i : Int))) = pureO (.int .u32 v) := by
  have e : ∀ ix, evIndex Try.prog 155 (.agg cs) ix = (match ix with
    | .int _ i => if 0 ≤ i then if i.toNat < 64 then (match cut cs (i.toNat * 1) 1 with | some x => mkv false x | none => none) else none else none
    | _ => none) := fun ix => by kernel_rfl
  have c : cut cs (i * 1) 1 = some [V.int .u32 v] := by
    obtain ⟨h1, h2⟩ := List.getElem?_eq_some_iff.1 hv
    unfold cut
    rw [Nat.mul_one, List.drop_eq_getElem_cons h1, h2]
    simp
  rw [e]
  simp only [Int.toNat_natCast, h, if_true, c, mkv, Int.natCast_nonneg]
  rfl
theorem gw_at {ks : List Int} {i : Nat} (h : i < ks.length) : (ks.map u32)[i]? = some (.int .u32 (gw ks i)) := by simp [gw, h, u32]
theorem bld8 {a b c d e f g h : Int} : liftO (evBuild Try.prog 143 [(0, .int .u32 a), (1, .int .u32 b), (2, .int .u32 c), (3, .int .u32 d), (4, .int .u32 e), (5, .int .u32 f), (6, .int .u32 g), (7, .int .u32 h)]) = pureO (.agg [.int .u32 a, .int .u32 b, .int .u32 c, .int .u32 d, .int .u32 e, .int .u32 f, .int .u32 g, .int .u32 h]) := by kernel_rfl
theorem st143 {H x y} : evStore Try.prog H 143 x y = stR 8 H x y := by kernel_rfl
theorem st8 {H : Heap} {i : Id} {g : Nat} {x y : Oct} (h : H i = some ⟨g, x.cells, false, true⟩) : stR 8 H (.ptr i g 0) (.agg y.cells) = some ⟨.und, [(i, ⟨g, y.cells, false, true⟩)], [i]⟩ := by
  have l1 : live H i g = some ⟨g, x.cells, false, true⟩ := by simp [live, h]
  have hf : y.cells.all (fits true) = true := rfl
  have e : splice x.cells 0 y.cells = y.cells := rfl
  unfold stR
  simp only [l1]
  rw [if_pos]
  · simp only [V.cells, e]
  · first | exact ⟨rfl, rfl, Nat.le_refl 8, hf⟩ | exact ⟨trivial, rfl, Nat.le_refl 8, hf⟩
theorem L2.st {H0 H : Heap} {W : List Int} {x y : Oct} (h : L2 H0 H W x) : L2 H0 (H.sets [(.own 6, ⟨0, y.cells, false, true⟩)]) W y :=
  ⟨by rw [hs_oth (by intro e; cases e)]; exact h.w, h.n, fun j => by rw [hs_oth (by intro e; cases e)]; exact h.a j, by rw [hs_self]⟩
set_option maxHeartbeats 2000000 in
theorem loop2 {H0 : Heap} {a0 : V} {W ks : List Int} (hk : ks.length = 64) {Q : KQ} :
    ∀ (k i : Nat), i + k = 64 → ∀ (x : Oct) (H : Heap), L2 H0 H W x → (∀ H' t1 t2 t3 t5 t7 t8 t9 t10 t11 t12 t13 t14 t15 t16 t17 t18 t19 t20 t21 t22 t23 t24 t25 t26 t27 t28 t29 t30 t31 t32 t33 t34 t35 t36 t37 t38 t39 t40 t41 t42 t43 t44 t45 t46 t47 t48 t49 t50 t51 t52 t53 t54 t55 t56 t57 t58 t59 t60 t61 t62 t63 t64 t65 t66 t67 t68 t69 t70 t71 t72 t73 t74 t75 t76 t77 t78 t79 t80 t81 t82 t83 t84 t85 t86 t87 t88 t89 t90 t91 t92 t93 t94 t97 t98 t99 t100 t101 t102 t103 t104 t105 t106 t107 t108 t109 t110 t111 t112 t113 t114 t115 t116 t117 t118 t119 t120 t121 t122 t123 t124 t125 t126 t127 t128 t129 t130 t131 t132 t133 t134 t135 t136 t137 t138 t139 t140 t141 t142 t143 t144 t145 t146 t147 t148 t149 t150 t151 t152 t153 t154 t155 t156 t157 t158 t159 t160 t161 t162 t163 t164 t165 t166 t167 t168 t169 t170 t171 t172 t173 t174 t175 t176 t177 t178 t179, L2 H0 H' W (goX ks W k i x) → Q (.exit 2) [a0, t1, t2, t3, .ptr (.own 4) 0 0, t5, .ptr (.own 6) 0 0, t7, t8, t9, t10, t11, t12, t13, t14, t15, t16, t17, t18, t19, t20, t21, t22, t23, t24, t25, t26, t27, t28, t29, t30, t31, t32, t33, t34, t35, t36, t37, t38, t39, t40, t41, t42, t43, t44, t45, t46, t47, t48, t49, t50, t51, t52, t53, t54, t55, t56, t57, t58, t59, t60, t61, t62, t63, t64, t65, t66, t67, t68, t69, t70, t71, t72, t73, t74, t75, t76, t77, t78, t79, t80, t81, t82, t83, t84, t85, t86, t87, t88, t89, t90, t91, t92, t93, t94, .agg (ks.map u32), .int .i64 ((64 : Nat) : Int), t97, t98, t99, t100, t101, t102, t103, t104, t105, t106, t107, t108, t109, t110, t111, t112, t113, t114, t115, t116, t117, t118, t119, t120, t121, t122, t123, t124, t125, t126, t127, t128, t129, t130, t131, t132, t133, t134, t135, t136, t137, t138, t139, t140, t141, t142, t143, t144, t145, t146, t147, t148, t149, t150, t151, t152, t153, t154, t155, t156, t157, t158, t159, t160, t161, t162, t163, t164, t165, t166, t167, t168, t169, t170, t171, t172, t173, t174, t175, t176, t177, t178, t179] H') → ∀ t1 t2 t3 t5 t7 t8 t9 t10 t11 t12 t13 t14 t15 t16 t17 t18 t19 t20 t21 t22 t23 t24 t25 t26 t27 t28 t29 t30 t31 t32 t33 t34 t35 t36 t37 t38 t39 t40 t41 t42 t43 t44 t45 t46 t47 t48 t49 t50 t51 t52 t53 t54 t55 t56 t57 t58 t59 t60 t61 t62 t63 t64 t65 t66 t67 t68 t69 t70 t71 t72 t73 t74 t75 t76 t77 t78 t79 t80 t81 t82 t83 t84 t85 t86 t87 t88 t89 t90 t91 t92 t93 t94 t97 t98 t99 t100 t101 t102 t103 t104 t105 t106 t107 t108 t109 t110 t111 t112 t113 t114 t115 t116 t117 t118 t119 t120 t121 t122 t123 t124 t125 t126 t127 t128 t129 t130 t131 t132 t133 t134 t135 t136 t137 t138 t139 t140 t141 t142 t143 t144 t145 t146 t147 t148 t149 t150 t151 t152 t153 t154 t155 t156 t157 t158 t159 t160 t161 t162 t163 t164 t165 t166 t167 t168 t169 t170 t171 t172 t173 t174 t175 t176 t177 t178 t179,
      LoopR scfg c94_34 [a0, t1, t2, t3, .ptr (.own 4) 0 0, t5, .ptr (.own 6) 0 0, t7, t8, t9, t10, t11, t12, t13, t14, t15, t16, t17, t18, t19, t20, t21, t22, t23, t24, t25, t26, t27, t28, t29, t30, t31, t32, t33, t34, t35, t36, t37, t38, t39, t40, t41, t42, t43, t44, t45, t46, t47, t48, t49, t50, t51, t52, t53, t54, t55, t56, t57, t58, t59, t60, t61, t62, t63, t64, t65, t66, t67, t68, t69, t70, t71, t72, t73, t74, t75, t76, t77, t78, t79, t80, t81, t82, t83, t84, t85, t86, t87, t88, t89, t90, t91, t92, t93, t94, .agg (ks.map u32), .int .i64 ((i : Nat) : Int), t97, t98, t99, t100, t101, t102, t103, t104, t105, t106, t107, t108, t109, t110, t111, t112, t113, t114, t115, t116, t117, t118, t119, t120, t121, t122, t123, t124, t125, t126, t127, t128, t129, t130, t131, t132, t133, t134, t135, t136, t137, t138, t139, t140, t141, t142, t143, t144, t145, t146, t147, t148, t149, t150, t151, t152, t153, t154, t155, t156, t157, t158, t159, t160, t161, t162, t163, t164, t165, t166, t167, t168, t169, t170, t171, t172, t173, t174, t175, t176, t177, t178, t179] H Q := by
  intro k
  induction k with
  | zero =>
    intro i hi x H hL hq t1 t2 t3 t5 t7 t8 t9 t10 t11 t12 t13 t14 t15 t16 t17 t18 t19 t20 t21 t22 t23 t24 t25 t26 t27 t28 t29 t30 t31 t32 t33 t34 t35 t36 t37 t38 t39 t40 t41 t42 t43 t44 t45 t46 t47 t48 t49 t50 t51 t52 t53 t54 t55 t56 t57 t58 t59 t60 t61 t62 t63 t64 t65 t66 t67 t68 t69 t70 t71 t72 t73 t74 t75 t76 t77 t78 t79 t80 t81 t82 t83 t84 t85 t86 t87 t88 t89 t90 t91 t92 t93 t94 t97 t98 t99 t100 t101 t102 t103 t104 t105 t106 t107 t108 t109 t110 t111 t112 t113 t114 t115 t116 t117 t118 t119 t120 t121 t122 t123 t124 t125 t126 t127 t128 t129 t130 t131 t132 t133 t134 t135 t136 t137 t138 t139 t140 t141 t142 t143 t144 t145 t146 t147 t148 t149 t150 t151 t152 t153 t154 t155 t156 t157 t158 t159 t160 t161 t162 t163 t164 t165 t166 t167 t168 t169 t170 t171 t172 t173 t174 t175 t176 t177 t178 t179
    refine LoopR.step ?_
    show wC Try.prog scfg.pol (CallR scfg) (LoopR scfg) c94_34 _ H _
    have hi : i = 64 := by omega
    subst hi
    simp only [w94_34, w94_35, w94_35_0, w94_36, w94_37, w94_39, seqK]
    refine mk0 (.bool false) (lssN (a := 64) (b := 64)) ?_
    refine condF ?_
    exact hq H _ _ _ _ _ _ _ _ _ _ _ _ _ _ _ _ _ _ _ _ _ _ _ _ _ _ _ _ _ _ _ _ _ _ _ _ _ _ _ _ _ _ _ _ _ _ _ _ _ _ _ _ _ _ _ _ _ _ _ _ _ _ _ _ _ _ _ _ _ _ _ _ _ _ _ _ _ _ _ _ _ _ _ _ _ _ _ _ _ _ _ _ _ _ _ _ _ _ _ _ _ _ _ _ _ _ _ _ _ _ _ _ _ _ _ _ _ _ _ _ _ _ _ _ _ _ _ _ _ _ _ _ _ _ _ _ _ _ _ _ _ _ _ _ _ _ _ _ _ _ _ _ _ _ _ _ _ _ _ _ _ _ _ _ _ _ _ _ _ _ _ _ _ _ _ hL
  | succ k ih =>
    intro i hi x H hL hq t1 t2 t3 t5 t7 t8 t9 t10 t11 t12 t13 t14 t15 t16 t17 t18 t19 t20 t21 t22 t23 t24 t25 t26 t27 t28 t29 t30 t31 t32 t33 t34 t35 t36 t37 t38 t39 t40 t41 t42 t43 t44 t45 t46 t47 t48 t49 t50 t51 t52 t53 t54 t55 t56 t57 t58 t59 t60 t61 t62 t63 t64 t65 t66 t67 t68 t69 t70 t71 t72 t73 t74 t75 t76 t77 t78 t79 t80 t81 t82 t83 t84 t85 t86 t87 t88 t89 t90 t91 t92 t93 t94 t97 t98 t99 t100 t101 t102 t103 t104 t105 t106 t107 t108 t109 t110 t111 t112 t113 t114 t115 t116 t117 t118 t119 t120 t121 t122 t123 t124 t125 t126 t127 t128 t129 t130 t131 t132 t133 t134 t135 t136 t137 t138 t139 t140 t141 t142 t143 t144 t145 t146 t147 t148 t149 t150 t151 t152 t153 t154 t155 t156 t157 t158 t159 t160 t161 t162 t163 t164 t165 t166 t167 t168 t169 t170 t171 t172 t173 t174 t175 t176 t177 t178 t179
    refine LoopR.step ?_
    show wC Try.prog scfg.pol (CallR scfg) (LoopR scfg) c94_34 _ H _
    have hi64 : i < 64 := by omega
    have hlt : decide (i < 64) = true := decide_eq_true hi64
    simp only [w94_34, w94_35, w94_35_0, w94_36, w94_37, w94_38, seqK]
    refine mk0 (.bool true) (by have := lssN (P := Try.prog) (t := 3) (k := .i64) (a := i) (b := 64); rw [hlt] at this; exact this) ?_
    refine condT ?_
    simp only [w94_40, w94_41, w94_42, w94_43, w94_43_0, w94_44, w94_45, w94_45_0, seqK, blockK, ia143, ld138]
    refine mk0 (.int .u32 (gw ks i)) (ix155 hi64 (gw_at (by omega))) ?_
    refine mkL0 (.ptr (.own 6) 0 (0 + 0 * 1)) [] (ia_arr (j := 0) (by decide)) ?_
    refine mkL0 (.int .u32 x.a) [.own 6] (hL.ld 0 (v := x.a) rfl) ?_
    refine mkL0 (.ptr (.own 6) 0 (0 + 4 * 1)) [] (ia_arr (j := 4) (by decide)) ?_
    refine mkL0 (.int .u32 x.e) [.own 6] (hL.ld 4 (v := x.e) rfl) ?_
    refine mkL0 _ [] rfl ?_
    refine mkL0 _ [] rfl ?_
    refine ⟨by kernel_rfl, ?_⟩
    simp only [w94_46, w94_47, w94_47_0c, w94_47_0, seqK, ia143, ld138]
    refine mkL0 (.ptr (.own 6) 0 (0 + 7 * 1)) [] (ia_arr (j := 7) (by decide)) ?_
    refine mkL0 (.int .u32 x.h) [.own 6] (hL.ld 7 (v := x.h) rfl) ?_
    refine mkL0 _ [] rfl ?_
    refine mkL _ _ _ bs3 ?_
    have hL2 := hL.oth (d := 107) (b := ⟨nextGen H (.own 107), [.int .i64 6, .int .i64 11, .int .i64 25], false, true⟩) (by decide) (by decide)
    have hs2 := hs_self (H := H) (i := .own 107) (b := ⟨nextGen H (.own 107), [.int .i64 6, .int .i64 11, .int .i64 25], false, true⟩)
    generalize (H.sets [(.own 107, ⟨nextGen H (.own 107), [.int .i64 6, .int .i64 11, .int .i64 25], false, true⟩)]) = H2 at hL2 hs2 ⊢
    refine turns_callL hs2 rfl t61125 ?_
    refine mkL0 _ [] b32_add ?_
    refine mkL0 _ [] rfl ?_
    refine mkL0 (.ptr (.own 6) 0 (0 + 5 * 1)) [] (ia_arr (j := 5) (by decide)) ?_
    refine mkL0 (.int .u32 x.f) [.own 6] (hL2.ld 5 (v := x.f) rfl) ?_
    refine mkL0 _ [] b32_and ?_
    refine mkL0 _ [] rfl ?_
    refine mkL0 _ [] b32_not ?_
    simp only [w94_47_12, ia143, ia155, ld138]
    refine mkL0 (.ptr (.own 6) 0 (0 + 6 * 1)) [] (ia_arr (j := 6) (by decide)) ?_
    refine mkL0 (.int .u32 x.g) [.own 6] (hL2.ld 6 (v := x.g) rfl) ?_
    refine mkL0 _ [] b32_and ?_
    refine mkL0 _ [] b32_xor ?_
    refine mkL0 _ [] b32_add ?_
    refine mkL0 _ [] rfl ?_
    refine mkL0 _ [] b32_add ?_
    refine mkL0 _ [] rfl ?_
    refine mkL0 (.ptr (.own 4) 0 (0 + i * 1)) [] (ia_arr (j := i) hi64) ?_
    refine mkL0 (.int .u32 (gw W i)) [.own 4] (hL2.ldw hi64) ?_
    refine mkL0 _ [] b32_add ?_
    refine mkL0 _ [] rfl ?_
    refine ⟨by kernel_rfl, ?_⟩
    simp only [w94_48, w94_49, w94_49_0c, w94_49_0, seqK, ia143, ld138]
    refine mkL0 _ [] rfl ?_
    refine mkL _ _ _ bs3 ?_
    have hL3 := hL2.oth (d := 128) (b := ⟨nextGen H2 (.own 128), [.int .i64 2, .int .i64 13, .int .i64 22], false, true⟩) (by decide) (by decide)
    have hs3 := hs_self (H := H2) (i := .own 128) (b := ⟨nextGen H2 (.own 128), [.int .i64 2, .int .i64 13, .int .i64 22], false, true⟩)
    generalize (H2.sets [(.own 128, ⟨nextGen H2 (.own 128), [.int .i64 2, .int .i64 13, .int .i64 22], false, true⟩)]) = H3 at hL3 hs3 ⊢
    refine turns_callL hs3 rfl t21322 ?_
    refine mkL0 _ [] rfl ?_
    refine mkL0 (.ptr (.own 6) 0 (0 + 1 * 1)) [] (ia_arr (j := 1) (by decide)) ?_
    refine mkL0 (.int .u32 x.b) [.own 6] (hL3.ld 1 (v := x.b) rfl) ?_
    refine mkL0 _ [] b32_and ?_
    refine mkL0 _ [] rfl ?_
    refine mkL0 (.ptr (.own 6) 0 (0 + 2 * 1)) [] (ia_arr (j := 2) (by decide)) ?_
    refine mkL0 (.int .u32 x.c) [.own 6] (hL3.ld 2 (v := x.c) rfl) ?_
    refine mkL0 _ [] b32_and ?_
    refine mkL0 _ [] b32_xor ?_
    simp only [w94_49_12, ia143, ld138]
    refine mkL0 (.ptr (.own 6) 0 (0 + 1 * 1)) [] (ia_arr (j := 1) (by decide)) ?_
    refine mkL0 (.int .u32 x.b) [.own 6] (hL3.ld 1 (v := x.b) rfl) ?_
    refine mkL0 (.ptr (.own 6) 0 (0 + 2 * 1)) [] (ia_arr (j := 2) (by decide)) ?_
    refine mkL0 (.int .u32 x.c) [.own 6] (hL3.ld 2 (v := x.c) rfl) ?_
    refine mkL0 _ [] b32_and ?_
    refine mkL0 _ [] b32_xor ?_
    refine mkL0 _ [] b32_add ?_
    refine mkL0 _ [] rfl ?_
    refine ⟨by kernel_rfl, ?_⟩
    simp only [w94_50, w94_50_0c, w94_50_0, ia143, ld138]
    refine mk0 _ b32_add ?_
    refine mk0 (.ptr (.own 6) 0 (0 + 1 * 1)) (ia_arr (j := 1) (by decide)) ?_
    refine mk (.int .u32 x.b) [] [.own 6] (hL3.ld 1 (v := x.b) rfl) ?_
    refine mk0 (.ptr (.own 6) 0 (0 + 2 * 1)) (ia_arr (j := 2) (by decide)) ?_
    refine mk (.int .u32 x.c) [] [.own 6] (hL3.ld 2 (v := x.c) rfl) ?_
    refine mk0 (.ptr (.own 6) 0 (0 + 3 * 1)) (ia_arr (j := 3) (by decide)) ?_
    refine mk (.int .u32 x.d) [] [.own 6] (hL3.ld 3 (v := x.d) rfl) ?_
    refine mk0 _ b32_add ?_
    simp only [w94_50_12, ia143, ld138, st143]
    refine mk0 (.ptr (.own 6) 0 (0 + 5 * 1)) (ia_arr (j := 5) (by decide)) ?_
    refine mk (.int .u32 x.f) [] [.own 6] (hL3.ld 5 (v := x.f) rfl) ?_
    refine mk0 (.ptr (.own 6) 0 (0 + 6 * 1)) (ia_arr (j := 6) (by decide)) ?_
    refine mk (.int .u32 x.g) [] [.own 6] (hL3.ld 6 (v := x.g) rfl) ?_
    refine mk0 _ bld8 ?_
    refine mk _ _ _ (st8 (y := rnd x (gw ks i) (gw W i)) hL3.x) ?_
    simp only [seqK, blockK, w94_51, w94_51_0]
    refine mk0 (.int .i64 ((i + 1 : Nat) : Int)) (addN (a := i) (b := 1) (by omega)) ?_
    exact ih (i + 1) (by omega) (rnd x (gw ks i) (gw W i)) _ hL3.st hq _ _ _ _ _ _ _ _ _ _ _ _ _ _ _ _ _ _ _ _ _ _ _ _ _ _ _ _ _ _ _ _ _ _ _ _ _ _ _ _ _ _ _ _ _ _ _ _ _ _ _ _ _ _ _ _ _ _ _ _ _ _ _ _ _ _ _ _ _ _ _ _ _ _ _ _ _ _ _ _ _ _ _ _ _ _ _ _ _ _ _ _ _ _ _ _ _ _ _ _ _ _ _ _ _ _ _ _ _ _ _ _ _ _ _ _ _ _ _ _ _ _ _ _ _ _ _ _ _ _ _ _ _ _ _ _ _ _ _ _ _ _ _ _ _ _ _ _ _ _ _ _ _ _ _ _ _ _ _ _ _ _ _ _ _ _ _ _ _ _ _ _ _ _ _
end Go.Proofs.Ytaiegfeppgaedaa.Iv

namespace Go.Proofs.Ytaiegfeppgaedaa.Iv
open Go
set_option linter.unusedVariables false
set_option linter.unusedSimpArgs false
set_option maxRecDepth 100000
def goS (x : List Int) : Nat → Nat → List Int → List Int
  | 0, _, s => s
  | n + 1, i, s => goS x n (i + 1) (s.set i (add32 (gw s i) (gw x i)))
structure L3 (H0 H : Heap) (s x : List Int) (rest : List V) (fl : Bool) : Prop where
  h : H (.arg 0) = some ⟨0, s.map u32 ++ rest, false, fl⟩
  n : s.length = 8
  nx : x.length = 8
  x : H (.own 6) = some ⟨0, x.map u32, false, true⟩
  a : ∀ j, j ≠ 0 → H (.arg j) = H0 (.arg j)
theorem L3.ldx {H0 H : Heap} {s x : List Int} {rest : List V} {fl : Bool} (h : L3 H0 H s x rest fl) {j : Nat} (hj : j < 8) : ldR 1 false H (.ptr (.own 6) 0 (0 + j * 1)) = some ⟨.int .u32 (gw x j), [], [.own 6]⟩ := by
  refine ld_at h.x ?_
  have : j < x.length := by rw [h.nx]; exact hj
  simp [gw, this, u32]
theorem L3.lds {H0 H : Heap} {s x : List Int} {rest : List V} {fl : Bool} (h : L3 H0 H s x rest fl) {j : Nat} (hj : j < 8) : ldR 1 false H (.ptr (.arg 0) 0 (0 + j * 1)) = some ⟨.int .u32 (gw s j), [], [.arg 0]⟩ := by
  refine ld_at h.h ?_
  have : j < s.length := by rw [h.n]; exact hj
  rw [List.getElem?_append_left (by simp; omega)]
  simp [gw, this, u32]
theorem L3.st {H0 H : Heap} {s x : List Int} {rest : List V} {fl : Bool} (h : L3 H0 H s x rest fl) {j : Nat} (hj : j < 8) {n : Int} : L3 H0 (H.sets [(.arg 0, ⟨0, (s.map u32 ++ rest).set (0 + j * 1) (.int .u32 n), false, fl⟩)]) (s.set j n) x rest fl := by
  have e : (s.map u32 ++ rest).set (0 + j * 1) (.int .u32 n) = (s.set j n).map u32 ++ rest := by
    rw [Nat.zero_add, Nat.mul_one, List.set_append_left _ _ (by simp [h.n]; exact hj), List.map_set]; rfl
  exact ⟨by rw [hs_self, e], by simp [h.n], h.nx, by rw [hs_oth (by intro e; cases e)]; exact h.x, fun k hk => by rw [hs_oth (by intro e; cases e; exact hk rfl)]; exact h.a k hk⟩
theorem nil_ptr {i : Id} {g o : Nat} : nilO (.ptr i g o) = pureO (.ptr i g o) := rfl
set_option maxHeartbeats 2000000 in
theorem loop3 {H0 : Heap} {x : List Int} {rest : List V} {fl : Bool} {Q : KQ} :
    ∀ (k i : Nat), i + k = 8 → ∀ (s : List Int) (H : Heap), L3 H0 H s x rest fl → (∀ H' t1 t2 t3 t4 t5 t7 t8 t9 t10 t11 t12 t13 t14 t15 t16 t17 t18 t19 t20 t21 t22 t23 t24 t25 t26 t27 t28 t29 t30 t31 t32 t33 t34 t35 t36 t37 t38 t39 t40 t41 t42 t43 t44 t45 t46 t47 t48 t49 t50 t51 t52 t53 t54 t55 t56 t57 t58 t59 t60 t61 t62 t63 t64 t65 t66 t67 t68 t69 t70 t71 t72 t73 t74 t75 t76 t77 t78 t79 t80 t81 t82 t83 t84 t85 t86 t87 t88 t89 t90 t91 t92 t93 t94 t95 t96 t97 t98 t99 t100 t101 t102 t103 t104 t105 t106 t107 t108 t109 t110 t111 t112 t113 t114 t115 t116 t117 t118 t119 t120 t121 t122 t123 t124 t125 t126 t127 t128 t129 t130 t131 t132 t133 t134 t135 t136 t137 t138 t139 t140 t141 t142 t143 t144 t145 t146 t147 t148 t149 t150 t151 t152 t153 t154 t155 t156 t157 t158 t159 t160 t161 t162 t163 t164 t166 t167 t168 t169 t170 t171 t172 t173 t174 t175 t176 t177 t178 t179, L3 H0 H' (goS x k i s) x rest fl → Q (.exit 4) [.ptr (.arg 0) 0 0, t1, t2, t3, t4, t5, .ptr (.own 6) 0 0, t7, t8, t9, t10, t11, t12, t13, t14, t15, t16, t17, t18, t19, t20, t21, t22, t23, t24, t25, t26, t27, t28, t29, t30, t31, t32, t33, t34, t35, t36, t37, t38, t39, t40, t41, t42, t43, t44, t45, t46, t47, t48, t49, t50, t51, t52, t53, t54, t55, t56, t57, t58, t59, t60, t61, t62, t63, t64, t65, t66, t67, t68, t69, t70, t71, t72, t73, t74, t75, t76, t77, t78, t79, t80, t81, t82, t83, t84, t85, t86, t87, t88, t89, t90, t91, t92, t93, t94, t95, t96, t97, t98, t99, t100, t101, t102, t103, t104, t105, t106, t107, t108, t109, t110, t111, t112, t113, t114, t115, t116, t117, t118, t119, t120, t121, t122, t123, t124, t125, t126, t127, t128, t129, t130, t131, t132, t133, t134, t135, t136, t137, t138, t139, t140, t141, t142, t143, t144, t145, t146, t147, t148, t149, t150, t151, t152, t153, t154, t155, t156, t157, t158, t159, t160, t161, t162, t163, t164, .int .i64 ((8 : Nat) : Int), t166, t167, t168, t169, t170, t171, t172, t173, t174, t175, t176, t177, t178, t179] H') → ∀ t1 t2 t3 t4 t5 t7 t8 t9 t10 t11 t12 t13 t14 t15 t16 t17 t18 t19 t20 t21 t22 t23 t24 t25 t26 t27 t28 t29 t30 t31 t32 t33 t34 t35 t36 t37 t38 t39 t40 t41 t42 t43 t44 t45 t46 t47 t48 t49 t50 t51 t52 t53 t54 t55 t56 t57 t58 t59 t60 t61 t62 t63 t64 t65 t66 t67 t68 t69 t70 t71 t72 t73 t74 t75 t76 t77 t78 t79 t80 t81 t82 t83 t84 t85 t86 t87 t88 t89 t90 t91 t92 t93 t94 t95 t96 t97 t98 t99 t100 t101 t102 t103 t104 t105 t106 t107 t108 t109 t110 t111 t112 t113 t114 t115 t116 t117 t118 t119 t120 t121 t122 t123 t124 t125 t126 t127 t128 t129 t130 t131 t132 t133 t134 t135 t136 t137 t138 t139 t140 t141 t142 t143 t144 t145 t146 t147 t148 t149 t150 t151 t152 t153 t154 t155 t156 t157 t158 t159 t160 t161 t162 t163 t164 t166 t167 t168 t169 t170 t171 t172 t173 t174 t175 t176 t177 t178 t179,
      LoopR scfg c94_56 [.ptr (.arg 0) 0 0, t1, t2, t3, t4, t5, .ptr (.own 6) 0 0, t7, t8, t9, t10, t11, t12, t13, t14, t15, t16, t17, t18, t19, t20, t21, t22, t23, t24, t25, t26, t27, t28, t29, t30, t31, t32, t33, t34, t35, t36, t37, t38, t39, t40, t41, t42, t43, t44, t45, t46, t47, t48, t49, t50, t51, t52, t53, t54, t55, t56, t57, t58, t59, t60, t61, t62, t63, t64, t65, t66, t67, t68, t69, t70, t71, t72, t73, t74, t75, t76, t77, t78, t79, t80, t81, t82, t83, t84, t85, t86, t87, t88, t89, t90, t91, t92, t93, t94, t95, t96, t97, t98, t99, t100, t101, t102, t103, t104, t105, t106, t107, t108, t109, t110, t111, t112, t113, t114, t115, t116, t117, t118, t119, t120, t121, t122, t123, t124, t125, t126, t127, t128, t129, t130, t131, t132, t133, t134, t135, t136, t137, t138, t139, t140, t141, t142, t143, t144, t145, t146, t147, t148, t149, t150, t151, t152, t153, t154, t155, t156, t157, t158, t159, t160, t161, t162, t163, t164, .int .i64 ((i : Nat) : Int), t166, t167, t168, t169, t170, t171, t172, t173, t174, t175, t176, t177, t178, t179] H Q := by
  intro k
  induction k with
  | zero =>
    intro i hi s H hL hq t1 t2 t3 t4 t5 t7 t8 t9 t10 t11 t12 t13 t14 t15 t16 t17 t18 t19 t20 t21 t22 t23 t24 t25 t26 t27 t28 t29 t30 t31 t32 t33 t34 t35 t36 t37 t38 t39 t40 t41 t42 t43 t44 t45 t46 t47 t48 t49 t50 t51 t52 t53 t54 t55 t56 t57 t58 t59 t60 t61 t62 t63 t64 t65 t66 t67 t68 t69 t70 t71 t72 t73 t74 t75 t76 t77 t78 t79 t80 t81 t82 t83 t84 t85 t86 t87 t88 t89 t90 t91 t92 t93 t94 t95 t96 t97 t98 t99 t100 t101 t102 t103 t104 t105 t106 t107 t108 t109 t110 t111 t112 t113 t114 t115 t116 t117 t118 t119 t120 t121 t122 t123 t124 t125 t126 t127 t128 t129 t130 t131 t132 t133 t134 t135 t136 t137 t138 t139 t140 t141 t142 t143 t144 t145 t146 t147 t148 t149 t150 t151 t152 t153 t154 t155 t156 t157 t158 t159 t160 t161 t162 t163 t164 t166 t167 t168 t169 t170 t171 t172 t173 t174 t175 t176 t177 t178 t179
    refine LoopR.step ?_
    show wC Try.prog scfg.pol (CallR scfg) (LoopR scfg) c94_56 _ H _
    have hi : i = 8 := by omega
    subst hi
    simp only [w94_56, w94_57, w94_57_0, w94_58, w94_59, w94_61, seqK]
    refine mk0 (.bool false) (lssN (a := 8) (b := 8)) ?_
    refine condF ?_
    exact hq H _ _ _ _ _ _ _ _ _ _ _ _ _ _ _ _ _ _ _ _ _ _ _ _ _ _ _ _ _ _ _ _ _ _ _ _ _ _ _ _ _ _ _ _ _ _ _ _ _ _ _ _ _ _ _ _ _ _ _ _ _ _ _ _ _ _ _ _ _ _ _ _ _ _ _ _ _ _ _ _ _ _ _ _ _ _ _ _ _ _ _ _ _ _ _ _ _ _ _ _ _ _ _ _ _ _ _ _ _ _ _ _ _ _ _ _ _ _ _ _ _ _ _ _ _ _ _ _ _ _ _ _ _ _ _ _ _ _ _ _ _ _ _ _ _ _ _ _ _ _ _ _ _ _ _ _ _ _ _ _ _ _ _ _ _ _ _ _ _ _ _ _ _ _ _ _ _ hL
  | succ k ih =>
    intro i hi s H hL hq t1 t2 t3 t4 t5 t7 t8 t9 t10 t11 t12 t13 t14 t15 t16 t17 t18 t19 t20 t21 t22 t23 t24 t25 t26 t27 t28 t29 t30 t31 t32 t33 t34 t35 t36 t37 t38 t39 t40 t41 t42 t43 t44 t45 t46 t47 t48 t49 t50 t51 t52 t53 t54 t55 t56 t57 t58 t59 t60 t61 t62 t63 t64 t65 t66 t67 t68 t69 t70 t71 t72 t73 t74 t75 t76 t77 t78 t79 t80 t81 t82 t83 t84 t85 t86 t87 t88 t89 t90 t91 t92 t93 t94 t95 t96 t97 t98 t99 t100 t101 t102 t103 t104 t105 t106 t107 t108 t109 t110 t111 t112 t113 t114 t115 t116 t117 t118 t119 t120 t121 t122 t123 t124 t125 t126 t127 t128 t129 t130 t131 t132 t133 t134 t135 t136 t137 t138 t139 t140 t141 t142 t143 t144 t145 t146 t147 t148 t149 t150 t151 t152 t153 t154 t155 t156 t157 t158 t159 t160 t161 t162 t163 t164 t166 t167 t168 t169 t170 t171 t172 t173 t174 t175 t176 t177 t178 t179
    refine LoopR.step ?_
    show wC Try.prog scfg.pol (CallR scfg) (LoopR scfg) c94_56 _ H _
    have hi8 : i < 8 := by omega
    have hlt : decide (i < 8) = true := decide_eq_true hi8
    simp only [w94_56, w94_57, w94_57_0, w94_58, w94_59, w94_60, seqK]
    refine mk0 (.bool true) (by have := lssN (P := Try.prog) (t := 3) (k := .i64) (a := i) (b := 8); rw [hlt] at this; exact this) ?_
    refine condT ?_
    simp only [w94_62, w94_63, w94_64, w94_65, w94_65_0, w94_66, w94_66_0, seqK, blockK, ia143, ld138, st138]
    refine mkL0 _ [] rfl ?_
    refine mkL0 _ [] rfl ?_
    refine mkL0 _ [] nil_ptr ?_
    refine mkL0 (.ptr (.arg 0) 0 (0 + i * 1)) [] (ia_arr (j := i) hi8) ?_
    refine mkL0 (.int .u32 (gw s i)) [.arg 0] (hL.lds hi8) ?_
    refine mkL0 _ [] rfl ?_
    refine mkL0 (.ptr (.own 6) 0 (0 + i * 1)) [] (ia_arr (j := i) hi8) ?_
    refine mkL0 (.int .u32 (gw x i)) [.own 6] (hL.ldx hi8) ?_
    refine mkL0 _ [] b32_add ?_
    refine mkL0 _ [] nil_ptr ?_
    refine mkL0 (.ptr (.arg 0) 0 (0 + i * 1)) [] (ia_arr (j := i) hi8) ?_
    refine mkL _ _ _ (st_any hL.h (by simp [hL.n]; omega)) ?_
    refine ⟨by kernel_rfl, ?_⟩
    simp only [seqK, blockK, w94_67, w94_67_0]
    refine mk0 (.int .i64 ((i + 1 : Nat) : Int)) (addN (a := i) (b := 1) (by omega)) ?_
    exact ih (i + 1) (by omega) (s.set i (add32 (gw s i) (gw x i))) _ (hL.st hi8) hq _ _ _ _ _ _ _ _ _ _ _ _ _ _ _ _ _ _ _ _ _ _ _ _ _ _ _ _ _ _ _ _ _ _ _ _ _ _ _ _ _ _ _ _ _ _ _ _ _ _ _ _ _ _ _ _ _ _ _ _ _ _ _ _ _ _ _ _ _ _ _ _ _ _ _ _ _ _ _ _ _ _ _ _ _ _ _ _ _ _ _ _ _ _ _ _ _ _ _ _ _ _ _ _ _ _ _ _ _ _ _ _ _ _ _ _ _ _ _ _ _ _ _ _ _ _ _ _ _ _ _ _ _ _ _ _ _ _ _ _ _ _ _ _ _ _ _ _ _ _ _ _ _ _ _ _ _ _ _ _ _ _ _ _ _ _ _ _ _ _ _ _ _ _ _ _ _
def kS : List Int := [1116352408, 1899447441, 3049323471, 3921009573, 961987163, 1508970993, 2453635748, 2870763221, 3624381080, 310598401, 607225278, 1426881987, 1925078388, 2162078206, 2614888103, 3248222580, 3835390401, 4022224774, 264347078, 604807628, 770255983, 1249150122, 1555081692, 1996064986, 2554220882, 2821834349, 2952996808, 3210313671, 3336571891, 3584528711, 113926993, 338241895, 666307205, 773529912, 1294757372, 1396182291, 1695183700, 1986661051, 2177026350, 2456956037, 2730485921, 2820302411, 3259730800, 3345764771, 3516065817, 3600352804, 4094571909, 275423344, 430227734, 506948616, 659060556, 883997877, 958139571, 1322822218, 1537002063, 1747873779, 1955562222, 2024104815, 2227730452, 2361852424, 2428436474, 2756734187, 3204031479, 3329325298]
def Oct.list (x : Oct) : List Int := [x.a, x.b, x.c, x.d, x.e, x.f, x.g, x.h]
def wS (b : Nat → Int) : List Int := goW b 64 0 (List.replicate 64 0)
def take32 (b : Nat → Int) (s : Oct) : List Int := goS (goX kS (wS b) 64 0 s).list 8 0 s.list
theorem al155 {H : Heap} : allocO Try.prog H 4 155 = some ⟨.ptr (.own 4) (nextGen H (.own 4)) 0, [(.own 4, ⟨nextGen H (.own 4), (List.replicate 64 0).map u32, false, true⟩)], [.own 4]⟩ := by kernel_rfl
theorem al143 {H : Heap} : allocO Try.prog H 6 143 = some ⟨.ptr (.own 6) (nextGen H (.own 6)) 0, [(.own 6, ⟨nextGen H (.own 6), (List.replicate 8 0).map u32, false, true⟩)], [.own 6]⟩ := by kernel_rfl
theorem ld143 {H x} : evLoad Try.prog H 143 x = ldR 8 true H x := by kernel_rfl
theorem ld_oct {H : Heap} {g : Nat} {i : Id} {x : Oct} {rest : List V} {fz fl : Bool} (h : H i = some ⟨g, x.list.map u32 ++ rest, fz, fl⟩) : ldR 8 true H (.ptr i g 0) = some ⟨.agg x.cells, [], [i]⟩ := by
  have l1 : live H i g = some ⟨g, x.list.map u32 ++ rest, fz, fl⟩ := by simp [live, h]
  unfold ldR
  simp only [l1]
  rfl
theorem sets_nil' {H : Heap} : H.sets [] = H := rfl
theorem call103 {H : Heap} : evCall (run scfg 40) scfg.pol H 95 103 [] = some ⟨.agg (kS.map u32), [], []⟩ := by kernel_rfl

set_option maxHeartbeats 2000000 in
theorem take_spec {H : Heap} {o : Nat} {lim : Option Nat} {b : Nat → Int} {s : Oct} {rest cs : List V} {fz fl fl0 : Bool} (h4 : H (.own 4) = none) (h6 : H (.own 6) = none)
    (h0 : H (.arg 0) = some ⟨0, s.list.map u32 ++ rest, false, fl0⟩) (h1 : H (.arg 1) = some ⟨0, cs, fz, fl⟩) (hb : ∀ k, k < 64 → cs[o + k]? = some (.int .u8 (b k))) :
    CallR scfg 94 [.ptr (.arg 0) 0 0, .sl (.arg 1) 0 o 64 1 lim] H (fun r H' => r = .tup [] ∧ H' (.arg 0) = some ⟨0, (take32 b s).map u32 ++ rest, false, fl0⟩ ∧ ∀ j, j ≠ 0 → H' (.arg j) = H (.arg j)) := by
  refine CallR.body' (K := scfg) (f := 94) (fn := Try.f94) (c := c94_0) (env := [.ptr (.arg 0) 0 0, .sl (.arg 1) 0 o 64 1 lim, .und, .und, .und, .und, .und, .und, .und, .und, .und, .und, .und, .und, .und, .und, .und, .und, .und, .und, .und, .und, .und, .und, .und, .und, .und, .und, .und, .und, .und, .und, .und, .und, .und, .und, .und, .und, .und, .und, .und, .und, .und, .und, .und, .und, .und, .und, .und, .und, .und, .und, .und, .und, .und, .und, .und, .und, .und, .und, .und, .und, .und, .und, .und, .und, .und, .und, .und, .und, .und, .und, .und, .und, .und, .und, .und, .und, .und, .und, .und, .und, .und, .und, .und, .und, .und, .und, .und, .und, .und, .und, .und, .und, .und, .und, .und, .und, .und, .und, .und, .und, .und, .und, .und, .und, .und, .und, .und, .und, .und, .und, .und, .und, .und, .und, .und, .und, .und, .und, .und, .und, .und, .und, .und, .und, .und, .und, .und, .und, .und, .und, .und, .und, .und, .und, .und, .und, .und, .und, .und, .und, .und, .und, .und, .und, .und, .und, .und, .und, .und, .und, .und, .und, .und, .und, .und, .und, .und, .und, .und, .und, .und, .und, .und, .und, .und, .und, .und, .und, .und, .und, .und, .und, .und, .und, .und, .und, .und, .und]) (rs := []) rfl (by kernel_rfl) (by kernel_rfl) (by kernel_rfl) (by kernel_rfl) (by kernel_rfl) (by kernel_rfl) ?_
  show wC Try.prog scfg.pol (CallR scfg) (LoopR scfg) c94_0 _ _ (wRes Try.prog _ _)
  have n4 : nextGen H (.own 4) = 0 := by simp [nextGen, h4]
  simp only [w94_0, w94_1, w94_1_0, w94_2, w94_3, w94_4, w94_4_0, w94_5, w94_6, seqK]
  refine mk _ _ _ al155 ?_
  have hL : L1 H (H.sets [(.own 4, ⟨nextGen H (.own 4), (List.replicate 64 0).map u32, false, true⟩)]) (List.replicate 64 0) :=
    ⟨by rw [hs_self, n4], by simp, fun j => by rw [hs_oth (by intro e; cases e)], by rw [hs_oth (by intro e; cases e)]⟩
  generalize (H.sets [(.own 4, ⟨nextGen H (.own 4), (List.replicate 64 0).map u32, false, true⟩)]) = H2 at hL ⊢
  rw [n4]
  refine loop1 h1 hb 64 0 rfl (List.replicate 64 0) H2 hL ?_ _ _ _ _ _ _ _ _ _ _ _ _ _ _ _ _ _ _ _ _ _ _ _ _ _ _ _ _ _ _ _ _ _ _ _ _ _ _ _ _ _ _ _ _ _ _ _ _ _ _ _ _ _ _ _ _ _ _ _ _ _ _ _ _ _ _ _ _ _ _ _ _ _ _ _ _ _ _ _ _ _ _ _ _ _ _ _ _ _ _ _ _ _ _ _ _ _ _ _ _ _ _ _ _ _ _ _ _ _ _ _ _ _ _ _ _ _ _ _ _ _ _ _ _ _ _ _ _ _ _ _ _ _ _ _ _ _ _ _ _ _ _ _ _ _ _ _ _ _ _ _ _ _ _ _ _ _ _ _ _ _ _ _ _ _ _ _ _ _ _ _ _ _ _ _ _
  intro H3 t2 t3 t5 t6 t7 t8 t9 t10 t11 t12 t13 t15 t16 t17 t18 t19 t20 t21 t22 t23 t24 t25 t26 t27 t28 t29 t30 t31 t32 t33 t34 t35 t36 t37 t38 t39 t40 t41 t42 t43 t44 t45 t46 t47 t48 t49 t50 t51 t52 t53 t54 t55 t56 t57 t58 t59 t60 t61 t62 t63 t64 t65 t66 t67 t68 t69 t70 t71 t72 t73 t74 t75 t76 t77 t78 t79 t80 t81 t82 t83 t84 t85 t86 t87 t88 t89 t90 t91 t92 t93 t94 t95 t96 t97 t98 t99 t100 t101 t102 t103 t104 t105 t106 t107 t108 t109 t110 t111 t112 t113 t114 t115 t116 t117 t118 t119 t120 t121 t122 t123 t124 t125 t126 t127 t128 t129 t130 t131 t132 t133 t134 t135 t136 t137 t138 t139 t140 t141 t142 t143 t144 t145 t146 t147 t148 t149 t150 t151 t152 t153 t154 t155 t156 t157 t158 t159 t160 t161 t162 t163 t164 t165 t166 t167 t168 t169 t170 t171 t172 t173 t174 t175 t176 t177 t178 t179 hL3
  simp only [blockK, if_true, seqK, w94_27, w94_28, w94_28_0, w94_29, w94_30, w94_31, w94_31_0, ld143, st143]
  have n6 : nextGen H3 (.own 6) = 0 := by simp [nextGen, hL3.s, h6]
  refine mk0 _ nil_ptr ?_
  refine mk _ _ _ (ld_oct (x := s) (rest := rest) ((hL3.a 0).trans h0)) ?_
  simp only [sets_nil']
  refine mk _ _ _ al143 ?_
  have k1 : (H3.sets [(.own 6, ⟨nextGen H3 (.own 6), (List.replicate 8 0).map u32, false, true⟩)]) (.own 6) = some ⟨0, (⟨0,0,0,0,0,0,0,0⟩ : Oct).cells, false, true⟩ := by rw [hs_self, n6]; rfl
  have k2 : (H3.sets [(.own 6, ⟨nextGen H3 (.own 6), (List.replicate 8 0).map u32, false, true⟩)]) (.own 4) = some ⟨0, (wS b).map u32, false, true⟩ := by rw [hs_oth (by intro e; cases e)]; exact hL3.w
  have k3 : ∀ j, (H3.sets [(.own 6, ⟨nextGen H3 (.own 6), (List.replicate 8 0).map u32, false, true⟩)]) (.arg j) = H (.arg j) := fun j => by rw [hs_oth (by intro e; cases e)]; exact hL3.a j
  rw [n6]
  rw [n6] at k1 k2 k3
  generalize (H3.sets [(.own 6, ⟨0, (List.replicate 8 0).map u32, false, true⟩)]) = H4 at k1 k2 k3 ⊢
  refine mk _ _ _ (st8 (y := s) k1) ?_
  have hL5 : L2 H (H4.sets [(.own 6, ⟨0, s.cells, false, true⟩)]) (wS b) s :=
    ⟨by rw [hs_oth (by intro e; cases e)]; exact k2, hL3.n, fun j => by rw [hs_oth (by intro e; cases e)]; exact k3 j, by rw [hs_self]⟩
  generalize (H4.sets [(.own 6, ⟨0, s.cells, false, true⟩)]) = H5 at hL5 ⊢
  refine callW_ev call103 ?_
  simp only [sets_nil', w94_32, w94_33]
  refine loop2 (ks := kS) rfl 64 0 rfl s H5 hL5 ?_ _ _ _ _ _ _ _ _ _ _ _ _ _ _ _ _ _ _ _ _ _ _ _ _ _ _ _ _ _ _ _ _ _ _ _ _ _ _ _ _ _ _ _ _ _ _ _ _ _ _ _ _ _ _ _ _ _ _ _ _ _ _ _ _ _ _ _ _ _ _ _ _ _ _ _ _ _ _ _ _ _ _ _ _ _ _ _ _ _ _ _ _ _ _ _ _ _ _ _ _ _ _ _ _ _ _ _ _ _ _ _ _ _ _ _ _ _ _ _ _ _ _ _ _ _ _ _ _ _ _ _ _ _ _ _ _ _ _ _ _ _ _ _ _ _ _ _ _ _ _ _ _ _ _ _ _ _ _ _ _ _ _ _ _ _ _ _ _ _ _ _ _ _ _ _
  intro H6 t1 t2 t3 t5 t7 t8 t9 t10 t11 t12 t13 t14 t15 t16 t17 t18 t19 t20 t21 t22 t23 t24 t25 t26 t27 t28 t29 t30 t31 t32 t33 t34 t35 t36 t37 t38 t39 t40 t41 t42 t43 t44 t45 t46 t47 t48 t49 t50 t51 t52 t53 t54 t55 t56 t57 t58 t59 t60 t61 t62 t63 t64 t65 t66 t67 t68 t69 t70 t71 t72 t73 t74 t75 t76 t77 t78 t79 t80 t81 t82 t83 t84 t85 t86 t87 t88 t89 t90 t91 t92 t93 t94 t97 t98 t99 t100 t101 t102 t103 t104 t105 t106 t107 t108 t109 t110 t111 t112 t113 t114 t115 t116 t117 t118 t119 t120 t121 t122 t123 t124 t125 t126 t127 t128 t129 t130 t131 t132 t133 t134 t135 t136 t137 t138 t139 t140 t141 t142 t143 t144 t145 t146 t147 t148 t149 t150 t151 t152 t153 t154 t155 t156 t157 t158 t159 t160 t161 t162 t163 t164 t165 t166 t167 t168 t169 t170 t171 t172 t173 t174 t175 t176 t177 t178 t179 hL6
  simp only [blockK, if_true, seqK, w94_52, w94_53, w94_53_0, w94_54, w94_55]
  have hL7 : L3 H H6 s.list (goX kS (wS b) 64 0 s).list rest fl0 := ⟨(hL6.a 0).trans h0, rfl, rfl, hL6.x, fun j _ => hL6.a j⟩
  refine loop3 8 0 rfl s.list H6 hL7 ?_ _ _ _ _ _ _ _ _ _ _ _ _ _ _ _ _ _ _ _ _ _ _ _ _ _ _ _ _ _ _ _ _ _ _ _ _ _ _ _ _ _ _ _ _ _ _ _ _ _ _ _ _ _ _ _ _ _ _ _ _ _ _ _ _ _ _ _ _ _ _ _ _ _ _ _ _ _ _ _ _ _ _ _ _ _ _ _ _ _ _ _ _ _ _ _ _ _ _ _ _ _ _ _ _ _ _ _ _ _ _ _ _ _ _ _ _ _ _ _ _ _ _ _ _ _ _ _ _ _ _ _ _ _ _ _ _ _ _ _ _ _ _ _ _ _ _ _ _ _ _ _ _ _ _ _ _ _ _ _ _ _ _ _ _ _ _ _ _ _ _ _ _ _ _ _ _ _
  intro H8 t1 t2 t3 t4 t5 t7 t8 t9 t10 t11 t12 t13 t14 t15 t16 t17 t18 t19 t20 t21 t22 t23 t24 t25 t26 t27 t28 t29 t30 t31 t32 t33 t34 t35 t36 t37 t38 t39 t40 t41 t42 t43 t44 t45 t46 t47 t48 t49 t50 t51 t52 t53 t54 t55 t56 t57 t58 t59 t60 t61 t62 t63 t64 t65 t66 t67 t68 t69 t70 t71 t72 t73 t74 t75 t76 t77 t78 t79 t80 t81 t82 t83 t84 t85 t86 t87 t88 t89 t90 t91 t92 t93 t94 t95 t96 t97 t98 t99 t100 t101 t102 t103 t104 t105 t106 t107 t108 t109 t110 t111 t112 t113 t114 t115 t116 t117 t118 t119 t120 t121 t122 t123 t124 t125 t126 t127 t128 t129 t130 t131 t132 t133 t134 t135 t136 t137 t138 t139 t140 t141 t142 t143 t144 t145 t146 t147 t148 t149 t150 t151 t152 t153 t154 t155 t156 t157 t158 t159 t160 t161 t162 t163 t164 t166 t167 t168 t169 t170 t171 t172 t173 t174 t175 t176 t177 t178 t179 hL8
  simp only [blockK, if_true, wRes, evResults]
  exact ⟨trivial, hL8.h, hL8.a⟩
end Go.Proofs.Ytaiegfeppgaedaa.Iv

namespace Go.Proofs.Ytaiegfeppgaedaa.Iv
open Go
set_option linter.unusedVariables false
set_option linter.unusedSimpArgs false
set_option maxRecDepth 100000
/-! ### SHA-256 on numbers, for the kernel -/
def frc {α : Type} (n : Nat) (f : Nat → α) : α := match n with | 0 => f 0 | k + 1 => f (Nat.succ k)
theorem frc_eq {α : Type} {n : Nat} {f : Nat → α} : frc n f = f n := by cases n <;> rfl
abbrev M32 : Nat := 4294967296
def nadd (a b : Nat) : Nat := Nat.mod (Nat.add a b) 4294967296
def rotN (x p q : Nat) : Nat := Nat.lor (Nat.mod (Nat.mul x p) 4294967296) (Nat.div x q)
def T718N (x : Nat) : Nat := Nat.xor (rotN x 33554432 128) (rotN x 16384 262144)
def T1719N (x : Nat) : Nat := Nat.xor (rotN x 32768 131072) (rotN x 8192 524288)
def T61125N (x : Nat) : Nat := Nat.xor (Nat.xor (rotN x 67108864 64) (rotN x 2097152 2048)) (rotN x 128 33554432)
def T21322N (x : Nat) : Nat := Nat.xor (Nat.xor (rotN x 1073741824 4) (rotN x 524288 8192)) (rotN x 1024 4194304)
theorem wrapN (n : Nat) : IntKind.u32.wrap (n : Int) = ((n % 4294967296 : Nat) : Int) := by
  have e1 : (2 : Int) ^ 32 = 4294967296 := by decide
  simp only [IntKind.wrap, IntKind.bits, IntKind.signed, Bool.false_and, e1]
  simp
theorem cv_add {a b : Nat} : add32 (a : Int) (b : Int) = ((nadd a b : Nat) : Int) := by
  have : ((a : Int) + (b : Int)) = ((a + b : Nat) : Int) := by simp
  unfold add32; rw [this, wrapN]; rfl
theorem nadd_lt {a b : Nat} : nadd a b < M32 := Nat.mod_lt _ (by decide)
theorem bvN {a : Nat} (h : a < M32) : (BitVec.ofInt 32 (a : Int)).toNat = a := by
  rw [BitVec.ofInt_natCast, BitVec.toNat_ofNat]; exact Nat.mod_eq_of_lt h
theorem cv_xor {a b : Nat} (ha : a < M32) (hb : b < M32) : xor32 (a : Int) (b : Int) = ((Nat.xor a b : Nat) : Int) := by
  unfold xor32
  rw [BitVec.toNat_xor, bvN ha, bvN hb, wrapN, Nat.mod_eq_of_lt (Nat.xor_lt_two_pow (n := 32) ha hb)]; rfl
theorem xor_ltN {a b : Nat} (ha : a < M32) (hb : b < M32) : Nat.xor a b < M32 := Nat.xor_lt_two_pow (n := 32) ha hb
theorem cv_and {a b : Nat} (ha : a < M32) (hb : b < M32) : and32 (a : Int) (b : Int) = ((Nat.land a b : Nat) : Int) := by
  unfold and32
  rw [BitVec.toNat_and, bvN ha, bvN hb, wrapN, Nat.mod_eq_of_lt (Nat.and_lt_two_pow (n := 32) a hb)]; rfl
theorem and_ltN {a b : Nat} (hb : b < M32) : Nat.land a b < M32 := Nat.and_lt_two_pow (n := 32) a hb
theorem cv_or {a b : Nat} (ha : a < M32) (hb : b < M32) : or32 (a : Int) (b : Int) = ((Nat.lor a b : Nat) : Int) := by
  unfold or32
  rw [BitVec.toNat_or, bvN ha, bvN hb, wrapN, Nat.mod_eq_of_lt (Nat.or_lt_two_pow (n := 32) ha hb)]; rfl
theorem or_ltN {a b : Nat} (ha : a < M32) (hb : b < M32) : Nat.lor a b < M32 := Nat.or_lt_two_pow (n := 32) ha hb
theorem cv_not {a : Nat} (ha : a < M32) : not32 (a : Int) = ((Nat.xor 4294967295 a : Nat) : Int) := by
  unfold not32
  have e : (if IntKind.u32.signed then -1 else IntKind.u32.max) = ((4294967295 : Nat) : Int) := by decide
  rw [e, BitVec.toNat_xor, bvN (by decide), bvN ha, wrapN, Nat.mod_eq_of_lt (Nat.xor_lt_two_pow (n := 32) (by decide) ha)]; rfl
theorem cv_shl {a n : Nat} : shl32 (a : Int) n = ((Nat.mod (Nat.mul a (2 ^ n)) 4294967296 : Nat) : Int) := by
  unfold shl32
  have : (a : Int) * 2 ^ n = ((a * 2 ^ n : Nat) : Int) := by simp
  rw [this, wrapN]; rfl
theorem cv_shr {a n : Nat} : shr32 (a : Int) n = ((Nat.div a (2 ^ n) : Nat) : Int) := by
  unfold shr32
  have e : ((2 : Int) ^ n) = ((2 ^ n : Nat) : Int) := by simp
  rw [e, Int.fdiv_eq_ediv_of_nonneg _ (Int.natCast_nonneg _)]
  exact (Int.natCast_ediv a (2 ^ n)).symm
theorem div_ltN {a q : Nat} (ha : a < M32) : Nat.div a q < M32 := Nat.lt_of_le_of_lt (Nat.div_le_self a q) ha
theorem mod_ltN {a : Nat} : Nat.mod a 4294967296 < M32 := Nat.mod_lt _ (by decide)
theorem rot_ltN {x p q : Nat} (h : x < M32) : rotN x p q < M32 := or_ltN mod_ltN (div_ltN h)
theorem cv_rot {a n p q : Nat} (ha : a < M32) (hp : 2 ^ n = p) (hq : 2 ^ (32 - n) = q) : rot32 (a : Int) n = ((rotN a p q : Nat) : Int) := by
  subst hp; subst hq
  unfold rot32
  rw [cv_shl, cv_shr, cv_or mod_ltN (div_ltN ha)]; rfl
theorem cv_xor0 {a : Nat} (ha : a < M32) : xor32 0 (a : Int) = (a : Int) := by
  have := cv_xor (a := 0) (b := a) (by decide) ha
  rw [show ((0 : Nat) : Int) = 0 from rfl] at this
  rw [this]
  show (((0 : Nat) ^^^ a : Nat) : Int) = _
  rw [Nat.zero_xor]
theorem T718_lt {x : Nat} (h : x < M32) : T718N x < M32 := xor_ltN (rot_ltN h) (rot_ltN h)
theorem T1719_lt {x : Nat} (h : x < M32) : T1719N x < M32 := xor_ltN (rot_ltN h) (rot_ltN h)
theorem T61125_lt {x : Nat} (h : x < M32) : T61125N x < M32 := xor_ltN (xor_ltN (rot_ltN h) (rot_ltN h)) (rot_ltN h)
theorem T21322_lt {x : Nat} (h : x < M32) : T21322N x < M32 := xor_ltN (xor_ltN (rot_ltN h) (rot_ltN h)) (rot_ltN h)
theorem cv718 {x : Nat} (h : x < M32) : T718 (x : Int) = ((T718N x : Nat) : Int) := by
  unfold T718
  rw [cv_rot h (p := 33554432) (q := 128) rfl rfl, cv_xor0 (rot_ltN h), cv_rot h (p := 16384) (q := 262144) rfl rfl, cv_xor (rot_ltN h) (rot_ltN h)]; rfl
theorem cv1719 {x : Nat} (h : x < M32) : T1719 (x : Int) = ((T1719N x : Nat) : Int) := by
  unfold T1719
  rw [cv_rot h (p := 32768) (q := 131072) rfl rfl, cv_xor0 (rot_ltN h), cv_rot h (p := 8192) (q := 524288) rfl rfl, cv_xor (rot_ltN h) (rot_ltN h)]; rfl
theorem cv61125 {x : Nat} (h : x < M32) : T61125 (x : Int) = ((T61125N x : Nat) : Int) := by
  unfold T61125
  rw [cv_rot h (p := 67108864) (q := 64) rfl rfl, cv_xor0 (rot_ltN h), cv_rot h (p := 2097152) (q := 2048) rfl rfl, cv_xor (rot_ltN h) (rot_ltN h), cv_rot h (p := 128) (q := 33554432) rfl rfl, cv_xor (xor_ltN (rot_ltN h) (rot_ltN h)) (rot_ltN h)]; rfl
theorem cv21322 {x : Nat} (h : x < M32) : T21322 (x : Int) = ((T21322N x : Nat) : Int) := by
  unfold T21322
  rw [cv_rot h (p := 1073741824) (q := 4) rfl rfl, cv_xor0 (rot_ltN h), cv_rot h (p := 524288) (q := 8192) rfl rfl, cv_xor (rot_ltN h) (rot_ltN h), cv_rot h (p := 1024) (q := 4194304) rfl rfl, cv_xor (xor_ltN (rot_ltN h) (rot_ltN h)) (rot_ltN h)]; rfl
/-! the words -/
def nx4 (w0 w1 w9 w14 : Int) : Int := add32 (add32 (add32 w0 w9) (xor32 (T718 w1) (shr32 w1 3))) (xor32 (T1719 w14) (shr32 w14 10))
def nx4N (w0 w1 w9 w14 : Nat) : Nat := nadd (nadd (nadd w0 w9) (Nat.xor (T718N w1) (Nat.div w1 8))) (Nat.xor (T1719N w14) (Nat.div w14 1024))
theorem cv_nx4 {a b c d : Nat} (hb : b < M32) (hd : d < M32) : nx4 a b c d = ((nx4N a b c d : Nat) : Int) := by
  unfold nx4
  rw [cv_add, cv718 hb, cv_shr, cv_xor (T718_lt hb) (div_ltN hb), cv_add, cv1719 hd, cv_shr, cv_xor (T1719_lt hd) (div_ltN hd), cv_add]; rfl
theorem nx4_lt {a b c d : Nat} : nx4N a b c d < M32 := nadd_lt
def wv (b : Nat → Int) (i : Nat) : Int :=
  if h : i < 16 then ld4 b i else nx4 (wv b (i - 16)) (wv b (i - 15)) (wv b (i - 7)) (wv b (i - 2))
termination_by i
decreasing_by all_goals omega
theorem wv_lo {b : Nat → Int} {i : Nat} (h : i < 16) : wv b i = ld4 b i := by rw [wv]; exact dif_pos h
theorem wv_hi {b : Nat → Int} {i : Nat} : wv b (i + 16) = nx4 (wv b i) (wv b (i + 1)) (wv b (i + 9)) (wv b (i + 14)) := by
  rw [wv, dif_neg (by omega)]
  rw [show i + 16 - 16 = i by omega, show i + 16 - 15 = i + 1 by omega, show i + 16 - 7 = i + 9 by omega, show i + 16 - 2 = i + 14 by omega]
theorem gw_set {W : List Int} {i j : Nat} {v : Int} (h : i < W.length) : gw (W.set i v) j = if j = i then v else gw W j := by
  unfold gw
  by_cases e : j = i
  · subst e; simp [h]
  · simp [List.getElem?_set, e, Ne.symm e]
theorem goW_len {b : Nat → Int} : ∀ (k i : Nat) (W : List Int), (goW b k i W).length = W.length
  | 0, _, W => rfl
  | k + 1, i, W => by rw [goW, goW_len k]; simp [stW]
theorem goW_wv {b : Nat → Int} : ∀ (k i : Nat) (W : List Int), i + k = 64 → W.length = 64 → (∀ j, j < i → gw W j = wv b j) → ∀ j, j < 64 → gw (goW b k i W) j = wv b j
  | 0, i, W, hi, hl, h, j, hj => h j (by omega)
  | k + 1, i, W, hi, hl, h, j, hj => by
    rw [goW]
    refine goW_wv k (i + 1) (stW b i W) (by omega) (by simp [stW, hl]) (fun j hj => ?_) j hj
    unfold stW
    rw [gw_set (by omega)]
    split
    · rename_i e; subst e
      split
      · rename_i h16; rw [wv_lo h16]
      · rename_i h16
        obtain ⟨m, rfl⟩ : ∃ m, j = m + 16 := ⟨j - 16, by omega⟩
        rw [wv_hi, ← h m (by omega), ← h (m + 1) (by omega), ← h (m + 9) (by omega), ← h (m + 14) (by omega)]
        unfold nxW nx4
        rw [show m + 16 - 16 = m by omega, show m + 16 - 15 = m + 1 by omega, show m + 16 - 7 = m + 9 by omega, show m + 16 - 2 = m + 14 by omega]
    · exact h j (by omega)
theorem wS_wv {b : Nat → Int} {j : Nat} (h : j < 64) : gw (wS b) j = wv b j := goW_wv 64 0 _ rfl rfl (fun j h => by omega) j h
def wsN : Nat → Nat → Nat → Nat → Nat → Nat → Nat → Nat → Nat → Nat → Nat → Nat → Nat → Nat → Nat → Nat → Nat → List Nat
  | 0, _, _, _, _, _, _, _, _, _, _, _, _, _, _, _, _ => []
  | n + 1, a0, a1, a2, a3, a4, a5, a6, a7, a8, a9, a10, a11, a12, a13, a14, a15 => a0 :: frc (nx4N a0 a1 a9 a14) fun c => wsN n a1 a2 a3 a4 a5 a6 a7 a8 a9 a10 a11 a12 a13 a14 a15 c
def IsN (z : Int) (n : Nat) : Prop := z = (n : Int) ∧ n < M32
theorem wsN_ok {b : Nat → Int} : ∀ (n i : Nat) {a0 a1 a2 a3 a4 a5 a6 a7 a8 a9 a10 a11 a12 a13 a14 a15 : Nat},
    IsN (wv b i) a0 → IsN (wv b (i + 1)) a1 → IsN (wv b (i + 2)) a2 → IsN (wv b (i + 3)) a3 → IsN (wv b (i + 4)) a4 → IsN (wv b (i + 5)) a5 → IsN (wv b (i + 6)) a6 → IsN (wv b (i + 7)) a7 → IsN (wv b (i + 8)) a8 → IsN (wv b (i + 9)) a9 → IsN (wv b (i + 10)) a10 → IsN (wv b (i + 11)) a11 → IsN (wv b (i + 12)) a12 → IsN (wv b (i + 13)) a13 → IsN (wv b (i + 14)) a14 → IsN (wv b (i + 15)) a15 →
    ∀ j, j < n → ∃ v, (wsN n a0 a1 a2 a3 a4 a5 a6 a7 a8 a9 a10 a11 a12 a13 a14 a15)[j]? = some v ∧ IsN (wv b (i + j)) v
  | 0, i, _, _, _, _, _, _, _, _, _, _, _, _, _, _, _, _, _, _, _, _, _, _, _, _, _, _, _, _, _, _, _, _, j, hj => by omega
  | n + 1, i, a0, a1, a2, a3, a4, a5, a6, a7, a8, a9, a10, a11, a12, a13, a14, a15, h0, h1, h2, h3, h4, h5, h6, h7, h8, h9, h10, h11, h12, h13, h14, h15, j, hj => by
    unfold wsN
    rw [frc_eq]
    cases j with
    | zero => exact ⟨a0, rfl, h0⟩
    | succ j =>
      have hc : IsN (wv b (i + 1 + 15)) (nx4N a0 a1 a9 a14) := by
        refine ⟨?_, nx4_lt⟩
        rw [show i + 1 + 15 = i + 16 by omega, wv_hi, h0.1, h1.1, h9.1, h14.1, cv_nx4 h1.2 h14.2]
      have e : ∀ k, i + 1 + k = i + (k + 1) := fun k => by omega
      obtain ⟨v, hv, h⟩ := wsN_ok (b := b) n (i + 1) h1 h2 h3 h4 h5 h6 h7 h8 h9 h10 h11 h12 h13 h14 h15 hc j (by omega)
      exact ⟨v, by simpa using hv, by rw [e] at h; exact h⟩
/-! the rounds -/
def tN (e f g h k w : Nat) : Nat := nadd (nadd (nadd (nadd h (T61125N e)) (Nat.xor (Nat.land e f) (Nat.land (Nat.xor 4294967295 e) g))) k) w
def uN (a b c : Nat) : Nat := nadd (T21322N a) (Nat.xor (Nat.xor (Nat.land a b) (Nat.land a c)) (Nat.land b c))
theorem cv_t {x : Oct} {e f g h k w : Nat} {k' w' : Int} (he : IsN x.e e) (hf : IsN x.f f) (hg : IsN x.g g) (hh : IsN x.h h) (hk : IsN k' k) (hw : IsN w' w) : tF x k' w' = ((tN e f g h k w : Nat) : Int) := by
  unfold tF
  rw [he.1, hf.1, hg.1, hh.1, hk.1, hw.1, cv61125 he.2, cv_add, cv_and he.2 hf.2, cv_not he.2, cv_and (xor_ltN (by decide) he.2) hg.2, cv_xor (and_ltN hf.2) (and_ltN hg.2), cv_add, cv_add, cv_add]; rfl
theorem cv_u {x : Oct} {a b c : Nat} (ha : IsN x.a a) (hb : IsN x.b b) (hc : IsN x.c c) : uF x = ((uN a b c : Nat) : Int) := by
  unfold uF
  rw [ha.1, hb.1, hc.1, cv21322 ha.2, cv_and ha.2 hb.2, cv_and ha.2 hc.2, cv_xor (and_ltN hb.2) (and_ltN hc.2), cv_and hb.2 hc.2, cv_xor (xor_ltN (and_ltN hb.2) (and_ltN hc.2)) (and_ltN hc.2), cv_add]; rfl
def rdN : List Nat → List Nat → Nat → Nat → Nat → Nat → Nat → Nat → Nat → Nat → (Nat → Nat → Nat → Nat → Nat → Nat → Nat → Nat → List Nat) → List Nat
  | k :: ks, w :: ws, a, b, c, d, e, f, g, h, K => frc (tN e f g h k w) fun t => frc (nadd t (uN a b c)) fun a' => frc (nadd d t) fun e' => rdN ks ws a' a b c e' e f g K
  | _, _, a, b, c, d, e, f, g, h, K => K a b c d e f g h
structure Oct.IsN (x : Oct) (a b c d e f g h : Nat) : Prop where
  a : Iv.IsN x.a a
  b : Iv.IsN x.b b
  c : Iv.IsN x.c c
  d : Iv.IsN x.d d
  e : Iv.IsN x.e e
  f : Iv.IsN x.f f
  g : Iv.IsN x.g g
  h : Iv.IsN x.h h
theorem rdN_ok {ks W : List Int} {K : Nat → Nat → Nat → Nat → Nat → Nat → Nat → Nat → List Nat} : ∀ (n i : Nat) {kl wl : List Nat} {x : Oct} {a b c d e f g h : Nat}, kl.length = n → wl.length = n → x.IsN a b c d e f g h →
    (∀ j v, kl[j]? = some v → IsN (gw ks (i + j)) v) → (∀ j v, wl[j]? = some v → IsN (gw W (i + j)) v) →
    ∃ a' b' c' d' e' f' g' h', (goX ks W n i x).IsN a' b' c' d' e' f' g' h' ∧ rdN kl wl a b c d e f g h K = K a' b' c' d' e' f' g' h'
  | 0, i, kl, wl, x, a, b, c, d, e, f, g, h, hk, hw, hx, _, _ => by
    obtain rfl := List.length_eq_zero_iff.1 hk
    exact ⟨_, _, _, _, _, _, _, _, hx, by simp [rdN]⟩
  | n + 1, i, kl, wl, x, a, b, c, d, e, f, g, h, hk, hw, hx, hkl, hwl => by
    obtain ⟨k, kl, rfl⟩ : ∃ k r, kl = k :: r := by cases kl with | nil => simp at hk | cons k r => exact ⟨k, r, rfl⟩
    obtain ⟨w, wl, rfl⟩ : ∃ k r, wl = k :: r := by cases wl with | nil => simp at hw | cons k r => exact ⟨k, r, rfl⟩
    have k0 : IsN (gw ks i) k := hkl 0 k rfl
    have w0 : IsN (gw W i) w := hwl 0 w rfl
    have ht := cv_t hx.e hx.f hx.g hx.h k0 w0
    have hu := cv_u hx.a hx.b hx.c
    have hx' : (rnd x (gw ks i) (gw W i)).IsN (nadd (tN e f g h k w) (uN a b c)) a b c (nadd d (tN e f g h k w)) e f g := by
      refine ⟨⟨?_, nadd_lt⟩, hx.a, hx.b, hx.c, ⟨?_, nadd_lt⟩, hx.e, hx.f, hx.g⟩
      · show add32 _ _ = _
        rw [ht, hu, cv_add]
      · show add32 _ _ = _
        rw [hx.d.1, ht, cv_add]
    simp only [rdN, frc_eq]
    exact rdN_ok n (i + 1) (by simpa using hk) (by simpa using hw) hx' (fun j v hv => by have := hkl (j + 1) v (by simpa using hv); rw [show i + 1 + j = i + (j + 1) by omega]; exact this) (fun j v hv => by have := hwl (j + 1) v (by simpa using hv); rw [show i + 1 + j = i + (j + 1) by omega]; exact this)
def kN : List Nat := [1116352408, 1899447441, 3049323471, 3921009573, 961987163, 1508970993, 2453635748, 2870763221, 3624381080, 310598401, 607225278, 1426881987, 1925078388, 2162078206, 2614888103, 3248222580, 3835390401, 4022224774, 264347078, 604807628, 770255983, 1249150122, 1555081692, 1996064986, 2554220882, 2821834349, 2952996808, 3210313671, 3336571891, 3584528711, 113926993, 338241895, 666307205, 773529912, 1294757372, 1396182291, 1695183700, 1986661051, 2177026350, 2456956037, 2730485921, 2820302411, 3259730800, 3345764771, 3516065817, 3600352804, 4094571909, 275423344, 430227734, 506948616, 659060556, 883997877, 958139571, 1322822218, 1537002063, 1747873779, 1955562222, 2024104815, 2227730452, 2361852424, 2428436474, 2756734187, 3204031479, 3329325298]
def ld4N (a b c d : Nat) : Nat := Nat.lor (Nat.lor (Nat.lor (Nat.mul a 16777216) (Nat.mul b 65536)) (Nat.mul c 256)) d
theorem ld4_ok {b : Nat → Int} {i a0 a1 a2 a3 : Nat} (h0 : b (i * 4) = (a0 : Int) ∧ a0 < 256) (h1 : b (i * 4 + 1) = (a1 : Int) ∧ a1 < 256) (h2 : b (i * 4 + 2) = (a2 : Int) ∧ a2 < 256) (h3 : b (i * 4 + 3) = (a3 : Int) ∧ a3 < 256) : IsN (ld4 b i) (ld4N a0 a1 a2 a3) := by
  have c : ∀ a : Nat, a < 256 → cv32 (a : Int) = (a : Int) := fun a h => by
    unfold cv32; rw [wrapN, Nat.mod_eq_of_lt (by omega)]
  have s : ∀ a n p : Nat, a < 256 → 2 ^ n = p → p ≤ 16777216 → shl32 (a : Int) n = ((Nat.mul a p : Nat) : Int) ∧ Nat.mul a p < M32 := fun a n p h hp hl => by
    have hb : a * p < 4294967296 := Nat.lt_of_le_of_lt (Nat.mul_le_mul (Nat.le_of_lt_succ (show a < 255 + 1 from h)) hl) (by decide)
    rw [cv_shl, hp]
    exact ⟨congrArg _ (Nat.mod_eq_of_lt hb), hb⟩
  obtain ⟨s0, l0⟩ := s a0 24 16777216 h0.2 rfl (by decide)
  obtain ⟨s1, l1⟩ := s a1 16 65536 h1.2 rfl (by decide)
  obtain ⟨s2, l2⟩ := s a2 8 256 h2.2 rfl (by decide)
  have l3 : a3 < M32 := Nat.lt_trans h3.2 (by decide)
  unfold ld4
  rw [h0.1, h1.1, h2.1, h3.1, c _ h0.2, c _ h1.2, c _ h2.2, c _ h3.2, s0, s1, s2, cv_or l0 l1, cv_or (or_ltN l0 l1) l2, cv_or (or_ltN (or_ltN l0 l1) l2) l3]
  exact ⟨rfl, or_ltN (or_ltN (or_ltN l0 l1) l2) l3⟩
def words4 : List Nat → List Nat
  | a :: b :: c :: d :: r => ld4N a b c d :: words4 r
  | _ => []
theorem words4_ok {b : Nat → Int} : ∀ (n i : Nat) {bs : List Nat}, bs.length = n * 4 → (∀ (j v : Nat), bs[j]? = some v → b (i * 4 + j) = (v : Int) ∧ v < 256) → (words4 bs).length = n ∧ ∀ (j v : Nat), (words4 bs)[j]? = some v → IsN (ld4 b (i + j)) v
  | 0, i, bs, hl, h => by
    obtain rfl := List.length_eq_zero_iff.1 (by omega : bs.length = 0)
    exact ⟨rfl, fun j v hv => by simp [words4] at hv⟩
  | n + 1, i, bs, hl, h => by
    match bs, hl, h with
    | [], hl, _ => simp at hl
    | [_], hl, _ => simp at hl; omega
    | [_, _], hl, _ => simp at hl; omega
    | [_, _, _], hl, _ => simp at hl; omega
    | a0 :: a1 :: a2 :: a3 :: r, hl, h =>
      obtain ⟨l, q⟩ := words4_ok (b := b) n (i + 1) (bs := r) (by simp at hl; omega) (fun j v hv => by
        have := h (j + 4) v (by simpa using hv)
        rw [show (i + 1) * 4 + j = i * 4 + (j + 4) by omega]; exact this)
      refine ⟨by simp [words4, l], fun j v hv => ?_⟩
      cases j with
      | zero =>
        simp [words4] at hv; subst hv
        exact ld4_ok (h 0 a0 rfl) (h 1 a1 rfl) (h 2 a2 rfl) (h 3 a3 rfl)
      | succ j =>
        have := q j v (by simpa [words4] using hv)
        rw [show i + (j + 1) = i + 1 + j by omega]; exact this
def sumK (s0 s1 s2 s3 s4 s5 s6 s7 : Nat) (a b c d e f g h : Nat) : List Nat := [nadd s0 a, nadd s1 b, nadd s2 c, nadd s3 d, nadd s4 e, nadd s5 f, nadd s6 g, nadd s7 h]
def takeN (bs : List Nat) (a b c d e f g h : Nat) : List Nat :=
  match words4 bs with
  | [w0, w1, w2, w3, w4, w5, w6, w7, w8, w9, w10, w11, w12, w13, w14, w15] => rdN kN (wsN 64 w0 w1 w2 w3 w4 w5 w6 w7 w8 w9 w10 w11 w12 w13 w14 w15) a b c d e f g h (sumK a b c d e f g h)
  | _ => []
theorem wsN_len : ∀ (n : Nat) {a0 a1 a2 a3 a4 a5 a6 a7 a8 a9 a10 a11 a12 a13 a14 a15 : Nat}, (wsN n a0 a1 a2 a3 a4 a5 a6 a7 a8 a9 a10 a11 a12 a13 a14 a15).length = n
  | 0, _, _, _, _, _, _, _, _, _, _, _, _, _, _, _, _ => by simp [wsN]
  | n + 1, _, _, _, _, _, _, _, _, _, _, _, _, _, _, _, _ => by unfold wsN; rw [frc_eq, List.length_cons, wsN_len n]
theorem kN_ok : ∀ j v, kN[j]? = some v → IsN (gw kS (0 + j)) v := by
  intro j v hv
  have hj : j < 64 := (List.getElem?_eq_some_iff.1 hv).1
  have e : kS = kN.map fun n : Nat => (n : Int) := by rfl
  have hb : ∀ x ∈ kN, x < M32 := by decide
  refine ⟨?_, hb v (List.mem_of_getElem? hv)⟩
  unfold gw
  rw [e, Nat.zero_add, List.getD_eq_getElem?_getD, List.getElem?_map, hv]; rfl
theorem len16 {l : List Nat} (h : l.length = 16) : ∃ w0 w1 w2 w3 w4 w5 w6 w7 w8 w9 w10 w11 w12 w13 w14 w15, l = [w0, w1, w2, w3, w4, w5, w6, w7, w8, w9, w10, w11, w12, w13, w14, w15] := by
  match l, h with
  | [w0, w1, w2, w3, w4, w5, w6, w7, w8, w9, w10, w11, w12, w13, w14, w15], _ => exact ⟨_, _, _, _, _, _, _, _, _, _, _, _, _, _, _, _, rfl⟩
theorem takeN_ok {b : Nat → Int} {bs : List Nat} (hl : bs.length = 64) (hb : ∀ (j v : Nat), bs[j]? = some v → b j = (v : Int) ∧ v < 256) {s : Oct} {s0 s1 s2 s3 s4 s5 s6 s7 : Nat} (hs : s.IsN s0 s1 s2 s3 s4 s5 s6 s7) :
    take32 b s = (takeN bs s0 s1 s2 s3 s4 s5 s6 s7).map fun n : Nat => (n : Int) := by
  obtain ⟨l4, q4⟩ := words4_ok (b := b) 16 0 (bs := bs) hl (fun j v hv => by rw [Nat.zero_mul, Nat.zero_add]; exact hb j v hv)
  obtain ⟨w0, w1, w2, w3, w4, w5, w6, w7, w8, w9, w10, w11, w12, w13, w14, w15, e⟩ := len16 l4
  unfold takeN
  rw [e] at q4 ⊢
  simp only
  have q : ∀ j v, j < 16 → ([w0, w1, w2, w3, w4, w5, w6, w7, w8, w9, w10, w11, w12, w13, w14, w15] : List Nat)[j]? = some v → IsN (wv b (0 + j)) v := fun j v hj hv => by
    have := q4 j v hv
    rw [wv_lo (by omega)]; exact this
  have hw := wsN_ok (b := b) 64 0 (q 0 w0 (by decide) rfl) (q 1 w1 (by decide) rfl) (q 2 w2 (by decide) rfl) (q 3 w3 (by decide) rfl) (q 4 w4 (by decide) rfl) (q 5 w5 (by decide) rfl) (q 6 w6 (by decide) rfl) (q 7 w7 (by decide) rfl) (q 8 w8 (by decide) rfl) (q 9 w9 (by decide) rfl) (q 10 w10 (by decide) rfl) (q 11 w11 (by decide) rfl) (q 12 w12 (by decide) rfl) (q 13 w13 (by decide) rfl) (q 14 w14 (by decide) rfl) (q 15 w15 (by decide) rfl)
  have hW : ∀ j v, (wsN 64 w0 w1 w2 w3 w4 w5 w6 w7 w8 w9 w10 w11 w12 w13 w14 w15)[j]? = some v → IsN (gw (wS b) (0 + j)) v := fun j v hv => by
    have hj : j < 64 := by have := (List.getElem?_eq_some_iff.1 hv).1; rw [wsN_len] at this; exact this
    obtain ⟨v', hv', h⟩ := hw j hj
    rw [hv] at hv'; cases hv'
    rw [Nat.zero_add, wS_wv hj]; rw [Nat.zero_add] at h; exact h
  obtain ⟨a, b', c, d, e', f, g, h, hx, hr⟩ := rdN_ok (ks := kS) (W := wS b) (K := sumK s0 s1 s2 s3 s4 s5 s6 s7) 64 0 (kl := kN) (x := s) rfl (wsN_len 64) hs kN_ok hW
  rw [hr]
  unfold take32
  generalize goX kS (wS b) 64 0 s = y at hx ⊢
  obtain ⟨y0, y1, y2, y3, y4, y5, y6, y7⟩ := y
  obtain ⟨x0, x1, x2, x3, x4, x5, x6, x7⟩ := s
  obtain ⟨p0, p1, p2, p3, p4, p5, p6, p7⟩ := hx
  obtain ⟨z0, z1, z2, z3, z4, z5, z6, z7⟩ := hs
  show [add32 x0 y0, add32 x1 y1, add32 x2 y2, add32 x3 y3, add32 x4 y4, add32 x5 y5, add32 x6 y6, add32 x7 y7] = _
  simp only [IsN] at p0 p1 p2 p3 p4 p5 p6 p7 z0 z1 z2 z3 z4 z5 z6 z7
  rw [p0.1, p1.1, p2.1, p3.1, p4.1, p5.1, p6.1, p7.1, z0.1, z1.1, z2.1, z3.1, z4.1, z5.1, z6.1, z7.1]
  simp only [cv_add]
  rfl
end Go.Proofs.Ytaiegfeppgaedaa.Iv

namespace Go.Proofs.Ytaiegfeppgaedaa.Iv
open Go
set_option linter.unusedVariables false
set_option linter.unusedSimpArgs false
set_option maxRecDepth 100000
/-! ### sha's take, as a function from outside -/
def natOf (z : Int) (m : Nat) : Option Nat := match z with
  | .ofNat n => if Nat.blt n m = true then some n else none
  | _ => none
theorem natOf_some {z : Int} {m n : Nat} (h : natOf z m = some n) : z = (n : Int) ∧ n < m := by
  unfold natOf at h
  split at h
  · split at h
    · rename_i hb
      cases h
      exact ⟨rfl, by simpa using hb⟩
    · cases h
  · cases h
def bytesN : Nat → List V → Option (List Nat)
  | 0, _ => some []
  | n + 1, .int .u8 z :: r => match natOf z 256 with
    | some k => match bytesN n r with
      | some l => some (k :: l)
      | none => none
    | none => none
  | _, _ => none
theorem bytesN_ok : ∀ {n : Nat} {cs : List V} {l : List Nat}, bytesN n cs = some l → l.length = n ∧ ∀ (j v : Nat), l[j]? = some v → cs[j]? = some (V.int .u8 (v : Int)) ∧ v < 256
  | 0, cs, l, h => by simp [bytesN] at h; subst h; exact ⟨rfl, fun j v hv => by simp at hv⟩
  | n + 1, cs, l, h => by
    unfold bytesN at h
    split at h
    · rename_i e; cases e
    · rename_i n' z r e
      cases e
      split at h
      · rename_i k hk
        split at h
        · rename_i l' hl
          cases h
          obtain ⟨h1, h2⟩ := bytesN_ok hl
          refine ⟨by simp [h1], fun j v hv => ?_⟩
          cases j with
          | zero => simp at hv; subst hv; exact ⟨by rw [(natOf_some hk).1]; rfl, (natOf_some hk).2⟩
          | succ j => exact h2 j v (by simpa using hv)
        · cases h
      · cases h
    · cases h
def wordsN : Nat → List V → Option (List Nat × List V)
  | 0, r => some ([], r)
  | n + 1, .int .u32 z :: r => match natOf z 4294967296 with
    | some k => match wordsN n r with
      | some (l, r) => some (k :: l, r)
      | none => none
    | none => none
  | _, _ => none
theorem wordsN_ok : ∀ {n : Nat} {cs rest : List V} {l : List Nat}, wordsN n cs = some (l, rest) → l.length = n ∧ cs = (l.map fun k : Nat => V.int .u32 (k : Int)) ++ rest ∧ ∀ v ∈ l, v < M32
  | 0, cs, rest, l, h => by simp [wordsN] at h; obtain ⟨rfl, rfl⟩ := h; exact ⟨rfl, rfl, fun v hv => by simp at hv⟩
  | n + 1, cs, rest, l, h => by
    unfold wordsN at h
    split at h
    · rename_i e; cases e
    · rename_i n' z r e
      cases e
      split at h
      · rename_i k hk
        split at h
        · rename_i l' r' hl
          cases h
          obtain ⟨h1, h2, h3⟩ := wordsN_ok hl
          refine ⟨by simp [h1], by rw [h2, (natOf_some hk).1]; rfl, fun v hv => ?_⟩
          simp only [List.mem_cons] at hv
          rcases hv with rfl | hv
          · exact (natOf_some hk).2
          · exact h3 v hv
        · cases h
      · cases h
    · cases h
/-- what else the call leaves: no one looks there -/
noncomputable def runH (args : List V) (H : Heap) : Heap := Classical.epsilon fun H1 => ∃ n r, run scfg n 94 args H = some (r, H1)
theorem runH_eq {args : List V} {H : Heap} {n : Nat} {r : V} {H1 : Heap} (h : run scfg n 94 args H = some (r, H1)) : runH args H = H1 := by
  have : ∃ n r, run scfg n 94 args H = some (r, runH args H) := Classical.epsilon_spec (p := fun H1 => ∃ n r, run scfg n 94 args H = some (r, H1)) ⟨H1, n, r, h⟩
  obtain ⟨n', r', h'⟩ := this
  have e1 := run_mono scfg (Nat.le_max_left n n') _ _ _ _ h
  have e2 := run_mono scfg (Nat.le_max_right n n') _ _ _ _ h'
  rw [e1] at e2
  cases e2; rfl
noncomputable def takeH (args : List V) (H : Heap) (b : Blk) : Heap
  | .arg j => match j with
    | 0 => some b
    | j + 1 => H (.arg (j + 1))
  | i => runH args H i
def o32 (n : Nat) : V := .int .u32 (Int.ofNat n)
noncomputable def takeG (args : List V) (H : Heap) : Option (V × Heap) :=
  match args with
  | [.ptr i0 g0 f0, .sl i1 g1 o n sz lim] =>
    if i0 = .arg 0 ∧ g0 = 0 ∧ f0 = 0 ∧ i1 = .arg 1 ∧ g1 = 0 ∧ n = 64 ∧ sz = 1 then
      match H (.own 4), H (.own 6), H (.arg 0), H (.arg 1) with
      | none, none, some b0, some b1 =>
        if b0.gen = 0 ∧ b1.gen = 0 ∧ b0.frz = false then
          match wordsN 8 b0.cells, bytesN 64 (b1.cells.drop o) with
          | some ([a, b, c, d, e, f, g, h], rest), some bs => some (.tup [], takeH args H ⟨0, (takeN bs a b c d e f g h).map o32 ++ rest, false, b0.flat⟩)
          | _, _ => none
        else none
      | _, _, _, _ => none
    else none
  | _ => none
theorem scfg_good : cfgB scfg = true := by kernel_rfl
theorem mixedS : Try.prog.follows .mixedOrders = true := by kernel_rfl
theorem scfg_seq : SeqOK scfg.P scfg.pol := seq_none fun g => by unfold scfg; simp only; split <;> rfl
theorem scfg_ok : CfgOK scfg := cfg_ok mixedS scfg_seq (ext_none fun f => rfl) scfg_good
theorem takeG_run {args : List V} {H H' : Heap} {r : V} (h : takeG args H = some (r, H')) : ∃ n, run scfg n 94 args H = some (r, H') := by
  unfold takeG at h
  split at h
  rotate_left
  · cases h
  rename_i i0 g0 f0 i1 g1 o n sz lim
  split at h
  rotate_left
  · cases h
  rename_i hc
  obtain ⟨rfl, rfl, rfl, rfl, rfl, rfl, rfl⟩ := hc
  split at h
  rotate_left
  · cases h
  rename_i b0 b1 h4 h6 h0 h1
  split at h
  rotate_left
  · cases h
  rename_i hb
  split at h
  rotate_left
  · cases h
  rename_i a b c d e f g q rest bs hw hbs
  cases h
  obtain ⟨w1, w2, w3⟩ := wordsN_ok hw
  obtain ⟨l1, l2⟩ := bytesN_ok hbs
  obtain ⟨gen0, cs0, fz0, fl0⟩ := b0
  obtain ⟨gen1, cs1, fz1, fl1⟩ := b1
  obtain ⟨rfl, rfl, rfl⟩ := hb
  simp only at w2
  subst w2
  have key := take_spec (o := o) (lim := lim) (b := fun k => ((bs.getD k 0 : Nat) : Int)) (s := ⟨a, b, c, d, e, f, g, q⟩) (rest := rest) h4 h6 h0 h1 (fun k hk => by
    have hk' : k < bs.length := by omega
    have := (l2 k bs[k] (by simp [hk'])).1
    rw [List.getElem?_drop] at this
    rw [this]
    simp [hk'])
  obtain ⟨n, r, H1, hr, rfl, e0, ej⟩ := key
  refine ⟨n, ?_⟩
  rw [hr]
  have hs : (⟨a, b, c, d, e, f, g, q⟩ : Oct).IsN a b c d e f g q := by
    have m := fun (v : Nat) hv => w3 v hv
    exact ⟨⟨rfl, m a (by simp)⟩, ⟨rfl, m b (by simp)⟩, ⟨rfl, m c (by simp)⟩, ⟨rfl, m d (by simp)⟩, ⟨rfl, m e (by simp)⟩, ⟨rfl, m f (by simp)⟩, ⟨rfl, m g (by simp)⟩, ⟨rfl, m q (by simp)⟩⟩
  have ht := takeN_ok (b := fun k => ((bs.getD k 0 : Nat) : Int)) l1 (fun j v hv => ⟨by simp [List.getD_eq_getElem?_getD, hv], (l2 j v hv).2⟩) hs
  rw [ht] at e0
  congr 1
  refine Prod.ext rfl ?_
  funext i
  show H1 i = takeH _ H _ i
  cases i with
  | own t => show _ = runH _ H _; rw [runH_eq hr]
  | sub t i => show _ = runH _ H _; rw [runH_eq hr]
  | arg j =>
    cases j with
    | zero =>
      show _ = some _
      rw [e0]
      simp only [List.map_map]
      rfl
    | succ j => exact ej (j + 1) (by omega)
/-- for a seat's machine: sha's take from outside -/
theorem take_ok {C : Cfg} (hP : C.P = Try.prog) (h94 : C.ext 94 = some takeG) (ho : ∀ f, f ≠ 94 → C.ext f = none) : RunOK C.P C.extern := by
  have key : ∀ f args H r, C.extern f args H = some r → f = 94 ∧ ∃ n, run scfg n 94 args H = some r := by
    intro f args H r h
    unfold Cfg.extern at h
    by_cases hf : f = 94
    · subst hf
      rw [h94] at h
      exact ⟨rfl, takeG_run (r := r.1) (H' := r.2) h⟩
    · rw [ho f hf] at h; cases h
  rw [hP]
  refine ⟨fun f args H r h => ?_, fun f args H r H' h => ?_⟩
  · obtain ⟨rfl, n, hn⟩ := key f args H r h
    exact (run_sound scfg_ok n).1.good _ _ _ _ hn
  · obtain ⟨rfl, n, hn⟩ := key f args H (r, H') h
    exact (run_sound scfg_ok n).1.ok _ _ _ _ _ hn
end Go.Proofs.Ytaiegfeppgaedaa.Iv
