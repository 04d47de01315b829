-- Written by a program of this session out of the translation. Lean checks it.
import Derived.Test.YtieapebabncliaaX0
import Derived.Test.YtieapebabncliaaX9
import Derived.Test.YtieapebabncliaaX10
import Derived.Test.YtieapebabncliaaX11
import Derived.Test.YtieapebabncliaaX13
namespace Go.Proofs.Ytieapebabncliaa.X
open Go.RowKit Go.Proofs.YtieapebabncliaaW.PrintWords Go.Proofs.YtieapebabncliaaW.PrintLast Go.Proofs.YtieapebabncliaaW.PrintMore
attribute [local go_sem] max2_int min2_int max_two min_two max_three min_three max_four min_four   -- for this text's walks alone
set_option linter.unusedVariables false
set_option linter.unusedSimpArgs false

/-! ### incipitlaw19_awake: function 10 -/
def incipitlaw19_awake.f (k : Nat)  : Option (Bool) := (axis_Of.f k (([5, 3, 4, 9, 0] : List Int))).bind fun t191 => ((lw_one.f 1 5).bind fun t194 => ((lw_one.f 6 9).bind fun t197 => ((lw_one.f 1 3).bind fun t200 => ((lw_one.f 4 4).bind fun t203 => ((axis_And.f k (([(⟨t194, t197⟩ : S47), (⟨t200, t203⟩ : S47)] : List (S47)))).bind fun bt209 => ((rf_Same.f k t191 (([(⟨3, 5⟩ : S36), (⟨9, 9⟩ : S36)] : List (S36)))).bind fun t219 => (if t219 = true then ((lw_one.f 1 3).bind fun t220 => ((lw_one.f 4 6).bind fun t223 => ((axis_Union.f (([t220, t223] : List (List (S36))))).bind fun t229 => ((lw_one.f 1 6).bind fun t232 => ((rf_Same.f k t229 t232).bind fun t235 => (if t235 = true then ((lw_one.f 4 2).bind fun t236 => ((axis_Union.f (([t236] : List (List (S36))))).bind fun t242 => (if (t242.length : Int) = 0 then ((lw_one.f 1 5).bind fun t245 => ((lw_one.f 4 9).bind fun t248 => ((axis_Meet.f k (([t245, t248] : List (List (S36))))).bind fun t254 => ((lw_one.f 4 5).bind fun t257 => ((rf_Same.f k t254 t257).bind fun t260 => (if t260 = true then ((axis_Meet.f k ([] : List (List (S36)))).bind fun t261 => ((lw_one.f 1 2147483647).bind fun t264 => ((rf_Same.f k t261 t264).bind fun t267 => (if t267 = true then ((axis_Rest.f k ([] : List (S36))).bind fun t268 => ((lw_one.f 1 2147483647).bind fun t271 => ((rf_Same.f k t268 t271).bind fun t274 => (if t274 = true then ((lw_one.f 3 5).bind fun t275 => ((lw_one.f 4 9).bind fun t278 => (if t275.length + t278.length < 17592186044416 then ((axis_Count.f k (t275 ++ t278)).bind fun t284 => (if t284 = 7 then ((lw_one.f 1 3).bind fun t285 => ((rf_Same.f k bt209.1 t285).bind fun t288 => (if t288 = true then ((rf_Same.f k bt209.2 (([(⟨4, 4⟩ : S36), (⟨6, 9⟩ : S36)] : List (S36)))).bind fun t292 => (if t292 = true then ((lw_one.f 1 1).bind fun t293 => ((axis_May.f k t293).bind fun t296 => (if t296 = true then ((lw_one.f 0 1).bind fun t297 => ((axis_May.f k t297).bind fun t300 => (some (!t300)))) else (some false)))) else (some false))) else (some false)))) else (some false))) else (none)))) else (some false))))) else (some false))))) else (some false))))))) else (some false)))) else (some false))))))) else (some false))))))))
def incipitlaw19_awake.T3 : Bool × List (List Nat × List Nat) := (true, [([], []), ([], []), ([], []), ([1, 2], [1, 2]), ([0, 3], [0, 3]), ([4, 4], [4]), ([5, 5], [5]), ([6, 5], [5]), ([6, 7, 5], [5, 6, 7]), ([8, 7, 5], [5, 8]), ([9, 5], [5]), ([9, 10, 10, 5], [5, 9, 10]), ([5, 11], [5, 11]), ([12, 11], [12]), ([13, 13], [13]), ([14, 13], [13, 14]), ([15, 14, 13], [13, 15]), ([16, 13], [13, 16]), ([17, 13], [13, 17]), ([13, 18], [13, 18]), ([19, 16], [19]), ([20, 20], [20]), ([21, 20], [20]), ([21, 22, 20], [20, 21, 22]), ([23, 22, 20], [20, 23]), ([24, 20], [20]), ([24, 25, 25, 20], [20, 24, 25]), ([20, 26], [20, 26]), ([27, 26], [27]), ([28, 28], [28]), ([29, 28], [28]), ([29, 30, 30, 28], [28, 29, 30]), ([28, 31], [28, 31]), ([32, 31], [32]), ([33, 33], [33]), ([34, 33], [33]), ([34, 35, 35, 33], [33, 34, 35]), ([33, 36], [33, 36]), ([37, 36], [37]), ([38, 38], [38]), ([39, 38], [38]), ([39, 40, 40, 38], [38, 39, 40]), ([41, 41, 38], [38, 41]), ([42, 38], [38, 42]), ([38, 43], [38, 43]), ([44, 42], [44]), ([45], [45]), ([46, 45], [45, 46]), ([45, 45], [45]), ([47, 48, 48, 45], [45, 47, 48]), ([45, 49], [45, 49]), ([50, 49], [50]), ([51], [51]), ([52, 51], [51, 52]), ([51], [51]), ([51], [51]), ([54, 55, 51], [51, 54, 55]), ([53, 56, 51, 51], [51, 53, 56]), ([51, 57], [51, 57]), ([58, 57], [58]), ([59, 59], [59]), ([60, 60, 59], [59, 60]), ([59, 61], [59, 61]), ([62, 61], [62]), ([63, 63], [63]), ([64, 64, 63], [63, 64]), ([65, 63], [63, 65]), ([63, 66], [63, 66]), ([67, 65, 0, 1, 2, 3, 4, 5, 6, 7, 8, 9, 10, 11, 12, 13, 14, 15, 16, 17, 18, 19, 20, 21, 22, 23, 24, 25, 26, 27, 28, 29, 30, 31, 32, 33, 34, 35, 36, 37, 38, 39, 40, 41, 42, 43, 44, 45, 46, 47, 48, 49, 50, 51, 52, 53, 54, 55, 56, 57, 58, 59, 60, 61, 62, 63, 64, 65, 66, 67], [67])])
def incipitlaw19_awake.B3 : List Nat := [0, 0, 0, 6, 15, 31, 63, 127, 255, 511, 1023, 2047, 4095, 8191, 16383, 32767, 65535, 131071, 262143, 524287, 1048575, 2097151, 4194303, 8388607, 16777215, 33554431, 67108863, 134217727, 268435455, 536870911, 1073741823, 2147483647, 4294967295, 8589934591, 17179869183, 34359738367, 68719476735, 137438953471, 274877906943, 549755813887, 1099511627775, 2199023255551, 4398046511103, 8796093022207, 17592186044415, 35184372088831, 70368744177663, 140737488355327, 70368744177663, 562949953421311, 1125899906842623, 2251799813685247, 4503599627370495, 9007199254740991, 4503599627370495, 4503599627370495, 58546795155816447, 144115188075855871, 288230376151711743, 576460752303423487, 1152921504606846975, 2305843009213693951, 4611686018427387903, 9223372036854775807, 18446744073709551615, 36893488147419103231, 73786976294838206463, 147573952589676412927, 295147905179352825855]
theorem incipitlaw19_awake.tab3 : rtab .any (opsOf Try.f10 3) = incipitlaw19_awake.T3 := by kernel_rfl
theorem incipitlaw19_awake.bits3 : waitsOk incipitlaw19_awake.T3.2 incipitlaw19_awake.B3 = true := by kernel_rfl
set_option maxHeartbeats 8000000 in
set_option maxRecDepth 100000 in
theorem incipitlaw19_awake.calls (k : Nat)  (r : Bool) (w : World) (hT : r = true) (h : incipitlaw19_awake.f k  = some r) :
  Calls Try.prog 10 #[] w fun e w' => e = .returned (.bool r) ∧ Below w.heap.size w w' := by
 have hu47 := Try.underlying47
 have hu36 := Try.underlying36
 have HB := Sd.mk (Below.refl w.heap.size w)
 have HT := Sd.mk hT
 clear hT
 have H : ((axis_Of.f k (([5, 3, 4, 9, 0] : List Int))).bind fun t191 => ((lw_one.f 1 5).bind fun t194 => ((lw_one.f 6 9).bind fun t197 => ((lw_one.f 1 3).bind fun t200 => ((lw_one.f 4 4).bind fun t203 => ((axis_And.f k (([(⟨t194, t197⟩ : S47), (⟨t200, t203⟩ : S47)] : List (S47)))).bind fun bt209 => ((rf_Same.f k t191 (([(⟨3, 5⟩ : S36), (⟨9, 9⟩ : S36)] : List (S36)))).bind fun t219 => (if t219 = true then ((lw_one.f 1 3).bind fun t220 => ((lw_one.f 4 6).bind fun t223 => ((axis_Union.f (([t220, t223] : List (List (S36))))).bind fun t229 => ((lw_one.f 1 6).bind fun t232 => ((rf_Same.f k t229 t232).bind fun t235 => (if t235 = true then ((lw_one.f 4 2).bind fun t236 => ((axis_Union.f (([t236] : List (List (S36))))).bind fun t242 => (if (t242.length : Int) = 0 then ((lw_one.f 1 5).bind fun t245 => ((lw_one.f 4 9).bind fun t248 => ((axis_Meet.f k (([t245, t248] : List (List (S36))))).bind fun t254 => ((lw_one.f 4 5).bind fun t257 => ((rf_Same.f k t254 t257).bind fun t260 => (if t260 = true then ((axis_Meet.f k ([] : List (List (S36)))).bind fun t261 => ((lw_one.f 1 2147483647).bind fun t264 => ((rf_Same.f k t261 t264).bind fun t267 => (if t267 = true then ((axis_Rest.f k ([] : List (S36))).bind fun t268 => ((lw_one.f 1 2147483647).bind fun t271 => ((rf_Same.f k t268 t271).bind fun t274 => (if t274 = true then ((lw_one.f 3 5).bind fun t275 => ((lw_one.f 4 9).bind fun t278 => (if t275.length + t278.length < 17592186044416 then ((axis_Count.f k (t275 ++ t278)).bind fun t284 => (if t284 = 7 then ((lw_one.f 1 3).bind fun t285 => ((rf_Same.f k bt209.1 t285).bind fun t288 => (if t288 = true then ((rf_Same.f k bt209.2 (([(⟨4, 4⟩ : S36), (⟨6, 9⟩ : S36)] : List (S36)))).bind fun t292 => (if t292 = true then ((lw_one.f 1 1).bind fun t293 => ((axis_May.f k t293).bind fun t296 => (if t296 = true then ((lw_one.f 0 1).bind fun t297 => ((axis_May.f k t297).bind fun t300 => (some (!t300)))) else (some false)))) else (some false))) else (some false)))) else (some false))) else (none)))) else (some false))))) else (some false))))) else (some false))))))) else (some false)))) else (some false))))))) else (some false))))))))) = some r := h
 clear h
 obtain ⟨y188, hy188⟩ : ∃ y_ : List Int, y_ = (([5, 3, 4, 9, 0] : List Int)) := ⟨_, rfl⟩
 replace H : ((axis_Of.f k y188).bind fun t191 => ((lw_one.f 1 5).bind fun t194 => ((lw_one.f 6 9).bind fun t197 => ((lw_one.f 1 3).bind fun t200 => ((lw_one.f 4 4).bind fun t203 => ((axis_And.f k (([(⟨t194, t197⟩ : S47), (⟨t200, t203⟩ : S47)] : List (S47)))).bind fun bt209 => ((rf_Same.f k t191 (([(⟨3, 5⟩ : S36), (⟨9, 9⟩ : S36)] : List (S36)))).bind fun t219 => (if t219 = true then ((lw_one.f 1 3).bind fun t220 => ((lw_one.f 4 6).bind fun t223 => ((axis_Union.f (([t220, t223] : List (List (S36))))).bind fun t229 => ((lw_one.f 1 6).bind fun t232 => ((rf_Same.f k t229 t232).bind fun t235 => (if t235 = true then ((lw_one.f 4 2).bind fun t236 => ((axis_Union.f (([t236] : List (List (S36))))).bind fun t242 => (if (t242.length : Int) = 0 then ((lw_one.f 1 5).bind fun t245 => ((lw_one.f 4 9).bind fun t248 => ((axis_Meet.f k (([t245, t248] : List (List (S36))))).bind fun t254 => ((lw_one.f 4 5).bind fun t257 => ((rf_Same.f k t254 t257).bind fun t260 => (if t260 = true then ((axis_Meet.f k ([] : List (List (S36)))).bind fun t261 => ((lw_one.f 1 2147483647).bind fun t264 => ((rf_Same.f k t261 t264).bind fun t267 => (if t267 = true then ((axis_Rest.f k ([] : List (S36))).bind fun t268 => ((lw_one.f 1 2147483647).bind fun t271 => ((rf_Same.f k t268 t271).bind fun t274 => (if t274 = true then ((lw_one.f 3 5).bind fun t275 => ((lw_one.f 4 9).bind fun t278 => (if t275.length + t278.length < 17592186044416 then ((axis_Count.f k (t275 ++ t278)).bind fun t284 => (if t284 = 7 then ((lw_one.f 1 3).bind fun t285 => ((rf_Same.f k bt209.1 t285).bind fun t288 => (if t288 = true then ((rf_Same.f k bt209.2 (([(⟨4, 4⟩ : S36), (⟨6, 9⟩ : S36)] : List (S36)))).bind fun t292 => (if t292 = true then ((lw_one.f 1 1).bind fun t293 => ((axis_May.f k t293).bind fun t296 => (if t296 = true then ((lw_one.f 0 1).bind fun t297 => ((axis_May.f k t297).bind fun t300 => (some (!t300)))) else (some false)))) else (some false))) else (some false)))) else (some false))) else (none)))) else (some false))))) else (some false))))) else (some false))))))) else (some false)))) else (some false))))))) else (some false))))))))) = some r := by first | (rw [hy188]; with_reducible exact H) | (have H2_ := (Option.bind_some _ _).symm.trans H; rw [hy188]; with_reducible exact H2_) | (have H2_ := (Option.bind_some _ _).symm.trans H; with_reducible exact H2_) | with_reducible exact H | (rw [hy188]; exact H) | exact H
 have Ny188 := Sd.mk hy188
 clear hy188
 replace H := Option.bind_eq_some_iff.mp H
 obtain ⟨t191, A10, H⟩ := H
 replace H : ((lw_one.f 1 5).bind fun t194 => ((lw_one.f 6 9).bind fun t197 => ((lw_one.f 1 3).bind fun t200 => ((lw_one.f 4 4).bind fun t203 => ((axis_And.f k (([(⟨t194, t197⟩ : S47), (⟨t200, t203⟩ : S47)] : List (S47)))).bind fun bt209 => ((rf_Same.f k t191 (([(⟨3, 5⟩ : S36), (⟨9, 9⟩ : S36)] : List (S36)))).bind fun t219 => (if t219 = true then ((lw_one.f 1 3).bind fun t220 => ((lw_one.f 4 6).bind fun t223 => ((axis_Union.f (([t220, t223] : List (List (S36))))).bind fun t229 => ((lw_one.f 1 6).bind fun t232 => ((rf_Same.f k t229 t232).bind fun t235 => (if t235 = true then ((lw_one.f 4 2).bind fun t236 => ((axis_Union.f (([t236] : List (List (S36))))).bind fun t242 => (if (t242.length : Int) = 0 then ((lw_one.f 1 5).bind fun t245 => ((lw_one.f 4 9).bind fun t248 => ((axis_Meet.f k (([t245, t248] : List (List (S36))))).bind fun t254 => ((lw_one.f 4 5).bind fun t257 => ((rf_Same.f k t254 t257).bind fun t260 => (if t260 = true then ((axis_Meet.f k ([] : List (List (S36)))).bind fun t261 => ((lw_one.f 1 2147483647).bind fun t264 => ((rf_Same.f k t261 t264).bind fun t267 => (if t267 = true then ((axis_Rest.f k ([] : List (S36))).bind fun t268 => ((lw_one.f 1 2147483647).bind fun t271 => ((rf_Same.f k t268 t271).bind fun t274 => (if t274 = true then ((lw_one.f 3 5).bind fun t275 => ((lw_one.f 4 9).bind fun t278 => (if t275.length + t278.length < 17592186044416 then ((axis_Count.f k (t275 ++ t278)).bind fun t284 => (if t284 = 7 then ((lw_one.f 1 3).bind fun t285 => ((rf_Same.f k bt209.1 t285).bind fun t288 => (if t288 = true then ((rf_Same.f k bt209.2 (([(⟨4, 4⟩ : S36), (⟨6, 9⟩ : S36)] : List (S36)))).bind fun t292 => (if t292 = true then ((lw_one.f 1 1).bind fun t293 => ((axis_May.f k t293).bind fun t296 => (if t296 = true then ((lw_one.f 0 1).bind fun t297 => ((axis_May.f k t297).bind fun t300 => (some (!t300)))) else (some false)))) else (some false))) else (some false)))) else (some false))) else (none)))) else (some false))))) else (some false))))) else (some false))))))) else (some false)))) else (some false))))))) else (some false)))))))) = some r := H
 have A1 := Sd.mk A10
 clear A10
 replace H := Option.bind_eq_some_iff.mp H
 obtain ⟨t194, A20, H⟩ := H
 replace H : ((lw_one.f 6 9).bind fun t197 => ((lw_one.f 1 3).bind fun t200 => ((lw_one.f 4 4).bind fun t203 => ((axis_And.f k (([(⟨t194, t197⟩ : S47), (⟨t200, t203⟩ : S47)] : List (S47)))).bind fun bt209 => ((rf_Same.f k t191 (([(⟨3, 5⟩ : S36), (⟨9, 9⟩ : S36)] : List (S36)))).bind fun t219 => (if t219 = true then ((lw_one.f 1 3).bind fun t220 => ((lw_one.f 4 6).bind fun t223 => ((axis_Union.f (([t220, t223] : List (List (S36))))).bind fun t229 => ((lw_one.f 1 6).bind fun t232 => ((rf_Same.f k t229 t232).bind fun t235 => (if t235 = true then ((lw_one.f 4 2).bind fun t236 => ((axis_Union.f (([t236] : List (List (S36))))).bind fun t242 => (if (t242.length : Int) = 0 then ((lw_one.f 1 5).bind fun t245 => ((lw_one.f 4 9).bind fun t248 => ((axis_Meet.f k (([t245, t248] : List (List (S36))))).bind fun t254 => ((lw_one.f 4 5).bind fun t257 => ((rf_Same.f k t254 t257).bind fun t260 => (if t260 = true then ((axis_Meet.f k ([] : List (List (S36)))).bind fun t261 => ((lw_one.f 1 2147483647).bind fun t264 => ((rf_Same.f k t261 t264).bind fun t267 => (if t267 = true then ((axis_Rest.f k ([] : List (S36))).bind fun t268 => ((lw_one.f 1 2147483647).bind fun t271 => ((rf_Same.f k t268 t271).bind fun t274 => (if t274 = true then ((lw_one.f 3 5).bind fun t275 => ((lw_one.f 4 9).bind fun t278 => (if t275.length + t278.length < 17592186044416 then ((axis_Count.f k (t275 ++ t278)).bind fun t284 => (if t284 = 7 then ((lw_one.f 1 3).bind fun t285 => ((rf_Same.f k bt209.1 t285).bind fun t288 => (if t288 = true then ((rf_Same.f k bt209.2 (([(⟨4, 4⟩ : S36), (⟨6, 9⟩ : S36)] : List (S36)))).bind fun t292 => (if t292 = true then ((lw_one.f 1 1).bind fun t293 => ((axis_May.f k t293).bind fun t296 => (if t296 = true then ((lw_one.f 0 1).bind fun t297 => ((axis_May.f k t297).bind fun t300 => (some (!t300)))) else (some false)))) else (some false))) else (some false)))) else (some false))) else (none)))) else (some false))))) else (some false))))) else (some false))))))) else (some false)))) else (some false))))))) else (some false))))))) = some r := H
 have A2 := Sd.mk A20
 clear A20
 replace H := Option.bind_eq_some_iff.mp H
 obtain ⟨t197, A30, H⟩ := H
 replace H : ((lw_one.f 1 3).bind fun t200 => ((lw_one.f 4 4).bind fun t203 => ((axis_And.f k (([(⟨t194, t197⟩ : S47), (⟨t200, t203⟩ : S47)] : List (S47)))).bind fun bt209 => ((rf_Same.f k t191 (([(⟨3, 5⟩ : S36), (⟨9, 9⟩ : S36)] : List (S36)))).bind fun t219 => (if t219 = true then ((lw_one.f 1 3).bind fun t220 => ((lw_one.f 4 6).bind fun t223 => ((axis_Union.f (([t220, t223] : List (List (S36))))).bind fun t229 => ((lw_one.f 1 6).bind fun t232 => ((rf_Same.f k t229 t232).bind fun t235 => (if t235 = true then ((lw_one.f 4 2).bind fun t236 => ((axis_Union.f (([t236] : List (List (S36))))).bind fun t242 => (if (t242.length : Int) = 0 then ((lw_one.f 1 5).bind fun t245 => ((lw_one.f 4 9).bind fun t248 => ((axis_Meet.f k (([t245, t248] : List (List (S36))))).bind fun t254 => ((lw_one.f 4 5).bind fun t257 => ((rf_Same.f k t254 t257).bind fun t260 => (if t260 = true then ((axis_Meet.f k ([] : List (List (S36)))).bind fun t261 => ((lw_one.f 1 2147483647).bind fun t264 => ((rf_Same.f k t261 t264).bind fun t267 => (if t267 = true then ((axis_Rest.f k ([] : List (S36))).bind fun t268 => ((lw_one.f 1 2147483647).bind fun t271 => ((rf_Same.f k t268 t271).bind fun t274 => (if t274 = true then ((lw_one.f 3 5).bind fun t275 => ((lw_one.f 4 9).bind fun t278 => (if t275.length + t278.length < 17592186044416 then ((axis_Count.f k (t275 ++ t278)).bind fun t284 => (if t284 = 7 then ((lw_one.f 1 3).bind fun t285 => ((rf_Same.f k bt209.1 t285).bind fun t288 => (if t288 = true then ((rf_Same.f k bt209.2 (([(⟨4, 4⟩ : S36), (⟨6, 9⟩ : S36)] : List (S36)))).bind fun t292 => (if t292 = true then ((lw_one.f 1 1).bind fun t293 => ((axis_May.f k t293).bind fun t296 => (if t296 = true then ((lw_one.f 0 1).bind fun t297 => ((axis_May.f k t297).bind fun t300 => (some (!t300)))) else (some false)))) else (some false))) else (some false)))) else (some false))) else (none)))) else (some false))))) else (some false))))) else (some false))))))) else (some false)))) else (some false))))))) else (some false)))))) = some r := H
 have A3 := Sd.mk A30
 clear A30
 replace H := Option.bind_eq_some_iff.mp H
 obtain ⟨t200, A40, H⟩ := H
 replace H : ((lw_one.f 4 4).bind fun t203 => ((axis_And.f k (([(⟨t194, t197⟩ : S47), (⟨t200, t203⟩ : S47)] : List (S47)))).bind fun bt209 => ((rf_Same.f k t191 (([(⟨3, 5⟩ : S36), (⟨9, 9⟩ : S36)] : List (S36)))).bind fun t219 => (if t219 = true then ((lw_one.f 1 3).bind fun t220 => ((lw_one.f 4 6).bind fun t223 => ((axis_Union.f (([t220, t223] : List (List (S36))))).bind fun t229 => ((lw_one.f 1 6).bind fun t232 => ((rf_Same.f k t229 t232).bind fun t235 => (if t235 = true then ((lw_one.f 4 2).bind fun t236 => ((axis_Union.f (([t236] : List (List (S36))))).bind fun t242 => (if (t242.length : Int) = 0 then ((lw_one.f 1 5).bind fun t245 => ((lw_one.f 4 9).bind fun t248 => ((axis_Meet.f k (([t245, t248] : List (List (S36))))).bind fun t254 => ((lw_one.f 4 5).bind fun t257 => ((rf_Same.f k t254 t257).bind fun t260 => (if t260 = true then ((axis_Meet.f k ([] : List (List (S36)))).bind fun t261 => ((lw_one.f 1 2147483647).bind fun t264 => ((rf_Same.f k t261 t264).bind fun t267 => (if t267 = true then ((axis_Rest.f k ([] : List (S36))).bind fun t268 => ((lw_one.f 1 2147483647).bind fun t271 => ((rf_Same.f k t268 t271).bind fun t274 => (if t274 = true then ((lw_one.f 3 5).bind fun t275 => ((lw_one.f 4 9).bind fun t278 => (if t275.length + t278.length < 17592186044416 then ((axis_Count.f k (t275 ++ t278)).bind fun t284 => (if t284 = 7 then ((lw_one.f 1 3).bind fun t285 => ((rf_Same.f k bt209.1 t285).bind fun t288 => (if t288 = true then ((rf_Same.f k bt209.2 (([(⟨4, 4⟩ : S36), (⟨6, 9⟩ : S36)] : List (S36)))).bind fun t292 => (if t292 = true then ((lw_one.f 1 1).bind fun t293 => ((axis_May.f k t293).bind fun t296 => (if t296 = true then ((lw_one.f 0 1).bind fun t297 => ((axis_May.f k t297).bind fun t300 => (some (!t300)))) else (some false)))) else (some false))) else (some false)))) else (some false))) else (none)))) else (some false))))) else (some false))))) else (some false))))))) else (some false)))) else (some false))))))) else (some false))))) = some r := H
 have A4 := Sd.mk A40
 clear A40
 replace H := Option.bind_eq_some_iff.mp H
 obtain ⟨t203, A50, H⟩ := H
 replace H : ((axis_And.f k (([(⟨t194, t197⟩ : S47), (⟨t200, t203⟩ : S47)] : List (S47)))).bind fun bt209 => ((rf_Same.f k t191 (([(⟨3, 5⟩ : S36), (⟨9, 9⟩ : S36)] : List (S36)))).bind fun t219 => (if t219 = true then ((lw_one.f 1 3).bind fun t220 => ((lw_one.f 4 6).bind fun t223 => ((axis_Union.f (([t220, t223] : List (List (S36))))).bind fun t229 => ((lw_one.f 1 6).bind fun t232 => ((rf_Same.f k t229 t232).bind fun t235 => (if t235 = true then ((lw_one.f 4 2).bind fun t236 => ((axis_Union.f (([t236] : List (List (S36))))).bind fun t242 => (if (t242.length : Int) = 0 then ((lw_one.f 1 5).bind fun t245 => ((lw_one.f 4 9).bind fun t248 => ((axis_Meet.f k (([t245, t248] : List (List (S36))))).bind fun t254 => ((lw_one.f 4 5).bind fun t257 => ((rf_Same.f k t254 t257).bind fun t260 => (if t260 = true then ((axis_Meet.f k ([] : List (List (S36)))).bind fun t261 => ((lw_one.f 1 2147483647).bind fun t264 => ((rf_Same.f k t261 t264).bind fun t267 => (if t267 = true then ((axis_Rest.f k ([] : List (S36))).bind fun t268 => ((lw_one.f 1 2147483647).bind fun t271 => ((rf_Same.f k t268 t271).bind fun t274 => (if t274 = true then ((lw_one.f 3 5).bind fun t275 => ((lw_one.f 4 9).bind fun t278 => (if t275.length + t278.length < 17592186044416 then ((axis_Count.f k (t275 ++ t278)).bind fun t284 => (if t284 = 7 then ((lw_one.f 1 3).bind fun t285 => ((rf_Same.f k bt209.1 t285).bind fun t288 => (if t288 = true then ((rf_Same.f k bt209.2 (([(⟨4, 4⟩ : S36), (⟨6, 9⟩ : S36)] : List (S36)))).bind fun t292 => (if t292 = true then ((lw_one.f 1 1).bind fun t293 => ((axis_May.f k t293).bind fun t296 => (if t296 = true then ((lw_one.f 0 1).bind fun t297 => ((axis_May.f k t297).bind fun t300 => (some (!t300)))) else (some false)))) else (some false))) else (some false)))) else (some false))) else (none)))) else (some false))))) else (some false))))) else (some false))))))) else (some false)))) else (some false))))))) else (some false)))) = some r := H
 have A5 := Sd.mk A50
 clear A50
 obtain ⟨y206, hy206⟩ : ∃ y_ : List (S47), y_ = (([(⟨t194, t197⟩ : S47), (⟨t200, t203⟩ : S47)] : List (S47))) := ⟨_, rfl⟩
 replace H : ((axis_And.f k y206).bind fun bt209 => ((rf_Same.f k t191 (([(⟨3, 5⟩ : S36), (⟨9, 9⟩ : S36)] : List (S36)))).bind fun t219 => (if t219 = true then ((lw_one.f 1 3).bind fun t220 => ((lw_one.f 4 6).bind fun t223 => ((axis_Union.f (([t220, t223] : List (List (S36))))).bind fun t229 => ((lw_one.f 1 6).bind fun t232 => ((rf_Same.f k t229 t232).bind fun t235 => (if t235 = true then ((lw_one.f 4 2).bind fun t236 => ((axis_Union.f (([t236] : List (List (S36))))).bind fun t242 => (if (t242.length : Int) = 0 then ((lw_one.f 1 5).bind fun t245 => ((lw_one.f 4 9).bind fun t248 => ((axis_Meet.f k (([t245, t248] : List (List (S36))))).bind fun t254 => ((lw_one.f 4 5).bind fun t257 => ((rf_Same.f k t254 t257).bind fun t260 => (if t260 = true then ((axis_Meet.f k ([] : List (List (S36)))).bind fun t261 => ((lw_one.f 1 2147483647).bind fun t264 => ((rf_Same.f k t261 t264).bind fun t267 => (if t267 = true then ((axis_Rest.f k ([] : List (S36))).bind fun t268 => ((lw_one.f 1 2147483647).bind fun t271 => ((rf_Same.f k t268 t271).bind fun t274 => (if t274 = true then ((lw_one.f 3 5).bind fun t275 => ((lw_one.f 4 9).bind fun t278 => (if t275.length + t278.length < 17592186044416 then ((axis_Count.f k (t275 ++ t278)).bind fun t284 => (if t284 = 7 then ((lw_one.f 1 3).bind fun t285 => ((rf_Same.f k bt209.1 t285).bind fun t288 => (if t288 = true then ((rf_Same.f k bt209.2 (([(⟨4, 4⟩ : S36), (⟨6, 9⟩ : S36)] : List (S36)))).bind fun t292 => (if t292 = true then ((lw_one.f 1 1).bind fun t293 => ((axis_May.f k t293).bind fun t296 => (if t296 = true then ((lw_one.f 0 1).bind fun t297 => ((axis_May.f k t297).bind fun t300 => (some (!t300)))) else (some false)))) else (some false))) else (some false)))) else (some false))) else (none)))) else (some false))))) else (some false))))) else (some false))))))) else (some false)))) else (some false))))))) else (some false)))) = some r := by first | (rw [hy206]; with_reducible exact H) | (have H2_ := (Option.bind_some _ _).symm.trans H; rw [hy206]; with_reducible exact H2_) | (have H2_ := (Option.bind_some _ _).symm.trans H; with_reducible exact H2_) | with_reducible exact H | (rw [hy206]; exact H) | exact H
 have Ny206 := Sd.mk hy206
 clear hy206
 replace H := Option.bind_eq_some_iff.mp H
 obtain ⟨⟨t209, t212⟩, A60, H⟩ := H
 replace H : ((rf_Same.f k t191 (([(⟨3, 5⟩ : S36), (⟨9, 9⟩ : S36)] : List (S36)))).bind fun t219 => (if t219 = true then ((lw_one.f 1 3).bind fun t220 => ((lw_one.f 4 6).bind fun t223 => ((axis_Union.f (([t220, t223] : List (List (S36))))).bind fun t229 => ((lw_one.f 1 6).bind fun t232 => ((rf_Same.f k t229 t232).bind fun t235 => (if t235 = true then ((lw_one.f 4 2).bind fun t236 => ((axis_Union.f (([t236] : List (List (S36))))).bind fun t242 => (if (t242.length : Int) = 0 then ((lw_one.f 1 5).bind fun t245 => ((lw_one.f 4 9).bind fun t248 => ((axis_Meet.f k (([t245, t248] : List (List (S36))))).bind fun t254 => ((lw_one.f 4 5).bind fun t257 => ((rf_Same.f k t254 t257).bind fun t260 => (if t260 = true then ((axis_Meet.f k ([] : List (List (S36)))).bind fun t261 => ((lw_one.f 1 2147483647).bind fun t264 => ((rf_Same.f k t261 t264).bind fun t267 => (if t267 = true then ((axis_Rest.f k ([] : List (S36))).bind fun t268 => ((lw_one.f 1 2147483647).bind fun t271 => ((rf_Same.f k t268 t271).bind fun t274 => (if t274 = true then ((lw_one.f 3 5).bind fun t275 => ((lw_one.f 4 9).bind fun t278 => (if t275.length + t278.length < 17592186044416 then ((axis_Count.f k (t275 ++ t278)).bind fun t284 => (if t284 = 7 then ((lw_one.f 1 3).bind fun t285 => ((rf_Same.f k t209 t285).bind fun t288 => (if t288 = true then ((rf_Same.f k t212 (([(⟨4, 4⟩ : S36), (⟨6, 9⟩ : S36)] : List (S36)))).bind fun t292 => (if t292 = true then ((lw_one.f 1 1).bind fun t293 => ((axis_May.f k t293).bind fun t296 => (if t296 = true then ((lw_one.f 0 1).bind fun t297 => ((axis_May.f k t297).bind fun t300 => (some (!t300)))) else (some false)))) else (some false))) else (some false)))) else (some false))) else (none)))) else (some false))))) else (some false))))) else (some false))))))) else (some false)))) else (some false))))))) else (some false))) = some r := H
 have A6 := Sd.mk A60
 clear A60
 obtain ⟨y216, hy216⟩ : ∃ y_ : List (S36), y_ = (([(⟨3, 5⟩ : S36), (⟨9, 9⟩ : S36)] : List (S36))) := ⟨_, rfl⟩
 replace H : ((rf_Same.f k t191 y216).bind fun t219 => (if t219 = true then ((lw_one.f 1 3).bind fun t220 => ((lw_one.f 4 6).bind fun t223 => ((axis_Union.f (([t220, t223] : List (List (S36))))).bind fun t229 => ((lw_one.f 1 6).bind fun t232 => ((rf_Same.f k t229 t232).bind fun t235 => (if t235 = true then ((lw_one.f 4 2).bind fun t236 => ((axis_Union.f (([t236] : List (List (S36))))).bind fun t242 => (if (t242.length : Int) = 0 then ((lw_one.f 1 5).bind fun t245 => ((lw_one.f 4 9).bind fun t248 => ((axis_Meet.f k (([t245, t248] : List (List (S36))))).bind fun t254 => ((lw_one.f 4 5).bind fun t257 => ((rf_Same.f k t254 t257).bind fun t260 => (if t260 = true then ((axis_Meet.f k ([] : List (List (S36)))).bind fun t261 => ((lw_one.f 1 2147483647).bind fun t264 => ((rf_Same.f k t261 t264).bind fun t267 => (if t267 = true then ((axis_Rest.f k ([] : List (S36))).bind fun t268 => ((lw_one.f 1 2147483647).bind fun t271 => ((rf_Same.f k t268 t271).bind fun t274 => (if t274 = true then ((lw_one.f 3 5).bind fun t275 => ((lw_one.f 4 9).bind fun t278 => (if t275.length + t278.length < 17592186044416 then ((axis_Count.f k (t275 ++ t278)).bind fun t284 => (if t284 = 7 then ((lw_one.f 1 3).bind fun t285 => ((rf_Same.f k t209 t285).bind fun t288 => (if t288 = true then ((rf_Same.f k t212 (([(⟨4, 4⟩ : S36), (⟨6, 9⟩ : S36)] : List (S36)))).bind fun t292 => (if t292 = true then ((lw_one.f 1 1).bind fun t293 => ((axis_May.f k t293).bind fun t296 => (if t296 = true then ((lw_one.f 0 1).bind fun t297 => ((axis_May.f k t297).bind fun t300 => (some (!t300)))) else (some false)))) else (some false))) else (some false)))) else (some false))) else (none)))) else (some false))))) else (some false))))) else (some false))))))) else (some false)))) else (some false))))))) else (some false))) = some r := by first | (rw [hy216]; with_reducible exact H) | (have H2_ := (Option.bind_some _ _).symm.trans H; rw [hy216]; with_reducible exact H2_) | (have H2_ := (Option.bind_some _ _).symm.trans H; with_reducible exact H2_) | with_reducible exact H | (rw [hy216]; exact H) | exact H
 have Ny216 := Sd.mk hy216
 clear hy216
 replace H := Option.bind_eq_some_iff.mp H
 obtain ⟨t219, A70, H⟩ := H
 replace H : (if t219 = true then ((lw_one.f 1 3).bind fun t220 => ((lw_one.f 4 6).bind fun t223 => ((axis_Union.f (([t220, t223] : List (List (S36))))).bind fun t229 => ((lw_one.f 1 6).bind fun t232 => ((rf_Same.f k t229 t232).bind fun t235 => (if t235 = true then ((lw_one.f 4 2).bind fun t236 => ((axis_Union.f (([t236] : List (List (S36))))).bind fun t242 => (if (t242.length : Int) = 0 then ((lw_one.f 1 5).bind fun t245 => ((lw_one.f 4 9).bind fun t248 => ((axis_Meet.f k (([t245, t248] : List (List (S36))))).bind fun t254 => ((lw_one.f 4 5).bind fun t257 => ((rf_Same.f k t254 t257).bind fun t260 => (if t260 = true then ((axis_Meet.f k ([] : List (List (S36)))).bind fun t261 => ((lw_one.f 1 2147483647).bind fun t264 => ((rf_Same.f k t261 t264).bind fun t267 => (if t267 = true then ((axis_Rest.f k ([] : List (S36))).bind fun t268 => ((lw_one.f 1 2147483647).bind fun t271 => ((rf_Same.f k t268 t271).bind fun t274 => (if t274 = true then ((lw_one.f 3 5).bind fun t275 => ((lw_one.f 4 9).bind fun t278 => (if t275.length + t278.length < 17592186044416 then ((axis_Count.f k (t275 ++ t278)).bind fun t284 => (if t284 = 7 then ((lw_one.f 1 3).bind fun t285 => ((rf_Same.f k t209 t285).bind fun t288 => (if t288 = true then ((rf_Same.f k t212 (([(⟨4, 4⟩ : S36), (⟨6, 9⟩ : S36)] : List (S36)))).bind fun t292 => (if t292 = true then ((lw_one.f 1 1).bind fun t293 => ((axis_May.f k t293).bind fun t296 => (if t296 = true then ((lw_one.f 0 1).bind fun t297 => ((axis_May.f k t297).bind fun t300 => (some (!t300)))) else (some false)))) else (some false))) else (some false)))) else (some false))) else (none)))) else (some false))))) else (some false))))) else (some false))))))) else (some false)))) else (some false))))))) else (some false)) = some r := H
 have A7 := Sd.mk A70
 clear A70
 by_cases c8 : t219 = true
 ·subst c8
  have H1 : ((lw_one.f 1 3).bind fun t220 => ((lw_one.f 4 6).bind fun t223 => ((axis_Union.f (([t220, t223] : List (List (S36))))).bind fun t229 => ((lw_one.f 1 6).bind fun t232 => ((rf_Same.f k t229 t232).bind fun t235 => (if t235 = true then ((lw_one.f 4 2).bind fun t236 => ((axis_Union.f (([t236] : List (List (S36))))).bind fun t242 => (if (t242.length : Int) = 0 then ((lw_one.f 1 5).bind fun t245 => ((lw_one.f 4 9).bind fun t248 => ((axis_Meet.f k (([t245, t248] : List (List (S36))))).bind fun t254 => ((lw_one.f 4 5).bind fun t257 => ((rf_Same.f k t254 t257).bind fun t260 => (if t260 = true then ((axis_Meet.f k ([] : List (List (S36)))).bind fun t261 => ((lw_one.f 1 2147483647).bind fun t264 => ((rf_Same.f k t261 t264).bind fun t267 => (if t267 = true then ((axis_Rest.f k ([] : List (S36))).bind fun t268 => ((lw_one.f 1 2147483647).bind fun t271 => ((rf_Same.f k t268 t271).bind fun t274 => (if t274 = true then ((lw_one.f 3 5).bind fun t275 => ((lw_one.f 4 9).bind fun t278 => (if t275.length + t278.length < 17592186044416 then ((axis_Count.f k (t275 ++ t278)).bind fun t284 => (if t284 = 7 then ((lw_one.f 1 3).bind fun t285 => ((rf_Same.f k t209 t285).bind fun t288 => (if t288 = true then ((rf_Same.f k t212 (([(⟨4, 4⟩ : S36), (⟨6, 9⟩ : S36)] : List (S36)))).bind fun t292 => (if t292 = true then ((lw_one.f 1 1).bind fun t293 => ((axis_May.f k t293).bind fun t296 => (if t296 = true then ((lw_one.f 0 1).bind fun t297 => ((axis_May.f k t297).bind fun t300 => (some (!t300)))) else (some false)))) else (some false))) else (some false)))) else (some false))) else (none)))) else (some false))))) else (some false))))) else (some false))))))) else (some false)))) else (some false))))))) = some r := by rw [if_pos rfl] at H; exact H
  clear H
  have H := H1
  clear H1
  replace H := Option.bind_eq_some_iff.mp H
  obtain ⟨t220, A90, H⟩ := H
  replace H : ((lw_one.f 4 6).bind fun t223 => ((axis_Union.f (([t220, t223] : List (List (S36))))).bind fun t229 => ((lw_one.f 1 6).bind fun t232 => ((rf_Same.f k t229 t232).bind fun t235 => (if t235 = true then ((lw_one.f 4 2).bind fun t236 => ((axis_Union.f (([t236] : List (List (S36))))).bind fun t242 => (if (t242.length : Int) = 0 then ((lw_one.f 1 5).bind fun t245 => ((lw_one.f 4 9).bind fun t248 => ((axis_Meet.f k (([t245, t248] : List (List (S36))))).bind fun t254 => ((lw_one.f 4 5).bind fun t257 => ((rf_Same.f k t254 t257).bind fun t260 => (if t260 = true then ((axis_Meet.f k ([] : List (List (S36)))).bind fun t261 => ((lw_one.f 1 2147483647).bind fun t264 => ((rf_Same.f k t261 t264).bind fun t267 => (if t267 = true then ((axis_Rest.f k ([] : List (S36))).bind fun t268 => ((lw_one.f 1 2147483647).bind fun t271 => ((rf_Same.f k t268 t271).bind fun t274 => (if t274 = true then ((lw_one.f 3 5).bind fun t275 => ((lw_one.f 4 9).bind fun t278 => (if t275.length + t278.length < 17592186044416 then ((axis_Count.f k (t275 ++ t278)).bind fun t284 => (if t284 = 7 then ((lw_one.f 1 3).bind fun t285 => ((rf_Same.f k t209 t285).bind fun t288 => (if t288 = true then ((rf_Same.f k t212 (([(⟨4, 4⟩ : S36), (⟨6, 9⟩ : S36)] : List (S36)))).bind fun t292 => (if t292 = true then ((lw_one.f 1 1).bind fun t293 => ((axis_May.f k t293).bind fun t296 => (if t296 = true then ((lw_one.f 0 1).bind fun t297 => ((axis_May.f k t297).bind fun t300 => (some (!t300)))) else (some false)))) else (some false))) else (some false)))) else (some false))) else (none)))) else (some false))))) else (some false))))) else (some false))))))) else (some false)))) else (some false)))))) = some r := H
  have A9 := Sd.mk A90
  clear A90
  replace H := Option.bind_eq_some_iff.mp H
  obtain ⟨t223, A100, H⟩ := H
  replace H : ((axis_Union.f (([t220, t223] : List (List (S36))))).bind fun t229 => ((lw_one.f 1 6).bind fun t232 => ((rf_Same.f k t229 t232).bind fun t235 => (if t235 = true then ((lw_one.f 4 2).bind fun t236 => ((axis_Union.f (([t236] : List (List (S36))))).bind fun t242 => (if (t242.length : Int) = 0 then ((lw_one.f 1 5).bind fun t245 => ((lw_one.f 4 9).bind fun t248 => ((axis_Meet.f k (([t245, t248] : List (List (S36))))).bind fun t254 => ((lw_one.f 4 5).bind fun t257 => ((rf_Same.f k t254 t257).bind fun t260 => (if t260 = true then ((axis_Meet.f k ([] : List (List (S36)))).bind fun t261 => ((lw_one.f 1 2147483647).bind fun t264 => ((rf_Same.f k t261 t264).bind fun t267 => (if t267 = true then ((axis_Rest.f k ([] : List (S36))).bind fun t268 => ((lw_one.f 1 2147483647).bind fun t271 => ((rf_Same.f k t268 t271).bind fun t274 => (if t274 = true then ((lw_one.f 3 5).bind fun t275 => ((lw_one.f 4 9).bind fun t278 => (if t275.length + t278.length < 17592186044416 then ((axis_Count.f k (t275 ++ t278)).bind fun t284 => (if t284 = 7 then ((lw_one.f 1 3).bind fun t285 => ((rf_Same.f k t209 t285).bind fun t288 => (if t288 = true then ((rf_Same.f k t212 (([(⟨4, 4⟩ : S36), (⟨6, 9⟩ : S36)] : List (S36)))).bind fun t292 => (if t292 = true then ((lw_one.f 1 1).bind fun t293 => ((axis_May.f k t293).bind fun t296 => (if t296 = true then ((lw_one.f 0 1).bind fun t297 => ((axis_May.f k t297).bind fun t300 => (some (!t300)))) else (some false)))) else (some false))) else (some false)))) else (some false))) else (none)))) else (some false))))) else (some false))))) else (some false))))))) else (some false)))) else (some false))))) = some r := H
  have A10 := Sd.mk A100
  clear A100
  obtain ⟨y226, hy226⟩ : ∃ y_ : List (List (S36)), y_ = (([t220, t223] : List (List (S36)))) := ⟨_, rfl⟩
  replace H : ((axis_Union.f y226).bind fun t229 => ((lw_one.f 1 6).bind fun t232 => ((rf_Same.f k t229 t232).bind fun t235 => (if t235 = true then ((lw_one.f 4 2).bind fun t236 => ((axis_Union.f (([t236] : List (List (S36))))).bind fun t242 => (if (t242.length : Int) = 0 then ((lw_one.f 1 5).bind fun t245 => ((lw_one.f 4 9).bind fun t248 => ((axis_Meet.f k (([t245, t248] : List (List (S36))))).bind fun t254 => ((lw_one.f 4 5).bind fun t257 => ((rf_Same.f k t254 t257).bind fun t260 => (if t260 = true then ((axis_Meet.f k ([] : List (List (S36)))).bind fun t261 => ((lw_one.f 1 2147483647).bind fun t264 => ((rf_Same.f k t261 t264).bind fun t267 => (if t267 = true then ((axis_Rest.f k ([] : List (S36))).bind fun t268 => ((lw_one.f 1 2147483647).bind fun t271 => ((rf_Same.f k t268 t271).bind fun t274 => (if t274 = true then ((lw_one.f 3 5).bind fun t275 => ((lw_one.f 4 9).bind fun t278 => (if t275.length + t278.length < 17592186044416 then ((axis_Count.f k (t275 ++ t278)).bind fun t284 => (if t284 = 7 then ((lw_one.f 1 3).bind fun t285 => ((rf_Same.f k t209 t285).bind fun t288 => (if t288 = true then ((rf_Same.f k t212 (([(⟨4, 4⟩ : S36), (⟨6, 9⟩ : S36)] : List (S36)))).bind fun t292 => (if t292 = true then ((lw_one.f 1 1).bind fun t293 => ((axis_May.f k t293).bind fun t296 => (if t296 = true then ((lw_one.f 0 1).bind fun t297 => ((axis_May.f k t297).bind fun t300 => (some (!t300)))) else (some false)))) else (some false))) else (some false)))) else (some false))) else (none)))) else (some false))))) else (some false))))) else (some false))))))) else (some false)))) else (some false))))) = some r := by first | (rw [hy226]; with_reducible exact H) | (have H2_ := (Option.bind_some _ _).symm.trans H; rw [hy226]; with_reducible exact H2_) | (have H2_ := (Option.bind_some _ _).symm.trans H; with_reducible exact H2_) | with_reducible exact H | (rw [hy226]; exact H) | exact H
  have Ny226 := Sd.mk hy226
  clear hy226
  replace H := Option.bind_eq_some_iff.mp H
  obtain ⟨t229, A110, H⟩ := H
  replace H : ((lw_one.f 1 6).bind fun t232 => ((rf_Same.f k t229 t232).bind fun t235 => (if t235 = true then ((lw_one.f 4 2).bind fun t236 => ((axis_Union.f (([t236] : List (List (S36))))).bind fun t242 => (if (t242.length : Int) = 0 then ((lw_one.f 1 5).bind fun t245 => ((lw_one.f 4 9).bind fun t248 => ((axis_Meet.f k (([t245, t248] : List (List (S36))))).bind fun t254 => ((lw_one.f 4 5).bind fun t257 => ((rf_Same.f k t254 t257).bind fun t260 => (if t260 = true then ((axis_Meet.f k ([] : List (List (S36)))).bind fun t261 => ((lw_one.f 1 2147483647).bind fun t264 => ((rf_Same.f k t261 t264).bind fun t267 => (if t267 = true then ((axis_Rest.f k ([] : List (S36))).bind fun t268 => ((lw_one.f 1 2147483647).bind fun t271 => ((rf_Same.f k t268 t271).bind fun t274 => (if t274 = true then ((lw_one.f 3 5).bind fun t275 => ((lw_one.f 4 9).bind fun t278 => (if t275.length + t278.length < 17592186044416 then ((axis_Count.f k (t275 ++ t278)).bind fun t284 => (if t284 = 7 then ((lw_one.f 1 3).bind fun t285 => ((rf_Same.f k t209 t285).bind fun t288 => (if t288 = true then ((rf_Same.f k t212 (([(⟨4, 4⟩ : S36), (⟨6, 9⟩ : S36)] : List (S36)))).bind fun t292 => (if t292 = true then ((lw_one.f 1 1).bind fun t293 => ((axis_May.f k t293).bind fun t296 => (if t296 = true then ((lw_one.f 0 1).bind fun t297 => ((axis_May.f k t297).bind fun t300 => (some (!t300)))) else (some false)))) else (some false))) else (some false)))) else (some false))) else (none)))) else (some false))))) else (some false))))) else (some false))))))) else (some false)))) else (some false)))) = some r := H
  have A11 := Sd.mk A110
  clear A110
  replace H := Option.bind_eq_some_iff.mp H
  obtain ⟨t232, A120, H⟩ := H
  replace H : ((rf_Same.f k t229 t232).bind fun t235 => (if t235 = true then ((lw_one.f 4 2).bind fun t236 => ((axis_Union.f (([t236] : List (List (S36))))).bind fun t242 => (if (t242.length : Int) = 0 then ((lw_one.f 1 5).bind fun t245 => ((lw_one.f 4 9).bind fun t248 => ((axis_Meet.f k (([t245, t248] : List (List (S36))))).bind fun t254 => ((lw_one.f 4 5).bind fun t257 => ((rf_Same.f k t254 t257).bind fun t260 => (if t260 = true then ((axis_Meet.f k ([] : List (List (S36)))).bind fun t261 => ((lw_one.f 1 2147483647).bind fun t264 => ((rf_Same.f k t261 t264).bind fun t267 => (if t267 = true then ((axis_Rest.f k ([] : List (S36))).bind fun t268 => ((lw_one.f 1 2147483647).bind fun t271 => ((rf_Same.f k t268 t271).bind fun t274 => (if t274 = true then ((lw_one.f 3 5).bind fun t275 => ((lw_one.f 4 9).bind fun t278 => (if t275.length + t278.length < 17592186044416 then ((axis_Count.f k (t275 ++ t278)).bind fun t284 => (if t284 = 7 then ((lw_one.f 1 3).bind fun t285 => ((rf_Same.f k t209 t285).bind fun t288 => (if t288 = true then ((rf_Same.f k t212 (([(⟨4, 4⟩ : S36), (⟨6, 9⟩ : S36)] : List (S36)))).bind fun t292 => (if t292 = true then ((lw_one.f 1 1).bind fun t293 => ((axis_May.f k t293).bind fun t296 => (if t296 = true then ((lw_one.f 0 1).bind fun t297 => ((axis_May.f k t297).bind fun t300 => (some (!t300)))) else (some false)))) else (some false))) else (some false)))) else (some false))) else (none)))) else (some false))))) else (some false))))) else (some false))))))) else (some false)))) else (some false))) = some r := H
  have A12 := Sd.mk A120
  clear A120
  replace H := Option.bind_eq_some_iff.mp H
  obtain ⟨t235, A130, H⟩ := H
  replace H : (if t235 = true then ((lw_one.f 4 2).bind fun t236 => ((axis_Union.f (([t236] : List (List (S36))))).bind fun t242 => (if (t242.length : Int) = 0 then ((lw_one.f 1 5).bind fun t245 => ((lw_one.f 4 9).bind fun t248 => ((axis_Meet.f k (([t245, t248] : List (List (S36))))).bind fun t254 => ((lw_one.f 4 5).bind fun t257 => ((rf_Same.f k t254 t257).bind fun t260 => (if t260 = true then ((axis_Meet.f k ([] : List (List (S36)))).bind fun t261 => ((lw_one.f 1 2147483647).bind fun t264 => ((rf_Same.f k t261 t264).bind fun t267 => (if t267 = true then ((axis_Rest.f k ([] : List (S36))).bind fun t268 => ((lw_one.f 1 2147483647).bind fun t271 => ((rf_Same.f k t268 t271).bind fun t274 => (if t274 = true then ((lw_one.f 3 5).bind fun t275 => ((lw_one.f 4 9).bind fun t278 => (if t275.length + t278.length < 17592186044416 then ((axis_Count.f k (t275 ++ t278)).bind fun t284 => (if t284 = 7 then ((lw_one.f 1 3).bind fun t285 => ((rf_Same.f k t209 t285).bind fun t288 => (if t288 = true then ((rf_Same.f k t212 (([(⟨4, 4⟩ : S36), (⟨6, 9⟩ : S36)] : List (S36)))).bind fun t292 => (if t292 = true then ((lw_one.f 1 1).bind fun t293 => ((axis_May.f k t293).bind fun t296 => (if t296 = true then ((lw_one.f 0 1).bind fun t297 => ((axis_May.f k t297).bind fun t300 => (some (!t300)))) else (some false)))) else (some false))) else (some false)))) else (some false))) else (none)))) else (some false))))) else (some false))))) else (some false))))))) else (some false)))) else (some false)) = some r := H
  have A13 := Sd.mk A130
  clear A130
  by_cases c14 : t235 = true
  ·subst c14
   have H1 : ((lw_one.f 4 2).bind fun t236 => ((axis_Union.f (([t236] : List (List (S36))))).bind fun t242 => (if (t242.length : Int) = 0 then ((lw_one.f 1 5).bind fun t245 => ((lw_one.f 4 9).bind fun t248 => ((axis_Meet.f k (([t245, t248] : List (List (S36))))).bind fun t254 => ((lw_one.f 4 5).bind fun t257 => ((rf_Same.f k t254 t257).bind fun t260 => (if t260 = true then ((axis_Meet.f k ([] : List (List (S36)))).bind fun t261 => ((lw_one.f 1 2147483647).bind fun t264 => ((rf_Same.f k t261 t264).bind fun t267 => (if t267 = true then ((axis_Rest.f k ([] : List (S36))).bind fun t268 => ((lw_one.f 1 2147483647).bind fun t271 => ((rf_Same.f k t268 t271).bind fun t274 => (if t274 = true then ((lw_one.f 3 5).bind fun t275 => ((lw_one.f 4 9).bind fun t278 => (if t275.length + t278.length < 17592186044416 then ((axis_Count.f k (t275 ++ t278)).bind fun t284 => (if t284 = 7 then ((lw_one.f 1 3).bind fun t285 => ((rf_Same.f k t209 t285).bind fun t288 => (if t288 = true then ((rf_Same.f k t212 (([(⟨4, 4⟩ : S36), (⟨6, 9⟩ : S36)] : List (S36)))).bind fun t292 => (if t292 = true then ((lw_one.f 1 1).bind fun t293 => ((axis_May.f k t293).bind fun t296 => (if t296 = true then ((lw_one.f 0 1).bind fun t297 => ((axis_May.f k t297).bind fun t300 => (some (!t300)))) else (some false)))) else (some false))) else (some false)))) else (some false))) else (none)))) else (some false))))) else (some false))))) else (some false))))))) else (some false)))) = some r := by rw [if_pos rfl] at H; exact H
   clear H
   have H := H1
   clear H1
   replace H := Option.bind_eq_some_iff.mp H
   obtain ⟨t236, A150, H⟩ := H
   replace H : ((axis_Union.f (([t236] : List (List (S36))))).bind fun t242 => (if (t242.length : Int) = 0 then ((lw_one.f 1 5).bind fun t245 => ((lw_one.f 4 9).bind fun t248 => ((axis_Meet.f k (([t245, t248] : List (List (S36))))).bind fun t254 => ((lw_one.f 4 5).bind fun t257 => ((rf_Same.f k t254 t257).bind fun t260 => (if t260 = true then ((axis_Meet.f k ([] : List (List (S36)))).bind fun t261 => ((lw_one.f 1 2147483647).bind fun t264 => ((rf_Same.f k t261 t264).bind fun t267 => (if t267 = true then ((axis_Rest.f k ([] : List (S36))).bind fun t268 => ((lw_one.f 1 2147483647).bind fun t271 => ((rf_Same.f k t268 t271).bind fun t274 => (if t274 = true then ((lw_one.f 3 5).bind fun t275 => ((lw_one.f 4 9).bind fun t278 => (if t275.length + t278.length < 17592186044416 then ((axis_Count.f k (t275 ++ t278)).bind fun t284 => (if t284 = 7 then ((lw_one.f 1 3).bind fun t285 => ((rf_Same.f k t209 t285).bind fun t288 => (if t288 = true then ((rf_Same.f k t212 (([(⟨4, 4⟩ : S36), (⟨6, 9⟩ : S36)] : List (S36)))).bind fun t292 => (if t292 = true then ((lw_one.f 1 1).bind fun t293 => ((axis_May.f k t293).bind fun t296 => (if t296 = true then ((lw_one.f 0 1).bind fun t297 => ((axis_May.f k t297).bind fun t300 => (some (!t300)))) else (some false)))) else (some false))) else (some false)))) else (some false))) else (none)))) else (some false))))) else (some false))))) else (some false))))))) else (some false))) = some r := H
   have A15 := Sd.mk A150
   clear A150
   obtain ⟨y239, hy239⟩ : ∃ y_ : List (List (S36)), y_ = (([t236] : List (List (S36)))) := ⟨_, rfl⟩
   replace H : ((axis_Union.f y239).bind fun t242 => (if (t242.length : Int) = 0 then ((lw_one.f 1 5).bind fun t245 => ((lw_one.f 4 9).bind fun t248 => ((axis_Meet.f k (([t245, t248] : List (List (S36))))).bind fun t254 => ((lw_one.f 4 5).bind fun t257 => ((rf_Same.f k t254 t257).bind fun t260 => (if t260 = true then ((axis_Meet.f k ([] : List (List (S36)))).bind fun t261 => ((lw_one.f 1 2147483647).bind fun t264 => ((rf_Same.f k t261 t264).bind fun t267 => (if t267 = true then ((axis_Rest.f k ([] : List (S36))).bind fun t268 => ((lw_one.f 1 2147483647).bind fun t271 => ((rf_Same.f k t268 t271).bind fun t274 => (if t274 = true then ((lw_one.f 3 5).bind fun t275 => ((lw_one.f 4 9).bind fun t278 => (if t275.length + t278.length < 17592186044416 then ((axis_Count.f k (t275 ++ t278)).bind fun t284 => (if t284 = 7 then ((lw_one.f 1 3).bind fun t285 => ((rf_Same.f k t209 t285).bind fun t288 => (if t288 = true then ((rf_Same.f k t212 (([(⟨4, 4⟩ : S36), (⟨6, 9⟩ : S36)] : List (S36)))).bind fun t292 => (if t292 = true then ((lw_one.f 1 1).bind fun t293 => ((axis_May.f k t293).bind fun t296 => (if t296 = true then ((lw_one.f 0 1).bind fun t297 => ((axis_May.f k t297).bind fun t300 => (some (!t300)))) else (some false)))) else (some false))) else (some false)))) else (some false))) else (none)))) else (some false))))) else (some false))))) else (some false))))))) else (some false))) = some r := by first | (rw [hy239]; with_reducible exact H) | (have H2_ := (Option.bind_some _ _).symm.trans H; rw [hy239]; with_reducible exact H2_) | (have H2_ := (Option.bind_some _ _).symm.trans H; with_reducible exact H2_) | with_reducible exact H | (rw [hy239]; exact H) | exact H
   have Ny239 := Sd.mk hy239
   clear hy239
   replace H := Option.bind_eq_some_iff.mp H
   obtain ⟨t242, A160, H⟩ := H
   replace H : (if (t242.length : Int) = 0 then ((lw_one.f 1 5).bind fun t245 => ((lw_one.f 4 9).bind fun t248 => ((axis_Meet.f k (([t245, t248] : List (List (S36))))).bind fun t254 => ((lw_one.f 4 5).bind fun t257 => ((rf_Same.f k t254 t257).bind fun t260 => (if t260 = true then ((axis_Meet.f k ([] : List (List (S36)))).bind fun t261 => ((lw_one.f 1 2147483647).bind fun t264 => ((rf_Same.f k t261 t264).bind fun t267 => (if t267 = true then ((axis_Rest.f k ([] : List (S36))).bind fun t268 => ((lw_one.f 1 2147483647).bind fun t271 => ((rf_Same.f k t268 t271).bind fun t274 => (if t274 = true then ((lw_one.f 3 5).bind fun t275 => ((lw_one.f 4 9).bind fun t278 => (if t275.length + t278.length < 17592186044416 then ((axis_Count.f k (t275 ++ t278)).bind fun t284 => (if t284 = 7 then ((lw_one.f 1 3).bind fun t285 => ((rf_Same.f k t209 t285).bind fun t288 => (if t288 = true then ((rf_Same.f k t212 (([(⟨4, 4⟩ : S36), (⟨6, 9⟩ : S36)] : List (S36)))).bind fun t292 => (if t292 = true then ((lw_one.f 1 1).bind fun t293 => ((axis_May.f k t293).bind fun t296 => (if t296 = true then ((lw_one.f 0 1).bind fun t297 => ((axis_May.f k t297).bind fun t300 => (some (!t300)))) else (some false)))) else (some false))) else (some false)))) else (some false))) else (none)))) else (some false))))) else (some false))))) else (some false))))))) else (some false)) = some r := H
   have A16 := Sd.mk A160
   clear A160
   by_cases c17 : (t242.length : Int) = 0
   ·rw [if_pos c17] at H
    have c17b0 : ((t242.length : Int) == 0) = true := beq_iff_eq.mpr c17
    have c17b1 : ((t242.length : Int) != 0) = false := bne_eq_false_iff_eq.mpr c17
    clear c17
    replace H := Option.bind_eq_some_iff.mp H
    obtain ⟨t245, A180, H⟩ := H
    replace H : ((lw_one.f 4 9).bind fun t248 => ((axis_Meet.f k (([t245, t248] : List (List (S36))))).bind fun t254 => ((lw_one.f 4 5).bind fun t257 => ((rf_Same.f k t254 t257).bind fun t260 => (if t260 = true then ((axis_Meet.f k ([] : List (List (S36)))).bind fun t261 => ((lw_one.f 1 2147483647).bind fun t264 => ((rf_Same.f k t261 t264).bind fun t267 => (if t267 = true then ((axis_Rest.f k ([] : List (S36))).bind fun t268 => ((lw_one.f 1 2147483647).bind fun t271 => ((rf_Same.f k t268 t271).bind fun t274 => (if t274 = true then ((lw_one.f 3 5).bind fun t275 => ((lw_one.f 4 9).bind fun t278 => (if t275.length + t278.length < 17592186044416 then ((axis_Count.f k (t275 ++ t278)).bind fun t284 => (if t284 = 7 then ((lw_one.f 1 3).bind fun t285 => ((rf_Same.f k t209 t285).bind fun t288 => (if t288 = true then ((rf_Same.f k t212 (([(⟨4, 4⟩ : S36), (⟨6, 9⟩ : S36)] : List (S36)))).bind fun t292 => (if t292 = true then ((lw_one.f 1 1).bind fun t293 => ((axis_May.f k t293).bind fun t296 => (if t296 = true then ((lw_one.f 0 1).bind fun t297 => ((axis_May.f k t297).bind fun t300 => (some (!t300)))) else (some false)))) else (some false))) else (some false)))) else (some false))) else (none)))) else (some false))))) else (some false))))) else (some false)))))) = some r := H
    have A18 := Sd.mk A180
    clear A180
    replace H := Option.bind_eq_some_iff.mp H
    obtain ⟨t248, A190, H⟩ := H
    replace H : ((axis_Meet.f k (([t245, t248] : List (List (S36))))).bind fun t254 => ((lw_one.f 4 5).bind fun t257 => ((rf_Same.f k t254 t257).bind fun t260 => (if t260 = true then ((axis_Meet.f k ([] : List (List (S36)))).bind fun t261 => ((lw_one.f 1 2147483647).bind fun t264 => ((rf_Same.f k t261 t264).bind fun t267 => (if t267 = true then ((axis_Rest.f k ([] : List (S36))).bind fun t268 => ((lw_one.f 1 2147483647).bind fun t271 => ((rf_Same.f k t268 t271).bind fun t274 => (if t274 = true then ((lw_one.f 3 5).bind fun t275 => ((lw_one.f 4 9).bind fun t278 => (if t275.length + t278.length < 17592186044416 then ((axis_Count.f k (t275 ++ t278)).bind fun t284 => (if t284 = 7 then ((lw_one.f 1 3).bind fun t285 => ((rf_Same.f k t209 t285).bind fun t288 => (if t288 = true then ((rf_Same.f k t212 (([(⟨4, 4⟩ : S36), (⟨6, 9⟩ : S36)] : List (S36)))).bind fun t292 => (if t292 = true then ((lw_one.f 1 1).bind fun t293 => ((axis_May.f k t293).bind fun t296 => (if t296 = true then ((lw_one.f 0 1).bind fun t297 => ((axis_May.f k t297).bind fun t300 => (some (!t300)))) else (some false)))) else (some false))) else (some false)))) else (some false))) else (none)))) else (some false))))) else (some false))))) else (some false))))) = some r := H
    have A19 := Sd.mk A190
    clear A190
    obtain ⟨y251, hy251⟩ : ∃ y_ : List (List (S36)), y_ = (([t245, t248] : List (List (S36)))) := ⟨_, rfl⟩
    replace H : ((axis_Meet.f k y251).bind fun t254 => ((lw_one.f 4 5).bind fun t257 => ((rf_Same.f k t254 t257).bind fun t260 => (if t260 = true then ((axis_Meet.f k ([] : List (List (S36)))).bind fun t261 => ((lw_one.f 1 2147483647).bind fun t264 => ((rf_Same.f k t261 t264).bind fun t267 => (if t267 = true then ((axis_Rest.f k ([] : List (S36))).bind fun t268 => ((lw_one.f 1 2147483647).bind fun t271 => ((rf_Same.f k t268 t271).bind fun t274 => (if t274 = true then ((lw_one.f 3 5).bind fun t275 => ((lw_one.f 4 9).bind fun t278 => (if t275.length + t278.length < 17592186044416 then ((axis_Count.f k (t275 ++ t278)).bind fun t284 => (if t284 = 7 then ((lw_one.f 1 3).bind fun t285 => ((rf_Same.f k t209 t285).bind fun t288 => (if t288 = true then ((rf_Same.f k t212 (([(⟨4, 4⟩ : S36), (⟨6, 9⟩ : S36)] : List (S36)))).bind fun t292 => (if t292 = true then ((lw_one.f 1 1).bind fun t293 => ((axis_May.f k t293).bind fun t296 => (if t296 = true then ((lw_one.f 0 1).bind fun t297 => ((axis_May.f k t297).bind fun t300 => (some (!t300)))) else (some false)))) else (some false))) else (some false)))) else (some false))) else (none)))) else (some false))))) else (some false))))) else (some false))))) = some r := by first | (rw [hy251]; with_reducible exact H) | (have H2_ := (Option.bind_some _ _).symm.trans H; rw [hy251]; with_reducible exact H2_) | (have H2_ := (Option.bind_some _ _).symm.trans H; with_reducible exact H2_) | with_reducible exact H | (rw [hy251]; exact H) | exact H
    have Ny251 := Sd.mk hy251
    clear hy251
    replace H := Option.bind_eq_some_iff.mp H
    obtain ⟨t254, A200, H⟩ := H
    replace H : ((lw_one.f 4 5).bind fun t257 => ((rf_Same.f k t254 t257).bind fun t260 => (if t260 = true then ((axis_Meet.f k ([] : List (List (S36)))).bind fun t261 => ((lw_one.f 1 2147483647).bind fun t264 => ((rf_Same.f k t261 t264).bind fun t267 => (if t267 = true then ((axis_Rest.f k ([] : List (S36))).bind fun t268 => ((lw_one.f 1 2147483647).bind fun t271 => ((rf_Same.f k t268 t271).bind fun t274 => (if t274 = true then ((lw_one.f 3 5).bind fun t275 => ((lw_one.f 4 9).bind fun t278 => (if t275.length + t278.length < 17592186044416 then ((axis_Count.f k (t275 ++ t278)).bind fun t284 => (if t284 = 7 then ((lw_one.f 1 3).bind fun t285 => ((rf_Same.f k t209 t285).bind fun t288 => (if t288 = true then ((rf_Same.f k t212 (([(⟨4, 4⟩ : S36), (⟨6, 9⟩ : S36)] : List (S36)))).bind fun t292 => (if t292 = true then ((lw_one.f 1 1).bind fun t293 => ((axis_May.f k t293).bind fun t296 => (if t296 = true then ((lw_one.f 0 1).bind fun t297 => ((axis_May.f k t297).bind fun t300 => (some (!t300)))) else (some false)))) else (some false))) else (some false)))) else (some false))) else (none)))) else (some false))))) else (some false))))) else (some false)))) = some r := H
    have A20 := Sd.mk A200
    clear A200
    replace H := Option.bind_eq_some_iff.mp H
    obtain ⟨t257, A210, H⟩ := H
    replace H : ((rf_Same.f k t254 t257).bind fun t260 => (if t260 = true then ((axis_Meet.f k ([] : List (List (S36)))).bind fun t261 => ((lw_one.f 1 2147483647).bind fun t264 => ((rf_Same.f k t261 t264).bind fun t267 => (if t267 = true then ((axis_Rest.f k ([] : List (S36))).bind fun t268 => ((lw_one.f 1 2147483647).bind fun t271 => ((rf_Same.f k t268 t271).bind fun t274 => (if t274 = true then ((lw_one.f 3 5).bind fun t275 => ((lw_one.f 4 9).bind fun t278 => (if t275.length + t278.length < 17592186044416 then ((axis_Count.f k (t275 ++ t278)).bind fun t284 => (if t284 = 7 then ((lw_one.f 1 3).bind fun t285 => ((rf_Same.f k t209 t285).bind fun t288 => (if t288 = true then ((rf_Same.f k t212 (([(⟨4, 4⟩ : S36), (⟨6, 9⟩ : S36)] : List (S36)))).bind fun t292 => (if t292 = true then ((lw_one.f 1 1).bind fun t293 => ((axis_May.f k t293).bind fun t296 => (if t296 = true then ((lw_one.f 0 1).bind fun t297 => ((axis_May.f k t297).bind fun t300 => (some (!t300)))) else (some false)))) else (some false))) else (some false)))) else (some false))) else (none)))) else (some false))))) else (some false))))) else (some false))) = some r := H
    have A21 := Sd.mk A210
    clear A210
    replace H := Option.bind_eq_some_iff.mp H
    obtain ⟨t260, A220, H⟩ := H
    replace H : (if t260 = true then ((axis_Meet.f k ([] : List (List (S36)))).bind fun t261 => ((lw_one.f 1 2147483647).bind fun t264 => ((rf_Same.f k t261 t264).bind fun t267 => (if t267 = true then ((axis_Rest.f k ([] : List (S36))).bind fun t268 => ((lw_one.f 1 2147483647).bind fun t271 => ((rf_Same.f k t268 t271).bind fun t274 => (if t274 = true then ((lw_one.f 3 5).bind fun t275 => ((lw_one.f 4 9).bind fun t278 => (if t275.length + t278.length < 17592186044416 then ((axis_Count.f k (t275 ++ t278)).bind fun t284 => (if t284 = 7 then ((lw_one.f 1 3).bind fun t285 => ((rf_Same.f k t209 t285).bind fun t288 => (if t288 = true then ((rf_Same.f k t212 (([(⟨4, 4⟩ : S36), (⟨6, 9⟩ : S36)] : List (S36)))).bind fun t292 => (if t292 = true then ((lw_one.f 1 1).bind fun t293 => ((axis_May.f k t293).bind fun t296 => (if t296 = true then ((lw_one.f 0 1).bind fun t297 => ((axis_May.f k t297).bind fun t300 => (some (!t300)))) else (some false)))) else (some false))) else (some false)))) else (some false))) else (none)))) else (some false))))) else (some false))))) else (some false)) = some r := H
    have A22 := Sd.mk A220
    clear A220
    by_cases c23 : t260 = true
    ·subst c23
     have H1 : ((axis_Meet.f k ([] : List (List (S36)))).bind fun t261 => ((lw_one.f 1 2147483647).bind fun t264 => ((rf_Same.f k t261 t264).bind fun t267 => (if t267 = true then ((axis_Rest.f k ([] : List (S36))).bind fun t268 => ((lw_one.f 1 2147483647).bind fun t271 => ((rf_Same.f k t268 t271).bind fun t274 => (if t274 = true then ((lw_one.f 3 5).bind fun t275 => ((lw_one.f 4 9).bind fun t278 => (if t275.length + t278.length < 17592186044416 then ((axis_Count.f k (t275 ++ t278)).bind fun t284 => (if t284 = 7 then ((lw_one.f 1 3).bind fun t285 => ((rf_Same.f k t209 t285).bind fun t288 => (if t288 = true then ((rf_Same.f k t212 (([(⟨4, 4⟩ : S36), (⟨6, 9⟩ : S36)] : List (S36)))).bind fun t292 => (if t292 = true then ((lw_one.f 1 1).bind fun t293 => ((axis_May.f k t293).bind fun t296 => (if t296 = true then ((lw_one.f 0 1).bind fun t297 => ((axis_May.f k t297).bind fun t300 => (some (!t300)))) else (some false)))) else (some false))) else (some false)))) else (some false))) else (none)))) else (some false))))) else (some false))))) = some r := by rw [if_pos rfl] at H; exact H
     clear H
     have H := H1
     clear H1
     replace H := Option.bind_eq_some_iff.mp H
     obtain ⟨t261, A240, H⟩ := H
     replace H : ((lw_one.f 1 2147483647).bind fun t264 => ((rf_Same.f k t261 t264).bind fun t267 => (if t267 = true then ((axis_Rest.f k ([] : List (S36))).bind fun t268 => ((lw_one.f 1 2147483647).bind fun t271 => ((rf_Same.f k t268 t271).bind fun t274 => (if t274 = true then ((lw_one.f 3 5).bind fun t275 => ((lw_one.f 4 9).bind fun t278 => (if t275.length + t278.length < 17592186044416 then ((axis_Count.f k (t275 ++ t278)).bind fun t284 => (if t284 = 7 then ((lw_one.f 1 3).bind fun t285 => ((rf_Same.f k t209 t285).bind fun t288 => (if t288 = true then ((rf_Same.f k t212 (([(⟨4, 4⟩ : S36), (⟨6, 9⟩ : S36)] : List (S36)))).bind fun t292 => (if t292 = true then ((lw_one.f 1 1).bind fun t293 => ((axis_May.f k t293).bind fun t296 => (if t296 = true then ((lw_one.f 0 1).bind fun t297 => ((axis_May.f k t297).bind fun t300 => (some (!t300)))) else (some false)))) else (some false))) else (some false)))) else (some false))) else (none)))) else (some false))))) else (some false)))) = some r := H
     have A24 := Sd.mk A240
     clear A240
     replace H := Option.bind_eq_some_iff.mp H
     obtain ⟨t264, A250, H⟩ := H
     replace H : ((rf_Same.f k t261 t264).bind fun t267 => (if t267 = true then ((axis_Rest.f k ([] : List (S36))).bind fun t268 => ((lw_one.f 1 2147483647).bind fun t271 => ((rf_Same.f k t268 t271).bind fun t274 => (if t274 = true then ((lw_one.f 3 5).bind fun t275 => ((lw_one.f 4 9).bind fun t278 => (if t275.length + t278.length < 17592186044416 then ((axis_Count.f k (t275 ++ t278)).bind fun t284 => (if t284 = 7 then ((lw_one.f 1 3).bind fun t285 => ((rf_Same.f k t209 t285).bind fun t288 => (if t288 = true then ((rf_Same.f k t212 (([(⟨4, 4⟩ : S36), (⟨6, 9⟩ : S36)] : List (S36)))).bind fun t292 => (if t292 = true then ((lw_one.f 1 1).bind fun t293 => ((axis_May.f k t293).bind fun t296 => (if t296 = true then ((lw_one.f 0 1).bind fun t297 => ((axis_May.f k t297).bind fun t300 => (some (!t300)))) else (some false)))) else (some false))) else (some false)))) else (some false))) else (none)))) else (some false))))) else (some false))) = some r := H
     have A25 := Sd.mk A250
     clear A250
     replace H := Option.bind_eq_some_iff.mp H
     obtain ⟨t267, A260, H⟩ := H
     replace H : (if t267 = true then ((axis_Rest.f k ([] : List (S36))).bind fun t268 => ((lw_one.f 1 2147483647).bind fun t271 => ((rf_Same.f k t268 t271).bind fun t274 => (if t274 = true then ((lw_one.f 3 5).bind fun t275 => ((lw_one.f 4 9).bind fun t278 => (if t275.length + t278.length < 17592186044416 then ((axis_Count.f k (t275 ++ t278)).bind fun t284 => (if t284 = 7 then ((lw_one.f 1 3).bind fun t285 => ((rf_Same.f k t209 t285).bind fun t288 => (if t288 = true then ((rf_Same.f k t212 (([(⟨4, 4⟩ : S36), (⟨6, 9⟩ : S36)] : List (S36)))).bind fun t292 => (if t292 = true then ((lw_one.f 1 1).bind fun t293 => ((axis_May.f k t293).bind fun t296 => (if t296 = true then ((lw_one.f 0 1).bind fun t297 => ((axis_May.f k t297).bind fun t300 => (some (!t300)))) else (some false)))) else (some false))) else (some false)))) else (some false))) else (none)))) else (some false))))) else (some false)) = some r := H
     have A26 := Sd.mk A260
     clear A260
     by_cases c27 : t267 = true
     ·subst c27
      have H1 : ((axis_Rest.f k ([] : List (S36))).bind fun t268 => ((lw_one.f 1 2147483647).bind fun t271 => ((rf_Same.f k t268 t271).bind fun t274 => (if t274 = true then ((lw_one.f 3 5).bind fun t275 => ((lw_one.f 4 9).bind fun t278 => (if t275.length + t278.length < 17592186044416 then ((axis_Count.f k (t275 ++ t278)).bind fun t284 => (if t284 = 7 then ((lw_one.f 1 3).bind fun t285 => ((rf_Same.f k t209 t285).bind fun t288 => (if t288 = true then ((rf_Same.f k t212 (([(⟨4, 4⟩ : S36), (⟨6, 9⟩ : S36)] : List (S36)))).bind fun t292 => (if t292 = true then ((lw_one.f 1 1).bind fun t293 => ((axis_May.f k t293).bind fun t296 => (if t296 = true then ((lw_one.f 0 1).bind fun t297 => ((axis_May.f k t297).bind fun t300 => (some (!t300)))) else (some false)))) else (some false))) else (some false)))) else (some false))) else (none)))) else (some false))))) = some r := by rw [if_pos rfl] at H; exact H
      clear H
      have H := H1
      clear H1
      replace H := Option.bind_eq_some_iff.mp H
      obtain ⟨t268, A280, H⟩ := H
      replace H : ((lw_one.f 1 2147483647).bind fun t271 => ((rf_Same.f k t268 t271).bind fun t274 => (if t274 = true then ((lw_one.f 3 5).bind fun t275 => ((lw_one.f 4 9).bind fun t278 => (if t275.length + t278.length < 17592186044416 then ((axis_Count.f k (t275 ++ t278)).bind fun t284 => (if t284 = 7 then ((lw_one.f 1 3).bind fun t285 => ((rf_Same.f k t209 t285).bind fun t288 => (if t288 = true then ((rf_Same.f k t212 (([(⟨4, 4⟩ : S36), (⟨6, 9⟩ : S36)] : List (S36)))).bind fun t292 => (if t292 = true then ((lw_one.f 1 1).bind fun t293 => ((axis_May.f k t293).bind fun t296 => (if t296 = true then ((lw_one.f 0 1).bind fun t297 => ((axis_May.f k t297).bind fun t300 => (some (!t300)))) else (some false)))) else (some false))) else (some false)))) else (some false))) else (none)))) else (some false)))) = some r := H
      have A28 := Sd.mk A280
      clear A280
      replace H := Option.bind_eq_some_iff.mp H
      obtain ⟨t271, A290, H⟩ := H
      replace H : ((rf_Same.f k t268 t271).bind fun t274 => (if t274 = true then ((lw_one.f 3 5).bind fun t275 => ((lw_one.f 4 9).bind fun t278 => (if t275.length + t278.length < 17592186044416 then ((axis_Count.f k (t275 ++ t278)).bind fun t284 => (if t284 = 7 then ((lw_one.f 1 3).bind fun t285 => ((rf_Same.f k t209 t285).bind fun t288 => (if t288 = true then ((rf_Same.f k t212 (([(⟨4, 4⟩ : S36), (⟨6, 9⟩ : S36)] : List (S36)))).bind fun t292 => (if t292 = true then ((lw_one.f 1 1).bind fun t293 => ((axis_May.f k t293).bind fun t296 => (if t296 = true then ((lw_one.f 0 1).bind fun t297 => ((axis_May.f k t297).bind fun t300 => (some (!t300)))) else (some false)))) else (some false))) else (some false)))) else (some false))) else (none)))) else (some false))) = some r := H
      have A29 := Sd.mk A290
      clear A290
      replace H := Option.bind_eq_some_iff.mp H
      obtain ⟨t274, A300, H⟩ := H
      replace H : (if t274 = true then ((lw_one.f 3 5).bind fun t275 => ((lw_one.f 4 9).bind fun t278 => (if t275.length + t278.length < 17592186044416 then ((axis_Count.f k (t275 ++ t278)).bind fun t284 => (if t284 = 7 then ((lw_one.f 1 3).bind fun t285 => ((rf_Same.f k t209 t285).bind fun t288 => (if t288 = true then ((rf_Same.f k t212 (([(⟨4, 4⟩ : S36), (⟨6, 9⟩ : S36)] : List (S36)))).bind fun t292 => (if t292 = true then ((lw_one.f 1 1).bind fun t293 => ((axis_May.f k t293).bind fun t296 => (if t296 = true then ((lw_one.f 0 1).bind fun t297 => ((axis_May.f k t297).bind fun t300 => (some (!t300)))) else (some false)))) else (some false))) else (some false)))) else (some false))) else (none)))) else (some false)) = some r := H
      have A30 := Sd.mk A300
      clear A300
      by_cases c31 : t274 = true
      ·subst c31
       have H1 : ((lw_one.f 3 5).bind fun t275 => ((lw_one.f 4 9).bind fun t278 => (if t275.length + t278.length < 17592186044416 then ((axis_Count.f k (t275 ++ t278)).bind fun t284 => (if t284 = 7 then ((lw_one.f 1 3).bind fun t285 => ((rf_Same.f k t209 t285).bind fun t288 => (if t288 = true then ((rf_Same.f k t212 (([(⟨4, 4⟩ : S36), (⟨6, 9⟩ : S36)] : List (S36)))).bind fun t292 => (if t292 = true then ((lw_one.f 1 1).bind fun t293 => ((axis_May.f k t293).bind fun t296 => (if t296 = true then ((lw_one.f 0 1).bind fun t297 => ((axis_May.f k t297).bind fun t300 => (some (!t300)))) else (some false)))) else (some false))) else (some false)))) else (some false))) else (none)))) = some r := by rw [if_pos rfl] at H; exact H
       clear H
       have H := H1
       clear H1
       replace H := Option.bind_eq_some_iff.mp H
       obtain ⟨t275, A320, H⟩ := H
       replace H : ((lw_one.f 4 9).bind fun t278 => (if t275.length + t278.length < 17592186044416 then ((axis_Count.f k (t275 ++ t278)).bind fun t284 => (if t284 = 7 then ((lw_one.f 1 3).bind fun t285 => ((rf_Same.f k t209 t285).bind fun t288 => (if t288 = true then ((rf_Same.f k t212 (([(⟨4, 4⟩ : S36), (⟨6, 9⟩ : S36)] : List (S36)))).bind fun t292 => (if t292 = true then ((lw_one.f 1 1).bind fun t293 => ((axis_May.f k t293).bind fun t296 => (if t296 = true then ((lw_one.f 0 1).bind fun t297 => ((axis_May.f k t297).bind fun t300 => (some (!t300)))) else (some false)))) else (some false))) else (some false)))) else (some false))) else (none))) = some r := H
       have A32 := Sd.mk A320
       clear A320
       replace H := Option.bind_eq_some_iff.mp H
       obtain ⟨t278, A330, H⟩ := H
       replace H : (if t275.length + t278.length < 17592186044416 then ((axis_Count.f k (t275 ++ t278)).bind fun t284 => (if t284 = 7 then ((lw_one.f 1 3).bind fun t285 => ((rf_Same.f k t209 t285).bind fun t288 => (if t288 = true then ((rf_Same.f k t212 (([(⟨4, 4⟩ : S36), (⟨6, 9⟩ : S36)] : List (S36)))).bind fun t292 => (if t292 = true then ((lw_one.f 1 1).bind fun t293 => ((axis_May.f k t293).bind fun t296 => (if t296 = true then ((lw_one.f 0 1).bind fun t297 => ((axis_May.f k t297).bind fun t300 => (some (!t300)))) else (some false)))) else (some false))) else (some false)))) else (some false))) else (none)) = some r := H
       have A33 := Sd.mk A330
       clear A330
       by_cases c34 : t275.length + t278.length < 17592186044416
       ·rw [if_pos c34] at H
        have LMc34 := Sd.mk c34
        clear c34
        obtain ⟨y281, hy281⟩ : ∃ y_ : List (S36), y_ = (t275 ++ t278) := ⟨_, rfl⟩
        replace H : ((axis_Count.f k y281).bind fun t284 => (if t284 = 7 then ((lw_one.f 1 3).bind fun t285 => ((rf_Same.f k t209 t285).bind fun t288 => (if t288 = true then ((rf_Same.f k t212 (([(⟨4, 4⟩ : S36), (⟨6, 9⟩ : S36)] : List (S36)))).bind fun t292 => (if t292 = true then ((lw_one.f 1 1).bind fun t293 => ((axis_May.f k t293).bind fun t296 => (if t296 = true then ((lw_one.f 0 1).bind fun t297 => ((axis_May.f k t297).bind fun t300 => (some (!t300)))) else (some false)))) else (some false))) else (some false)))) else (some false))) = some r := by first | (rw [hy281]; with_reducible exact H) | (have H2_ := (Option.bind_some _ _).symm.trans H; rw [hy281]; with_reducible exact H2_) | (have H2_ := (Option.bind_some _ _).symm.trans H; with_reducible exact H2_) | with_reducible exact H | (rw [hy281]; exact H) | exact H
        have Ny281 := Sd.mk hy281
        clear hy281
        replace H := Option.bind_eq_some_iff.mp H
        obtain ⟨t284, A350, H⟩ := H
        replace H : (if t284 = 7 then ((lw_one.f 1 3).bind fun t285 => ((rf_Same.f k t209 t285).bind fun t288 => (if t288 = true then ((rf_Same.f k t212 (([(⟨4, 4⟩ : S36), (⟨6, 9⟩ : S36)] : List (S36)))).bind fun t292 => (if t292 = true then ((lw_one.f 1 1).bind fun t293 => ((axis_May.f k t293).bind fun t296 => (if t296 = true then ((lw_one.f 0 1).bind fun t297 => ((axis_May.f k t297).bind fun t300 => (some (!t300)))) else (some false)))) else (some false))) else (some false)))) else (some false)) = some r := H
        have A35 := Sd.mk A350
        clear A350
        by_cases c36 : t284 = 7
        ·rw [if_pos c36] at H
         have c36b0 : (t284 == 7) = true := beq_iff_eq.mpr c36
         have c36b1 : (t284 != 7) = false := bne_eq_false_iff_eq.mpr c36
         clear c36
         replace H := Option.bind_eq_some_iff.mp H
         obtain ⟨t285, A370, H⟩ := H
         replace H : ((rf_Same.f k t209 t285).bind fun t288 => (if t288 = true then ((rf_Same.f k t212 (([(⟨4, 4⟩ : S36), (⟨6, 9⟩ : S36)] : List (S36)))).bind fun t292 => (if t292 = true then ((lw_one.f 1 1).bind fun t293 => ((axis_May.f k t293).bind fun t296 => (if t296 = true then ((lw_one.f 0 1).bind fun t297 => ((axis_May.f k t297).bind fun t300 => (some (!t300)))) else (some false)))) else (some false))) else (some false))) = some r := H
         have A37 := Sd.mk A370
         clear A370
         replace H := Option.bind_eq_some_iff.mp H
         obtain ⟨t288, A380, H⟩ := H
         replace H : (if t288 = true then ((rf_Same.f k t212 (([(⟨4, 4⟩ : S36), (⟨6, 9⟩ : S36)] : List (S36)))).bind fun t292 => (if t292 = true then ((lw_one.f 1 1).bind fun t293 => ((axis_May.f k t293).bind fun t296 => (if t296 = true then ((lw_one.f 0 1).bind fun t297 => ((axis_May.f k t297).bind fun t300 => (some (!t300)))) else (some false)))) else (some false))) else (some false)) = some r := H
         have A38 := Sd.mk A380
         clear A380
         by_cases c39 : t288 = true
         ·subst c39
          have H1 : ((rf_Same.f k t212 (([(⟨4, 4⟩ : S36), (⟨6, 9⟩ : S36)] : List (S36)))).bind fun t292 => (if t292 = true then ((lw_one.f 1 1).bind fun t293 => ((axis_May.f k t293).bind fun t296 => (if t296 = true then ((lw_one.f 0 1).bind fun t297 => ((axis_May.f k t297).bind fun t300 => (some (!t300)))) else (some false)))) else (some false))) = some r := by rw [if_pos rfl] at H; exact H
          clear H
          have H := H1
          clear H1
          obtain ⟨y289, hy289⟩ : ∃ y_ : List (S36), y_ = (([(⟨4, 4⟩ : S36), (⟨6, 9⟩ : S36)] : List (S36))) := ⟨_, rfl⟩
          replace H : ((rf_Same.f k t212 y289).bind fun t292 => (if t292 = true then ((lw_one.f 1 1).bind fun t293 => ((axis_May.f k t293).bind fun t296 => (if t296 = true then ((lw_one.f 0 1).bind fun t297 => ((axis_May.f k t297).bind fun t300 => (some (!t300)))) else (some false)))) else (some false))) = some r := by first | (rw [hy289]; with_reducible exact H) | (have H2_ := (Option.bind_some _ _).symm.trans H; rw [hy289]; with_reducible exact H2_) | (have H2_ := (Option.bind_some _ _).symm.trans H; with_reducible exact H2_) | with_reducible exact H | (rw [hy289]; exact H) | exact H
          have Ny289 := Sd.mk hy289
          clear hy289
          replace H := Option.bind_eq_some_iff.mp H
          obtain ⟨t292, A400, H⟩ := H
          replace H : (if t292 = true then ((lw_one.f 1 1).bind fun t293 => ((axis_May.f k t293).bind fun t296 => (if t296 = true then ((lw_one.f 0 1).bind fun t297 => ((axis_May.f k t297).bind fun t300 => (some (!t300)))) else (some false)))) else (some false)) = some r := H
          have A40 := Sd.mk A400
          clear A400
          by_cases c41 : t292 = true
          ·subst c41
           have H1 : ((lw_one.f 1 1).bind fun t293 => ((axis_May.f k t293).bind fun t296 => (if t296 = true then ((lw_one.f 0 1).bind fun t297 => ((axis_May.f k t297).bind fun t300 => (some (!t300)))) else (some false)))) = some r := by rw [if_pos rfl] at H; exact H
           clear H
           have H := H1
           clear H1
           replace H := Option.bind_eq_some_iff.mp H
           obtain ⟨t293, A420, H⟩ := H
           replace H : ((axis_May.f k t293).bind fun t296 => (if t296 = true then ((lw_one.f 0 1).bind fun t297 => ((axis_May.f k t297).bind fun t300 => (some (!t300)))) else (some false))) = some r := H
           have A42 := Sd.mk A420
           clear A420
           replace H := Option.bind_eq_some_iff.mp H
           obtain ⟨t296, A430, H⟩ := H
           replace H : (if t296 = true then ((lw_one.f 0 1).bind fun t297 => ((axis_May.f k t297).bind fun t300 => (some (!t300)))) else (some false)) = some r := H
           have A43 := Sd.mk A430
           clear A430
           by_cases c44 : t296 = true
           ·subst c44
            have H1 : ((lw_one.f 0 1).bind fun t297 => ((axis_May.f k t297).bind fun t300 => (some (!t300)))) = some r := by rw [if_pos rfl] at H; exact H
            clear H
            have H := H1
            clear H1
            replace H := Option.bind_eq_some_iff.mp H
            obtain ⟨t297, A450, H⟩ := H
            replace H : ((axis_May.f k t297).bind fun t300 => (some (!t300))) = some r := H
            have A45 := Sd.mk A450
            clear A450
            replace H := Option.bind_eq_some_iff.mp H
            obtain ⟨t300, A460, H⟩ := H
            replace H : (some (!t300)) = some r := H
            have A46 := Sd.mk A460
            clear A460
            obtain rfl := Option.some.inj H
            go_enter Try.func10, Try.ntmps10
            try go_wp2_with (first | ((with_reducible refine gate_dst (N := 3) rfl ?_); (try (refine gate_guard (by rfl) ?_; dsimp only)); refine Kd.R_lit (Kd.int .u32) _ 34 ?hg (N := 3) ?hd (xs := ([5, 3, 4, 9, 0] : List Int)) (inner := [.int .u32 5, .int .u32 3, .int .u32 4, .int .u32 9, .int .u32 0]) (ok := fun _ => True) (okp := fun _ => True) ?hr ?hp (fun _ hk => hk) trivial (Below.refl _ _) (Nat.le_refl _) (by simp) ?_; (case hd => rfl); (case hg => rfl); (case hr => first | (go_simp; done) | (go_simp; rfl)); (case hp => exact (Reps.one (show Kd.M (Kd.int .u32) _ _ _ 5 [.int .u32 5] from rfl) (Reps.one (show Kd.M (Kd.int .u32) _ _ _ 3 [.int .u32 3] from rfl) (Reps.one (show Kd.M (Kd.int .u32) _ _ _ 4 [.int .u32 4] from rfl) (Reps.one (show Kd.M (Kd.int .u32) _ _ _ 9 [.int .u32 9] from rfl) (Reps.one (show Kd.M (Kd.int .u32) _ _ _ 0 [.int .u32 0] from rfl) (Reps.none _ _))))))); intro v189 w47 ho48 hb hg_ hnew_; clear hg_ hnew_; (first | rw [← Ny188.out] at ho48 | (simp only [Int.reduceToNat] at ho48; rw [← Ny188.out] at ho48)); have n0_ := Sd.mk (Kd.R_lower ho48 (below_size (by repeat (first | (with_reducible first | exact HB.out | apply bwA | apply pwN | apply bwD) | exact HB.out)))); have n1_ := Sd.mk (below_step (by repeat (first | (with_reducible first | exact HB.out | apply bwA | apply pwN | apply bwD) | exact HB.out)) hb); clear HB; have HO190 := n0_; have HB := n1_; clear n0_ n1_; clear hb ho48; obtain ⟨Ao49, co49, eo49⟩ := Kd.R_slice HO190.out; subst eo49) | ((with_reducible refine gate_callee (f := 21) rfl ?_); refine goesL_ (some 4) rfl rfl Try.func21 (by kernel_rfl) rfl #[.slice Ao49 y188.length co49] rfl (by (try simp only [List.map_toArray, List.map_cons, List.map_nil]); first | done | rfl | (simp only [List.length_drop, List.length_take]; rfl)) ?_; (with_reducible refine (axis_Of.calls k _ _ y188 t191 _ ?side1 ?side2 A1.out).mono ?_); (case side1 => repeat (first | exact (Kd.R_reads' HO190.out).2.2 | (with_reducible refine Kd.C_alloc ?_ _) | (with_reducible refine Kd.C_drewN ?_ _) | (with_reducible refine Kd.C_drew ?_))); (case side2 => exact (Kd.R_reads' HO190.out).2.1); rintro e w50 ⟨v192, rfl, ho0, hb⟩; refine ⟨_, rfl, ?_⟩; have n0_ := Sd.mk (Kd.R_below (by (with_reducible repeat (first | apply Kd.R_alloc | apply Kd.R_drewN | apply Kd.R_drew)); exact HO190.out) hb); have n1_ := Sd.mk (Kd.R_lower ho0 (below_size (by repeat (first | (with_reducible first | exact HB.out | apply bwA | apply pwN | apply bwD) | exact HB.out)))); have n2_ := Sd.mk (below_step (by repeat (first | (with_reducible first | exact HB.out | apply bwA | apply pwN | apply bwD) | exact HB.out)) hb); clear HO190; clear HB; have HO190 := n0_; have HO193 := n1_; have HB := n2_; clear n0_ n1_ n2_; (try clear hb); (try clear hb2); (try clear hk); (try clear hi); (try clear ho0)) | ((with_reducible refine gate_callee (f := 38) rfl ?_); refine goesL_ (some 5) rfl rfl Try.func38 (by kernel_rfl) rfl #[.int .u32 1, .int .u32 5] rfl (by (try simp only [List.map_toArray, List.map_cons, List.map_nil]); first | done | rfl | (simp only [List.length_drop, List.length_take]; rfl)) ?_; (with_reducible refine (lw_one.calls 1 5 t194 _ A2.out).mono ?_); rintro e w51 ⟨v195, rfl, ho0, hb⟩; refine ⟨_, rfl, ?_⟩; have n0_ := Sd.mk (Kd.R_elder' (by (with_reducible repeat (first | apply Kd.R_alloc | apply Kd.R_drewN | apply Kd.R_drew)); exact HO193.out) (Kd.R_base ho0) hb); have n1_ := Sd.mk (Kd.R_lower (Kd.R_new' ho0 (Kd.R_lt (by (with_reducible repeat (first | apply Kd.R_alloc | apply Kd.R_drewN | apply Kd.R_drew)); exact HO193.out))) (below_size (by repeat (first | (with_reducible first | exact HB.out | apply bwA | apply pwN | apply bwD) | exact HB.out)))); have n2_ := Sd.mk (below_step (by repeat (first | (with_reducible first | exact HB.out | apply bwA | apply pwN | apply bwD) | exact HB.out)) hb); clear HO193; clear HB; have HO193 := n0_; have HO196 := n1_; have HB := n2_; clear n0_ n1_ n2_; (try clear hb); (try clear hb2); (try clear hk); (try clear hi); (try clear ho0)) | ((with_reducible refine gate_callee (f := 38) rfl ?_); refine goesL_ (some 6) rfl rfl Try.func38 (by kernel_rfl) rfl #[.int .u32 6, .int .u32 9] rfl (by (try simp only [List.map_toArray, List.map_cons, List.map_nil]); first | done | rfl | (simp only [List.length_drop, List.length_take]; rfl)) ?_; (with_reducible refine (lw_one.calls 6 9 t197 _ A3.out).mono ?_); rintro e w52 ⟨v198, rfl, ho0, hb⟩; refine ⟨_, rfl, ?_⟩; have n0_ := Sd.mk (Kd.R_elder' (by (with_reducible repeat (first | apply Kd.R_alloc | apply Kd.R_drewN | apply Kd.R_drew)); exact HO193.out) (Kd.R_base ho0) hb); have n1_ := Sd.mk (Kd.R_elder' (by (with_reducible repeat (first | apply Kd.R_alloc | apply Kd.R_drewN | apply Kd.R_drew)); exact HO196.out) (Kd.R_base ho0) hb); have n2_ := Sd.mk (Kd.R_lower (Kd.R_new' (Kd.R_new' ho0 (Kd.R_lt (by (with_reducible repeat (first | apply Kd.R_alloc | apply Kd.R_drewN | apply Kd.R_drew)); exact HO193.out))) (Kd.R_lt (by (with_reducible repeat (first | apply Kd.R_alloc | apply Kd.R_drewN | apply Kd.R_drew)); exact HO196.out))) (below_size (by repeat (first | (with_reducible first | exact HB.out | apply bwA | apply pwN | apply bwD) | exact HB.out)))); have n3_ := Sd.mk (below_step (by repeat (first | (with_reducible first | exact HB.out | apply bwA | apply pwN | apply bwD) | exact HB.out)) hb); clear HO193; clear HO196; clear HB; have HO193 := n0_; have HO196 := n1_; have HO199 := n2_; have HB := n3_; clear n0_ n1_ n2_ n3_; (try clear hb); (try clear hb2); (try clear hk); (try clear hi); (try clear ho0); obtain ⟨Ao53, co53, eo53⟩ := Kd.R_slice HO199.out; subst eo53; obtain ⟨Ao54, co54, eo54⟩ := Kd.R_slice HO196.out; subst eo54) | ((with_reducible refine gate_callee (f := 38) rfl ?_); refine goesL_ (some 8) rfl rfl Try.func38 (by kernel_rfl) rfl #[.int .u32 1, .int .u32 3] rfl (by (try simp only [List.map_toArray, List.map_cons, List.map_nil]); first | done | rfl | (simp only [List.length_drop, List.length_take]; rfl)) ?_; (with_reducible refine (lw_one.calls 1 3 t200 _ A4.out).mono ?_); rintro e w55 ⟨v201, rfl, ho0, hb⟩; refine ⟨_, rfl, ?_⟩; have n0_ := Sd.mk (Kd.R_elder' (by (with_reducible repeat (first | apply Kd.R_alloc | apply Kd.R_drewN | apply Kd.R_drew)); exact HO193.out) (Kd.R_base ho0) hb); have n1_ := Sd.mk (Kd.R_elder' (by (with_reducible repeat (first | apply Kd.R_alloc | apply Kd.R_drewN | apply Kd.R_drew)); exact HO196.out) (Kd.R_base ho0) hb); have n2_ := Sd.mk (Kd.R_elder' (by (with_reducible repeat (first | apply Kd.R_alloc | apply Kd.R_drewN | apply Kd.R_drew)); exact HO199.out) (Kd.R_base ho0) hb); have n3_ := Sd.mk (Kd.R_lower (Kd.R_new' (Kd.R_new' (Kd.R_new' ho0 (Kd.R_lt (by (with_reducible repeat (first | apply Kd.R_alloc | apply Kd.R_drewN | apply Kd.R_drew)); exact HO193.out))) (Kd.R_lt (by (with_reducible repeat (first | apply Kd.R_alloc | apply Kd.R_drewN | apply Kd.R_drew)); exact HO196.out))) (Kd.R_lt (by (with_reducible repeat (first | apply Kd.R_alloc | apply Kd.R_drewN | apply Kd.R_drew)); exact HO199.out))) (below_size (by repeat (first | (with_reducible first | exact HB.out | apply bwA | apply pwN | apply bwD) | exact HB.out)))); have n4_ := Sd.mk (below_step (by repeat (first | (with_reducible first | exact HB.out | apply bwA | apply pwN | apply bwD) | exact HB.out)) hb); clear HO193; clear HO196; clear HO199; clear HB; have HO193 := n0_; have HO196 := n1_; have HO199 := n2_; have HO202 := n3_; have HB := n4_; clear n0_ n1_ n2_ n3_ n4_; (try clear hb); (try clear hb2); (try clear hk); (try clear hi); (try clear ho0)) | ((with_reducible refine gate_callee (f := 38) rfl ?_); refine goesL_ (some 9) rfl rfl Try.func38 (by kernel_rfl) rfl #[.int .u32 4, .int .u32 4] rfl (by (try simp only [List.map_toArray, List.map_cons, List.map_nil]); first | done | rfl | (simp only [List.length_drop, List.length_take]; rfl)) ?_; (with_reducible refine (lw_one.calls 4 4 t203 _ A5.out).mono ?_); rintro e w56 ⟨v204, rfl, ho0, hb⟩; refine ⟨_, rfl, ?_⟩; have n0_ := Sd.mk (Kd.R_elder' (by (with_reducible repeat (first | apply Kd.R_alloc | apply Kd.R_drewN | apply Kd.R_drew)); exact HO193.out) (Kd.R_base ho0) hb); have n1_ := Sd.mk (Kd.R_elder' (by (with_reducible repeat (first | apply Kd.R_alloc | apply Kd.R_drewN | apply Kd.R_drew)); exact HO196.out) (Kd.R_base ho0) hb); have n2_ := Sd.mk (Kd.R_elder' (by (with_reducible repeat (first | apply Kd.R_alloc | apply Kd.R_drewN | apply Kd.R_drew)); exact HO199.out) (Kd.R_base ho0) hb); have n3_ := Sd.mk (Kd.R_elder' (by (with_reducible repeat (first | apply Kd.R_alloc | apply Kd.R_drewN | apply Kd.R_drew)); exact HO202.out) (Kd.R_base ho0) hb); have n4_ := Sd.mk (Kd.R_lower (Kd.R_new' (Kd.R_new' (Kd.R_new' (Kd.R_new' ho0 (Kd.R_lt (by (with_reducible repeat (first | apply Kd.R_alloc | apply Kd.R_drewN | apply Kd.R_drew)); exact HO193.out))) (Kd.R_lt (by (with_reducible repeat (first | apply Kd.R_alloc | apply Kd.R_drewN | apply Kd.R_drew)); exact HO196.out))) (Kd.R_lt (by (with_reducible repeat (first | apply Kd.R_alloc | apply Kd.R_drewN | apply Kd.R_drew)); exact HO199.out))) (Kd.R_lt (by (with_reducible repeat (first | apply Kd.R_alloc | apply Kd.R_drewN | apply Kd.R_drew)); exact HO202.out))) (below_size (by repeat (first | (with_reducible first | exact HB.out | apply bwA | apply pwN | apply bwD) | exact HB.out)))); have n5_ := Sd.mk (below_step (by repeat (first | (with_reducible first | exact HB.out | apply bwA | apply pwN | apply bwD) | exact HB.out)) hb); clear HO193; clear HO196; clear HO199; clear HO202; clear HB; have HO193 := n0_; have HO196 := n1_; have HO199 := n2_; have HO202 := n3_; have HO205 := n4_; have HB := n5_; clear n0_ n1_ n2_ n3_ n4_ n5_; (try clear hb); (try clear hb2); (try clear hk); (try clear hi); (try clear ho0); obtain ⟨Ao57, co57, eo57⟩ := Kd.R_slice HO205.out; subst eo57; obtain ⟨Ao58, co58, eo58⟩ := Kd.R_slice HO202.out; subst eo58) | ((with_reducible refine gate_dst (N := 11) rfl ?_); (try (refine gate_guard (by rfl) ?_; dsimp only)); refine Kd.N_lit k47 _ 47 ?hg (N' := 11) ?hd (xs := ([(⟨t194, t197⟩ : S47), (⟨t200, t203⟩ : S47)] : List (S47))) (inner := [.slice Ao54 t194.length co54, .slice Ao53 t197.length co53, .slice Ao58 t200.length co58, .slice Ao57 t203.length co57]) (ok := (fun k_ => some k_ ≠ (v192 : Value).ownBlock)) (okp := (fun k_ => some k_ ≠ (v192 : Value).ownBlock)) ?hr ?hp (fun _ hk => hk) ((show ∀ k_, w56.heap.size ≤ k_ → (fun k_ => some k_ ≠ (v192 : Value).ownBlock) k_ from fun k_ hk => Kd.fresh' (Kd.R_lt (by (with_reducible repeat (first | apply Kd.R_alloc | apply Kd.R_drewN | apply Kd.R_drew)); exact HO193.out)) k_ hk) _ (Nat.le_refl _)) (Below.refl _ _) (Nat.le_refl _) (by simp) ?_; (case hd => rfl); (case hg => rfl); (case hr => first | (go_simp; done) | (go_simp; rfl)); (case hp => exact (Reps.c2 (show Kd.FK k47 _ _ (⟨t194, t197⟩ : S47) [.slice Ao54 t194.length co54, .slice Ao53 t197.length co53] from (k47_mkF _ _ (⟨t194, t197⟩ : S47) (Kd.R_reads' (Kd.R_mono (ok' := (fun k_ => some k_ ≠ (v192 : Value).ownBlock)) (HO196.out) (fun k_ hk => hk.1.1.1.2))).2.1 (Kd.R_F (Kd.R_mono (ok' := (fun k_ => some k_ ≠ (v192 : Value).ownBlock)) (HO196.out) (fun k_ hk => hk.1.1.1.2))) (Kd.R_reads' (Kd.R_mono (ok' := (fun k_ => some k_ ≠ (v192 : Value).ownBlock)) (HO199.out) (fun k_ hk => hk.1.1.1.2))).2.1 (Kd.R_F (Kd.R_mono (ok' := (fun k_ => some k_ ≠ (v192 : Value).ownBlock)) (HO199.out) (fun k_ hk => hk.1.1.1.2))))) (Reps.c2 (show Kd.FK k47 _ _ (⟨t200, t203⟩ : S47) [.slice Ao58 t200.length co58, .slice Ao57 t203.length co57] from (k47_mkF _ _ (⟨t200, t203⟩ : S47) (Kd.R_reads' (Kd.R_mono (ok' := (fun k_ => some k_ ≠ (v192 : Value).ownBlock)) (HO202.out) (fun k_ hk => hk.1.1.1.2))).2.1 (Kd.R_F (Kd.R_mono (ok' := (fun k_ => some k_ ≠ (v192 : Value).ownBlock)) (HO202.out) (fun k_ hk => hk.1.1.1.2))) (Kd.R_reads' (Kd.R_mono (ok' := (fun k_ => some k_ ≠ (v192 : Value).ownBlock)) (HO205.out) (fun k_ hk => hk.1.1.1.2))).2.1 (Kd.R_F (Kd.R_mono (ok' := (fun k_ => some k_ ≠ (v192 : Value).ownBlock)) (HO205.out) (fun k_ hk => hk.1.1.1.2))))) (Reps.none _ _)))); intro v207 w59 ho60 hb hg_ hnew_; clear hg_ hnew_; (first | rw [← Ny206.out] at ho60 | (simp only [Int.reduceToNat] at ho60; rw [← Ny206.out] at ho60)); have n0_ := Sd.mk (Kd.R_below (by (with_reducible repeat (first | apply Kd.R_alloc | apply Kd.R_drewN | apply Kd.R_drew)); exact HO193.out) hb); have n1_ := Sd.mk (Kd.N_lower ho60 (below_size (by repeat (first | (with_reducible first | exact HB.out | apply bwA | apply pwN | apply bwD) | exact HB.out)))); have n2_ := Sd.mk (below_step (by repeat (first | (with_reducible first | exact HB.out | apply bwA | apply pwN | apply bwD) | exact HB.out)) hb); clear HO193; clear HB; clear HO196; clear HO199; clear HO202; clear HO205; have HO193 := n0_; have HO208 := n1_; have HB := n2_; clear n0_ n1_ n2_; clear hb ho60; obtain ⟨Ao61, co61, eo61⟩ := Kd.N_slice HO208.out; subst eo61) | ((with_reducible refine gate_callee (f := 33) rfl ?_); refine goesL_ (some 12) rfl rfl Try.func33 (by kernel_rfl) rfl #[.slice Ao61 y206.length co61] rfl (by (try simp only [List.map_toArray, List.map_cons, List.map_nil]); first | done | rfl | (simp only [List.length_drop, List.length_take]; rfl)) ?_; (with_reducible refine (axis_And.calls k _ _ y206 t209 t212 _ ?side1 ?side2 A6.out).mono ?_); (case side1 => repeat (first | exact (Kd.N_reads' HO208.out).2.2 | (with_reducible refine Kd.C_alloc ?_ _) | (with_reducible refine Kd.C_drewN ?_ _) | (with_reducible refine Kd.C_drew ?_))); (case side2 => exact (Kd.N_reads' HO208.out).2.1); rintro e w62 ⟨v210, v213, rfl, ho0, ho1, hb⟩; refine ⟨_, rfl, ?_⟩; have n0_ := Sd.mk (Kd.R_mono (Kd.R_told (Kd.R_told (Kd.R_old (by (with_reducible repeat (first | apply Kd.R_alloc | apply Kd.R_drewN | apply Kd.R_drew)); exact HO193.out) hb) (Kd.R_base ho0)) (Kd.R_base ho1)) (fun _ h_ => h_.1)); have n1_ := Sd.mk (Kd.N_mono (Kd.N_told (Kd.N_told (Kd.N_old (by (with_reducible repeat (first | apply Kd.N_alloc | apply Kd.N_drewN | apply Kd.N_drew)); exact HO208.out) hb) (Kd.R_base ho0)) (Kd.R_base ho1)) (fun _ h_ => h_.1)); have n2_ := Sd.mk (Kd.R_lower (Kd.R_new' ho0 (Kd.R_lt (by (with_reducible repeat (first | apply Kd.R_alloc | apply Kd.R_drewN | apply Kd.R_drew)); exact HO193.out))) (below_size (by repeat (first | (with_reducible first | exact HB.out | apply bwA | apply pwN | apply bwD) | exact HB.out)))); have n3_ := Sd.mk (Kd.R_lower (Kd.R_new' ho1 (Kd.R_lt (by (with_reducible repeat (first | apply Kd.R_alloc | apply Kd.R_drewN | apply Kd.R_drew)); exact HO193.out))) (below_size (by repeat (first | (with_reducible first | exact HB.out | apply bwA | apply pwN | apply bwD) | exact HB.out)))); have n4_ := Sd.mk (below_step (by repeat (first | (with_reducible first | exact HB.out | apply bwA | apply pwN | apply bwD) | exact HB.out)) hb); clear HO193; clear HO208; clear HB; have HO193 := n0_; have HO208 := n1_; have HO211 := n2_; have HO214 := n3_; have HB := n4_; clear n0_ n1_ n2_ n3_ n4_; (try clear hb); (try clear hb2); (try clear hk); (try clear hi); (try clear ho0); (try clear ho1)) | ((with_reducible refine gate_dst (N := 2) rfl ?_); (try (refine gate_guard (by rfl) ?_; dsimp only)); refine box_event ?hg (N := 2) ?hd (cs := #[.slice none 0 0, .slice none 0 0]) (t := 47) ?hr ?_; (case hd => rfl); (case hg => rfl); (case hr => first | (go_simp; done) | (go_simp; rfl)); intro gb215 hg w63 hbox hb; have n0_ := Sd.mk (Kd.R_below (by (with_reducible repeat (first | apply Kd.R_alloc | apply Kd.R_drewN | apply Kd.R_drew)); exact HO193.out) hb); have n1_ := Sd.mk (Kd.R_below (by (with_reducible repeat (first | apply Kd.R_alloc | apply Kd.R_drewN | apply Kd.R_drew)); exact HO211.out) hb); have n2_ := Sd.mk (Kd.R_below (by (with_reducible repeat (first | apply Kd.R_alloc | apply Kd.R_drewN | apply Kd.R_drew)); exact HO214.out) hb); have n3_ := Sd.mk (below_step (by repeat (first | (with_reducible first | exact HB.out | apply bwA | apply pwN | apply bwD) | exact HB.out)) hb); have n4_ := Sd.mk (hbox); have n5_ := Sd.mk ((by rw [hg]; exact (below_size (by repeat (first | (with_reducible first | exact HB.out | apply bwA | apply pwN | apply bwD) | exact HB.out))) : w.heap.size ≤ gb215)); have n6_ := Sd.mk ((by rw [hg]; exact (below_size (by repeat (first | (with_reducible first | exact HB.out | apply bwA | apply pwN | apply bwD) | exact HB.out))) : w.heap.size ≤ gb215)); clear HO193; clear HO211; clear HO214; clear HB; have HO193 := n0_; have HO211 := n1_; have HO214 := n2_; have HB := n3_; have BK215 := n4_; have GW215 := n5_; have GE215 := n6_; clear n0_ n1_ n2_ n3_ n4_ n5_ n6_; clear hb hbox hg; obtain ⟨Ao64, co64, eo64⟩ := Kd.R_slice HO211.out; subst eo64; have hcz65_0 : w63.cell? ⟨gb215, 0, none⟩ = some (.slice none 0 0) := (blk_cell BK215.out 0).trans rfl; have hcz65_1 : w63.cell? ⟨gb215, 1, none⟩ = some (.slice none 0 0) := (blk_cell BK215.out 1).trans rfl; have hfz65_0 := blk_frozen BK215.out 0; have hfz65_1 := blk_frozen BK215.out 1; obtain ⟨Ao66, co66, eo66⟩ := Kd.R_slice HO214.out; subst eo66))
            replace HO193 : Sd (Kd.R k36 36 ((w63.setCell ⟨gb215, 0, none⟩ (.slice Ao64 t209.length co64)).setCell ⟨gb215, 1, none⟩ (.slice Ao66 t212.length co66)) w.heap.size (fun k_ => some k_ ≠ (.slice Ao64 t209.length co64 : Value).ownBlock ∧ some k_ ≠ (.slice Ao66 t212.length co66 : Value).ownBlock) v192 t191) := ⟨by (with_reducible repeat (first | apply Kd.R_alloc | apply Kd.R_drewN | apply Kd.R_drew)); exact Kd.R_mono (Kd.R_far (p := ⟨gb215, 1, none⟩) (Kd.R_far (p := ⟨gb215, 0, none⟩) (Kd.R_types HO193.out BK215.out (by decide)) (fun _ hk => hk.2) (.slice Ao64 t209.length co64)) (fun _ hk => hk.2) (.slice Ao66 t212.length co66)) (fun _ hk => ⟨hk.1.1.2, hk.1.2⟩)⟩
            replace HO211 : Sd (Kd.R k36 36 ((w63.setCell ⟨gb215, 0, none⟩ (.slice Ao64 t209.length co64)).setCell ⟨gb215, 1, none⟩ (.slice Ao66 t212.length co66)) w.heap.size (fun k_ => some k_ ≠ (v192 : Value).ownBlock ∧ some k_ ≠ (.slice Ao66 t212.length co66 : Value).ownBlock) (.slice Ao64 t209.length co64) t209) := ⟨by (with_reducible repeat (first | apply Kd.R_alloc | apply Kd.R_drewN | apply Kd.R_drew)); exact Kd.R_mono (Kd.R_far (p := ⟨gb215, 1, none⟩) (Kd.R_far (p := ⟨gb215, 0, none⟩) (Kd.R_types HO211.out BK215.out (by decide)) (fun _ hk => hk.2) (.slice Ao64 t209.length co64)) (fun _ hk => hk.2) (.slice Ao66 t212.length co66)) (fun _ hk => ⟨hk.1.2, hk.1.1⟩)⟩
            replace HO214 : Sd (Kd.R k36 36 ((w63.setCell ⟨gb215, 0, none⟩ (.slice Ao64 t209.length co64)).setCell ⟨gb215, 1, none⟩ (.slice Ao66 t212.length co66)) w.heap.size (fun k_ => some k_ ≠ (v192 : Value).ownBlock ∧ some k_ ≠ (.slice Ao64 t209.length co64 : Value).ownBlock) (.slice Ao66 t212.length co66) t212) := ⟨by (with_reducible repeat (first | apply Kd.R_alloc | apply Kd.R_drewN | apply Kd.R_drew)); exact Kd.R_mono (Kd.R_far (p := ⟨gb215, 1, none⟩) (Kd.R_far (p := ⟨gb215, 0, none⟩) (Kd.R_types HO214.out BK215.out (by decide)) (fun _ hk => hk.2) (.slice Ao64 t209.length co64)) (fun _ hk => hk.2) (.slice Ao66 t212.length co66)) (fun _ hk => ⟨hk.1.2, hk.1.1⟩)⟩
            replace BK215 : Sd (((w63.setCell ⟨gb215, 0, none⟩ (.slice Ao64 t209.length co64)).setCell ⟨gb215, 1, none⟩ (.slice Ao66 t212.length co66)).heap[gb215]? = some (.cells #[.slice Ao64 t209.length co64, .slice Ao66 t212.length co66] 47 (0, 0))) := ⟨by (with_reducible repeat (first | refine blk_drewN ?_ _ | refine blk_drew ?_ | refine blk_alloc ?_ _)); refine blk_put (cs := #[.slice Ao64 t209.length co64, .slice none 0 0]) ?_ 1 _ rfl; (with_reducible repeat (first | refine blk_drewN ?_ _ | refine blk_drew ?_ | refine blk_alloc ?_ _)); refine blk_put (cs := #[.slice none 0 0, .slice none 0 0]) ?_ 0 _ rfl; (with_reducible repeat (first | refine blk_drewN ?_ _ | refine blk_drew ?_ | refine blk_alloc ?_ _)); exact BK215.out⟩
            replace HB : Sd (Below w.heap.size w ((w63.setCell ⟨gb215, 0, none⟩ (.slice Ao64 t209.length co64)).setCell ⟨gb215, 1, none⟩ (.slice Ao66 t212.length co66))) := ⟨by repeat (first | (with_reducible first | exact HB.out | apply bwA | apply pwN | apply bwD | refine below_set ?_ GE215.out) | exact HB.out)⟩
            generalize ((w63.setCell ⟨gb215, 0, none⟩ (.slice Ao64 t209.length co64)).setCell ⟨gb215, 1, none⟩ (.slice Ao66 t212.length co66)) = w67 at HO193 HO211 HO214 BK215 HB ⊢
            replace HO193 := Sd.mk (Kd.R_drew HO193.out)
            replace HO211 := Sd.mk (Kd.R_drew HO211.out)
            replace HO214 := Sd.mk (Kd.R_drew HO214.out)
            replace BK215 := Sd.mk (blk_drew BK215.out)
            replace HB := Sd.mk (bwD HB.out)
            refine start_ (n := 69) (S := fun w' => w'.cell? ⟨gb215, 0, none⟩ = some (.slice Ao64 t209.length co64) ∧ w'.cell? ⟨gb215, 1, none⟩ = some (.slice Ao66 t212.length co66)) (ds := []) #[false, false, false, false, false, false, false, false, false, false, false, false, false, false, false, false, false, false, false, false, false, false, false, false, false, false, false, false, false, false, false, false, false, false, false, false, false, false, false, false, false, false, false, false, false, false, false, false, false, false, false, false, false, false, false, false, false, false, false, false, false, false, false, false, false, false, false, false, false] (by kernel_rfl) rfl rfl ⟨(blk_cell BK215.out 0).trans rfl, (blk_cell BK215.out 1).trans rfl⟩ (fun hHeld => ?_); refine with_tabW incipitlaw19_awake.tab3 incipitlaw19_awake.bits3 (fun HT_ HW_ => ?_)
            generalize w67.drew = w68 at HO193 HO211 HO214 BK215 HB hHeld ⊢
            refine pure_ (i := 0) (N := some 13) (v := ?_) (a' := ?_) #[true, false, false, false, false, false, false, false, false, false, false, false, false, false, false, false, false, false, false, false, false, false, false, false, false, false, false, false, false, false, false, false, false, false, false, false, false, false, false, false, false, false, false, false, false, false, false, false, false, false, false, false, false, false, false, false, false, false, false, false, false, false, false, false, false, false, false, false, false] rfl rfl (any_of HT_.out (by kernel_rfl)) (fun _ _ _ h => h) (Or.inl ⟨by rfl, ?_⟩) ?_ ?_
            rotate_left
            ·intro w'
             go_simp
             with_reducible rfl
            rotate_left
            ·simp only [Act.put, List.setIfInBounds_toArray, List.set_cons_zero, List.set_cons_succ, i64_w, i32_w]
             rfl
            refine pure_ (i := 1) (N := some 14) (v := ?_) (a' := ?_) #[true, true, false, false, false, false, false, false, false, false, false, false, false, false, false, false, false, false, false, false, false, false, false, false, false, false, false, false, false, false, false, false, false, false, false, false, false, false, false, false, false, false, false, false, false, false, false, false, false, false, false, false, false, false, false, false, false, false, false, false, false, false, false, false, false, false, false, false, false] rfl rfl (any_of HT_.out (by kernel_rfl)) (fun _ _ _ h => h) (Or.inl ⟨by rfl, ?_⟩) ?_ ?_
            rotate_left
            ·intro w'
             go_simp
             with_reducible rfl
            rotate_left
            ·simp only [Act.put, List.setIfInBounds_toArray, List.set_cons_zero, List.set_cons_succ, i64_w, i32_w]
             rfl
            refine pure_ (i := 2) (N := some 15) (v := ?_) (a' := ?_) #[true, true, true, false, false, false, false, false, false, false, false, false, false, false, false, false, false, false, false, false, false, false, false, false, false, false, false, false, false, false, false, false, false, false, false, false, false, false, false, false, false, false, false, false, false, false, false, false, false, false, false, false, false, false, false, false, false, false, false, false, false, false, false, false, false, false, false, false, false] rfl rfl (any_of HT_.out (by kernel_rfl)) (fun _ _ _ h => h) (Or.inl ⟨by rfl, ?_⟩) ?_ ?_
            rotate_left
            ·intro w'
             go_simp
             with_reducible rfl
            rotate_left
            ·simp only [Act.put, List.setIfInBounds_toArray, List.set_cons_zero, List.set_cons_succ, i64_w, i32_w]
             rfl
            refine one_ (i := 3) (N := some 16) #[true, true, true, true, false, false, false, false, false, false, false, false, false, false, false, false, false, false, false, false, false, false, false, false, false, false, false, false, false, false, false, false, false, false, false, false, false, false, false, false, false, false, false, false, false, false, false, false, false, false, false, false, false, false, false, false, false, false, false, false, false, false, false, false, false, false, false, false, false] rfl rfl (one_of HT_.out (by kernel_rfl)) (by decide) (fun K hK => ?_)
            refine Kd.R_lit_step k36 _ 36 ?hg (N := 16) ?hd (xs := ([(⟨3, 5⟩ : S36), (⟨9, 9⟩ : S36)] : List (S36))) (inner := [.int .u32 3, .int .u32 5, .int .u32 9, .int .u32 9]) (ok := fun _ => True) (okp := fun _ => True) ?hr ?hp (fun _ hk => hk) trivial (Below.refl _ _) (Nat.le_refl _) (by simp) ?_; (case hd => rfl); (case hg => rfl); (case hr => first | (go_simp; done) | (go_simp; rfl)); (case hp => exact (Reps.c2 (show Kd.M k36 _ _ _ (⟨3, 5⟩ : S36) [.int .u32 3, .int .u32 5] from (k36_mkM _ _ _ (⟨3, 5⟩ : S36) )) (Reps.c2 (show Kd.M k36 _ _ _ (⟨9, 9⟩ : S36) [.int .u32 9, .int .u32 9] from (k36_mkM _ _ _ (⟨9, 9⟩ : S36) )) (Reps.none _ _))))
            intro v217 w69 ho70 hb hg_ hnew_
            clear hg_ hnew_
            (first | rw [← Ny216.out] at ho70 | (simp only [Int.reduceToNat] at ho70; rw [← Ny216.out] at ho70))
            have n0_ := Sd.mk (Kd.R_elder' (by (with_reducible repeat (first | apply Kd.R_alloc | apply Kd.R_drewN | apply Kd.R_drew)); exact HO193.out) (Kd.R_base ho70) hb)
            have n1_ := Sd.mk (Kd.R_elder' (by (with_reducible repeat (first | apply Kd.R_alloc | apply Kd.R_drewN | apply Kd.R_drew)); exact HO211.out) (Kd.R_base ho70) hb)
            have n2_ := Sd.mk (Kd.R_elder' (by (with_reducible repeat (first | apply Kd.R_alloc | apply Kd.R_drewN | apply Kd.R_drew)); exact HO214.out) (Kd.R_base ho70) hb)
            have n3_ := Sd.mk (Kd.R_lower (Kd.R_new' (Kd.R_new' (Kd.R_new' ho70 (Kd.R_lt (by (with_reducible repeat (first | apply Kd.R_alloc | apply Kd.R_drewN | apply Kd.R_drew)); exact HO193.out))) (Kd.R_lt (by (with_reducible repeat (first | apply Kd.R_alloc | apply Kd.R_drewN | apply Kd.R_drew)); exact HO211.out))) (Kd.R_lt (by (with_reducible repeat (first | apply Kd.R_alloc | apply Kd.R_drewN | apply Kd.R_drew)); exact HO214.out))) (below_size (by repeat (first | (with_reducible first | exact HB.out | apply bwA | apply pwN | apply bwD | refine below_set ?_ GE215.out) | exact HB.out))))
            have n4_ := Sd.mk (blk_below (g := gb215) (o := .cells #[.slice Ao64 t209.length co64, .slice Ao66 t212.length co66] 47 (0, 0)) (by (with_reducible repeat (first | refine blk_drewN ?_ _ | refine blk_drew ?_ | refine blk_alloc ?_ _)); exact BK215.out) hb)
            have n5_ := Sd.mk (below_step (by repeat (first | (with_reducible first | exact HB.out | apply bwA | apply pwN | apply bwD | refine below_set ?_ GE215.out) | exact HB.out)) hb)
            clear HO193
            clear HO211
            clear HO214
            clear BK215
            clear HB
            have HO193 := n0_
            have HO211 := n1_
            have HO214 := n2_
            have HO218 := n3_
            have BK215 := n4_
            have HB := n5_
            clear n0_ n1_ n2_ n3_ n4_ n5_
            clear hb ho70
            obtain ⟨Ao71, co71, eo71⟩ := Kd.R_slice HO193.out
            (first | subst eo71 | (injection eo71 with f1_ f2_ f3_; have f4_ := f1_.symm; have f5_ := f3_.symm; clear f1_ f2_ f3_; subst f4_; subst f5_))
            obtain ⟨Ao72, co72, eo72⟩ := Kd.R_slice HO218.out
            (first | subst eo72 | (injection eo72 with f1_ f2_ f3_; have f4_ := f1_.symm; have f5_ := f3_.symm; clear f1_ f2_ f3_; subst f4_; subst f5_))
            refine hK.out _ _ ⟨(blk_cell BK215.out 0).trans rfl, (blk_cell BK215.out 1).trans rfl⟩ (fun hHeld => ?_)
            clear hK K
            refine norm_ (a' := ?_) ?_ ?_
            rotate_left
            ·show Act.put _ (some 16) _ = _
             simp only [Act.put, List.setIfInBounds_toArray, List.set_cons_zero, List.set_cons_succ, i64_w, i32_w]
             rfl
            refine one_ (i := 4) (N := some 17) #[true, true, true, true, true, false, false, false, false, false, false, false, false, false, false, false, false, false, false, false, false, false, false, false, false, false, false, false, false, false, false, false, false, false, false, false, false, false, false, false, false, false, false, false, false, false, false, false, false, false, false, false, false, false, false, false, false, false, false, false, false, false, false, false, false, false, false, false, false] rfl rfl (one_of HT_.out (by kernel_rfl)) (by decide) (fun K hK => ?_)
            refine goes_ Try.func14 (by kernel_rfl) rfl #[.slice Ao71 t191.length co71, .slice Ao72 y216.length co72] (by rfl) rfl rfl (by (try simp only [List.map_toArray, List.map_cons, List.map_nil]); first | done | rfl | (simp only [List.length_drop, List.length_take]; rfl)) ?_
            with_reducible refine (rf_Same.calls k _ _ t191 _ _ y216 true _ ?side1 ?side2 ?side3 ?side4 A7.out).mono ?_
            (case side1 => repeat (first | exact (Kd.R_reads' HO193.out).2.2 | (with_reducible refine Kd.C_alloc ?_ _) | (with_reducible refine Kd.C_drewN ?_ _) | (with_reducible refine Kd.C_drew ?_)))
            (case side2 => exact (Kd.R_reads' HO193.out).2.1)
            (case side3 => repeat (first | exact (Kd.R_reads' HO218.out).2.2 | (with_reducible refine Kd.C_alloc ?_ _) | (with_reducible refine Kd.C_drewN ?_ _) | (with_reducible refine Kd.C_drew ?_)))
            (case side4 => exact (Kd.R_reads' HO218.out).2.1)
            rintro e w' ⟨rfl, ⟨nd, rfl⟩⟩
            refine ⟨_, rfl, ?_⟩
            refine hK.out _ _ ⟨(blk_cell BK215.out 0).trans rfl, (blk_cell BK215.out 1).trans rfl⟩ (fun hHeld => ?_)
            clear hK K
            refine norm_ (a' := ?_) ?_ ?_
            rotate_left
            ·show Act.put _ (some 17) _ = _
             simp only [Act.put, List.setIfInBounds_toArray, List.set_cons_zero, List.set_cons_succ, i64_w, i32_w]
             rfl
            refine pure_ (i := 5) (N := some 18) (v := ?_) (a' := ?_) #[true, true, true, true, true, true, false, false, false, false, false, false, false, false, false, false, false, false, false, false, false, false, false, false, false, false, false, false, false, false, false, false, false, false, false, false, false, false, false, false, false, false, false, false, false, false, false, false, false, false, false, false, false, false, false, false, false, false, false, false, false, false, false, false, false, false, false, false, false] rfl rfl (any_of HT_.out (by kernel_rfl)) (fun _ _ _ h => h) (Or.inl ⟨by rfl, ?_⟩) ?_ ?_
            rotate_left
            ·intro w'
             go_simp
             with_reducible rfl
            rotate_left
            ·simp only [Act.put, List.setIfInBounds_toArray, List.set_cons_zero, List.set_cons_succ, i64_w, i32_w]
             rfl
            refine one_ (i := 6) (N := some 19) #[true, true, true, true, true, true, true, false, false, false, false, false, false, false, false, false, false, false, false, false, false, false, false, false, false, false, false, false, false, false, false, false, false, false, false, false, false, false, false, false, false, false, false, false, false, false, false, false, false, false, false, false, false, false, false, false, false, false, false, false, false, false, false, false, false, false, false, false, false] rfl rfl (one_of HT_.out (by kernel_rfl)) (by decide) (fun K hK => ?_)
            refine goes_ Try.func38 (by kernel_rfl) rfl #[.int .u32 1, .int .u32 3] (by rfl) rfl rfl (by (try simp only [List.map_toArray, List.map_cons, List.map_nil]); first | done | rfl | (simp only [List.length_drop, List.length_take]; rfl)) ?_
            with_reducible refine (lw_one.calls 1 3 t220 _ A9.out).mono ?_
            rintro e w73 ⟨v221, rfl, ho0, hb⟩
            refine ⟨_, rfl, ?_⟩
            have n0_ := Sd.mk (Kd.R_elder' (by (with_reducible repeat (first | apply Kd.R_alloc | apply Kd.R_drewN | apply Kd.R_drew)); exact HO211.out) (Kd.R_base ho0) hb)
            have n1_ := Sd.mk (Kd.R_elder' (by (with_reducible repeat (first | apply Kd.R_alloc | apply Kd.R_drewN | apply Kd.R_drew)); exact HO214.out) (Kd.R_base ho0) hb)
            have n2_ := Sd.mk (Kd.R_lower (Kd.R_new' (Kd.R_new' ho0 (Kd.R_lt (by (with_reducible repeat (first | apply Kd.R_alloc | apply Kd.R_drewN | apply Kd.R_drew)); exact HO211.out))) (Kd.R_lt (by (with_reducible repeat (first | apply Kd.R_alloc | apply Kd.R_drewN | apply Kd.R_drew)); exact HO214.out))) (below_size (by repeat (first | (with_reducible first | exact HB.out | apply bwA | apply pwN | apply bwD | refine below_set ?_ GE215.out) | exact HB.out))))
            have n3_ := Sd.mk (blk_below (g := gb215) (o := .cells #[.slice Ao64 t209.length co64, .slice Ao66 t212.length co66] 47 (0, 0)) (by (with_reducible repeat (first | refine blk_drewN ?_ _ | refine blk_drew ?_ | refine blk_alloc ?_ _)); exact BK215.out) hb)
            have n4_ := Sd.mk (below_step (by repeat (first | (with_reducible first | exact HB.out | apply bwA | apply pwN | apply bwD | refine below_set ?_ GE215.out) | exact HB.out)) hb)
            clear HO211
            clear HO214
            clear BK215
            clear HB
            have HO211 := n0_
            have HO214 := n1_
            have HO222 := n2_
            have BK215 := n3_
            have HB := n4_
            clear n0_ n1_ n2_ n3_ n4_
            (try clear hb)
            (try clear hb2)
            (try clear hk)
            (try clear hi)
            (try clear ho0)
            refine hK.out _ _ ⟨(blk_cell BK215.out 0).trans rfl, (blk_cell BK215.out 1).trans rfl⟩ (fun hHeld => ?_)
            clear hK K
            refine norm_ (a' := ?_) ?_ ?_
            rotate_left
            ·show Act.put _ (some 19) _ = _
             simp only [Act.put, List.setIfInBounds_toArray, List.set_cons_zero, List.set_cons_succ, i64_w, i32_w]
             rfl
            refine one_ (i := 7) (N := some 20) #[true, true, true, true, true, true, true, true, false, false, false, false, false, false, false, false, false, false, false, false, false, false, false, false, false, false, false, false, false, false, false, false, false, false, false, false, false, false, false, false, false, false, false, false, false, false, false, false, false, false, false, false, false, false, false, false, false, false, false, false, false, false, false, false, false, false, false, false, false] rfl rfl (one_of HT_.out (by kernel_rfl)) (by decide) (fun K hK => ?_)
            refine goes_ Try.func38 (by kernel_rfl) rfl #[.int .u32 4, .int .u32 6] (by rfl) rfl rfl (by (try simp only [List.map_toArray, List.map_cons, List.map_nil]); first | done | rfl | (simp only [List.length_drop, List.length_take]; rfl)) ?_
            with_reducible refine (lw_one.calls 4 6 t223 _ A10.out).mono ?_
            rintro e w74 ⟨v224, rfl, ho0, hb⟩
            refine ⟨_, rfl, ?_⟩
            have n0_ := Sd.mk (Kd.R_elder' (by (with_reducible repeat (first | apply Kd.R_alloc | apply Kd.R_drewN | apply Kd.R_drew)); exact HO211.out) (Kd.R_base ho0) hb)
            have n1_ := Sd.mk (Kd.R_elder' (by (with_reducible repeat (first | apply Kd.R_alloc | apply Kd.R_drewN | apply Kd.R_drew)); exact HO214.out) (Kd.R_base ho0) hb)
            have n2_ := Sd.mk (Kd.R_elder' (by (with_reducible repeat (first | apply Kd.R_alloc | apply Kd.R_drewN | apply Kd.R_drew)); exact HO222.out) (Kd.R_base ho0) hb)
            have n3_ := Sd.mk (Kd.R_lower (Kd.R_new' (Kd.R_new' (Kd.R_new' ho0 (Kd.R_lt (by (with_reducible repeat (first | apply Kd.R_alloc | apply Kd.R_drewN | apply Kd.R_drew)); exact HO211.out))) (Kd.R_lt (by (with_reducible repeat (first | apply Kd.R_alloc | apply Kd.R_drewN | apply Kd.R_drew)); exact HO214.out))) (Kd.R_lt (by (with_reducible repeat (first | apply Kd.R_alloc | apply Kd.R_drewN | apply Kd.R_drew)); exact HO222.out))) (below_size (by repeat (first | (with_reducible first | exact HB.out | apply bwA | apply pwN | apply bwD | refine below_set ?_ GE215.out) | exact HB.out))))
            have n4_ := Sd.mk (blk_below (g := gb215) (o := .cells #[.slice Ao64 t209.length co64, .slice Ao66 t212.length co66] 47 (0, 0)) (by (with_reducible repeat (first | refine blk_drewN ?_ _ | refine blk_drew ?_ | refine blk_alloc ?_ _)); exact BK215.out) hb)
            have n5_ := Sd.mk (below_step (by repeat (first | (with_reducible first | exact HB.out | apply bwA | apply pwN | apply bwD | refine below_set ?_ GE215.out) | exact HB.out)) hb)
            clear HO211
            clear HO214
            clear HO222
            clear BK215
            clear HB
            have HO211 := n0_
            have HO214 := n1_
            have HO222 := n2_
            have HO225 := n3_
            have BK215 := n4_
            have HB := n5_
            clear n0_ n1_ n2_ n3_ n4_ n5_
            (try clear hb)
            (try clear hb2)
            (try clear hk)
            (try clear hi)
            (try clear ho0)
            obtain ⟨Ao75, co75, eo75⟩ := Kd.R_slice HO222.out
            (first | subst eo75 | (injection eo75 with f1_ f2_ f3_; have f4_ := f1_.symm; have f5_ := f3_.symm; clear f1_ f2_ f3_; subst f4_; subst f5_))
            obtain ⟨Ao76, co76, eo76⟩ := Kd.R_slice HO225.out
            (first | subst eo76 | (injection eo76 with f1_ f2_ f3_; have f4_ := f1_.symm; have f5_ := f3_.symm; clear f1_ f2_ f3_; subst f4_; subst f5_))
            refine hK.out _ _ ⟨(blk_cell BK215.out 0).trans rfl, (blk_cell BK215.out 1).trans rfl⟩ (fun hHeld => ?_)
            clear hK K
            refine norm_ (a' := ?_) ?_ ?_
            rotate_left
            ·show Act.put _ (some 20) _ = _
             simp only [Act.put, List.setIfInBounds_toArray, List.set_cons_zero, List.set_cons_succ, i64_w, i32_w]
             rfl
            refine one_ (i := 8) (N := some 21) #[true, true, true, true, true, true, true, true, true, false, false, false, false, false, false, false, false, false, false, false, false, false, false, false, false, false, false, false, false, false, false, false, false, false, false, false, false, false, false, false, false, false, false, false, false, false, false, false, false, false, false, false, false, false, false, false, false, false, false, false, false, false, false, false, false, false, false, false, false] rfl rfl (one_of HT_.out (by kernel_rfl)) (by decide) (fun K hK => ?_)
            refine Kd.N_lit_step (Kd.slice 36 k36) _ 26 ?hg (N' := 21) ?hd (xs := ([t220, t223] : List (List (S36)))) (inner := [.slice Ao75 t220.length co75, .slice Ao76 t223.length co76]) (ok := (fun k_ => some k_ ≠ (.slice Ao64 t209.length co64 : Value).ownBlock ∧ some k_ ≠ (.slice Ao66 t212.length co66 : Value).ownBlock ∧ k_ ≠ gb215)) (okp := (fun k_ => some k_ ≠ (.slice Ao64 t209.length co64 : Value).ownBlock ∧ some k_ ≠ (.slice Ao66 t212.length co66 : Value).ownBlock ∧ k_ ≠ gb215)) ?hr ?hp (fun _ hk => hk) ((show ∀ k_, w74.heap.size ≤ k_ → (fun k_ => some k_ ≠ (.slice Ao64 t209.length co64 : Value).ownBlock ∧ some k_ ≠ (.slice Ao66 t212.length co66 : Value).ownBlock ∧ k_ ≠ gb215) k_ from fun k_ hk => ⟨Kd.fresh' (Kd.R_lt (by (with_reducible repeat (first | apply Kd.R_alloc | apply Kd.R_drewN | apply Kd.R_drew)); exact HO211.out)) k_ hk, Kd.fresh' (Kd.R_lt (by (with_reducible repeat (first | apply Kd.R_alloc | apply Kd.R_drewN | apply Kd.R_drew)); exact HO214.out)) k_ hk, Kd.freshB (g := gb215) (o := .cells #[.slice Ao64 t209.length co64, .slice Ao66 t212.length co66] 47 (0, 0)) (by (with_reducible repeat (first | refine blk_drewN ?_ _ | refine blk_drew ?_ | refine blk_alloc ?_ _)); exact BK215.out) k_ hk⟩) _ (Nat.le_refl _)) (Below.refl _ _) (Nat.le_refl _) (by simp) ?_; (case hd => rfl); (case hg => rfl); (case hr => first | (go_simp; done) | (go_simp; rfl)); (case hp => exact (Reps.one (show Kd.FK (Kd.slice 36 k36) _ _ t220 [.slice Ao75 t220.length co75] from (Kd.FK_slice_mk (Kd.R_reads' (Kd.R_mono (ok' := (fun k_ => some k_ ≠ (.slice Ao64 t209.length co64 : Value).ownBlock ∧ some k_ ≠ (.slice Ao66 t212.length co66 : Value).ownBlock ∧ k_ ≠ gb215)) (Kd.R_types (HO222.out) BK215.out (by decide)) (fun k_ hk => ⟨hk.1.1.1.2, ⟨hk.1.1.2, hk.2⟩⟩))).2.1 (Kd.R_F (Kd.R_mono (ok' := (fun k_ => some k_ ≠ (.slice Ao64 t209.length co64 : Value).ownBlock ∧ some k_ ≠ (.slice Ao66 t212.length co66 : Value).ownBlock ∧ k_ ≠ gb215)) (Kd.R_types (HO222.out) BK215.out (by decide)) (fun k_ hk => ⟨hk.1.1.1.2, ⟨hk.1.1.2, hk.2⟩⟩))))) (Reps.one (show Kd.FK (Kd.slice 36 k36) _ _ t223 [.slice Ao76 t223.length co76] from (Kd.FK_slice_mk (Kd.R_reads' (Kd.R_mono (ok' := (fun k_ => some k_ ≠ (.slice Ao64 t209.length co64 : Value).ownBlock ∧ some k_ ≠ (.slice Ao66 t212.length co66 : Value).ownBlock ∧ k_ ≠ gb215)) (Kd.R_types (HO225.out) BK215.out (by decide)) (fun k_ hk => ⟨hk.1.1.1.2, ⟨hk.1.1.2, hk.2⟩⟩))).2.1 (Kd.R_F (Kd.R_mono (ok' := (fun k_ => some k_ ≠ (.slice Ao64 t209.length co64 : Value).ownBlock ∧ some k_ ≠ (.slice Ao66 t212.length co66 : Value).ownBlock ∧ k_ ≠ gb215)) (Kd.R_types (HO225.out) BK215.out (by decide)) (fun k_ hk => ⟨hk.1.1.1.2, ⟨hk.1.1.2, hk.2⟩⟩))))) (Reps.none _ _))))
            intro v227 w77 ho78 hb hg_ hnew_
            clear hg_ hnew_
            (first | rw [← Ny226.out] at ho78 | (simp only [Int.reduceToNat] at ho78; rw [← Ny226.out] at ho78))
            have n0_ := Sd.mk (Kd.R_below (by (with_reducible repeat (first | apply Kd.R_alloc | apply Kd.R_drewN | apply Kd.R_drew)); exact HO211.out) hb)
            have n1_ := Sd.mk (Kd.R_below (by (with_reducible repeat (first | apply Kd.R_alloc | apply Kd.R_drewN | apply Kd.R_drew)); exact HO214.out) hb)
            have n2_ := Sd.mk (Kd.N_lower ho78 (below_size (by repeat (first | (with_reducible first | exact HB.out | apply bwA | apply pwN | apply bwD | refine below_set ?_ GE215.out) | exact HB.out))))
            have n3_ := Sd.mk (blk_below (g := gb215) (o := .cells #[.slice Ao64 t209.length co64, .slice Ao66 t212.length co66] 47 (0, 0)) (by (with_reducible repeat (first | refine blk_drewN ?_ _ | refine blk_drew ?_ | refine blk_alloc ?_ _)); exact BK215.out) hb)
            have n4_ := Sd.mk (below_step (by repeat (first | (with_reducible first | exact HB.out | apply bwA | apply pwN | apply bwD | refine below_set ?_ GE215.out) | exact HB.out)) hb)
            clear HO211
            clear HO214
            clear BK215
            clear HB
            clear HO222
            clear HO225
            have HO211 := n0_
            have HO214 := n1_
            have HO228 := n2_
            have BK215 := n3_
            have HB := n4_
            clear n0_ n1_ n2_ n3_ n4_
            clear hb ho78
            obtain ⟨Ao79, co79, eo79⟩ := Kd.N_slice HO228.out
            (first | subst eo79 | (injection eo79 with f1_ f2_ f3_; have f4_ := f1_.symm; have f5_ := f3_.symm; clear f1_ f2_ f3_; subst f4_; subst f5_))
            refine hK.out _ _ ⟨(blk_cell BK215.out 0).trans rfl, (blk_cell BK215.out 1).trans rfl⟩ (fun hHeld => ?_)
            clear hK K
            refine norm_ (a' := ?_) ?_ ?_
            rotate_left
            ·show Act.put _ (some 21) _ = _
             simp only [Act.put, List.setIfInBounds_toArray, List.set_cons_zero, List.set_cons_succ, i64_w, i32_w]
             rfl
            refine one_ (i := 9) (N := some 22) #[true, true, true, true, true, true, true, true, true, true, false, false, false, false, false, false, false, false, false, false, false, false, false, false, false, false, false, false, false, false, false, false, false, false, false, false, false, false, false, false, false, false, false, false, false, false, false, false, false, false, false, false, false, false, false, false, false, false, false, false, false, false, false, false, false, false, false, false, false] rfl rfl (one_of HT_.out (by kernel_rfl)) (by decide) (fun K hK => ?_)
            refine goes_ Try.func12 (by kernel_rfl) rfl #[.slice Ao79 y226.length co79] (by rfl) rfl rfl (by (try simp only [List.map_toArray, List.map_cons, List.map_nil]); first | done | rfl | (simp only [List.length_drop, List.length_take]; rfl)) ?_
            with_reducible refine (axis_Union.calls _ _ y226 t229 _ ?side1 ?side2 A11.out).mono ?_
            (case side1 => repeat (first | exact (Kd.N_reads' HO228.out).2.2 | (with_reducible refine Kd.C_alloc ?_ _) | (with_reducible refine Kd.C_drewN ?_ _) | (with_reducible refine Kd.C_drew ?_)))
            (case side2 => exact (Kd.N_reads' HO228.out).2.1)
            rintro e w80 ⟨v230, rfl, ho0, hb⟩
            refine ⟨_, rfl, ?_⟩
            have n0_ := Sd.mk (Kd.R_elder' (by (with_reducible repeat (first | apply Kd.R_alloc | apply Kd.R_drewN | apply Kd.R_drew)); exact HO211.out) (Kd.R_base ho0) hb)
            have n1_ := Sd.mk (Kd.R_elder' (by (with_reducible repeat (first | apply Kd.R_alloc | apply Kd.R_drewN | apply Kd.R_drew)); exact HO214.out) (Kd.R_base ho0) hb)
            have n2_ := Sd.mk (Kd.N_elder' (by (with_reducible repeat (first | apply Kd.N_alloc | apply Kd.N_drewN | apply Kd.N_drew)); exact HO228.out) (Kd.R_base ho0) hb)
            have n3_ := Sd.mk (Kd.R_lower (Kd.R_new' (Kd.R_new' ho0 (Kd.R_lt (by (with_reducible repeat (first | apply Kd.R_alloc | apply Kd.R_drewN | apply Kd.R_drew)); exact HO211.out))) (Kd.R_lt (by (with_reducible repeat (first | apply Kd.R_alloc | apply Kd.R_drewN | apply Kd.R_drew)); exact HO214.out))) (below_size (by repeat (first | (with_reducible first | exact HB.out | apply bwA | apply pwN | apply bwD | refine below_set ?_ GE215.out) | exact HB.out))))
            have n4_ := Sd.mk (blk_below (g := gb215) (o := .cells #[.slice Ao64 t209.length co64, .slice Ao66 t212.length co66] 47 (0, 0)) (by (with_reducible repeat (first | refine blk_drewN ?_ _ | refine blk_drew ?_ | refine blk_alloc ?_ _)); exact BK215.out) hb)
            have n5_ := Sd.mk (below_step (by repeat (first | (with_reducible first | exact HB.out | apply bwA | apply pwN | apply bwD | refine below_set ?_ GE215.out) | exact HB.out)) hb)
            clear HO211
            clear HO214
            clear HO228
            clear BK215
            clear HB
            have HO211 := n0_
            have HO214 := n1_
            have HO228 := n2_
            have HO231 := n3_
            have BK215 := n4_
            have HB := n5_
            clear n0_ n1_ n2_ n3_ n4_ n5_
            (try clear hb)
            (try clear hb2)
            (try clear hk)
            (try clear hi)
            (try clear ho0)
            refine hK.out _ _ ⟨(blk_cell BK215.out 0).trans rfl, (blk_cell BK215.out 1).trans rfl⟩ (fun hHeld => ?_)
            clear hK K
            refine norm_ (a' := ?_) ?_ ?_
            rotate_left
            ·show Act.put _ (some 22) _ = _
             simp only [Act.put, List.setIfInBounds_toArray, List.set_cons_zero, List.set_cons_succ, i64_w, i32_w]
             rfl
            refine one_ (i := 10) (N := some 23) #[true, true, true, true, true, true, true, true, true, true, true, false, false, false, false, false, false, false, false, false, false, false, false, false, false, false, false, false, false, false, false, false, false, false, false, false, false, false, false, false, false, false, false, false, false, false, false, false, false, false, false, false, false, false, false, false, false, false, false, false, false, false, false, false, false, false, false, false, false] rfl rfl (one_of HT_.out (by kernel_rfl)) (by decide) (fun K hK => ?_)
            refine goes_ Try.func38 (by kernel_rfl) rfl #[.int .u32 1, .int .u32 6] (by rfl) rfl rfl (by (try simp only [List.map_toArray, List.map_cons, List.map_nil]); first | done | rfl | (simp only [List.length_drop, List.length_take]; rfl)) ?_
            with_reducible refine (lw_one.calls 1 6 t232 _ A12.out).mono ?_
            rintro e w81 ⟨v233, rfl, ho0, hb⟩
            refine ⟨_, rfl, ?_⟩
            have n0_ := Sd.mk (Kd.R_elder' (by (with_reducible repeat (first | apply Kd.R_alloc | apply Kd.R_drewN | apply Kd.R_drew)); exact HO211.out) (Kd.R_base ho0) hb)
            have n1_ := Sd.mk (Kd.R_elder' (by (with_reducible repeat (first | apply Kd.R_alloc | apply Kd.R_drewN | apply Kd.R_drew)); exact HO214.out) (Kd.R_base ho0) hb)
            have n2_ := Sd.mk (Kd.R_elder' (by (with_reducible repeat (first | apply Kd.R_alloc | apply Kd.R_drewN | apply Kd.R_drew)); exact HO231.out) (Kd.R_base ho0) hb)
            have n3_ := Sd.mk (Kd.R_lower (Kd.R_new' (Kd.R_new' (Kd.R_new' ho0 (Kd.R_lt (by (with_reducible repeat (first | apply Kd.R_alloc | apply Kd.R_drewN | apply Kd.R_drew)); exact HO211.out))) (Kd.R_lt (by (with_reducible repeat (first | apply Kd.R_alloc | apply Kd.R_drewN | apply Kd.R_drew)); exact HO214.out))) (Kd.R_lt (by (with_reducible repeat (first | apply Kd.R_alloc | apply Kd.R_drewN | apply Kd.R_drew)); exact HO231.out))) (below_size (by repeat (first | (with_reducible first | exact HB.out | apply bwA | apply pwN | apply bwD | refine below_set ?_ GE215.out) | exact HB.out))))
            have n4_ := Sd.mk (blk_below (g := gb215) (o := .cells #[.slice Ao64 t209.length co64, .slice Ao66 t212.length co66] 47 (0, 0)) (by (with_reducible repeat (first | refine blk_drewN ?_ _ | refine blk_drew ?_ | refine blk_alloc ?_ _)); exact BK215.out) hb)
            have n5_ := Sd.mk (below_step (by repeat (first | (with_reducible first | exact HB.out | apply bwA | apply pwN | apply bwD | refine below_set ?_ GE215.out) | exact HB.out)) hb)
            clear HO211
            clear HO214
            clear HO231
            clear BK215
            clear HB
            have HO211 := n0_
            have HO214 := n1_
            have HO231 := n2_
            have HO234 := n3_
            have BK215 := n4_
            have HB := n5_
            clear n0_ n1_ n2_ n3_ n4_ n5_
            (try clear hb)
            (try clear hb2)
            (try clear hk)
            (try clear hi)
            (try clear ho0)
            obtain ⟨Ao82, co82, eo82⟩ := Kd.R_slice HO231.out
            (first | subst eo82 | (injection eo82 with f1_ f2_ f3_; have f4_ := f1_.symm; have f5_ := f3_.symm; clear f1_ f2_ f3_; subst f4_; subst f5_))
            obtain ⟨Ao83, co83, eo83⟩ := Kd.R_slice HO234.out
            (first | subst eo83 | (injection eo83 with f1_ f2_ f3_; have f4_ := f1_.symm; have f5_ := f3_.symm; clear f1_ f2_ f3_; subst f4_; subst f5_))
            refine hK.out _ _ ⟨(blk_cell BK215.out 0).trans rfl, (blk_cell BK215.out 1).trans rfl⟩ (fun hHeld => ?_)
            clear hK K
            refine norm_ (a' := ?_) ?_ ?_
            rotate_left
            ·show Act.put _ (some 23) _ = _
             simp only [Act.put, List.setIfInBounds_toArray, List.set_cons_zero, List.set_cons_succ, i64_w, i32_w]
             rfl
            refine one_ (i := 11) (N := some 24) #[true, true, true, true, true, true, true, true, true, true, true, true, false, false, false, false, false, false, false, false, false, false, false, false, false, false, false, false, false, false, false, false, false, false, false, false, false, false, false, false, false, false, false, false, false, false, false, false, false, false, false, false, false, false, false, false, false, false, false, false, false, false, false, false, false, false, false, false, false] rfl rfl (one_of HT_.out (by kernel_rfl)) (by decide) (fun K hK => ?_)
            refine goes_ Try.func14 (by kernel_rfl) rfl #[.slice Ao82 t229.length co82, .slice Ao83 t232.length co83] (by rfl) rfl rfl (by (try simp only [List.map_toArray, List.map_cons, List.map_nil]); first | done | rfl | (simp only [List.length_drop, List.length_take]; rfl)) ?_
            with_reducible refine (rf_Same.calls k _ _ t229 _ _ t232 true _ ?side1 ?side2 ?side3 ?side4 A13.out).mono ?_
            (case side1 => repeat (first | exact (Kd.R_reads' HO231.out).2.2 | (with_reducible refine Kd.C_alloc ?_ _) | (with_reducible refine Kd.C_drewN ?_ _) | (with_reducible refine Kd.C_drew ?_)))
            (case side2 => exact (Kd.R_reads' HO231.out).2.1)
            (case side3 => repeat (first | exact (Kd.R_reads' HO234.out).2.2 | (with_reducible refine Kd.C_alloc ?_ _) | (with_reducible refine Kd.C_drewN ?_ _) | (with_reducible refine Kd.C_drew ?_)))
            (case side4 => exact (Kd.R_reads' HO234.out).2.1)
            rintro e w' ⟨rfl, ⟨nd, rfl⟩⟩
            refine ⟨_, rfl, ?_⟩
            refine hK.out _ _ ⟨(blk_cell BK215.out 0).trans rfl, (blk_cell BK215.out 1).trans rfl⟩ (fun hHeld => ?_)
            clear hK K
            refine norm_ (a' := ?_) ?_ ?_
            rotate_left
            ·show Act.put _ (some 24) _ = _
             simp only [Act.put, List.setIfInBounds_toArray, List.set_cons_zero, List.set_cons_succ, i64_w, i32_w]
             rfl
            refine pure_ (i := 12) (N := some 25) (v := ?_) (a' := ?_) #[true, true, true, true, true, true, true, true, true, true, true, true, true, false, false, false, false, false, false, false, false, false, false, false, false, false, false, false, false, false, false, false, false, false, false, false, false, false, false, false, false, false, false, false, false, false, false, false, false, false, false, false, false, false, false, false, false, false, false, false, false, false, false, false, false, false, false, false, false] rfl rfl (any_of HT_.out (by kernel_rfl)) (fun _ _ _ h => h) (Or.inl ⟨by rfl, ?_⟩) ?_ ?_
            rotate_left
            ·intro w'
             go_simp
             with_reducible rfl
            rotate_left
            ·simp only [Act.put, List.setIfInBounds_toArray, List.set_cons_zero, List.set_cons_succ, i64_w, i32_w]
             rfl
            refine pure_ (i := 13) (N := some 26) (v := ?_) (a' := ?_) #[true, true, true, true, true, true, true, true, true, true, true, true, true, true, false, false, false, false, false, false, false, false, false, false, false, false, false, false, false, false, false, false, false, false, false, false, false, false, false, false, false, false, false, false, false, false, false, false, false, false, false, false, false, false, false, false, false, false, false, false, false, false, false, false, false, false, false, false, false] rfl rfl (any_of HT_.out (by kernel_rfl)) (fun _ _ _ h => h) (Or.inl ⟨by rfl, ?_⟩) ?_ ?_
            rotate_left
            ·intro w'
             go_simp
             with_reducible rfl
            rotate_left
            ·simp only [Act.put, List.setIfInBounds_toArray, List.set_cons_zero, List.set_cons_succ, i64_w, i32_w]
             rfl
            refine one_ (i := 14) (N := some 27) #[true, true, true, true, true, true, true, true, true, true, true, true, true, true, true, false, false, false, false, false, false, false, false, false, false, false, false, false, false, false, false, false, false, false, false, false, false, false, false, false, false, false, false, false, false, false, false, false, false, false, false, false, false, false, false, false, false, false, false, false, false, false, false, false, false, false, false, false, false] rfl rfl (one_of HT_.out (by kernel_rfl)) (by decide) (fun K hK => ?_)
            refine goes_ Try.func38 (by kernel_rfl) rfl #[.int .u32 4, .int .u32 2] (by rfl) rfl rfl (by (try simp only [List.map_toArray, List.map_cons, List.map_nil]); first | done | rfl | (simp only [List.length_drop, List.length_take]; rfl)) ?_
            with_reducible refine (lw_one.calls 4 2 t236 _ A15.out).mono ?_
            rintro e w84 ⟨v237, rfl, ho0, hb⟩
            refine ⟨_, rfl, ?_⟩
            have n0_ := Sd.mk (Kd.R_elder' (by (with_reducible repeat (first | apply Kd.R_alloc | apply Kd.R_drewN | apply Kd.R_drew)); exact HO211.out) (Kd.R_base ho0) hb)
            have n1_ := Sd.mk (Kd.R_elder' (by (with_reducible repeat (first | apply Kd.R_alloc | apply Kd.R_drewN | apply Kd.R_drew)); exact HO214.out) (Kd.R_base ho0) hb)
            have n2_ := Sd.mk (Kd.R_lower (Kd.R_new' (Kd.R_new' ho0 (Kd.R_lt (by (with_reducible repeat (first | apply Kd.R_alloc | apply Kd.R_drewN | apply Kd.R_drew)); exact HO211.out))) (Kd.R_lt (by (with_reducible repeat (first | apply Kd.R_alloc | apply Kd.R_drewN | apply Kd.R_drew)); exact HO214.out))) (below_size (by repeat (first | (with_reducible first | exact HB.out | apply bwA | apply pwN | apply bwD | refine below_set ?_ GE215.out) | exact HB.out))))
            have n3_ := Sd.mk (blk_below (g := gb215) (o := .cells #[.slice Ao64 t209.length co64, .slice Ao66 t212.length co66] 47 (0, 0)) (by (with_reducible repeat (first | refine blk_drewN ?_ _ | refine blk_drew ?_ | refine blk_alloc ?_ _)); exact BK215.out) hb)
            have n4_ := Sd.mk (below_step (by repeat (first | (with_reducible first | exact HB.out | apply bwA | apply pwN | apply bwD | refine below_set ?_ GE215.out) | exact HB.out)) hb)
            clear HO211
            clear HO214
            clear BK215
            clear HB
            have HO211 := n0_
            have HO214 := n1_
            have HO238 := n2_
            have BK215 := n3_
            have HB := n4_
            clear n0_ n1_ n2_ n3_ n4_
            (try clear hb)
            (try clear hb2)
            (try clear hk)
            (try clear hi)
            (try clear ho0)
            obtain ⟨Ao85, co85, eo85⟩ := Kd.R_slice HO238.out
            (first | subst eo85 | (injection eo85 with f1_ f2_ f3_; have f4_ := f1_.symm; have f5_ := f3_.symm; clear f1_ f2_ f3_; subst f4_; subst f5_))
            refine hK.out _ _ ⟨(blk_cell BK215.out 0).trans rfl, (blk_cell BK215.out 1).trans rfl⟩ (fun hHeld => ?_)
            clear hK K
            refine norm_ (a' := ?_) ?_ ?_
            rotate_left
            ·show Act.put _ (some 27) _ = _
             simp only [Act.put, List.setIfInBounds_toArray, List.set_cons_zero, List.set_cons_succ, i64_w, i32_w]
             rfl
            refine one_ (i := 15) (N := some 28) #[true, true, true, true, true, true, true, true, true, true, true, true, true, true, true, true, false, false, false, false, false, false, false, false, false, false, false, false, false, false, false, false, false, false, false, false, false, false, false, false, false, false, false, false, false, false, false, false, false, false, false, false, false, false, false, false, false, false, false, false, false, false, false, false, false, false, false, false, false] rfl rfl (one_of HT_.out (by kernel_rfl)) (by decide) (fun K hK => ?_)
            refine Kd.N_lit_step (Kd.slice 36 k36) _ 26 ?hg (N' := 28) ?hd (xs := ([t236] : List (List (S36)))) (inner := [.slice Ao85 t236.length co85]) (ok := (fun k_ => some k_ ≠ (.slice Ao64 t209.length co64 : Value).ownBlock ∧ some k_ ≠ (.slice Ao66 t212.length co66 : Value).ownBlock ∧ k_ ≠ gb215)) (okp := (fun k_ => some k_ ≠ (.slice Ao64 t209.length co64 : Value).ownBlock ∧ some k_ ≠ (.slice Ao66 t212.length co66 : Value).ownBlock ∧ k_ ≠ gb215)) ?hr ?hp (fun _ hk => hk) ((show ∀ k_, w84.heap.size ≤ k_ → (fun k_ => some k_ ≠ (.slice Ao64 t209.length co64 : Value).ownBlock ∧ some k_ ≠ (.slice Ao66 t212.length co66 : Value).ownBlock ∧ k_ ≠ gb215) k_ from fun k_ hk => ⟨Kd.fresh' (Kd.R_lt (by (with_reducible repeat (first | apply Kd.R_alloc | apply Kd.R_drewN | apply Kd.R_drew)); exact HO211.out)) k_ hk, Kd.fresh' (Kd.R_lt (by (with_reducible repeat (first | apply Kd.R_alloc | apply Kd.R_drewN | apply Kd.R_drew)); exact HO214.out)) k_ hk, Kd.freshB (g := gb215) (o := .cells #[.slice Ao64 t209.length co64, .slice Ao66 t212.length co66] 47 (0, 0)) (by (with_reducible repeat (first | refine blk_drewN ?_ _ | refine blk_drew ?_ | refine blk_alloc ?_ _)); exact BK215.out) k_ hk⟩) _ (Nat.le_refl _)) (Below.refl _ _) (Nat.le_refl _) (by simp) ?_; (case hd => rfl); (case hg => rfl); (case hr => first | (go_simp; done) | (go_simp; rfl)); (case hp => exact (Reps.one (show Kd.FK (Kd.slice 36 k36) _ _ t236 [.slice Ao85 t236.length co85] from (Kd.FK_slice_mk (Kd.R_reads' (Kd.R_mono (ok' := (fun k_ => some k_ ≠ (.slice Ao64 t209.length co64 : Value).ownBlock ∧ some k_ ≠ (.slice Ao66 t212.length co66 : Value).ownBlock ∧ k_ ≠ gb215)) (Kd.R_types (HO238.out) BK215.out (by decide)) (fun k_ hk => ⟨hk.1.1.2, ⟨hk.1.2, hk.2⟩⟩))).2.1 (Kd.R_F (Kd.R_mono (ok' := (fun k_ => some k_ ≠ (.slice Ao64 t209.length co64 : Value).ownBlock ∧ some k_ ≠ (.slice Ao66 t212.length co66 : Value).ownBlock ∧ k_ ≠ gb215)) (Kd.R_types (HO238.out) BK215.out (by decide)) (fun k_ hk => ⟨hk.1.1.2, ⟨hk.1.2, hk.2⟩⟩))))) (Reps.none _ _)))
            intro v240 w86 ho87 hb hg_ hnew_
            clear hg_ hnew_
            (first | rw [← Ny239.out] at ho87 | (simp only [Int.reduceToNat] at ho87; rw [← Ny239.out] at ho87))
            have n0_ := Sd.mk (Kd.R_below (by (with_reducible repeat (first | apply Kd.R_alloc | apply Kd.R_drewN | apply Kd.R_drew)); exact HO211.out) hb)
            have n1_ := Sd.mk (Kd.R_below (by (with_reducible repeat (first | apply Kd.R_alloc | apply Kd.R_drewN | apply Kd.R_drew)); exact HO214.out) hb)
            have n2_ := Sd.mk (Kd.N_lower ho87 (below_size (by repeat (first | (with_reducible first | exact HB.out | apply bwA | apply pwN | apply bwD | refine below_set ?_ GE215.out) | exact HB.out))))
            have n3_ := Sd.mk (blk_below (g := gb215) (o := .cells #[.slice Ao64 t209.length co64, .slice Ao66 t212.length co66] 47 (0, 0)) (by (with_reducible repeat (first | refine blk_drewN ?_ _ | refine blk_drew ?_ | refine blk_alloc ?_ _)); exact BK215.out) hb)
            have n4_ := Sd.mk (below_step (by repeat (first | (with_reducible first | exact HB.out | apply bwA | apply pwN | apply bwD | refine below_set ?_ GE215.out) | exact HB.out)) hb)
            clear HO211
            clear HO214
            clear BK215
            clear HB
            clear HO238
            have HO211 := n0_
            have HO214 := n1_
            have HO241 := n2_
            have BK215 := n3_
            have HB := n4_
            clear n0_ n1_ n2_ n3_ n4_
            clear hb ho87
            obtain ⟨Ao88, co88, eo88⟩ := Kd.N_slice HO241.out
            (first | subst eo88 | (injection eo88 with f1_ f2_ f3_; have f4_ := f1_.symm; have f5_ := f3_.symm; clear f1_ f2_ f3_; subst f4_; subst f5_))
            refine hK.out _ _ ⟨(blk_cell BK215.out 0).trans rfl, (blk_cell BK215.out 1).trans rfl⟩ (fun hHeld => ?_)
            clear hK K
            refine norm_ (a' := ?_) ?_ ?_
            rotate_left
            ·show Act.put _ (some 28) _ = _
             simp only [Act.put, List.setIfInBounds_toArray, List.set_cons_zero, List.set_cons_succ, i64_w, i32_w]
             rfl
            refine one_ (i := 16) (N := some 29) #[true, true, true, true, true, true, true, true, true, true, true, true, true, true, true, true, true, false, false, false, false, false, false, false, false, false, false, false, false, false, false, false, false, false, false, false, false, false, false, false, false, false, false, false, false, false, false, false, false, false, false, false, false, false, false, false, false, false, false, false, false, false, false, false, false, false, false, false, false] rfl rfl (one_of HT_.out (by kernel_rfl)) (by decide) (fun K hK => ?_)
            refine goes_ Try.func12 (by kernel_rfl) rfl #[.slice Ao88 y239.length co88] (by rfl) rfl rfl (by (try simp only [List.map_toArray, List.map_cons, List.map_nil]); first | done | rfl | (simp only [List.length_drop, List.length_take]; rfl)) ?_
            with_reducible refine (axis_Union.calls _ _ y239 t242 _ ?side1 ?side2 A16.out).mono ?_
            (case side1 => repeat (first | exact (Kd.N_reads' HO241.out).2.2 | (with_reducible refine Kd.C_alloc ?_ _) | (with_reducible refine Kd.C_drewN ?_ _) | (with_reducible refine Kd.C_drew ?_)))
            (case side2 => exact (Kd.N_reads' HO241.out).2.1)
            rintro e w89 ⟨v243, rfl, ho0, hb⟩
            refine ⟨_, rfl, ?_⟩
            have n0_ := Sd.mk (Kd.R_elder' (by (with_reducible repeat (first | apply Kd.R_alloc | apply Kd.R_drewN | apply Kd.R_drew)); exact HO211.out) (Kd.R_base ho0) hb)
            have n1_ := Sd.mk (Kd.R_elder' (by (with_reducible repeat (first | apply Kd.R_alloc | apply Kd.R_drewN | apply Kd.R_drew)); exact HO214.out) (Kd.R_base ho0) hb)
            have n2_ := Sd.mk (Kd.N_elder' (by (with_reducible repeat (first | apply Kd.N_alloc | apply Kd.N_drewN | apply Kd.N_drew)); exact HO241.out) (Kd.R_base ho0) hb)
            have n3_ := Sd.mk (Kd.R_lower (Kd.R_new' (Kd.R_new' ho0 (Kd.R_lt (by (with_reducible repeat (first | apply Kd.R_alloc | apply Kd.R_drewN | apply Kd.R_drew)); exact HO211.out))) (Kd.R_lt (by (with_reducible repeat (first | apply Kd.R_alloc | apply Kd.R_drewN | apply Kd.R_drew)); exact HO214.out))) (below_size (by repeat (first | (with_reducible first | exact HB.out | apply bwA | apply pwN | apply bwD | refine below_set ?_ GE215.out) | exact HB.out))))
            have n4_ := Sd.mk (blk_below (g := gb215) (o := .cells #[.slice Ao64 t209.length co64, .slice Ao66 t212.length co66] 47 (0, 0)) (by (with_reducible repeat (first | refine blk_drewN ?_ _ | refine blk_drew ?_ | refine blk_alloc ?_ _)); exact BK215.out) hb)
            have n5_ := Sd.mk (below_step (by repeat (first | (with_reducible first | exact HB.out | apply bwA | apply pwN | apply bwD | refine below_set ?_ GE215.out) | exact HB.out)) hb)
            clear HO211
            clear HO214
            clear HO241
            clear BK215
            clear HB
            have HO211 := n0_
            have HO214 := n1_
            have HO241 := n2_
            have HO244 := n3_
            have BK215 := n4_
            have HB := n5_
            clear n0_ n1_ n2_ n3_ n4_ n5_
            (try clear hb)
            (try clear hb2)
            (try clear hk)
            (try clear hi)
            (try clear ho0)
            obtain ⟨Ao90, co90, eo90⟩ := Kd.R_slice HO244.out
            (first | subst eo90 | (injection eo90 with f1_ f2_ f3_; have f4_ := f1_.symm; have f5_ := f3_.symm; clear f1_ f2_ f3_; subst f4_; subst f5_))
            refine hK.out _ _ ⟨(blk_cell BK215.out 0).trans rfl, (blk_cell BK215.out 1).trans rfl⟩ (fun hHeld => ?_)
            clear hK K
            refine norm_ (a' := ?_) ?_ ?_
            rotate_left
            ·show Act.put _ (some 29) _ = _
             simp only [Act.put, List.setIfInBounds_toArray, List.set_cons_zero, List.set_cons_succ, i64_w, i32_w]
             rfl
            refine pure_ (i := 17) (N := some 30) (v := ?_) (a' := ?_) #[true, true, true, true, true, true, true, true, true, true, true, true, true, true, true, true, true, true, false, false, false, false, false, false, false, false, false, false, false, false, false, false, false, false, false, false, false, false, false, false, false, false, false, false, false, false, false, false, false, false, false, false, false, false, false, false, false, false, false, false, false, false, false, false, false, false, false, false, false] rfl rfl (any_of HT_.out (by kernel_rfl)) (fun _ _ _ h => h) (Or.inl ⟨by rfl, ?_⟩) ?_ ?_
            rotate_left
            ·intro w'
             go_simp
             with_reducible rfl
            rotate_left
            ·simp only [Act.put, List.setIfInBounds_toArray, List.set_cons_zero, List.set_cons_succ, i64_w, i32_w]
             rfl
            refine pure_ (i := 18) (N := some 31) (v := ?_) (a' := ?_) #[true, true, true, true, true, true, true, true, true, true, true, true, true, true, true, true, true, true, true, false, false, false, false, false, false, false, false, false, false, false, false, false, false, false, false, false, false, false, false, false, false, false, false, false, false, false, false, false, false, false, false, false, false, false, false, false, false, false, false, false, false, false, false, false, false, false, false, false, false] rfl rfl (any_of HT_.out (by kernel_rfl)) (fun _ _ _ h => h) (Or.inl ⟨by rfl, ?_⟩) ?_ ?_
            rotate_left
            ·intro w'
             go_simp
             with_reducible rfl
            rotate_left
            ·simp only [Act.put, List.setIfInBounds_toArray, List.set_cons_zero, List.set_cons_succ, i64_w, i32_w]
             rfl
            refine pure_ (i := 19) (N := some 32) (v := ?_) (a' := ?_) #[true, true, true, true, true, true, true, true, true, true, true, true, true, true, true, true, true, true, true, true, false, false, false, false, false, false, false, false, false, false, false, false, false, false, false, false, false, false, false, false, false, false, false, false, false, false, false, false, false, false, false, false, false, false, false, false, false, false, false, false, false, false, false, false, false, false, false, false, false] rfl rfl (any_of HT_.out (by kernel_rfl)) (fun _ _ _ h => h) (Or.inl ⟨by rfl, ?_⟩) ?_ ?_
            rotate_left
            ·intro w'
             go_simp
             with_reducible rfl
            rotate_left
            ·simp only [Act.put, List.setIfInBounds_toArray, List.set_cons_zero, List.set_cons_succ, i64_w, i32_w]
             rfl
            refine pure_ (i := 20) (N := some 33) (v := ?_) (a' := ?_) #[true, true, true, true, true, true, true, true, true, true, true, true, true, true, true, true, true, true, true, true, true, false, false, false, false, false, false, false, false, false, false, false, false, false, false, false, false, false, false, false, false, false, false, false, false, false, false, false, false, false, false, false, false, false, false, false, false, false, false, false, false, false, false, false, false, false, false, false, false] rfl rfl (any_of HT_.out (by kernel_rfl)) (fun _ _ _ h => h) (Or.inl ⟨by rfl, ?_⟩) ?_ ?_
            rotate_left
            ·intro w'
             go_simp
             with_reducible rfl
            rotate_left
            ·simp only [Act.put, List.setIfInBounds_toArray, List.set_cons_zero, List.set_cons_succ, i64_w, i32_w]
             rfl
            refine one_ (i := 21) (N := some 34) #[true, true, true, true, true, true, true, true, true, true, true, true, true, true, true, true, true, true, true, true, true, true, false, false, false, false, false, false, false, false, false, false, false, false, false, false, false, false, false, false, false, false, false, false, false, false, false, false, false, false, false, false, false, false, false, false, false, false, false, false, false, false, false, false, false, false, false, false, false] rfl rfl (one_of HT_.out (by kernel_rfl)) (by decide) (fun K hK => ?_)
            refine goes_ Try.func38 (by kernel_rfl) rfl #[.int .u32 1, .int .u32 5] (by rfl) rfl rfl (by (try simp only [List.map_toArray, List.map_cons, List.map_nil]); first | done | rfl | (simp only [List.length_drop, List.length_take]; rfl)) ?_
            with_reducible refine (lw_one.calls 1 5 t245 _ A18.out).mono ?_
            rintro e w91 ⟨v246, rfl, ho0, hb⟩
            refine ⟨_, rfl, ?_⟩
            have n0_ := Sd.mk (Kd.R_elder' (by (with_reducible repeat (first | apply Kd.R_alloc | apply Kd.R_drewN | apply Kd.R_drew)); exact HO211.out) (Kd.R_base ho0) hb)
            have n1_ := Sd.mk (Kd.R_elder' (by (with_reducible repeat (first | apply Kd.R_alloc | apply Kd.R_drewN | apply Kd.R_drew)); exact HO214.out) (Kd.R_base ho0) hb)
            have n2_ := Sd.mk (Kd.R_lower (Kd.R_new' (Kd.R_new' ho0 (Kd.R_lt (by (with_reducible repeat (first | apply Kd.R_alloc | apply Kd.R_drewN | apply Kd.R_drew)); exact HO211.out))) (Kd.R_lt (by (with_reducible repeat (first | apply Kd.R_alloc | apply Kd.R_drewN | apply Kd.R_drew)); exact HO214.out))) (below_size (by repeat (first | (with_reducible first | exact HB.out | apply bwA | apply pwN | apply bwD | refine below_set ?_ GE215.out) | exact HB.out))))
            have n3_ := Sd.mk (blk_below (g := gb215) (o := .cells #[.slice Ao64 t209.length co64, .slice Ao66 t212.length co66] 47 (0, 0)) (by (with_reducible repeat (first | refine blk_drewN ?_ _ | refine blk_drew ?_ | refine blk_alloc ?_ _)); exact BK215.out) hb)
            have n4_ := Sd.mk (below_step (by repeat (first | (with_reducible first | exact HB.out | apply bwA | apply pwN | apply bwD | refine below_set ?_ GE215.out) | exact HB.out)) hb)
            clear HO211
            clear HO214
            clear BK215
            clear HB
            have HO211 := n0_
            have HO214 := n1_
            have HO247 := n2_
            have BK215 := n3_
            have HB := n4_
            clear n0_ n1_ n2_ n3_ n4_
            (try clear hb)
            (try clear hb2)
            (try clear hk)
            (try clear hi)
            (try clear ho0)
            refine hK.out _ _ ⟨(blk_cell BK215.out 0).trans rfl, (blk_cell BK215.out 1).trans rfl⟩ (fun hHeld => ?_)
            clear hK K
            refine norm_ (a' := ?_) ?_ ?_
            rotate_left
            ·show Act.put _ (some 34) _ = _
             simp only [Act.put, List.setIfInBounds_toArray, List.set_cons_zero, List.set_cons_succ, i64_w, i32_w]
             rfl
            refine one_ (i := 22) (N := some 35) #[true, true, true, true, true, true, true, true, true, true, true, true, true, true, true, true, true, true, true, true, true, true, true, false, false, false, false, false, false, false, false, false, false, false, false, false, false, false, false, false, false, false, false, false, false, false, false, false, false, false, false, false, false, false, false, false, false, false, false, false, false, false, false, false, false, false, false, false, false] rfl rfl (one_of HT_.out (by kernel_rfl)) (by decide) (fun K hK => ?_)
            refine goes_ Try.func38 (by kernel_rfl) rfl #[.int .u32 4, .int .u32 9] (by rfl) rfl rfl (by (try simp only [List.map_toArray, List.map_cons, List.map_nil]); first | done | rfl | (simp only [List.length_drop, List.length_take]; rfl)) ?_
            with_reducible refine (lw_one.calls 4 9 t248 _ A19.out).mono ?_
            rintro e w92 ⟨v249, rfl, ho0, hb⟩
            refine ⟨_, rfl, ?_⟩
            have n0_ := Sd.mk (Kd.R_elder' (by (with_reducible repeat (first | apply Kd.R_alloc | apply Kd.R_drewN | apply Kd.R_drew)); exact HO211.out) (Kd.R_base ho0) hb)
            have n1_ := Sd.mk (Kd.R_elder' (by (with_reducible repeat (first | apply Kd.R_alloc | apply Kd.R_drewN | apply Kd.R_drew)); exact HO214.out) (Kd.R_base ho0) hb)
            have n2_ := Sd.mk (Kd.R_elder' (by (with_reducible repeat (first | apply Kd.R_alloc | apply Kd.R_drewN | apply Kd.R_drew)); exact HO247.out) (Kd.R_base ho0) hb)
            have n3_ := Sd.mk (Kd.R_lower (Kd.R_new' (Kd.R_new' (Kd.R_new' ho0 (Kd.R_lt (by (with_reducible repeat (first | apply Kd.R_alloc | apply Kd.R_drewN | apply Kd.R_drew)); exact HO211.out))) (Kd.R_lt (by (with_reducible repeat (first | apply Kd.R_alloc | apply Kd.R_drewN | apply Kd.R_drew)); exact HO214.out))) (Kd.R_lt (by (with_reducible repeat (first | apply Kd.R_alloc | apply Kd.R_drewN | apply Kd.R_drew)); exact HO247.out))) (below_size (by repeat (first | (with_reducible first | exact HB.out | apply bwA | apply pwN | apply bwD | refine below_set ?_ GE215.out) | exact HB.out))))
            have n4_ := Sd.mk (blk_below (g := gb215) (o := .cells #[.slice Ao64 t209.length co64, .slice Ao66 t212.length co66] 47 (0, 0)) (by (with_reducible repeat (first | refine blk_drewN ?_ _ | refine blk_drew ?_ | refine blk_alloc ?_ _)); exact BK215.out) hb)
            have n5_ := Sd.mk (below_step (by repeat (first | (with_reducible first | exact HB.out | apply bwA | apply pwN | apply bwD | refine below_set ?_ GE215.out) | exact HB.out)) hb)
            clear HO211
            clear HO214
            clear HO247
            clear BK215
            clear HB
            have HO211 := n0_
            have HO214 := n1_
            have HO247 := n2_
            have HO250 := n3_
            have BK215 := n4_
            have HB := n5_
            clear n0_ n1_ n2_ n3_ n4_ n5_
            (try clear hb)
            (try clear hb2)
            (try clear hk)
            (try clear hi)
            (try clear ho0)
            obtain ⟨Ao93, co93, eo93⟩ := Kd.R_slice HO247.out
            (first | subst eo93 | (injection eo93 with f1_ f2_ f3_; have f4_ := f1_.symm; have f5_ := f3_.symm; clear f1_ f2_ f3_; subst f4_; subst f5_))
            obtain ⟨Ao94, co94, eo94⟩ := Kd.R_slice HO250.out
            (first | subst eo94 | (injection eo94 with f1_ f2_ f3_; have f4_ := f1_.symm; have f5_ := f3_.symm; clear f1_ f2_ f3_; subst f4_; subst f5_))
            refine hK.out _ _ ⟨(blk_cell BK215.out 0).trans rfl, (blk_cell BK215.out 1).trans rfl⟩ (fun hHeld => ?_)
            clear hK K
            refine norm_ (a' := ?_) ?_ ?_
            rotate_left
            ·show Act.put _ (some 35) _ = _
             simp only [Act.put, List.setIfInBounds_toArray, List.set_cons_zero, List.set_cons_succ, i64_w, i32_w]
             rfl
            refine one_ (i := 23) (N := some 36) #[true, true, true, true, true, true, true, true, true, true, true, true, true, true, true, true, true, true, true, true, true, true, true, true, false, false, false, false, false, false, false, false, false, false, false, false, false, false, false, false, false, false, false, false, false, false, false, false, false, false, false, false, false, false, false, false, false, false, false, false, false, false, false, false, false, false, false, false, false] rfl rfl (one_of HT_.out (by kernel_rfl)) (by decide) (fun K hK => ?_)
            refine Kd.N_lit_step (Kd.slice 36 k36) _ 26 ?hg (N' := 36) ?hd (xs := ([t245, t248] : List (List (S36)))) (inner := [.slice Ao93 t245.length co93, .slice Ao94 t248.length co94]) (ok := (fun k_ => some k_ ≠ (.slice Ao64 t209.length co64 : Value).ownBlock ∧ some k_ ≠ (.slice Ao66 t212.length co66 : Value).ownBlock ∧ k_ ≠ gb215)) (okp := (fun k_ => some k_ ≠ (.slice Ao64 t209.length co64 : Value).ownBlock ∧ some k_ ≠ (.slice Ao66 t212.length co66 : Value).ownBlock ∧ k_ ≠ gb215)) ?hr ?hp (fun _ hk => hk) ((show ∀ k_, w92.heap.size ≤ k_ → (fun k_ => some k_ ≠ (.slice Ao64 t209.length co64 : Value).ownBlock ∧ some k_ ≠ (.slice Ao66 t212.length co66 : Value).ownBlock ∧ k_ ≠ gb215) k_ from fun k_ hk => ⟨Kd.fresh' (Kd.R_lt (by (with_reducible repeat (first | apply Kd.R_alloc | apply Kd.R_drewN | apply Kd.R_drew)); exact HO211.out)) k_ hk, Kd.fresh' (Kd.R_lt (by (with_reducible repeat (first | apply Kd.R_alloc | apply Kd.R_drewN | apply Kd.R_drew)); exact HO214.out)) k_ hk, Kd.freshB (g := gb215) (o := .cells #[.slice Ao64 t209.length co64, .slice Ao66 t212.length co66] 47 (0, 0)) (by (with_reducible repeat (first | refine blk_drewN ?_ _ | refine blk_drew ?_ | refine blk_alloc ?_ _)); exact BK215.out) k_ hk⟩) _ (Nat.le_refl _)) (Below.refl _ _) (Nat.le_refl _) (by simp) ?_; (case hd => rfl); (case hg => rfl); (case hr => first | (go_simp; done) | (go_simp; rfl)); (case hp => exact (Reps.one (show Kd.FK (Kd.slice 36 k36) _ _ t245 [.slice Ao93 t245.length co93] from (Kd.FK_slice_mk (Kd.R_reads' (Kd.R_mono (ok' := (fun k_ => some k_ ≠ (.slice Ao64 t209.length co64 : Value).ownBlock ∧ some k_ ≠ (.slice Ao66 t212.length co66 : Value).ownBlock ∧ k_ ≠ gb215)) (Kd.R_types (HO247.out) BK215.out (by decide)) (fun k_ hk => ⟨hk.1.1.1.2, ⟨hk.1.1.2, hk.2⟩⟩))).2.1 (Kd.R_F (Kd.R_mono (ok' := (fun k_ => some k_ ≠ (.slice Ao64 t209.length co64 : Value).ownBlock ∧ some k_ ≠ (.slice Ao66 t212.length co66 : Value).ownBlock ∧ k_ ≠ gb215)) (Kd.R_types (HO247.out) BK215.out (by decide)) (fun k_ hk => ⟨hk.1.1.1.2, ⟨hk.1.1.2, hk.2⟩⟩))))) (Reps.one (show Kd.FK (Kd.slice 36 k36) _ _ t248 [.slice Ao94 t248.length co94] from (Kd.FK_slice_mk (Kd.R_reads' (Kd.R_mono (ok' := (fun k_ => some k_ ≠ (.slice Ao64 t209.length co64 : Value).ownBlock ∧ some k_ ≠ (.slice Ao66 t212.length co66 : Value).ownBlock ∧ k_ ≠ gb215)) (Kd.R_types (HO250.out) BK215.out (by decide)) (fun k_ hk => ⟨hk.1.1.1.2, ⟨hk.1.1.2, hk.2⟩⟩))).2.1 (Kd.R_F (Kd.R_mono (ok' := (fun k_ => some k_ ≠ (.slice Ao64 t209.length co64 : Value).ownBlock ∧ some k_ ≠ (.slice Ao66 t212.length co66 : Value).ownBlock ∧ k_ ≠ gb215)) (Kd.R_types (HO250.out) BK215.out (by decide)) (fun k_ hk => ⟨hk.1.1.1.2, ⟨hk.1.1.2, hk.2⟩⟩))))) (Reps.none _ _))))
            intro v252 w95 ho96 hb hg_ hnew_
            clear hg_ hnew_
            (first | rw [← Ny251.out] at ho96 | (simp only [Int.reduceToNat] at ho96; rw [← Ny251.out] at ho96))
            have n0_ := Sd.mk (Kd.R_below (by (with_reducible repeat (first | apply Kd.R_alloc | apply Kd.R_drewN | apply Kd.R_drew)); exact HO211.out) hb)
            have n1_ := Sd.mk (Kd.R_below (by (with_reducible repeat (first | apply Kd.R_alloc | apply Kd.R_drewN | apply Kd.R_drew)); exact HO214.out) hb)
            have n2_ := Sd.mk (Kd.N_lower ho96 (below_size (by repeat (first | (with_reducible first | exact HB.out | apply bwA | apply pwN | apply bwD | refine below_set ?_ GE215.out) | exact HB.out))))
            have n3_ := Sd.mk (blk_below (g := gb215) (o := .cells #[.slice Ao64 t209.length co64, .slice Ao66 t212.length co66] 47 (0, 0)) (by (with_reducible repeat (first | refine blk_drewN ?_ _ | refine blk_drew ?_ | refine blk_alloc ?_ _)); exact BK215.out) hb)
            have n4_ := Sd.mk (below_step (by repeat (first | (with_reducible first | exact HB.out | apply bwA | apply pwN | apply bwD | refine below_set ?_ GE215.out) | exact HB.out)) hb)
            clear HO211
            clear HO214
            clear BK215
            clear HB
            clear HO247
            clear HO250
            have HO211 := n0_
            have HO214 := n1_
            have HO253 := n2_
            have BK215 := n3_
            have HB := n4_
            clear n0_ n1_ n2_ n3_ n4_
            clear hb ho96
            obtain ⟨Ao97, co97, eo97⟩ := Kd.N_slice HO253.out
            (first | subst eo97 | (injection eo97 with f1_ f2_ f3_; have f4_ := f1_.symm; have f5_ := f3_.symm; clear f1_ f2_ f3_; subst f4_; subst f5_))
            refine hK.out _ _ ⟨(blk_cell BK215.out 0).trans rfl, (blk_cell BK215.out 1).trans rfl⟩ (fun hHeld => ?_)
            clear hK K
            refine norm_ (a' := ?_) ?_ ?_
            rotate_left
            ·show Act.put _ (some 36) _ = _
             simp only [Act.put, List.setIfInBounds_toArray, List.set_cons_zero, List.set_cons_succ, i64_w, i32_w]
             rfl
            refine one_ (i := 24) (N := some 37) #[true, true, true, true, true, true, true, true, true, true, true, true, true, true, true, true, true, true, true, true, true, true, true, true, true, false, false, false, false, false, false, false, false, false, false, false, false, false, false, false, false, false, false, false, false, false, false, false, false, false, false, false, false, false, false, false, false, false, false, false, false, false, false, false, false, false, false, false, false] rfl rfl (one_of HT_.out (by kernel_rfl)) (by decide) (fun K hK => ?_)
            refine goes_ Try.func13 (by kernel_rfl) rfl #[.slice Ao97 y251.length co97] (by rfl) rfl rfl (by (try simp only [List.map_toArray, List.map_cons, List.map_nil]); first | done | rfl | (simp only [List.length_drop, List.length_take]; rfl)) ?_
            with_reducible refine (axis_Meet.calls k _ _ y251 t254 _ ?side1 ?side2 A20.out).mono ?_
            (case side1 => repeat (first | exact (Kd.N_reads' HO253.out).2.2 | (with_reducible refine Kd.C_alloc ?_ _) | (with_reducible refine Kd.C_drewN ?_ _) | (with_reducible refine Kd.C_drew ?_)))
            (case side2 => exact (Kd.N_reads' HO253.out).2.1)
            rintro e w98 ⟨v255, rfl, ho0, hb⟩
            refine ⟨_, rfl, ?_⟩
            have n0_ := Sd.mk (Kd.R_elder' (by (with_reducible repeat (first | apply Kd.R_alloc | apply Kd.R_drewN | apply Kd.R_drew)); exact HO211.out) (Kd.R_base ho0) hb)
            have n1_ := Sd.mk (Kd.R_elder' (by (with_reducible repeat (first | apply Kd.R_alloc | apply Kd.R_drewN | apply Kd.R_drew)); exact HO214.out) (Kd.R_base ho0) hb)
            have n2_ := Sd.mk (Kd.N_elder' (by (with_reducible repeat (first | apply Kd.N_alloc | apply Kd.N_drewN | apply Kd.N_drew)); exact HO253.out) (Kd.R_base ho0) hb)
            have n3_ := Sd.mk (Kd.R_lower (Kd.R_new' (Kd.R_new' ho0 (Kd.R_lt (by (with_reducible repeat (first | apply Kd.R_alloc | apply Kd.R_drewN | apply Kd.R_drew)); exact HO211.out))) (Kd.R_lt (by (with_reducible repeat (first | apply Kd.R_alloc | apply Kd.R_drewN | apply Kd.R_drew)); exact HO214.out))) (below_size (by repeat (first | (with_reducible first | exact HB.out | apply bwA | apply pwN | apply bwD | refine below_set ?_ GE215.out) | exact HB.out))))
            have n4_ := Sd.mk (blk_below (g := gb215) (o := .cells #[.slice Ao64 t209.length co64, .slice Ao66 t212.length co66] 47 (0, 0)) (by (with_reducible repeat (first | refine blk_drewN ?_ _ | refine blk_drew ?_ | refine blk_alloc ?_ _)); exact BK215.out) hb)
            have n5_ := Sd.mk (below_step (by repeat (first | (with_reducible first | exact HB.out | apply bwA | apply pwN | apply bwD | refine below_set ?_ GE215.out) | exact HB.out)) hb)
            clear HO211
            clear HO214
            clear HO253
            clear BK215
            clear HB
            have HO211 := n0_
            have HO214 := n1_
            have HO253 := n2_
            have HO256 := n3_
            have BK215 := n4_
            have HB := n5_
            clear n0_ n1_ n2_ n3_ n4_ n5_
            (try clear hb)
            (try clear hb2)
            (try clear hk)
            (try clear hi)
            (try clear ho0)
            refine hK.out _ _ ⟨(blk_cell BK215.out 0).trans rfl, (blk_cell BK215.out 1).trans rfl⟩ (fun hHeld => ?_)
            clear hK K
            refine norm_ (a' := ?_) ?_ ?_
            rotate_left
            ·show Act.put _ (some 37) _ = _
             simp only [Act.put, List.setIfInBounds_toArray, List.set_cons_zero, List.set_cons_succ, i64_w, i32_w]
             rfl
            refine one_ (i := 25) (N := some 38) #[true, true, true, true, true, true, true, true, true, true, true, true, true, true, true, true, true, true, true, true, true, true, true, true, true, true, false, false, false, false, false, false, false, false, false, false, false, false, false, false, false, false, false, false, false, false, false, false, false, false, false, false, false, false, false, false, false, false, false, false, false, false, false, false, false, false, false, false, false] rfl rfl (one_of HT_.out (by kernel_rfl)) (by decide) (fun K hK => ?_)
            refine goes_ Try.func38 (by kernel_rfl) rfl #[.int .u32 4, .int .u32 5] (by rfl) rfl rfl (by (try simp only [List.map_toArray, List.map_cons, List.map_nil]); first | done | rfl | (simp only [List.length_drop, List.length_take]; rfl)) ?_
            with_reducible refine (lw_one.calls 4 5 t257 _ A21.out).mono ?_
            rintro e w99 ⟨v258, rfl, ho0, hb⟩
            refine ⟨_, rfl, ?_⟩
            have n0_ := Sd.mk (Kd.R_elder' (by (with_reducible repeat (first | apply Kd.R_alloc | apply Kd.R_drewN | apply Kd.R_drew)); exact HO211.out) (Kd.R_base ho0) hb)
            have n1_ := Sd.mk (Kd.R_elder' (by (with_reducible repeat (first | apply Kd.R_alloc | apply Kd.R_drewN | apply Kd.R_drew)); exact HO214.out) (Kd.R_base ho0) hb)
            have n2_ := Sd.mk (Kd.R_elder' (by (with_reducible repeat (first | apply Kd.R_alloc | apply Kd.R_drewN | apply Kd.R_drew)); exact HO256.out) (Kd.R_base ho0) hb)
            have n3_ := Sd.mk (Kd.R_lower (Kd.R_new' (Kd.R_new' (Kd.R_new' ho0 (Kd.R_lt (by (with_reducible repeat (first | apply Kd.R_alloc | apply Kd.R_drewN | apply Kd.R_drew)); exact HO211.out))) (Kd.R_lt (by (with_reducible repeat (first | apply Kd.R_alloc | apply Kd.R_drewN | apply Kd.R_drew)); exact HO214.out))) (Kd.R_lt (by (with_reducible repeat (first | apply Kd.R_alloc | apply Kd.R_drewN | apply Kd.R_drew)); exact HO256.out))) (below_size (by repeat (first | (with_reducible first | exact HB.out | apply bwA | apply pwN | apply bwD | refine below_set ?_ GE215.out) | exact HB.out))))
            have n4_ := Sd.mk (blk_below (g := gb215) (o := .cells #[.slice Ao64 t209.length co64, .slice Ao66 t212.length co66] 47 (0, 0)) (by (with_reducible repeat (first | refine blk_drewN ?_ _ | refine blk_drew ?_ | refine blk_alloc ?_ _)); exact BK215.out) hb)
            have n5_ := Sd.mk (below_step (by repeat (first | (with_reducible first | exact HB.out | apply bwA | apply pwN | apply bwD | refine below_set ?_ GE215.out) | exact HB.out)) hb)
            clear HO211
            clear HO214
            clear HO256
            clear BK215
            clear HB
            have HO211 := n0_
            have HO214 := n1_
            have HO256 := n2_
            have HO259 := n3_
            have BK215 := n4_
            have HB := n5_
            clear n0_ n1_ n2_ n3_ n4_ n5_
            (try clear hb)
            (try clear hb2)
            (try clear hk)
            (try clear hi)
            (try clear ho0)
            obtain ⟨Ao100, co100, eo100⟩ := Kd.R_slice HO256.out
            (first | subst eo100 | (injection eo100 with f1_ f2_ f3_; have f4_ := f1_.symm; have f5_ := f3_.symm; clear f1_ f2_ f3_; subst f4_; subst f5_))
            obtain ⟨Ao101, co101, eo101⟩ := Kd.R_slice HO259.out
            (first | subst eo101 | (injection eo101 with f1_ f2_ f3_; have f4_ := f1_.symm; have f5_ := f3_.symm; clear f1_ f2_ f3_; subst f4_; subst f5_))
            refine hK.out _ _ ⟨(blk_cell BK215.out 0).trans rfl, (blk_cell BK215.out 1).trans rfl⟩ (fun hHeld => ?_)
            clear hK K
            refine norm_ (a' := ?_) ?_ ?_
            rotate_left
            ·show Act.put _ (some 38) _ = _
             simp only [Act.put, List.setIfInBounds_toArray, List.set_cons_zero, List.set_cons_succ, i64_w, i32_w]
             rfl
            refine one_ (i := 26) (N := some 39) #[true, true, true, true, true, true, true, true, true, true, true, true, true, true, true, true, true, true, true, true, true, true, true, true, true, true, true, false, false, false, false, false, false, false, false, false, false, false, false, false, false, false, false, false, false, false, false, false, false, false, false, false, false, false, false, false, false, false, false, false, false, false, false, false, false, false, false, false, false] rfl rfl (one_of HT_.out (by kernel_rfl)) (by decide) (fun K hK => ?_)
            refine goes_ Try.func14 (by kernel_rfl) rfl #[.slice Ao100 t254.length co100, .slice Ao101 t257.length co101] (by rfl) rfl rfl (by (try simp only [List.map_toArray, List.map_cons, List.map_nil]); first | done | rfl | (simp only [List.length_drop, List.length_take]; rfl)) ?_
            with_reducible refine (rf_Same.calls k _ _ t254 _ _ t257 true _ ?side1 ?side2 ?side3 ?side4 A22.out).mono ?_
            (case side1 => repeat (first | exact (Kd.R_reads' HO256.out).2.2 | (with_reducible refine Kd.C_alloc ?_ _) | (with_reducible refine Kd.C_drewN ?_ _) | (with_reducible refine Kd.C_drew ?_)))
            (case side2 => exact (Kd.R_reads' HO256.out).2.1)
            (case side3 => repeat (first | exact (Kd.R_reads' HO259.out).2.2 | (with_reducible refine Kd.C_alloc ?_ _) | (with_reducible refine Kd.C_drewN ?_ _) | (with_reducible refine Kd.C_drew ?_)))
            (case side4 => exact (Kd.R_reads' HO259.out).2.1)
            rintro e w' ⟨rfl, ⟨nd, rfl⟩⟩
            refine ⟨_, rfl, ?_⟩
            refine hK.out _ _ ⟨(blk_cell BK215.out 0).trans rfl, (blk_cell BK215.out 1).trans rfl⟩ (fun hHeld => ?_)
            clear hK K
            refine norm_ (a' := ?_) ?_ ?_
            rotate_left
            ·show Act.put _ (some 39) _ = _
             simp only [Act.put, List.setIfInBounds_toArray, List.set_cons_zero, List.set_cons_succ, i64_w, i32_w]
             rfl
            refine pure_ (i := 27) (N := some 40) (v := ?_) (a' := ?_) #[true, true, true, true, true, true, true, true, true, true, true, true, true, true, true, true, true, true, true, true, true, true, true, true, true, true, true, true, false, false, false, false, false, false, false, false, false, false, false, false, false, false, false, false, false, false, false, false, false, false, false, false, false, false, false, false, false, false, false, false, false, false, false, false, false, false, false, false, false] rfl rfl (any_of HT_.out (by kernel_rfl)) (fun _ _ _ h => h) (Or.inl ⟨by rfl, ?_⟩) ?_ ?_
            rotate_left
            ·intro w'
             go_simp
             with_reducible rfl
            rotate_left
            ·simp only [Act.put, List.setIfInBounds_toArray, List.set_cons_zero, List.set_cons_succ, i64_w, i32_w]
             rfl
            refine pure_ (i := 28) (N := some 41) (v := ?_) (a' := ?_) #[true, true, true, true, true, true, true, true, true, true, true, true, true, true, true, true, true, true, true, true, true, true, true, true, true, true, true, true, true, false, false, false, false, false, false, false, false, false, false, false, false, false, false, false, false, false, false, false, false, false, false, false, false, false, false, false, false, false, false, false, false, false, false, false, false, false, false, false, false] rfl rfl (any_of HT_.out (by kernel_rfl)) (fun _ _ _ h => h) (Or.inl ⟨by rfl, ?_⟩) ?_ ?_
            rotate_left
            ·intro w'
             go_simp
             with_reducible rfl
            rotate_left
            ·simp only [Act.put, List.setIfInBounds_toArray, List.set_cons_zero, List.set_cons_succ, i64_w, i32_w]
             rfl
            refine one_ (i := 29) (N := some 42) #[true, true, true, true, true, true, true, true, true, true, true, true, true, true, true, true, true, true, true, true, true, true, true, true, true, true, true, true, true, true, false, false, false, false, false, false, false, false, false, false, false, false, false, false, false, false, false, false, false, false, false, false, false, false, false, false, false, false, false, false, false, false, false, false, false, false, false, false, false] rfl rfl (one_of HT_.out (by kernel_rfl)) (by decide) (fun K hK => ?_)
            refine goes_ Try.func13 (by kernel_rfl) rfl #[.slice none 0 0] (by rfl) rfl rfl (by (try simp only [List.map_toArray, List.map_cons, List.map_nil]); first | done | rfl | (simp only [List.length_drop, List.length_take]; rfl)) ?_
            refine (axis_Meet.calls k _ _ ([] : List (List (S36))) t261 _ ?side1 ?side2 A24.out).mono ?_
            (case side1 => exact Kd.C_nil _ _)
            (case side2 => exact Nat.le_refl _)
            rintro e w102 ⟨v262, rfl, ho0, hb⟩
            refine ⟨_, rfl, ?_⟩
            have n0_ := Sd.mk (Kd.R_elder' (by (with_reducible repeat (first | apply Kd.R_alloc | apply Kd.R_drewN | apply Kd.R_drew)); exact HO211.out) (Kd.R_base ho0) hb)
            have n1_ := Sd.mk (Kd.R_elder' (by (with_reducible repeat (first | apply Kd.R_alloc | apply Kd.R_drewN | apply Kd.R_drew)); exact HO214.out) (Kd.R_base ho0) hb)
            have n2_ := Sd.mk (Kd.R_lower (Kd.R_new' (Kd.R_new' ho0 (Kd.R_lt (by (with_reducible repeat (first | apply Kd.R_alloc | apply Kd.R_drewN | apply Kd.R_drew)); exact HO211.out))) (Kd.R_lt (by (with_reducible repeat (first | apply Kd.R_alloc | apply Kd.R_drewN | apply Kd.R_drew)); exact HO214.out))) (below_size (by repeat (first | (with_reducible first | exact HB.out | apply bwA | apply pwN | apply bwD | refine below_set ?_ GE215.out) | exact HB.out))))
            have n3_ := Sd.mk (blk_below (g := gb215) (o := .cells #[.slice Ao64 t209.length co64, .slice Ao66 t212.length co66] 47 (0, 0)) (by (with_reducible repeat (first | refine blk_drewN ?_ _ | refine blk_drew ?_ | refine blk_alloc ?_ _)); exact BK215.out) hb)
            have n4_ := Sd.mk (below_step (by repeat (first | (with_reducible first | exact HB.out | apply bwA | apply pwN | apply bwD | refine below_set ?_ GE215.out) | exact HB.out)) hb)
            clear HO211
            clear HO214
            clear BK215
            clear HB
            have HO211 := n0_
            have HO214 := n1_
            have HO263 := n2_
            have BK215 := n3_
            have HB := n4_
            clear n0_ n1_ n2_ n3_ n4_
            (try clear hb)
            (try clear hb2)
            (try clear hk)
            (try clear hi)
            (try clear ho0)
            refine hK.out _ _ ⟨(blk_cell BK215.out 0).trans rfl, (blk_cell BK215.out 1).trans rfl⟩ (fun hHeld => ?_)
            clear hK K
            refine norm_ (a' := ?_) ?_ ?_
            rotate_left
            ·show Act.put _ (some 42) _ = _
             simp only [Act.put, List.setIfInBounds_toArray, List.set_cons_zero, List.set_cons_succ, i64_w, i32_w]
             rfl
            refine one_ (i := 30) (N := some 43) #[true, true, true, true, true, true, true, true, true, true, true, true, true, true, true, true, true, true, true, true, true, true, true, true, true, true, true, true, true, true, true, false, false, false, false, false, false, false, false, false, false, false, false, false, false, false, false, false, false, false, false, false, false, false, false, false, false, false, false, false, false, false, false, false, false, false, false, false, false] rfl rfl (one_of HT_.out (by kernel_rfl)) (by decide) (fun K hK => ?_)
            refine goes_ Try.func38 (by kernel_rfl) rfl #[.int .u32 1, .int .u32 2147483647] (by rfl) rfl rfl (by (try simp only [List.map_toArray, List.map_cons, List.map_nil]); first | done | rfl | (simp only [List.length_drop, List.length_take]; rfl)) ?_
            with_reducible refine (lw_one.calls 1 2147483647 t264 _ A25.out).mono ?_
            rintro e w103 ⟨v265, rfl, ho0, hb⟩
            refine ⟨_, rfl, ?_⟩
            have n0_ := Sd.mk (Kd.R_elder' (by (with_reducible repeat (first | apply Kd.R_alloc | apply Kd.R_drewN | apply Kd.R_drew)); exact HO211.out) (Kd.R_base ho0) hb)
            have n1_ := Sd.mk (Kd.R_elder' (by (with_reducible repeat (first | apply Kd.R_alloc | apply Kd.R_drewN | apply Kd.R_drew)); exact HO214.out) (Kd.R_base ho0) hb)
            have n2_ := Sd.mk (Kd.R_elder' (by (with_reducible repeat (first | apply Kd.R_alloc | apply Kd.R_drewN | apply Kd.R_drew)); exact HO263.out) (Kd.R_base ho0) hb)
            have n3_ := Sd.mk (Kd.R_lower (Kd.R_new' (Kd.R_new' (Kd.R_new' ho0 (Kd.R_lt (by (with_reducible repeat (first | apply Kd.R_alloc | apply Kd.R_drewN | apply Kd.R_drew)); exact HO211.out))) (Kd.R_lt (by (with_reducible repeat (first | apply Kd.R_alloc | apply Kd.R_drewN | apply Kd.R_drew)); exact HO214.out))) (Kd.R_lt (by (with_reducible repeat (first | apply Kd.R_alloc | apply Kd.R_drewN | apply Kd.R_drew)); exact HO263.out))) (below_size (by repeat (first | (with_reducible first | exact HB.out | apply bwA | apply pwN | apply bwD | refine below_set ?_ GE215.out) | exact HB.out))))
            have n4_ := Sd.mk (blk_below (g := gb215) (o := .cells #[.slice Ao64 t209.length co64, .slice Ao66 t212.length co66] 47 (0, 0)) (by (with_reducible repeat (first | refine blk_drewN ?_ _ | refine blk_drew ?_ | refine blk_alloc ?_ _)); exact BK215.out) hb)
            have n5_ := Sd.mk (below_step (by repeat (first | (with_reducible first | exact HB.out | apply bwA | apply pwN | apply bwD | refine below_set ?_ GE215.out) | exact HB.out)) hb)
            clear HO211
            clear HO214
            clear HO263
            clear BK215
            clear HB
            have HO211 := n0_
            have HO214 := n1_
            have HO263 := n2_
            have HO266 := n3_
            have BK215 := n4_
            have HB := n5_
            clear n0_ n1_ n2_ n3_ n4_ n5_
            (try clear hb)
            (try clear hb2)
            (try clear hk)
            (try clear hi)
            (try clear ho0)
            obtain ⟨Ao104, co104, eo104⟩ := Kd.R_slice HO263.out
            (first | subst eo104 | (injection eo104 with f1_ f2_ f3_; have f4_ := f1_.symm; have f5_ := f3_.symm; clear f1_ f2_ f3_; subst f4_; subst f5_))
            obtain ⟨Ao105, co105, eo105⟩ := Kd.R_slice HO266.out
            (first | subst eo105 | (injection eo105 with f1_ f2_ f3_; have f4_ := f1_.symm; have f5_ := f3_.symm; clear f1_ f2_ f3_; subst f4_; subst f5_))
            refine hK.out _ _ ⟨(blk_cell BK215.out 0).trans rfl, (blk_cell BK215.out 1).trans rfl⟩ (fun hHeld => ?_)
            clear hK K
            refine norm_ (a' := ?_) ?_ ?_
            rotate_left
            ·show Act.put _ (some 43) _ = _
             simp only [Act.put, List.setIfInBounds_toArray, List.set_cons_zero, List.set_cons_succ, i64_w, i32_w]
             rfl
            refine one_ (i := 31) (N := some 44) #[true, true, true, true, true, true, true, true, true, true, true, true, true, true, true, true, true, true, true, true, true, true, true, true, true, true, true, true, true, true, true, true, false, false, false, false, false, false, false, false, false, false, false, false, false, false, false, false, false, false, false, false, false, false, false, false, false, false, false, false, false, false, false, false, false, false, false, false, false] rfl rfl (one_of HT_.out (by kernel_rfl)) (by decide) (fun K hK => ?_)
            refine goes_ Try.func14 (by kernel_rfl) rfl #[.slice Ao104 t261.length co104, .slice Ao105 t264.length co105] (by rfl) rfl rfl (by (try simp only [List.map_toArray, List.map_cons, List.map_nil]); first | done | rfl | (simp only [List.length_drop, List.length_take]; rfl)) ?_
            with_reducible refine (rf_Same.calls k _ _ t261 _ _ t264 true _ ?side1 ?side2 ?side3 ?side4 A26.out).mono ?_
            (case side1 => repeat (first | exact (Kd.R_reads' HO263.out).2.2 | (with_reducible refine Kd.C_alloc ?_ _) | (with_reducible refine Kd.C_drewN ?_ _) | (with_reducible refine Kd.C_drew ?_)))
            (case side2 => exact (Kd.R_reads' HO263.out).2.1)
            (case side3 => repeat (first | exact (Kd.R_reads' HO266.out).2.2 | (with_reducible refine Kd.C_alloc ?_ _) | (with_reducible refine Kd.C_drewN ?_ _) | (with_reducible refine Kd.C_drew ?_)))
            (case side4 => exact (Kd.R_reads' HO266.out).2.1)
            rintro e w' ⟨rfl, ⟨nd, rfl⟩⟩
            refine ⟨_, rfl, ?_⟩
            refine hK.out _ _ ⟨(blk_cell BK215.out 0).trans rfl, (blk_cell BK215.out 1).trans rfl⟩ (fun hHeld => ?_)
            clear hK K
            refine norm_ (a' := ?_) ?_ ?_
            rotate_left
            ·show Act.put _ (some 44) _ = _
             simp only [Act.put, List.setIfInBounds_toArray, List.set_cons_zero, List.set_cons_succ, i64_w, i32_w]
             rfl
            refine pure_ (i := 32) (N := some 45) (v := ?_) (a' := ?_) #[true, true, true, true, true, true, true, true, true, true, true, true, true, true, true, true, true, true, true, true, true, true, true, true, true, true, true, true, true, true, true, true, true, false, false, false, false, false, false, false, false, false, false, false, false, false, false, false, false, false, false, false, false, false, false, false, false, false, false, false, false, false, false, false, false, false, false, false, false] rfl rfl (any_of HT_.out (by kernel_rfl)) (fun _ _ _ h => h) (Or.inl ⟨by rfl, ?_⟩) ?_ ?_
            rotate_left
            ·intro w'
             go_simp
             with_reducible rfl
            rotate_left
            ·simp only [Act.put, List.setIfInBounds_toArray, List.set_cons_zero, List.set_cons_succ, i64_w, i32_w]
             rfl
            refine pure_ (i := 33) (N := some 46) (v := ?_) (a' := ?_) #[true, true, true, true, true, true, true, true, true, true, true, true, true, true, true, true, true, true, true, true, true, true, true, true, true, true, true, true, true, true, true, true, true, true, false, false, false, false, false, false, false, false, false, false, false, false, false, false, false, false, false, false, false, false, false, false, false, false, false, false, false, false, false, false, false, false, false, false, false] rfl rfl (any_of HT_.out (by kernel_rfl)) (fun _ _ _ h => h) (Or.inl ⟨by rfl, ?_⟩) ?_ ?_
            rotate_left
            ·intro w'
             go_simp
             with_reducible rfl
            rotate_left
            ·simp only [Act.put, List.setIfInBounds_toArray, List.set_cons_zero, List.set_cons_succ, i64_w, i32_w]
             rfl
            refine one_ (i := 34) (N := some 47) #[true, true, true, true, true, true, true, true, true, true, true, true, true, true, true, true, true, true, true, true, true, true, true, true, true, true, true, true, true, true, true, true, true, true, true, false, false, false, false, false, false, false, false, false, false, false, false, false, false, false, false, false, false, false, false, false, false, false, false, false, false, false, false, false, false, false, false, false, false] rfl rfl (one_of HT_.out (by kernel_rfl)) (by decide) (fun K hK => ?_)
            refine goes_ Try.func17 (by kernel_rfl) rfl #[.slice none 0 0] (by rfl) rfl rfl (by (try simp only [List.map_toArray, List.map_cons, List.map_nil]); first | done | rfl | (simp only [List.length_drop, List.length_take]; rfl)) ?_
            refine (axis_Rest.calls k (fun k_ => False) _ _ ([] : List (S36)) t268 _ ?side1 A28.out).mono ?_
            (case side1 => exact Kd.V_nil _ _ _ _ _)
            rintro e w106 ⟨v269, rfl, ho0, hb⟩
            refine ⟨_, rfl, ?_⟩
            have n0_ := Sd.mk (Kd.R_elder' (by (with_reducible repeat (first | apply Kd.R_alloc | apply Kd.R_drewN | apply Kd.R_drew)); exact HO211.out) (Kd.R_base ho0) hb)
            have n1_ := Sd.mk (Kd.R_elder' (by (with_reducible repeat (first | apply Kd.R_alloc | apply Kd.R_drewN | apply Kd.R_drew)); exact HO214.out) (Kd.R_base ho0) hb)
            have n2_ := Sd.mk (Kd.R_lower (Kd.R_new' (Kd.R_new' (Kd.R_mono (ok' := fun k_ => True) ho0 (fun _ hk_ => trivial)) (Kd.R_lt (by (with_reducible repeat (first | apply Kd.R_alloc | apply Kd.R_drewN | apply Kd.R_drew)); exact HO211.out))) (Kd.R_lt (by (with_reducible repeat (first | apply Kd.R_alloc | apply Kd.R_drewN | apply Kd.R_drew)); exact HO214.out))) (below_size (by repeat (first | (with_reducible first | exact HB.out | apply bwA | apply pwN | apply bwD | refine below_set ?_ GE215.out) | exact HB.out))))
            have n3_ := Sd.mk (blk_below (g := gb215) (o := .cells #[.slice Ao64 t209.length co64, .slice Ao66 t212.length co66] 47 (0, 0)) (by (with_reducible repeat (first | refine blk_drewN ?_ _ | refine blk_drew ?_ | refine blk_alloc ?_ _)); exact BK215.out) hb)
            have n4_ := Sd.mk (below_step (by repeat (first | (with_reducible first | exact HB.out | apply bwA | apply pwN | apply bwD | refine below_set ?_ GE215.out) | exact HB.out)) hb)
            clear HO211
            clear HO214
            clear BK215
            clear HB
            have HO211 := n0_
            have HO214 := n1_
            have HO270 := n2_
            have BK215 := n3_
            have HB := n4_
            clear n0_ n1_ n2_ n3_ n4_
            (try clear hb)
            (try clear hb2)
            (try clear hk)
            (try clear hi)
            (try clear ho0)
            refine hK.out _ _ ⟨(blk_cell BK215.out 0).trans rfl, (blk_cell BK215.out 1).trans rfl⟩ (fun hHeld => ?_)
            clear hK K
            refine norm_ (a' := ?_) ?_ ?_
            rotate_left
            ·show Act.put _ (some 47) _ = _
             simp only [Act.put, List.setIfInBounds_toArray, List.set_cons_zero, List.set_cons_succ, i64_w, i32_w]
             rfl
            refine one_ (i := 35) (N := some 48) #[true, true, true, true, true, true, true, true, true, true, true, true, true, true, true, true, true, true, true, true, true, true, true, true, true, true, true, true, true, true, true, true, true, true, true, true, false, false, false, false, false, false, false, false, false, false, false, false, false, false, false, false, false, false, false, false, false, false, false, false, false, false, false, false, false, false, false, false, false] rfl rfl (one_of HT_.out (by kernel_rfl)) (by decide) (fun K hK => ?_)
            refine goes_ Try.func38 (by kernel_rfl) rfl #[.int .u32 1, .int .u32 2147483647] (by rfl) rfl rfl (by (try simp only [List.map_toArray, List.map_cons, List.map_nil]); first | done | rfl | (simp only [List.length_drop, List.length_take]; rfl)) ?_
            with_reducible refine (lw_one.calls 1 2147483647 t271 _ A29.out).mono ?_
            rintro e w107 ⟨v272, rfl, ho0, hb⟩
            refine ⟨_, rfl, ?_⟩
            have n0_ := Sd.mk (Kd.R_elder' (by (with_reducible repeat (first | apply Kd.R_alloc | apply Kd.R_drewN | apply Kd.R_drew)); exact HO211.out) (Kd.R_base ho0) hb)
            have n1_ := Sd.mk (Kd.R_elder' (by (with_reducible repeat (first | apply Kd.R_alloc | apply Kd.R_drewN | apply Kd.R_drew)); exact HO214.out) (Kd.R_base ho0) hb)
            have n2_ := Sd.mk (Kd.R_elder' (by (with_reducible repeat (first | apply Kd.R_alloc | apply Kd.R_drewN | apply Kd.R_drew)); exact HO270.out) (Kd.R_base ho0) hb)
            have n3_ := Sd.mk (Kd.R_lower (Kd.R_new' (Kd.R_new' (Kd.R_new' ho0 (Kd.R_lt (by (with_reducible repeat (first | apply Kd.R_alloc | apply Kd.R_drewN | apply Kd.R_drew)); exact HO211.out))) (Kd.R_lt (by (with_reducible repeat (first | apply Kd.R_alloc | apply Kd.R_drewN | apply Kd.R_drew)); exact HO214.out))) (Kd.R_lt (by (with_reducible repeat (first | apply Kd.R_alloc | apply Kd.R_drewN | apply Kd.R_drew)); exact HO270.out))) (below_size (by repeat (first | (with_reducible first | exact HB.out | apply bwA | apply pwN | apply bwD | refine below_set ?_ GE215.out) | exact HB.out))))
            have n4_ := Sd.mk (blk_below (g := gb215) (o := .cells #[.slice Ao64 t209.length co64, .slice Ao66 t212.length co66] 47 (0, 0)) (by (with_reducible repeat (first | refine blk_drewN ?_ _ | refine blk_drew ?_ | refine blk_alloc ?_ _)); exact BK215.out) hb)
            have n5_ := Sd.mk (below_step (by repeat (first | (with_reducible first | exact HB.out | apply bwA | apply pwN | apply bwD | refine below_set ?_ GE215.out) | exact HB.out)) hb)
            clear HO211
            clear HO214
            clear HO270
            clear BK215
            clear HB
            have HO211 := n0_
            have HO214 := n1_
            have HO270 := n2_
            have HO273 := n3_
            have BK215 := n4_
            have HB := n5_
            clear n0_ n1_ n2_ n3_ n4_ n5_
            (try clear hb)
            (try clear hb2)
            (try clear hk)
            (try clear hi)
            (try clear ho0)
            obtain ⟨Ao108, co108, eo108⟩ := Kd.R_slice HO270.out
            (first | subst eo108 | (injection eo108 with f1_ f2_ f3_; have f4_ := f1_.symm; have f5_ := f3_.symm; clear f1_ f2_ f3_; subst f4_; subst f5_))
            obtain ⟨Ao109, co109, eo109⟩ := Kd.R_slice HO273.out
            (first | subst eo109 | (injection eo109 with f1_ f2_ f3_; have f4_ := f1_.symm; have f5_ := f3_.symm; clear f1_ f2_ f3_; subst f4_; subst f5_))
            refine hK.out _ _ ⟨(blk_cell BK215.out 0).trans rfl, (blk_cell BK215.out 1).trans rfl⟩ (fun hHeld => ?_)
            clear hK K
            refine norm_ (a' := ?_) ?_ ?_
            rotate_left
            ·show Act.put _ (some 48) _ = _
             simp only [Act.put, List.setIfInBounds_toArray, List.set_cons_zero, List.set_cons_succ, i64_w, i32_w]
             rfl
            refine one_ (i := 36) (N := some 49) #[true, true, true, true, true, true, true, true, true, true, true, true, true, true, true, true, true, true, true, true, true, true, true, true, true, true, true, true, true, true, true, true, true, true, true, true, true, false, false, false, false, false, false, false, false, false, false, false, false, false, false, false, false, false, false, false, false, false, false, false, false, false, false, false, false, false, false, false, false] rfl rfl (one_of HT_.out (by kernel_rfl)) (by decide) (fun K hK => ?_)
            refine goes_ Try.func14 (by kernel_rfl) rfl #[.slice Ao108 t268.length co108, .slice Ao109 t271.length co109] (by rfl) rfl rfl (by (try simp only [List.map_toArray, List.map_cons, List.map_nil]); first | done | rfl | (simp only [List.length_drop, List.length_take]; rfl)) ?_
            with_reducible refine (rf_Same.calls k _ _ t268 _ _ t271 true _ ?side1 ?side2 ?side3 ?side4 A30.out).mono ?_
            (case side1 => repeat (first | exact (Kd.R_reads' HO270.out).2.2 | (with_reducible refine Kd.C_alloc ?_ _) | (with_reducible refine Kd.C_drewN ?_ _) | (with_reducible refine Kd.C_drew ?_)))
            (case side2 => exact (Kd.R_reads' HO270.out).2.1)
            (case side3 => repeat (first | exact (Kd.R_reads' HO273.out).2.2 | (with_reducible refine Kd.C_alloc ?_ _) | (with_reducible refine Kd.C_drewN ?_ _) | (with_reducible refine Kd.C_drew ?_)))
            (case side4 => exact (Kd.R_reads' HO273.out).2.1)
            rintro e w' ⟨rfl, ⟨nd, rfl⟩⟩
            refine ⟨_, rfl, ?_⟩
            refine hK.out _ _ ⟨(blk_cell BK215.out 0).trans rfl, (blk_cell BK215.out 1).trans rfl⟩ (fun hHeld => ?_)
            clear hK K
            refine norm_ (a' := ?_) ?_ ?_
            rotate_left
            ·show Act.put _ (some 49) _ = _
             simp only [Act.put, List.setIfInBounds_toArray, List.set_cons_zero, List.set_cons_succ, i64_w, i32_w]
             rfl
            refine pure_ (i := 37) (N := some 50) (v := ?_) (a' := ?_) #[true, true, true, true, true, true, true, true, true, true, true, true, true, true, true, true, true, true, true, true, true, true, true, true, true, true, true, true, true, true, true, true, true, true, true, true, true, true, false, false, false, false, false, false, false, false, false, false, false, false, false, false, false, false, false, false, false, false, false, false, false, false, false, false, false, false, false, false, false] rfl rfl (any_of HT_.out (by kernel_rfl)) (fun _ _ _ h => h) (Or.inl ⟨by rfl, ?_⟩) ?_ ?_
            rotate_left
            ·intro w'
             go_simp
             with_reducible rfl
            rotate_left
            ·simp only [Act.put, List.setIfInBounds_toArray, List.set_cons_zero, List.set_cons_succ, i64_w, i32_w]
             rfl
            refine pure_ (i := 38) (N := some 51) (v := ?_) (a' := ?_) #[true, true, true, true, true, true, true, true, true, true, true, true, true, true, true, true, true, true, true, true, true, true, true, true, true, true, true, true, true, true, true, true, true, true, true, true, true, true, true, false, false, false, false, false, false, false, false, false, false, false, false, false, false, false, false, false, false, false, false, false, false, false, false, false, false, false, false, false, false] rfl rfl (any_of HT_.out (by kernel_rfl)) (fun _ _ _ h => h) (Or.inl ⟨by rfl, ?_⟩) ?_ ?_
            rotate_left
            ·intro w'
             go_simp
             with_reducible rfl
            rotate_left
            ·simp only [Act.put, List.setIfInBounds_toArray, List.set_cons_zero, List.set_cons_succ, i64_w, i32_w]
             rfl
            refine one_ (i := 39) (N := some 52) #[true, true, true, true, true, true, true, true, true, true, true, true, true, true, true, true, true, true, true, true, true, true, true, true, true, true, true, true, true, true, true, true, true, true, true, true, true, true, true, true, false, false, false, false, false, false, false, false, false, false, false, false, false, false, false, false, false, false, false, false, false, false, false, false, false, false, false, false, false] rfl rfl (one_of HT_.out (by kernel_rfl)) (by decide) (fun K hK => ?_)
            refine goes_ Try.func38 (by kernel_rfl) rfl #[.int .u32 3, .int .u32 5] (by rfl) rfl rfl (by (try simp only [List.map_toArray, List.map_cons, List.map_nil]); first | done | rfl | (simp only [List.length_drop, List.length_take]; rfl)) ?_
            with_reducible refine (lw_one.calls 3 5 t275 _ A32.out).mono ?_
            rintro e w110 ⟨v276, rfl, ho0, hb⟩
            refine ⟨_, rfl, ?_⟩
            have n0_ := Sd.mk (Kd.R_elder' (by (with_reducible repeat (first | apply Kd.R_alloc | apply Kd.R_drewN | apply Kd.R_drew)); exact HO211.out) (Kd.R_base ho0) hb)
            have n1_ := Sd.mk (Kd.R_elder' (by (with_reducible repeat (first | apply Kd.R_alloc | apply Kd.R_drewN | apply Kd.R_drew)); exact HO214.out) (Kd.R_base ho0) hb)
            have n2_ := Sd.mk (Kd.R_lower (Kd.R_new' (Kd.R_new' ho0 (Kd.R_lt (by (with_reducible repeat (first | apply Kd.R_alloc | apply Kd.R_drewN | apply Kd.R_drew)); exact HO211.out))) (Kd.R_lt (by (with_reducible repeat (first | apply Kd.R_alloc | apply Kd.R_drewN | apply Kd.R_drew)); exact HO214.out))) (below_size (by repeat (first | (with_reducible first | exact HB.out | apply bwA | apply pwN | apply bwD | refine below_set ?_ GE215.out) | exact HB.out))))
            have n3_ := Sd.mk (blk_below (g := gb215) (o := .cells #[.slice Ao64 t209.length co64, .slice Ao66 t212.length co66] 47 (0, 0)) (by (with_reducible repeat (first | refine blk_drewN ?_ _ | refine blk_drew ?_ | refine blk_alloc ?_ _)); exact BK215.out) hb)
            have n4_ := Sd.mk (below_step (by repeat (first | (with_reducible first | exact HB.out | apply bwA | apply pwN | apply bwD | refine below_set ?_ GE215.out) | exact HB.out)) hb)
            clear HO211
            clear HO214
            clear BK215
            clear HB
            have HO211 := n0_
            have HO214 := n1_
            have HO277 := n2_
            have BK215 := n3_
            have HB := n4_
            clear n0_ n1_ n2_ n3_ n4_
            (try clear hb)
            (try clear hb2)
            (try clear hk)
            (try clear hi)
            (try clear ho0)
            refine hK.out _ _ ⟨(blk_cell BK215.out 0).trans rfl, (blk_cell BK215.out 1).trans rfl⟩ (fun hHeld => ?_)
            clear hK K
            refine norm_ (a' := ?_) ?_ ?_
            rotate_left
            ·show Act.put _ (some 52) _ = _
             simp only [Act.put, List.setIfInBounds_toArray, List.set_cons_zero, List.set_cons_succ, i64_w, i32_w]
             rfl
            refine one_ (i := 40) (N := some 53) #[true, true, true, true, true, true, true, true, true, true, true, true, true, true, true, true, true, true, true, true, true, true, true, true, true, true, true, true, true, true, true, true, true, true, true, true, true, true, true, true, true, false, false, false, false, false, false, false, false, false, false, false, false, false, false, false, false, false, false, false, false, false, false, false, false, false, false, false, false] rfl rfl (one_of HT_.out (by kernel_rfl)) (by decide) (fun K hK => ?_)
            refine goes_ Try.func38 (by kernel_rfl) rfl #[.int .u32 4, .int .u32 9] (by rfl) rfl rfl (by (try simp only [List.map_toArray, List.map_cons, List.map_nil]); first | done | rfl | (simp only [List.length_drop, List.length_take]; rfl)) ?_
            with_reducible refine (lw_one.calls 4 9 t278 _ A33.out).mono ?_
            rintro e w111 ⟨v279, rfl, ho0, hb⟩
            refine ⟨_, rfl, ?_⟩
            have n0_ := Sd.mk (Kd.R_elder' (by (with_reducible repeat (first | apply Kd.R_alloc | apply Kd.R_drewN | apply Kd.R_drew)); exact HO211.out) (Kd.R_base ho0) hb)
            have n1_ := Sd.mk (Kd.R_elder' (by (with_reducible repeat (first | apply Kd.R_alloc | apply Kd.R_drewN | apply Kd.R_drew)); exact HO214.out) (Kd.R_base ho0) hb)
            have n2_ := Sd.mk (Kd.R_elder' (by (with_reducible repeat (first | apply Kd.R_alloc | apply Kd.R_drewN | apply Kd.R_drew)); exact HO277.out) (Kd.R_base ho0) hb)
            have n3_ := Sd.mk (Kd.R_lower (Kd.R_new' (Kd.R_new' (Kd.R_new' ho0 (Kd.R_lt (by (with_reducible repeat (first | apply Kd.R_alloc | apply Kd.R_drewN | apply Kd.R_drew)); exact HO211.out))) (Kd.R_lt (by (with_reducible repeat (first | apply Kd.R_alloc | apply Kd.R_drewN | apply Kd.R_drew)); exact HO214.out))) (Kd.R_lt (by (with_reducible repeat (first | apply Kd.R_alloc | apply Kd.R_drewN | apply Kd.R_drew)); exact HO277.out))) (below_size (by repeat (first | (with_reducible first | exact HB.out | apply bwA | apply pwN | apply bwD | refine below_set ?_ GE215.out) | exact HB.out))))
            have n4_ := Sd.mk (blk_below (g := gb215) (o := .cells #[.slice Ao64 t209.length co64, .slice Ao66 t212.length co66] 47 (0, 0)) (by (with_reducible repeat (first | refine blk_drewN ?_ _ | refine blk_drew ?_ | refine blk_alloc ?_ _)); exact BK215.out) hb)
            have n5_ := Sd.mk (below_step (by repeat (first | (with_reducible first | exact HB.out | apply bwA | apply pwN | apply bwD | refine below_set ?_ GE215.out) | exact HB.out)) hb)
            clear HO211
            clear HO214
            clear HO277
            clear BK215
            clear HB
            have HO211 := n0_
            have HO214 := n1_
            have HO277 := n2_
            have HO280 := n3_
            have BK215 := n4_
            have HB := n5_
            clear n0_ n1_ n2_ n3_ n4_ n5_
            (try clear hb)
            (try clear hb2)
            (try clear hk)
            (try clear hi)
            (try clear ho0)
            obtain ⟨Ao113, co113, eo113⟩ := Kd.R_slice HO280.out
            (first | subst eo113 | (injection eo113 with f1_ f2_ f3_; have f4_ := f1_.symm; have f5_ := f3_.symm; clear f1_ f2_ f3_; subst f4_; subst f5_))
            refine hK.out _ _ ⟨(blk_cell BK215.out 0).trans rfl, (blk_cell BK215.out 1).trans rfl⟩ (fun hHeld => ?_)
            clear hK K
            refine norm_ (a' := ?_) ?_ ?_
            rotate_left
            ·show Act.put _ (some 53) _ = _
             simp only [Act.put, List.setIfInBounds_toArray, List.set_cons_zero, List.set_cons_succ, i64_w, i32_w]
             rfl
            refine one_ (i := 41) (N := some 54) #[true, true, true, true, true, true, true, true, true, true, true, true, true, true, true, true, true, true, true, true, true, true, true, true, true, true, true, true, true, true, true, true, true, true, true, true, true, true, true, true, true, true, false, false, false, false, false, false, false, false, false, false, false, false, false, false, false, false, false, false, false, false, false, false, false, false, false, false, false] rfl rfl (one_of HT_.out (by kernel_rfl)) (by decide) (fun K hK => ?_)
            refine Kd.R_append_rows_step k36 (w0 := w) w.heap.size (by rfl) (.tmp 52) (.tmp 53) 26 36 (.agg #[(.int .u32 0), (.int .u32 0)]) 8 rfl Try.underlying26 info36 rfl (by decide) (by omega) v276 t275 t278 _ _ _ (fun k_ => some k_ ≠ (.slice Ao64 t209.length co64 : Value).ownBlock ∧ some k_ ≠ (.slice Ao66 t212.length co66 : Value).ownBlock ∧ some k_ ≠ (.slice Ao113 t278.length co113 : Value).ownBlock) (fun _ => False) rfl rfl ?aO ?aR (fun _ _ h => h) (fun _ h => h.elim) ?aF ?aB ?aS ?aL ?_
            (case aR => repeat (first | exact (Kd.R_reads' HO280.out).2.2 | (with_reducible refine Kd.C_alloc ?_ _) | (with_reducible refine Kd.C_drewN ?_ _) | (with_reducible refine Kd.C_drew ?_)))
            (case aB => exact (by repeat (first | (with_reducible first | exact HB.out | apply bwA | apply pwN | apply bwD | refine below_set ?_ GE215.out) | exact HB.out)))
            (case aF => exact (fun k_ hk => ⟨Kd.fresh' (Kd.R_lt (by (with_reducible repeat (first | apply Kd.R_alloc | apply Kd.R_drewN | apply Kd.R_drew)); exact HO211.out)) k_ hk, Kd.fresh' (Kd.R_lt (by (with_reducible repeat (first | apply Kd.R_alloc | apply Kd.R_drewN | apply Kd.R_drew)); exact HO214.out)) k_ hk, Kd.fresh' (Kd.R_lt (by (with_reducible repeat (first | apply Kd.R_alloc | apply Kd.R_drewN | apply Kd.R_drew)); exact HO280.out)) k_ hk⟩))
            (case aO => exact (by (with_reducible repeat (first | apply Kd.R_alloc | apply Kd.R_drewN | apply Kd.R_drew)); exact Kd.R_mono HO277.out (fun _ hk => ⟨hk.1.1.2, ⟨hk.1.2, hk.2⟩⟩)))
            (case aS => exact (below_size (by repeat (first | (with_reducible first | exact HB.out | apply bwA | apply pwN | apply bwD | refine below_set ?_ GE215.out) | exact HB.out))))
            (case aL => have := LMc34.out; omega)
            intro v282 w112 ho hb hg hat
            rw [← Ny281.out] at ho
            have n0_ := Sd.mk (Kd.R_after (ok := (fun k_ => some k_ ≠ (.slice Ao66 t212.length co66 : Value).ownBlock ∧ some k_ ≠ (.slice Ao113 t278.length co113 : Value).ownBlock)) (by (with_reducible repeat (first | apply Kd.R_alloc | apply Kd.R_drewN | apply Kd.R_drew)); exact Kd.R_mono HO211.out (fun _ hk => ⟨⟨hk.1.1.1.1.1.1.1.1.1.1.1.1.1.1.1.1.1.2, hk.2⟩, hk.1.2⟩)) hg hat)
            have n1_ := Sd.mk (Kd.R_after (ok := (fun k_ => some k_ ≠ (.slice Ao64 t209.length co64 : Value).ownBlock ∧ some k_ ≠ (.slice Ao113 t278.length co113 : Value).ownBlock)) (by (with_reducible repeat (first | apply Kd.R_alloc | apply Kd.R_drewN | apply Kd.R_drew)); exact Kd.R_mono HO214.out (fun _ hk => ⟨⟨hk.1.1.1.1.1.1.1.1.1.1.1.1.1.1.1.1.1.2, hk.2⟩, hk.1.2⟩)) hg hat)
            have n2_ := Sd.mk (blk_grown (g := gb215) (o := .cells #[.slice Ao64 t209.length co64, .slice Ao66 t212.length co66] 47 (0, 0)) (by (with_reducible repeat (first | refine blk_drewN ?_ _ | refine blk_drew ?_ | refine blk_alloc ?_ _)); exact BK215.out) hg (Kd.R_ne HO277.out BK215.out (by decide)))
            have n3_ := Sd.mk (Kd.R_after (ok := (fun k_ => some k_ ≠ (.slice Ao64 t209.length co64 : Value).ownBlock ∧ some k_ ≠ (.slice Ao66 t212.length co66 : Value).ownBlock)) (by (with_reducible repeat (first | apply Kd.R_alloc | apply Kd.R_drewN | apply Kd.R_drew)); exact Kd.R_mono HO280.out (fun _ hk => ⟨⟨hk.1.1.2, hk.1.2⟩, hk.2⟩)) hg hat)
            have n4_ := Sd.mk (hb)
            have n5_ := Sd.mk (ho)
            clear HO211
            clear HO214
            clear BK215
            clear HO280
            clear HB
            clear HO277
            have HO211 := n0_
            have HO214 := n1_
            have BK215 := n2_
            have HO280 := n3_
            have HB := n4_
            have HO283 := n5_
            clear n0_ n1_ n2_ n3_ n4_ n5_
            clear ho hb hg hat
            obtain ⟨Ao114, co114, eo114⟩ := Kd.R_slice HO283.out
            (first | subst eo114 | (injection eo114 with f1_ f2_ f3_; have f4_ := f1_.symm; have f5_ := f3_.symm; clear f1_ f2_ f3_; subst f4_; subst f5_))
            refine hK.out _ _ ⟨(blk_cell BK215.out 0).trans rfl, (blk_cell BK215.out 1).trans rfl⟩ (fun hHeld => ?_)
            clear hK K
            refine norm_ (a' := ?_) ?_ ?_
            rotate_left
            ·show Act.put _ (some 54) _ = _
             simp only [Act.put, List.setIfInBounds_toArray, List.set_cons_zero, List.set_cons_succ, i64_w, i32_w]
             rfl
            refine one_ (i := 42) (N := some 55) #[true, true, true, true, true, true, true, true, true, true, true, true, true, true, true, true, true, true, true, true, true, true, true, true, true, true, true, true, true, true, true, true, true, true, true, true, true, true, true, true, true, true, true, false, false, false, false, false, false, false, false, false, false, false, false, false, false, false, false, false, false, false, false, false, false, false, false, false, false] rfl rfl (one_of HT_.out (by kernel_rfl)) (by decide) (fun K hK => ?_)
            refine goes_ Try.func20 (by kernel_rfl) rfl #[.slice Ao114 y281.length co114] (by rfl) rfl rfl (by (try simp only [List.map_toArray, List.map_cons, List.map_nil]); first | done | rfl | (simp only [List.length_drop, List.length_take]; rfl)) ?_
            with_reducible refine (axis_Count.calls k (fun k_ => some k_ = (.slice Ao114 y281.length co114 : Value).ownBlock) _ _ y281 t284 _ ?side1 A35.out).mono ?_
            (case side1 => exact Kd.R_V (Kd.R_tight rfl (Kd.R_types (HO283.out) BK215.out (by decide))))
            rintro e w115 ⟨rfl, hb⟩
            refine ⟨_, rfl, ?_⟩
            replace HO211 := Sd.mk (Kd.R_below (by (with_reducible repeat (first | apply Kd.R_alloc | apply Kd.R_drewN | apply Kd.R_drew)); exact HO211.out) hb)
            replace HO214 := Sd.mk (Kd.R_below (by (with_reducible repeat (first | apply Kd.R_alloc | apply Kd.R_drewN | apply Kd.R_drew)); exact HO214.out) hb)
            replace HO283 := Sd.mk (Kd.R_below (by (with_reducible repeat (first | apply Kd.R_alloc | apply Kd.R_drewN | apply Kd.R_drew)); exact HO283.out) hb)
            replace BK215 := Sd.mk (blk_below (g := gb215) (o := .cells #[.slice Ao64 t209.length co64, .slice Ao66 t212.length co66] 47 (0, 0)) (by (with_reducible repeat (first | refine blk_drewN ?_ _ | refine blk_drew ?_ | refine blk_alloc ?_ _)); exact BK215.out) hb)
            replace HB := Sd.mk (below_step (by repeat (first | (with_reducible first | exact HB.out | apply bwA | apply pwN | apply bwD | refine below_set ?_ GE215.out) | exact HB.out)) hb)
            (try clear hb)
            (try clear hb2)
            (try clear hk)
            (try clear hi)
            refine hK.out _ _ ⟨(blk_cell BK215.out 0).trans rfl, (blk_cell BK215.out 1).trans rfl⟩ (fun hHeld => ?_)
            clear hK K
            refine norm_ (a' := ?_) ?_ ?_
            rotate_left
            ·show Act.put _ (some 55) _ = _
             simp only [Act.put, List.setIfInBounds_toArray, List.set_cons_zero, List.set_cons_succ, i64_w, i32_w]
             rfl
            refine pure_ (i := 43) (N := some 56) (v := ?_) (a' := ?_) #[true, true, true, true, true, true, true, true, true, true, true, true, true, true, true, true, true, true, true, true, true, true, true, true, true, true, true, true, true, true, true, true, true, true, true, true, true, true, true, true, true, true, true, true, false, false, false, false, false, false, false, false, false, false, false, false, false, false, false, false, false, false, false, false, false, false, false, false, false] rfl rfl (any_of HT_.out (by kernel_rfl)) (fun _ _ _ h => h) (Or.inl ⟨by rfl, ?_⟩) ?_ ?_
            rotate_left
            ·intro w'
             go_simp
             with_reducible rfl
            rotate_left
            ·simp only [Act.put, List.setIfInBounds_toArray, List.set_cons_zero, List.set_cons_succ, i64_w, i32_w]
             rfl
            refine pure_ (i := 44) (N := some 57) (v := ?_) (a' := ?_) #[true, true, true, true, true, true, true, true, true, true, true, true, true, true, true, true, true, true, true, true, true, true, true, true, true, true, true, true, true, true, true, true, true, true, true, true, true, true, true, true, true, true, true, true, true, false, false, false, false, false, false, false, false, false, false, false, false, false, false, false, false, false, false, false, false, false, false, false, false] rfl rfl (any_of HT_.out (by kernel_rfl)) (fun _ _ _ h => h) (Or.inl ⟨by rfl, ?_⟩) ?_ ?_
            rotate_left
            ·intro w'
             go_simp
             with_reducible rfl
            rotate_left
            ·simp only [Act.put, List.setIfInBounds_toArray, List.set_cons_zero, List.set_cons_succ, i64_w, i32_w]
             rfl
            refine pure_ (i := 45) (N := some 58) (v := ?_) (a' := ?_) #[true, true, true, true, true, true, true, true, true, true, true, true, true, true, true, true, true, true, true, true, true, true, true, true, true, true, true, true, true, true, true, true, true, true, true, true, true, true, true, true, true, true, true, true, true, true, false, false, false, false, false, false, false, false, false, false, false, false, false, false, false, false, false, false, false, false, false, false, false] rfl rfl (any_of HT_.out (by kernel_rfl)) (fun _ _ _ h => h) (Or.inl ⟨by rfl, ?_⟩) ?_ ?_
            rotate_left
            ·intro w'
             go_simp
             with_reducible rfl
            rotate_left
            ·simp only [Act.put, List.setIfInBounds_toArray, List.set_cons_zero, List.set_cons_succ, i64_w, i32_w]
             rfl
            refine pure_ (i := 46) (N := some 59) (v := ?_) (a' := ?_) #[true, true, true, true, true, true, true, true, true, true, true, true, true, true, true, true, true, true, true, true, true, true, true, true, true, true, true, true, true, true, true, true, true, true, true, true, true, true, true, true, true, true, true, true, true, true, true, false, false, false, false, false, false, false, false, false, false, false, false, false, false, false, false, false, false, false, false, false, false] rfl rfl (any_of HT_.out (by kernel_rfl)) (fun _ _ _ h => h) (Or.inl ⟨by rfl, ?_⟩) ?_ ?_
            rotate_left
            ·intro w'
             go_simp
             with_reducible rfl
            rotate_left
            ·simp only [Act.put, List.setIfInBounds_toArray, List.set_cons_zero, List.set_cons_succ, i64_w, i32_w]
             rfl
            refine take_ (i := 47) (N := some 60) (v := ?_) (a' := ?_) #[true, true, true, true, true, true, true, true, true, true, true, true, true, true, true, true, true, true, true, true, true, true, true, true, true, true, true, true, true, true, true, true, true, true, true, true, true, true, true, true, true, true, true, true, true, true, true, true, false, false, false, false, false, false, false, false, false, false, false, false, false, false, false, false, false, false, false, false, false] rfl rfl (take_ofW HT_.out HW_.out (by kernel_rfl)) (fun _ _ _ h => h) (Or.inl ⟨by rfl, ?_⟩) hHeld ?_ ?_
            rotate_left
            ·rintro w' ⟨s0, s1⟩
             go_simp
             with_reducible rfl
            rotate_left
            ·simp only [Act.put, List.setIfInBounds_toArray, List.set_cons_zero, List.set_cons_succ, i64_w, i32_w]
             rfl
            refine one_ (i := 48) (N := some 61) #[true, true, true, true, true, true, true, true, true, true, true, true, true, true, true, true, true, true, true, true, true, true, true, true, true, true, true, true, true, true, true, true, true, true, true, true, true, true, true, true, true, true, true, true, true, true, true, true, true, false, false, false, false, false, false, false, false, false, false, false, false, false, false, false, false, false, false, false, false] rfl rfl (one_of HT_.out (by kernel_rfl)) (by decide) (fun K hK => ?_)
            refine goes_ Try.func38 (by kernel_rfl) rfl #[.int .u32 1, .int .u32 3] (by rfl) rfl rfl (by (try simp only [List.map_toArray, List.map_cons, List.map_nil]); first | done | rfl | (simp only [List.length_drop, List.length_take]; rfl)) ?_
            with_reducible refine (lw_one.calls 1 3 t285 _ A37.out).mono ?_
            rintro e w116 ⟨v286, rfl, ho0, hb⟩
            refine ⟨_, rfl, ?_⟩
            have n0_ := Sd.mk (Kd.R_elder' (by (with_reducible repeat (first | apply Kd.R_alloc | apply Kd.R_drewN | apply Kd.R_drew)); exact HO211.out) (Kd.R_base ho0) hb)
            have n1_ := Sd.mk (Kd.R_elder' (by (with_reducible repeat (first | apply Kd.R_alloc | apply Kd.R_drewN | apply Kd.R_drew)); exact HO214.out) (Kd.R_base ho0) hb)
            have n2_ := Sd.mk (Kd.R_lower (Kd.R_new' (Kd.R_new' ho0 (Kd.R_lt (by (with_reducible repeat (first | apply Kd.R_alloc | apply Kd.R_drewN | apply Kd.R_drew)); exact HO211.out))) (Kd.R_lt (by (with_reducible repeat (first | apply Kd.R_alloc | apply Kd.R_drewN | apply Kd.R_drew)); exact HO214.out))) (below_size (by repeat (first | (with_reducible first | exact HB.out | apply bwA | apply pwN | apply bwD | refine below_set ?_ GE215.out) | exact HB.out))))
            have n3_ := Sd.mk (blk_below (g := gb215) (o := .cells #[.slice Ao64 t209.length co64, .slice Ao66 t212.length co66] 47 (0, 0)) (by (with_reducible repeat (first | refine blk_drewN ?_ _ | refine blk_drew ?_ | refine blk_alloc ?_ _)); exact BK215.out) hb)
            have n4_ := Sd.mk (below_step (by repeat (first | (with_reducible first | exact HB.out | apply bwA | apply pwN | apply bwD | refine below_set ?_ GE215.out) | exact HB.out)) hb)
            clear HO211
            clear HO214
            clear BK215
            clear HB
            have HO211 := n0_
            have HO214 := n1_
            have HO287 := n2_
            have BK215 := n3_
            have HB := n4_
            clear n0_ n1_ n2_ n3_ n4_
            (try clear hb)
            (try clear hb2)
            (try clear hk)
            (try clear hi)
            (try clear ho0)
            obtain ⟨Ao117, co117, eo117⟩ := Kd.R_slice HO287.out
            (first | subst eo117 | (injection eo117 with f1_ f2_ f3_; have f4_ := f1_.symm; have f5_ := f3_.symm; clear f1_ f2_ f3_; subst f4_; subst f5_))
            refine hK.out _ _ ⟨(blk_cell BK215.out 0).trans rfl, (blk_cell BK215.out 1).trans rfl⟩ (fun hHeld => ?_)
            clear hK K
            refine norm_ (a' := ?_) ?_ ?_
            rotate_left
            ·show Act.put _ (some 61) _ = _
             simp only [Act.put, List.setIfInBounds_toArray, List.set_cons_zero, List.set_cons_succ, i64_w, i32_w]
             rfl
            refine one_ (i := 49) (N := some 62) #[true, true, true, true, true, true, true, true, true, true, true, true, true, true, true, true, true, true, true, true, true, true, true, true, true, true, true, true, true, true, true, true, true, true, true, true, true, true, true, true, true, true, true, true, true, true, true, true, true, true, false, false, false, false, false, false, false, false, false, false, false, false, false, false, false, false, false, false, false] rfl rfl (one_of HT_.out (by kernel_rfl)) (by decide) (fun K hK => ?_)
            refine goes_ Try.func14 (by kernel_rfl) rfl #[.slice Ao64 t209.length co64, .slice Ao117 t285.length co117] (by rfl) rfl rfl (by (try simp only [List.map_toArray, List.map_cons, List.map_nil]); first | done | rfl | (simp only [List.length_drop, List.length_take]; rfl)) ?_
            with_reducible refine (rf_Same.calls k _ _ t209 _ _ t285 true _ ?side1 ?side2 ?side3 ?side4 A38.out).mono ?_
            (case side1 => repeat (first | exact (Kd.R_reads' HO211.out).2.2 | (with_reducible refine Kd.C_alloc ?_ _) | (with_reducible refine Kd.C_drewN ?_ _) | (with_reducible refine Kd.C_drew ?_)))
            (case side2 => exact (Kd.R_reads' HO211.out).2.1)
            (case side3 => repeat (first | exact (Kd.R_reads' HO287.out).2.2 | (with_reducible refine Kd.C_alloc ?_ _) | (with_reducible refine Kd.C_drewN ?_ _) | (with_reducible refine Kd.C_drew ?_)))
            (case side4 => exact (Kd.R_reads' HO287.out).2.1)
            rintro e w' ⟨rfl, ⟨nd, rfl⟩⟩
            refine ⟨_, rfl, ?_⟩
            refine hK.out _ _ ⟨(blk_cell BK215.out 0).trans rfl, (blk_cell BK215.out 1).trans rfl⟩ (fun hHeld => ?_)
            clear hK K
            refine norm_ (a' := ?_) ?_ ?_
            rotate_left
            ·show Act.put _ (some 62) _ = _
             simp only [Act.put, List.setIfInBounds_toArray, List.set_cons_zero, List.set_cons_succ, i64_w, i32_w]
             rfl
            refine pure_ (i := 50) (N := some 63) (v := ?_) (a' := ?_) #[true, true, true, true, true, true, true, true, true, true, true, true, true, true, true, true, true, true, true, true, true, true, true, true, true, true, true, true, true, true, true, true, true, true, true, true, true, true, true, true, true, true, true, true, true, true, true, true, true, true, true, false, false, false, false, false, false, false, false, false, false, false, false, false, false, false, false, false, false] rfl rfl (any_of HT_.out (by kernel_rfl)) (fun _ _ _ h => h) (Or.inl ⟨by rfl, ?_⟩) ?_ ?_
            rotate_left
            ·intro w'
             go_simp
             with_reducible rfl
            rotate_left
            ·simp only [Act.put, List.setIfInBounds_toArray, List.set_cons_zero, List.set_cons_succ, i64_w, i32_w]
             rfl
            refine pure_ (i := 51) (N := some 64) (v := ?_) (a' := ?_) #[true, true, true, true, true, true, true, true, true, true, true, true, true, true, true, true, true, true, true, true, true, true, true, true, true, true, true, true, true, true, true, true, true, true, true, true, true, true, true, true, true, true, true, true, true, true, true, true, true, true, true, true, false, false, false, false, false, false, false, false, false, false, false, false, false, false, false, false, false] rfl rfl (any_of HT_.out (by kernel_rfl)) (fun _ _ _ h => h) (Or.inl ⟨by rfl, ?_⟩) ?_ ?_
            rotate_left
            ·intro w'
             go_simp
             with_reducible rfl
            rotate_left
            ·simp only [Act.put, List.setIfInBounds_toArray, List.set_cons_zero, List.set_cons_succ, i64_w, i32_w]
             rfl
            refine pure_ (i := 52) (N := some 65) (v := ?_) (a' := ?_) #[true, true, true, true, true, true, true, true, true, true, true, true, true, true, true, true, true, true, true, true, true, true, true, true, true, true, true, true, true, true, true, true, true, true, true, true, true, true, true, true, true, true, true, true, true, true, true, true, true, true, true, true, true, false, false, false, false, false, false, false, false, false, false, false, false, false, false, false, false] rfl rfl (any_of HT_.out (by kernel_rfl)) (fun _ _ _ h => h) (Or.inl ⟨by rfl, ?_⟩) ?_ ?_
            rotate_left
            ·intro w'
             go_simp
             with_reducible rfl
            rotate_left
            ·simp only [Act.put, List.setIfInBounds_toArray, List.set_cons_zero, List.set_cons_succ, i64_w, i32_w]
             rfl
            refine pure_ (i := 54) (N := some 67) (v := ?_) (a' := ?_) #[true, true, true, true, true, true, true, true, true, true, true, true, true, true, true, true, true, true, true, true, true, true, true, true, true, true, true, true, true, true, true, true, true, true, true, true, true, true, true, true, true, true, true, true, true, true, true, true, true, true, true, true, true, false, true, false, false, false, false, false, false, false, false, false, false, false, false, false, false] rfl rfl (any_of HT_.out (by kernel_rfl)) (fun _ _ _ h => h) (Or.inl ⟨by rfl, ?_⟩) ?_ ?_
            rotate_left
            ·intro w'
             go_simp
             with_reducible rfl
            rotate_left
            ·simp only [Act.put, List.setIfInBounds_toArray, List.set_cons_zero, List.set_cons_succ, i64_w, i32_w]
             rfl
            refine pure_ (i := 55) (N := some 68) (v := ?_) (a' := ?_) #[true, true, true, true, true, true, true, true, true, true, true, true, true, true, true, true, true, true, true, true, true, true, true, true, true, true, true, true, true, true, true, true, true, true, true, true, true, true, true, true, true, true, true, true, true, true, true, true, true, true, true, true, true, false, true, true, false, false, false, false, false, false, false, false, false, false, false, false, false] rfl rfl (any_of HT_.out (by kernel_rfl)) (fun _ _ _ h => h) (Or.inl ⟨by rfl, ?_⟩) ?_ ?_
            rotate_left
            ·intro w'
             go_simp
             with_reducible rfl
            rotate_left
            ·simp only [Act.put, List.setIfInBounds_toArray, List.set_cons_zero, List.set_cons_succ, i64_w, i32_w]
             rfl
            refine take_ (i := 53) (N := some 66) (v := ?_) (a' := ?_) #[true, true, true, true, true, true, true, true, true, true, true, true, true, true, true, true, true, true, true, true, true, true, true, true, true, true, true, true, true, true, true, true, true, true, true, true, true, true, true, true, true, true, true, true, true, true, true, true, true, true, true, true, true, true, true, true, false, false, false, false, false, false, false, false, false, false, false, false, false] rfl rfl (take_ofW HT_.out HW_.out (by kernel_rfl)) (fun _ _ _ h => h) (Or.inl ⟨by rfl, ?_⟩) hHeld ?_ ?_
            rotate_left
            ·rintro w' ⟨s0, s1⟩
             go_simp
             with_reducible rfl
            rotate_left
            ·simp only [Act.put, List.setIfInBounds_toArray, List.set_cons_zero, List.set_cons_succ, i64_w, i32_w]
             rfl
            refine one_ (i := 56) (N := some 69) #[true, true, true, true, true, true, true, true, true, true, true, true, true, true, true, true, true, true, true, true, true, true, true, true, true, true, true, true, true, true, true, true, true, true, true, true, true, true, true, true, true, true, true, true, true, true, true, true, true, true, true, true, true, true, true, true, true, false, false, false, false, false, false, false, false, false, false, false, false] rfl rfl (one_of HT_.out (by kernel_rfl)) (by decide) (fun K hK => ?_)
            refine Kd.R_lit_step k36 _ 36 ?hg (N := 69) ?hd (xs := ([(⟨4, 4⟩ : S36), (⟨6, 9⟩ : S36)] : List (S36))) (inner := [.int .u32 4, .int .u32 4, .int .u32 6, .int .u32 9]) (ok := fun _ => True) (okp := fun _ => True) ?hr ?hp (fun _ hk => hk) trivial (Below.refl _ _) (Nat.le_refl _) (by simp) ?_; (case hd => rfl); (case hg => rfl); (case hr => first | (go_simp; done) | (go_simp; rfl)); (case hp => exact (Reps.c2 (show Kd.M k36 _ _ _ (⟨4, 4⟩ : S36) [.int .u32 4, .int .u32 4] from (k36_mkM _ _ _ (⟨4, 4⟩ : S36) )) (Reps.c2 (show Kd.M k36 _ _ _ (⟨6, 9⟩ : S36) [.int .u32 6, .int .u32 9] from (k36_mkM _ _ _ (⟨6, 9⟩ : S36) )) (Reps.none _ _))))
            intro v290 w118 ho119 hb hg_ hnew_
            clear hg_ hnew_
            (first | rw [← Ny289.out] at ho119 | (simp only [Int.reduceToNat] at ho119; rw [← Ny289.out] at ho119))
            have n0_ := Sd.mk (Kd.R_elder' (by (with_reducible repeat (first | apply Kd.R_alloc | apply Kd.R_drewN | apply Kd.R_drew)); exact HO211.out) (Kd.R_base ho119) hb)
            have n1_ := Sd.mk (Kd.R_elder' (by (with_reducible repeat (first | apply Kd.R_alloc | apply Kd.R_drewN | apply Kd.R_drew)); exact HO214.out) (Kd.R_base ho119) hb)
            have n2_ := Sd.mk (Kd.R_lower (Kd.R_new' (Kd.R_new' ho119 (Kd.R_lt (by (with_reducible repeat (first | apply Kd.R_alloc | apply Kd.R_drewN | apply Kd.R_drew)); exact HO211.out))) (Kd.R_lt (by (with_reducible repeat (first | apply Kd.R_alloc | apply Kd.R_drewN | apply Kd.R_drew)); exact HO214.out))) (below_size (by repeat (first | (with_reducible first | exact HB.out | apply bwA | apply pwN | apply bwD | refine below_set ?_ GE215.out) | exact HB.out))))
            have n3_ := Sd.mk (blk_below (g := gb215) (o := .cells #[.slice Ao64 t209.length co64, .slice Ao66 t212.length co66] 47 (0, 0)) (by (with_reducible repeat (first | refine blk_drewN ?_ _ | refine blk_drew ?_ | refine blk_alloc ?_ _)); exact BK215.out) hb)
            have n4_ := Sd.mk (below_step (by repeat (first | (with_reducible first | exact HB.out | apply bwA | apply pwN | apply bwD | refine below_set ?_ GE215.out) | exact HB.out)) hb)
            clear HO211
            clear HO214
            clear BK215
            clear HB
            have HO211 := n0_
            have HO214 := n1_
            have HO291 := n2_
            have BK215 := n3_
            have HB := n4_
            clear n0_ n1_ n2_ n3_ n4_
            clear hb ho119
            obtain ⟨Ao120, co120, eo120⟩ := Kd.R_slice HO291.out
            (first | subst eo120 | (injection eo120 with f1_ f2_ f3_; have f4_ := f1_.symm; have f5_ := f3_.symm; clear f1_ f2_ f3_; subst f4_; subst f5_))
            refine hK.out _ _ ⟨(blk_cell BK215.out 0).trans rfl, (blk_cell BK215.out 1).trans rfl⟩ (fun hHeld => ?_)
            clear hK K
            refine norm_ (a' := ?_) ?_ ?_
            rotate_left
            ·show Act.put _ (some 69) _ = _
             simp only [Act.put, List.setIfInBounds_toArray, List.set_cons_zero, List.set_cons_succ, i64_w, i32_w]
             rfl
            refine one_ (i := 57) (N := some 70) #[true, true, true, true, true, true, true, true, true, true, true, true, true, true, true, true, true, true, true, true, true, true, true, true, true, true, true, true, true, true, true, true, true, true, true, true, true, true, true, true, true, true, true, true, true, true, true, true, true, true, true, true, true, true, true, true, true, true, false, false, false, false, false, false, false, false, false, false, false] rfl rfl (one_of HT_.out (by kernel_rfl)) (by decide) (fun K hK => ?_)
            refine goes_ Try.func14 (by kernel_rfl) rfl #[.slice Ao66 t212.length co66, .slice Ao120 y289.length co120] (by rfl) rfl rfl (by (try simp only [List.map_toArray, List.map_cons, List.map_nil]); first | done | rfl | (simp only [List.length_drop, List.length_take]; rfl)) ?_
            with_reducible refine (rf_Same.calls k _ _ t212 _ _ y289 true _ ?side1 ?side2 ?side3 ?side4 A40.out).mono ?_
            (case side1 => repeat (first | exact (Kd.R_reads' HO214.out).2.2 | (with_reducible refine Kd.C_alloc ?_ _) | (with_reducible refine Kd.C_drewN ?_ _) | (with_reducible refine Kd.C_drew ?_)))
            (case side2 => exact (Kd.R_reads' HO214.out).2.1)
            (case side3 => repeat (first | exact (Kd.R_reads' HO291.out).2.2 | (with_reducible refine Kd.C_alloc ?_ _) | (with_reducible refine Kd.C_drewN ?_ _) | (with_reducible refine Kd.C_drew ?_)))
            (case side4 => exact (Kd.R_reads' HO291.out).2.1)
            rintro e w' ⟨rfl, ⟨nd, rfl⟩⟩
            refine ⟨_, rfl, ?_⟩
            refine hK.out _ _ ⟨(blk_cell BK215.out 0).trans rfl, (blk_cell BK215.out 1).trans rfl⟩ (fun hHeld => ?_)
            clear hK K
            refine norm_ (a' := ?_) ?_ ?_
            rotate_left
            ·show Act.put _ (some 70) _ = _
             simp only [Act.put, List.setIfInBounds_toArray, List.set_cons_zero, List.set_cons_succ, i64_w, i32_w]
             rfl
            refine pure_ (i := 58) (N := some 71) (v := ?_) (a' := ?_) #[true, true, true, true, true, true, true, true, true, true, true, true, true, true, true, true, true, true, true, true, true, true, true, true, true, true, true, true, true, true, true, true, true, true, true, true, true, true, true, true, true, true, true, true, true, true, true, true, true, true, true, true, true, true, true, true, true, true, true, false, false, false, false, false, false, false, false, false, false] rfl rfl (any_of HT_.out (by kernel_rfl)) (fun _ _ _ h => h) (Or.inl ⟨by rfl, ?_⟩) ?_ ?_
            rotate_left
            ·intro w'
             go_simp
             with_reducible rfl
            rotate_left
            ·simp only [Act.put, List.setIfInBounds_toArray, List.set_cons_zero, List.set_cons_succ, i64_w, i32_w]
             rfl
            refine pure_ (i := 59) (N := some 72) (v := ?_) (a' := ?_) #[true, true, true, true, true, true, true, true, true, true, true, true, true, true, true, true, true, true, true, true, true, true, true, true, true, true, true, true, true, true, true, true, true, true, true, true, true, true, true, true, true, true, true, true, true, true, true, true, true, true, true, true, true, true, true, true, true, true, true, true, false, false, false, false, false, false, false, false, false] rfl rfl (any_of HT_.out (by kernel_rfl)) (fun _ _ _ h => h) (Or.inl ⟨by rfl, ?_⟩) ?_ ?_
            rotate_left
            ·intro w'
             go_simp
             with_reducible rfl
            rotate_left
            ·simp only [Act.put, List.setIfInBounds_toArray, List.set_cons_zero, List.set_cons_succ, i64_w, i32_w]
             rfl
            refine one_ (i := 60) (N := some 73) #[true, true, true, true, true, true, true, true, true, true, true, true, true, true, true, true, true, true, true, true, true, true, true, true, true, true, true, true, true, true, true, true, true, true, true, true, true, true, true, true, true, true, true, true, true, true, true, true, true, true, true, true, true, true, true, true, true, true, true, true, true, false, false, false, false, false, false, false, false] rfl rfl (one_of HT_.out (by kernel_rfl)) (by decide) (fun K hK => ?_)
            refine goes_ Try.func38 (by kernel_rfl) rfl #[.int .u32 1, .int .u32 1] (by rfl) rfl rfl (by (try simp only [List.map_toArray, List.map_cons, List.map_nil]); first | done | rfl | (simp only [List.length_drop, List.length_take]; rfl)) ?_
            with_reducible refine (lw_one.calls 1 1 t293 _ A42.out).mono ?_
            rintro e w121 ⟨v294, rfl, ho0, hb⟩
            refine ⟨_, rfl, ?_⟩
            have n0_ := Sd.mk (Kd.R_elder' (by (with_reducible repeat (first | apply Kd.R_alloc | apply Kd.R_drewN | apply Kd.R_drew)); exact HO211.out) (Kd.R_base ho0) hb)
            have n1_ := Sd.mk (Kd.R_elder' (by (with_reducible repeat (first | apply Kd.R_alloc | apply Kd.R_drewN | apply Kd.R_drew)); exact HO214.out) (Kd.R_base ho0) hb)
            have n2_ := Sd.mk (Kd.R_lower (Kd.R_new' (Kd.R_new' ho0 (Kd.R_lt (by (with_reducible repeat (first | apply Kd.R_alloc | apply Kd.R_drewN | apply Kd.R_drew)); exact HO211.out))) (Kd.R_lt (by (with_reducible repeat (first | apply Kd.R_alloc | apply Kd.R_drewN | apply Kd.R_drew)); exact HO214.out))) (below_size (by repeat (first | (with_reducible first | exact HB.out | apply bwA | apply pwN | apply bwD | refine below_set ?_ GE215.out) | exact HB.out))))
            have n3_ := Sd.mk (blk_below (g := gb215) (o := .cells #[.slice Ao64 t209.length co64, .slice Ao66 t212.length co66] 47 (0, 0)) (by (with_reducible repeat (first | refine blk_drewN ?_ _ | refine blk_drew ?_ | refine blk_alloc ?_ _)); exact BK215.out) hb)
            have n4_ := Sd.mk (below_step (by repeat (first | (with_reducible first | exact HB.out | apply bwA | apply pwN | apply bwD | refine below_set ?_ GE215.out) | exact HB.out)) hb)
            clear HO211
            clear HO214
            clear BK215
            clear HB
            have HO211 := n0_
            have HO214 := n1_
            have HO295 := n2_
            have BK215 := n3_
            have HB := n4_
            clear n0_ n1_ n2_ n3_ n4_
            (try clear hb)
            (try clear hb2)
            (try clear hk)
            (try clear hi)
            (try clear ho0)
            obtain ⟨Ao122, co122, eo122⟩ := Kd.R_slice HO295.out
            (first | subst eo122 | (injection eo122 with f1_ f2_ f3_; have f4_ := f1_.symm; have f5_ := f3_.symm; clear f1_ f2_ f3_; subst f4_; subst f5_))
            refine hK.out _ _ ⟨(blk_cell BK215.out 0).trans rfl, (blk_cell BK215.out 1).trans rfl⟩ (fun hHeld => ?_)
            clear hK K
            refine norm_ (a' := ?_) ?_ ?_
            rotate_left
            ·show Act.put _ (some 73) _ = _
             simp only [Act.put, List.setIfInBounds_toArray, List.set_cons_zero, List.set_cons_succ, i64_w, i32_w]
             rfl
            refine one_ (i := 61) (N := some 74) #[true, true, true, true, true, true, true, true, true, true, true, true, true, true, true, true, true, true, true, true, true, true, true, true, true, true, true, true, true, true, true, true, true, true, true, true, true, true, true, true, true, true, true, true, true, true, true, true, true, true, true, true, true, true, true, true, true, true, true, true, true, true, false, false, false, false, false, false, false] rfl rfl (one_of HT_.out (by kernel_rfl)) (by decide) (fun K hK => ?_)
            refine goes_ Try.func23 (by kernel_rfl) rfl #[.slice Ao122 t293.length co122] (by rfl) rfl rfl (by (try simp only [List.map_toArray, List.map_cons, List.map_nil]); first | done | rfl | (simp only [List.length_drop, List.length_take]; rfl)) ?_
            with_reducible refine (axis_May.calls k _ _ t293 true _ ?side1 ?side2 A43.out).mono ?_
            (case side1 => repeat (first | exact (Kd.R_reads' HO295.out).2.2 | (with_reducible refine Kd.C_alloc ?_ _) | (with_reducible refine Kd.C_drewN ?_ _) | (with_reducible refine Kd.C_drew ?_)))
            (case side2 => exact (Kd.R_reads' HO295.out).2.1)
            rintro e w123 ⟨rfl, hb⟩
            refine ⟨_, rfl, ?_⟩
            replace HO211 := Sd.mk (Kd.R_below (by (with_reducible repeat (first | apply Kd.R_alloc | apply Kd.R_drewN | apply Kd.R_drew)); exact HO211.out) hb)
            replace HO214 := Sd.mk (Kd.R_below (by (with_reducible repeat (first | apply Kd.R_alloc | apply Kd.R_drewN | apply Kd.R_drew)); exact HO214.out) hb)
            replace HO295 := Sd.mk (Kd.R_below (by (with_reducible repeat (first | apply Kd.R_alloc | apply Kd.R_drewN | apply Kd.R_drew)); exact HO295.out) hb)
            replace BK215 := Sd.mk (blk_below (g := gb215) (o := .cells #[.slice Ao64 t209.length co64, .slice Ao66 t212.length co66] 47 (0, 0)) (by (with_reducible repeat (first | refine blk_drewN ?_ _ | refine blk_drew ?_ | refine blk_alloc ?_ _)); exact BK215.out) hb)
            replace HB := Sd.mk (below_step (by repeat (first | (with_reducible first | exact HB.out | apply bwA | apply pwN | apply bwD | refine below_set ?_ GE215.out) | exact HB.out)) hb)
            (try clear hb)
            (try clear hb2)
            (try clear hk)
            (try clear hi)
            refine hK.out _ _ ⟨(blk_cell BK215.out 0).trans rfl, (blk_cell BK215.out 1).trans rfl⟩ (fun hHeld => ?_)
            clear hK K
            refine norm_ (a' := ?_) ?_ ?_
            rotate_left
            ·show Act.put _ (some 74) _ = _
             simp only [Act.put, List.setIfInBounds_toArray, List.set_cons_zero, List.set_cons_succ, i64_w, i32_w]
             rfl
            refine pure_ (i := 62) (N := some 75) (v := ?_) (a' := ?_) #[true, true, true, true, true, true, true, true, true, true, true, true, true, true, true, true, true, true, true, true, true, true, true, true, true, true, true, true, true, true, true, true, true, true, true, true, true, true, true, true, true, true, true, true, true, true, true, true, true, true, true, true, true, true, true, true, true, true, true, true, true, true, true, false, false, false, false, false, false] rfl rfl (any_of HT_.out (by kernel_rfl)) (fun _ _ _ h => h) (Or.inl ⟨by rfl, ?_⟩) ?_ ?_
            rotate_left
            ·intro w'
             go_simp
             with_reducible rfl
            rotate_left
            ·simp only [Act.put, List.setIfInBounds_toArray, List.set_cons_zero, List.set_cons_succ, i64_w, i32_w]
             rfl
            refine pure_ (i := 63) (N := some 76) (v := ?_) (a' := ?_) #[true, true, true, true, true, true, true, true, true, true, true, true, true, true, true, true, true, true, true, true, true, true, true, true, true, true, true, true, true, true, true, true, true, true, true, true, true, true, true, true, true, true, true, true, true, true, true, true, true, true, true, true, true, true, true, true, true, true, true, true, true, true, true, true, false, false, false, false, false] rfl rfl (any_of HT_.out (by kernel_rfl)) (fun _ _ _ h => h) (Or.inl ⟨by rfl, ?_⟩) ?_ ?_
            rotate_left
            ·intro w'
             go_simp
             with_reducible rfl
            rotate_left
            ·simp only [Act.put, List.setIfInBounds_toArray, List.set_cons_zero, List.set_cons_succ, i64_w, i32_w]
             rfl
            refine one_ (i := 64) (N := some 77) #[true, true, true, true, true, true, true, true, true, true, true, true, true, true, true, true, true, true, true, true, true, true, true, true, true, true, true, true, true, true, true, true, true, true, true, true, true, true, true, true, true, true, true, true, true, true, true, true, true, true, true, true, true, true, true, true, true, true, true, true, true, true, true, true, true, false, false, false, false] rfl rfl (one_of HT_.out (by kernel_rfl)) (by decide) (fun K hK => ?_)
            refine goes_ Try.func38 (by kernel_rfl) rfl #[.int .u32 0, .int .u32 1] (by rfl) rfl rfl (by (try simp only [List.map_toArray, List.map_cons, List.map_nil]); first | done | rfl | (simp only [List.length_drop, List.length_take]; rfl)) ?_
            with_reducible refine (lw_one.calls 0 1 t297 _ A45.out).mono ?_
            rintro e w124 ⟨v298, rfl, ho0, hb⟩
            refine ⟨_, rfl, ?_⟩
            have n0_ := Sd.mk (Kd.R_elder' (by (with_reducible repeat (first | apply Kd.R_alloc | apply Kd.R_drewN | apply Kd.R_drew)); exact HO211.out) (Kd.R_base ho0) hb)
            have n1_ := Sd.mk (Kd.R_elder' (by (with_reducible repeat (first | apply Kd.R_alloc | apply Kd.R_drewN | apply Kd.R_drew)); exact HO214.out) (Kd.R_base ho0) hb)
            have n2_ := Sd.mk (Kd.R_lower (Kd.R_new' (Kd.R_new' ho0 (Kd.R_lt (by (with_reducible repeat (first | apply Kd.R_alloc | apply Kd.R_drewN | apply Kd.R_drew)); exact HO211.out))) (Kd.R_lt (by (with_reducible repeat (first | apply Kd.R_alloc | apply Kd.R_drewN | apply Kd.R_drew)); exact HO214.out))) (below_size (by repeat (first | (with_reducible first | exact HB.out | apply bwA | apply pwN | apply bwD | refine below_set ?_ GE215.out) | exact HB.out))))
            have n3_ := Sd.mk (blk_below (g := gb215) (o := .cells #[.slice Ao64 t209.length co64, .slice Ao66 t212.length co66] 47 (0, 0)) (by (with_reducible repeat (first | refine blk_drewN ?_ _ | refine blk_drew ?_ | refine blk_alloc ?_ _)); exact BK215.out) hb)
            have n4_ := Sd.mk (below_step (by repeat (first | (with_reducible first | exact HB.out | apply bwA | apply pwN | apply bwD | refine below_set ?_ GE215.out) | exact HB.out)) hb)
            clear HO211
            clear HO214
            clear BK215
            clear HB
            have HO211 := n0_
            have HO214 := n1_
            have HO299 := n2_
            have BK215 := n3_
            have HB := n4_
            clear n0_ n1_ n2_ n3_ n4_
            (try clear hb)
            (try clear hb2)
            (try clear hk)
            (try clear hi)
            (try clear ho0)
            obtain ⟨Ao125, co125, eo125⟩ := Kd.R_slice HO299.out
            (first | subst eo125 | (injection eo125 with f1_ f2_ f3_; have f4_ := f1_.symm; have f5_ := f3_.symm; clear f1_ f2_ f3_; subst f4_; subst f5_))
            refine hK.out _ _ ⟨(blk_cell BK215.out 0).trans rfl, (blk_cell BK215.out 1).trans rfl⟩ (fun hHeld => ?_)
            clear hK K
            refine norm_ (a' := ?_) ?_ ?_
            rotate_left
            ·show Act.put _ (some 77) _ = _
             simp only [Act.put, List.setIfInBounds_toArray, List.set_cons_zero, List.set_cons_succ, i64_w, i32_w]
             rfl
            refine one_ (i := 65) (N := some 78) #[true, true, true, true, true, true, true, true, true, true, true, true, true, true, true, true, true, true, true, true, true, true, true, true, true, true, true, true, true, true, true, true, true, true, true, true, true, true, true, true, true, true, true, true, true, true, true, true, true, true, true, true, true, true, true, true, true, true, true, true, true, true, true, true, true, true, false, false, false] rfl rfl (one_of HT_.out (by kernel_rfl)) (by decide) (fun K hK => ?_)
            refine goes_ Try.func23 (by kernel_rfl) rfl #[.slice Ao125 t297.length co125] (by rfl) rfl rfl (by (try simp only [List.map_toArray, List.map_cons, List.map_nil]); first | done | rfl | (simp only [List.length_drop, List.length_take]; rfl)) ?_
            with_reducible refine (axis_May.calls k _ _ t297 t300 _ ?side1 ?side2 A46.out).mono ?_
            (case side1 => repeat (first | exact (Kd.R_reads' HO299.out).2.2 | (with_reducible refine Kd.C_alloc ?_ _) | (with_reducible refine Kd.C_drewN ?_ _) | (with_reducible refine Kd.C_drew ?_)))
            (case side2 => exact (Kd.R_reads' HO299.out).2.1)
            rintro e w126 ⟨rfl, hb⟩
            refine ⟨_, rfl, ?_⟩
            replace HO211 := Sd.mk (Kd.R_below (by (with_reducible repeat (first | apply Kd.R_alloc | apply Kd.R_drewN | apply Kd.R_drew)); exact HO211.out) hb)
            replace HO214 := Sd.mk (Kd.R_below (by (with_reducible repeat (first | apply Kd.R_alloc | apply Kd.R_drewN | apply Kd.R_drew)); exact HO214.out) hb)
            replace HO299 := Sd.mk (Kd.R_below (by (with_reducible repeat (first | apply Kd.R_alloc | apply Kd.R_drewN | apply Kd.R_drew)); exact HO299.out) hb)
            replace BK215 := Sd.mk (blk_below (g := gb215) (o := .cells #[.slice Ao64 t209.length co64, .slice Ao66 t212.length co66] 47 (0, 0)) (by (with_reducible repeat (first | refine blk_drewN ?_ _ | refine blk_drew ?_ | refine blk_alloc ?_ _)); exact BK215.out) hb)
            replace HB := Sd.mk (below_step (by repeat (first | (with_reducible first | exact HB.out | apply bwA | apply pwN | apply bwD | refine below_set ?_ GE215.out) | exact HB.out)) hb)
            (try clear hb)
            (try clear hb2)
            (try clear hk)
            (try clear hi)
            refine hK.out _ _ ⟨(blk_cell BK215.out 0).trans rfl, (blk_cell BK215.out 1).trans rfl⟩ (fun hHeld => ?_)
            clear hK K
            refine norm_ (a' := ?_) ?_ ?_
            rotate_left
            ·show Act.put _ (some 78) _ = _
             simp only [Act.put, List.setIfInBounds_toArray, List.set_cons_zero, List.set_cons_succ, i64_w, i32_w]
             rfl
            refine pure_ (i := 66) (N := some 79) (v := ?_) (a' := ?_) #[true, true, true, true, true, true, true, true, true, true, true, true, true, true, true, true, true, true, true, true, true, true, true, true, true, true, true, true, true, true, true, true, true, true, true, true, true, true, true, true, true, true, true, true, true, true, true, true, true, true, true, true, true, true, true, true, true, true, true, true, true, true, true, true, true, true, true, false, false] rfl rfl (any_of HT_.out (by kernel_rfl)) (fun _ _ _ h => h) (Or.inl ⟨by rfl, ?_⟩) ?_ ?_
            rotate_left
            ·intro w'
             go_simp
             with_reducible rfl
            rotate_left
            ·simp only [Act.put, List.setIfInBounds_toArray, List.set_cons_zero, List.set_cons_succ, i64_w, i32_w]
             rfl
            refine pure_ (i := 67) (N := some 80) (v := ?_) (a' := ?_) #[true, true, true, true, true, true, true, true, true, true, true, true, true, true, true, true, true, true, true, true, true, true, true, true, true, true, true, true, true, true, true, true, true, true, true, true, true, true, true, true, true, true, true, true, true, true, true, true, true, true, true, true, true, true, true, true, true, true, true, true, true, true, true, true, true, true, true, true, false] rfl rfl (any_of HT_.out (by kernel_rfl)) (fun _ _ _ h => h) (Or.inl ⟨by rfl, ?_⟩) ?_ ?_
            rotate_left
            ·intro w'
             go_simp
             with_reducible rfl
            rotate_left
            ·simp only [Act.put, List.setIfInBounds_toArray, List.set_cons_zero, List.set_cons_succ, i64_w, i32_w]
             rfl
            refine pure_ (i := 68) (N := some 0) (v := ?_) (a' := ?_) #[true, true, true, true, true, true, true, true, true, true, true, true, true, true, true, true, true, true, true, true, true, true, true, true, true, true, true, true, true, true, true, true, true, true, true, true, true, true, true, true, true, true, true, true, true, true, true, true, true, true, true, true, true, true, true, true, true, true, true, true, true, true, true, true, true, true, true, true, true] rfl rfl (any_of HT_.out (by kernel_rfl)) (fun _ _ _ h => h) (Or.inl ⟨by rfl, ?_⟩) ?_ ?_
            rotate_left
            ·intro w'
             go_simp
             with_reducible rfl
            rotate_left
            ·simp only [Act.put, List.setIfInBounds_toArray, List.set_cons_zero, List.set_cons_succ, i64_w, i32_w]
             rfl
            refine done_ (done_of HT_.out (by kernel_rfl)) ?_
            try go_wp2
            go_ret
            exact ⟨by first | rfl | (simp [errW_none, errW_some] <;> rfl) | (simp [*, errW_none, errW_some] <;> rfl), by repeat (first | (with_reducible first | exact HB.out | apply bwA | apply pwN | apply bwD | refine below_set ?_ GE215.out) | exact HB.out)⟩
           ·replace c44 := Bool.eq_false_iff.mpr c44
            subst c44
            have H1 : (some false) = some r := by rw [if_neg (show ¬ (false = true) by decide)] at H; exact H
            clear H
            have H := H1
            clear H1
            exact absurd ((Option.some.inj H).trans HT.out) (by decide)
          ·replace c41 := Bool.eq_false_iff.mpr c41
           subst c41
           have H1 : (some false) = some r := by rw [if_neg (show ¬ (false = true) by decide)] at H; exact H
           clear H
           have H := H1
           clear H1
           exact absurd ((Option.some.inj H).trans HT.out) (by decide)
         ·replace c39 := Bool.eq_false_iff.mpr c39
          subst c39
          have H1 : (some false) = some r := by rw [if_neg (show ¬ (false = true) by decide)] at H; exact H
          clear H
          have H := H1
          clear H1
          exact absurd ((Option.some.inj H).trans HT.out) (by decide)
        ·rw [if_neg c36] at H
         have c36b0 : (t284 == 7) = false := beq_eq_false_iff_ne.mpr c36
         have c36b1 : (t284 != 7) = true := bne_iff_ne.mpr c36
         exact absurd ((Option.some.inj H).trans HT.out) (by decide)
       ·rw [if_neg c34] at H
        exact absurd H (by simp)
      ·replace c31 := Bool.eq_false_iff.mpr c31
       subst c31
       have H1 : (some false) = some r := by rw [if_neg (show ¬ (false = true) by decide)] at H; exact H
       clear H
       have H := H1
       clear H1
       exact absurd ((Option.some.inj H).trans HT.out) (by decide)
     ·replace c27 := Bool.eq_false_iff.mpr c27
      subst c27
      have H1 : (some false) = some r := by rw [if_neg (show ¬ (false = true) by decide)] at H; exact H
      clear H
      have H := H1
      clear H1
      exact absurd ((Option.some.inj H).trans HT.out) (by decide)
    ·replace c23 := Bool.eq_false_iff.mpr c23
     subst c23
     have H1 : (some false) = some r := by rw [if_neg (show ¬ (false = true) by decide)] at H; exact H
     clear H
     have H := H1
     clear H1
     exact absurd ((Option.some.inj H).trans HT.out) (by decide)
   ·rw [if_neg c17] at H
    have c17b0 : ((t242.length : Int) == 0) = false := beq_eq_false_iff_ne.mpr c17
    have c17b1 : ((t242.length : Int) != 0) = true := bne_iff_ne.mpr c17
    have c17b2 : ¬ (t242 = []) := fun h_ => c17 (by rw [h_]; rfl)
    exact absurd ((Option.some.inj H).trans HT.out) (by decide)
  ·replace c14 := Bool.eq_false_iff.mpr c14
   subst c14
   have H1 : (some false) = some r := by rw [if_neg (show ¬ (false = true) by decide)] at H; exact H
   clear H
   have H := H1
   clear H1
   exact absurd ((Option.some.inj H).trans HT.out) (by decide)
 ·replace c8 := Bool.eq_false_iff.mpr c8
  subst c8
  have H1 : (some false) = some r := by rw [if_neg (show ¬ (false = true) by decide)] at H; exact H
  clear H
  have H := H1
  clear H1
  exact absurd ((Option.some.inj H).trans HT.out) (by decide)

end Go.Proofs.Ytieapebabncliaa.X
