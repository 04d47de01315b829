import Derived.Test.YtcamcfplcoklkaaD4
namespace Go.Proofs.Ytcamcfplcoklkaa.Iv
open Go
set_option linter.unusedVariables false
set_option maxRecDepth 100000
def errOf (d : Int) : Int := if 0 ≤ d ∧ d ≤ 2 then 1 else 0
theorem did_nil (H : Heap) (a : Act4) (hb : a.b.length ≤ 200) : evCall (run dcfg 40) dcfg.pol H 39 12 [.nilp, .agg (actV a)] = rN (errOf a.d) := by
  obtain ⟨d, n, m, b⟩ := a
  have hw := upTo_get wn b.length (by simp only at hb; omega)
  show dN H d n m (b.map fun u => [V.int .u8 u]) = rN (errOf d)
  rcases d with (_ | _ | _ | _ | _ | _ | d) | d
  · rcases n with n | n <;> kernel_rfl
  · rw [tab_eq b]
    rcases n with n | n
    · exact (hw H m _ n).1
    · exact (hw H m _ n).2
  · kernel_rfl
  · kernel_rfl
  · kernel_rfl
  · kernel_rfl
  · have e : errOf (Int.ofNat (d + 1 + 1 + 1 + 1 + 1 + 1)) = 0 := by unfold errOf; rw [if_neg (by simp; omega)]
    rw [e]
    show _ = _
    kernel_rfl
  · have e : errOf (Int.negSucc d) = 0 := by unfold errOf; rw [if_neg (by omega)]
    rw [e]
    show _ = _
    kernel_rfl
theorem did_ptr (a : Act4) (hb : a.b.length ≤ 200) : evCall (run dcfg 40) dcfg.pol HL 39 12 [.ptr (.own 15) 0 0, .agg (actV a)] = rP (errOf a.d) := by
  obtain ⟨d, n, m, b⟩ := a
  have hw := upTo_get wp b.length (by simp only at hb; omega)
  show dP d n m (b.map fun u => [V.int .u8 u]) = rP (errOf d)
  rcases d with (_ | _ | _ | _ | _ | _ | d) | d
  · rcases n with n | n <;> kernel_rfl
  · rw [tab_eq b]
    rcases n with n | n
    · exact (hw m _ n).1
    · exact (hw m _ n).2
  · kernel_rfl
  · kernel_rfl
  · kernel_rfl
  · kernel_rfl
  · have e : errOf (Int.ofNat (d + 1 + 1 + 1 + 1 + 1 + 1)) = 0 := by unfold errOf; rw [if_neg (by simp; omega)]
    rw [e]
    show _ = _
    kernel_rfl
  · have e : errOf (Int.negSucc d) = 0 := by unfold errOf; rw [if_neg (by omega)]
    rw [e]
    show _ = _
    kernel_rfl
theorem HL_back : HL.sets [(.own 15, zblk)] = HL := by
  funext i
  simp only [Heap.sets, Heap.set, HL]
  by_cases h : i = .own 15
  · subst h; rfl
  · rw [if_neg h, if_neg h]
end Go.Proofs.Ytcamcfplcoklkaa.Iv
