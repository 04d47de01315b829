import Derived.Test.YtcamcfplcoklkaaI29
import Derived.Test.YtcamcfplcoklkaaProg
namespace Go.Proofs.Ytcamcfplcoklkaa.Iv
open Go
def dtbl : List (Nat × Pol) := [(9, ⟨false, [.view], none⟩), (14, ⟨false, [.view], none⟩), (15, ⟨false, [.view], none⟩), (16, ⟨true, [.view], none⟩), (18, ⟨true, [.view], none⟩), (22, ⟨true, [.view], none⟩), (34, ⟨false, [.view], none⟩),
  (19, ⟨false, [.byref], none⟩), (21, ⟨false, [.byref], none⟩), (24, ⟨false, [.byref], none⟩), (25, ⟨false, [.byref], none⟩), (32, ⟨false, [.byref], none⟩), (33, ⟨false, [.byref, .byref], none⟩), (36, ⟨true, [.byref], none⟩),
  (20, ⟨false, [.byref, .keep, .lent], none⟩), (31, ⟨true, [.lentN], none⟩), (12, ⟨false, [.byref], none⟩), (13, ⟨false, [.byref], none⟩), (23, ⟨true, [], none⟩), (27, ⟨false, [.view], none⟩), (37, ⟨false, [.view], none⟩), (17, ⟨false, [.view], none⟩),
  (28, ⟨false, [.byref, .keep, .lent], none⟩), (29, ⟨false, [.byref], none⟩), (30, ⟨false, [.byref], none⟩), (38, ⟨false, [.byref], none⟩), (39, ⟨false, [.byref], none⟩), (35, ⟨true, [.lent], none⟩), (40, ⟨false, [], some (.backward true 2)⟩)]
def polOf (l : List (Nat × Pol)) (f : Nat) : Pol := match l with
  | [] => ⟨false, [], none⟩
  | (g, p) :: r => if g = f then p else polOf r f
noncomputable def dcfg : Cfg := { P := Try.prog, pol := polOf dtbl, good := [3,4,5,6,7,8,9,10,11,12,13,14,15,16,17,18,19,20,21,22,23,24,25,26,27,28,29,30,31,32,33,34,35,36,37,38,39] }
def isT : Option (V × Heap) → Nat
  | some (.bool true, _) => 1
  | some (.bool false, _) => 2
  | some _ => 3
  | none => 0
set_option maxRecDepth 100000
theorem t1 : isT (run dcfg 400 8 [] (fun _ => none)) = 1 := by kernel_rfl
end Go.Proofs.Ytcamcfplcoklkaa.Iv
