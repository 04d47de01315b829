import Derived.Test.YtcamcfplcoklkaaD3
namespace Go.Proofs.Ytcamcfplcoklkaa.Iv
open Go
set_option linter.unusedVariables false
set_option maxRecDepth 100000
def zblk : Blk := ⟨0, [.int .i64 0, .bool false, .int .i64 0, .nils, .nils], false, false⟩
def ablk : Blk := ⟨0, [.nilp, .ptr (.own 15) 0 0], false, false⟩
def HL : Heap := Heap.set (Heap.set (fun _ => none) (.own 15) zblk) (.own 16) ablk
def tab : Nat → (Nat → Int) → List (List V)
  | 0, _ => []
  | n + 1, g => [.int .u8 (g 0)] :: tab n (fun i => g (i + 1))
theorem tab_eq : ∀ (b : List Int), b.map (fun u => [V.int .u8 u]) = tab b.length (fun i => b.getD i 0)
  | [] => rfl
  | x :: b => by simp only [List.map_cons, List.length_cons, tab, tab_eq b]; rfl
/-- what did answers of a disk that is none -/
noncomputable abbrev dN (H : Heap) (d : Int) (n m : Int) (B : List (List V)) : Option Out := evCall (run dcfg 40) dcfg.pol H 39 12 [.nilp, .agg [.int .i64 d, .int .i64 n, .int .i64 m, .list B false]]
abbrev rN (e : Int) : Option Out := some ⟨.tup [.str [], .int .i64 e], [], []⟩
noncomputable abbrev dP (d : Int) (n m : Int) (B : List (List V)) : Option Out := evCall (run dcfg 40) dcfg.pol HL 39 12 [.ptr (.own 15) 0 0, .agg [.int .i64 d, .int .i64 n, .int .i64 m, .list B false]]
abbrev rP (e : Int) : Option Out := some ⟨.tup [.str [], .int .i64 e], [(.own 15, zblk)], [.own 15, .sub 39 (.arg 0)]⟩
def WN (n : Nat) : Prop := ∀ (H : Heap) (m : Int) (g : Nat → Int) (k : Nat), dN H 1 (Int.ofNat k) m (tab n g) = rN 1 ∧ dN H 1 (Int.negSucc k) m (tab n g) = rN 1
def WP (n : Nat) : Prop := ∀ (m : Int) (g : Nat → Int) (k : Nat), dP 1 (Int.ofNat k) m (tab n g) = rP 1 ∧ dP 1 (Int.negSucc k) m (tab n g) = rP 1
def upTo (P : Nat → Prop) : Nat → Prop
  | 0 => True
  | n + 1 => P n ∧ upTo P n
theorem upTo_get {P : Nat → Prop} : ∀ {n : Nat}, upTo P n → ∀ i, i < n → P i
  | n + 1, h, i, hi => by
    by_cases e : i = n
    · subst e; exact h.1
    · exact upTo_get h.2 i (by omega)
theorem wn0 : WN 0 := fun H m g k => ⟨by kernel_rfl, by kernel_rfl⟩
theorem wn1 : WN 1 := fun H m g k => ⟨by kernel_rfl, by kernel_rfl⟩
theorem wn2 : WN 2 := fun H m g k => ⟨by kernel_rfl, by kernel_rfl⟩
theorem wn3 : WN 3 := fun H m g k => ⟨by kernel_rfl, by kernel_rfl⟩
theorem wn4 : WN 4 := fun H m g k => ⟨by kernel_rfl, by kernel_rfl⟩
theorem wn5 : WN 5 := fun H m g k => ⟨by kernel_rfl, by kernel_rfl⟩
theorem wn6 : WN 6 := fun H m g k => ⟨by kernel_rfl, by kernel_rfl⟩
theorem wn7 : WN 7 := fun H m g k => ⟨by kernel_rfl, by kernel_rfl⟩
theorem wn8 : WN 8 := fun H m g k => ⟨by kernel_rfl, by kernel_rfl⟩
theorem wn9 : WN 9 := fun H m g k => ⟨by kernel_rfl, by kernel_rfl⟩
theorem wn10 : WN 10 := fun H m g k => ⟨by kernel_rfl, by kernel_rfl⟩
theorem wn11 : WN 11 := fun H m g k => ⟨by kernel_rfl, by kernel_rfl⟩
theorem wn12 : WN 12 := fun H m g k => ⟨by kernel_rfl, by kernel_rfl⟩
theorem wn13 : WN 13 := fun H m g k => ⟨by kernel_rfl, by kernel_rfl⟩
theorem wn14 : WN 14 := fun H m g k => ⟨by kernel_rfl, by kernel_rfl⟩
theorem wn15 : WN 15 := fun H m g k => ⟨by kernel_rfl, by kernel_rfl⟩
theorem wn16 : WN 16 := fun H m g k => ⟨by kernel_rfl, by kernel_rfl⟩
theorem wn17 : WN 17 := fun H m g k => ⟨by kernel_rfl, by kernel_rfl⟩
theorem wn18 : WN 18 := fun H m g k => ⟨by kernel_rfl, by kernel_rfl⟩
theorem wn19 : WN 19 := fun H m g k => ⟨by kernel_rfl, by kernel_rfl⟩
theorem wn20 : WN 20 := fun H m g k => ⟨by kernel_rfl, by kernel_rfl⟩
theorem wn21 : WN 21 := fun H m g k => ⟨by kernel_rfl, by kernel_rfl⟩
theorem wn22 : WN 22 := fun H m g k => ⟨by kernel_rfl, by kernel_rfl⟩
theorem wn23 : WN 23 := fun H m g k => ⟨by kernel_rfl, by kernel_rfl⟩
theorem wn24 : WN 24 := fun H m g k => ⟨by kernel_rfl, by kernel_rfl⟩
theorem wn25 : WN 25 := fun H m g k => ⟨by kernel_rfl, by kernel_rfl⟩
theorem wn26 : WN 26 := fun H m g k => ⟨by kernel_rfl, by kernel_rfl⟩
theorem wn27 : WN 27 := fun H m g k => ⟨by kernel_rfl, by kernel_rfl⟩
theorem wn28 : WN 28 := fun H m g k => ⟨by kernel_rfl, by kernel_rfl⟩
theorem wn29 : WN 29 := fun H m g k => ⟨by kernel_rfl, by kernel_rfl⟩
theorem wn30 : WN 30 := fun H m g k => ⟨by kernel_rfl, by kernel_rfl⟩
theorem wn31 : WN 31 := fun H m g k => ⟨by kernel_rfl, by kernel_rfl⟩
theorem wn32 : WN 32 := fun H m g k => ⟨by kernel_rfl, by kernel_rfl⟩
theorem wn33 : WN 33 := fun H m g k => ⟨by kernel_rfl, by kernel_rfl⟩
theorem wn34 : WN 34 := fun H m g k => ⟨by kernel_rfl, by kernel_rfl⟩
theorem wn35 : WN 35 := fun H m g k => ⟨by kernel_rfl, by kernel_rfl⟩
theorem wn36 : WN 36 := fun H m g k => ⟨by kernel_rfl, by kernel_rfl⟩
theorem wn37 : WN 37 := fun H m g k => ⟨by kernel_rfl, by kernel_rfl⟩
theorem wn38 : WN 38 := fun H m g k => ⟨by kernel_rfl, by kernel_rfl⟩
theorem wn39 : WN 39 := fun H m g k => ⟨by kernel_rfl, by kernel_rfl⟩
theorem wn40 : WN 40 := fun H m g k => ⟨by kernel_rfl, by kernel_rfl⟩
theorem wn41 : WN 41 := fun H m g k => ⟨by kernel_rfl, by kernel_rfl⟩
theorem wn42 : WN 42 := fun H m g k => ⟨by kernel_rfl, by kernel_rfl⟩
theorem wn43 : WN 43 := fun H m g k => ⟨by kernel_rfl, by kernel_rfl⟩
theorem wn44 : WN 44 := fun H m g k => ⟨by kernel_rfl, by kernel_rfl⟩
theorem wn45 : WN 45 := fun H m g k => ⟨by kernel_rfl, by kernel_rfl⟩
theorem wn46 : WN 46 := fun H m g k => ⟨by kernel_rfl, by kernel_rfl⟩
theorem wn47 : WN 47 := fun H m g k => ⟨by kernel_rfl, by kernel_rfl⟩
theorem wn48 : WN 48 := fun H m g k => ⟨by kernel_rfl, by kernel_rfl⟩
theorem wn49 : WN 49 := fun H m g k => ⟨by kernel_rfl, by kernel_rfl⟩
theorem wn50 : WN 50 := fun H m g k => ⟨by kernel_rfl, by kernel_rfl⟩
theorem wn51 : WN 51 := fun H m g k => ⟨by kernel_rfl, by kernel_rfl⟩
theorem wn52 : WN 52 := fun H m g k => ⟨by kernel_rfl, by kernel_rfl⟩
theorem wn53 : WN 53 := fun H m g k => ⟨by kernel_rfl, by kernel_rfl⟩
theorem wn54 : WN 54 := fun H m g k => ⟨by kernel_rfl, by kernel_rfl⟩
theorem wn55 : WN 55 := fun H m g k => ⟨by kernel_rfl, by kernel_rfl⟩
theorem wn56 : WN 56 := fun H m g k => ⟨by kernel_rfl, by kernel_rfl⟩
theorem wn57 : WN 57 := fun H m g k => ⟨by kernel_rfl, by kernel_rfl⟩
theorem wn58 : WN 58 := fun H m g k => ⟨by kernel_rfl, by kernel_rfl⟩
theorem wn59 : WN 59 := fun H m g k => ⟨by kernel_rfl, by kernel_rfl⟩
theorem wn60 : WN 60 := fun H m g k => ⟨by kernel_rfl, by kernel_rfl⟩
theorem wn61 : WN 61 := fun H m g k => ⟨by kernel_rfl, by kernel_rfl⟩
theorem wn62 : WN 62 := fun H m g k => ⟨by kernel_rfl, by kernel_rfl⟩
theorem wn63 : WN 63 := fun H m g k => ⟨by kernel_rfl, by kernel_rfl⟩
theorem wn64 : WN 64 := fun H m g k => ⟨by kernel_rfl, by kernel_rfl⟩
theorem wn65 : WN 65 := fun H m g k => ⟨by kernel_rfl, by kernel_rfl⟩
theorem wn66 : WN 66 := fun H m g k => ⟨by kernel_rfl, by kernel_rfl⟩
theorem wn67 : WN 67 := fun H m g k => ⟨by kernel_rfl, by kernel_rfl⟩
theorem wn68 : WN 68 := fun H m g k => ⟨by kernel_rfl, by kernel_rfl⟩
theorem wn69 : WN 69 := fun H m g k => ⟨by kernel_rfl, by kernel_rfl⟩
theorem wn70 : WN 70 := fun H m g k => ⟨by kernel_rfl, by kernel_rfl⟩
theorem wn71 : WN 71 := fun H m g k => ⟨by kernel_rfl, by kernel_rfl⟩
theorem wn72 : WN 72 := fun H m g k => ⟨by kernel_rfl, by kernel_rfl⟩
theorem wn73 : WN 73 := fun H m g k => ⟨by kernel_rfl, by kernel_rfl⟩
theorem wn74 : WN 74 := fun H m g k => ⟨by kernel_rfl, by kernel_rfl⟩
theorem wn75 : WN 75 := fun H m g k => ⟨by kernel_rfl, by kernel_rfl⟩
theorem wn76 : WN 76 := fun H m g k => ⟨by kernel_rfl, by kernel_rfl⟩
theorem wn77 : WN 77 := fun H m g k => ⟨by kernel_rfl, by kernel_rfl⟩
theorem wn78 : WN 78 := fun H m g k => ⟨by kernel_rfl, by kernel_rfl⟩
theorem wn79 : WN 79 := fun H m g k => ⟨by kernel_rfl, by kernel_rfl⟩
theorem wn80 : WN 80 := fun H m g k => ⟨by kernel_rfl, by kernel_rfl⟩
theorem wn81 : WN 81 := fun H m g k => ⟨by kernel_rfl, by kernel_rfl⟩
theorem wn82 : WN 82 := fun H m g k => ⟨by kernel_rfl, by kernel_rfl⟩
theorem wn83 : WN 83 := fun H m g k => ⟨by kernel_rfl, by kernel_rfl⟩
theorem wn84 : WN 84 := fun H m g k => ⟨by kernel_rfl, by kernel_rfl⟩
theorem wn85 : WN 85 := fun H m g k => ⟨by kernel_rfl, by kernel_rfl⟩
theorem wn86 : WN 86 := fun H m g k => ⟨by kernel_rfl, by kernel_rfl⟩
theorem wn87 : WN 87 := fun H m g k => ⟨by kernel_rfl, by kernel_rfl⟩
theorem wn88 : WN 88 := fun H m g k => ⟨by kernel_rfl, by kernel_rfl⟩
theorem wn89 : WN 89 := fun H m g k => ⟨by kernel_rfl, by kernel_rfl⟩
theorem wn90 : WN 90 := fun H m g k => ⟨by kernel_rfl, by kernel_rfl⟩
theorem wn91 : WN 91 := fun H m g k => ⟨by kernel_rfl, by kernel_rfl⟩
theorem wn92 : WN 92 := fun H m g k => ⟨by kernel_rfl, by kernel_rfl⟩
theorem wn93 : WN 93 := fun H m g k => ⟨by kernel_rfl, by kernel_rfl⟩
theorem wn94 : WN 94 := fun H m g k => ⟨by kernel_rfl, by kernel_rfl⟩
theorem wn95 : WN 95 := fun H m g k => ⟨by kernel_rfl, by kernel_rfl⟩
theorem wn96 : WN 96 := fun H m g k => ⟨by kernel_rfl, by kernel_rfl⟩
theorem wn97 : WN 97 := fun H m g k => ⟨by kernel_rfl, by kernel_rfl⟩
theorem wn98 : WN 98 := fun H m g k => ⟨by kernel_rfl, by kernel_rfl⟩
theorem wn99 : WN 99 := fun H m g k => ⟨by kernel_rfl, by kernel_rfl⟩
theorem wn100 : WN 100 := fun H m g k => ⟨by kernel_rfl, by kernel_rfl⟩
theorem wn101 : WN 101 := fun H m g k => ⟨by kernel_rfl, by kernel_rfl⟩
theorem wn102 : WN 102 := fun H m g k => ⟨by kernel_rfl, by kernel_rfl⟩
theorem wn103 : WN 103 := fun H m g k => ⟨by kernel_rfl, by kernel_rfl⟩
theorem wn104 : WN 104 := fun H m g k => ⟨by kernel_rfl, by kernel_rfl⟩
theorem wn105 : WN 105 := fun H m g k => ⟨by kernel_rfl, by kernel_rfl⟩
theorem wn106 : WN 106 := fun H m g k => ⟨by kernel_rfl, by kernel_rfl⟩
theorem wn107 : WN 107 := fun H m g k => ⟨by kernel_rfl, by kernel_rfl⟩
theorem wn108 : WN 108 := fun H m g k => ⟨by kernel_rfl, by kernel_rfl⟩
theorem wn109 : WN 109 := fun H m g k => ⟨by kernel_rfl, by kernel_rfl⟩
theorem wn110 : WN 110 := fun H m g k => ⟨by kernel_rfl, by kernel_rfl⟩
theorem wn111 : WN 111 := fun H m g k => ⟨by kernel_rfl, by kernel_rfl⟩
theorem wn112 : WN 112 := fun H m g k => ⟨by kernel_rfl, by kernel_rfl⟩
theorem wn113 : WN 113 := fun H m g k => ⟨by kernel_rfl, by kernel_rfl⟩
theorem wn114 : WN 114 := fun H m g k => ⟨by kernel_rfl, by kernel_rfl⟩
theorem wn115 : WN 115 := fun H m g k => ⟨by kernel_rfl, by kernel_rfl⟩
theorem wn116 : WN 116 := fun H m g k => ⟨by kernel_rfl, by kernel_rfl⟩
theorem wn117 : WN 117 := fun H m g k => ⟨by kernel_rfl, by kernel_rfl⟩
theorem wn118 : WN 118 := fun H m g k => ⟨by kernel_rfl, by kernel_rfl⟩
theorem wn119 : WN 119 := fun H m g k => ⟨by kernel_rfl, by kernel_rfl⟩
theorem wn120 : WN 120 := fun H m g k => ⟨by kernel_rfl, by kernel_rfl⟩
theorem wn121 : WN 121 := fun H m g k => ⟨by kernel_rfl, by kernel_rfl⟩
theorem wn122 : WN 122 := fun H m g k => ⟨by kernel_rfl, by kernel_rfl⟩
theorem wn123 : WN 123 := fun H m g k => ⟨by kernel_rfl, by kernel_rfl⟩
theorem wn124 : WN 124 := fun H m g k => ⟨by kernel_rfl, by kernel_rfl⟩
theorem wn125 : WN 125 := fun H m g k => ⟨by kernel_rfl, by kernel_rfl⟩
theorem wn126 : WN 126 := fun H m g k => ⟨by kernel_rfl, by kernel_rfl⟩
theorem wn127 : WN 127 := fun H m g k => ⟨by kernel_rfl, by kernel_rfl⟩
theorem wn128 : WN 128 := fun H m g k => ⟨by kernel_rfl, by kernel_rfl⟩
theorem wn129 : WN 129 := fun H m g k => ⟨by kernel_rfl, by kernel_rfl⟩
theorem wn130 : WN 130 := fun H m g k => ⟨by kernel_rfl, by kernel_rfl⟩
theorem wn131 : WN 131 := fun H m g k => ⟨by kernel_rfl, by kernel_rfl⟩
theorem wn132 : WN 132 := fun H m g k => ⟨by kernel_rfl, by kernel_rfl⟩
theorem wn133 : WN 133 := fun H m g k => ⟨by kernel_rfl, by kernel_rfl⟩
theorem wn134 : WN 134 := fun H m g k => ⟨by kernel_rfl, by kernel_rfl⟩
theorem wn135 : WN 135 := fun H m g k => ⟨by kernel_rfl, by kernel_rfl⟩
theorem wn136 : WN 136 := fun H m g k => ⟨by kernel_rfl, by kernel_rfl⟩
theorem wn137 : WN 137 := fun H m g k => ⟨by kernel_rfl, by kernel_rfl⟩
theorem wn138 : WN 138 := fun H m g k => ⟨by kernel_rfl, by kernel_rfl⟩
theorem wn139 : WN 139 := fun H m g k => ⟨by kernel_rfl, by kernel_rfl⟩
theorem wn140 : WN 140 := fun H m g k => ⟨by kernel_rfl, by kernel_rfl⟩
theorem wn141 : WN 141 := fun H m g k => ⟨by kernel_rfl, by kernel_rfl⟩
theorem wn142 : WN 142 := fun H m g k => ⟨by kernel_rfl, by kernel_rfl⟩
theorem wn143 : WN 143 := fun H m g k => ⟨by kernel_rfl, by kernel_rfl⟩
theorem wn144 : WN 144 := fun H m g k => ⟨by kernel_rfl, by kernel_rfl⟩
theorem wn145 : WN 145 := fun H m g k => ⟨by kernel_rfl, by kernel_rfl⟩
theorem wn146 : WN 146 := fun H m g k => ⟨by kernel_rfl, by kernel_rfl⟩
theorem wn147 : WN 147 := fun H m g k => ⟨by kernel_rfl, by kernel_rfl⟩
theorem wn148 : WN 148 := fun H m g k => ⟨by kernel_rfl, by kernel_rfl⟩
theorem wn149 : WN 149 := fun H m g k => ⟨by kernel_rfl, by kernel_rfl⟩
theorem wn150 : WN 150 := fun H m g k => ⟨by kernel_rfl, by kernel_rfl⟩
theorem wn151 : WN 151 := fun H m g k => ⟨by kernel_rfl, by kernel_rfl⟩
theorem wn152 : WN 152 := fun H m g k => ⟨by kernel_rfl, by kernel_rfl⟩
theorem wn153 : WN 153 := fun H m g k => ⟨by kernel_rfl, by kernel_rfl⟩
theorem wn154 : WN 154 := fun H m g k => ⟨by kernel_rfl, by kernel_rfl⟩
theorem wn155 : WN 155 := fun H m g k => ⟨by kernel_rfl, by kernel_rfl⟩
theorem wn156 : WN 156 := fun H m g k => ⟨by kernel_rfl, by kernel_rfl⟩
theorem wn157 : WN 157 := fun H m g k => ⟨by kernel_rfl, by kernel_rfl⟩
theorem wn158 : WN 158 := fun H m g k => ⟨by kernel_rfl, by kernel_rfl⟩
theorem wn159 : WN 159 := fun H m g k => ⟨by kernel_rfl, by kernel_rfl⟩
theorem wn160 : WN 160 := fun H m g k => ⟨by kernel_rfl, by kernel_rfl⟩
theorem wn161 : WN 161 := fun H m g k => ⟨by kernel_rfl, by kernel_rfl⟩
theorem wn162 : WN 162 := fun H m g k => ⟨by kernel_rfl, by kernel_rfl⟩
theorem wn163 : WN 163 := fun H m g k => ⟨by kernel_rfl, by kernel_rfl⟩
theorem wn164 : WN 164 := fun H m g k => ⟨by kernel_rfl, by kernel_rfl⟩
theorem wn165 : WN 165 := fun H m g k => ⟨by kernel_rfl, by kernel_rfl⟩
theorem wn166 : WN 166 := fun H m g k => ⟨by kernel_rfl, by kernel_rfl⟩
theorem wn167 : WN 167 := fun H m g k => ⟨by kernel_rfl, by kernel_rfl⟩
theorem wn168 : WN 168 := fun H m g k => ⟨by kernel_rfl, by kernel_rfl⟩
theorem wn169 : WN 169 := fun H m g k => ⟨by kernel_rfl, by kernel_rfl⟩
theorem wn170 : WN 170 := fun H m g k => ⟨by kernel_rfl, by kernel_rfl⟩
theorem wn171 : WN 171 := fun H m g k => ⟨by kernel_rfl, by kernel_rfl⟩
theorem wn172 : WN 172 := fun H m g k => ⟨by kernel_rfl, by kernel_rfl⟩
theorem wn173 : WN 173 := fun H m g k => ⟨by kernel_rfl, by kernel_rfl⟩
theorem wn174 : WN 174 := fun H m g k => ⟨by kernel_rfl, by kernel_rfl⟩
theorem wn175 : WN 175 := fun H m g k => ⟨by kernel_rfl, by kernel_rfl⟩
theorem wn176 : WN 176 := fun H m g k => ⟨by kernel_rfl, by kernel_rfl⟩
theorem wn177 : WN 177 := fun H m g k => ⟨by kernel_rfl, by kernel_rfl⟩
theorem wn178 : WN 178 := fun H m g k => ⟨by kernel_rfl, by kernel_rfl⟩
theorem wn179 : WN 179 := fun H m g k => ⟨by kernel_rfl, by kernel_rfl⟩
theorem wn180 : WN 180 := fun H m g k => ⟨by kernel_rfl, by kernel_rfl⟩
theorem wn181 : WN 181 := fun H m g k => ⟨by kernel_rfl, by kernel_rfl⟩
theorem wn182 : WN 182 := fun H m g k => ⟨by kernel_rfl, by kernel_rfl⟩
theorem wn183 : WN 183 := fun H m g k => ⟨by kernel_rfl, by kernel_rfl⟩
theorem wn184 : WN 184 := fun H m g k => ⟨by kernel_rfl, by kernel_rfl⟩
theorem wn185 : WN 185 := fun H m g k => ⟨by kernel_rfl, by kernel_rfl⟩
theorem wn186 : WN 186 := fun H m g k => ⟨by kernel_rfl, by kernel_rfl⟩
theorem wn187 : WN 187 := fun H m g k => ⟨by kernel_rfl, by kernel_rfl⟩
theorem wn188 : WN 188 := fun H m g k => ⟨by kernel_rfl, by kernel_rfl⟩
theorem wn189 : WN 189 := fun H m g k => ⟨by kernel_rfl, by kernel_rfl⟩
theorem wn190 : WN 190 := fun H m g k => ⟨by kernel_rfl, by kernel_rfl⟩
theorem wn191 : WN 191 := fun H m g k => ⟨by kernel_rfl, by kernel_rfl⟩
theorem wn192 : WN 192 := fun H m g k => ⟨by kernel_rfl, by kernel_rfl⟩
theorem wn193 : WN 193 := fun H m g k => ⟨by kernel_rfl, by kernel_rfl⟩
theorem wn194 : WN 194 := fun H m g k => ⟨by kernel_rfl, by kernel_rfl⟩
theorem wn195 : WN 195 := fun H m g k => ⟨by kernel_rfl, by kernel_rfl⟩
theorem wn196 : WN 196 := fun H m g k => ⟨by kernel_rfl, by kernel_rfl⟩
theorem wn197 : WN 197 := fun H m g k => ⟨by kernel_rfl, by kernel_rfl⟩
theorem wn198 : WN 198 := fun H m g k => ⟨by kernel_rfl, by kernel_rfl⟩
theorem wn199 : WN 199 := fun H m g k => ⟨by kernel_rfl, by kernel_rfl⟩
theorem wn200 : WN 200 := fun H m g k => ⟨by kernel_rfl, by kernel_rfl⟩
theorem wp0 : WP 0 := fun m g k => ⟨by kernel_rfl, by kernel_rfl⟩
theorem wp1 : WP 1 := fun m g k => ⟨by kernel_rfl, by kernel_rfl⟩
theorem wp2 : WP 2 := fun m g k => ⟨by kernel_rfl, by kernel_rfl⟩
theorem wp3 : WP 3 := fun m g k => ⟨by kernel_rfl, by kernel_rfl⟩
theorem wp4 : WP 4 := fun m g k => ⟨by kernel_rfl, by kernel_rfl⟩
theorem wp5 : WP 5 := fun m g k => ⟨by kernel_rfl, by kernel_rfl⟩
theorem wp6 : WP 6 := fun m g k => ⟨by kernel_rfl, by kernel_rfl⟩
theorem wp7 : WP 7 := fun m g k => ⟨by kernel_rfl, by kernel_rfl⟩
theorem wp8 : WP 8 := fun m g k => ⟨by kernel_rfl, by kernel_rfl⟩
theorem wp9 : WP 9 := fun m g k => ⟨by kernel_rfl, by kernel_rfl⟩
theorem wp10 : WP 10 := fun m g k => ⟨by kernel_rfl, by kernel_rfl⟩
theorem wp11 : WP 11 := fun m g k => ⟨by kernel_rfl, by kernel_rfl⟩
theorem wp12 : WP 12 := fun m g k => ⟨by kernel_rfl, by kernel_rfl⟩
theorem wp13 : WP 13 := fun m g k => ⟨by kernel_rfl, by kernel_rfl⟩
theorem wp14 : WP 14 := fun m g k => ⟨by kernel_rfl, by kernel_rfl⟩
theorem wp15 : WP 15 := fun m g k => ⟨by kernel_rfl, by kernel_rfl⟩
theorem wp16 : WP 16 := fun m g k => ⟨by kernel_rfl, by kernel_rfl⟩
theorem wp17 : WP 17 := fun m g k => ⟨by kernel_rfl, by kernel_rfl⟩
theorem wp18 : WP 18 := fun m g k => ⟨by kernel_rfl, by kernel_rfl⟩
theorem wp19 : WP 19 := fun m g k => ⟨by kernel_rfl, by kernel_rfl⟩
theorem wp20 : WP 20 := fun m g k => ⟨by kernel_rfl, by kernel_rfl⟩
theorem wp21 : WP 21 := fun m g k => ⟨by kernel_rfl, by kernel_rfl⟩
theorem wp22 : WP 22 := fun m g k => ⟨by kernel_rfl, by kernel_rfl⟩
theorem wp23 : WP 23 := fun m g k => ⟨by kernel_rfl, by kernel_rfl⟩
theorem wp24 : WP 24 := fun m g k => ⟨by kernel_rfl, by kernel_rfl⟩
theorem wp25 : WP 25 := fun m g k => ⟨by kernel_rfl, by kernel_rfl⟩
theorem wp26 : WP 26 := fun m g k => ⟨by kernel_rfl, by kernel_rfl⟩
theorem wp27 : WP 27 := fun m g k => ⟨by kernel_rfl, by kernel_rfl⟩
theorem wp28 : WP 28 := fun m g k => ⟨by kernel_rfl, by kernel_rfl⟩
theorem wp29 : WP 29 := fun m g k => ⟨by kernel_rfl, by kernel_rfl⟩
theorem wp30 : WP 30 := fun m g k => ⟨by kernel_rfl, by kernel_rfl⟩
theorem wp31 : WP 31 := fun m g k => ⟨by kernel_rfl, by kernel_rfl⟩
theorem wp32 : WP 32 := fun m g k => ⟨by kernel_rfl, by kernel_rfl⟩
theorem wp33 : WP 33 := fun m g k => ⟨by kernel_rfl, by kernel_rfl⟩
theorem wp34 : WP 34 := fun m g k => ⟨by kernel_rfl, by kernel_rfl⟩
theorem wp35 : WP 35 := fun m g k => ⟨by kernel_rfl, by kernel_rfl⟩
theorem wp36 : WP 36 := fun m g k => ⟨by kernel_rfl, by kernel_rfl⟩
theorem wp37 : WP 37 := fun m g k => ⟨by kernel_rfl, by kernel_rfl⟩
theorem wp38 : WP 38 := fun m g k => ⟨by kernel_rfl, by kernel_rfl⟩
theorem wp39 : WP 39 := fun m g k => ⟨by kernel_rfl, by kernel_rfl⟩
theorem wp40 : WP 40 := fun m g k => ⟨by kernel_rfl, by kernel_rfl⟩
theorem wp41 : WP 41 := fun m g k => ⟨by kernel_rfl, by kernel_rfl⟩
theorem wp42 : WP 42 := fun m g k => ⟨by kernel_rfl, by kernel_rfl⟩
theorem wp43 : WP 43 := fun m g k => ⟨by kernel_rfl, by kernel_rfl⟩
theorem wp44 : WP 44 := fun m g k => ⟨by kernel_rfl, by kernel_rfl⟩
theorem wp45 : WP 45 := fun m g k => ⟨by kernel_rfl, by kernel_rfl⟩
theorem wp46 : WP 46 := fun m g k => ⟨by kernel_rfl, by kernel_rfl⟩
theorem wp47 : WP 47 := fun m g k => ⟨by kernel_rfl, by kernel_rfl⟩
theorem wp48 : WP 48 := fun m g k => ⟨by kernel_rfl, by kernel_rfl⟩
theorem wp49 : WP 49 := fun m g k => ⟨by kernel_rfl, by kernel_rfl⟩
theorem wp50 : WP 50 := fun m g k => ⟨by kernel_rfl, by kernel_rfl⟩
theorem wp51 : WP 51 := fun m g k => ⟨by kernel_rfl, by kernel_rfl⟩
theorem wp52 : WP 52 := fun m g k => ⟨by kernel_rfl, by kernel_rfl⟩
theorem wp53 : WP 53 := fun m g k => ⟨by kernel_rfl, by kernel_rfl⟩
theorem wp54 : WP 54 := fun m g k => ⟨by kernel_rfl, by kernel_rfl⟩
theorem wp55 : WP 55 := fun m g k => ⟨by kernel_rfl, by kernel_rfl⟩
theorem wp56 : WP 56 := fun m g k => ⟨by kernel_rfl, by kernel_rfl⟩
theorem wp57 : WP 57 := fun m g k => ⟨by kernel_rfl, by kernel_rfl⟩
theorem wp58 : WP 58 := fun m g k => ⟨by kernel_rfl, by kernel_rfl⟩
theorem wp59 : WP 59 := fun m g k => ⟨by kernel_rfl, by kernel_rfl⟩
theorem wp60 : WP 60 := fun m g k => ⟨by kernel_rfl, by kernel_rfl⟩
theorem wp61 : WP 61 := fun m g k => ⟨by kernel_rfl, by kernel_rfl⟩
theorem wp62 : WP 62 := fun m g k => ⟨by kernel_rfl, by kernel_rfl⟩
theorem wp63 : WP 63 := fun m g k => ⟨by kernel_rfl, by kernel_rfl⟩
theorem wp64 : WP 64 := fun m g k => ⟨by kernel_rfl, by kernel_rfl⟩
theorem wp65 : WP 65 := fun m g k => ⟨by kernel_rfl, by kernel_rfl⟩
theorem wp66 : WP 66 := fun m g k => ⟨by kernel_rfl, by kernel_rfl⟩
theorem wp67 : WP 67 := fun m g k => ⟨by kernel_rfl, by kernel_rfl⟩
theorem wp68 : WP 68 := fun m g k => ⟨by kernel_rfl, by kernel_rfl⟩
theorem wp69 : WP 69 := fun m g k => ⟨by kernel_rfl, by kernel_rfl⟩
theorem wp70 : WP 70 := fun m g k => ⟨by kernel_rfl, by kernel_rfl⟩
theorem wp71 : WP 71 := fun m g k => ⟨by kernel_rfl, by kernel_rfl⟩
theorem wp72 : WP 72 := fun m g k => ⟨by kernel_rfl, by kernel_rfl⟩
theorem wp73 : WP 73 := fun m g k => ⟨by kernel_rfl, by kernel_rfl⟩
theorem wp74 : WP 74 := fun m g k => ⟨by kernel_rfl, by kernel_rfl⟩
theorem wp75 : WP 75 := fun m g k => ⟨by kernel_rfl, by kernel_rfl⟩
theorem wp76 : WP 76 := fun m g k => ⟨by kernel_rfl, by kernel_rfl⟩
theorem wp77 : WP 77 := fun m g k => ⟨by kernel_rfl, by kernel_rfl⟩
theorem wp78 : WP 78 := fun m g k => ⟨by kernel_rfl, by kernel_rfl⟩
theorem wp79 : WP 79 := fun m g k => ⟨by kernel_rfl, by kernel_rfl⟩
theorem wp80 : WP 80 := fun m g k => ⟨by kernel_rfl, by kernel_rfl⟩
theorem wp81 : WP 81 := fun m g k => ⟨by kernel_rfl, by kernel_rfl⟩
theorem wp82 : WP 82 := fun m g k => ⟨by kernel_rfl, by kernel_rfl⟩
theorem wp83 : WP 83 := fun m g k => ⟨by kernel_rfl, by kernel_rfl⟩
theorem wp84 : WP 84 := fun m g k => ⟨by kernel_rfl, by kernel_rfl⟩
theorem wp85 : WP 85 := fun m g k => ⟨by kernel_rfl, by kernel_rfl⟩
theorem wp86 : WP 86 := fun m g k => ⟨by kernel_rfl, by kernel_rfl⟩
theorem wp87 : WP 87 := fun m g k => ⟨by kernel_rfl, by kernel_rfl⟩
theorem wp88 : WP 88 := fun m g k => ⟨by kernel_rfl, by kernel_rfl⟩
theorem wp89 : WP 89 := fun m g k => ⟨by kernel_rfl, by kernel_rfl⟩
theorem wp90 : WP 90 := fun m g k => ⟨by kernel_rfl, by kernel_rfl⟩
theorem wp91 : WP 91 := fun m g k => ⟨by kernel_rfl, by kernel_rfl⟩
theorem wp92 : WP 92 := fun m g k => ⟨by kernel_rfl, by kernel_rfl⟩
theorem wp93 : WP 93 := fun m g k => ⟨by kernel_rfl, by kernel_rfl⟩
theorem wp94 : WP 94 := fun m g k => ⟨by kernel_rfl, by kernel_rfl⟩
theorem wp95 : WP 95 := fun m g k => ⟨by kernel_rfl, by kernel_rfl⟩
theorem wp96 : WP 96 := fun m g k => ⟨by kernel_rfl, by kernel_rfl⟩
theorem wp97 : WP 97 := fun m g k => ⟨by kernel_rfl, by kernel_rfl⟩
theorem wp98 : WP 98 := fun m g k => ⟨by kernel_rfl, by kernel_rfl⟩
theorem wp99 : WP 99 := fun m g k => ⟨by kernel_rfl, by kernel_rfl⟩
theorem wp100 : WP 100 := fun m g k => ⟨by kernel_rfl, by kernel_rfl⟩
theorem wp101 : WP 101 := fun m g k => ⟨by kernel_rfl, by kernel_rfl⟩
theorem wp102 : WP 102 := fun m g k => ⟨by kernel_rfl, by kernel_rfl⟩
theorem wp103 : WP 103 := fun m g k => ⟨by kernel_rfl, by kernel_rfl⟩
theorem wp104 : WP 104 := fun m g k => ⟨by kernel_rfl, by kernel_rfl⟩
theorem wp105 : WP 105 := fun m g k => ⟨by kernel_rfl, by kernel_rfl⟩
theorem wp106 : WP 106 := fun m g k => ⟨by kernel_rfl, by kernel_rfl⟩
theorem wp107 : WP 107 := fun m g k => ⟨by kernel_rfl, by kernel_rfl⟩
theorem wp108 : WP 108 := fun m g k => ⟨by kernel_rfl, by kernel_rfl⟩
theorem wp109 : WP 109 := fun m g k => ⟨by kernel_rfl, by kernel_rfl⟩
theorem wp110 : WP 110 := fun m g k => ⟨by kernel_rfl, by kernel_rfl⟩
theorem wp111 : WP 111 := fun m g k => ⟨by kernel_rfl, by kernel_rfl⟩
theorem wp112 : WP 112 := fun m g k => ⟨by kernel_rfl, by kernel_rfl⟩
theorem wp113 : WP 113 := fun m g k => ⟨by kernel_rfl, by kernel_rfl⟩
theorem wp114 : WP 114 := fun m g k => ⟨by kernel_rfl, by kernel_rfl⟩
theorem wp115 : WP 115 := fun m g k => ⟨by kernel_rfl, by kernel_rfl⟩
theorem wp116 : WP 116 := fun m g k => ⟨by kernel_rfl, by kernel_rfl⟩
theorem wp117 : WP 117 := fun m g k => ⟨by kernel_rfl, by kernel_rfl⟩
theorem wp118 : WP 118 := fun m g k => ⟨by kernel_rfl, by kernel_rfl⟩
theorem wp119 : WP 119 := fun m g k => ⟨by kernel_rfl, by kernel_rfl⟩
theorem wp120 : WP 120 := fun m g k => ⟨by kernel_rfl, by kernel_rfl⟩
theorem wp121 : WP 121 := fun m g k => ⟨by kernel_rfl, by kernel_rfl⟩
theorem wp122 : WP 122 := fun m g k => ⟨by kernel_rfl, by kernel_rfl⟩
theorem wp123 : WP 123 := fun m g k => ⟨by kernel_rfl, by kernel_rfl⟩
theorem wp124 : WP 124 := fun m g k => ⟨by kernel_rfl, by kernel_rfl⟩
theorem wp125 : WP 125 := fun m g k => ⟨by kernel_rfl, by kernel_rfl⟩
theorem wp126 : WP 126 := fun m g k => ⟨by kernel_rfl, by kernel_rfl⟩
theorem wp127 : WP 127 := fun m g k => ⟨by kernel_rfl, by kernel_rfl⟩
theorem wp128 : WP 128 := fun m g k => ⟨by kernel_rfl, by kernel_rfl⟩
theorem wp129 : WP 129 := fun m g k => ⟨by kernel_rfl, by kernel_rfl⟩
theorem wp130 : WP 130 := fun m g k => ⟨by kernel_rfl, by kernel_rfl⟩
theorem wp131 : WP 131 := fun m g k => ⟨by kernel_rfl, by kernel_rfl⟩
theorem wp132 : WP 132 := fun m g k => ⟨by kernel_rfl, by kernel_rfl⟩
theorem wp133 : WP 133 := fun m g k => ⟨by kernel_rfl, by kernel_rfl⟩
theorem wp134 : WP 134 := fun m g k => ⟨by kernel_rfl, by kernel_rfl⟩
theorem wp135 : WP 135 := fun m g k => ⟨by kernel_rfl, by kernel_rfl⟩
theorem wp136 : WP 136 := fun m g k => ⟨by kernel_rfl, by kernel_rfl⟩
theorem wp137 : WP 137 := fun m g k => ⟨by kernel_rfl, by kernel_rfl⟩
theorem wp138 : WP 138 := fun m g k => ⟨by kernel_rfl, by kernel_rfl⟩
theorem wp139 : WP 139 := fun m g k => ⟨by kernel_rfl, by kernel_rfl⟩
theorem wp140 : WP 140 := fun m g k => ⟨by kernel_rfl, by kernel_rfl⟩
theorem wp141 : WP 141 := fun m g k => ⟨by kernel_rfl, by kernel_rfl⟩
theorem wp142 : WP 142 := fun m g k => ⟨by kernel_rfl, by kernel_rfl⟩
theorem wp143 : WP 143 := fun m g k => ⟨by kernel_rfl, by kernel_rfl⟩
theorem wp144 : WP 144 := fun m g k => ⟨by kernel_rfl, by kernel_rfl⟩
theorem wp145 : WP 145 := fun m g k => ⟨by kernel_rfl, by kernel_rfl⟩
theorem wp146 : WP 146 := fun m g k => ⟨by kernel_rfl, by kernel_rfl⟩
theorem wp147 : WP 147 := fun m g k => ⟨by kernel_rfl, by kernel_rfl⟩
theorem wp148 : WP 148 := fun m g k => ⟨by kernel_rfl, by kernel_rfl⟩
theorem wp149 : WP 149 := fun m g k => ⟨by kernel_rfl, by kernel_rfl⟩
theorem wp150 : WP 150 := fun m g k => ⟨by kernel_rfl, by kernel_rfl⟩
theorem wp151 : WP 151 := fun m g k => ⟨by kernel_rfl, by kernel_rfl⟩
theorem wp152 : WP 152 := fun m g k => ⟨by kernel_rfl, by kernel_rfl⟩
theorem wp153 : WP 153 := fun m g k => ⟨by kernel_rfl, by kernel_rfl⟩
theorem wp154 : WP 154 := fun m g k => ⟨by kernel_rfl, by kernel_rfl⟩
theorem wp155 : WP 155 := fun m g k => ⟨by kernel_rfl, by kernel_rfl⟩
theorem wp156 : WP 156 := fun m g k => ⟨by kernel_rfl, by kernel_rfl⟩
theorem wp157 : WP 157 := fun m g k => ⟨by kernel_rfl, by kernel_rfl⟩
theorem wp158 : WP 158 := fun m g k => ⟨by kernel_rfl, by kernel_rfl⟩
theorem wp159 : WP 159 := fun m g k => ⟨by kernel_rfl, by kernel_rfl⟩
theorem wp160 : WP 160 := fun m g k => ⟨by kernel_rfl, by kernel_rfl⟩
theorem wp161 : WP 161 := fun m g k => ⟨by kernel_rfl, by kernel_rfl⟩
theorem wp162 : WP 162 := fun m g k => ⟨by kernel_rfl, by kernel_rfl⟩
theorem wp163 : WP 163 := fun m g k => ⟨by kernel_rfl, by kernel_rfl⟩
theorem wp164 : WP 164 := fun m g k => ⟨by kernel_rfl, by kernel_rfl⟩
theorem wp165 : WP 165 := fun m g k => ⟨by kernel_rfl, by kernel_rfl⟩
theorem wp166 : WP 166 := fun m g k => ⟨by kernel_rfl, by kernel_rfl⟩
theorem wp167 : WP 167 := fun m g k => ⟨by kernel_rfl, by kernel_rfl⟩
theorem wp168 : WP 168 := fun m g k => ⟨by kernel_rfl, by kernel_rfl⟩
theorem wp169 : WP 169 := fun m g k => ⟨by kernel_rfl, by kernel_rfl⟩
theorem wp170 : WP 170 := fun m g k => ⟨by kernel_rfl, by kernel_rfl⟩
theorem wp171 : WP 171 := fun m g k => ⟨by kernel_rfl, by kernel_rfl⟩
theorem wp172 : WP 172 := fun m g k => ⟨by kernel_rfl, by kernel_rfl⟩
theorem wp173 : WP 173 := fun m g k => ⟨by kernel_rfl, by kernel_rfl⟩
theorem wp174 : WP 174 := fun m g k => ⟨by kernel_rfl, by kernel_rfl⟩
theorem wp175 : WP 175 := fun m g k => ⟨by kernel_rfl, by kernel_rfl⟩
theorem wp176 : WP 176 := fun m g k => ⟨by kernel_rfl, by kernel_rfl⟩
theorem wp177 : WP 177 := fun m g k => ⟨by kernel_rfl, by kernel_rfl⟩
theorem wp178 : WP 178 := fun m g k => ⟨by kernel_rfl, by kernel_rfl⟩
theorem wp179 : WP 179 := fun m g k => ⟨by kernel_rfl, by kernel_rfl⟩
theorem wp180 : WP 180 := fun m g k => ⟨by kernel_rfl, by kernel_rfl⟩
theorem wp181 : WP 181 := fun m g k => ⟨by kernel_rfl, by kernel_rfl⟩
theorem wp182 : WP 182 := fun m g k => ⟨by kernel_rfl, by kernel_rfl⟩
theorem wp183 : WP 183 := fun m g k => ⟨by kernel_rfl, by kernel_rfl⟩
theorem wp184 : WP 184 := fun m g k => ⟨by kernel_rfl, by kernel_rfl⟩
theorem wp185 : WP 185 := fun m g k => ⟨by kernel_rfl, by kernel_rfl⟩
theorem wp186 : WP 186 := fun m g k => ⟨by kernel_rfl, by kernel_rfl⟩
theorem wp187 : WP 187 := fun m g k => ⟨by kernel_rfl, by kernel_rfl⟩
theorem wp188 : WP 188 := fun m g k => ⟨by kernel_rfl, by kernel_rfl⟩
theorem wp189 : WP 189 := fun m g k => ⟨by kernel_rfl, by kernel_rfl⟩
theorem wp190 : WP 190 := fun m g k => ⟨by kernel_rfl, by kernel_rfl⟩
theorem wp191 : WP 191 := fun m g k => ⟨by kernel_rfl, by kernel_rfl⟩
theorem wp192 : WP 192 := fun m g k => ⟨by kernel_rfl, by kernel_rfl⟩
theorem wp193 : WP 193 := fun m g k => ⟨by kernel_rfl, by kernel_rfl⟩
theorem wp194 : WP 194 := fun m g k => ⟨by kernel_rfl, by kernel_rfl⟩
theorem wp195 : WP 195 := fun m g k => ⟨by kernel_rfl, by kernel_rfl⟩
theorem wp196 : WP 196 := fun m g k => ⟨by kernel_rfl, by kernel_rfl⟩
theorem wp197 : WP 197 := fun m g k => ⟨by kernel_rfl, by kernel_rfl⟩
theorem wp198 : WP 198 := fun m g k => ⟨by kernel_rfl, by kernel_rfl⟩
theorem wp199 : WP 199 := fun m g k => ⟨by kernel_rfl, by kernel_rfl⟩
theorem wp200 : WP 200 := fun m g k => ⟨by kernel_rfl, by kernel_rfl⟩
theorem wn : upTo WN 201 := ⟨wn200, wn199, wn198, wn197, wn196, wn195, wn194, wn193, wn192, wn191, wn190, wn189, wn188, wn187, wn186, wn185, wn184, wn183, wn182, wn181, wn180, wn179, wn178, wn177, wn176, wn175, wn174, wn173, wn172, wn171, wn170, wn169, wn168, wn167, wn166, wn165, wn164, wn163, wn162, wn161, wn160, wn159, wn158, wn157, wn156, wn155, wn154, wn153, wn152, wn151, wn150, wn149, wn148, wn147, wn146, wn145, wn144, wn143, wn142, wn141, wn140, wn139, wn138, wn137, wn136, wn135, wn134, wn133, wn132, wn131, wn130, wn129, wn128, wn127, wn126, wn125, wn124, wn123, wn122, wn121, wn120, wn119, wn118, wn117, wn116, wn115, wn114, wn113, wn112, wn111, wn110, wn109, wn108, wn107, wn106, wn105, wn104, wn103, wn102, wn101, wn100, wn99, wn98, wn97, wn96, wn95, wn94, wn93, wn92, wn91, wn90, wn89, wn88, wn87, wn86, wn85, wn84, wn83, wn82, wn81, wn80, wn79, wn78, wn77, wn76, wn75, wn74, wn73, wn72, wn71, wn70, wn69, wn68, wn67, wn66, wn65, wn64, wn63, wn62, wn61, wn60, wn59, wn58, wn57, wn56, wn55, wn54, wn53, wn52, wn51, wn50, wn49, wn48, wn47, wn46, wn45, wn44, wn43, wn42, wn41, wn40, wn39, wn38, wn37, wn36, wn35, wn34, wn33, wn32, wn31, wn30, wn29, wn28, wn27, wn26, wn25, wn24, wn23, wn22, wn21, wn20, wn19, wn18, wn17, wn16, wn15, wn14, wn13, wn12, wn11, wn10, wn9, wn8, wn7, wn6, wn5, wn4, wn3, wn2, wn1, wn0, trivial⟩
theorem wp : upTo WP 201 := ⟨wp200, wp199, wp198, wp197, wp196, wp195, wp194, wp193, wp192, wp191, wp190, wp189, wp188, wp187, wp186, wp185, wp184, wp183, wp182, wp181, wp180, wp179, wp178, wp177, wp176, wp175, wp174, wp173, wp172, wp171, wp170, wp169, wp168, wp167, wp166, wp165, wp164, wp163, wp162, wp161, wp160, wp159, wp158, wp157, wp156, wp155, wp154, wp153, wp152, wp151, wp150, wp149, wp148, wp147, wp146, wp145, wp144, wp143, wp142, wp141, wp140, wp139, wp138, wp137, wp136, wp135, wp134, wp133, wp132, wp131, wp130, wp129, wp128, wp127, wp126, wp125, wp124, wp123, wp122, wp121, wp120, wp119, wp118, wp117, wp116, wp115, wp114, wp113, wp112, wp111, wp110, wp109, wp108, wp107, wp106, wp105, wp104, wp103, wp102, wp101, wp100, wp99, wp98, wp97, wp96, wp95, wp94, wp93, wp92, wp91, wp90, wp89, wp88, wp87, wp86, wp85, wp84, wp83, wp82, wp81, wp80, wp79, wp78, wp77, wp76, wp75, wp74, wp73, wp72, wp71, wp70, wp69, wp68, wp67, wp66, wp65, wp64, wp63, wp62, wp61, wp60, wp59, wp58, wp57, wp56, wp55, wp54, wp53, wp52, wp51, wp50, wp49, wp48, wp47, wp46, wp45, wp44, wp43, wp42, wp41, wp40, wp39, wp38, wp37, wp36, wp35, wp34, wp33, wp32, wp31, wp30, wp29, wp28, wp27, wp26, wp25, wp24, wp23, wp22, wp21, wp20, wp19, wp18, wp17, wp16, wp15, wp14, wp13, wp12, wp11, wp10, wp9, wp8, wp7, wp6, wp5, wp4, wp3, wp2, wp1, wp0, trivial⟩
end Go.Proofs.Ytcamcfplcoklkaa.Iv
