import Derived.Shelf.Strings.Repeat
import Derived.Shelf.Strings.Search3
import Derived.Shelf.Strings.MapGrows
import Derived.Test.YtcenjonbenlfkaaDoorHwBelow
import Derived.Test.YtcenjonbenlfkaaDoorHwW1
import Derived.Test.YtcenjonbenlfkaaDoorHwBld2
set_option linter.unusedVariables false
set_option linter.unusedSimpArgs false
namespace Go.Hw.VL
open Go Go.Proofs
def pρ : _root_.Go.Shelf.Ren := ⟨fun k => if k = 99 then 45 else if k = 105 then 24 else if k = 165 then 39 else if k = 166 then 26 else if k = 169 then 30 else if k = 170 then 46 else if k = 206 then 66 else if k = 212 then 44 else if k = 240 then 48 else if k = 241 then 58 else if k = 263 then 64 else if k = 264 then 65 else if k = 276 then 67 else if k = 277 then 84 else k, fun k => if k = 37 then 62 else if k = 46 then 84 else if k = 51 then 102 else if k = 53 then 105 else if k = 70 then 61 else if k = 72 then 64 else if k = 75 then 69 else if k = 76 then 70 else if k = 109 then 85 else if k = 127 then 89 else if k = 146 then 103 else if k = 148 then 106 else if k = 164 then 108 else if k = 22 then 87 else if k = 26 then 59 else if k = 27 then 100 else if k = 28 then 37 else if k = 29 then 45 else if k = 31 then 48 else if k = 39 then 92 else if k = 43 then 41 else if k = 47 then 96 else if k = 52 then 119 else if k = 54 then 120 else if k = 55 then 126 else if k = 59 then 54 else if k = 60 then 55 else if k = 67 then 50 else if k = 69 then 44 else if k = 71 then 63 else if k = 73 then 81 else if k = 74 then 68 else if k = 77 then 71 else if k = 78 then 94 else if k = 79 then 93 else if k = 80 then 74 else if k = 81 then 88 else if k = 83 then 49 else if k = 84 then 98 else if k = 85 then 129 else if k = 86 then 130 else if k = 103 then 56 else if k = 104 then 99 else if k = 105 then 90 else if k = 106 then 91 else if k = 107 then 76 else if k = 108 then 152 else if k = 110 then 86 else if k = 111 then 97 else if k = 114 then 127 else if k = 119 then 134 else if k = 121 then 75 else if k = 126 then 110 else if k = 128 then 101 else if k = 131 then 117 else if k = 137 then 135 else if k = 138 then 136 else if k = 139 then 137 else if k = 143 then 157 else if k = 144 then 158 else if k = 145 then 159 else if k = 147 then 104 else if k = 149 then 107 else if k = 151 then 147 else if k = 165 then 109 else if k = 166 then 125 else if k = 167 then 128 else if k = 168 then 131 else if k = 169 then 132 else if k = 170 then 133 else if k = 171 then 121 else if k = 172 then 122 else if k = 173 then 123 else if k = 174 then 124 else if k = 175 then 148 else if k = 176 then 149 else if k = 182 then 112 else if k = 183 then 113 else if k = 209 then 150 else if k = 210 then 151 else if k = 211 then 144 else if k = 212 then 145 else if k = 213 then 146 else if k = 214 then 156 else if k = 218 then 138 else if k = 219 then 139 else if k = 220 then 140 else if k = 222 then 142 else if k = 228 then 153 else if k = 229 then 154 else if k = 232 then 160 else if k = 233 then 161 else if k = 238 then 162 else if k = 239 then 163 else if k = 240 then 164 else if k = 241 then 165 else if k = 242 then 166 else if k = 243 then 167 else if k = 244 then 168 else if k = 245 then 169 else if k = 246 then 170 else if k = 247 then 171 else if k = 248 then 172 else if k = 249 then 173 else k, fun k => k⟩
theorem pL : Lays.n105 Tryd.prog pρ where
  mixed := by kernel_rfl
  f99 := by kernel_rfl
  f105 := by kernel_rfl
  f165 := by kernel_rfl
  f166 := by kernel_rfl
  f169 := by kernel_rfl
  f170 := by kernel_rfl
  f206 := by kernel_rfl
  f212 := by kernel_rfl
  f240 := by kernel_rfl
  f241 := by kernel_rfl
  f263 := by kernel_rfl
  f264 := by kernel_rfl
  f276 := by kernel_rfl
  f277 := by kernel_rfl
  t0 := by kernel_rfl
  a0 := fun w => by kernel_rfl
  z0 := fun w => by kernel_rfl
  v0 := fun w => by kernel_rfl
  t3 := by kernel_rfl
  a3 := fun w => by kernel_rfl
  z3 := fun w => by kernel_rfl
  v3 := fun w => by kernel_rfl
  t4 := by kernel_rfl
  a4 := fun w => by kernel_rfl
  z4 := fun w => by kernel_rfl
  v4 := fun w => by kernel_rfl
  t5 := by kernel_rfl
  a5 := fun w => by kernel_rfl
  z5 := fun w => by kernel_rfl
  v5 := fun w => by kernel_rfl
  t9 := by kernel_rfl
  a9 := fun w => by kernel_rfl
  z9 := fun w => by kernel_rfl
  v9 := fun w => by kernel_rfl
  t20 := by kernel_rfl
  a20 := fun w => by kernel_rfl
  z20 := fun w => by kernel_rfl
  v20 := fun w => by kernel_rfl
  t37 := by kernel_rfl
  a37 := fun w => by kernel_rfl
  z37 := fun w => by kernel_rfl
  v37 := fun w => by kernel_rfl
  t46 := by kernel_rfl
  a46 := fun w => by kernel_rfl
  z46 := fun w => by kernel_rfl
  v46 := fun w => by kernel_rfl
  t51 := by kernel_rfl
  a51 := fun w => by kernel_rfl
  z51 := fun w => by kernel_rfl
  v51 := fun w => by kernel_rfl
  t53 := by kernel_rfl
  a53 := fun w => by kernel_rfl
  z53 := fun w => by kernel_rfl
  v53 := fun w => by kernel_rfl
  t70 := by kernel_rfl
  a70 := fun w => by kernel_rfl
  z70 := fun w => by kernel_rfl
  v70 := fun w => by kernel_rfl
  t72 := by kernel_rfl
  a72 := fun w => by kernel_rfl
  z72 := fun w => by kernel_rfl
  v72 := fun w => by kernel_rfl
  t75 := by kernel_rfl
  a75 := fun w => by kernel_rfl
  z75 := fun w => by kernel_rfl
  v75 := fun w => by kernel_rfl
  t76 := by kernel_rfl
  a76 := fun w => by kernel_rfl
  z76 := fun w => by kernel_rfl
  v76 := fun w => by kernel_rfl
  t109 := by kernel_rfl
  a109 := fun w => by kernel_rfl
  z109 := fun w => by kernel_rfl
  v109 := fun w => by kernel_rfl
  t127 := by kernel_rfl
  a127 := fun w => by kernel_rfl
  z127 := fun w => by kernel_rfl
  v127 := fun w => by kernel_rfl
  t146 := by kernel_rfl
  a146 := fun w => by kernel_rfl
  z146 := fun w => by kernel_rfl
  v146 := fun w => by kernel_rfl
  t148 := by kernel_rfl
  a148 := fun w => by kernel_rfl
  z148 := fun w => by kernel_rfl
  v148 := fun w => by kernel_rfl
  t164 := by kernel_rfl
  a164 := fun w => by kernel_rfl
  z164 := fun w => by kernel_rfl
  v164 := fun w => by kernel_rfl
theorem pX : Builder.Extra Tryd.prog pρ where
  sizeBuilder := by kernel_rfl
  liesBuilder := by kernel_rfl
  t5 := by kernel_rfl
  a5 := fun w => by kernel_rfl
  z5 := fun w => by kernel_rfl
  v5 := fun w => by kernel_rfl
  infoByte := by kernel_rfl
  cellsByte := by kernel_rfl
  sizeByte := by kernel_rfl
  neB5 := by decide
def cρ : _root_.Go.Shelf.Ren := ⟨fun k => if k = 143 then 60 else if k = 144 then 47 else if k = 217 then 85 else if k = 219 then 61 else if k = 224 then 87 else if k = 225 then 86 else if k = 266 then 104 else if k = 267 then 88 else if k = 314 then 105 else k, fun k => if k = 46 then 84 else if k = 51 then 102 else if k = 146 then 103 else if k = 22 then 87 else if k = 26 then 59 else if k = 27 then 100 else if k = 28 then 37 else if k = 29 then 45 else if k = 31 then 48 else if k = 37 then 62 else if k = 39 then 92 else if k = 43 then 41 else if k = 47 then 96 else if k = 52 then 119 else if k = 53 then 105 else if k = 54 then 120 else if k = 55 then 126 else if k = 59 then 54 else if k = 60 then 55 else if k = 67 then 50 else if k = 69 then 44 else if k = 70 then 61 else if k = 71 then 63 else if k = 72 then 64 else if k = 73 then 81 else if k = 74 then 68 else if k = 75 then 69 else if k = 76 then 70 else if k = 77 then 71 else if k = 78 then 94 else if k = 79 then 93 else if k = 80 then 74 else if k = 81 then 88 else if k = 83 then 49 else if k = 84 then 98 else if k = 85 then 129 else if k = 86 then 130 else if k = 103 then 56 else if k = 104 then 99 else if k = 105 then 90 else if k = 106 then 91 else if k = 107 then 76 else if k = 108 then 152 else if k = 109 then 85 else if k = 110 then 86 else if k = 111 then 97 else if k = 114 then 127 else if k = 119 then 134 else if k = 121 then 75 else if k = 126 then 110 else if k = 127 then 89 else if k = 128 then 101 else if k = 131 then 117 else if k = 137 then 135 else if k = 138 then 136 else if k = 139 then 137 else if k = 143 then 157 else if k = 144 then 158 else if k = 145 then 159 else if k = 147 then 104 else if k = 148 then 106 else if k = 149 then 107 else if k = 151 then 147 else if k = 164 then 108 else if k = 165 then 109 else if k = 166 then 125 else if k = 167 then 128 else if k = 168 then 131 else if k = 169 then 132 else if k = 170 then 133 else if k = 171 then 121 else if k = 172 then 122 else if k = 173 then 123 else if k = 174 then 124 else if k = 175 then 148 else if k = 176 then 149 else if k = 182 then 112 else if k = 183 then 113 else if k = 209 then 150 else if k = 210 then 151 else if k = 211 then 144 else if k = 212 then 145 else if k = 213 then 146 else if k = 214 then 156 else if k = 218 then 138 else if k = 219 then 139 else if k = 220 then 140 else if k = 222 then 142 else if k = 228 then 153 else if k = 229 then 154 else if k = 232 then 160 else if k = 233 then 161 else if k = 238 then 162 else if k = 239 then 163 else if k = 240 then 164 else if k = 241 then 165 else if k = 242 then 166 else if k = 243 then 167 else if k = 244 then 168 else if k = 245 then 169 else if k = 246 then 170 else if k = 247 then 171 else if k = 248 then 172 else if k = 249 then 173 else k, fun k => if k = 1 then 0 else k⟩
theorem cL : Lays.n144 Tryd.prog cρ where
  mixed := by kernel_rfl
  f143 := by kernel_rfl
  f144 := by kernel_rfl
  f217 := by kernel_rfl
  f219 := by kernel_rfl
  f224 := by kernel_rfl
  f225 := by kernel_rfl
  f266 := by kernel_rfl
  f267 := by kernel_rfl
  f314 := by kernel_rfl
  t3 := by kernel_rfl
  a3 := fun w => by kernel_rfl
  z3 := fun w => by kernel_rfl
  v3 := fun w => by kernel_rfl
  t4 := by kernel_rfl
  a4 := fun w => by kernel_rfl
  z4 := fun w => by kernel_rfl
  v4 := fun w => by kernel_rfl
  t5 := by kernel_rfl
  a5 := fun w => by kernel_rfl
  z5 := fun w => by kernel_rfl
  v5 := fun w => by kernel_rfl
  t9 := by kernel_rfl
  a9 := fun w => by kernel_rfl
  z9 := fun w => by kernel_rfl
  v9 := fun w => by kernel_rfl
  t46 := by kernel_rfl
  a46 := fun w => by kernel_rfl
  z46 := fun w => by kernel_rfl
  v46 := fun w => by kernel_rfl
  t51 := by kernel_rfl
  a51 := fun w => by kernel_rfl
  z51 := fun w => by kernel_rfl
  v51 := fun w => by kernel_rfl
  t146 := by kernel_rfl
  a146 := fun w => by kernel_rfl
  z146 := fun w => by kernel_rfl
  v146 := fun w => by kernel_rfl
  g1 := by kernel_rfl
def mρ : _root_.Go.Shelf.Ren := ⟨fun k => if k = 118 then 50 else if k = 165 then 39 else if k = 166 then 26 else if k = 167 then 53 else if k = 168 then 51 else if k = 169 then 30 else if k = 197 then 49 else if k = 230 then 31 else if k = 240 then 48 else if k = 241 then 58 else if k = 242 then 69 else if k = 260 then 68 else if k = 270 then 52 else if k = 276 then 67 else if k = 277 then 84 else if k = 278 then 94 else k, fun k => if k = 37 then 62 else if k = 46 then 84 else if k = 51 then 102 else if k = 70 then 61 else if k = 72 then 64 else if k = 75 then 69 else if k = 76 then 70 else if k = 105 then 90 else if k = 107 then 76 else if k = 119 then 134 else if k = 127 then 89 else if k = 138 then 136 else if k = 139 then 137 else if k = 164 then 108 else if k = 22 then 87 else if k = 26 then 59 else if k = 27 then 100 else if k = 28 then 37 else if k = 29 then 45 else if k = 31 then 48 else if k = 39 then 92 else if k = 43 then 41 else if k = 47 then 96 else if k = 52 then 119 else if k = 53 then 105 else if k = 54 then 120 else if k = 55 then 126 else if k = 59 then 54 else if k = 60 then 55 else if k = 67 then 50 else if k = 69 then 44 else if k = 71 then 63 else if k = 73 then 81 else if k = 74 then 68 else if k = 77 then 71 else if k = 78 then 94 else if k = 79 then 93 else if k = 80 then 74 else if k = 81 then 88 else if k = 83 then 49 else if k = 84 then 98 else if k = 85 then 129 else if k = 86 then 130 else if k = 103 then 56 else if k = 104 then 99 else if k = 106 then 91 else if k = 108 then 152 else if k = 109 then 85 else if k = 110 then 86 else if k = 111 then 97 else if k = 114 then 127 else if k = 121 then 75 else if k = 126 then 110 else if k = 128 then 101 else if k = 131 then 117 else if k = 137 then 135 else if k = 143 then 157 else if k = 144 then 158 else if k = 145 then 159 else if k = 146 then 103 else if k = 147 then 104 else if k = 148 then 106 else if k = 149 then 107 else if k = 151 then 147 else if k = 165 then 109 else if k = 166 then 125 else if k = 167 then 128 else if k = 168 then 131 else if k = 169 then 132 else if k = 170 then 133 else if k = 171 then 121 else if k = 172 then 122 else if k = 173 then 123 else if k = 174 then 124 else if k = 175 then 148 else if k = 176 then 149 else if k = 182 then 112 else if k = 183 then 113 else if k = 209 then 150 else if k = 210 then 151 else if k = 211 then 144 else if k = 212 then 145 else if k = 213 then 146 else if k = 214 then 156 else if k = 218 then 138 else if k = 219 then 139 else if k = 220 then 140 else if k = 222 then 142 else if k = 228 then 153 else if k = 229 then 154 else if k = 232 then 160 else if k = 233 then 161 else if k = 238 then 162 else if k = 239 then 163 else if k = 240 then 164 else if k = 241 then 165 else if k = 242 then 166 else if k = 243 then 167 else if k = 244 then 168 else if k = 245 then 169 else if k = 246 then 170 else if k = 247 then 171 else if k = 248 then 172 else if k = 249 then 173 else k, fun k => if k = 3 then 1 else if k = 4 then 2 else k⟩
theorem mL : Lays.n230 Tryd.prog mρ where
  mixed := by kernel_rfl
  f118 := by kernel_rfl
  f165 := by kernel_rfl
  f166 := by kernel_rfl
  f167 := by kernel_rfl
  f168 := by kernel_rfl
  f169 := by kernel_rfl
  f197 := by kernel_rfl
  f230 := by kernel_rfl
  f240 := by kernel_rfl
  f241 := by kernel_rfl
  f242 := by kernel_rfl
  f260 := by kernel_rfl
  f270 := by kernel_rfl
  f276 := by kernel_rfl
  f277 := by kernel_rfl
  f278 := by kernel_rfl
  t0 := by kernel_rfl
  a0 := fun w => by kernel_rfl
  z0 := fun w => by kernel_rfl
  v0 := fun w => by kernel_rfl
  t3 := by kernel_rfl
  a3 := fun w => by kernel_rfl
  z3 := fun w => by kernel_rfl
  v3 := fun w => by kernel_rfl
  t4 := by kernel_rfl
  a4 := fun w => by kernel_rfl
  z4 := fun w => by kernel_rfl
  v4 := fun w => by kernel_rfl
  t5 := by kernel_rfl
  a5 := fun w => by kernel_rfl
  z5 := fun w => by kernel_rfl
  v5 := fun w => by kernel_rfl
  t9 := by kernel_rfl
  a9 := fun w => by kernel_rfl
  z9 := fun w => by kernel_rfl
  v9 := fun w => by kernel_rfl
  t20 := by kernel_rfl
  a20 := fun w => by kernel_rfl
  z20 := fun w => by kernel_rfl
  v20 := fun w => by kernel_rfl
  t21 := by kernel_rfl
  a21 := fun w => by kernel_rfl
  z21 := fun w => by kernel_rfl
  v21 := fun w => by kernel_rfl
  t37 := by kernel_rfl
  a37 := fun w => by kernel_rfl
  z37 := fun w => by kernel_rfl
  v37 := fun w => by kernel_rfl
  t46 := by kernel_rfl
  a46 := fun w => by kernel_rfl
  z46 := fun w => by kernel_rfl
  v46 := fun w => by kernel_rfl
  t51 := by kernel_rfl
  a51 := fun w => by kernel_rfl
  z51 := fun w => by kernel_rfl
  v51 := fun w => by kernel_rfl
  t70 := by kernel_rfl
  a70 := fun w => by kernel_rfl
  z70 := fun w => by kernel_rfl
  v70 := fun w => by kernel_rfl
  t72 := by kernel_rfl
  a72 := fun w => by kernel_rfl
  z72 := fun w => by kernel_rfl
  v72 := fun w => by kernel_rfl
  t75 := by kernel_rfl
  a75 := fun w => by kernel_rfl
  z75 := fun w => by kernel_rfl
  v75 := fun w => by kernel_rfl
  t76 := by kernel_rfl
  a76 := fun w => by kernel_rfl
  z76 := fun w => by kernel_rfl
  v76 := fun w => by kernel_rfl
  t105 := by kernel_rfl
  a105 := fun w => by kernel_rfl
  z105 := fun w => by kernel_rfl
  v105 := fun w => by kernel_rfl
  t107 := by kernel_rfl
  a107 := fun w => by kernel_rfl
  z107 := fun w => by kernel_rfl
  v107 := fun w => by kernel_rfl
  t119 := by kernel_rfl
  a119 := fun w => by kernel_rfl
  z119 := fun w => by kernel_rfl
  t127 := by kernel_rfl
  a127 := fun w => by kernel_rfl
  z127 := fun w => by kernel_rfl
  v127 := fun w => by kernel_rfl
  t138 := by kernel_rfl
  a138 := fun w => by kernel_rfl
  z138 := fun w => by kernel_rfl
  v138 := fun w => by kernel_rfl
  t139 := by kernel_rfl
  a139 := fun w => by kernel_rfl
  z139 := fun w => by kernel_rfl
  v139 := fun w => by kernel_rfl
  t164 := by kernel_rfl
  a164 := fun w => by kernel_rfl
  z164 := fun w => by kernel_rfl
  v164 := fun w => by kernel_rfl
  g3 := by kernel_rfl
  g4 := by kernel_rfl
theorem mX : Builder.Extra Tryd.prog mρ where
  sizeBuilder := by kernel_rfl
  liesBuilder := by kernel_rfl
  t5 := by kernel_rfl
  a5 := fun w => by kernel_rfl
  z5 := fun w => by kernel_rfl
  v5 := fun w => by kernel_rfl
  infoByte := by kernel_rfl
  cellsByte := by kernel_rfl
  sizeByte := by kernel_rfl
  neB5 := by decide
theorem s33 (s : List UInt8) (n : Nat) (h : s.length * n ≤ 140737488355328) (hn : n ≤ 9223372036854775807) : sp24 s (n : Int) (Lib.repeatL s n) := by
  refine ⟨fun x hx => ?_, .str _, ⟨⟨Tryd.f24, Tryd.func24, rfl, by decide⟩, fun K w vs hh hl hv => ?_⟩⟩
  · rcases List.mem_cons.1 hx with rfl | hx
    · exact .str _
    · rcases List.mem_cons.1 hx with rfl | hx
      · exact .int _ _
      · cases hx
  obtain ⟨v0, v1, rfl⟩ : ∃ v0 v1, vs = [v0, v1] := by
    match vs, hl with
    | [a, b], _ => exact ⟨a, b, rfl⟩
  have h0 := hv 0 _ v0 rfl rfl
  have h1 := hv 1 _ v1 rfl rfl
  cases h0
  cases h1
  have hsz : (⟨s.toArray⟩ : ByteArray).size = s.length := by simp [ByteArray.size]
  refine (Any.strings_Repeat pL pX ⟨s.toArray⟩ n w (by omega) (by rw [hsz]; omega)).mono ?_
  rintro en w' ⟨rfl, hb⟩
  obtain ⟨K', st, hh'⟩ := below_step hh hb
  exact ⟨_, .str (Lib.repeatL s n), K', _, rfl, st, hh', .str _, rfl⟩
theorem index_cases (c : UInt8) : ∀ l : List UInt8, (Lib.indexByte l c = -1 ∧ c ∉ l) ∨ (0 ≤ Lib.indexByte l c ∧ c ∈ l)
  | [] => .inl ⟨rfl, by simp⟩
  | b :: l => by
    by_cases hb : b = c
    · exact .inr ⟨by simp [Lib.indexByte, hb], by simp [hb]⟩
    · rcases index_cases c l with ⟨h1, h2⟩ | ⟨h1, h2⟩
      · exact .inl ⟨by simp [Lib.indexByte, hb, h1], by simp [h2, Ne.symm hb]⟩
      · refine .inr ⟨?_, by simp [h2]⟩
        have : (Lib.indexByte l c == -1) = false := by simp; omega
        simp [Lib.indexByte, hb, this]; omega
theorem s20 (l : List UInt8) : sp47 l [10] (decide (10 ∈ l)) := by
  refine ⟨fun x hx => ?_, .bool _, ⟨⟨Tryd.f47, Tryd.func47, rfl, by decide⟩, fun K w vs hh hl hv => ?_⟩⟩
  · rcases List.mem_cons.1 hx with rfl | hx
    · exact .str _
    · rcases List.mem_cons.1 hx with rfl | hx
      · exact .str _
      · cases hx
  obtain ⟨v0, v1, rfl⟩ : ∃ v0 v1, vs = [v0, v1] := by
    match vs, hl with
    | [a, b], _ => exact ⟨a, b, rfl⟩
  have h0 := hv 0 _ v0 rfl rfl
  have h1 := hv 1 _ v1 rfl rfl
  cases h0
  cases h1
  refine (Any.strings_Contains_one cL ⟨l.toArray⟩ 10 w).mono ?_
  rintro en w' ⟨rfl, rfl⟩
  refine ⟨_, .bool (decide (0 ≤ Lib.indexByte l 10)), K, _, rfl, .refl K w', hh, .bool _, ?_⟩
  show HV.bool (decide (0 ≤ Lib.indexByte l 10)) = HV.bool (decide (10 ∈ l))
  rcases index_cases 10 l with ⟨h1, h2⟩ | ⟨h1, h2⟩
  · simp [h1, h2]
  · simp [h1, h2]
theorem fn36 : ∃ fn, Tryd.prog.funcs[26]? = some fn ∧ fn.body.isSome = true ∧ fn.name ≠ "runtime.NumGoroutine" := ⟨Tryd.f26, Tryd.func26, rfl, by decide⟩
theorem fn40 : ∃ fn, Tryd.prog.funcs[30]? = some fn ∧ fn.body.isSome = true ∧ fn.name ≠ "runtime.NumGoroutine" := ⟨Tryd.f30, Tryd.func30, rfl, by decide⟩
theorem b36 {B : BW} {h : Heap} {R : Lay} {s : List UInt8} (hs : Sep h (B.lay 64 5 ++ R)) (hlen : B.l.length + s.length ≤ 140737488355328)
    {Q : HV → Heap → Prop} (k : ∀ (B' : BW) (h' : Heap), B'.id = B.id → B'.l = B.l ++ s → Sep h' (B'.lay 64 5 ++ R) → Q (.tuple [ii s.length, .nilif]) h') : HCalls Tryd.prog 26 [.ptr B.id 0, .str s] h Q :=
  r_write (ρ := pρ) { pL with } pX fn36 hs hlen k
theorem b40 {B : BW} {h : Heap} {R : Lay} (hs : Sep h (B.lay 64 5 ++ R)) {Q : HV → Heap → Prop} (k : ∀ (h' : Heap), Sep h' R → Q (.str B.l) h') : HCalls Tryd.prog 30 [.ptr B.id 0] h Q :=
  r_string (ρ := pρ) { pL with } pX fn40 hs k
end Go.Hw.VL

