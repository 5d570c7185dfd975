import Derived.Shelf.Strings.OnBuilder
import Derived.Shelf.Strings.Search3
import Derived.Shelf.Strconv.Itoa3
import Derived.Shelf.Strconv.Atoi
import Derived.Shelf.Small.Bits
import Derived.Lib.AtoiErrMem
import Derived.Test.YtcenjonbenlfkaaDoorHwBelow
import Derived.Test.YtcenjonbenlfkaaDoorHwX1
set_option linter.unusedVariables false
set_option linter.unusedSimpArgs false
namespace Go.Hw.VX
open Go Go.Proofs Go.RowKit
def xρ : _root_.Go.Shelf.Ren := ⟨fun k => if k = 125 then 55 else if k = 128 then 78 else if k = 129 then 79 else if k = 143 then 60 else if k = 156 then 18 else if k = 165 then 39 else if k = 166 then 26 else if k = 169 then 30 else if k = 171 then 17 else if k = 172 then 42 else if k = 205 then 108 else if k = 217 then 85 else if k = 219 then 61 else if k = 224 then 87 else if k = 225 then 86 else if k = 240 then 48 else if k = 241 then 58 else if k = 243 then 38 else if k = 244 then 62 else if k = 245 then 63 else if k = 246 then 57 else if k = 247 then 89 else if k = 266 then 104 else if k = 267 then 88 else if k = 276 then 67 else if k = 277 then 84 else if k = 279 then 90 else if k = 280 then 91 else if k = 281 then 92 else if k = 282 then 93 else if k = 283 then 80 else if k = 284 then 81 else if k = 285 then 82 else if k = 286 then 83 else if k = 287 then 106 else if k = 314 then 105 else if k = 316 then 107 else if k = 317 then 100 else if k = 318 then 101 else if k = 319 then 102 else if k = 320 then 103 else if k = 321 then 112 else if k = 322 then 113 else if k = 337 then 110 else if k = 338 then 111 else k, fun k => if k = 22 then 87 else if k = 26 then 59 else if k = 27 then 100 else if k = 28 then 37 else if k = 29 then 45 else if k = 31 then 48 else if k = 37 then 62 else if k = 39 then 92 else if k = 43 then 41 else if k = 46 then 84 else if k = 47 then 96 else if k = 51 then 102 else if k = 52 then 119 else if k = 53 then 105 else if k = 54 then 120 else if k = 55 then 126 else if k = 59 then 54 else if k = 60 then 55 else if k = 67 then 50 else if k = 69 then 44 else if k = 70 then 61 else if k = 71 then 63 else if k = 72 then 64 else if k = 73 then 81 else if k = 74 then 68 else if k = 75 then 69 else if k = 76 then 70 else if k = 77 then 71 else if k = 78 then 94 else if k = 79 then 93 else if k = 80 then 74 else if k = 81 then 88 else if k = 83 then 49 else if k = 84 then 98 else if k = 85 then 129 else if k = 86 then 130 else if k = 103 then 56 else if k = 104 then 99 else if k = 105 then 90 else if k = 106 then 91 else if k = 107 then 76 else if k = 108 then 152 else if k = 109 then 85 else if k = 110 then 86 else if k = 111 then 97 else if k = 114 then 127 else if k = 119 then 134 else if k = 121 then 75 else if k = 126 then 110 else if k = 127 then 89 else if k = 128 then 101 else if k = 131 then 117 else if k = 137 then 135 else if k = 138 then 136 else if k = 139 then 137 else if k = 143 then 157 else if k = 144 then 158 else if k = 145 then 159 else if k = 146 then 103 else if k = 147 then 104 else if k = 148 then 106 else if k = 149 then 107 else if k = 151 then 147 else if k = 164 then 108 else if k = 165 then 109 else if k = 166 then 125 else if k = 167 then 128 else if k = 168 then 131 else if k = 169 then 132 else if k = 170 then 133 else if k = 171 then 121 else if k = 172 then 122 else if k = 173 then 123 else if k = 174 then 124 else if k = 175 then 148 else if k = 176 then 149 else if k = 182 then 112 else if k = 183 then 113 else if k = 209 then 150 else if k = 210 then 151 else if k = 211 then 144 else if k = 212 then 145 else if k = 213 then 146 else if k = 214 then 156 else if k = 218 then 138 else if k = 219 then 139 else if k = 220 then 140 else if k = 222 then 142 else if k = 228 then 153 else if k = 229 then 154 else if k = 232 then 160 else if k = 233 then 161 else if k = 238 then 162 else if k = 239 then 163 else if k = 240 then 164 else if k = 241 then 165 else if k = 242 then 166 else if k = 243 then 167 else if k = 244 then 168 else if k = 245 then 169 else if k = 246 then 170 else if k = 247 then 171 else if k = 248 then 172 else if k = 249 then 173 else k, fun k => if k = 1 then 0 else if k = 15 then 4 else if k = 16 then 5 else if k = 17 then 3 else if k = 18 then 6 else if k = 19 then 7 else k⟩
theorem i0L : Lays.n171 Tryd.prog xρ where
  mixed := by kernel_rfl
  f129 := by kernel_rfl
  f171 := by kernel_rfl
  f243 := by kernel_rfl
  f246 := by kernel_rfl
  f283 := by kernel_rfl
  f284 := by kernel_rfl
  f285 := by kernel_rfl
  f286 := by kernel_rfl
  f317 := by kernel_rfl
  f318 := by kernel_rfl
  f319 := by kernel_rfl
  f320 := by kernel_rfl
  f337 := by kernel_rfl
  f338 := by kernel_rfl
  t0 := by kernel_rfl
  a0 := fun w => by kernel_rfl
  z0 := fun w => by kernel_rfl
  v0 := fun w => by kernel_rfl
  t2 := by kernel_rfl
  a2 := fun w => by kernel_rfl
  z2 := fun w => by kernel_rfl
  v2 := fun w => by kernel_rfl
  t3 := by kernel_rfl
  a3 := fun w => by kernel_rfl
  z3 := fun w => by kernel_rfl
  v3 := fun w => by kernel_rfl
  t4 := by kernel_rfl
  a4 := fun w => by kernel_rfl
  z4 := fun w => by kernel_rfl
  v4 := fun w => by kernel_rfl
  t5 := by kernel_rfl
  a5 := fun w => by kernel_rfl
  z5 := fun w => by kernel_rfl
  v5 := fun w => by kernel_rfl
  t9 := by kernel_rfl
  a9 := fun w => by kernel_rfl
  z9 := fun w => by kernel_rfl
  v9 := fun w => by kernel_rfl
  t20 := by kernel_rfl
  a20 := fun w => by kernel_rfl
  z20 := fun w => by kernel_rfl
  v20 := fun w => by kernel_rfl
  t37 := by kernel_rfl
  a37 := fun w => by kernel_rfl
  z37 := fun w => by kernel_rfl
  v37 := fun w => by kernel_rfl
  t46 := by kernel_rfl
  a46 := fun w => by kernel_rfl
  z46 := fun w => by kernel_rfl
  v46 := fun w => by kernel_rfl
  t51 := by kernel_rfl
  a51 := fun w => by kernel_rfl
  z51 := fun w => by kernel_rfl
  v51 := fun w => by kernel_rfl
  t53 := by kernel_rfl
  a53 := fun w => by kernel_rfl
  z53 := fun w => by kernel_rfl
  v53 := fun w => by kernel_rfl
  t171 := by kernel_rfl
  a171 := fun w => by kernel_rfl
  z171 := fun w => by kernel_rfl
  v171 := fun w => by kernel_rfl
  t173 := by kernel_rfl
  a173 := fun w => by kernel_rfl
  z173 := fun w => by kernel_rfl
  v173 := fun w => by kernel_rfl
  t212 := by kernel_rfl
  a212 := fun w => by kernel_rfl
  z212 := fun w => by kernel_rfl
  v212 := fun w => by kernel_rfl
  t213 := by kernel_rfl
  a213 := fun w => by kernel_rfl
  z213 := fun w => by kernel_rfl
  t232 := by kernel_rfl
  a232 := fun w => by kernel_rfl
  z232 := fun w => by kernel_rfl
  v232 := fun w => by kernel_rfl
  t233 := by kernel_rfl
  a233 := fun w => by kernel_rfl
  z233 := fun w => by kernel_rfl
  v233 := fun w => by kernel_rfl
  g17 := by kernel_rfl
  g18 := by kernel_rfl
  g19 := by kernel_rfl
theorem iL : LaysM.n171 Tryd.prog xρ := { i0L with
  i0 := by kernel_rfl,
  i2 := by kernel_rfl,
  i3 := by kernel_rfl,
  i4 := by kernel_rfl,
  i5 := by kernel_rfl,
  i9 := by kernel_rfl,
  i20 := by kernel_rfl,
  i37 := by kernel_rfl,
  i46 := by kernel_rfl,
  i51 := by kernel_rfl,
  i53 := by kernel_rfl,
  i171 := by kernel_rfl,
  i173 := by kernel_rfl,
  i212 := by kernel_rfl,
  i232 := by kernel_rfl,
  i233 := by kernel_rfl,
  m17 := by kernel_rfl,
  m18 := by kernel_rfl,
  m19 := by kernel_rfl }
theorem aL : Lays.n172 Tryd.prog xρ where
  mixed := by kernel_rfl
  f129 := by kernel_rfl
  f171 := by kernel_rfl
  f172 := by kernel_rfl
  f205 := by kernel_rfl
  f243 := by kernel_rfl
  f244 := by kernel_rfl
  f245 := by kernel_rfl
  f246 := by kernel_rfl
  f247 := by kernel_rfl
  f279 := by kernel_rfl
  f280 := by kernel_rfl
  f281 := by kernel_rfl
  f282 := by kernel_rfl
  f283 := by kernel_rfl
  f284 := by kernel_rfl
  f285 := by kernel_rfl
  f286 := by kernel_rfl
  f287 := by kernel_rfl
  f316 := by kernel_rfl
  f317 := by kernel_rfl
  f318 := by kernel_rfl
  f319 := by kernel_rfl
  f320 := by kernel_rfl
  f321 := by kernel_rfl
  f322 := by kernel_rfl
  f337 := by kernel_rfl
  f338 := by kernel_rfl
  t0 := by kernel_rfl
  a0 := fun w => by kernel_rfl
  z0 := fun w => by kernel_rfl
  v0 := fun w => by kernel_rfl
  t2 := by kernel_rfl
  a2 := fun w => by kernel_rfl
  z2 := fun w => by kernel_rfl
  v2 := fun w => by kernel_rfl
  t3 := by kernel_rfl
  a3 := fun w => by kernel_rfl
  z3 := fun w => by kernel_rfl
  v3 := fun w => by kernel_rfl
  t4 := by kernel_rfl
  a4 := fun w => by kernel_rfl
  z4 := fun w => by kernel_rfl
  v4 := fun w => by kernel_rfl
  t5 := by kernel_rfl
  a5 := fun w => by kernel_rfl
  z5 := fun w => by kernel_rfl
  v5 := fun w => by kernel_rfl
  t9 := by kernel_rfl
  a9 := fun w => by kernel_rfl
  z9 := fun w => by kernel_rfl
  v9 := fun w => by kernel_rfl
  t20 := by kernel_rfl
  a20 := fun w => by kernel_rfl
  z20 := fun w => by kernel_rfl
  v20 := fun w => by kernel_rfl
  t21 := by kernel_rfl
  a21 := fun w => by kernel_rfl
  z21 := fun w => by kernel_rfl
  v21 := fun w => by kernel_rfl
  t37 := by kernel_rfl
  a37 := fun w => by kernel_rfl
  z37 := fun w => by kernel_rfl
  v37 := fun w => by kernel_rfl
  t46 := by kernel_rfl
  a46 := fun w => by kernel_rfl
  z46 := fun w => by kernel_rfl
  v46 := fun w => by kernel_rfl
  t51 := by kernel_rfl
  a51 := fun w => by kernel_rfl
  z51 := fun w => by kernel_rfl
  v51 := fun w => by kernel_rfl
  t53 := by kernel_rfl
  a53 := fun w => by kernel_rfl
  z53 := fun w => by kernel_rfl
  v53 := fun w => by kernel_rfl
  t75 := by kernel_rfl
  a75 := fun w => by kernel_rfl
  z75 := fun w => by kernel_rfl
  v75 := fun w => by kernel_rfl
  t76 := by kernel_rfl
  a76 := fun w => by kernel_rfl
  z76 := fun w => by kernel_rfl
  v76 := fun w => by kernel_rfl
  t85 := by kernel_rfl
  a85 := fun w => by kernel_rfl
  z85 := fun w => by kernel_rfl
  v85 := fun w => by kernel_rfl
  t127 := by kernel_rfl
  a127 := fun w => by kernel_rfl
  z127 := fun w => by kernel_rfl
  v127 := fun w => by kernel_rfl
  t143 := by kernel_rfl
  a143 := fun w => by kernel_rfl
  z143 := fun w => by kernel_rfl
  v143 := fun w => by kernel_rfl
  t145 := by kernel_rfl
  a145 := fun w => by kernel_rfl
  z145 := fun w => by kernel_rfl
  v145 := fun w => by kernel_rfl
  t167 := by kernel_rfl
  a167 := fun w => by kernel_rfl
  z167 := fun w => by kernel_rfl
  v167 := fun w => by kernel_rfl
  t168 := by kernel_rfl
  a168 := fun w => by kernel_rfl
  z168 := fun w => by kernel_rfl
  v168 := fun w => by kernel_rfl
  t171 := by kernel_rfl
  a171 := fun w => by kernel_rfl
  z171 := fun w => by kernel_rfl
  v171 := fun w => by kernel_rfl
  t173 := by kernel_rfl
  a173 := fun w => by kernel_rfl
  z173 := fun w => by kernel_rfl
  v173 := fun w => by kernel_rfl
  t175 := by kernel_rfl
  a175 := fun w => by kernel_rfl
  z175 := fun w => by kernel_rfl
  v175 := fun w => by kernel_rfl
  t210 := by kernel_rfl
  a210 := fun w => by kernel_rfl
  z210 := fun w => by kernel_rfl
  v210 := fun w => by kernel_rfl
  t212 := by kernel_rfl
  a212 := fun w => by kernel_rfl
  z212 := fun w => by kernel_rfl
  v212 := fun w => by kernel_rfl
  t213 := by kernel_rfl
  a213 := fun w => by kernel_rfl
  z213 := fun w => by kernel_rfl
  t232 := by kernel_rfl
  a232 := fun w => by kernel_rfl
  z232 := fun w => by kernel_rfl
  v232 := fun w => by kernel_rfl
  t233 := by kernel_rfl
  a233 := fun w => by kernel_rfl
  z233 := fun w => by kernel_rfl
  v233 := fun w => by kernel_rfl
  g15 := by kernel_rfl
  g16 := by kernel_rfl
  g17 := by kernel_rfl
  g18 := by kernel_rfl
  g19 := by kernel_rfl
theorem jL : Lays.n156 Tryd.prog xρ where
  mixed := by kernel_rfl
  f156 := by kernel_rfl
  f165 := by kernel_rfl
  f166 := by kernel_rfl
  f169 := by kernel_rfl
  f240 := by kernel_rfl
  f241 := by kernel_rfl
  f276 := by kernel_rfl
  f277 := by kernel_rfl
  t0 := by kernel_rfl
  a0 := fun w => by kernel_rfl
  z0 := fun w => by kernel_rfl
  v0 := fun w => by kernel_rfl
  t3 := by kernel_rfl
  a3 := fun w => by kernel_rfl
  z3 := fun w => by kernel_rfl
  v3 := fun w => by kernel_rfl
  t4 := by kernel_rfl
  a4 := fun w => by kernel_rfl
  z4 := fun w => by kernel_rfl
  v4 := fun w => by kernel_rfl
  t9 := by kernel_rfl
  a9 := fun w => by kernel_rfl
  z9 := fun w => by kernel_rfl
  v9 := fun w => by kernel_rfl
  t20 := by kernel_rfl
  a20 := fun w => by kernel_rfl
  z20 := fun w => by kernel_rfl
  v20 := fun w => by kernel_rfl
  t31 := by kernel_rfl
  a31 := fun w => by kernel_rfl
  z31 := fun w => by kernel_rfl
  v31 := fun w => by kernel_rfl
  t37 := by kernel_rfl
  a37 := fun w => by kernel_rfl
  z37 := fun w => by kernel_rfl
  v37 := fun w => by kernel_rfl
  t70 := by kernel_rfl
  a70 := fun w => by kernel_rfl
  z70 := fun w => by kernel_rfl
  v70 := fun w => by kernel_rfl
  t72 := by kernel_rfl
  a72 := fun w => by kernel_rfl
  z72 := fun w => by kernel_rfl
  v72 := fun w => by kernel_rfl
  t75 := by kernel_rfl
  a75 := fun w => by kernel_rfl
  z75 := fun w => by kernel_rfl
  v75 := fun w => by kernel_rfl
  t76 := by kernel_rfl
  a76 := fun w => by kernel_rfl
  z76 := fun w => by kernel_rfl
  v76 := fun w => by kernel_rfl
  t127 := by kernel_rfl
  a127 := fun w => by kernel_rfl
  z127 := fun w => by kernel_rfl
  v127 := fun w => by kernel_rfl
  t164 := by kernel_rfl
  a164 := fun w => by kernel_rfl
  z164 := fun w => by kernel_rfl
  v164 := fun w => by kernel_rfl
theorem xL : Lays.n219 Tryd.prog xρ where
  mixed := by kernel_rfl
  f217 := by kernel_rfl
  f219 := by kernel_rfl
  f224 := by kernel_rfl
  f225 := by kernel_rfl
  f266 := by kernel_rfl
  f267 := by kernel_rfl
  f314 := by kernel_rfl
  t3 := by kernel_rfl
  a3 := fun w => by kernel_rfl
  z3 := fun w => by kernel_rfl
  v3 := fun w => by kernel_rfl
  t4 := by kernel_rfl
  a4 := fun w => by kernel_rfl
  z4 := fun w => by kernel_rfl
  v4 := fun w => by kernel_rfl
  t5 := by kernel_rfl
  a5 := fun w => by kernel_rfl
  z5 := fun w => by kernel_rfl
  v5 := fun w => by kernel_rfl
  t9 := by kernel_rfl
  a9 := fun w => by kernel_rfl
  z9 := fun w => by kernel_rfl
  v9 := fun w => by kernel_rfl
  t46 := by kernel_rfl
  a46 := fun w => by kernel_rfl
  z46 := fun w => by kernel_rfl
  v46 := fun w => by kernel_rfl
  t51 := by kernel_rfl
  a51 := fun w => by kernel_rfl
  z51 := fun w => by kernel_rfl
  v51 := fun w => by kernel_rfl
  t146 := by kernel_rfl
  a146 := fun w => by kernel_rfl
  z146 := fun w => by kernel_rfl
  v146 := fun w => by kernel_rfl
  g1 := by kernel_rfl
theorem yL : Lays.n143 Tryd.prog xρ where
  mixed := by kernel_rfl
  f143 := by kernel_rfl
  f217 := by kernel_rfl
  f219 := by kernel_rfl
  f224 := by kernel_rfl
  f225 := by kernel_rfl
  f266 := by kernel_rfl
  f267 := by kernel_rfl
  f314 := by kernel_rfl
  t3 := by kernel_rfl
  a3 := fun w => by kernel_rfl
  z3 := fun w => by kernel_rfl
  v3 := fun w => by kernel_rfl
  t4 := by kernel_rfl
  a4 := fun w => by kernel_rfl
  z4 := fun w => by kernel_rfl
  v4 := fun w => by kernel_rfl
  t5 := by kernel_rfl
  a5 := fun w => by kernel_rfl
  z5 := fun w => by kernel_rfl
  v5 := fun w => by kernel_rfl
  t9 := by kernel_rfl
  a9 := fun w => by kernel_rfl
  z9 := fun w => by kernel_rfl
  v9 := fun w => by kernel_rfl
  t46 := by kernel_rfl
  a46 := fun w => by kernel_rfl
  z46 := fun w => by kernel_rfl
  v46 := fun w => by kernel_rfl
  t51 := by kernel_rfl
  a51 := fun w => by kernel_rfl
  z51 := fun w => by kernel_rfl
  v51 := fun w => by kernel_rfl
  t146 := by kernel_rfl
  a146 := fun w => by kernel_rfl
  z146 := fun w => by kernel_rfl
  v146 := fun w => by kernel_rfl
  g1 := by kernel_rfl
theorem bL : Lays.n125 Tryd.prog xρ where
  mixed := by kernel_rfl
  f125 := by kernel_rfl
  f128 := by kernel_rfl
  f129 := by kernel_rfl
  t3 := by kernel_rfl
  a3 := fun w => by kernel_rfl
  z3 := fun w => by kernel_rfl
  v3 := fun w => by kernel_rfl
  t4 := by kernel_rfl
  a4 := fun w => by kernel_rfl
  z4 := fun w => by kernel_rfl
  v4 := fun w => by kernel_rfl
  t5 := by kernel_rfl
  a5 := fun w => by kernel_rfl
  z5 := fun w => by kernel_rfl
  v5 := fun w => by kernel_rfl
  t9 := by kernel_rfl
  a9 := fun w => by kernel_rfl
  z9 := fun w => by kernel_rfl
  v9 := fun w => by kernel_rfl
  t46 := by kernel_rfl
  a46 := fun w => by kernel_rfl
  z46 := fun w => by kernel_rfl
  v46 := fun w => by kernel_rfl
  t51 := by kernel_rfl
  a51 := fun w => by kernel_rfl
  z51 := fun w => by kernel_rfl
  v51 := fun w => by kernel_rfl
  t53 := by kernel_rfl
  a53 := fun w => by kernel_rfl
  z53 := fun w => by kernel_rfl
  v53 := fun w => by kernel_rfl
theorem jX : Builder.Extra Tryd.prog xρ where
  sizeBuilder := by kernel_rfl
  liesBuilder := by kernel_rfl
  t5 := by kernel_rfl
  a5 := fun w => by kernel_rfl
  z5 := fun w => by kernel_rfl
  v5 := fun w => by kernel_rfl
  infoByte := by kernel_rfl
  cellsByte := by kernel_rfl
  sizeByte := by kernel_rfl
  neB5 := by decide
theorem args1 {x : HV} {P : HV → Prop} (h : P x) : ∀ y ∈ [x], P y := fun y hy => by rcases List.mem_cons.1 hy with rfl | hy; exact h; cases hy
theorem args2 {x z : HV} {P : HV → Prop} (h : P x) (h2 : P z) : ∀ y ∈ [x, z], P y := fun y hy => by
  rcases List.mem_cons.1 hy with rfl | hy
  · exact h
  · exact args1 h2 y hy
theorem s55 (n : Nat) (hn : n ≤ 12) : ∃ r, sp55 n r := by
  refine ⟨(Lib.bitLen n : Nat), args1 (.int _ _), .int _ _, ⟨⟨Tryd.f55, Tryd.func55, rfl, by decide⟩, fun K w vs hh hl hv => ?_⟩⟩
  obtain ⟨v0, rfl⟩ : ∃ v0, vs = [v0] := by
    match vs, hl with
    | [a], _ => exact ⟨a, rfl⟩
  have h0 := hv 0 _ v0 rfl rfl
  cases h0
  refine (Any.bits_Len bL n w (by omega) (by omega)).mono ?_
  rintro en w' ⟨rfl, rfl⟩
  exact ⟨_, _, K, _, rfl, .refl K w', hh, .int _ _, rfl⟩
theorem s61 (l : List UInt8) (c : UInt8) : sp61 l [c] (Lib.indexByte l c) := by
  refine ⟨args2 (.str _) (.str _), .int _ _, ⟨⟨Tryd.f61, Tryd.func61, rfl, by decide⟩, fun K w vs hh hl hv => ?_⟩⟩
  obtain ⟨v0, v1, rfl⟩ : ∃ v0 v1, vs = [v0, v1] := by
    match vs, hl with
    | [a, b], _ => exact ⟨a, b, rfl⟩
  have h0 := hv 0 _ v0 rfl rfl
  have h1 := hv 1 _ v1 rfl rfl
  cases h0
  cases h1
  refine (Any.stringslite_Index_one xL ⟨l.toArray⟩ c w).mono ?_
  rintro en w' ⟨rfl, rfl⟩
  exact ⟨_, _, K, _, rfl, .refl K w', hh, .int _ _, rfl⟩
theorem rows_pow {K : GK} {w : World} (h : TabOk K w) : Lib.TabIs Tryd.prog w "internal/strconv.uint64pow10" .u64 Lib.pow10Tab := by
  obtain ⟨_, e, fr, h2⟩ := h.rows (3, (pow10L.map fun z => Value.int .u64 z).toArray) (by simp [rows])
  unfold Lib.TabIs World.var?
  rw [show Tryd.prog.globalNamed "internal/strconv.uint64pow10" = some 3 by kernel_rfl, Option.bind_some, h2]
  rw [show Lib.pow10Tab = pow10L by decide +kernel]
theorem s17 (n : Int) (h : R64 n) : sp17 n (Lib.itoa n) := by
  refine ⟨args1 (.int _ _), .str _, ⟨⟨Tryd.f17, Tryd.func17, rfl, by decide⟩, fun K w vs hh hl hv => ?_⟩⟩
  obtain ⟨v0, rfl⟩ : ∃ v0, vs = [v0] := by
    match vs, hl with
    | [a], _ => exact ⟨a, rfl⟩
  have h0 := hv 0 _ v0 rfl rfl
  cases h0
  simp only [R64] at h
  refine (Any.strconv_Itoa iL n (by omega) (by omega) w (rows_pow hh.limb.t)).mono ?_
  rintro en w' ⟨rfl, k, os, rfl⟩
  have hb : Below w.heap.size w (Sort.grow (w.drewN k) os) := by
    refine ⟨rfl, rfl, rfl, by simp [Sort.grow, World.drewN], fun b hb => ?_⟩
    simp only [Sort.grow, World.drewN]
    rw [Array.getElem?_append_left hb]
  obtain ⟨K', st, hh'⟩ := below_step hh hb
  exact ⟨_, .str _, K', _, rfl, st, hh', .str _, rfl⟩
theorem s42 (s : List UInt8) (n : Int) (hl : s.length ≤ 18) (h : Lib.atoi s = some n) : PCall Tryd.prog 42 [.str s] (.tuple [ii n, .nilif]) := by
  refine ⟨args1 (.str _), .tuple _ (args2 (.int _ _) .nilif), ⟨⟨Tryd.f42, Tryd.func42, rfl, by decide⟩, fun K w vs hh hl' hv => ?_⟩⟩
  obtain ⟨v0, rfl⟩ : ∃ v0, vs = [v0] := by
    match vs, hl' with
    | [a], _ => exact ⟨a, rfl⟩
  have h0 := hv 0 _ v0 rfl rfl
  cases h0
  refine (Any.strconv_Atoi aL ⟨s.toArray⟩ n (by simpa [ByteArray.size] using hl) (by simpa using h) w).mono ?_
  rintro en w' ⟨rfl, t, rfl⟩
  obtain ⟨K', st, hh'⟩ := below_step hh (Lib.bytesWorld_below w _ t)
  refine ⟨_, .tuple [ii n, .nilif], K', _, rfl, st, hh', .tuple [ii n, .nilif] [_, _] rfl (fun j x v hx hv => ?_), rfl⟩
  match j with
  | 0 => simp at hx hv; subst hx; subst hv; exact .int _ _
  | 1 => simp at hx hv; subst hx; subst hv; exact .nilif
  | j + 2 => simp at hx
theorem flat_str : ∀ (l : List (List UInt8)), flat (l.map eStr) = l.map HV.str
  | [] => rfl
  | a :: l => by simp only [List.map_cons, flat_cons, flat_str l]; rfl
theorem s18 (xs : List (List UInt8)) (sep : List UInt8) (hN : xs.length ≤ 140737488355328) (hlen : (Lib.join xs sep).length ≤ 140737488355328) : sp18 xs sep (Lib.join xs sep) := by
  refine ⟨args2 (pv_lst enc_str xs .none (by simp)) (.str _), .str _, ⟨⟨Tryd.f18, Tryd.func18, rfl, by decide⟩, fun K w vs hh hl hv => ?_⟩⟩
  obtain ⟨v0, v1, rfl⟩ : ∃ v0 v1, vs = [v0, v1] := by
    match vs, hl with
    | [a, b], _ => exact ⟨a, b, rfl⟩
  have h0 := hv 0 _ v0 rfl rfl
  have h1 := hv 1 _ v1 rfl rfl
  cases h1
  have none : ∀ ad c, xs = [] → v0 = .slice ad 0 c → Calls Tryd.prog 18 #[v0, .string ⟨sep.toArray⟩] w fun en w' => ∃ (v : Value) (x : HV) (K' : GK) (h' : Heap), en = .returned v ∧ Step K w K' w' ∧ HeapRel K' h' w' ∧ V K' w' x v ∧ x.strip1 = zg18 (Lib.join xs sep) := by
    rintro ad c rfl rfl
    refine (Any.strings_Join_none jL jX ad c ⟨sep.toArray⟩ w).mono ?_
    rintro en w' ⟨rfl, rfl⟩
    exact ⟨_, .str [], K, _, rfl, .refl K w', hh, .str _, rfl⟩
  simp only [ln] at h0
  generalize hm : xs.map eStr = m at h0
  cases h0 with
  | nil _ _ => exact none _ _ (List.map_eq_nil_iff.1 hm) rfl
  | list0 _ _ ad => exact none _ _ (List.map_eq_nil_iff.1 hm) rfl
  | list _ _ b o cap sz vals hw hleaf hv' hc hl' hcap ht =>
    subst hm
    rw [flat_str, List.length_map] at hc hl'
    rw [List.length_map] at hcap
    rcases Nat.eq_zero_or_pos xs.length with hz | hpos
    · exact none (some ⟨b, o, Option.none⟩) cap (List.eq_nil_of_length_eq_zero hz) (by simp [hz])
    have hlb := hl' hpos
    have hb : b < w.heap.size := by
      rcases Nat.lt_or_ge b w.heap.size with h1 | h1
      · exact h1
      · rw [hh.limb b h1] at hlb; omega
    have hx : (xs.map fun x => (⟨x.toArray⟩ : ByteArray)).map (·.data.toList) = xs := by simp [List.map_map, Function.comp_def]
    have := Any.strings_Join jL jX b o cap (xs.map fun x => ⟨x.toArray⟩) ⟨sep.toArray⟩ w (fun j x hj => ?_) hb (by simpa using hN) (by simpa using hcap) (by rw [hx]; exact hlen)
    · rw [hx] at this
      simp only [List.length_map] at this ⊢
      refine this.mono ?_
      rintro en w' ⟨rfl, hbl⟩
      obtain ⟨K', st, hh'⟩ := below_step hh hbl
      exact ⟨_, .str (Lib.join xs sep), K', _, rfl, st, hh', .str _, rfl⟩
    · rw [List.getElem?_map] at hj
      obtain ⟨y, hy, rfl⟩ := Option.map_eq_some_iff.1 hj
      have h3 := hv' j (.str y) (by rw [flat_str, List.getElem?_map, hy]; rfl)
      have h4 := hc j (lt_of_get hy)
      rw [h4]
      generalize vals j = u at h3
      cases h3
      rfl
end Go.Hw.VX

