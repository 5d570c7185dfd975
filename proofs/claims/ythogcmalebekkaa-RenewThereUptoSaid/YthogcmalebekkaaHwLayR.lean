import Derived.Shelf.Strings.Repeat
import Derived.Test.YthogcmalebekkaaHwR1
import Derived.Test.YthogcmalebekkaaHwBelow
set_option linter.unusedVariables false
set_option linter.unusedSimpArgs false
namespace Go.Hw.VR
open Go Go.Proofs
def pρ : _root_.Go.Shelf.Ren := ⟨fun k => if k = 99 then 40 else if k = 105 then 29 else if k = 165 then 41 else if k = 166 then 42 else if k = 169 then 44 else if k = 170 then 43 else if k = 206 then 62 else if k = 212 then 39 else if k = 240 then 63 else if k = 241 then 64 else if k = 263 then 60 else if k = 264 then 61 else if k = 276 then 81 else if k = 277 then 82 else k, fun k => if k = 37 then 84 else if k = 46 then 109 else if k = 51 then 145 else if k = 53 then 148 else if k = 70 then 113 else if k = 72 then 115 else if k = 75 then 118 else if k = 76 then 119 else if k = 80 then 122 else if k = 109 then 110 else if k = 127 then 151 else if k = 148 then 149 else if k = 164 then 168 else k, fun k => k⟩
theorem pL : Lays.n105 Try.prog pρ where
  mixed := by kernel_rfl
  f99 := by kernel_rfl
  f105 := by kernel_rfl
  f165 := by kernel_rfl
  f166 := by kernel_rfl
  f169 := by kernel_rfl
  f170 := by kernel_rfl
  f206 := by kernel_rfl
  f212 := by kernel_rfl
  f240 := by kernel_rfl
  f241 := by kernel_rfl
  f263 := by kernel_rfl
  f264 := by kernel_rfl
  f276 := by kernel_rfl
  f277 := by kernel_rfl
  t0 := by kernel_rfl
  a0 := fun w => by kernel_rfl
  z0 := fun w => by kernel_rfl
  v0 := fun w => by kernel_rfl
  t3 := by kernel_rfl
  a3 := fun w => by kernel_rfl
  z3 := fun w => by kernel_rfl
  v3 := fun w => by kernel_rfl
  t4 := by kernel_rfl
  a4 := fun w => by kernel_rfl
  z4 := fun w => by kernel_rfl
  v4 := fun w => by kernel_rfl
  t5 := by kernel_rfl
  a5 := fun w => by kernel_rfl
  z5 := fun w => by kernel_rfl
  v5 := fun w => by kernel_rfl
  t9 := by kernel_rfl
  a9 := fun w => by kernel_rfl
  z9 := fun w => by kernel_rfl
  v9 := fun w => by kernel_rfl
  t20 := by kernel_rfl
  a20 := fun w => by kernel_rfl
  z20 := fun w => by kernel_rfl
  v20 := fun w => by kernel_rfl
  t37 := by kernel_rfl
  a37 := fun w => by kernel_rfl
  z37 := fun w => by kernel_rfl
  v37 := fun w => by kernel_rfl
  t46 := by kernel_rfl
  a46 := fun w => by kernel_rfl
  z46 := fun w => by kernel_rfl
  v46 := fun w => by kernel_rfl
  t51 := by kernel_rfl
  a51 := fun w => by kernel_rfl
  z51 := fun w => by kernel_rfl
  v51 := fun w => by kernel_rfl
  t53 := by kernel_rfl
  a53 := fun w => by kernel_rfl
  z53 := fun w => by kernel_rfl
  v53 := fun w => by kernel_rfl
  t70 := by kernel_rfl
  a70 := fun w => by kernel_rfl
  z70 := fun w => by kernel_rfl
  v70 := fun w => by kernel_rfl
  t72 := by kernel_rfl
  a72 := fun w => by kernel_rfl
  z72 := fun w => by kernel_rfl
  v72 := fun w => by kernel_rfl
  t75 := by kernel_rfl
  a75 := fun w => by kernel_rfl
  z75 := fun w => by kernel_rfl
  v75 := fun w => by kernel_rfl
  t76 := by kernel_rfl
  a76 := fun w => by kernel_rfl
  z76 := fun w => by kernel_rfl
  v76 := fun w => by kernel_rfl
  t109 := by kernel_rfl
  a109 := fun w => by kernel_rfl
  z109 := fun w => by kernel_rfl
  v109 := fun w => by kernel_rfl
  t127 := by kernel_rfl
  a127 := fun w => by kernel_rfl
  z127 := fun w => by kernel_rfl
  v127 := fun w => by kernel_rfl
  t146 := by kernel_rfl
  a146 := fun w => by kernel_rfl
  z146 := fun w => by kernel_rfl
  v146 := fun w => by kernel_rfl
  t148 := by kernel_rfl
  a148 := fun w => by kernel_rfl
  z148 := fun w => by kernel_rfl
  v148 := fun w => by kernel_rfl
  t164 := by kernel_rfl
  a164 := fun w => by kernel_rfl
  z164 := fun w => by kernel_rfl
  v164 := fun w => by kernel_rfl
theorem pX : Builder.Extra Try.prog pρ where
  sizeBuilder := by kernel_rfl
  liesBuilder := by kernel_rfl
  t5 := by kernel_rfl
  a5 := fun w => by kernel_rfl
  z5 := fun w => by kernel_rfl
  v5 := fun w => by kernel_rfl
  infoByte := by kernel_rfl
  cellsByte := by kernel_rfl
  sizeByte := by kernel_rfl
  neB5 := by decide
theorem s29 (s : List UInt8) (n : Nat) (h : s.length * n ≤ 1000) (hn : n ≤ 1000) : sp29 s (n : Int) (Lib.repeatL s n) := by
  refine ⟨fun x hx => ?_, .str _, ⟨⟨Try.f29, Try.func29, rfl, by decide⟩, fun K w vs hh hl hv => ?_⟩⟩
  · rcases List.mem_cons.1 hx with rfl | hx
    · exact .str _
    · rcases List.mem_cons.1 hx with rfl | hx
      · exact .int _ _
      · cases hx
  obtain ⟨v0, v1, rfl⟩ : ∃ v0 v1, vs = [v0, v1] := by
    match vs, hl with
    | [a, b], _ => exact ⟨a, b, rfl⟩
  have h0 := hv 0 _ v0 rfl rfl
  have h1 := hv 1 _ v1 rfl rfl
  cases h0
  cases h1
  have hsz : (⟨s.toArray⟩ : ByteArray).size = s.length := by simp [ByteArray.size]
  refine (Any.strings_Repeat pL pX ⟨s.toArray⟩ n w (by omega) (by rw [hsz]; omega)).mono ?_
  rintro en w' ⟨rfl, hb⟩
  obtain ⟨K', st, hh'⟩ := below_step hh hb
  exact ⟨_, .str (Lib.repeatL s n), K', _, rfl, st, hh', .str _, rfl⟩
end Go.Hw.VR

