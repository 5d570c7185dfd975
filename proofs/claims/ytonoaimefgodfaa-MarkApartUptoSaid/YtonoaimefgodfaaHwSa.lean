import Derived.Test.YtonoaimefgodfaaHwMv
set_option linter.unusedVariables false
set_option linter.unusedSimpArgs false
namespace Go.Hw
open Go
variable {P : Program} {N m : Nat} {S D : CallP} {b : Nat} {r : List Op} {e e' : Env} {h h' : Heap} {Q : Env → Heap → Prop} {d : Nat} {x y z : X}

theorem g_iaT {id sz : Nat} {i : IntKind} {q : Int} {K0 K1 : Prop} (hx : x.ev e = some (.arr id 0 2 sz)) (hy : y.ev e = some (.int i q)) (hw : (0 ≤ q ∧ q < 2) ∧ (q = 0 → K0) ∧ (q = 1 → K1)) (k0 : q = 0 → K0 → HO S b r ((d, .ptr id (0 * sz)) :: e) h Q) (k1 : q = 1 → K1 → HO S b r ((d, .ptr id (1 * sz)) :: e) h Q) : HO S b (⟨some d, .op (.iaddr sz x y), none⟩ :: r) e h Q := by
  have h01 : q = 0 ∨ q = 1 := by omega
  refine g_iaA (C := True) hx hy ⟨by omega, trivial⟩ fun _ => ?_
  rcases h01 with rfl | rfl
  · exact k0 rfl (hw.2.1 rfl)
  · exact k1 rfl (hw.2.2 rfl)
theorem g_iaK {id n sz : Nat} (j : Nat) {i : IntKind} {q : Int} (hx : x.ev e = some (.arr id 0 n sz)) (hy : y.ev e = some (.int i q)) (hq : q = j) (hj : j < n) (k : HO S b r ((d, .ptr id (j * sz)) :: e) h Q) : HO S b (⟨some d, .op (.iaddr sz x y), none⟩ :: r) e h Q := by
  refine g_iaA (C := True) hx hy ⟨by omega, trivial⟩ fun _ => ?_
  subst hq
  simpa using k
theorem g_mkSA_r {j id by_ : Nat} {q : Int} {K : Prop} (hid : b + j = id) (hr : h[id]? = some .res) (hx : x.ev e = some (.int .i64 q)) (hy : y.ev e = some (.int .i64 q)) (hb : 2 * by_ ≤ 281474976710656) (hw : q = 2 ∧ K)
    (hh : h.set id (.cells [.list [] .full, .list [] .full]) = h') (k : K → HO S b r ((d, .arr id 0 2 1) :: e) h' Q) : HO S b (⟨some d, .op (.mkslice (some j) 1 by_ [.list [] .full] x y), none⟩ :: r) e h Q := by
  subst hid; subst hh
  obtain ⟨rfl, hk⟩ := hw
  have h1 := (k hk).out
  refine ⟨?_⟩
  simp only [hops, hcall, hstep, hx, hy, hnew]
  exact ⟨⟨trivial, by omega, by omega, by omega, rfl⟩, hr, h1⟩
end Go.Hw

