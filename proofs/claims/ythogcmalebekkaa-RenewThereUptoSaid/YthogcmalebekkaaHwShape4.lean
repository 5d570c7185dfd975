import Derived.Test.YthogcmalebekkaaHwShape3
set_option linter.unusedVariables false
set_option linter.unusedSimpArgs false
namespace Go.Hw.VR
open Go Go.Proofs

def partsR (d : Da) (b : Bd) (s : List UInt8) : List Bd × Bool :=
  if fidx (fun x : Mk => x.Name == s) d.Makes < 0 then ([], false)
  else (((d.Makes[(fidx (fun x : Mk => x.Name == s) d.Makes).toNat]?).map fun m => m.Args.map fun t => (⟨t, d.Params, b.t.Args.map fun t => ⟨t, b.names, b.args⟩⟩ : Bd)).getD [], true)
theorem fidx_lt {α : Type} (p : α → Bool) (l : List α) (h : 0 ≤ fidx p l) : fidx p l < l.length := by
  unfold fidx at h ⊢
  split
  · rename_i i hi
    have := (List.findIdx?_eq_some_iff_getElem.1 hi).1
    omega
  · rename_i hn; rw [hn] at h; simp at h
theorem s46 {p : Pr} {b : Bd} {d : Da} (hd : sp49 p b.t.Name (d, true)) (s : List UInt8) (hl : d.Params.length = b.t.Args.length) (h1 : d.Makes.length ≤ 1000) (h2 : b.t.Args.length ≤ 1000) (h3 : ∀ m ∈ d.Makes, m.Args.length ≤ 1000) : sp46 b p s (partsR d b s) := by
  refine ok46 b p s _ ⟨_, hd, _, s65 d.Makes s (by omega), fun h => by simp at h, fun _ => ⟨fun hlt => ?_, fun hge => ?_⟩⟩
  · unfold partsR; rw [if_pos hlt]
  · refine ⟨fun h => by simp only at h; omega, fun _ => ?_⟩
    simp only at hge
    have hlt := fidx_lt _ _ hge
    refine ⟨fun v i => 0 ≤ i ∧ i ≤ b.t.Args.length ∧ v = (b.t.Args.take i.toNat).map fun t => (⟨t, b.names, b.args⟩ : Bd), fun _ i => ((b.t.Args.length : Int) - i).toNat, ⟨by omega, by omega, by simp⟩, ?_⟩
    rintro v i ⟨i0, i1, rfl⟩ w rfl
    refine ⟨fun hi => ?_, fun hi => ?_⟩
    · simp at hi
      refine ⟨⟨i0, hi⟩, fun a ha => ⟨?_, ?_⟩⟩
      · simp only [List.length_map, List.length_take, List.length_singleton]; omega
      rintro _ rfl
      refine ⟨by unfold R64; omega, ?_⟩
      rintro _ rfl
      refine ⟨⟨by omega, by omega, ?_⟩, by simp only; omega⟩
      rw [(at_nat i0 ha).2.1, List.map_append, ty_eta]; rfl
    · simp at hi
      rw [all_nat (l := b.t.Args) (i := i) hi]
      refine ⟨⟨hge, hlt⟩, fun m hm => ?_⟩
      have hmm := h3 m (List.mem_of_getElem? hm)
      refine ⟨fun v i => 0 ≤ i ∧ i ≤ m.Args.length ∧ v = (m.Args.take i.toNat).map fun t => (⟨t, d.Params, b.t.Args.map fun t => ⟨t, b.names, b.args⟩⟩ : Bd), fun _ i => ((m.Args.length : Int) - i).toNat, ⟨by omega, by omega, by simp⟩, ?_⟩
      rintro v i ⟨i0, i1, rfl⟩ w rfl
      refine ⟨fun hi => ?_, fun hi => ?_⟩
      · simp at hi
        refine ⟨⟨i0, hi⟩, fun a ha => ⟨?_, ?_⟩⟩
        · simp only [List.length_map, List.length_take, List.length_singleton]; omega
        rintro _ rfl
        refine ⟨by unfold R64; omega, ?_⟩
        rintro _ rfl
        refine ⟨⟨by omega, by omega, ?_⟩, by simp only; omega⟩
        rw [(at_nat i0 ha).2.1, List.map_append, ty_eta]; rfl
      · simp at hi
        rw [all_nat (l := m.Args) (i := i) hi]
        unfold partsR
        rw [if_neg (by omega), hm]
        rfl

def partsOf (k : Int) (z : Bool) : CT → List UInt8 → Option (List CT)
  | .D, s => if s = [88] then some [.D] else if s = [89] then some [ctOf k] else if s = [90] then some [] else none
  | .L t, s => if s = [78] then some (if z then [.D] else []) else if s = [67] then some [t, .L t] else none
  | .E, s => if s = [87] then some [.L .D, .text] else none
  | .cell t, _ => some [t]
  | _, _ => some []
def kindOf : CT → Int
  | .int => 2 | .bool => 3 | .text => 4 | .unit => 1 | .D => 5 | .L _ => 5 | .E => 5 | .cell _ => 8
inductive Dens : List Bd → List CT → Prop
  | nil : Dens [] []
  | cons {b τ l m} (h : Den b τ) (t : Dens l m) : Dens (b :: l) (τ :: m)
theorem den_one {k : Int} (hk : k = 1 ∨ k = 2) (ns ar) : Den ⟨tOne k, ns, ar⟩ (ctOf k) := by
  rcases hk with rfl | rfl
  · exact .int ns ar
  · exact .bool ns ar
theorem parts_data {p : Pr} {k : Int} {z : Bool} (hp : p.Datas = datas k z) (hk : k = 1 ∨ k = 2) {b : Bd} {τ : CT} (hb : Den b τ) (hs : Solid b) (h6 : b.t.Kind = 6) (s : List UInt8) :
    ∃ r, sp46 b p s r ∧ ((partsOf k z τ s = none ∧ r.2 = false) ∨ ∃ ps, partsOf k z τ s = some ps ∧ r.2 = true ∧ Dens r.1 ps) := by
  cases hb with
  | int => simp [tOne] at h6
  | bool => simp [tOne] at h6
  | text => simp [tOne] at h6
  | unit => simp [tOne] at h6
  | cell => simp [tC] at h6
  | var => simp [tA] at h6
  | D ns ar =>
    refine ⟨_, s46 (d := dataD k) (s49 hp (.inl ⟨rfl, rfl⟩)) s rfl (by simp [dataD]) (by simp [tD]) (by simp [dataD]), ?_⟩
    by_cases h1 : s = [88]
    · subst h1
      exact .inr ⟨_, rfl, rfl, .cons (.D _ _) .nil⟩
    by_cases h2 : s = [89]
    · subst h2
      exact .inr ⟨_, rfl, rfl, .cons (den_one hk _ _) .nil⟩
    by_cases h3 : s = [90]
    · subst h3
      exact .inr ⟨_, rfl, rfl, .nil⟩
    · left
      have : fidx (fun x : Mk => x.Name == s) (dataD k).Makes = -1 := by
        refine (fidx_loop _ _).2 ?_
        intro a ha
        simp [dataD] at ha
        rcases ha with rfl | rfl | rfl <;> simp [Ne.symm h1, Ne.symm h2, Ne.symm h3]
      exact ⟨by simp [partsOf, h1, h2, h3], by unfold partsR; rw [this]; rfl⟩
  | E ns ar =>
    refine ⟨_, s46 (d := dataE) (s49 hp (.inr (.inr ⟨rfl, rfl⟩))) s rfl (by simp [dataE]) (by simp [tE]) (by simp [dataE]), ?_⟩
    by_cases h1 : s = [87]
    · subst h1
      exact .inr ⟨_, rfl, rfl, .cons (.L _ _ _ _ (.D _ _)) (.cons (.text _ _) .nil)⟩
    · left
      have : fidx (fun x : Mk => x.Name == s) dataE.Makes = -1 := by
        refine (fidx_loop _ _).2 ?_
        intro a ha
        simp [dataE] at ha
        subst ha
        simp [Ne.symm h1]
      exact ⟨by simp [partsOf, h1], by unfold partsR; rw [this]; rfl⟩
  | L t ns ar τ ht =>
    refine ⟨_, s46 (d := dataL z) (s49 hp (.inr (.inl ⟨rfl, rfl⟩))) s rfl (by simp [dataL]) (by simp [tL]) (by cases z <;> simp [dataL]), ?_⟩
    by_cases h1 : s = [78]
    · subst h1
      cases z
      · exact .inr ⟨_, rfl, rfl, .nil⟩
      · exact .inr ⟨_, rfl, rfl, .cons (.D _ _) .nil⟩
    by_cases h2 : s = [67]
    · subst h2
      exact .inr ⟨_, rfl, rfl, .cons (.var _ _ ht) (.cons (.L _ _ _ _ (.var _ _ ht)) .nil)⟩
    · left
      have : fidx (fun x : Mk => x.Name == s) (dataL z).Makes = -1 := by
        refine (fidx_loop _ _).2 ?_
        intro a ha
        simp [dataL] at ha
        rcases ha with rfl | rfl <;> simp [Ne.symm h1, Ne.symm h2]
      exact ⟨by simp [partsOf, h1, h2], by unfold partsR; rw [this]; rfl⟩
end Go.Hw.VR

