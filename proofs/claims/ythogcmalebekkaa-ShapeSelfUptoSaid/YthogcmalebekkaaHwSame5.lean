import Derived.Test.YthogcmalebekkaaHwSame4
set_option linter.unusedVariables false
set_option linter.unusedSimpArgs false
namespace Go.Hw.VR
open Go Go.Proofs

theorem kb_of (n : Int) : ∃ b, kb b = 1 + rest n 2 := by
  have hr := rest_range n (m := 2) (by omega)
  have : rest n 2 = 0 ∨ rest n 2 = 1 := by omega
  rcases this with h | h
  · exact ⟨false, by rw [h]; rfl⟩
  · exact ⟨true, by rw [h]; rfl⟩
theorem progF_kb (n : Int) : ∃ b z, (progF n).Datas = datas (kb b) z := by
  obtain ⟨b, hb⟩ := kb_of n
  exact ⟨b, _, by rw [hb]; rfl⟩
theorem mem_B2 (b : Bool) : b ∈ B2 := by cases b <;> simp [B2]
theorem out_self (b z : Bool) {a : Ty} (ha : a ∈ t9) : outB b z b z a a = some true := by
  have := chk_self
  rw [List.all_eq_true] at this
  have := this b (mem_B2 b)
  rw [List.all_eq_true] at this
  have := this z (mem_B2 z)
  rw [List.all_eq_true] at this
  simpa using this a ha
theorem out_sym (b z b' z' : Bool) {a c : Ty} (ha : a ∈ t9) (hc : c ∈ t9) : ∃ r, outB b z b' z' a c = some r ∧ outB b' z' b z c a = some r := by
  have := chk_sym
  rw [List.all_eq_true] at this
  have := this b (mem_B2 b)
  rw [List.all_eq_true] at this
  have := this z (mem_B2 z)
  rw [List.all_eq_true] at this
  have := this b' (mem_B2 b')
  rw [List.all_eq_true] at this
  have := this z' (mem_B2 z')
  rw [List.all_eq_true] at this
  have := this a ha
  rw [List.all_eq_true] at this
  have := this c hc
  simp only [Bool.and_eq_true, beq_iff_eq] at this
  obtain ⟨r, hr⟩ := Option.isSome_iff_exists.1 this.1
  exact ⟨r, hr, by rw [← this.2]; exact hr⟩
theorem datas_len (k : Int) (z : Bool) : (datas k z).length ≤ 1000 := by simp [datas]
theorem s13b {p q : Pr} {b z b' z' : Bool} (hp : p.Datas = datas (kb b) z) (hq : q.Datas = datas (kb b') z') {a c : Ty} {t : Bool} (h : outB b z b' z' a c = some t) : sp13 p q a c t :=
  s13 (f := 5) (by rw [hp]; exact datas_len _ _) (by rw [hq]; exact datas_len _ _) (by rw [hp, hq]; exact h)
theorem s13fun {p q : Pr} (hp : p.Datas.length ≤ 1000) (hq : q.Datas.length ≤ 1000) (l : List Ty) (nm : Nm) : sp13 p q ⟨7, nm, l⟩ ⟨7, nm, l⟩ false :=
  s13 (f := 1) hp hq (by simp [outE, sameN, newsE])

theorem typed9 {n : Int} (i : Int) (hi : R64 i) : ∃ a : GaActor, (progF n).Actors = [a] ∧ a.Types.length ≠ 0 ∧ ∃ r, sp12 i (a.Types.length : Int) r ∧ (0 ≤ r ∧ r < (a.Types.length : Int)) ∧ ∀ t, a.Types[r.toNat]? = some t → t ∈ t9 := by
  have hr := rest_range (n.tdiv 16) (m := 511) (by omega)
  have hb := sel_ne ⟨(rest (n.tdiv 16) 511).toNat, by omega⟩
  simp only [Int.toNat_of_nonneg hr.1] at hb
  rw [Int.add_comm] at hb
  obtain ⟨hm, -, -⟩ := sel_mem (1 + rest (n.tdiv 16) 511)
  refine ⟨_, rfl, hb, _, s12 hi ?_, rest_range _ ?_, fun t ht => hm t (List.mem_of_getElem? ht)⟩
  · show ((sel (1 + rest (n.tdiv 16) 511)).2.length : Int) ≠ 0
    omega
  · show 0 < ((sel (1 + rest (n.tdiv 16) 511)).2.length : Int)
    omega
theorem w3_true {n m i k : Int} (hn : R64 n) (hm : R64 m) (hi : R64 i) (hk : R64 k) : w3 n m i k (fun b => b = true) := by
  obtain ⟨b, z, hp⟩ := progF_kb n
  obtain ⟨b', z', hq⟩ := progF_kb m
  obtain ⟨a, ha, ha0, r, hr, hr2, ht⟩ := typed9 (n := n) i hi
  obtain ⟨c, hc, hc0, u, hu, hu2, hs⟩ := typed9 (n := m) k hk
  have hpl : (progF n).Datas.length ≤ 1000 := by rw [hp]; exact datas_len _ _
  have hql : (progF m).Datas.length ≤ 1000 := by rw [hq]; exact datas_len _ _
  have tr : r.toNat < a.Types.length := by omega
  have tu : u.toNat < c.Types.length := by omega
  have gr : a.Types[r.toNat]? = some a.Types[r.toNat] := List.getElem?_eq_getElem tr
  have gu : c.Types[u.toNat]? = some c.Types[u.toNat] := List.getElem?_eq_getElem tu
  have h9a := ht _ gr
  have h9c := hs _ gu
  generalize a.Types[r.toNat] = A at gr h9a
  generalize c.Types[u.toNat] = C at gu h9c
  refine ⟨_, s11 hn, _, s11 hm, ?_⟩
  rw [ha, hc]
  refine ⟨fun h => by simp at h, fun _ => ⟨fun h => by simp at h, fun _ => ⟨by simp, fun a7 h7 => ?_⟩⟩⟩
  simp at h7; subst h7
  refine ⟨fun h => by omega, fun _ => ⟨by simp, fun a8 h8 => ?_⟩⟩
  simp at h8; subst h8
  refine ⟨fun h => by omega, fun _ => ?_⟩
  refine ⟨fun ka na la kc nc lc => (⟨ka, na, la⟩ : Ty) = A ∧ (⟨kc, nc, lc⟩ : Ty) = C, ?_, ?_⟩
  · have x0 : (0 : Int) ≤ 0 ∧ (0 : Int) < (([a] : List GaActor).length : Int) := by simp
    have y0 : (0 : Int) ≤ 0 ∧ (0 : Int) < (([c] : List GaActor).length : Int) := by simp
    have key : (0 ≤ (0 : Int) ∧ (0 : Int) < (([a] : List GaActor).length : Int)) ∧ ∀ a16 : GaActor, ([a] : List GaActor)[((0 : Int) : Int).toNat]? = some a16 → (0 ≤ (0 : Int) ∧ (0 : Int) < (([a] : List GaActor).length : Int)) ∧ ∀ a17 : GaActor, ([a] : List GaActor)[((0 : Int) : Int).toNat]? = some a17 → ∃ r18 : Int, sp12 i (a17.Types.length : Int) r18 ∧ (0 ≤ r18 ∧ r18 < (a16.Types.length : Int)) ∧ ∀ a19 : GaType, a16.Types[(r18 : Int).toNat]? = some a19 → (0 ≤ (0 : Int) ∧ (0 : Int) < (([c] : List GaActor).length : Int)) ∧ ∀ a20 : GaActor, ([c] : List GaActor)[((0 : Int) : Int).toNat]? = some a20 → (0 ≤ (0 : Int) ∧ (0 : Int) < (([c] : List GaActor).length : Int)) ∧ ∀ a21 : GaActor, ([c] : List GaActor)[((0 : Int) : Int).toNat]? = some a21 → ∃ r22 : Int, sp12 k (a21.Types.length : Int) r22 ∧ (0 ≤ r22 ∧ r22 < (a20.Types.length : Int)) ∧ ∀ a23 : GaType, a20.Types[(r22 : Int).toNat]? = some a23 → (⟨a19.Kind, a19.Name, a19.Args⟩ : Ty) = A ∧ (⟨a23.Kind, a23.Name, a23.Args⟩ : Ty) = C := by
      refine ⟨x0, fun a16 h16 => ⟨x0, fun a17 h17 => ?_⟩⟩
      simp at h16 h17; subst h16; subst h17
      refine ⟨r, hr, hr2, fun a19 h19 => ⟨y0, fun a20 h20 => ⟨y0, fun a21 h21 => ?_⟩⟩⟩
      simp at h20 h21; subst h20; subst h21
      refine ⟨u, hu, hu2, fun a23 h23 => ?_⟩
      rw [gr] at h19; injection h19 with h19; subst h19
      rw [gu] at h23; injection h23 with h23; subst h23
      exact ⟨ty_eta _, ty_eta _⟩
    refine ⟨key, key, key, ?_⟩
    refine ⟨x0, fun a16 h16 => ⟨x0, fun a17 h17 => ?_⟩⟩
    simp at h16 h17; subst h16; subst h17
    refine ⟨r, hr, hr2, fun a19 h19 => ⟨y0, fun a20 h20 => ?_⟩⟩
    simp at h20; subst h20
    refine ⟨u, hu, y0, fun a22 h22 => ?_⟩
    simp at h22; subst h22
    refine ⟨hu2, fun a23 h23 => ?_⟩
    rw [gr] at h19; injection h19 with h19; subst h19
    rw [gu] at h23; injection h23 with h23; subst h23
    exact ⟨ty_eta _, ty_eta _⟩
  intro ka na la kc nc lc hJ
  obtain ⟨e1, e2⟩ := hJ
  rw [e1, e2, ← ha, ← hc]
  refine ⟨_, s13b hp hp (out_self b z h9a), fun _ => ?_, fun h => by cases h⟩
  obtain ⟨t, o1, o2⟩ := out_sym b z b' z' h9a h9c
  refine ⟨_, s13b hp hq o1, _, s13b hq hp o2, ?_⟩
  rintro _ rfl
  refine ⟨fun _ => ⟨_, s13fun hpl hpl [A] [], rfl⟩, fun h => by simp at h⟩


theorem self_call (n m i k : Int) (h1 : B64 n) (h2 : B64 m) (h3 : B64 i) (h4 : B64 k) : sp3 n m i k true :=
  ok3 n m i k true (w3_true (r64_of h1) (r64_of h2) (r64_of h3) (r64_of h4))
end Go.Hw.VR

