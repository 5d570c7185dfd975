import Derived.Test.YthogcmalebekkaaHwRen2
set_option linter.unusedVariables false
set_option linter.unusedSimpArgs false
namespace Go.Hw.VR
open Go Go.Proofs

abbrev zeroV : Vl := ⟨0, 0, [], []⟩
abbrev zeroX : GEx := ⟨0, 0, [], [], [], [], [], 0⟩
theorem firstsOf {q : Pr} {b' z' : Bool} {S' : List F9} {g' : F9} (hq : Prog q b' z' S' g') : ∃ vq : F9 → Vl, ∀ j, sp18 q (tyF j) (vq j, 0) ∧ okV (kb b') z' (vq j) (ctF j) = true :=
  Classical.skolem.1 fun j => s18 hq.datas (kb_or b') (ct_low j)

theorem s51 {q : Pr} {b' z' : Bool} {S' : List F9} {g' : F9} (hq : Prog q b' z' S' g') : sp51 q [65] (⟨[65], S'.map nmF, S'.map tyF, tyF g', zeroX⟩, true) := by
  obtain ⟨body, ha⟩ := hq.actors
  have h70 := s70 ⟨[65], S'.map nmF, S'.map tyF, tyF g', body⟩ [65]
  rw [if_pos rfl] at h70
  have h6 := hq.few
  refine ok51 q [65] _ ⟨_, by rw [ha]; exact h70, fun h => by simp at h, fun _ => ?_⟩
  rw [ha]
  refine ⟨by simp, fun a4 h4 => ⟨by simp, fun a5 h5 => ?_⟩⟩
  simp at h4 h5; subst h4; subst h5
  refine ⟨_, s72 (by simp; omega), by simp, fun a7 h7 => ?_⟩
  simp at h7; subst h7
  refine ⟨_, s73 (by simp; omega) (fun t ht => ?_), by simp, fun a9 h9 => ?_⟩
  · obtain ⟨i, -, rfl⟩ := List.mem_map.1 ht
    exact s74 (ctF i)
  simp at h9; subst h9
  refine ⟨_, by rw [ty_eta]; exact s74 (ctF g'), ?_⟩
  simp only [ty_eta]
  rfl

def fldF (S : List F9) (vq : F9 → Vl) (j : F9) : Fd := if j ∈ S then ⟨fidx (fun s => nmF j == s) (S.map nmF), zeroV⟩ else ⟨-1, vq j⟩
theorem s52 {p q : Pr} {b z b' z' : Bool} {S S' : List F9} {g g' : F9} (hp : Prog p b z S g) (hq : Prog q b' z' S' g') {vq : F9 → Vl} (hv : ∀ j, sp18 q (tyF j) (vq j, 0) ∧ okV (kb b') z' (vq j) (ctF j) = true)
    (body : GEx) (j : F9) : sp52 p q ⟨[65], S.map nmF, S.map tyF, tyF g, body⟩ (nmF j) (tyF j) (if j ∈ S ∧ outB b z b' z' (tyF j) (tyF j) ≠ some true then (⟨0, zeroV⟩, 12) else (fldF S vq j, 0)) := by
  have h6 := hp.few
  refine ok52 p q _ (nmF j) (tyF j) _ ⟨_, s36 (S.map nmF) (nmF j) (by simp; omega), ?_⟩
  rcases pos_cases hp.once j with ⟨hj, a, ha, hal, hpos⟩ | ⟨hj, hpos⟩
  · rw [hpos]
    refine ⟨False, ⟨fun _ => ⟨fun _ => ⟨⟨by omega, by simp; omega⟩, fun t ht => ?_⟩, fun h => by simp at h; omega⟩, fun h => by omega⟩, fun h => h.elim⟩
    simp only [Int.toNat_natCast, List.getElem?_map, ha, Option.map_some, Option.some.injEq] at ht
    subst ht
    obtain ⟨r, o1, -⟩ := out_sym b z b' z' (ty_mem j) (ty_mem j)
    refine ⟨r, by rw [ty_eta]; exact s13b hp.datas hq.datas o1, fun hf => ?_, fun ht => ?_⟩
    · have : r = false := by simpa using hf
      subst this
      rw [if_pos ⟨hj, by rw [o1]; simp⟩]
    · have : r = true := by simpa using ht
      subst this
      rw [if_neg (fun h => h.2 o1)]
      unfold fldF
      rw [if_pos hj, hpos]
  · rw [hpos]
    refine ⟨True, ⟨fun h => by omega, fun _ => trivial⟩, fun _ => ⟨_, by rw [ty_eta]; exact (hv j).1, fun h => absurd rfl h, fun _ => ?_⟩⟩
    rw [if_neg (fun h => hj h.1)]
    unfold fldF
    rw [if_neg hj, vl_eta]

def lostF (S S' : List F9) (vq : F9 → Vl) : List Int := ((List.range S.length).filter fun i : Nat => !((S'.map (fldF S vq)).any fun f => f.From == (i : Int))).map Int.ofNat
def moveF (S S' : List F9) (vq : F9 → Vl) : Mv := ⟨[65], S.length, S'.map (fldF S vq), lostF S S' vq⟩
def Okay (b z b' z' : Bool) (S S' : List F9) (g g' : F9) : Prop := outB b z b' z' (tyF g) (tyF g') = some true ∧ ∀ j ∈ S', j ∈ S → outB b z b' z' (tyF j) (tyF j) = some true
theorem s33 {p q : Pr} {b z b' z' : Bool} {S S' : List F9} {g g' : F9} (hp : Prog p b z S g) (hq : Prog q b' z' S' g') {vq : F9 → Vl} (hv : ∀ j, sp18 q (tyF j) (vq j, 0) ∧ okV (kb b') z' (vq j) (ctF j) = true)
    (body : GEx) (r : Mv × Int) (hr : (Okay b z b' z' S S' g g' ∧ r = (moveF S S' vq, 0)) ∨ (¬ Okay b z b' z' S S' g g' ∧ r = (noMove, 12))) : sp33 p q ⟨[65], S.map nmF, S.map tyF, tyF g, body⟩ r := by
  have h6 := hp.few
  have h6' := hq.few
  refine ok33 p q _ r ⟨_, s51 hq, fun h => by simp at h, fun _ => ⟨fun h => by simp at h, fun _ => ⟨fun h => by simp at h, fun _ => ?_⟩⟩⟩
  obtain ⟨t, o1, -⟩ := out_sym b z b' z' (ty_mem g) (ty_mem g')
  refine ⟨t, by rw [ty_eta, ty_eta]; exact s13b hp.datas hq.datas o1, fun hf => ?_, fun ht => ?_⟩
  · have : t = false := by simpa using hf
    subst this
    rcases hr with ⟨h, -⟩ | ⟨-, rfl⟩
    · have h1 := h.1
      rw [o1] at h1; exact absurd h1 (by simp)
    · rfl
  have htt : t = true := by simpa using ht
  subst htt
  refine ⟨fun vs i => 0 ≤ i ∧ i ≤ S'.length ∧ vs = (S'.map (fldF S vq)).take i.toNat ∧ ∀ a : Nat, (a : Int) < i → ∀ j, S'[a]? = some j → j ∈ S → outB b z b' z' (tyF j) (tyF j) = some true, fun _ i => ((S'.length : Int) - i).toNat, ⟨by omega, by omega, by simp, fun a h => by omega⟩, ?_⟩
  rintro vs i ⟨i0, i1, rfl, i2⟩ w rfl
  refine ⟨fun hi => ?_, fun hi => ?_⟩
  · simp at hi
    have hj : S'[i.toNat]? = some (S'[i.toNat]'(by omega)) := List.getElem?_eq_getElem (by omega)
    generalize S'[i.toNat]'(by omega) = j at hj
    refine ⟨⟨i0, by simpa using hi⟩, fun nm hnm => ⟨⟨i0, by simpa using hi⟩, fun ty hty => ?_⟩⟩
    rw [List.getElem?_map, hj] at hnm hty
    injection hnm with hnm; subst hnm
    injection hty with hty; subst hty
    refine ⟨_, by simp only [ty_eta]; exact s52 hp hq hv body j, fun hne => ?_, fun he => ?_⟩
    · by_cases hc : j ∈ S ∧ outB b z b' z' (tyF j) (tyF j) ≠ some true
      · rw [if_pos hc]
        rcases hr with ⟨h, -⟩ | ⟨-, rfl⟩
        · exact absurd (h.2 j (List.mem_of_getElem? hj) hc.1) hc.2
        · rfl
      · rw [if_neg hc] at hne; exact absurd rfl hne
    · by_cases hc : j ∈ S ∧ outB b z b' z' (tyF j) (tyF j) ≠ some true
      · rw [if_pos hc] at he; simp at he
      · rw [if_neg hc]
        have hm : (S'.map (fldF S vq))[i.toNat]? = some (fldF S vq j) := by rw [List.getElem?_map, hj]; rfl
        refine ⟨?_, ?_⟩
        · simp only [List.length_take, List.length_singleton, List.length_map]; omega
        rintro _ rfl
        refine ⟨by unfold R64; omega, ?_⟩
        rintro _ rfl
        refine ⟨⟨by omega, by omega, ?_, fun a ha k hk hkS => ?_⟩, by simp only; omega⟩
        · rw [(at_nat i0 hm).2.1]; simp only [vl_eta]
        · by_cases hai : (a : Int) < i
          · exact i2 a hai k hk hkS
          · have : a = i.toNat := by omega
            subst this
            rw [hj] at hk; injection hk with hk; subst hk
            exact Classical.byContradiction fun hno => hc ⟨hkS, hno⟩
  · simp at hi
    have hok : Okay b z b' z' S S' g g' := by
      refine ⟨o1, fun j hj hjS => ?_⟩
      obtain ⟨a, ha⟩ := List.getElem?_of_mem hj
      exact i2 a (by have := (List.getElem?_eq_some_iff.1 ha).1; omega) j ha hjS
    rcases hr with ⟨-, rfl⟩ | ⟨h, -⟩
    · rw [all_nat (l := S'.map (fldF S vq)) (i := i) (by simp; omega)]
      refine ⟨fun vs c => 0 ≤ c ∧ c ≤ S.length ∧ vs = ((List.range c.toNat).filter fun i : Nat => !((S'.map (fldF S vq)).any fun f => f.From == (i : Int))).map Int.ofNat, fun _ c => ((S.length : Int) - c).toNat, ⟨by omega, by omega, rfl⟩, ?_⟩
      rintro vs c ⟨c0, c1, rfl⟩ w rfl
      refine ⟨fun hc => ?_, fun hc => ?_⟩
      · simp at hc
        have hrange : List.range (c + 1).toNat = List.range c.toNat ++ [c.toNat] := by
          rw [show (c + 1).toNat = c.toNat + 1 by omega, List.range_succ]
        refine ⟨_, s53 _ c (by simp; omega), fun hf => ?_, fun ht => ?_⟩
        · have hf' : ((S'.map (fldF S vq)).any fun f => f.From == c) = false := by simpa using hf
          refine ⟨?_, ?_⟩
          · simp only [List.length_map, List.length_singleton]
            have := List.length_filter_le (fun i : Nat => !((S'.map (fldF S vq)).any fun f => f.From == (i : Int))) (List.range c.toNat)
            simp only [List.length_range] at this
            omega
          rintro _ rfl
          refine ⟨by unfold R64; omega, ?_⟩
          rintro _ rfl
          refine ⟨⟨by omega, by omega, ?_⟩, by simp only; omega⟩
          rw [hrange, List.filter_append, List.map_append]
          congr 1
          simp only [List.filter_cons, List.filter_nil, Int.toNat_of_nonneg c0, hf', Bool.not_false, if_true, List.map_cons, List.map_nil]
          simp [Int.toNat_of_nonneg c0]
        · have ht' : ((S'.map (fldF S vq)).any fun f => f.From == c) = true := by simpa using ht
          refine ⟨by unfold R64; omega, ?_⟩
          rintro _ rfl
          refine ⟨⟨by omega, by omega, ?_⟩, by simp only; omega⟩
          rw [hrange, List.filter_append, List.map_append]
          simp only [List.filter_cons, List.filter_nil, Int.toNat_of_nonneg c0, ht', Bool.not_true, Bool.false_eq_true, if_false, List.map_nil, List.append_nil]
      · simp at hc
        have : c = S.length := by omega
        subst this
        show (GMv.mk [65] ((S.map nmF).length : Int) _ _, (0 : Int)) = _
        unfold moveF lostF
        simp only [List.length_map, Int.toNat_natCast]
    · exact absurd hok h
theorem s19 {p q : Pr} {b z b' z' : Bool} {S S' : List F9} {g g' : F9} (hp : Prog p b z S g) (hq : Prog q b' z' S' g') {vq : F9 → Vl} (hv : ∀ j, sp18 q (tyF j) (vq j, 0) ∧ okV (kb b') z' (vq j) (ctF j) = true)
    (r : Wy × Int) (hr : (Okay b z b' z' S S' g g' ∧ r = (⟨[moveF S S' vq]⟩, 0)) ∨ (¬ Okay b z b' z' S S' g g' ∧ r = (⟨[]⟩, 12))) : sp19 p q r := by
  obtain ⟨body, ha⟩ := hp.actors
  refine ok19 p q r ⟨fun vs i => (i = 0 ∧ vs = []) ∨ (i = 1 ∧ Okay b z b' z' S S' g g' ∧ vs = [moveF S S' vq]), fun _ i => (1 - i).toNat, .inl ⟨rfl, rfl⟩, ?_⟩
  intro vs i hI w hw
  have hl : p.Actors.length = 1 := by rw [ha]; rfl
  rcases hI with ⟨rfl, rfl⟩ | ⟨rfl, hok, rfl⟩
  · have : w = true := by rw [hw, hl]; rfl
    subst this
    refine ⟨fun _ => ⟨⟨by omega, by omega⟩, fun a h => ?_⟩, fun h => by cases h⟩
    rw [ha] at h; simp at h; subst h
    rcases hr with ⟨hok, rfl⟩ | ⟨hno, rfl⟩
    · refine ⟨_, by simp only [ty_eta]; exact s33 hp hq hv _ _ (.inl ⟨hok, rfl⟩), fun h => absurd rfl h, fun _ => ⟨by simp, ?_⟩⟩
      rintro _ rfl
      refine ⟨by unfold R64; omega, ?_⟩
      rintro _ rfl
      exact ⟨.inr ⟨rfl, hok, rfl⟩, by simp⟩
    · exact ⟨_, by simp only [ty_eta]; exact s33 hp hq hv _ _ (.inr ⟨hno, rfl⟩), fun _ => rfl, fun h => by simp at h⟩
  · have : w = false := by rw [hw, hl]; rfl
    subst this
    refine ⟨fun h => (by cases h), fun _ => ?_⟩
    rcases hr with ⟨-, rfl⟩ | ⟨hno, -⟩
    · rfl
    · exact absurd hok hno
theorem s20 {p : Pr} {b z : Bool} {S : List F9} {g : F9} (hp : Prog p b z S g) {l : List Int} (hl : ∀ x ∈ l, R64 x) (hll : l.length ≤ 2 ^ 62) :
    ∃ vals : List Vl, vals.length = S.length ∧ (∀ (i : Nat) (j : F9), S[i]? = some j → ∃ v, vals[i]? = some v ∧ okV (kb b) z v (ctF j) = true) ∧ sp20 p l ⟨[65], vals, []⟩ := by
  obtain ⟨body, ha⟩ := hp.actors
  have h6 := hp.few
  obtain ⟨vals, h1, h2⟩ := each (List.range S.length) (fun i v => ∀ j, S[i]? = some j → sp14 p (tyF j) (l.drop (min l.length i)) 0 v ∧ okV (kb b) z v (ctF j) = true) (fun i hi => by
    have hlt : i < S.length := List.mem_range.1 hi
    obtain ⟨v, v1, v2⟩ := s14 (l := l.drop (min l.length i)) hp.datas (kb_or b) s29' (fun x hx => hl x (List.mem_of_mem_drop hx)) (ct_low S[i])
    refine ⟨v, fun j hj => ?_⟩
    rw [List.getElem?_eq_getElem hlt] at hj
    injection hj with hj
    subst hj
    exact ⟨v1, v2⟩)
  have h3 : ∀ (i : Nat) (j : F9), S[i]? = some j → ∃ v, vals[i]? = some v ∧ sp14 p (tyF j) (l.drop (min l.length i)) 0 v ∧ okV (kb b) z v (ctF j) = true := by
    intro i j hj
    have hlt := (List.getElem?_eq_some_iff.1 hj).1
    obtain ⟨v, v1, v2⟩ := h2 i i (by simp [hlt])
    exact ⟨v, v1, v2 j hj⟩
  simp only [List.length_range] at h1
  refine ⟨vals, h1, fun i j hj => ?_, ?_⟩
  · obtain ⟨v, v1, v2, v3⟩ := h3 i j hj
    exact ⟨v, v1, v3⟩
  refine ok20 p l _ ⟨by rw [ha]; simp, fun a hh => ?_⟩
  rw [ha] at hh; simp at hh; subst hh
  refine ⟨fun us i => 0 ≤ i ∧ i ≤ S.length ∧ us = vals.take i.toNat, fun _ i => ((S.length : Int) - i).toNat, ⟨by omega, by omega, by simp⟩, ?_⟩
  rintro us i ⟨i0, i1, rfl⟩ w rfl
  refine ⟨fun hi => ?_, fun hi => ?_⟩
  · simp at hi
    refine ⟨⟨i0, by simpa using hi⟩, fun t ht => ?_⟩
    rw [List.getElem?_map] at ht
    obtain ⟨j, hj, rfl⟩ := Option.map_eq_some_iff.1 ht
    obtain ⟨v, v1, v2, v3⟩ := h3 _ _ hj
    rintro _ rfl
    refine ⟨by omega, ?_⟩
    rintro _ rfl
    have e : (l.take ((l.length : Int) : Int).toNat).drop (min (l.length : Int) i).toNat = l.drop (min l.length i.toNat) := by
      rw [Int.toNat_natCast, List.take_length]
      congr 1
      omega
    refine ⟨v, by rw [ty_eta, e]; exact v2, ?_, ?_⟩
    · simp only [List.length_take, List.length_singleton]; omega
    rintro _ rfl
    refine ⟨by unfold R64; omega, ?_⟩
    rintro _ rfl
    refine ⟨⟨by omega, by omega, ?_⟩, by simp only; omega⟩
    rw [(at_nat i0 v1).2.1]
  · simp at hi
    show GSv.mk [65] (vals.take i.toNat) [] = _
    rw [all_nat (by omega)]
theorem move_fine {S S' : List F9} (hS : S.Nodup) (h6 : S.length ≤ 6) (h6' : S'.length ≤ 6) (vq : F9 → Vl) : Fine (moveF S S' vq) := by
  refine ⟨⟨by simp [moveF], by simp [moveF]; omega⟩, ⟨?_, fun i hi => ?_⟩, ⟨by simp [moveF]; omega, fun f hf => ?_⟩⟩
  · have := List.length_filter_le (fun i : Nat => !((S'.map (fldF S vq)).any fun f => f.From == (i : Int))) (List.range S.length)
    simp only [List.length_range] at this
    simp only [moveF, lostF, List.length_map]
    omega
  · simp only [moveF, lostF, List.mem_map, List.mem_filter, List.mem_range] at hi
    obtain ⟨a, ⟨ha, -⟩, rfl⟩ := hi
    simp only [moveF, Int.ofNat_eq_natCast]
    omega
  · obtain ⟨j, -, rfl⟩ := List.mem_map.1 hf
    unfold fldF
    rcases pos_cases hS j with ⟨hj, a, ha, hal, hpos⟩ | ⟨hj, hpos⟩
    · rw [if_pos hj, hpos]
      right
      simp only [moveF]
      omega
    · rw [if_neg hj]
      exact .inl rfl
end Go.Hw.VR

