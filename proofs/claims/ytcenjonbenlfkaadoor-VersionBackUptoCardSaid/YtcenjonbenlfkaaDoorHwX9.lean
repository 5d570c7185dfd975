import Derived.Test.YtcenjonbenlfkaaDoorHwX7
import Derived.Test.YtcenjonbenlfkaaDoorHwX8
import Derived.Test.YtcenjonbenlfkaaDoorHwF2
set_option linter.unusedVariables false
set_option linter.unusedSimpArgs false
namespace Go.Hw.VX
open Go Go.Proofs
theorem okT_of {r : R} (h : okR r) : okT r := h
theorem s6 {a : List R} (hc : Can a) (hl : a.length ≤ 50) : sp6 a (textA a, 0) := by
  refine ok6 _ _ ?_
  unfold w6
  refine ⟨_, s16 hc hl, fun h => absurd rfl h, fun _ => ⟨fun out i => 0 ≤ i ∧ i ≤ a.length ∧ out = (a.take i.toNat).map textF, fun _ i => ((a.length : Int) - i).toNat, ⟨by omega, by omega, by simp⟩, ?_⟩⟩
  rintro out i ⟨h0, h1, rfl⟩ v rfl
  refine ⟨fun hi => ?_, fun hi => ?_⟩
  · simp at hi
    refine ⟨⟨h0, hi⟩, fun r hr => ?_⟩
    obtain ⟨_, htk, hm⟩ := at_nat h0 hr
    have ho := hc.1 r hm
    unfold okR at ho
    refine ⟨_, s17 r.Low (by unfold R64; omega), fun x => x = textF r, ⟨fun hlt => ?_, fun hge => ?_⟩, ?_⟩
    · have q1 := itoa_len (n := r.Low) (by omega) (by omega)
      have q2 := itoa_len (n := r.High) (by omega) (by omega)
      refine ⟨_, s17 r.High (by unfold R64; omega), by simp; omega, ?_⟩
      rintro _ rfl
      refine ⟨by simp; omega, ?_⟩
      rintro _ rfl
      unfold textF
      rw [if_pos hlt]; rfl
    · unfold textF
      rw [if_neg (by omega), List.append_nil]
    · rintro _ rfl
      refine ⟨by simp [List.length_take]; omega, ?_⟩
      rintro _ rfl
      refine ⟨by unfold R64; omega, ?_⟩
      rintro _ rfl
      refine ⟨⟨by omega, by omega, ?_⟩, by simp only; omega⟩
      rw [htk, List.map_append]; rfl
  · simp at hi
    rw [all_nat (by omega)]
    have := textA_len (a := a) fun r hr => okT_of (hc.1 r hr)
    exact ⟨_, s18 _ [44] (by simp; omega) (by unfold textA at this; omega), rfl⟩
theorem s8e {a : List R} (hc : Can a) (hl : a.length ≤ 50) (h : a = []) : sp8 a (0, 0, 4) := by
  refine ok8 _ _ ?_
  unfold w8
  subst h
  exact ⟨_, s16 hc hl, fun h => absurd rfl h, fun _ => ⟨fun _ => rfl, fun h => absurd rfl h⟩⟩
theorem s8 {a : List R} (hc : Can a) (hl : a.length ≤ 50) {x y : R} (hx : a.head? = some x) (hy : a.getLast? = some y) : sp8 a (x.Low, y.High, 0) := by
  refine ok8 _ _ ?_
  unfold w8
  have hne : a.length ≠ 0 := by intro e; rw [List.eq_nil_of_length_eq_zero e] at hx; cases hx
  refine ⟨_, s16 hc hl, fun h => absurd rfl h, fun _ => ⟨fun h => by omega, fun _ => ⟨⟨by omega, by omega⟩, fun b hb => ⟨by unfold R64; omega, ?_⟩⟩⟩⟩
  rintro _ rfl
  refine ⟨⟨by omega, by omega⟩, fun d hd => ?_⟩
  have e1 : b = x := by
    have : a[0]? = some b := by simpa using hb
    rw [← List.head?_eq_getElem?, hx] at this
    injection this with this; exact this.symm
  have e2 : d = y := by
    rw [show ((a.length : Int) - 1).toNat = a.length - 1 by omega, ← List.getLast?_eq_getElem?, hy] at hd
    injection hd with hd; exact hd.symm
  rw [e1, e2]
theorem can_low {a : List R} (hc : Can a) {x : R} (hx : a.head? = some x) : inR a x.Low ∧ ¬ inR a (x.Low - 1) := by
  cases a with
  | nil => cases hx
  | cons r l =>
    obtain rfl : r = x := by simpa using hx
    have ho := hc.1 r (by simp)
    unfold okR at ho
    refine ⟨⟨r, by simp, by omega, by omega⟩, fun h => ?_⟩
    rcases (inR_cons r l _).1 h with h | h
    · omega
    · have := hc.above h; omega
theorem can_high {a : List R} (hc : Can a) {y : R} (hy : a.getLast? = some y) : inR a y.High ∧ ¬ inR a (y.High + 1) := by
  obtain ⟨l, rfl⟩ : ∃ l, a = l ++ [y] := by
    rw [List.getLast?_eq_some_iff] at hy
    exact hy
  have ho := hc.1 y (by simp)
  unfold okR at ho
  refine ⟨⟨y, by simp, by omega, by omega⟩, fun h => ?_⟩
  obtain ⟨r, hr, h1, h2⟩ := h
  rcases List.mem_append.1 hr with hr | hr
  · have := (List.pairwise_append.1 hc.2).2.2 r hr y (by simp)
    unfold gapR at this
    omega
  · obtain rfl := List.mem_singleton.1 hr
    omega
open Classical in
theorem w3_true {l : List R} (hl : ∀ r ∈ l, R64 r.Low ∧ R64 r.High) (hl2 : l.length < 2 ^ 62) : w3 l (· = true) := by
  obtain ⟨a1, a2⟩ := setOf_spec l
  have s5l := s5 hl hl2
  generalize setOf l = a at *
  have hok : ∀ r ∈ a, okT r := fun r hr => okT_of (a1.1 r hr)
  have t6 := s6 a1 (by omega)
  have t7 := s7 hok (by omega) t6
  have t9 := s9 a a (by omega)
  simp only [decide_true] at t9
  have hone : Can [(⟨1, 3⟩ : R)] := ⟨fun r hr => by obtain rfl := List.mem_singleton.1 hr; unfold okR; simp, by simp⟩
  have t61 := s6 hone (by simp)
  have e13 : textA [(⟨1, 3⟩ : R)] = [49, 45, 51] := by
    unfold textA
    rw [List.map_singleton, Lib.join_one]
    unfold textF
    rw [if_pos (by decide), itoa_pos (by decide), itoa_pos (by decide)]
    rw [Lib.decDigits_one (by decide), Lib.decDigits_one (by decide)]
    decide
  rw [e13] at t61
  have step : ∀ (e : Int × Int × Int), sp8 a e → (a = [] → e.2.2 = 4) → (a ≠ [] → e.2.2 = 0 ∧ 1 ≤ e.1 ∧ e.2.1 ≤ 9999 ∧ e.1 ≤ 9999 ∧ 1 ≤ e.2.1 ∧ inR a e.1 ∧ inR a e.2.1 ∧ ¬ inR a (e.1 - 1) ∧ ¬ inR a (e.2.1 + 1)) → w3 l (· = true) := by
    intro e t8 h4 h0
    refine ⟨_, s5l, _, t6, _, t7, _, t8, fun h => by simp at h, fun _ => ⟨fun h => absurd rfl h, fun _ => ⟨fun h => absurd rfl h, fun _ => ⟨_, t9, fun h => by simp at h, fun _ => ⟨_, t61, fun h => absurd rfl h, fun _ => ⟨fun h => absurd rfl h, fun _ => ⟨fun hz => ?_, fun hz => ?_⟩⟩⟩⟩⟩⟩⟩
    · have ha : a = [] := List.eq_nil_of_length_eq_zero (by simpa using hz)
      exact ⟨fun _ => rfl, fun h => absurd (h4 ha) h⟩
    · have ha : a ≠ [] := fun e => hz (by rw [e]; rfl)
      obtain ⟨k1, k2, k3, k4, k5, k6, k7, k8, k9⟩ := h0 ha
      refine ⟨fun _ => ⟨_, s10 a e.1 (by omega), fun _ => ⟨_, s10 a e.2.1 (by omega), fun _ => ⟨by unfold R64; omega, ?_⟩, fun h => by simp [k7] at h⟩, fun h => by simp [k6] at h⟩, fun h => absurd k1 h⟩
      rintro _ rfl
      refine ⟨_, s10 a (e.1 - 1) (by omega), fun _ => ⟨by unfold R64; omega, ?_⟩, fun h => by simp [k8] at h⟩
      rintro _ rfl
      refine ⟨_, s10 a (e.2.1 + 1) (by omega), by simp [k9]⟩
  by_cases ha : a = []
  · exact step _ (s8e a1 (by omega) ha) (fun _ => rfl) (fun h => absurd ha h)
  · obtain ⟨x, hx⟩ : ∃ x, a.head? = some x := by cases a with | nil => exact absurd rfl ha | cons r l => exact ⟨r, rfl⟩
    obtain ⟨y, hy⟩ : ∃ y, a.getLast? = some y := ⟨_, List.getLast?_eq_some_getLast ha⟩
    obtain ⟨p1, p2⟩ := can_low a1 hx
    obtain ⟨p3, p4⟩ := can_high a1 hy
    have b1 := a1.range p1
    have b2 := a1.range p3
    exact step _ (s8 a1 (by omega) hx hy) (fun h => absurd h ha) (fun _ => ⟨rfl, b1.1, b2.2, b1.2, b2.1, p1, p3, p2, p4⟩)
theorem rows_ok {W : World} (h : Lib.TabIs Tryd.prog W "internal/strconv.uint64pow10" .u64 Lib.pow10Tab) : TabOk (K0 W) W := by
  refine ⟨fun p hp => absurd hp List.not_mem_nil, fun p hp => ?_⟩
  simp only [rows, List.mem_cons, List.not_mem_nil, or_false] at hp
  subst hp
  refine ⟨fun ho => by rcases ho with ⟨i, h⟩ | ⟨i, h⟩ <;> simp [K0] at h, ?_⟩
  unfold Lib.TabIs World.var? at h
  rw [show Tryd.prog.globalNamed "internal/strconv.uint64pow10" = some 3 by kernel_rfl, Option.bind_some] at h
  split at h
  · rename_i cs e fr hb
    injection h with h
    subst h
    refine ⟨e, fr, hb.trans ?_⟩
    rw [show Lib.pow10Tab = pow10L by decide +kernel]
  · cases h
abbrev B64 (n : Int) : Prop := IntKind.i64.min ≤ n ∧ n ≤ IntKind.i64.max
theorem r64_of {n : Int} (h : B64 n) : R64 n := by
  unfold R64
  have h1 : IntKind.i64.min = -9223372036854775808 := by decide
  have h2 : IntKind.i64.max = 9223372036854775807 := by decide
  rw [B64, h1, h2] at h
  omega
theorem back_call (l : List R) (h1 : ∀ r ∈ l, B64 r.Low ∧ B64 r.High) (h2 : l.length < 2 ^ 62) : sp3 l true :=
  ok3 l _ (w3_true (fun r hr => ⟨r64_of (h1 r hr).1, r64_of (h1 r hr).2⟩) h2)
end Go.Hw.VX

