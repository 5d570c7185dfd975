import Derived.Test.YthogcmalebekkaaHwShape2
set_option linter.unusedVariables false
set_option linter.unusedSimpArgs false
namespace Go.Hw.VR
open Go Go.Proofs
abbrev Bd := GBd
abbrev Vl := GVl
abbrev Pr := GPr
theorem vl_eta (v : Vl) : GVl.mk v.Kind v.Num v.Text v.Args = v := by cases v; rfl
theorem bd_eta (b : Bd) : GBd.mk b.t b.names b.args = b := by cases b; rfl

theorem at_nat {α : Type} {l : List α} {i : Int} {a : α} (h0 : 0 ≤ i) (h : l[i.toNat]? = some a) : i < (l.length : Int) ∧ l.take (i + 1).toNat = l.take i.toNat ++ [a] ∧ a ∈ l := by
  have h1 := (List.getElem?_eq_some_iff.1 h).1
  refine ⟨by omega, ?_, List.mem_of_getElem? h⟩
  rw [show (i + 1).toNat = i.toNat + 1 by omega, List.take_add_one, h]
  rfl
theorem all_nat {α : Type} {l : List α} {i : Int} (h0 : (l.length : Int) ≤ i) : l.take i.toNat = l := List.take_of_length_le (by omega)

def fidx {α : Type} (p : α → Bool) (l : List α) : Int := match l.findIdx? p with | some i => i | none => -1
theorem fidx_loop {α : Type} (p : α → Bool) (l : List α) : (∀ i : Nat, ∀ a, l[i]? = some a → p a = true → (∀ j < i, ∀ b, l[j]? = some b → p b = false) → fidx p l = i) ∧ ((∀ a ∈ l, p a = false) → fidx p l = -1) := by
  refine ⟨fun i a hi hp hj => ?_, fun h => ?_⟩
  · have hlt := (List.getElem?_eq_some_iff.1 hi).1
    have : l.findIdx? p = some i := by
      rw [List.findIdx?_eq_some_iff_getElem]
      refine ⟨hlt, ?_, fun j hji => ?_⟩
      · rw [(List.getElem?_eq_some_iff.1 hi).2]; exact hp
      · have hjl : j < l.length := by omega
        rw [hj j hji _ (List.getElem?_eq_getElem hjl)]; simp
    unfold fidx; rw [this]
  · have : l.findIdx? p = none := by rw [List.findIdx?_eq_none_iff]; exact h
    unfold fidx; rw [this]

theorem s36 (l : List (List UInt8)) (s : List UInt8) (hl : l.length < 2 ^ 62) : sp36 l s (fidx (fun x => s == x) l) := by
  obtain ⟨f1, f2⟩ := fidx_loop (fun x => s == x) l
  refine ok36 l s _ ⟨fun i => 0 ≤ i ∧ i ≤ l.length ∧ ∀ j : Nat, (j : Int) < i → ∀ b, l[j]? = some b → (s == b) = false, fun i => ((l.length : Int) - i).toNat, ⟨by omega, by omega, fun j hj => by omega⟩, ?_⟩
  rintro i ⟨h0, h1, h2⟩ v rfl
  refine ⟨fun hi => ?_, fun hi => ?_⟩
  · simp at hi
    refine ⟨⟨h0, hi⟩, fun a ha => ⟨fun he => ?_, fun hne => ?_⟩⟩
    · have := f1 i.toNat a ha (by simpa using he) (fun j hj b hb => h2 j (by omega) b hb)
      show i = _
      rw [this]; omega
    · refine ⟨by unfold R64; omega, ?_⟩
      rintro _ rfl
      refine ⟨⟨by omega, by omega, fun j hj b hb => ?_⟩, by simp only; omega⟩
      by_cases hji : (j : Int) < i
      · exact h2 j hji b hb
      · have : j = i.toNat := by omega
        subst this
        rw [ha] at hb; injection hb with hb; subst hb
        simpa using hne
  · simp at hi
    show (-1 : Int) = _
    rw [f2]
    intro a ha
    obtain ⟨j, hj⟩ := List.getElem?_of_mem ha
    exact h2 j (by have := (List.getElem?_eq_some_iff.1 hj).1; omega) a hj
theorem s66 (m : Mk) (s : List UInt8) : sp66 m s (m.Name == s, s) := ok66 m s _ (by rintro v rfl; simp)
theorem s83 (m : Mk) (s : List UInt8) : sp83 m s (m.Name == s, s) := ok83 m s _ (by rintro v rfl; simp)
theorem s68 (m : Da) (s : List UInt8) : sp68 m s (m.Name == s, s) := ok68 m s _ (by rintro v rfl; simp)
theorem s65 (l : List Mk) (s : List UInt8) (hl : l.length < 2 ^ 62) : sp65_66 l s (fidx (fun x => x.Name == s) l, s) := by
  obtain ⟨f1, f2⟩ := fidx_loop (fun x : Mk => x.Name == s) l
  refine ok65_66 l s _ ⟨fun t i => t = s ∧ 0 ≤ i ∧ i ≤ l.length ∧ ∀ j : Nat, (j : Int) < i → ∀ b, l[j]? = some b → (b.Name == s) = false, fun _ i => ((l.length : Int) - i).toNat, ⟨rfl, by omega, by omega, fun j hj => by omega⟩, ?_⟩
  rintro t i ⟨rfl, h0, h1, h2⟩ v rfl
  refine ⟨fun hi => ?_, fun hi => ?_⟩
  · simp at hi
    refine ⟨⟨h0, hi⟩, fun a ha => ⟨_, s66 a t, fun he => ?_, fun hne => ?_⟩⟩
    · have := f1 i.toNat a ha he (fun j hj b hb => h2 j (by omega) b hb)
      show (i, t) = _
      rw [this]; congr 1; omega
    · refine ⟨by unfold R64; omega, ?_⟩
      rintro _ rfl
      refine ⟨⟨rfl, by omega, by omega, fun j hj b hb => ?_⟩, by simp only; omega⟩
      by_cases hji : (j : Int) < i
      · exact h2 j hji b hb
      · have : j = i.toNat := by omega
        subst this
        rw [ha] at hb; injection hb with hb; subst hb
        exact hne
  · simp at hi
    show ((-1 : Int), t) = _
    rw [f2]
    intro a ha
    obtain ⟨j, hj⟩ := List.getElem?_of_mem ha
    exact h2 j (by have := (List.getElem?_eq_some_iff.1 hj).1; omega) a hj
theorem s65' (l : List Mk) (s : List UInt8) (hl : l.length < 2 ^ 62) : sp65_83 l s (fidx (fun x => x.Name == s) l, s) := by
  obtain ⟨f1, f2⟩ := fidx_loop (fun x : Mk => x.Name == s) l
  refine ok65_83 l s _ ⟨fun t i => t = s ∧ 0 ≤ i ∧ i ≤ l.length ∧ ∀ j : Nat, (j : Int) < i → ∀ b, l[j]? = some b → (b.Name == s) = false, fun _ i => ((l.length : Int) - i).toNat, ⟨rfl, by omega, by omega, fun j hj => by omega⟩, ?_⟩
  rintro t i ⟨rfl, h0, h1, h2⟩ v rfl
  refine ⟨fun hi => ?_, fun hi => ?_⟩
  · simp at hi
    refine ⟨⟨h0, hi⟩, fun a ha => ⟨_, s83 a t, fun he => ?_, fun hne => ?_⟩⟩
    · have := f1 i.toNat a ha he (fun j hj b hb => h2 j (by omega) b hb)
      show (i, t) = _
      rw [this]; congr 1; omega
    · refine ⟨by unfold R64; omega, ?_⟩
      rintro _ rfl
      refine ⟨⟨rfl, by omega, by omega, fun j hj b hb => ?_⟩, by simp only; omega⟩
      by_cases hji : (j : Int) < i
      · exact h2 j hji b hb
      · have : j = i.toNat := by omega
        subst this
        rw [ha] at hb; injection hb with hb; subst hb
        exact hne
  · simp at hi
    show ((-1 : Int), t) = _
    rw [f2]
    intro a ha
    obtain ⟨j, hj⟩ := List.getElem?_of_mem ha
    exact h2 j (by have := (List.getElem?_eq_some_iff.1 hj).1; omega) a hj
theorem s67 (l : List Da) (s : List UInt8) (hl : l.length < 2 ^ 62) : sp67_68 l s (fidx (fun x => x.Name == s) l, s) := by
  obtain ⟨f1, f2⟩ := fidx_loop (fun x : Da => x.Name == s) l
  refine ok67_68 l s _ ⟨fun t i => t = s ∧ 0 ≤ i ∧ i ≤ l.length ∧ ∀ j : Nat, (j : Int) < i → ∀ b, l[j]? = some b → (b.Name == s) = false, fun _ i => ((l.length : Int) - i).toNat, ⟨rfl, by omega, by omega, fun j hj => by omega⟩, ?_⟩
  rintro t i ⟨rfl, h0, h1, h2⟩ v rfl
  refine ⟨fun hi => ?_, fun hi => ?_⟩
  · simp at hi
    refine ⟨⟨h0, hi⟩, fun a ha => ⟨_, s68 a t, fun he => ?_, fun hne => ?_⟩⟩
    · have := f1 i.toNat a ha he (fun j hj b hb => h2 j (by omega) b hb)
      show (i, t) = _
      rw [this]; congr 1; omega
    · refine ⟨by unfold R64; omega, ?_⟩
      rintro _ rfl
      refine ⟨⟨rfl, by omega, by omega, fun j hj b hb => ?_⟩, by simp only; omega⟩
      by_cases hji : (j : Int) < i
      · exact h2 j hji b hb
      · have : j = i.toNat := by omega
        subst this
        rw [ha] at hb; injection hb with hb; subst hb
        exact hne
  · simp at hi
    show ((-1 : Int), t) = _
    rw [f2]
    intro a ha
    obtain ⟨j, hj⟩ := List.getElem?_of_mem ha
    exact h2 j (by have := (List.getElem?_eq_some_iff.1 hj).1; omega) a hj

theorem s49 {p : Pr} {k : Int} {z : Bool} (hp : p.Datas = datas k z) {s : List UInt8} {d : Da} (h : (s = [68] ∧ d = dataD k) ∨ (s = [76] ∧ d = dataL z) ∨ (s = [69] ∧ d = dataE)) : sp49 p s (d, true) := by
  refine ok49 p s _ ⟨_, s67 p.Datas s (by rw [hp]; simp [datas]), ?_⟩
  have hf : ∃ i : Nat, fidx (fun x : Da => x.Name == s) p.Datas = i ∧ p.Datas[i]? = some d := by
    rw [hp]
    rcases h with ⟨rfl, rfl⟩ | ⟨rfl, rfl⟩ | ⟨rfl, rfl⟩
    · exact ⟨0, rfl, rfl⟩
    · exact ⟨1, rfl, rfl⟩
    · exact ⟨2, rfl, rfl⟩
  obtain ⟨i, h1, h2⟩ := hf
  have hlt := (List.getElem?_eq_some_iff.1 h2).1
  rw [h1]
  refine ⟨fun h => by simp only at h; omega, fun _ => ⟨⟨by simp, by simp only; omega⟩, fun a ha => ?_⟩⟩
  simp only [Int.toNat_natCast] at ha
  rw [h2] at ha
  injection ha with ha
  subst ha
  rfl

inductive Den : Bd → CT → Prop
  | int (ns ar) : Den ⟨tOne 1, ns, ar⟩ .int
  | bool (ns ar) : Den ⟨tOne 2, ns, ar⟩ .bool
  | text (ns ar) : Den ⟨tOne 3, ns, ar⟩ .text
  | unit (ns ar) : Den ⟨tOne 4, ns, ar⟩ .unit
  | D (ns ar) : Den ⟨tD, ns, ar⟩ .D
  | E (ns ar) : Den ⟨tE, ns, ar⟩ .E
  | L (t ns ar τ) (h : Den ⟨t, ns, ar⟩ τ) : Den ⟨tL t, ns, ar⟩ (.L τ)
  | cell (t ns ar τ) (h : Den ⟨t, ns, ar⟩ τ) : Den ⟨tC t, ns, ar⟩ (.cell τ)
  | var (b τ) (h : Den b τ) : Den ⟨tA, [[97]], [b]⟩ τ
def Solid (b : Bd) : Prop := b.t.Kind ≠ 5
open Classical in
theorem den_at {b : Bd} {τ : CT} (h : Den b τ) : ∃ b', Den b' τ ∧ Solid b' ∧ sp45 b b' := by
  -- the walk down the variables
  have walk : ∀ (b : Bd) (τ : CT), Den b τ → ∃ b', Den b' τ ∧ Solid b' ∧ ∀ (Q : Bd → Prop), Q b' → w45 b Q := by
    intro b τ h
    induction h with
    | var b τ h ih =>
      obtain ⟨b', h1, h2, h3⟩ := ih
      refine ⟨b', h1, h2, fun Q hQ => ?_⟩
      obtain ⟨I, M, hI, hstep⟩ := h3 Q hQ
      refine ⟨fun kd nm ar ns bs => (kd = 5 ∧ nm = [97] ∧ ar = [] ∧ ns = [[97]] ∧ bs = [b]) ∨ (I kd nm ar ns bs ∧ M kd nm ar ns bs ≤ M b.t.Kind b.t.Name b.t.Args b.names b.args),
        fun kd nm ar ns bs => if kd = 5 ∧ nm = [97] ∧ ar = [] ∧ ns = [[97]] ∧ bs = [b] ∧ ¬ (I kd nm ar ns bs ∧ M kd nm ar ns bs ≤ M b.t.Kind b.t.Name b.t.Args b.names b.args) then M b.t.Kind b.t.Name b.t.Args b.names b.args + 1 else M kd nm ar ns bs, .inl ⟨rfl, rfl, rfl, rfl, rfl⟩, ?_⟩
      intro kd nm ar ns bs hinv
      by_cases hin : I kd nm ar ns bs ∧ M kd nm ar ns bs ≤ M b.t.Kind b.t.Name b.t.Args b.names b.args
      · obtain ⟨g1, g2⟩ := hstep kd nm ar ns bs hin.1
        refine ⟨fun h5 => ?_, g2⟩
        obtain ⟨r, r1, r2, r3⟩ := g1 h5
        refine ⟨r, r1, r2, fun h0 => ?_⟩
        obtain ⟨q1, q2⟩ := r3 h0
        refine ⟨q1, fun hlt => ?_⟩
        obtain ⟨q3, q4⟩ := q2 hlt
        refine ⟨q3, fun a ha => ?_⟩
        obtain ⟨q5, q6⟩ := q4 a ha
        have hle : M a.t.Kind a.t.Name a.t.Args a.names a.args ≤ M b.t.Kind b.t.Name b.t.Args b.names b.args := by omega
        refine ⟨.inr ⟨q5, hle⟩, ?_⟩
        dsimp only
        rw [if_neg (by rintro ⟨_, _, _, _, _, h⟩; exact h ⟨q5, hle⟩), if_neg (by rintro ⟨_, _, _, _, _, h⟩; exact h hin)]
        exact q6
      · rcases hinv with ⟨rfl, rfl, rfl, rfl, rfl⟩ | h
        · refine ⟨fun _ => ⟨0, s36 [[97]] [97] (by simp), fun h => by omega, fun _ => ⟨fun h => by simp at h, fun _ => ⟨⟨by omega, by simp⟩, fun a ha => ?_⟩⟩⟩, fun h => absurd rfl h⟩
          simp at ha
          subst ha
          refine ⟨.inr ⟨hI, Nat.le_refl _⟩, ?_⟩
          dsimp only
          rw [if_neg (by rintro ⟨_, _, _, _, _, h⟩; exact h ⟨hI, Nat.le_refl _⟩), if_pos ⟨rfl, rfl, rfl, rfl, rfl, hin⟩]
          omega
        · exact absurd h hin
    | _ =>
      all_goals
        refine ⟨_, by constructor <;> assumption, by simp [Solid, tOne, tD, tE, tL, tC], fun Q hQ => ⟨fun kd nm ar ns bs => GBd.mk ⟨kd, nm, ar⟩ ns bs = _, fun _ _ _ _ _ => 0, rfl, ?_⟩⟩
        intro kd nm ar ns bs hinv
        injection hinv with h1 h2 h3
        injection h1 with h4 h5 h6
        subst h2; subst h3; subst h4; subst h5; subst h6
        exact ⟨fun h => by simp [tOne, tD, tE, tL, tC] at h, fun _ => hQ⟩
  obtain ⟨b', h1, h2, h3⟩ := walk b τ h
  exact ⟨b', h1, h2, ok45 b b' (h3 _ rfl)⟩
end Go.Hw.VR

