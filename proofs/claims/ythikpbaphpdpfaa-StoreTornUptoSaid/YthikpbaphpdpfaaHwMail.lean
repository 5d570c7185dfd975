import Derived.Test.YthikpbaphpdpfaaHwVal4
import Derived.Test.YthikpbaphpdpfaaHwM1
set_option linter.unusedVariables false
set_option linter.unusedSimpArgs false
namespace Go.Hw.VB
open Go Go.Proofs

abbrev Lt := GaLetter
abbrev Inp := GaInput
abbrev Sv := GaSaved
abbrev Pc := GaParcel
theorem dec_t {p : Prop} [Decidable p] (h : p) : true = decide p := (decide_eq_true h).symm
theorem dec_f {p : Prop} [Decidable p] (h : ¬ p) : false = decide p := (decide_eq_false h).symm
theorem dec_b {p : Prop} [Decidable p] {b : Bool} (h : b = true ↔ p) : b = decide p := by
  rw [Bool.eq_iff_iff, h, decide_eq_true_iff]
theorem leta (x : Lt) : GaLetter.mk x.Kind x.From x.To x.Num x.Text (GaValue.mk x.Value.Kind x.Value.Num x.Value.Text x.Value.Args) = x := by rw [eta]
theorem ieta (x : Inp) : GaInput.mk x.Kind (GaValue.mk x.Value.Kind x.Value.Num x.Value.Text x.Value.Args) = x := by rw [eta]
def VOk (v : Vl) : Prop := nodes v ≤ B ∧ AllV NumOk v
def zeroB (v : Vl) : Bool := v.Kind == 0 && v.Num == 0 && v.Text == [] && v.Args.length == 0
theorem zeroB_iff (v : Vl) : zeroB v = true ↔ v = zeroV := by
  cases v
  simp [zeroB, zeroV, and_assoc]
theorem zero_call (v : Vl) : sp89 v (zeroB v) := by
  refine ok89 _ _ ?_
  unfold w89 zeroB
  simp only [Bool.false_eq_true, if_false, len0]
  refine ⟨fun h1 => ⟨fun h2 => ⟨fun h3 => ?_, fun h => ?_⟩, fun h => ?_⟩, fun h => ?_⟩
  · rintro _ rfl; simp [h1, h2, h3]
  · simp [h]
  · simp [h]
  · simp [h]


def firstE {A : Type} (g : A → Int) : List A → Int
  | [] => 0
  | a :: r => if g a ≠ 0 then g a else firstE g r
theorem firstE_zero {A : Type} {g : A → Int} : ∀ {l : List A}, firstE g l = 0 ↔ ∀ a ∈ l, g a = 0
  | [] => by simp [firstE]
  | a :: r => by
    rw [firstE]
    split
    · rename_i h
      exact ⟨fun h' => absurd h' h, fun h' => absurd (h' a (by simp)) h⟩
    · rename_i h
      rw [firstE_zero]
      have h : g a = 0 := Classical.byContradiction h
      simp [h]
theorem firstE_at {A : Type} {g : A → Int} : ∀ {l : List A} {k : Nat} {a : A}, (∀ b ∈ l.take k, g b = 0) → l[k]? = some a → g a ≠ 0 → firstE g l = g a
  | [], k, a, _, h, _ => by simp at h
  | b :: l, 0, a, _, h, hn => by
    simp at h; subst h
    rw [firstE, if_pos hn]
  | b :: l, k + 1, a, hall, h, hn => by
    have hb : g b = 0 := hall b (by simp)
    rw [firstE, if_neg (by simp [hb])]
    exact firstE_at (k := k) (fun c hc => hall c (by rw [List.take_succ_cons]; exact List.mem_cons_of_mem _ hc)) (by simpa using h) hn
theorem take_snoc {A : Type} {Pr : A → Prop} {l : List A} {k : Nat} {a : A} (h : ∀ b ∈ l.take k, Pr b) (ha : l[k]? = some a) (hp : Pr a) : ∀ b ∈ l.take (k + 1), Pr b := by
  rw [List.take_add_one, ha, Option.toList_some]
  intro b hb
  rcases List.mem_append.1 hb with hb | hb
  · exact h b hb
  · simp at hb; subst hb; exact hp
theorem all_call (l : List Vl) (hl : ∀ v ∈ l, VOk v) (h63 : l.length ≤ B) : sp92 l (firstE checkE l) := by
  refine ok92 _ _ ?_
  unfold w92
  unfold B at h63
  refine ⟨fun i => ∃ k : Nat, i = k ∧ k ≤ l.length ∧ ∀ b ∈ l.take k, checkE b = 0, fun i => l.length - i.toNat, ⟨0, rfl, by omega, by simp⟩, ?_⟩
  rintro _ ⟨k, rfl, hk, hall⟩ t rfl
  refine ⟨fun h => ?_, fun h => ?_⟩
  · have hkl : k < l.length := by simp at h; omega
    refine ⟨by omega, fun a ha => ?_⟩
    have ha' : l[k]? = some a := by simpa using ha
    rw [eta]
    refine ⟨_, check_call a (hl a (List.mem_of_getElem? ha')).1, fun h => (firstE_at hall ha' h).symm, fun h => ⟨by omega, ?_⟩⟩
    rintro _ rfl
    exact ⟨⟨k + 1, by omega, by omega, take_snoc hall ha' h⟩, by dsimp only; omega⟩
  · have hkl : k = l.length := by simp at h; omega
    subst hkl
    rw [List.take_length] at hall
    exact (firstE_zero.2 hall).symm


def inpE (i : Inp) : Int := if i.Kind < 1 ∨ 3 < i.Kind ∨ (i.Kind = 3 ∧ zeroB i.Value = false) then 3 else if i.Kind = 3 then 0 else checkE i.Value
def checkSF (s : Sv) : Int :=
  if s.Actor.length = 0 ∨ 16 < s.Actor.length then 3 else if 6 < s.State.length ∨ 2000 < s.Inputs.length then 2 else
  if firstE checkE s.State ≠ 0 then firstE checkE s.State else firstE inpE s.Inputs
structure SOk (s : Sv) : Prop where
  st : ∀ v ∈ s.State, VOk v
  inp : ∀ i ∈ s.Inputs, VOk i.Value
  n1 : s.State.length ≤ B
  n2 : s.Inputs.length ≤ B
theorem checkS_call (s : Sv) (hs : SOk s) : sp59 s (checkSF s) := by
  refine ok59 _ _ ?_
  unfold w59 checkSF
  have n2 := hs.n2
  unfold B at n2
  refine ⟨fun h => by rw [if_pos (.inl (by omega))], fun h1 => ⟨fun h => by rw [if_pos (.inr (by omega))], fun h2 => ⟨fun h => ?_, fun h3 => ⟨fun h => ?_, fun h4 => ?_⟩⟩⟩⟩
  · rw [if_neg (by omega), if_pos (.inl (by omega))]
  · rw [if_neg (by omega), if_pos (.inr (by omega))]
  · rw [if_neg (by omega), if_neg (by omega)]
    refine ⟨_, all_call s.State hs.st hs.n1, fun h => by rw [if_pos h], fun h => ?_⟩
    rw [if_neg (by simpa using h)]
    refine ⟨fun i => ∃ k : Nat, i = k ∧ k ≤ s.Inputs.length ∧ ∀ b ∈ s.Inputs.take k, inpE b = 0, fun i => s.Inputs.length - i.toNat, ⟨0, rfl, by omega, by simp⟩, ?_⟩
    rintro _ ⟨k, rfl, hk, hall⟩ t rfl
    refine ⟨fun h => ?_, fun h => ?_⟩
    · have hkl : k < s.Inputs.length := by simp at h; omega
      refine ⟨by omega, fun a ha => ?_⟩
      have ha' : s.Inputs[k]? = some a := by simpa using ha
      have hv := hs.inp a (List.mem_of_getElem? ha')
      rw [eta]
      refine ⟨fun t => t = decide (a.Kind < 1 ∨ 3 < a.Kind ∨ (a.Kind = 3 ∧ zeroB a.Value = false)), ⟨fun h => by simp [h], fun h1 => ⟨fun h => by simp [h], fun h2 => ⟨fun h3 => ⟨_, zero_call a.Value, ?_⟩, fun h3 => ?_⟩⟩⟩, ?_⟩
      · exact dec_b (by simp [h3])
      · exact dec_f (by omega)
      · rintro _ rfl
        refine ⟨fun h => ?_, fun h => ?_⟩
        · have e : inpE a = 3 := by unfold inpE; rw [if_pos (by simpa using h)]
          rw [firstE_at hall ha' (by rw [e]; decide), e]
        · have hn : ¬ (a.Kind < 1 ∨ 3 < a.Kind ∨ (a.Kind = 3 ∧ zeroB a.Value = false)) := by simpa using h
          refine ⟨fun h3 => ⟨by omega, ?_⟩, fun h3 => ⟨_, check_call a.Value hv.1, fun h => ?_, fun h => ⟨by omega, ?_⟩⟩⟩
          · rintro _ rfl
            exact ⟨⟨k + 1, by omega, by omega, take_snoc hall ha' (by unfold inpE; rw [if_neg hn, if_pos h3])⟩, by dsimp only; omega⟩
          · have e : inpE a = checkE a.Value := by unfold inpE; rw [if_neg hn, if_neg h3]
            rw [firstE_at hall ha' (by rw [e]; exact h), e]
          · rintro _ rfl
            exact ⟨⟨k + 1, by omega, by omega, take_snoc hall ha' (by unfold inpE; rw [if_neg hn, if_neg h3]; exact h)⟩, by dsimp only; omega⟩
    · have hkl : k = s.Inputs.length := by simp at h; omega
      subst hkl
      rw [List.take_length] at hall
      exact (firstE_zero.2 hall).symm
def badL (x : Lt) : Prop := x.Kind < 1 ∨ 5 < x.Kind ∨ (x.Text ≠ [] ∧ ¬ (x.Kind = 2 ∨ x.Kind = 5)) ∨ (x.Num ≠ 0 ∧ x.Kind ≠ 2) ∨ x.Num < 0 ∨ x.Num > 2
instance (x : Lt) : Decidable (badL x) := by unfold badL; infer_instance
def checkLF (x : Lt) : Int :=
  if 4000 < x.Text.length then 2 else if x.From < 0 ∨ x.To < 0 ∨ badL x then 3 else if x.Kind = 1 then checkE x.Value else if zeroB x.Value then 0 else 3
theorem checkL_call (x : Lt) (hx : VOk x.Value) : sp46 x (checkLF x) := by
  refine ok46 _ _ ?_
  unfold w46 checkLF
  refine ⟨fun h => by rw [if_pos (by omega)], fun h1 => ?_⟩
  rw [if_neg (by omega)]
  refine ⟨fun h => by rw [if_pos (.inl h)], fun h2 => ⟨fun h => by rw [if_pos (.inr (.inl h))], fun h3 => ?_⟩⟩
  refine ⟨fun t => t = decide (x.Kind = 2 ∨ x.Kind = 5), ⟨fun h => by simp [h], fun h => ?_⟩, ?_⟩
  · rintro _ rfl
    rw [Bool.eq_iff_iff]; simp [h]
  rintro _ rfl
  refine ⟨fun t => t = decide (badL x), ⟨fun h => ?_, fun h4 => ⟨fun h => ?_, fun h5 => ?_⟩⟩, ?_⟩
  · exact dec_t (.inl h)
  · exact dec_t (.inr (.inl h))
  · refine ⟨fun t => t = decide (x.Text ≠ [] ∧ ¬ (x.Kind = 2 ∨ x.Kind = 5)), ⟨fun h => ?_, fun h => by simp [h]⟩, ?_⟩
    · exact dec_b (by simp [h])
    · rintro _ rfl
      refine ⟨fun h => ?_, fun h6 => ⟨fun h7 => ⟨fun h => ?_, fun h8 => ⟨fun h => ?_, fun h9 => ?_⟩⟩, fun h7 => ⟨fun h => ?_, fun h9 => ?_⟩⟩⟩
      · rw [h]; exact dec_t (.inr (.inr (.inl (by simpa using h))))
      · exact dec_t (.inr (.inr (.inr (.inl ⟨h7, h⟩))))
      · exact dec_t (.inr (.inr (.inr (.inr (.inl h)))))
      · rintro _ rfl
        have h6' : ¬ (x.Text ≠ [] ∧ ¬ (x.Kind = 2 ∨ x.Kind = 5)) := by simpa using h6
        refine dec_b ?_
        rw [decide_eq_true_iff]
        unfold badL
        constructor
        · intro h; exact .inr (.inr (.inr (.inr (.inr h))))
        · rintro (h | h | h | h | h | h)
          · omega
          · omega
          · exact absurd h h6'
          · exact absurd h8 h.2
          · omega
          · exact h
      · exact dec_t (.inr (.inr (.inr (.inr (.inl h)))))
      · rintro _ rfl
        have h6' : ¬ (x.Text ≠ [] ∧ ¬ (x.Kind = 2 ∨ x.Kind = 5)) := by simpa using h6
        refine dec_b ?_
        rw [decide_eq_true_iff]
        unfold badL
        constructor
        · intro h; exact .inr (.inr (.inr (.inr (.inr h))))
        · rintro (h | h | h | h | h | h)
          · omega
          · omega
          · exact absurd h h6'
          · exact absurd h7 h.1
          · omega
          · exact h
  · rintro _ rfl
    rw [eta]
    refine ⟨fun h => by rw [if_pos (.inr (.inr (by simpa using h)))], fun h => ?_⟩
    have hn : ¬ badL x := by simpa using h
    rw [if_neg (by rintro (h | h | h); omega; omega; exact hn h)]
    refine ⟨fun h => ⟨_, check_call x.Value hx.1, by rw [if_pos h]⟩, fun h => ⟨_, zero_call x.Value, fun h' => ?_, fun h' => ?_⟩⟩
    · rw [if_neg h, if_neg (by simpa using h')]
    · rw [if_neg h, if_pos (by simpa using h')]
def numE (l : List Int) : Prop := ∃ n ∈ l, n < 1
open Classical in
noncomputable def checkPF (p : Pc) : Int :=
  if p.Ref < 1 ∨ p.Ticks < -1 then 3 else if 60 < p.Box.length ∨ 1000 < p.Watches.length ∨ 1000 < p.Links.length then 2 else
  if checkSF p.Saved ≠ 0 then checkSF p.Saved else if firstE checkLF p.Box ≠ 0 then firstE checkLF p.Box else if numE p.Watches ∨ numE p.Links then 3 else 0
structure POk (p : Pc) : Prop where
  sv : SOk p.Saved
  box : ∀ x ∈ p.Box, VOk x.Value
theorem checkP_call (p : Pc) (hp : POk p) : sp49 p (checkPF p) := by
  refine ok49 _ _ ?_
  unfold w49 checkPF
  refine ⟨fun h => by rw [if_pos (.inl h)], fun h1 => ⟨fun h => by rw [if_pos (.inr h)], fun h2 => ?_⟩⟩
  rw [if_neg (by omega)]
  refine ⟨fun h => by rw [if_pos (.inl (by omega))], fun h3 => ⟨fun h => by rw [if_pos (.inr (.inl (by omega)))], fun h4 => ⟨fun h => by rw [if_pos (.inr (.inr (by omega)))], fun h5 => ?_⟩⟩⟩
  rw [if_neg (by omega)]
  refine ⟨_, checkS_call p.Saved hp.sv, fun h => by rw [if_pos h], fun h => ?_⟩
  rw [if_neg (by simpa using h)]
  refine ⟨fun i => ∃ k : Nat, i = k ∧ k ≤ p.Box.length ∧ ∀ b ∈ p.Box.take k, checkLF b = 0, fun i => p.Box.length - i.toNat, ⟨0, rfl, by omega, by simp⟩, ?_⟩
  rintro _ ⟨k, rfl, hk, hall⟩ t rfl
  refine ⟨fun h => ?_, fun h => ?_⟩
  · have hkl : k < p.Box.length := by simp at h; omega
    refine ⟨by omega, fun a ha => ?_⟩
    have ha' : p.Box[k]? = some a := by simpa using ha
    rw [leta]
    refine ⟨_, checkL_call a (hp.box a (List.mem_of_getElem? ha')), fun h => ?_, fun h => ⟨by omega, ?_⟩⟩
    · have := firstE_at hall ha' h
      rw [if_pos (by rw [this]; exact h), this]
    · rintro _ rfl
      exact ⟨⟨k + 1, by omega, by omega, take_snoc hall ha' h⟩, by dsimp only; omega⟩
  · have hkl : k = p.Box.length := by simp at h; omega
    subst hkl
    rw [List.take_length] at hall
    rw [if_neg (by simpa using firstE_zero.2 hall)]
    refine ⟨fun i => (i = 0 ∨ i = 1 ∨ i = 2) ∧ (1 ≤ i → ¬ numE p.Watches) ∧ (2 ≤ i → ¬ numE p.Links), fun i => (2 - i).toNat, ⟨.inl rfl, by omega, by omega⟩, ?_⟩
    rintro i ⟨hi, hw, hl⟩ t rfl
    refine ⟨fun h => ?_, fun h => ?_⟩
    · have hi2 : i < 2 := by simpa using h
      refine ⟨fun l => (i = 0 ∧ l = p.Watches) ∨ (i = 1 ∧ l = p.Links), ⟨by omega, fun h => .inl ⟨h, rfl⟩, fun h => .inr ⟨h, rfl⟩⟩, ?_⟩
      rintro l hil
      have hlen : l.length ≤ 1000 := by rcases hil with ⟨_, rfl⟩ | ⟨_, rfl⟩ <;> omega
      refine ⟨fun j => ∃ k : Nat, j = k ∧ k ≤ l.length ∧ ∀ n ∈ l.take k, ¬ n < 1, fun j => l.length - j.toNat, ⟨0, rfl, by omega, by simp⟩, ?_⟩
      rintro _ ⟨k, rfl, hk, hall⟩ t rfl
      refine ⟨fun h => ?_, fun h => ?_⟩
      · have hkl : k < l.length := by simp at h; omega
        refine ⟨by omega, fun a ha => ?_⟩
        have ha' : l[k]? = some a := by simpa using ha
        refine ⟨fun h => ?_, fun h => ⟨by omega, ?_⟩⟩
        · have hne : numE l := ⟨a, List.mem_of_getElem? ha', h⟩
          rw [if_pos (by rcases hil with ⟨_, rfl⟩ | ⟨_, rfl⟩; exact .inl hne; exact .inr hne)]
        · rintro _ rfl
          exact ⟨⟨k + 1, by omega, by omega, take_snoc hall ha' (by omega)⟩, by dsimp only; omega⟩
      · have hkl : k = l.length := by simp at h; omega
        subst hkl
        rw [List.take_length] at hall
        have hne : ¬ numE l := fun ⟨n, h1, h2⟩ => hall n h1 h2
        refine ⟨by omega, ?_⟩
        rintro _ rfl
        refine ⟨⟨by omega, fun h => ?_, fun h => ?_⟩, by dsimp only; omega⟩
        · rcases hil with ⟨_, rfl⟩ | ⟨h1, _⟩
          · exact hne
          · exact hw (by omega)
        · rcases hil with ⟨h1, _⟩ | ⟨_, rfl⟩
          · omega
          · exact hne
    · have hi2 : ¬ i < 2 := by simpa using h
      rw [if_neg (by rintro (h | h); exact hw (by omega) h; exact hl (by omega) h)]


def encL (x : Lt) : List UInt8 := UInt8.ofNat (x.Kind % 256).toNat :: (leb x.From.toNat ++ (leb x.To.toNat ++ (leb x.Num.toNat ++ ((leb x.Text.length ++ x.Text) ++ (if x.Kind = 1 then enc x.Value else [])))))
theorem check_len {v : Vl} (hv : VOk v) (hc : checkE v = 0) : (enc v).length ≤ 1612400 ∧ AllV (fun v => NumOk v ∧ v.Args.length ≤ B) v := by
  have h0 : nodes v ≤ 400 ∧ depth v ≤ 40 ∧ long v ≤ 4000 := by
    unfold checkE at hc
    split at hc
    · cases hc
    · omega
  have hlen := enc_len v hv.2 hv.1 h0.2.2
  refine ⟨by omega, ?_⟩
  have : ∀ v : Vl, nodes v ≤ B → AllV NumOk v → AllV (fun v => NumOk v ∧ v.Args.length ≤ B) v := by
    refine vl_ind fun v ih h1 h2 => ?_
    obtain ⟨h3, h4⟩ := (allv_iff v).1 h2
    rw [nodes_eq] at h1
    have := len_nodes v.Args
    exact (allv_iff v).2 ⟨⟨h3, by omega⟩, fun a ha => ih a ha (by have := mem_nodes ha; omega) (h4 a ha)⟩
  exact this v hv.1 hv.2
structure LOk (x : Lt) : Prop where
  v : VOk x.Value
  from_ : x.From ≤ 9223372036854775807
  to : x.To ≤ 9223372036854775807
theorem checkL_zero {x : Lt} (h : checkLF x = 0) : x.Text.length ≤ 4000 ∧ 0 ≤ x.From ∧ 0 ≤ x.To ∧ ¬ badL x ∧ (x.Kind = 1 → checkE x.Value = 0) ∧ (x.Kind ≠ 1 → x.Value = zeroV) := by
  unfold checkLF at h
  split at h
  · cases h
  · split at h
    · cases h
    · rename_i h1 h2
      refine ⟨by omega, by omega, by omega, fun hb => h2 (.inr (.inr hb)), fun hk => ?_, fun hk => ?_⟩
      · rw [if_pos hk] at h; exact h
      · rw [if_neg hk] at h
        split at h
        · rename_i hz; exact (zeroB_iff _).1 hz
        · cases h
theorem encL_len {x : Lt} (hx : LOk x) (h : checkLF x = 0) : (encL x).length ≤ 1616441 := by
  obtain ⟨h1, h2, h3, h4, h5, h6⟩ := checkL_zero h
  have f1 := hx.from_
  have f2 := hx.to
  have e1 := leb_10 (n := x.From.toNat) (by omega)
  have e2 := leb_10 (n := x.To.toNat) (by omega)
  have h4' : 0 ≤ x.Num ∧ x.Num ≤ 2 := by unfold badL at h4; omega
  have e3 := leb_10 (n := x.Num.toNat) (by omega)
  have e4 := leb_10 (n := x.Text.length) (by omega)
  have e5 : (if x.Kind = 1 then enc x.Value else []).length ≤ 1612400 := by
    split
    · rename_i hk; exact (check_len hx.v (h5 hk)).1
    · simp
  unfold encL
  simp only [List.length_cons, List.length_append]
  omega
theorem letter_w (b : List UInt8) (x : Lt) (hx : LOk x) (h : checkLF x = 0) (hb : (b ++ encL x).length ≤ B) : sp47 ⟨b⟩ x ⟨b ++ encL x⟩ := by
  obtain ⟨h1, h2, h3, h4, h5, h6⟩ := checkL_zero h
  have f1 := hx.from_
  have f2 := hx.to
  have h4' : 0 ≤ x.Num ∧ x.Num ≤ 2 := by unfold badL at h4; omega
  have hb' := hb
  unfold encL B at hb'
  simp only [List.length_append, List.length_cons] at hb'
  refine ok47 _ _ _ ?_
  unfold w47
  rintro _ rfl
  rw [wrap_u8]
  refine ⟨by simp only [List.mem_singleton]; rintro _ rfl; omega, by simp; omega, ?_⟩
  rintro _ rfl
  simp only [List.map_cons, List.map_nil]
  rintro _ rfl
  have g1 : IntKind.wrap .u64 x.From = (x.From.toNat : Int) := by rw [wrap_u64]; omega
  have g2 : IntKind.wrap .u64 x.To = (x.To.toNat : Int) := by rw [wrap_u64]; omega
  have g3 : IntKind.wrap .u64 x.Num = (x.Num.toNat : Int) := by rw [wrap_u64]; omega
  rw [g1]
  refine ⟨_, nat_call _ _ (by omega) (by unfold B; simp only [List.length_append, List.length_cons, List.length_nil]; omega), ?_⟩
  rintro _ rfl
  rw [g2]
  refine ⟨_, nat_call _ _ (by omega) (by unfold B; simp only [List.length_append, List.length_cons, List.length_nil]; omega), ?_⟩
  rintro _ rfl
  rw [g3]
  refine ⟨_, nat_call _ _ (by omega) (by unfold B; simp only [List.length_append, List.length_cons, List.length_nil]; omega), _, text_call _ _ (by unfold B; simp only [List.length_append, List.length_cons, List.length_nil]; omega), ?_⟩
  rw [eta]
  refine ⟨fun hk => ?_, fun hk => ?_⟩
  · rw [if_pos hk] at hb'
    refine ⟨_, value_call x.Value (check_len hx.v (h5 hk)).2 _ (by unfold B; simp only [List.length_append, List.length_cons, List.length_nil]; omega), ?_⟩
    unfold encL
    rw [if_pos hk]
    simp only [List.append_assoc, List.cons_append, List.nil_append]
  · unfold encL
    rw [if_neg hk]
    simp only [List.append_assoc, List.cons_append, List.nil_append, List.append_nil]
def encI (i : Inp) : List UInt8 := UInt8.ofNat (i.Kind % 256).toNat :: (if i.Kind ≠ 3 then enc i.Value else [])
def catL {A : Type} (e : A → List UInt8) (l : List A) : List UInt8 := (l.map e).flatten
theorem catL_snoc {A : Type} (e : A → List UInt8) (l : List A) (k : Nat) (a : A) (h : l[k]? = some a) : catL e (l.take (k + 1)) = catL e (l.take k) ++ e a := by
  rw [List.take_add_one, h, Option.toList_some]
  simp [catL]
theorem catL_le {A : Type} (e : A → List UInt8) (l : List A) (k : Nat) : (catL e (l.take k)).length ≤ (catL e l).length := by
  have h : catL e l = catL e (l.take k) ++ catL e (l.drop k) := by
    rw [catL, catL, catL, ← List.flatten_append, ← List.map_append, List.take_append_drop]
  rw [h, List.length_append]
  omega
theorem catL_len {A : Type} {e : A → List UInt8} {m : Nat} : ∀ {l : List A}, (∀ a ∈ l, (e a).length ≤ m) → (catL e l).length ≤ l.length * m
  | [], _ => by simp [catL]
  | a :: l, h => by
    have h1 := h a (by simp)
    have h2 := catL_len (l := l) fun b hb => h b (by simp [hb])
    have h3 : catL e (a :: l) = e a ++ catL e l := by simp [catL]
    rw [h3, List.length_append, List.length_cons, Nat.add_mul]
    omega
def encS (s : Sv) : List UInt8 := (leb s.Actor.length ++ s.Actor) ++ ((leb s.State.length ++ encs s.State) ++ (leb s.Inputs.length ++ catL encI s.Inputs))
theorem inpE_zero {i : Inp} (h : inpE i = 0) : 1 ≤ i.Kind ∧ i.Kind ≤ 3 ∧ (i.Kind = 3 → i.Value = zeroV) ∧ (i.Kind ≠ 3 → checkE i.Value = 0) := by
  unfold inpE at h
  split at h
  · cases h
  · rename_i hn
    refine ⟨by omega, by omega, fun hk => ?_, fun hk => ?_⟩
    · refine (zeroB_iff _).1 ?_
      cases hz : zeroB i.Value with
      | true => rfl
      | false => exact absurd (.inr (.inr ⟨hk, hz⟩)) hn
    · rw [if_neg hk] at h; exact h
theorem checkS_zero {s : Sv} (h : checkSF s = 0) : (1 ≤ s.Actor.length ∧ s.Actor.length ≤ 16) ∧ s.State.length ≤ 6 ∧ s.Inputs.length ≤ 2000 ∧ (∀ v ∈ s.State, checkE v = 0) ∧ ∀ i ∈ s.Inputs, inpE i = 0 := by
  unfold checkSF at h
  split at h
  · cases h
  · split at h
    · cases h
    · split at h
      · rename_i hn; exact absurd h hn
      · rename_i h1 h2 h3
        exact ⟨by omega, by omega, by omega, firstE_zero.1 (Classical.byContradiction h3), firstE_zero.1 h⟩
theorem encI_len {i : Inp} (hv : VOk i.Value) (h : inpE i = 0) : (encI i).length ≤ 1612401 := by
  obtain ⟨_, _, _, h4⟩ := inpE_zero h
  unfold encI
  split
  · rename_i hk
    have := (check_len hv (h4 hk)).1
    simp only [List.length_cons]; omega
  · simp
theorem encs_catL : ∀ l : List Vl, encs l = catL enc l
  | [] => by rw [encs]; rfl
  | a :: r => by rw [encs, encs_catL r]; simp [catL]
theorem encS_len {s : Sv} (hs : SOk s) (h : checkSF s = 0) : (encS s).length ≤ 4000000000 := by
  obtain ⟨h1, h2, h3, h4, h5⟩ := checkS_zero h
  have e1 := leb_10 (n := s.Actor.length) (by omega)
  have e2 := leb_10 (n := s.State.length) (by omega)
  have e3 := leb_10 (n := s.Inputs.length) (by omega)
  have e4 : (encs s.State).length ≤ 6 * 1612400 := by
    rw [encs_catL]
    exact Nat.le_trans (catL_len fun a ha => (check_len (hs.st a ha) (h4 a ha)).1) (Nat.mul_le_mul_right _ h2)
  have e5 : (catL encI s.Inputs).length ≤ 2000 * 1612401 := Nat.le_trans (catL_len fun a ha => encI_len (hs.inp a ha) (h5 a ha)) (Nat.mul_le_mul_right _ h3)
  unfold encS
  simp only [List.length_append]
  omega
theorem saved_w (b : List UInt8) (s : Sv) (hs : SOk s) (h : checkSF s = 0) (hb : (b ++ encS s).length ≤ B) : sp51 ⟨b⟩ s ⟨b ++ encS s⟩ := by
  obtain ⟨h1, h2, h3, h4, h5⟩ := checkS_zero h
  have hb' := hb
  unfold encS B at hb'
  simp only [List.length_append] at hb'
  refine ok51 _ _ _ ?_
  unfold w51
  refine ⟨_, text_call _ _ (by unfold B; simp only [List.length_append]; omega), _, values_of (fun a ha => value_call a (check_len (hs.st a ha) (h4 a ha)).2) _ (by unfold B; simp only [List.length_append]; omega) (by unfold B; omega), ?_⟩
  rintro _ rfl
  have g1 : IntKind.wrap .u64 (s.Inputs.length : Int) = (s.Inputs.length : Int) := by rw [wrap_u64]; omega
  rw [g1]
  refine ⟨_, nat_call _ _ (by omega) (by unfold B; simp only [List.length_append]; omega), ?_⟩
  refine ⟨fun c i => ∃ k : Nat, i = k ∧ k ≤ s.Inputs.length ∧ c = b ++ (leb s.Actor.length ++ s.Actor) ++ (leb s.State.length ++ encs s.State) ++ leb s.Inputs.length ++ catL encI (s.Inputs.take k), fun _ i => s.Inputs.length - i.toNat, ⟨0, rfl, by omega, by simp [catL]⟩, ?_⟩
  rintro _ _ ⟨k, rfl, hk, rfl⟩ t rfl
  refine ⟨fun h => ?_, fun h => ?_⟩
  · have hkl : k < s.Inputs.length := by simp at h; omega
    refine ⟨by omega, fun a ha => ?_⟩
    have ha' : s.Inputs[k]? = some a := by simpa using ha
    have hle := catL_le encI s.Inputs (k + 1)
    rw [catL_snoc encI _ k a ha', List.length_append] at hle
    obtain ⟨i1, i2, i3, i4⟩ := inpE_zero (h5 a (List.mem_of_getElem? ha'))
    have hsn := catL_snoc encI _ k a ha'
    rintro _ rfl
    rw [wrap_u8]
    have e0 : encI a = UInt8.ofNat (a.Kind % 256).toNat :: (if a.Kind ≠ 3 then enc a.Value else []) := rfl
    rw [e0] at hle hsn
    simp only [List.length_cons] at hle
    refine ⟨by simp only [List.mem_singleton]; rintro _ rfl; omega, by simp; omega, ?_⟩
    rintro _ rfl
    simp only [List.map_cons, List.map_nil]
    rw [eta]
    refine ⟨fun hk3 => ?_, fun hk3 => ⟨by omega, ?_⟩⟩
    · rw [if_pos hk3] at hle
      refine ⟨_, value_call a.Value (check_len (hs.inp a (List.mem_of_getElem? ha')) (i4 hk3)).2 _ (by unfold B; simp only [List.length_append, List.length_cons, List.length_nil]; omega), by omega, ?_⟩
      rintro _ rfl
      refine ⟨⟨k + 1, by omega, by omega, ?_⟩, by omega⟩
      rw [hsn]
      rw [if_pos hk3]
      simp only [List.append_assoc, List.cons_append, List.nil_append]
    · rintro _ rfl
      refine ⟨⟨k + 1, by omega, by omega, ?_⟩, by omega⟩
      rw [hsn]
      rw [if_neg (by simpa using hk3)]
      simp only [List.append_assoc]
  · have hkl : k = s.Inputs.length := by simp at h; omega
    subst hkl
    rw [List.take_length]
    unfold encS
    simp only [List.append_assoc]
def bytesL (x : Lt) : List UInt8 × Int := if checkLF x = 0 then (encL x, 0) else ([], checkLF x)
theorem letterB_call (x : Lt) (hx : LOk x) : sp19 x (bytesL x) := by
  refine ok19 _ _ ?_
  unfold w19 bytesL
  rw [leta]
  refine ⟨_, checkL_call x hx.v, fun h => by rw [if_neg h], fun h => ?_⟩
  have hl := encL_len hx h
  rw [if_pos h]
  exact ⟨_, letter_w [] x hx h (by simp; unfold B; omega), _, clone_call _ (by simp; unfold B; omega), by simp⟩
def lebI (n : Int) : List UInt8 := leb n.toNat
theorem numbers_w (b : List UInt8) (l : List Int) (hl : ∀ n ∈ l, 0 ≤ n ∧ n ≤ 9223372036854775807) (hb : (b ++ (leb l.length ++ catL lebI l)).length ≤ B) (h63 : l.length ≤ B) : sp53 ⟨b⟩ l ⟨b ++ (leb l.length ++ catL lebI l)⟩ := by
  have hb' := hb
  unfold B at hb' h63
  simp only [List.length_append] at hb'
  refine ok53 _ _ _ ?_
  unfold w53
  rintro _ rfl
  have g1 : IntKind.wrap .u64 (l.length : Int) = (l.length : Int) := by rw [wrap_u64]; omega
  rw [g1]
  refine ⟨_, nat_call _ _ (by omega) (by unfold B; simp only [List.length_append]; omega), ?_⟩
  refine ⟨fun c i => ∃ k : Nat, i = k ∧ k ≤ l.length ∧ c = b ++ (leb l.length ++ catL lebI (l.take k)), fun _ i => l.length - i.toNat, ⟨0, rfl, by omega, by simp [catL]⟩, ?_⟩
  rintro _ _ ⟨k, rfl, hk, rfl⟩ t rfl
  refine ⟨fun h => ?_, fun h => ?_⟩
  · have hkl : k < l.length := by simp at h; omega
    refine ⟨by omega, fun a ha => ?_⟩
    have ha' : l[k]? = some a := by simpa using ha
    have hle := catL_le lebI l (k + 1)
    have hsn := catL_snoc lebI _ k a ha'
    rw [hsn, List.length_append] at hle
    obtain ⟨a1, a2⟩ := hl a (List.mem_of_getElem? ha')
    rintro _ rfl
    have g2 : IntKind.wrap .u64 a = (a.toNat : Int) := by rw [wrap_u64]; omega
    rw [g2]
    have e0 : lebI a = leb a.toNat := rfl
    rw [e0] at hle hsn
    refine ⟨_, nat_call _ _ (by omega) (by unfold B; simp only [List.length_append]; omega), by omega, ?_⟩
    rintro _ rfl
    refine ⟨⟨k + 1, by omega, by omega, ?_⟩, by dsimp only; omega⟩
    rw [hsn]
    simp only [List.append_assoc]
  · have hkl : k = l.length := by simp at h; omega
    subst hkl
    rw [List.take_length]
def encP (p : Pc) : List UInt8 := leb p.Ref.toNat ++ (encS p.Saved ++ ((leb p.Box.length ++ catL encL p.Box) ++ (leb (zig p.Ticks) ++ ((leb p.Watches.length ++ catL lebI p.Watches) ++ (leb p.Links.length ++ catL lebI p.Links)))))
structure POk2 (p : Pc) : Prop extends POk p where
  ref : p.Ref ≤ 9223372036854775807
  ticks : I64 p.Ticks
  box2 : ∀ x ∈ p.Box, LOk x
  wa : ∀ n ∈ p.Watches, n ≤ 9223372036854775807
  li : ∀ n ∈ p.Links, n ≤ 9223372036854775807
theorem checkP_zero {p : Pc} (h : checkPF p = 0) : 1 ≤ p.Ref ∧ -1 ≤ p.Ticks ∧ p.Box.length ≤ 60 ∧ p.Watches.length ≤ 1000 ∧ p.Links.length ≤ 1000 ∧ checkSF p.Saved = 0 ∧ (∀ x ∈ p.Box, checkLF x = 0) ∧ (∀ n ∈ p.Watches, 1 ≤ n) ∧ ∀ n ∈ p.Links, 1 ≤ n := by
  unfold checkPF at h
  split at h
  · cases h
  split at h
  · cases h
  split at h
  · rename_i hn; exact absurd h hn
  split at h
  · rename_i hn; exact absurd h hn
  split at h
  · cases h
  rename_i h1 h2 h3 h4 h5
  refine ⟨by omega, by omega, by omega, by omega, by omega, Classical.byContradiction h3, firstE_zero.1 (Classical.byContradiction h4), fun n hn => ?_, fun n hn => ?_⟩
  · exact Classical.byContradiction fun hc => h5 (.inl ⟨n, hn, by omega⟩)
  · exact Classical.byContradiction fun hc => h5 (.inr ⟨n, hn, by omega⟩)
theorem checkP_of {p : Pc} (h1 : 1 ≤ p.Ref) (h2 : -1 ≤ p.Ticks) (h3 : p.Box.length ≤ 60) (h4 : p.Watches.length ≤ 1000) (h5 : p.Links.length ≤ 1000) (h6 : checkSF p.Saved = 0) (h7 : ∀ x ∈ p.Box, checkLF x = 0) (h8 : ∀ n ∈ p.Watches, 1 ≤ n) (h9 : ∀ n ∈ p.Links, 1 ≤ n) : checkPF p = 0 := by
  unfold checkPF
  rw [if_neg (by omega), if_neg (by omega), if_neg (by simpa using h6), if_neg (by simpa using firstE_zero.2 h7), if_neg]
  rintro (⟨n, hn, hc⟩ | ⟨n, hn, hc⟩)
  · have := h8 n hn; omega
  · have := h9 n hn; omega
theorem encP_len {p : Pc} (hp : POk2 p) (h : checkPF p = 0) : (encP p).length ≤ 5000000000 := by
  obtain ⟨h1, h2, h3, h4, h5, h6, h7, h8, h9⟩ := checkP_zero h
  have r1 := hp.ref
  have e1 := leb_10 (n := p.Ref.toNat) (by omega)
  have e2 := encS_len hp.sv h6
  have e3 := leb_10 (n := p.Box.length) (by omega)
  have e4 : (catL encL p.Box).length ≤ 60 * 1616441 := Nat.le_trans (catL_len fun a ha => encL_len (hp.box2 a ha) (h7 a ha)) (Nat.mul_le_mul_right _ h3)
  have e5 := leb_10 (zig_lt hp.ticks)
  have e6 := leb_10 (n := p.Watches.length) (by omega)
  have e7 := leb_10 (n := p.Links.length) (by omega)
  have nl : ∀ n : Int, n ≤ 9223372036854775807 → (lebI n).length ≤ 10 := fun n hn => leb_10 (n := n.toNat) (by omega)
  have e8 : (catL lebI p.Watches).length ≤ 1000 * 10 := Nat.le_trans (catL_len fun a ha => nl a (hp.wa a ha)) (Nat.mul_le_mul_right _ h4)
  have e9 : (catL lebI p.Links).length ≤ 1000 * 10 := Nat.le_trans (catL_len fun a ha => nl a (hp.li a ha)) (Nat.mul_le_mul_right _ h5)
  unfold encP
  simp only [List.length_append]
  omega
noncomputable def bytesP (p : Pc) : List UInt8 × Int := if checkPF p = 0 then (encP p, 0) else ([], checkPF p)
theorem parcelB_call (p : Pc) (hp : POk2 p) : sp21 p (bytesP p) := by
  refine ok21 _ _ ?_
  unfold w21 bytesP
  refine ⟨_, checkP_call p hp.toPOk, fun h => by rw [if_neg h], fun h => ?_⟩
  have hl := encP_len hp h
  rw [if_pos h]
  obtain ⟨h1, h2, h3, h4, h5, h6, h7, h8, h9⟩ := checkP_zero h
  have r1 := hp.ref
  have hl' := hl
  unfold encP at hl'
  simp only [List.length_append] at hl'
  rintro _ rfl
  have g1 : IntKind.wrap .u64 p.Ref = (p.Ref.toNat : Int) := by rw [wrap_u64]; omega
  rw [g1]
  refine ⟨_, nat_call [] _ (by omega) (by unfold B; simp only [List.length_append, List.length_nil]; omega), _, saved_w _ p.Saved hp.sv h6 (by unfold B; simp only [List.length_append, List.length_nil]; omega), ?_⟩
  rintro _ rfl
  have g2 : IntKind.wrap .u64 (p.Box.length : Int) = (p.Box.length : Int) := by rw [wrap_u64]; omega
  rw [g2]
  refine ⟨_, nat_call _ _ (by omega) (by unfold B; simp only [List.length_append, List.length_nil]; omega), ?_⟩
  refine ⟨fun c i => ∃ k : Nat, i = k ∧ k ≤ p.Box.length ∧ c = leb p.Ref.toNat ++ (encS p.Saved ++ (leb p.Box.length ++ catL encL (p.Box.take k))), fun _ i => p.Box.length - i.toNat, ⟨0, rfl, by omega, by simp [catL]⟩, ?_⟩
  rintro _ _ ⟨k, rfl, hk, rfl⟩ t rfl
  refine ⟨fun h => ?_, fun h => ?_⟩
  · have hkl : k < p.Box.length := by simp at h; omega
    refine ⟨by omega, fun a ha => ?_⟩
    have ha' : p.Box[k]? = some a := by simpa using ha
    have hle := catL_le encL p.Box (k + 1)
    have hsn := catL_snoc encL _ k a ha'
    rw [hsn, List.length_append] at hle
    rw [leta]
    refine ⟨_, letter_w _ a (hp.box2 a (List.mem_of_getElem? ha')) (h7 a (List.mem_of_getElem? ha')) (by unfold B; simp only [List.length_append, List.length_nil]; omega), by omega, ?_⟩
    rintro _ rfl
    refine ⟨⟨k + 1, by omega, by omega, ?_⟩, by dsimp only; omega⟩
    rw [hsn]
    simp only [List.append_assoc]
  · have hkl : k = p.Box.length := by simp at h; omega
    subst hkl
    rw [List.take_length]
    refine ⟨_, num_call _ _ hp.ticks (by unfold B; simp only [List.length_append, List.length_nil]; omega), _, numbers_w _ _ (fun n hn => ⟨by have := h8 n hn; omega, hp.wa n hn⟩) (by unfold B; simp only [List.length_append, List.length_nil]; omega) (by unfold B; omega), _, numbers_w _ _ (fun n hn => ⟨by have := h9 n hn; omega, hp.li n hn⟩) (by unfold B; simp only [List.length_append, List.length_nil]; omega) (by unfold B; omega), _, clone_call _ (by unfold B; simp only [List.length_append, List.length_nil]; omega), ?_⟩
    unfold encP
    simp only [List.append_assoc]
end Go.Hw.VB

