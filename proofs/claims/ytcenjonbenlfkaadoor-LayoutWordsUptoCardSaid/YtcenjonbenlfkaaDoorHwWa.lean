import Derived.Test.YtcenjonbenlfkaaDoorHwWl
set_option linter.unusedVariables false
set_option linter.unusedSimpArgs false
namespace Go.Hw.VL
open Go Go.Proofs

abbrev Pc := GLayout_Piece
def restF (x n : Int) : Int := if x < 0 then (-(x + 1)).tmod n else x.tmod n
theorem s13 (x n : Int) (hx : R64 x) (hn : 0 < n) : sp13 x n (restF x n) := by
  refine ok13 _ _ _ ?_
  simp only [R64] at hx
  unfold w13
  refine ⟨fun y => y = if x < 0 then -(x + 1) else x, ⟨fun h => ⟨by simp only [R64]; omega, ?_⟩, fun h => by rw [if_neg (by omega)]⟩, ?_⟩
  · rintro _ rfl
    refine ⟨by omega, ?_⟩
    rintro _ rfl
    rw [if_pos h]
  · rintro _ rfl
    refine ⟨by omega, ?_⟩
    rintro _ rfl
    unfold restF
    split <;> rfl
theorem restF_bound (x n : Int) (hn : 0 < n) : 0 ≤ restF x n ∧ restF x n < n := by
  have key : ∀ y : Int, 0 ≤ y → 0 ≤ y.tmod n ∧ y.tmod n < n := by
    intro y hy
    rw [Int.tmod_eq_emod_of_nonneg hy]
    exact ⟨Int.emod_nonneg _ (by omega), Int.emod_lt_of_pos _ hn⟩
  unfold restF
  split
  · exact key _ (by omega)
  · exact key _ (by omega)

def dlt (p : Pc) : Int := if p.Kind = 5 then 1 else if p.Kind = 6 then -1 else 0
def dep : List Pc → Int
  | [] => 0
  | p :: r => dlt p + dep r
theorem dep_app : ∀ a b : List Pc, dep (a ++ b) = dep a + dep b
  | [], b => by simp [dep]
  | p :: a, b => by rw [List.cons_append, dep, dep, dep_app a b]; omega
theorem dlt_bound (p : Pc) : -1 ≤ dlt p ∧ dlt p ≤ 1 := by
  unfold dlt
  split
  · omega
  · split <;> omega
structure PieceOk (p : Pc) : Prop where
  kind : 1 ≤ p.Kind ∧ p.Kind ≤ 6
  s : p.Kind ≠ 1 → p.S = []
  n : p.Kind ≠ 5 → p.N = 0
  t : p.Kind = 1 → p.S.length ≤ 4000 ∧ (10 : UInt8) ∉ p.S
  o : p.Kind = 5 → 0 ≤ p.N ∧ p.N ≤ 200
structure Good (d : List Pc) (B : Int) : Prop where
  len : d.length ≤ 8000
  ps : ∀ p ∈ d, PieceOk p
  pre : ∀ k ≤ d.length, 0 ≤ dep (d.take k) ∧ dep (d.take k) ≤ B
  zero : dep d = 0
theorem take_snoc {A : Type} {l : List A} {k : Nat} {a : A} (h : l[k]? = some a) : l.take (k + 1) = l.take k ++ [a] := by
  rw [List.take_add_one, h]; rfl
theorem drop_at {A : Type} {l : List A} {k : Nat} {a : A} (h : l[k]? = some a) : l.drop k = a :: l.drop (k + 1) := by
  obtain ⟨hk, he⟩ := List.getElem?_eq_some_iff.1 h
  rw [List.drop_eq_getElem_cons hk, he]


def endFrom : List Pc → Int → Int → Int
  | [], _, i => i
  | p :: r, dp, i => if p.Kind = 5 then endFrom r (dp + 1) (i + 1) else if p.Kind = 6 then (if dp - 1 = 0 then i else endFrom r (dp - 1) (i + 1)) else endFrom r dp (i + 1)
def endF (d : List Pc) (k : Nat) : Int := endFrom (d.drop k) 0 k
theorem endFrom_bound : ∀ (r : List Pc) (dp i : Int), i ≤ endFrom r dp i ∧ endFrom r dp i ≤ i + r.length
  | [], dp, i => by simp [endFrom]
  | p :: r, dp, i => by
    have h1 := endFrom_bound r (dp + 1) (i + 1)
    have h2 := endFrom_bound r (dp - 1) (i + 1)
    have h3 := endFrom_bound r dp (i + 1)
    simp only [endFrom, List.length_cons]
    split
    · omega
    · split
      · split <;> omega
      · omega
theorem endF_bound (d : List Pc) (k : Nat) (hk : k ≤ d.length) : (k : Int) ≤ endF d k ∧ endF d k ≤ d.length := by
  have := endFrom_bound (d.drop k) 0 k
  unfold endF
  rw [List.length_drop] at this
  omega
theorem s37 (d : List Pc) (k0 : Nat) (hk0 : k0 ≤ d.length) (hl : d.length ≤ 8000) : sp27 d k0 (endF d k0) := by
  refine ok27 _ _ _ ⟨fun dp i => ∃ k : Nat, i = k ∧ k ≤ d.length ∧ endFrom (d.drop k) dp k = endF d k0 ∧ -(k : Int) ≤ dp ∧ dp ≤ k, fun dp i => (d.length - i).toNat, ⟨k0, rfl, hk0, rfl, by omega, by omega⟩, ?_⟩
  rintro dp _ ⟨k, rfl, hk, he, h1, h2⟩
  refine ⟨fun hlt => ⟨fun y => endFrom (d.drop (k + 1)) y (k + 1) = endF d k0 ∧ -((k : Int) + 1) ≤ y ∧ y ≤ k + 1, ⟨by omega, fun a ha => ?_⟩, ?_⟩, fun hge => ?_⟩
  · have ha : d[k]? = some a := by simpa using ha
    rw [drop_at ha, endFrom] at he
    refine ⟨fun h5 => ⟨by simp only [R64]; omega, ?_⟩, fun h5 => ⟨fun h6 => ⟨by simp only [R64]; omega, ?_⟩, fun h6 => ?_⟩⟩
    · rintro _ rfl
      rw [if_pos h5] at he
      exact ⟨he, by omega, by omega⟩
    · rintro _ rfl
      rw [if_neg h5, if_pos h6] at he
      refine ⟨fun h0 => ?_, fun h0 => ?_⟩
      · rw [if_pos h0] at he; exact he
      · rw [if_neg h0] at he; exact ⟨he, by omega, by omega⟩
    · rw [if_neg h5, if_neg h6] at he
      exact ⟨he, by omega, by omega⟩
  · rintro y ⟨h3, h4, h5⟩
    refine ⟨by simp only [R64]; omega, ?_⟩
    rintro _ rfl
    exact ⟨⟨k + 1, by omega, by omega, by push_cast; exact h3, by push_cast; omega, by push_cast; omega⟩, by dsimp only; omega⟩
  · have : d.drop k = [] := List.drop_eq_nil_of_le (by omega)
    rw [this, endFrom] at he
    rw [← he]; omega
def flatF : List Pc → Int → Int
  | [], n => n
  | p :: r, n => if p.Kind = 1 then flatF r (n + p.S.length) else if p.Kind = 2 then flatF r (n + 1) else if p.Kind = 4 then -1 else flatF r n
theorem flatF_bound : ∀ (r : List Pc) (n : Int), (∀ p ∈ r, p.S.length ≤ 4000) → 0 ≤ n → -1 ≤ flatF r n ∧ flatF r n ≤ n + 4000 * r.length
  | [], n, _, h => by simp [flatF]; omega
  | p :: r, n, hp, h => by
    have h0 := hp p List.mem_cons_self
    have hr : ∀ p ∈ r, p.S.length ≤ 4000 := fun q hq => hp q (List.mem_cons_of_mem _ hq)
    have h1 := flatF_bound r (n + p.S.length) hr (by omega)
    have h2 := flatF_bound r (n + 1) hr (by omega)
    have h3 := flatF_bound r n hr h
    simp only [flatF, List.length_cons]
    split
    · omega
    · split
      · omega
      · split <;> omega
theorem s38 (d : List Pc) (hp : ∀ p ∈ d, p.S.length ≤ 4000) (hl : d.length ≤ 8000) : sp28 d (flatF d 0) := by
  refine ok28 _ _ ⟨fun n i => ∃ k : Nat, i = k ∧ k ≤ d.length ∧ flatF (d.drop k) n = flatF d 0 ∧ 0 ≤ n ∧ n ≤ 4000 * k, fun n i => (d.length - i).toNat, ⟨0, rfl, by omega, rfl, by omega, by omega⟩, ?_⟩
  rintro n _ ⟨k, rfl, hk, he, h1, h2⟩ v rfl
  refine ⟨fun hlt => ⟨by have := of_decide_eq_true hlt; omega, fun a ha => ?_⟩, fun hge => ?_⟩
  · have hlt := of_decide_eq_true hlt
    have ha : d[k]? = some a := by simpa using ha
    have hs := hp a (List.mem_of_getElem? ha)
    rw [drop_at ha, flatF] at he
    have go : ∀ m : Int, flatF (d.drop (k + 1)) m = flatF d 0 → 0 ≤ m → m ≤ 4000 * ((k : Int) + 1) → (R64 ((k : Int) + 1)) ∧ ∀ w : Int, w = (k : Int) + 1 → ((∃ k : Nat, w = k ∧ k ≤ d.length ∧ flatF (d.drop k) m = flatF d 0 ∧ 0 ≤ m ∧ m ≤ 4000 * k) ∧ (d.length - w).toNat < (d.length - (k : Int)).toNat) := by
      intro m h3 h4 h5
      refine ⟨by simp only [R64]; omega, ?_⟩
      rintro _ rfl
      exact ⟨⟨k + 1, by omega, by omega, h3, h4, by push_cast; omega⟩, by omega⟩
    refine ⟨fun hk1 => ⟨by simp only [R64]; omega, ?_⟩, fun hk1 => ⟨fun hk2 => ⟨by simp only [R64]; omega, ?_⟩, fun hk2 => ⟨fun hk4 => ?_, fun hk4 => ?_⟩⟩⟩
    · rintro _ rfl
      rw [if_pos hk1] at he
      exact go _ he (by omega) (by omega)
    · rintro _ rfl
      rw [if_neg hk1, if_pos hk2] at he
      exact go _ he (by omega) (by omega)
    · rw [if_neg hk1, if_neg hk2, if_pos hk4] at he
      exact he
    · rw [if_neg hk1, if_neg hk2, if_neg hk4] at he
      exact go _ he (by omega) (by omega)
  · have hge := of_decide_eq_false hge
    have : d.drop k = [] := List.drop_eq_nil_of_le (by omega)
    rw [this, flatF] at he
    exact he
def tailF : List Pc → Int → Int
  | [], n => n
  | p :: r, n => if p.Kind = 1 then tailF r (n + p.S.length) else if p.Kind = 2 ∨ p.Kind = 3 ∨ p.Kind = 4 then n else tailF r n
theorem tailF_bound : ∀ (r : List Pc) (n : Int), (∀ p ∈ r, p.S.length ≤ 4000) → 0 ≤ n → 0 ≤ tailF r n ∧ tailF r n ≤ n + 4000 * r.length
  | [], n, _, h => by simp [tailF]; omega
  | p :: r, n, hp, h => by
    have h0 := hp p List.mem_cons_self
    have hr : ∀ p ∈ r, p.S.length ≤ 4000 := fun q hq => hp q (List.mem_cons_of_mem _ hq)
    have h1 := tailF_bound r (n + p.S.length) hr (by omega)
    have h3 := tailF_bound r n hr h
    simp only [tailF, List.length_cons]
    split
    · omega
    · split <;> omega
theorem s39 (d : List Pc) (hp : ∀ p ∈ d, p.S.length ≤ 4000) (hl : d.length ≤ 8000) : sp29 d (tailF d 0) := by
  refine ok29 _ _ ⟨fun n i => ∃ k : Nat, i = k ∧ k ≤ d.length ∧ tailF (d.drop k) n = tailF d 0 ∧ 0 ≤ n ∧ n ≤ 4000 * k, fun n i => (d.length - i).toNat, ⟨0, rfl, by omega, rfl, by omega, by omega⟩, ?_⟩
  rintro n _ ⟨k, rfl, hk, he, h1, h2⟩ v rfl
  refine ⟨fun hlt => ⟨by have := of_decide_eq_true hlt; omega, fun a ha => ?_⟩, fun hge => ?_⟩
  · have hlt := of_decide_eq_true hlt
    have ha : d[k]? = some a := by simpa using ha
    have hs := hp a (List.mem_of_getElem? ha)
    rw [drop_at ha, tailF] at he
    have go : ∀ m : Int, tailF (d.drop (k + 1)) m = tailF d 0 → 0 ≤ m → m ≤ 4000 * ((k : Int) + 1) → (R64 ((k : Int) + 1)) ∧ ∀ w : Int, w = (k : Int) + 1 → ((∃ k : Nat, w = k ∧ k ≤ d.length ∧ tailF (d.drop k) m = tailF d 0 ∧ 0 ≤ m ∧ m ≤ 4000 * k) ∧ (d.length - w).toNat < (d.length - (k : Int)).toNat) := by
      intro m h3 h4 h5
      refine ⟨by simp only [R64]; omega, ?_⟩
      rintro _ rfl
      exact ⟨⟨k + 1, by omega, by omega, h3, h4, by push_cast; omega⟩, by omega⟩
    refine ⟨fun hk1 => ⟨by simp only [R64]; omega, ?_⟩, fun hk1 => ⟨fun b => b = decide (a.Kind = 2 ∨ a.Kind = 3 ∨ a.Kind = 4), ⟨fun h => by simp [h], fun h2' => ⟨fun h => by simp [h], fun h3' => ?_⟩⟩, ?_⟩⟩
    · rintro _ rfl
      rw [if_pos hk1] at he
      exact go _ he (by omega) (by omega)
    · rintro _ rfl
      simp [h2', h3', Bool.beq_eq_decide_eq]
    · rintro _ rfl
      rw [if_neg hk1] at he
      refine ⟨fun h => ?_, fun h => ?_⟩
      · rw [if_pos (of_decide_eq_true h)] at he
        exact he
      · rw [if_neg (of_decide_eq_false h)] at he
        exact go _ he (by omega) (by omega)
  · have hge := of_decide_eq_false hge
    have : d.drop k = [] := List.drop_eq_nil_of_le (by omega)
    rw [this, tailF] at he
    exact he

theorem s35 (d : List Pc) (hd : Good d 200) : sp25 d 0 := by
  have hlen := hd.len
  refine ok25 _ _ ⟨fun h => by omega, fun _ => ⟨fun x i => ∃ k : Nat, i = k ∧ k ≤ d.length ∧ x = dep (d.take k), fun x i => (d.length - i).toNat, ⟨0, rfl, by omega, rfl⟩, ?_⟩⟩
  rintro _ _ ⟨k, rfl, hk, rfl⟩ v rfl
  refine ⟨fun hlt => ⟨by have := of_decide_eq_true hlt; omega, fun a ha => ?_⟩, fun hge => ?_⟩
  · have hlt := of_decide_eq_true hlt
    have ha : d[k]? = some a := by simpa using ha
    have ok := hd.ps a (List.mem_of_getElem? ha)
    have hk1 := ok.kind
    have h1 := hd.pre k hk
    have h2 := hd.pre (k + 1) (by omega)
    have hsn : dep (d.take (k + 1)) = dep (d.take k) + dlt a := by rw [take_snoc ha, dep_app]; simp [dep]
    have inner : ∃ J : Bool → Prop, (((a.Kind = (1 : Int) → (((4000 : Int) < (a.S.length : Int) → J true) ∧ ((a.S.length : Int) ≤ (4000 : Int) → ∃ r : Bool, sp47 a.S [10] r ∧ J r))) ∧ (a.Kind ≠ (1 : Int) → J false))) ∧
        ∀ (v : Bool), J v → ((v = true → (3 : Int) = 0) ∧ (v = false → ((a.Kind = (5 : Int) → ((a.N < (0 : Int) → (1 : Int) = 0) ∧ ((0 : Int) ≤ a.N → (((200 : Int) < a.N → (1 : Int) = 0) ∧ (a.N ≤ (200 : Int) → True))))) ∧ (a.Kind ≠ (5 : Int) → True)))) := by
      refine ⟨fun b => b = false, ⟨fun h1 => ⟨fun h => absurd h (by have := (ok.t h1).1; omega), fun _ => ⟨_, s20 a.S, by simp [(ok.t h1).2]⟩⟩, fun _ => rfl⟩, ?_⟩
      rintro _ rfl
      refine ⟨fun h => by simp at h, fun _ => ⟨fun h5 => ?_, fun _ => trivial⟩⟩
      have := ok.o h5
      exact ⟨fun h => absurd h (by omega), fun _ => ⟨fun h => absurd h (by omega), fun _ => trivial⟩⟩
    refine ⟨True, ⟨fun h => absurd h (by omega), fun _ => ⟨fun h => absurd h (by omega), fun _ => ⟨fun hne => ⟨fun h => absurd (ok.s hne) h, fun _ => ⟨fun h5 => ⟨fun h => absurd (ok.n h5) h, fun _ => inner⟩, fun h5 => inner⟩⟩, fun h1 => ⟨fun h5 => ⟨fun h => absurd (ok.n h5) h, fun _ => inner⟩, fun h5 => inner⟩⟩⟩⟩, fun _ => ?_⟩
    refine ⟨fun y => y = dep (d.take (k + 1)), ⟨fun h5 => ⟨by simp only [R64]; omega, ?_⟩, fun h5 => ⟨fun h6 => ⟨by simp only [R64]; omega, ?_⟩, fun h6 => ?_⟩⟩, ?_⟩
    · rintro _ rfl
      rw [hsn]; simp [dlt, h5]
    · rintro _ rfl
      rw [hsn]; simp [dlt, h6]; omega
    · rw [hsn]; simp [dlt, h5, h6]
    · rintro _ rfl
      refine ⟨fun h => absurd h (by omega), fun _ => ⟨fun h => absurd h (by omega), fun _ => ⟨by simp only [R64]; omega, ?_⟩⟩⟩
      rintro _ rfl
      exact ⟨⟨k + 1, by omega, by omega, rfl⟩, by dsimp only; omega⟩
  · have hge := of_decide_eq_false hge
    have hk : d.take k = d := List.take_of_length_le (by omega)
    rw [hk, hd.zero]
    exact ⟨fun h => absurd rfl h, fun _ => rfl⟩

def pText (k : Int) (m : Int) : Pc := ⟨1, 0, Lib.repeatL [97 + UInt8.ofNat k.toNat] m.toNat⟩
def stepP (s : List Pc × Int) (n : Int) : List Pc × Int :=
  let k := restF n 9
  if k < 3 then (s.1 ++ [pText k (1 + restF (n.tdiv 9) 8)], s.2)
  else if k < 5 then (s.1 ++ [⟨2, 0, []⟩], s.2)
  else if k = 5 then (s.1 ++ [⟨3, 0, []⟩], s.2)
  else if k = 6 then (s.1 ++ [⟨5, restF (n.tdiv 9) 4, []⟩], s.2 + 1)
  else if k = 7 ∧ 0 < s.2 then (s.1 ++ [⟨6, 0, []⟩], s.2 - 1)
  else if k = 8 ∧ n.tmod 5 = 0 then (s.1 ++ [⟨4, 0, []⟩], s.2)
  else s
def accP (l : List Int) : List Pc × Int := l.foldl stepP ([], 0)
def piecesF (l : List Int) : List Pc := (accP (l.take 40)).1 ++ List.replicate (accP (l.take 40)).2.toNat ⟨6, 0, []⟩
theorem repeat_one (c : UInt8) : ∀ n : Nat, Lib.repeatL [c] n = List.replicate n c
  | 0 => rfl
  | n + 1 => by
    have := repeat_one c n
    rw [List.replicate_succ, ← this]
    rfl
theorem tdiv9 {a : Int} (h : R64 a) : R64 (a.tdiv 9) := by
  simp only [R64] at h ⊢
  rcases Int.le_total 0 a with h0 | h0
  · rw [Int.tdiv_eq_ediv_of_nonneg h0]; omega
  · obtain ⟨b, rfl⟩ : ∃ b, a = -b := ⟨-a, by omega⟩
    rw [Int.neg_tdiv, Int.tdiv_eq_ediv_of_nonneg (by omega)]; omega
structure AccOk (s : List Pc × Int) (n : Int) : Prop where
  len : (s.1.length : Int) ≤ n
  ps : ∀ p ∈ s.1, PieceOk p ∧ p.S.length ≤ 8 ∧ ((10 : UInt8) ∉ p.S ∧ (32 : UInt8) ∉ p.S)
  pre : ∀ k ≤ s.1.length, 0 ≤ dep (s.1.take k) ∧ dep (s.1.take k) ≤ n
  deep : dep s.1 = s.2
  lo : 0 ≤ s.2 ∧ s.2 ≤ n
theorem accOk_add {s : List Pc × Int} {n : Int} (h : AccOk s n) {p : Pc} (hp : PieceOk p ∧ p.S.length ≤ 8 ∧ ((10 : UInt8) ∉ p.S ∧ (32 : UInt8) ∉ p.S)) (hd : 0 ≤ s.2 + dlt p) : AccOk (s.1 ++ [p], s.2 + dlt p) (n + 1) := by
  have hb := dlt_bound p
  have := h.lo
  have h0 := h.len
  have h1 := h.deep
  have hdp : dep (s.1 ++ [p]) = s.2 + dlt p := by rw [dep_app, h1]; simp [dep]
  refine ⟨by simp; omega, fun q hq => ?_, fun k hk => ?_, hdp, ⟨hd, by dsimp only; omega⟩⟩
  · rcases List.mem_append.1 hq with hq | hq
    · exact h.ps q hq
    · rw [List.mem_singleton.1 hq]; exact hp
  · rcases Nat.lt_or_ge s.1.length k with hlt | hge
    · have : (s.1 ++ [p]).take k = s.1 ++ [p] := List.take_of_length_le (by simp at hk ⊢; omega)
      dsimp only
      rw [this, hdp]; omega
    · have : (s.1 ++ [p]).take k = s.1.take k := List.take_append_of_le_length hge
      dsimp only
      rw [this]
      have := h.pre k hge
      omega
theorem AccOk.up {s : List Pc × Int} {n m : Int} (h : AccOk s n) (hm : n ≤ m) : AccOk s m := by
  have := h.len
  have := h.lo
  exact ⟨by omega, h.ps, fun k hk => by have := h.pre k hk; omega, h.deep, by omega⟩
theorem stepP_ok {s : List Pc × Int} {n : Int} (h : AccOk s n) (x : Int) : AccOk (stepP s x) (n + 1) := by
  have hlo := h.lo
  have hb := restF_bound x 9 (by omega)
  have hb8 := restF_bound (x.tdiv 9) 8 (by omega)
  have hb4 := restF_bound (x.tdiv 9) 4 (by omega)
  unfold stepP
  dsimp only
  generalize restF x 9 = k at *
  generalize restF (x.tdiv 9) 8 = m at *
  generalize restF (x.tdiv 9) 4 = q at *
  have sk : ∀ {p : Pc}, p.Kind ≠ 5 → p.Kind ≠ 6 → dlt p = 0 := fun h5 h6 => by simp [dlt, h5, h6]
  have plain : ∀ (kd nn : Int), (2 ≤ kd ∧ kd ≤ 6) → (kd ≠ 5 → nn = 0) → (kd = 5 → 0 ≤ nn ∧ nn ≤ 200) → PieceOk ⟨kd, nn, []⟩ ∧ ([] : List UInt8).length ≤ 8 ∧ ((10 : UInt8) ∉ ([] : List UInt8) ∧ (32 : UInt8) ∉ ([] : List UInt8)) := fun kd nn h1 h2 h3 =>
    ⟨⟨by dsimp only; omega, fun _ => rfl, h2, fun h => by dsimp only at h; omega, h3⟩, by simp, by simp, by simp⟩
  split
  · rename_i hk
    have := accOk_add h (p := pText k (1 + m)) ⟨⟨by simp [pText], fun h => absurd rfl h, fun _ => rfl, fun _ => ?_, fun h => by simp [pText] at h⟩, ?_, ?_⟩ (by rw [sk (by simp [pText]) (by simp [pText])]; omega)
    · rw [sk (by simp [pText]) (by simp [pText]), Int.add_zero] at this
      exact this
    all_goals
      simp only [pText, repeat_one, List.length_replicate]
      have : k = 0 ∨ k = 1 ∨ k = 2 := by omega
      first
        | omega
        | (refine ⟨by omega, fun hm => ?_⟩
           have := List.eq_of_mem_replicate hm
           rcases this with this
           rcases ‹k = 0 ∨ k = 1 ∨ k = 2› with rfl | rfl | rfl <;> exact absurd this (by decide))
        | (refine ⟨fun hm => ?_, fun hm => ?_⟩ <;> (have := List.eq_of_mem_replicate hm; rcases ‹k = 0 ∨ k = 1 ∨ k = 2› with rfl | rfl | rfl <;> exact absurd this (by decide)))
  · split
    · have := accOk_add h (plain 2 0 (by omega) (fun _ => rfl) (fun h => by omega)) (by rw [sk (by simp) (by simp)]; omega)
      rw [sk (by simp) (by simp), Int.add_zero] at this
      exact this
    · split
      · have := accOk_add h (plain 3 0 (by omega) (fun _ => rfl) (fun h => by omega)) (by rw [sk (by simp) (by simp)]; omega)
        rw [sk (by simp) (by simp), Int.add_zero] at this
        exact this
      · split
        · exact accOk_add h (plain 5 q (by omega) (fun h => absurd rfl h) (fun _ => by omega)) (by simp [dlt]; omega)
        · split
          · rename_i h7
            exact accOk_add h (plain 6 0 (by omega) (fun _ => rfl) (fun h => by omega)) (by simp [dlt]; omega)
          · split
            · have := accOk_add h (plain 4 0 (by omega) (fun _ => rfl) (fun h => by omega)) (by rw [sk (by simp) (by simp)]; omega)
              rw [sk (by simp) (by simp), Int.add_zero] at this
              exact this
            · exact h.up (by omega)
theorem accP_ok (l : List Int) : AccOk (accP l) l.length := by
  have : ∀ (l : List Int) (s : List Pc × Int) (n : Int), AccOk s n → AccOk (l.foldl stepP s) (n + l.length) := by
    intro l
    induction l with
    | nil => intro s n h; simpa using h
    | cons x l ih =>
      intro s n h
      have := ih _ _ (stepP_ok h x)
      simp only [List.foldl_cons, List.length_cons]
      exact this.up (by push_cast; omega)
  have h0 : AccOk (([] : List Pc), (0 : Int)) 0 := ⟨by simp, fun p hp => by simp at hp, fun k hk => by simp at hk; subst hk; simp [dep], rfl, by simp⟩
  have := this l _ _ h0
  rw [Int.zero_add] at this
  exact this
theorem accP_snoc {l : List Int} {k : Nat} {a : Int} (h : l[k]? = some a) : accP (l.take (k + 1)) = stepP (accP (l.take k)) a := by
  unfold accP
  rw [take_snoc h, List.foldl_append]; rfl
theorem s11p (l : List Int) (hl : l.length ≤ 9223372036854775807) (hb : ∀ x ∈ l, R64 x) : sp11 l (piecesF l) := by
  refine ok11 _ _ ⟨fun v2 v3 v4 => (v2, v3) = accP (l.take 40), ⟨fun v6 v7 v8 => ∃ k : Nat, v8 = k ∧ k ≤ l.length ∧ k ≤ 40 ∧ (v6, v7) = accP (l.take k), fun _ _ v8 => (l.length - v8).toNat, ⟨0, rfl, by omega, by omega, rfl⟩, ?_⟩, ?_⟩
  · rintro o dp _ ⟨k, rfl, hk, hk30, he⟩ v rfl
    have ok := accP_ok (l.take k)
    rw [← he] at ok
    have hlk : (l.take k).length = k := by rw [List.length_take]; omega
    rw [hlk] at ok
    have olen := ok.len
    have olo := ok.lo
    dsimp only at olen olo
    refine ⟨fun hlt => ⟨by have := of_decide_eq_true hlt; omega, fun a ha => ⟨fun h40 => ?_, fun h40 => ?_⟩⟩, fun hge => ?_⟩
    · have : k = 40 := by omega
      subst this
      exact he
    · have hlt := of_decide_eq_true hlt
      have ha : l[k]? = some a := by simpa using ha
      have hra := hb a (List.mem_of_getElem? ha)
      have hrb := restF_bound a 9 (by omega)
      have hstep := accP_snoc ha
      rw [← he] at hstep
      have hd9 : R64 (a.tdiv 9) := tdiv9 hra
      have h8b := restF_bound (a.tdiv 9) 8 (by omega)
      unfold stepP at hstep
      dsimp only at hstep
      have go : ∀ (o' : List Pc) (dp' : Int), (o', dp') = accP (l.take (k + 1)) → (R64 ((k : Int) + (1 : Int))) ∧ ∀ v : Int, v = (k : Int) + (1 : Int) → ((∃ k : Nat, v = k ∧ k ≤ l.length ∧ k ≤ 40 ∧ (o', dp') = accP (l.take k)) ∧ (l.length - v).toNat < (l.length - (k : Int)).toNat) := by
        intro o' dp' h'
        refine ⟨by simp only [R64]; omega, ?_⟩
        rintro _ rfl
        exact ⟨⟨k + 1, by omega, by omega, by omega, h'⟩, by omega⟩
      refine ⟨_, s13 a 9 hra (by omega), ?_⟩
      generalize restF a 9 = r at *
      refine ⟨fun h3 => ⟨by simp only [R64]; omega, ?_⟩, fun h3 => ⟨fun h5 => ⟨?_, ?_⟩, fun h5 => ⟨fun h5' => ⟨?_, ?_⟩, fun h5' => ⟨fun h6 => ⟨⟨by omega, hd9⟩, ?_⟩, fun h6 => ⟨fun h7 => ⟨fun hdp => ⟨?_, ?_⟩, fun hdp => ⟨fun h8 => by omega, fun _ => ?_⟩⟩, fun h7 => ⟨fun h8 => ⟨by omega, ?_⟩, fun h8 => ?_⟩⟩⟩⟩⟩⟩
      · rintro _ rfl
        refine ⟨by simp; omega, ?_⟩
        rintro _ rfl
        refine ⟨⟨by omega, hd9⟩, ?_⟩
        rintro _ rfl
        refine ⟨_, s13 _ 8 hd9 (by omega), by simp only [R64]; omega, ?_⟩
        rintro _ rfl
        rw [if_pos h3] at hstep
        refine ⟨(pText r (1 + restF (a.tdiv 9) 8)).S, ?_, by simp; omega, ?_⟩
        rotate_left
        · rintro _ rfl
          refine go _ _ ?_
          rw [hstep]
          rfl
        · have e : ([97, 98, 99].take (r + 1).toNat).drop r.toNat = [97 + UInt8.ofNat r.toNat] := by
            have : r = 0 ∨ r = 1 ∨ r = 2 := by omega
            rcases this with rfl | rfl | rfl <;> rfl
          rw [e]
          have := s33 [97 + UInt8.ofNat r.toNat] (1 + restF (a.tdiv 9) 8).toNat (by simp; omega) (by omega)
          rw [Int.toNat_of_nonneg (by omega)] at this
          exact this
      · simp; omega
      · rintro _ rfl
        rw [if_neg (by omega), if_pos h5] at hstep
        exact go _ _ hstep.symm
      · simp; omega
      · rintro _ rfl
        rw [if_neg (by omega), if_neg (by omega), if_pos h5'] at hstep
        exact go _ _ hstep.symm
      · rintro _ rfl
        refine ⟨_, s13 _ 4 hd9 (by omega), by simp; omega, ?_⟩
        rintro _ rfl
        refine ⟨by simp only [R64]; omega, ?_⟩
        rintro _ rfl
        rw [if_neg (by omega), if_neg (by omega), if_neg h5', if_pos h6] at hstep
        exact go _ _ hstep.symm
      · simp; omega
      · rintro _ rfl
        refine ⟨by simp only [R64]; omega, ?_⟩
        rintro _ rfl
        rw [if_neg (by omega), if_neg (by omega), if_neg h5', if_neg h6, if_pos ⟨h7, hdp⟩] at hstep
        exact go _ _ hstep.symm
      · rw [if_neg (by omega), if_neg (by omega), if_neg h5', if_neg h6, if_neg (by omega), if_neg (by omega)] at hstep
        exact go _ _ hstep.symm
      · rintro _ rfl
        refine ⟨fun h0 => ⟨by simp; omega, ?_⟩, fun h0 => ?_⟩
        · rintro _ rfl
          rw [if_neg (by omega), if_neg (by omega), if_neg h5', if_neg h6, if_neg (by omega), if_pos ⟨h8, h0⟩] at hstep
          exact go _ _ hstep.symm
        · rw [if_neg (by omega), if_neg (by omega), if_neg h5', if_neg h6, if_neg (by omega), if_neg (by omega)] at hstep
          exact go _ _ hstep.symm
      · omega
    · have hge := of_decide_eq_false hge
      show (o, dp) = accP (l.take 40)
      rw [he, List.take_of_length_le (by omega), List.take_of_length_le (by omega)]
  · rintro o dp _ he
    have ok := accP_ok (l.take 40)
    rw [← he] at ok
    have hlk : (l.take 40).length ≤ 40 := by rw [List.length_take]; omega
    have olen := ok.len
    have olo := ok.lo
    dsimp only at olen olo
    have hp : piecesF l = o ++ List.replicate dp.toNat ⟨6, 0, []⟩ := by unfold piecesF; rw [← he]
    refine ⟨fun w j => ∃ k : Nat, j = k ∧ (k : Int) ≤ dp ∧ w = o ++ List.replicate k ⟨6, 0, []⟩, fun _ j => (dp - j).toNat, ⟨0, rfl, by omega, by simp⟩, ?_⟩
    rintro _ _ ⟨k, rfl, hk, rfl⟩ v rfl
    refine ⟨fun hlt => ⟨by simp; omega, ?_⟩, fun hge => ?_⟩
    · have hlt := of_decide_eq_true hlt
      rintro _ rfl
      refine ⟨by simp only [R64]; omega, ?_⟩
      rintro _ rfl
      refine ⟨⟨k + 1, by omega, by omega, ?_⟩, by dsimp only; omega⟩
      rw [List.append_assoc, List.replicate_succ']
    · have hge := of_decide_eq_false hge
      rw [hp]
      congr 2
      omega
theorem piecesF_good (l : List Int) : Good (piecesF l) 40 ∧ (piecesF l).length ≤ 80 ∧ ∀ p ∈ piecesF l, p.S.length ≤ 8 ∧ ((10 : UInt8) ∉ p.S ∧ (32 : UInt8) ∉ p.S) := by
  have ok := accP_ok (l.take 40)
  have hlk : (l.take 40).length ≤ 40 := by rw [List.length_take]; omega
  have olen := ok.len
  have olo := ok.lo
  have odp := ok.deep
  unfold piecesF
  have hdr : ∀ m : Nat, dep (List.replicate m (⟨6, 0, []⟩ : Pc)) = -m := by
    intro m
    induction m with
    | zero => rfl
    | succ m ih => rw [List.replicate_succ, dep, ih]; simp [dlt]; omega
  have hl80 : ((accP (l.take 40)).1 ++ List.replicate (accP (l.take 40)).2.toNat (⟨6, 0, []⟩ : Pc)).length ≤ 80 := by simp; omega
  refine And.intro (Good.mk (by omega) (fun p hp => ?_) (fun k hk => ?_) ?_) (And.intro hl80 fun p hp => ?_)
  · rcases List.mem_append.1 hp with hp | hp
    · exact (ok.ps p hp).1
    · obtain rfl := (List.mem_replicate.1 hp).2
      exact PieceOk.mk (by simp) (fun _ => rfl) (fun _ => rfl) (fun h => by simp at h) (fun h => by simp at h)
  · rw [List.take_append, dep_app, List.take_replicate, hdr]
    rcases Nat.lt_or_ge (accP (l.take 40)).1.length k with h | h
    · rw [List.take_of_length_le (by omega), odp]
      simp only [List.length_append, List.length_replicate] at hk
      omega
    · have := ok.pre k h
      omega
  · rw [dep_app, hdr, odp]; omega
  · rcases List.mem_append.1 hp with hp | hp
    · exact (ok.ps p hp).2
    · obtain rfl := (List.mem_replicate.1 hp).2
      simp
end Go.Hw.VL

