import Derived.Test.YtphdkcgchcogdaaHwSolve5
set_option linter.unusedVariables false
set_option linter.unusedSimpArgs false
namespace Go.Hw.VE
open Go Go.Proofs Go.Shelf


theorem dropWhile_form {α : Type} (p : α → Bool) : ∀ l : List α, l.dropWhile p = [] ∨ ∃ a r, l.dropWhile p = a :: r ∧ p a = false
  | [] => .inl rfl
  | a :: l => by
    by_cases h : p a = true
    · rw [List.dropWhile_cons_of_pos h]; exact dropWhile_form p l
    · rw [List.dropWhile_cons_of_neg h]; exact .inr ⟨a, l, rfl, by simpa using h⟩
theorem takeWhile_all {α : Type} (p : α → Bool) : ∀ (l : List α), ∀ b ∈ l.takeWhile p, p b = true
  | [], b, h => by simp at h
  | a :: l, b, h => by
    by_cases ha : p a = true
    · rw [List.takeWhile_cons_of_pos ha] at h
      rcases List.mem_cons.1 h with rfl | h
      · exact ha
      · exact takeWhile_all p l b h
    · rw [List.takeWhile_cons_of_neg ha] at h; simp at h
theorem insB_form {α : Type} (lt : α → α → Bool) (x : α) (S : List α) : ∃ A B, S = A ++ B ∧ insB lt x S = A ++ x :: B ∧ (∀ b ∈ B, lt x b = true) ∧ (A = [] ∨ ∃ A' a, A = A' ++ [a] ∧ lt x a = false) := by
  refine ⟨(S.reverse.dropWhile (lt x)).reverse, (S.reverse.takeWhile (lt x)).reverse, ?_, rfl, fun b hb => takeWhile_all _ _ b (by simpa using hb), ?_⟩
  · rw [← List.reverse_append, List.takeWhile_append_dropWhile, List.reverse_reverse]
  · rcases dropWhile_form (lt x) S.reverse with h | ⟨a, r, h, ha⟩
    · exact .inl (by rw [h]; rfl)
    · exact .inr ⟨r.reverse, a, by rw [h]; simp, ha⟩
theorem isort_part {α : Type} (q : α → Bool) (l : List α) : isort (fun a b => q a && !q b) l = l.filter q ++ l.filter fun a => !q a := by
  have key : ∀ (l : List α) (S : List α) (l0 : List α), S = l0.filter q ++ (l0.filter fun a => !q a) → l.foldl (fun S x => insB (fun a b => q a && !q b) x S) S = (l0 ++ l).filter q ++ (l0 ++ l).filter fun a => !q a := by
    intro l
    induction l with
    | nil => intro S l0 h; simpa using h
    | cons x l ih =>
      intro S l0 h
      simp only [List.foldl_cons]
      rw [ih _ (l0 ++ [x])]
      · simp
      · subst h
        cases hq : q x with
        | true =>
          rw [insB_eq (fun b hb => by simp only [List.mem_filter] at hb; simp [hq, hb.2])]
          · simp [hq]
          · by_cases hF : l0.filter q = []
            · exact .inl hF
            · obtain ⟨A', a, hA⟩ := split_last _ hF
              refine .inr ⟨A', a, hA, ?_⟩
              have : a ∈ l0.filter q := by rw [hA]; simp
              simp only [List.mem_filter] at this
              simp [this.2]
        | false =>
          have h0 : insB (fun a b => q a && !q b) x ((l0.filter q ++ l0.filter fun a => !q a) ++ []) = (l0.filter q ++ l0.filter fun a => !q a) ++ [x] := by
            refine insB_eq nofun ?_
            by_cases hF : (l0.filter q ++ l0.filter fun a => !q a) = []
            · exact .inl hF
            · obtain ⟨A', a, hA⟩ := split_last _ hF
              exact .inr ⟨A', a, hA, by simp [hq]⟩
          rw [List.append_nil] at h0
          rw [h0]
          simp [hq]
  have h := key l [] [] rfl
  rw [List.nil_append] at h
  exact h
def rk : List UInt8 → Nat
  | [c] => c.toNat
  | _ => 0
theorem rk_facts : ∀ a ∈ Nm5, ∀ b ∈ Nm5, (cmpS a b < 0 ↔ rk a < rk b) ∧ (rk a = rk b → a = b) ∧ bytesLess a b = decide (rk a < rk b) := by decide
def Asc (l : List Pk) : Prop := l.Pairwise fun a b => rk a.Name < rk b.Name
theorem asc_unique : ∀ {l m : List Pk}, Asc l → Asc m → (∀ p, p ∈ l ↔ p ∈ m) → l = m
  | [], [], _, _, _ => rfl
  | [], b :: m, _, _, h => absurd ((h b).2 (by simp)) (by simp)
  | a :: l, [], _, _, h => absurd ((h a).1 (by simp)) (by simp)
  | a :: l, b :: m, hl, hm, h => by
    obtain ⟨h1, h2⟩ := List.pairwise_cons.1 hl
    obtain ⟨h3, h4⟩ := List.pairwise_cons.1 hm
    have hab : a = b := by
      rcases List.mem_cons.1 ((h a).1 (by simp)) with e | e
      · exact e
      · rcases List.mem_cons.1 ((h b).2 (by simp)) with e' | e'
        · exact e'.symm
        · have := h1 b e'; have := h3 a e; omega
    subst hab
    congr 1
    refine asc_unique h2 h4 fun p => ⟨fun hp => ?_, fun hp => ?_⟩
    · rcases List.mem_cons.1 ((h p).1 (by simp [hp])) with rfl | e
      · have := h1 p hp; omega
      · exact e
    · rcases List.mem_cons.1 ((h p).2 (by simp [hp])) with rfl | e
      · have := h3 p hp; omega
      · exact e
theorem asc_ins {x : Pk} {S : List Pk} (hS : Asc S) (hN : ∀ p ∈ S, p.Name ∈ Nm5) (hx : x.Name ∈ Nm5) (hd : ∀ p ∈ S, p.Name ≠ x.Name) : Asc (insB ltP x S) := by
  obtain ⟨A, B, hAB, hI, hB, hA⟩ := insB_form ltP x S
  rw [hI]
  subst hAB
  unfold Asc at hS ⊢
  rw [List.pairwise_append] at hS ⊢
  obtain ⟨h1, h2, h3⟩ := hS
  have hltB : ∀ b ∈ B, rk x.Name < rk b.Name := fun b hb => by
    have := hB b hb
    simp only [ltP, decide_eq_true_eq] at this
    exact (rk_facts _ hx _ (hN b (by simp [hb]))).1.1 this
  have hltA : ∀ a ∈ A, rk a.Name < rk x.Name := fun a ha => by
    rcases hA with rfl | ⟨A', a0, rfl, h0⟩
    · simp at ha
    · have f0 := rk_facts _ hx _ (hN a0 (by simp))
      simp only [ltP, decide_eq_false_iff_not] at h0
      have g1 : ¬ rk x.Name < rk a0.Name := fun h => h0 (f0.1.2 h)
      have g2 : rk x.Name ≠ rk a0.Name := fun h => hd a0 (by simp) (f0.2.1 h).symm
      rcases List.mem_append.1 ha with ha | ha
      · have := (List.pairwise_append.1 h1).2.2 a ha a0 (by simp)
        omega
      · obtain rfl : a = a0 := by simpa using ha
        omega
  refine ⟨h1, List.pairwise_cons.2 ⟨hltB, h2⟩, fun a ha b hb => ?_⟩
  rcases List.mem_cons.1 hb with rfl | hb
  · exact hltA a ha
  · exact h3 a ha b hb
def Uq (l : List Pk) : Prop := l.Pairwise fun a b => a.Name ≠ b.Name
theorem asc_sort {l : List Pk} (hN : ∀ p ∈ l, p.Name ∈ Nm5) (hu : Uq l) : Asc (isort ltP l) := by
  have key : ∀ (l S : List Pk), (∀ p ∈ S ++ l, p.Name ∈ Nm5) → Uq (S ++ l) → ∀ T, T.Perm S → Asc T → Asc (l.foldl (fun S x => insB ltP x S) T) := by
    intro l
    induction l with
    | nil => intro S _ _ T _ hT; exact hT
    | cons x l ih =>
      intro S hN hu T hp hT
      simp only [List.foldl_cons]
      have hu' := List.pairwise_append.1 hu
      refine ih (S ++ [x]) (by simpa using hN) (by simpa [Uq] using hu) _ ((insB_perm x T).trans ((List.Perm.cons x hp).trans (List.perm_append_singleton x S).symm)) (asc_ins hT (fun p hp' => hN p (by simp [hp.mem_iff.1 hp'])) (hN x (by simp)) fun p hp' => hu'.2.2 p (hp.mem_iff.1 hp') x (by simp))
  exact key l [] (by simpa using hN) (by simpa using hu) [] (.refl _) List.Pairwise.nil


def Mt (reg : List Md) (p : Pk) (m : Md) : Prop := m ∈ reg ∧ m.Name = p.Name ∧ m.Version = p.Version
def Sat (S : List Pk) (u : Us) : Prop := ∃ p ∈ S, p.Name = u.Name ∧ u.Low ≤ p.Version ∧ p.Version ≤ u.High
structure Sel (reg : List Md) (root : List Us) (S : List Pk) : Prop where
  uq : ∀ p ∈ S, ∀ q ∈ S, p.Name = q.Name → p = q
  root : ∀ u ∈ root, Sat S u
  cl : ∀ p ∈ S, ∃ m, Mt reg p m ∧ ∀ u ∈ m.Uses, Sat S u
theorem right_of {S P : List Pk} {W : List Us} (uq : ∀ p ∈ S, ∀ q ∈ S, p.Name = q.Name → p = q) (hP : ∀ p ∈ P, p ∈ S) (hW : ∀ u ∈ W, Sat S u) : rightF W P = true := by
  unfold rightF
  rw [Bool.not_eq_true', List.any_eq_false]
  intro u hu
  rw [Bool.not_eq_true, List.any_eq_false]
  intro p hp
  obtain ⟨q, hq, h1, h2, h3⟩ := hW u hu
  unfold badP
  by_cases hn : p.Name = u.Name
  · have := uq p (hP p hp) q hq (hn.trans h1.symm)
    subst this
    have a1 : ¬ p.Version < u.Low := by omega
    have a2 : ¬ u.High < p.Version := by omega
    simp [a1, a2]
  · simp [hn]
theorem vers_of {reg : List Md} {f : List Pk} {m : Md} (h : m ∈ reg) : m ∈ versF reg f m.Name :=
  (isort_perm (lt := ltM f m.Name) (named reg m.Name)).mem_iff.2 (by simp [named, h])
theorem complete {Nm : List (List UInt8)} {reg : List Md} {f : List Pk} (R : Reg Nm reg f) {root : List Us} {S : List Pk} (hS : Sel reg root S) :
    ∀ (k : Nat) (P : List Pk) (W : List Us), Bnd Nm P W → cnt Nm P < k → (∀ p ∈ P, p ∈ S) → (∀ u ∈ W, Sat S u) → runF reg f k P W ≠ none
  | 0, P, W, _, h, _, _ => by omega
  | k + 1, P, W, B, hk, hP, hW => by
    by_cases hn : nextB W P = []
    · rw [runF, if_pos hn]; simp
    · rw [runF, if_neg hn]
      obtain ⟨⟨u, hu, hun⟩, _⟩ := nextB_mem hn
      obtain ⟨p, hp, h1, h2, h3⟩ := hW u hu
      obtain ⟨m, ⟨hm, hm1, hm2⟩, hmu⟩ := hS.cl p hp
      have hname : m.Name = nextB W P := hm1.trans (h1.trans hun)
      have hv : m ∈ versF reg f (nextB W P) := hname ▸ vers_of hm
      obtain ⟨B', hc'⟩ := Bnd.step R B hn hv
      have hpe : (⟨nextB W P, m.Version⟩ : Pk) = p := by
        obtain ⟨a, b⟩ := p
        simp only at h1 hm2 hm1
        rw [← hname, hm1, hm2]
      rw [hpe] at B' hc'
      have hP' : ∀ q ∈ P ++ [p], q ∈ S := fun q hq => by
        rcases List.mem_append.1 hq with hq | hq
        · exact hP q hq
        · obtain rfl : q = p := by simpa using hq
          exact hp
      have hW' : ∀ v ∈ W ++ m.Uses, Sat S v := fun v hv => by
        rcases List.mem_append.1 hv with hv | hv
        · exact hW v hv
        · exact hmu v hv
      have ih := complete R hS k (P ++ [p]) (W ++ m.Uses) B' (by omega) hP' hW'
      intro he
      have := List.findSome?_eq_none_iff.1 he m hv
      rw [hpe, if_pos (right_of hS.uq hP' hW')] at this
      exact ih this


def UqR (reg : List Md) : Prop := ∀ m ∈ reg, ∀ m' ∈ reg, m.Name = m'.Name → m.Version = m'.Version → m = m'
theorem follow {Nm : List (List UInt8)} {reg : List Md} {x : List Pk} (R : Reg Nm reg x) (hr : UqR reg) {root : List Us} {S : List Pk} (hS : Sel reg root S) (hx : ∀ p, p ∈ x ↔ p ∈ S)
    (T : List Pk → List Us → Prop) (step : ∀ P W m, T P W → nextB W P ≠ [] → m ∈ reg → m.Name = nextB W P → (⟨nextB W P, m.Version⟩ : Pk) ∈ S → T (P ++ [⟨nextB W P, m.Version⟩]) (W ++ m.Uses)) :
    ∀ (k : Nat) (P : List Pk) (W : List Us) (P' : List Pk) (W' : List Us), Bnd Nm P W → cnt Nm P < k → (∀ p ∈ P, p ∈ S) → (∀ u ∈ W, Sat S u) → T P W → runF reg x k P W = some (P', W') → T P' W' ∧ nextB W' P' = []
  | 0, P, W, _, _, _, h, _, _, _, _ => by omega
  | k + 1, P, W, P', W', B, hk, hP, hW, hT, hrun => by
    by_cases hn : nextB W P = []
    · rw [runF, if_pos hn] at hrun
      injection hrun with h
      injection h with h1 h2
      subst h1; subst h2
      exact ⟨hT, hn⟩
    · rw [runF, if_neg hn] at hrun
      obtain ⟨⟨u, hu, hun⟩, _⟩ := nextB_mem hn
      obtain ⟨p, hp, h1, h2, h3⟩ := hW u hu
      obtain ⟨m, ⟨hm, hm1, hm2⟩, hmu⟩ := hS.cl p hp
      have hname : m.Name = nextB W P := hm1.trans (h1.trans hun)
      have hpe : (⟨nextB W P, m.Version⟩ : Pk) = p := by
        obtain ⟨a, b⟩ := p
        simp only at h1 hm2 hm1
        rw [← hname, hm1, hm2]
      have hv : m ∈ versF reg x (nextB W P) := hname ▸ vers_of hm
      obtain ⟨B', hc'⟩ := Bnd.step R B hn hv
      have hP' : ∀ q ∈ P ++ [(⟨nextB W P, m.Version⟩ : Pk)], q ∈ S := fun q hq => by
        rcases List.mem_append.1 hq with hq | hq
        · exact hP q hq
        · obtain rfl : q = (⟨nextB W P, m.Version⟩ : Pk) := by simpa using hq
          rw [hpe]; exact hp
      have hW' : ∀ v ∈ W ++ m.Uses, Sat S v := fun v hv => by
        rcases List.mem_append.1 hv with hv | hv
        · exact hW v hv
        · exact hmu v hv
      have hne := complete R hS k _ _ B' (by omega) hP' hW'
      -- the versions that stand first are m alone
      have hin : ∀ m' : Md, inF x (nextB W P) m' = true ↔ (⟨nextB W P, m'.Version⟩ : Pk) ∈ S := fun m' => by
        unfold inF
        rw [List.any_eq_true]
        constructor
        · rintro ⟨a, ha, he⟩
          rw [decide_eq_true_eq] at he
          rw [he]; exact (hx a).1 ha
        · intro h; exact ⟨_, (hx _).2 h, decide_eq_true rfl⟩
      have hpart : versF reg x (nextB W P) = (named reg (nextB W P)).filter (inF x (nextB W P)) ++ (named reg (nextB W P)).filter fun a => !inF x (nextB W P) a := isort_part _ _
      have hall : ∀ m' ∈ (named reg (nextB W P)).filter (inF x (nextB W P)), m' = m := fun m' hm' => by
        simp only [List.mem_filter, named, List.mem_reverse, decide_eq_true_eq] at hm'
        obtain ⟨⟨g1, g2⟩, g3⟩ := hm'
        have g4 := (hin m').1 g3
        have g5 := hS.uq _ g4 p hp (by rw [← hpe])
        refine hr m' g1 m hm (g2.trans hname.symm) ?_
        rw [← hpe] at g5
        injection g5
      have hmem : m ∈ (named reg (nextB W P)).filter (inF x (nextB W P)) := by
        simp only [List.mem_filter, named, List.mem_reverse, decide_eq_true_eq]
        exact ⟨⟨hm, hname⟩, (hin m).2 (hpe ▸ hp)⟩
      rw [hpart] at hrun
      cases hA : (named reg (nextB W P)).filter (inF x (nextB W P)) with
      | nil => rw [hA] at hmem; simp at hmem
      | cons a A =>
        have ha : a = m := hall a (by rw [hA]; simp)
        subst ha
        rw [hA] at hrun
        simp only [List.cons_append, List.findSome?_cons] at hrun
        rw [if_pos (right_of hS.uq hP' hW')] at hrun
        cases hg : runF reg x k (P ++ [⟨nextB W P, a.Version⟩]) (W ++ a.Uses) with
        | none => exact absurd hg hne
        | some q =>
          rw [hg] at hrun
          simp only [Option.some.injEq] at hrun
          subst hrun
          exact follow R hr hS hx T step k _ _ P' W' B' (by omega) hP' hW' (step P W a hT hn hm hname (hpe ▸ hp)) hg


inductive Rch (reg : List Md) (root : List Us) : List Pk → Prop
  | nil : Rch reg root []
  | snoc {P : List Pk} {p : Pk} {u : Us} (h : Rch reg root P) (hu : u.Name = p.Name) (hs : u ∈ root ∨ ∃ q ∈ P, ∃ m, Mt reg q m ∧ u ∈ m.Uses) : Rch reg root (P ++ [p])
structure Fnd (reg : List Md) (root : List Us) (P : List Pk) (W : List Us) : Prop where
  rt : ∀ u ∈ root, u ∈ W
  right : rightF W P = true
  uq : Uq P
  at_ : ∀ p ∈ P, ∃ m, Mt reg p m ∧ ∀ u ∈ m.Uses, u ∈ W
  src : ∀ u ∈ W, u ∈ root ∨ ∃ q ∈ P, ∃ m, Mt reg q m ∧ u ∈ m.Uses
  rch : Rch reg root P
theorem hasN_iff {P : List Pk} {n : List UInt8} : hasN P n = true ↔ ∃ p ∈ P, p.Name = n := by
  unfold hasN
  rw [List.any_eq_true]
  simp
theorem Fnd.step {reg : List Md} {root : List Us} {P : List Pk} {W : List Us} (F : Fnd reg root P W) (hn : nextB W P ≠ []) {m : Md} (hm : m ∈ reg) (hmn : m.Name = nextB W P) (hr : rightF (W ++ m.Uses) (P ++ [⟨nextB W P, m.Version⟩]) = true) :
    Fnd reg root (P ++ [⟨nextB W P, m.Version⟩]) (W ++ m.Uses) := by
  obtain ⟨⟨u, hu, hun⟩, hP⟩ := nextB_mem hn
  refine ⟨fun v hv => by simp [F.rt v hv], hr, List.pairwise_append.2 ⟨F.uq, List.pairwise_singleton _ _, fun a ha b hb => ?_⟩, fun p hp => ?_, fun v hv => ?_, F.rch.snoc hun (F.src u hu)⟩
  · obtain rfl : b = (⟨nextB W P, m.Version⟩ : Pk) := by simpa using hb
    intro he
    have : hasN P (nextB W P) = true := hasN_iff.2 ⟨a, ha, he⟩
    rw [hP] at this; cases this
  · rcases List.mem_append.1 hp with hp | hp
    · obtain ⟨m', h1, h2⟩ := F.at_ p hp
      exact ⟨m', h1, fun v hv => by simp [h2 v hv]⟩
    · obtain rfl : p = (⟨nextB W P, m.Version⟩ : Pk) := by simpa using hp
      exact ⟨m, ⟨hm, hmn, rfl⟩, fun v hv => by simp [hv]⟩
  · rcases List.mem_append.1 hv with hv | hv
    · rcases F.src v hv with h | ⟨q, hq, m', h1, h2⟩
      · exact .inl h
      · exact .inr ⟨q, by simp [hq], m', h1, h2⟩
    · exact .inr ⟨⟨nextB W P, m.Version⟩, by simp, m, ⟨hm, hmn, rfl⟩, hv⟩
theorem Fnd.start {reg : List Md} {root : List Us} : Fnd reg root [] root := by
  refine ⟨fun u h => h, ?_, List.Pairwise.nil, nofun, fun u h => .inl h, .nil⟩
  unfold rightF
  simp
theorem uq_eq {P : List Pk} (h : Uq P) : ∀ p ∈ P, ∀ q ∈ P, p.Name = q.Name → p = q := by
  intro p hp q hq he
  obtain ⟨i, hi⟩ := mem_get hp
  obtain ⟨j, hj⟩ := mem_get hq
  obtain ⟨h1, rfl⟩ := List.getElem?_eq_some_iff.1 hi
  obtain ⟨h2, rfl⟩ := List.getElem?_eq_some_iff.1 hj
  rcases Nat.lt_trichotomy i j with hlt | rfl | hlt
  · exact absurd he (List.pairwise_iff_getElem.1 h i j h1 h2 hlt)
  · rfl
  · exact absurd he.symm (List.pairwise_iff_getElem.1 h j i h2 h1 hlt)
theorem right_sat {W : List Us} {P : List Pk} (h : rightF W P = true) {u : Us} (hu : u ∈ W) {p : Pk} (hp : p ∈ P) (hn : p.Name = u.Name) : u.Low ≤ p.Version ∧ p.Version ≤ u.High := by
  unfold rightF at h
  rw [Bool.not_eq_true', List.any_eq_false] at h
  have h1 := h u hu
  rw [Bool.not_eq_true, List.any_eq_false] at h1
  have h2 := h1 p hp
  simp only [badP, hn, decide_true, Bool.true_and, Bool.or_eq_true, decide_eq_true_eq, not_or] at h2
  omega
theorem Fnd.sel {reg : List Md} {root : List Us} {P : List Pk} {W : List Us} (F : Fnd reg root P W) (hne : ∀ u ∈ W, u.Name ≠ []) (h0 : nextB W P = []) : Sel reg root P := by
  have hsat : ∀ u ∈ W, Sat P u := fun u hu => by
    obtain ⟨p, hp, hn⟩ := hasN_iff.1 (nextB_nil W hne h0 u hu)
    obtain ⟨h1, h2⟩ := right_sat F.right hu hp hn
    exact ⟨p, hp, hn, h1, h2⟩
  exact ⟨uq_eq F.uq, fun u hu => hsat u (F.rt u hu), fun p hp => let ⟨m, h1, h2⟩ := F.at_ p hp; ⟨m, h1, fun u hu => hsat u (h2 u hu)⟩⟩
theorem same_set {reg : List Md} {root : List Us} (hr : UqR reg) {S P : List Pk} {W : List Us} (hS : Sel reg root S) (hR : Rch reg root S) (F : Fnd reg root P W) (hne : ∀ u ∈ W, u.Name ≠ []) (h0 : nextB W P = []) (hPS : ∀ p ∈ P, p ∈ S) : ∀ p, p ∈ S ↔ p ∈ P := by
  intro p
  refine ⟨?_, hPS p⟩
  have key : ∀ T, Rch reg root T → (∀ q ∈ T, q ∈ S) → ∀ q ∈ T, q ∈ P := by
    intro T hT
    induction hT with
    | nil => intro _ q hq; simp at hq
    | snoc h hu hs ih =>
      rename_i T p u
      intro hTS q hq
      have ih' := ih (fun q hq => hTS q (by simp [hq]))
      rcases List.mem_append.1 hq with hq | hq
      · exact ih' q hq
      · obtain rfl : q = p := by simpa using hq
        have huW : u ∈ W := by
          rcases hs with h1 | ⟨q', hq', m, hm, hum⟩
          · exact F.rt u h1
          · obtain ⟨m', hm', hall⟩ := F.at_ q' (ih' q' hq')
            have : m = m' := hr m hm.1 m' hm'.1 (hm.2.1.trans hm'.2.1.symm) (hm.2.2.trans hm'.2.2.symm)
            subst this
            exact hall u hum
        obtain ⟨p', hp', hn⟩ := hasN_iff.1 (nextB_nil W hne h0 u huW)
        have := hS.uq p' (hPS p' hp') q (hTS q (by simp)) (hn.trans hu)
        subst this
        exact hp'
  exact fun hp => key S hR (fun q hq => hq) p hp
end Go.Hw.VE

