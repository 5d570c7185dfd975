import Derived.Test.YtphdkcgchcogdaaHwSolve2
set_option linter.unusedVariables false
set_option linter.unusedSimpArgs false
namespace Go.Hw.VE
open Go Go.Proofs Go.Shelf

def runF (reg : List Md) (f : List Pk) : Nat → List Pk → List Us → Option (List Pk × List Us)
  | 0, _, _ => none
  | k + 1, P, W => if nextB W P = [] then some (P, W) else
    (versF reg f (nextB W P)).findSome? fun m => if rightF (W ++ m.Uses) (P ++ [⟨nextB W P, m.Version⟩]) then runF reg f k (P ++ [⟨nextB W P, m.Version⟩]) (W ++ m.Uses) else none
def resF (reg : List Md) (f : List Pk) (P : List Pk) (W : List Us) : Option (List Pk × List Us) → Bool × GSolve_search
  | none => (false, ⟨reg, f, P, W⟩)
  | some (P', W') => (true, ⟨reg, f, P', W'⟩)


theorem nextB_from (P : List Pk) : ∀ (W : List Us) (b : List UInt8), W.foldl (nextStep P) b = b ∨ ((∃ u ∈ W, u.Name = W.foldl (nextStep P) b) ∧ hasN P (W.foldl (nextStep P) b) = false)
  | [], b => .inl rfl
  | u :: W, b => by
    simp only [List.foldl_cons]
    rcases nextB_from P W (nextStep P b u) with h | ⟨⟨v, h1, h2⟩, h3⟩
    · by_cases hs : ((decide (b = []) || bytesLess u.Name b) && !hasN P u.Name) = true
      · have e : nextStep P b u = u.Name := if_pos hs
        rw [h, e]
        refine .inr ⟨⟨u, by simp, rfl⟩, ?_⟩
        rw [Bool.and_eq_true] at hs
        simpa using hs.2
      · have e : nextStep P b u = b := if_neg hs
        rw [h, e]
        exact .inl rfl
    · exact .inr ⟨⟨v, by simp [h1], h2⟩, h3⟩
theorem nextB_mem {W : List Us} {P : List Pk} (h : nextB W P ≠ []) : (∃ u ∈ W, u.Name = nextB W P) ∧ hasN P (nextB W P) = false := by
  rcases nextB_from P W [] with h1 | h1
  · exact absurd h1 h
  · exact h1
def cnt (Nm : List (List UInt8)) (P : List Pk) : Nat := (Nm.filter fun n => !hasN P n).length
theorem filter_lt {α : Type} (p q : α → Bool) (hpq : ∀ a, q a = true → p a = true) : ∀ (l : List α) (x : α), x ∈ l → p x = true → q x = false → (l.filter q).length < (l.filter p).length
  | [], x, h, _, _ => by simp at h
  | a :: l, x, h, hp, hq => by
    have hle : ∀ l : List α, (l.filter q).length ≤ (l.filter p).length := by
      intro l
      induction l with
      | nil => simp
      | cons b l ih =>
        simp only [List.filter_cons]
        cases hb : q b with
        | true => simp [hpq b hb]; exact ih
        | false => cases hpb : p b <;> simp only [if_true, if_false, Bool.false_eq_true, List.length_cons] <;> omega
    simp only [List.filter_cons]
    rcases List.mem_cons.1 h with rfl | h
    · have := hle l
      simp [hp, hq]; omega
    · have ih := filter_lt p q hpq l x h hp hq
      cases hb : q a with
      | true => simp [hpq a hb]; exact ih
      | false => cases hpb : p a <;> simp only [if_true, if_false, Bool.false_eq_true, List.length_cons] <;> omega
theorem hasN_snoc (P : List Pk) (x : Pk) (n : List UInt8) : hasN (P ++ [x]) n = (hasN P n || decide (x.Name = n)) := by simp [hasN]
theorem cnt_step {Nm : List (List UInt8)} {P : List Pk} {n : List UInt8} {v : Int} (hn : n ∈ Nm) (hP : hasN P n = false) : cnt Nm (P ++ [⟨n, v⟩]) < cnt Nm P := by
  refine filter_lt _ _ (fun a ha => ?_) Nm n hn (by simp [hP]) (by simp [hasN_snoc])
  rw [hasN_snoc] at ha
  simp only [Bool.not_eq_true', Bool.or_eq_false_iff] at ha
  simp [ha.1]
structure Reg (Nm : List (List UInt8)) (reg : List Md) (f : List Pk) : Prop where
  len : reg.length ≤ 1000
  few : ∀ n, (named reg n).length ≤ 20
  use : ∀ m ∈ reg, m.Uses.length ≤ 1000 ∧ ∀ u ∈ m.Uses, u.Name ∈ Nm
  first : f.length ≤ 1000000
structure Bnd (Nm : List (List UInt8)) (P : List Pk) (W : List Us) : Prop where
  cn : P.length + cnt Nm P ≤ 12
  nm : ∀ u ∈ W, u.Name ∈ Nm
  len : W.length ≤ 1000 * (P.length + 1)
theorem vers_mem {reg : List Md} {f : List Pk} {n : List UInt8} {m : Md} (h : m ∈ versF reg f n) : m ∈ reg ∧ m.Name = n := by
  have := (isort_perm (lt := ltM f n) (named reg n)).mem_iff.1 h
  simp only [named, List.mem_filter, List.mem_reverse, decide_eq_true_eq] at this
  exact this
theorem Bnd.step {Nm : List (List UInt8)} {reg : List Md} {f : List Pk} {P : List Pk} {W : List Us} (R : Reg Nm reg f) (B : Bnd Nm P W) (hn : nextB W P ≠ []) {m : Md} (hm : m ∈ versF reg f (nextB W P)) :
    Bnd Nm (P ++ [⟨nextB W P, m.Version⟩]) (W ++ m.Uses) ∧ cnt Nm (P ++ [⟨nextB W P, m.Version⟩]) < cnt Nm P := by
  obtain ⟨⟨u, hu, hun⟩, hP⟩ := nextB_mem hn
  have hN : nextB W P ∈ Nm := hun ▸ B.nm u hu
  have hlt := cnt_step (v := m.Version) hN hP
  have h1 := B.cn; have h2 := B.len
  obtain ⟨hm1, _⟩ := vers_mem hm
  obtain ⟨h3, h4⟩ := R.use m hm1
  refine ⟨⟨by simp only [List.length_append, List.length_cons, List.length_nil]; omega, fun v hv => ?_, by simp only [List.length_append, List.length_cons, List.length_nil]; omega⟩, hlt⟩
  rcases List.mem_append.1 hv with hv | hv
  · exact B.nm v hv
  · exact h4 v hv


theorem find_take {α β : Type} (g : α → Option β) {l : List α} {i : Nat} {a : α} (ha : l[i]? = some a) : (l.take (i + 1)).findSome? g = ((l.take i).findSome? g).or (g a) := by
  rw [List.take_add_one, ha]
  have h1 : [a].findSome? g = g a := by
    rw [List.findSome?_cons]
    cases g a <;> rfl
  show (l.take i ++ [a]).findSome? g = _
  rw [List.findSome?_append, h1]
theorem find_found {α β : Type} (g : α → Option β) {l : List α} {i : Nat} {a : α} {b : β} (ha : l[i]? = some a) (h0 : (l.take i).findSome? g = none) (hb : g a = some b) : l.findSome? g = some b := by
  have h1 := find_take g ha
  rw [h0, hb] at h1
  rw [← List.take_append_drop (i + 1) l, List.findSome?_append, h1]
  rfl
theorem s22 {Nm : List (List UInt8)} {reg : List Md} {f : List Pk} (R : Reg Nm reg f) : ∀ (k : Nat) (P : List Pk) (W : List Us), Bnd Nm P W → cnt Nm P < k → sp22 ⟨reg, f, P, W⟩ (resF reg f P W (runF reg f k P W))
  | 0, P, W, _, h => by omega
  | k + 1, P, W, B, hk => by
    have hb1 := B.cn; have hb2 := B.len
    refine ok22 _ _ ?_
    unfold w22
    refine ⟨_, s38 ⟨reg, f, P, W⟩ (by dsimp only; omega) (by dsimp only; omega), ?_⟩
    dsimp only
    refine ⟨fun h => ?_, fun h => ?_⟩
    · have hn : nextB W P = [] := by simpa using h
      rw [runF, if_pos hn]
      rfl
    · have hn : nextB W P ≠ [] := by simpa using h
      refine ⟨_, s39 ⟨reg, f, P, W⟩ (nextB W P) R.first R.len (R.few _), ?_⟩
      dsimp only
      have hrun : runF reg f (k + 1) P W = (versF reg f (nextB W P)).findSome? fun m => if rightF (W ++ m.Uses) (P ++ [⟨nextB W P, m.Version⟩]) then runF reg f k (P ++ [⟨nextB W P, m.Version⟩]) (W ++ m.Uses) else none := by rw [runF, if_neg hn]
      rw [hrun]
      have hlen : (versF reg f (nextB W P)).length ≤ 20 := by unfold versF; rw [isort_len]; exact R.few _
      have hall : ∀ m ∈ versF reg f (nextB W P), Bnd Nm (P ++ [⟨nextB W P, m.Version⟩]) (W ++ m.Uses) ∧ cnt Nm (P ++ [⟨nextB W P, m.Version⟩]) < cnt Nm P := fun m hm => B.step R hn hm
      generalize versF reg f (nextB W P) = L at hlen hall
      generalize hg : (fun m : Md => if rightF (W ++ m.Uses) (P ++ [⟨nextB W P, m.Version⟩]) then runF reg f k (P ++ [⟨nextB W P, m.Version⟩]) (W ++ m.Uses) else none) = g
      refine ⟨fun v4 v5 v6 v7 v8 => v4 = reg ∧ v5 = f ∧ v6 = P ∧ v7 = W ∧ ∃ i : Nat, v8 = i ∧ i ≤ L.length ∧ (L.take i).findSome? g = none, fun _ _ _ _ v => (L.length - v).toNat, ⟨rfl, rfl, rfl, rfl, 0, rfl, by omega, rfl⟩, ?_⟩
      rintro _ _ _ _ _ ⟨rfl, rfl, rfl, rfl, i, rfl, hi, hfi⟩ t ht
      rename_i reg f P W
      refine ⟨fun h1 => ?_, fun h1 => ?_⟩
      · have hlt : i < L.length := by rw [h1] at ht; have := of_decide_eq_true ht.symm; omega
        refine ⟨by omega, fun m hm => ?_⟩
        have hm' : L[i]? = some m := by simpa using hm
        obtain ⟨B', hc'⟩ := hall m (List.mem_of_getElem? hm')
        have hb3 := B'.cn; have hb4 := B'.len
        simp only [List.length_append, List.length_cons, List.length_nil] at hb3 hb4
        have hgm : g m = if rightF (W ++ m.Uses) (P ++ [⟨nextB W P, m.Version⟩]) then runF reg f k (P ++ [⟨nextB W P, m.Version⟩]) (W ++ m.Uses) else none := by rw [← hg]
        refine ⟨fun v29 v30 => v29 = P ++ [⟨nextB W P, m.Version⟩] ∧ v30 = W ++ m.Uses, ⟨by simp only [List.length_cons, List.length_nil]; omega, ?_⟩, ?_⟩
        · rintro _ rfl
          refine ⟨by omega, ?_⟩
          rintro _ rfl
          exact ⟨rfl, rfl⟩
        · rintro _ _ ⟨rfl, rfl⟩
          refine ⟨fun v34 v35 v36 v37 v38 => v34 = reg ∧ v35 = f ∧ v36 = P ++ [⟨nextB W P, m.Version⟩] ∧ v37 = W ++ m.Uses ∧ g m = none, ⟨_, s40 ⟨reg, f, P ++ [⟨nextB W P, m.Version⟩], W ++ m.Uses⟩ (by simp only [List.length_append, List.length_cons, List.length_nil]; omega) (by simp only [List.length_append, List.length_cons, List.length_nil]; omega), fun hr => ?_, fun hr => ?_⟩, ?_⟩
          · dsimp only at hr
            rw [if_pos hr] at hgm
            refine ⟨_, s22 R k _ _ B' (by omega), fun hy => ?_, fun hy => ?_⟩
            · cases hrun' : runF reg f k (P ++ [⟨nextB W P, m.Version⟩]) (W ++ m.Uses) with
              | none => rw [hrun'] at hy; simp [resF] at hy
              | some q =>
                rw [hrun'] at hgm
                rw [find_found g hm' hfi hgm]
                rfl
            · cases hrun' : runF reg f k (P ++ [⟨nextB W P, m.Version⟩]) (W ++ m.Uses) with
              | none => rw [hrun'] at hgm; exact ⟨rfl, rfl, rfl, rfl, hgm⟩
              | some q => rw [hrun'] at hy; simp [resF] at hy
          · dsimp only at hr
            rw [hr] at hgm
            exact ⟨rfl, rfl, rfl, rfl, by simpa using hgm⟩
          · rintro _ _ _ _ v38 ⟨rfl, rfl, rfl, rfl, hgn⟩
            rename_i reg f
            refine ⟨⟨by omega, by simp only [List.length_append, List.length_cons, List.length_nil]; omega⟩, ⟨by omega, by simp only [List.length_append]; omega⟩, by simp only [R64]; omega, ?_⟩
            rintro _ rfl
            refine ⟨by simp only [List.length_append, List.length_cons, List.length_nil]; omega, by simp only [List.length_append]; omega, ⟨rfl, rfl, by simp, by simp, i + 1, by omega, by omega, ?_⟩, by dsimp only; omega⟩
            rw [find_take g hm', hfi, hgn]
            rfl
      · have hge : ¬ ((i : Int) < L.length) := by rw [h1] at ht; exact of_decide_eq_false ht.symm
        rw [List.take_of_length_le (by omega)] at hfi
        rw [hfi]
        rfl
end Go.Hw.VE

