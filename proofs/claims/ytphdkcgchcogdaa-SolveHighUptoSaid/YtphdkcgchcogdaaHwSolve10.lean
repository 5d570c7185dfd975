import Derived.Test.YtphdkcgchcogdaaHwSolve6
import Derived.Test.YtphdkcgchcogdaaHwSortI
set_option linter.unusedVariables false
set_option linter.unusedSimpArgs false
namespace Go.Hw.VE
open Go Go.Proofs Go.Shelf


theorem compact_inv (l : List Int) (hs : l.Pairwise (· ≤ ·)) : ∀ m, m ≤ l.length → (Lib.compactUpTo l.toArray m).Pairwise (· < ·) ∧ (∀ x, x ∈ Lib.compactUpTo l.toArray m ↔ x ∈ l.take m) ∧ (Lib.compactUpTo l.toArray m).length ≤ m
  | 0, _ => by simp [Lib.compactUpTo]
  | m + 1, hm => by
    obtain ⟨h1, h2, h3⟩ := compact_inv l hs m (by omega)
    obtain ⟨v, hv⟩ : ∃ v, l[m]? = some v := ⟨_, List.getElem?_eq_getElem (by omega)⟩
    have hget : l.toArray[m]! = v := by
      rw [getElem!_def]
      simp [hv]
    have htake : l.take (m + 1) = l.take m ++ [v] := by rw [List.take_add_one, hv]; rfl
    have hle : ∀ x ∈ l.take m, x ≤ v := fun x hx => by
      obtain ⟨j, hj⟩ := mem_get hx
      have hjm : j < m := by have := lt_of_get hj; simp at this; omega
      rw [List.getElem?_take_of_lt hjm] at hj
      obtain ⟨g1, rfl⟩ := List.getElem?_eq_some_iff.1 hj
      obtain ⟨g2, rfl⟩ := List.getElem?_eq_some_iff.1 hv
      exact List.pairwise_iff_getElem.1 hs j m g1 g2 hjm
    rw [Lib.compactUpTo_succ, htake, hget]
    cases hk : Lib.keeps l.toArray m with
    | false =>
      simp only [Bool.false_eq_true, if_false, List.append_nil]
      refine ⟨h1, fun x => ?_, by omega⟩
      rw [h2 x, List.mem_append]
      refine ⟨.inl, fun h => ?_⟩
      rcases h with h | h
      · exact h
      · obtain rfl : x = v := by simpa using h
        simp only [Lib.keeps, decide_eq_false_iff_not, not_or, ne_eq, Decidable.not_not, hget] at hk
        have hm0 : m ≠ 0 := hk.1
        have hprev : l[m - 1]? = some x := by
          have hlt : m - 1 < l.length := by omega
          have := hk.2
          rw [getElem!_def] at this
          simp only [List.getElem?_toArray, List.getElem?_eq_getElem hlt] at this
          rw [List.getElem?_eq_getElem hlt, this]
        refine List.mem_of_getElem? (i := m - 1) ?_
        rw [List.getElem?_take_of_lt (by omega)]
        exact hprev
    | true =>
      simp only [if_true]
      refine ⟨List.pairwise_append.2 ⟨h1, List.pairwise_singleton _ _, fun a ha b hb => ?_⟩, fun x => by rw [List.mem_append, List.mem_append, h2 x], by simp; omega⟩
      obtain rfl : b = v := by simpa using hb
      have ha' := (h2 a).1 ha
      have hle' := hle a ha'
      simp only [Lib.keeps, decide_eq_true_eq, hget] at hk
      rcases hk with rfl | hk
      · simp at ha'
      · obtain ⟨j, hj⟩ := mem_get ha'
        have hjm : j < m := by have := lt_of_get hj; simp at this; omega
        rw [List.getElem?_take_of_lt hjm] at hj
        have hlt : m - 1 < l.length := by omega
        have hpv : l.toArray[m - 1]! = l[m - 1] := by
          rw [getElem!_def]
          simp [List.getElem?_eq_getElem hlt]
        rw [hpv] at hk
        obtain ⟨g1, rfl⟩ := List.getElem?_eq_some_iff.1 hj
        obtain ⟨g2, rfl⟩ := List.getElem?_eq_some_iff.1 hv
        have hp := List.pairwise_iff_getElem.1 hs (m - 1) m hlt g2 (by omega)
        have hj2 : l[j] ≤ l[m - 1] := by
          rcases Nat.lt_or_ge j (m - 1) with g | g
          · exact List.pairwise_iff_getElem.1 hs j (m - 1) g1 hlt g
          · have : j = m - 1 := by omega
            subst this
            exact Int.le_refl _
        omega
def sortI (l : List Int) : List Int := l.mergeSort fun x y => decide (x ≤ y)
theorem sortI_facts (l : List Int) : (sortI l).Pairwise (· ≤ ·) ∧ (∀ x, x ∈ sortI l ↔ x ∈ l) ∧ (sortI l).length = l.length := by
  refine ⟨?_, fun x => List.mem_mergeSort, List.length_mergeSort l⟩
  have := List.pairwise_mergeSort (le := fun x y : Int => decide (x ≤ y)) (fun a b c h1 h2 => by simp only [decide_eq_true_eq] at h1 h2 ⊢; omega) (fun a b => by simp only [Bool.or_eq_true, decide_eq_true_eq]; omega) l
  exact this.imp fun h => by simpa using h
def setI (l : List Int) : List Int := Lib.compact (sortI l)
theorem setI_facts (l : List Int) : (setI l).Pairwise (· < ·) ∧ (∀ x, x ∈ setI l ↔ x ∈ l) ∧ (setI l).length ≤ l.length := by
  obtain ⟨h1, h2, h3⟩ := sortI_facts l
  obtain ⟨g1, g2, g3⟩ := compact_inv (sortI l) h1 (sortI l).length (Nat.le_refl _)
  rw [List.take_length] at g2
  exact ⟨g1, fun x => (g2 x).trans (h2 x), by show (Lib.compactUpTo _ _).length ≤ _; omega⟩


def mkM (v : Int) : Md := ⟨[97], v, []⟩
def inR (lo hi v : Int) : Bool := decide (lo ≤ v) && decide (v ≤ hi)
theorem named_a (vs : List Int) : named (vs.map mkM) [97] = (vs.map mkM).reverse := by
  unfold named
  rw [List.filter_eq_self]
  intro m hm
  obtain ⟨v, _, rfl⟩ := List.mem_map.1 (List.mem_reverse.1 hm)
  rfl
theorem vers_a (vs : List Int) : versF (vs.map mkM) [] [97] = (vs.map mkM).reverse := by
  have h := isort_part (inF [] [97]) (named (vs.map mkM) [97])
  have hno : ∀ m, inF [] [97] m = false := fun m => rfl
  have e1 : (named (vs.map mkM) [97]).filter (inF [] [97]) = [] := List.filter_eq_nil_iff.2 fun m _ => by rw [hno]; decide
  have e2 : (named (vs.map mkM) [97]).filter (fun a => !inF [] [97] a) = named (vs.map mkM) [97] := List.filter_eq_self.2 fun m _ => by rw [hno]; rfl
  rw [e1, e2, List.nil_append, named_a] at h
  rw [← named_a] at h ⊢
  exact h
theorem best_high (vs : List Int) (lo hi : Int) : bestF (vs.map mkM) [] [⟨[97], lo, hi⟩] = match vs.reverse.find? (inR lo hi) with | some v => ([⟨[97], v⟩], 0) | none => ([], 22) := by
  have hn : nextB [(⟨[97], lo, hi⟩ : Us)] [] = [97] := by simp [nextB, nextStep, hasN]
  have hg : ∀ v : Int, (if rightF ([(⟨[97], lo, hi⟩ : Us)] ++ (mkM v).Uses) (([] : List Pk) ++ [⟨[97], (mkM v).Version⟩]) then runF (vs.map mkM) [] 13 (([] : List Pk) ++ [⟨[97], (mkM v).Version⟩]) ([(⟨[97], lo, hi⟩ : Us)] ++ (mkM v).Uses) else none) = if inR lo hi v then some ([⟨[97], v⟩], [⟨[97], lo, hi⟩]) else none := by
    intro v
    have e1 : rightF ([(⟨[97], lo, hi⟩ : Us)] ++ (mkM v).Uses) (([] : List Pk) ++ [⟨[97], (mkM v).Version⟩]) = inR lo hi v := by
      simp only [mkM, List.append_nil, List.nil_append, rightF, badP, inR, List.any_cons, List.any_nil, Bool.or_false, decide_true, Bool.true_and]
      by_cases h1 : lo ≤ v <;> by_cases h2 : v ≤ hi
      · have a1 : ¬ v < lo := by omega
        have a2 : ¬ hi < v := by omega
        simp [h1, h2, a1, a2]
      · have a2 : hi < v := by omega
        simp [h1, h2, a2]
      · have a1 : v < lo := by omega
        simp [h1, h2, a1]
      · have a1 : v < lo := by omega
        simp [h1, h2, a1]
    rw [e1]
    cases inR lo hi v with
    | false => rfl
    | true =>
      rw [if_pos rfl, if_pos rfl]
      have e2 : nextB ([(⟨[97], lo, hi⟩ : Us)] ++ (mkM v).Uses) (([] : List Pk) ++ [⟨[97], (mkM v).Version⟩]) = [] := by simp [nextB, nextStep, hasN, mkM]
      rw [runF, if_pos e2]
      rfl
  have hrun : runF (vs.map mkM) [] 14 [] [⟨[97], lo, hi⟩] = (vs.reverse.find? (inR lo hi)).map fun v => ([⟨[97], v⟩], [⟨[97], lo, hi⟩]) := by
    rw [runF, if_neg (by rw [hn]; decide), hn, vers_a, ← List.map_reverse]
    generalize vs.reverse = r
    induction r with
    | nil => rfl
    | cons v r ih =>
      simp only [List.map_cons, List.findSome?_cons, List.find?_cons]
      rw [hg v]
      cases inR lo hi v with
      | true => rfl
      | false => simpa using ih
  unfold bestF
  rw [hrun]
  cases vs.reverse.find? (inR lo hi) with
  | none => rfl
  | some v => rfl
theorem s6 (l : List Int) (lo hi : Int) (hl : l.length ≤ 9223372036854775807) (hr : ∀ x ∈ l, R64 x) (hlo : R64 lo) (hhi : R64 hi) : sp6 l lo hi true := by
  refine ok6 _ _ _ _ ?_
  unfold w6
  have b1 := restF_bound lo 50 (by decide)
  have b2 := restF_bound hi 50 (by decide)
  refine ⟨_, s12 lo 50 hlo (by decide), by simp only [R64]; omega, ?_⟩
  rintro _ rfl
  refine ⟨_, s12 hi 50 hhi (by decide), by simp only [R64]; omega, ?_⟩
  rintro _ rfl
  generalize hLO : 1 + restF lo 50 = LO
  have hLO1 : 1 ≤ LO ∧ LO ≤ 50 := by omega
  generalize hHI : LO + restF hi 50 = HI
  have hHI1 : LO ≤ HI ∧ HI ≤ 100 := by omega
  refine ⟨fun v8 v9 => ∃ k : Nat, v9 = k ∧ k ≤ l.length ∧ v8.length ≤ k ∧ v8.length ≤ 20 ∧ ∀ x ∈ v8, 1 ≤ x ∧ x ≤ 120, fun _ v => (l.length - v).toNat, ⟨0, rfl, by omega, Nat.le_refl _, by simp, nofun⟩, ?_⟩
  rintro al v ⟨k, rfl, hk, hal, hal2, hav⟩ t ht
  refine ⟨fun h1 => ?_, fun h1 => ?_⟩
  · have hlt : k < l.length := by rw [h1] at ht; have := of_decide_eq_true ht.symm; omega
    refine ⟨by omega, fun a ha => ?_⟩
    have ha' : l[k]? = some a := by simpa using ha
    have b3 := restF_bound a 120 (by decide)
    refine ⟨fun h2 => ⟨_, s12 a 120 (hr a (List.mem_of_getElem? ha')) (by decide), by simp only [R64]; omega, ?_⟩, fun h2 => ⟨by simp only [R64]; omega, ?_⟩⟩
    · rintro _ rfl
      refine ⟨by simp only [List.length_cons, List.length_nil]; omega, ?_⟩
      rintro _ rfl
      refine ⟨by simp only [R64]; omega, ?_⟩
      rintro _ rfl
      refine ⟨⟨k + 1, by omega, by omega, by simp; omega, by simp; omega, fun x hx => ?_⟩, by dsimp only; omega⟩
      rcases List.mem_append.1 hx with hx | hx
      · exact hav x hx
      · obtain rfl : x = 1 + restF a 120 := by simpa using hx
        omega
    · rintro _ rfl
      exact ⟨⟨k + 1, by omega, by omega, by omega, hal2, hav⟩, by dsimp only; omega⟩
  · obtain ⟨f1, f2, f3⟩ := setI_facts al
    obtain ⟨_, _, f6⟩ := sortI_facts al
    refine ⟨sortI al, s17 al (by omega), f6, setI al, s18 (sortI al) (by omega), ?_⟩
    have hvs : ∀ x ∈ setI al, 1 ≤ x ∧ x ≤ 120 := fun x hx => hav x ((f2 x).1 hx)
    have hvl : (setI al).length ≤ 20 := by omega
    generalize setI al = vs at f1 hvs hvl
    refine ⟨fun v28 v29 v30 => ∃ k : Nat, v30 = k ∧ k ≤ vs.length ∧ v28 = (vs.take k).map mkM ∧ v29 = ((vs.take k).reverse.find? (inR LO HI)).getD 0, fun _ _ v => (vs.length - v).toNat, ⟨0, rfl, by omega, rfl, rfl⟩, ?_⟩
    rintro _ _ v ⟨k, rfl, hk, rfl, rfl⟩ t2 ht2
    refine ⟨fun h2 => ?_, fun h2 => ?_⟩
    · have hlt : k < vs.length := by rw [h2] at ht2; have := of_decide_eq_true ht2.symm; omega
      refine ⟨by omega, fun a ha => ?_⟩
      have ha' : vs[k]? = some a := by simpa using ha
      have e1 : vs.take (k + 1) = vs.take k ++ [a] := by rw [List.take_add_one, ha']; rfl
      have e2 : (vs.take (k + 1)).map mkM = (vs.take k).map mkM ++ [⟨[97], a, []⟩] := by rw [e1, List.map_append]; rfl
      have e3 : ((vs.take (k + 1)).reverse.find? (inR LO HI)).getD 0 = if inR LO HI a then a else ((vs.take k).reverse.find? (inR LO HI)).getD 0 := by
        rw [e1, List.reverse_append]
        simp only [List.reverse_cons, List.reverse_nil, List.nil_append, List.singleton_append, List.find?_cons]
        cases inR LO HI a <;> rfl
      refine ⟨by simp only [List.length_map, List.length_take, List.length_cons, List.length_nil]; omega, ?_⟩
      rintro _ rfl
      refine ⟨fun g1 => ⟨fun g2 => ⟨by simp only [R64]; omega, ?_⟩, fun g2 => ⟨by simp only [R64]; omega, ?_⟩⟩, fun g1 => ⟨by simp only [R64]; omega, ?_⟩⟩
      · rintro _ rfl
        refine ⟨⟨k + 1, by omega, by omega, e2.symm, ?_⟩, by dsimp only; omega⟩
        rw [e3, if_pos (by simp [inR, g1, g2])]
      · rintro _ rfl
        refine ⟨⟨k + 1, by omega, by omega, e2.symm, ?_⟩, by dsimp only; omega⟩
        have : ¬ a ≤ HI := by omega
        rw [e3, if_neg (by simp [inR, this])]
      · rintro _ rfl
        refine ⟨⟨k + 1, by omega, by omega, e2.symm, ?_⟩, by dsimp only; omega⟩
        have : ¬ LO ≤ a := by omega
        rw [e3, if_neg (by simp [inR, this])]
    · have hge : ¬ ((k : Int) < vs.length) := by rw [h2] at ht2; exact of_decide_eq_false ht2.symm
      rw [List.take_of_length_le (by omega)]
      have hM : ∀ m ∈ vs.map mkM, MdOk m := fun m hm => by
        obtain ⟨v, hv, rfl⟩ := List.mem_map.1 hm
        have := hvs v hv
        exact ⟨⟨97, rfl, by decide, by decide⟩, this.1, by show v ≤ 9999; omega, Nat.zero_le _, nofun⟩
      have hO : (vs.map mkM).Pairwise fun a b => ordM a b < 0 := List.pairwise_map.2 (f1.imp fun {a b} hab => by
        have e : ordM (mkM a) (mkM b) = cmpI a b := by
          have : cmpS (mkM a).Name (mkM b).Name = 0 := by
            show cmpS [97] [97] = 0
            decide
          unfold ordM
          rw [this]; rfl
        rw [e]
        unfold cmpI
        rw [if_pos hab]; decide)
      have hR : Reg Nm5 (vs.map mkM) [] := ⟨by simp; omega, named_len (by simpa using hvl), fun m hm => ⟨by have := (hM m hm).len; omega, fun u hu => ((hM m hm).use u hu).mem⟩, by decide⟩
      have hU : ∀ u ∈ [(⟨[97], LO, HI⟩ : Us)], UOk u := fun u hu => by
        obtain rfl : u = (⟨[97], LO, HI⟩ : Us) := by simpa using hu
        exact uok_c _ _ _ (by decide) hLO1.1 hHI1.1 (by omega)
      have hb := s10 (f := []) (s15 _ (by simp; omega) hM hO) (s20 _ (by simp) hU) hR (root_bnd (by simp) hU)
      rw [best_high] at hb
      refine ⟨_, hb, true, s13, fun h => by simp at h, fun _ => ?_⟩
      cases hf : vs.reverse.find? (inR LO HI) with
      | none =>
        refine ⟨fun _ => ⟨fun _ => ?_, fun h => absurd rfl h⟩, fun h => absurd rfl h⟩
        rintro _ rfl
        rfl
      | some v =>
        have hv := hvs v (by simpa using List.mem_of_find?_eq_some hf)
        refine ⟨fun h => ?_, fun _ => ⟨fun _ => ⟨_, s14 _ _ (by simp), by simp⟩, fun h => absurd rfl h⟩⟩
        simp only [Option.getD_some] at h
        omega
end Go.Hw.VE

