import Derived.Test.YtonoaimefgodfaaHwMkW
import Derived.Test.YtonoaimefgodfaaHwMkP
set_option linter.unusedVariables false
set_option linter.unusedSimpArgs false
namespace Go.Hw.VK
open Go Go.Proofs

def m0 (coins : List Int) : M := ⟨fun i => coins.getD i 0, fun _ _ => [], fun _ => false, fun _ => 0, fun _ _ => false, fun _ _ => []⟩
def deedM (n : Nat) (m : M) (d : GMark_Deed) : M := doM n m d.Kind d.From.toNat d.To.toNat d.N
def runM (coins : List Int) (deeds : List GMark_Deed) : M := deeds.foldl (deedM coins.length) (m0 coins)
structure D12 (n : Nat) (d : GMark_Deed) : Prop where
  kind : d.Kind = 1 ∨ d.Kind = 2 ∨ d.Kind = 3
  frm : 0 ≤ d.From ∧ d.From < n
  to_ : 0 ≤ d.To ∧ d.To < n
  num : d.Kind = 1 → 1 ≤ d.N ∧ d.N ≤ 12
structure St (n k : Nat) (S : Int) (t : Tw) (m : M) : Prop where
  sim : Sim n t m
  inv : InvM n k m
  wok : WOk n t.ways
  tot : t.coins.sum + leftF t.ways = S
theorem wt_do {n k : Nat} {t : Tw} {m : M} (h : Sim n t m) (hi : InvM n k m) (hw : WOk n t.ways) {a b : Nat} (ha : a < n) (hb : b < n) (kd nn : Int) :
    WOk n (doF t kd a b nn).ways ∧ (doF t kd a b nn).coins.sum + leftF (doF t kd a b nn).ways = t.coins.sum + leftF t.ways := by
  have hlen : t.coins.length = n := by rw [h.coins]; simp
  have hget : ∀ i, i < n → t.coins[i]? = some (m.co i) := fun i hi => by
    rw [h.coins, List.getElem?_map, List.getElem?_range hi]; rfl
  have hco : ∀ i, i < n → t.coins.getD i 0 = m.co i := fun i hi => by rw [h.coins, getD_range hi]
  unfold doF
  split
  · exact ⟨hw, rfl⟩
  split
  · split
    · refine ⟨hw.put ha hb _, ?_⟩
      show (t.coins.set a _).sum + leftF (wadd _ _ _) = _
      rw [leftF_wadd, sum_set _ (hget a ha), hco a ha]
      simp only
      omega
    · exact ⟨hw, rfl⟩
  split
  · unfold comeF
    have hW := h.ways a b ha hb
    rw [hW]
    cases hwy : m.wy a b with
    | nil => exact ⟨hw, rfl⟩
    | cons x r =>
      simp only
      have hp := hw.put ha hb r
      have hl := leftF_put (g := t.ways) ((a : Int), (b : Int)) r
      rw [hW, hwy] at hl
      have hx : sumI (x :: r) = x.n + sumI r := by simp [sumI]
      unfold comeX
      split
      · rename_i hm
        have hx0 := (hi.item a b ha hb x (by rw [hwy]; simp)).2.2 hm
        simp only
        split
        · refine ⟨hp.say hb _ (by rw [hlen]; exact Nat.le_refl n), ?_⟩
          rw [leftF_say, hl]
          omega
        · refine ⟨hp, ?_⟩
          rw [hl]
          omega
      · refine ⟨hp, ?_⟩
        show (t.coins.set b _).sum + leftF _ = _
        rw [hl, sum_set _ (hget b hb), hco b hb]
        omega
  · split
    · exact ⟨hw, rfl⟩
    · refine ⟨hw.say ha _ (by rw [hlen]; exact Nat.le_refl n), ?_⟩
      show t.coins.sum + leftF (sayF _ _ _) = _
      rw [leftF_say]
theorem st_do {n k : Nat} {S : Int} {t : Tw} {m : M} (h : St n k S t m) {d : GMark_Deed} (hd : D12 n d) : St n (k + 1) S (deedF t d) (deedM n m d) := by
  have ha : d.From.toNat < n := by have := hd.frm; omega
  have hb : d.To.toNat < n := by have := hd.to_; omega
  obtain ⟨h1, h2⟩ := wt_do h.sim h.inv h.wok ha hb d.Kind d.N
  exact ⟨sim_do h.sim ha hb _ _, inv_do h.inv ha hb hd.num, h1, h2.trans h.tot⟩
theorem st_fold {n : Nat} {S : Int} : ∀ (deeds : List GMark_Deed) (k : Nat) (t : Tw) (m : M), St n k S t m → (∀ d ∈ deeds, D12 n d) → St n (k + deeds.length) S (deeds.foldl deedF t) (deeds.foldl (deedM n) m)
  | [], k, t, m, h, _ => h
  | d :: ds, k, t, m, h, hd => by
    have := st_fold ds (k + 1) _ _ (st_do h (hd d (by simp))) fun x hx => hd x (by simp [hx])
    simp only [List.foldl_cons, List.length_cons]
    rw [show k + (ds.length + 1) = k + 1 + ds.length by omega]
    exact this
theorem st_zero {coins : List Int} (hc : ∀ c ∈ coins, 0 ≤ c ∧ c ≤ 1000) : St coins.length 0 coins.sum (tw0 coins) (m0 coins) := by
  have hget : ∀ i, i < coins.length → coins.getD i 0 ∈ coins := fun i hi => by
    rw [List.getD_eq_getElem?_getD, List.getElem?_eq_getElem hi]
    exact List.getElem_mem hi
  refine ⟨⟨?_, ?_, fun a b _ _ => rfl⟩, ⟨fun a ha => ?_, fun a b _ _ x hx => by simp [m0] at hx, fun a b _ _ _ => rfl, fun a b _ _ _ ho => by simp [m0] at ho, fun a b => Nat.zero_le _⟩, ⟨GM.nil_wf, fun p hp => by simp [tw0, GM.nil] at hp⟩, ?_⟩
  · show coins = _
    refine List.ext_getElem? fun i => ?_
    rw [List.getElem?_map]
    rcases Nat.lt_or_ge i coins.length with hi | hi
    · rw [List.getElem?_range hi, List.getElem?_eq_getElem hi]
      simp [m0, List.getD_eq_getElem?_getD, List.getElem?_eq_getElem hi]
    · rw [List.getElem?_eq_none hi, List.getElem?_eq_none (by simpa using hi)]
      rfl
  · show (List.range coins.length).map (newSd coins.length) = _
    refine map_range_upd _ 0 _ _ fun i _ => ?_
    have hl : (peersF coins.length i).length = (others coins.length i).length := by simp [peersF, others]
    simp [newSd, sideM, m0, hl, List.map_const']
  · have := hc _ (hget a ha)
    show 0 ≤ coins.getD a 0 ∧ coins.getD a 0 ≤ _
    omega
  · show coins.sum + 0 = _
    omega
theorem st_run {coins : List Int} (hc : ∀ c ∈ coins, 0 ≤ c ∧ c ≤ 1000) {deeds : List GMark_Deed} (hd : ∀ d ∈ deeds, D12 coins.length d) : St coins.length deeds.length coins.sum (runF coins deeds) (runM coins deeds) := by
  have := st_fold deeds 0 _ _ (st_zero hc) hd
  rw [Nat.zero_add] at this
  exact this
theorem good_of {n k : Nat} {S : Int} {t : Tw} {m : M} (h : St n k S t m) (hn : n ≤ 8) (hk : k ≤ 400) : Good n t := by
  refine ⟨by rw [h.sim.coins]; simp, by rw [h.sim.sides]; simp, fun c hc => ?_, fun p hp x hx => ?_, ?_⟩
  · rw [h.sim.coins] at hc
    obtain ⟨i, hi, rfl⟩ := List.mem_map.1 hc
    have := h.inv.cob i (List.mem_range.1 hi)
    omega
  · obtain ⟨a, b, ha, hb, he⟩ := h.wok.keys p hp
    have h1 := GM.mem_get h.wok.wf hp
    rw [he] at h1
    have h2 := h.sim.ways a b ha hb
    rw [h1, Option.getD_some] at h2
    rw [h2] at hx
    have := h.inv.item a b ha hb x hx
    omega
  · have := h.wok.len
    have : n * n ≤ 8 * 8 := Nat.mul_le_mul hn hn
    omega
theorem run_sp38 {coins : List Int} (h0 : coins ≠ []) (h8 : coins.length ≤ 8) (hc : ∀ c ∈ coins, 0 ≤ c ∧ c ≤ 1000) {deeds : List GMark_Deed} (hl : deeds.length ≤ 400) (hd : ∀ d ∈ deeds, D12 coins.length d) : sp38 coins deeds (shotF (runF coins deeds), 0) := by
  refine r38 coins deeds h0 h8 (fun c h => by have := hc c h; omega) hl (fun d h => ?_) (fun k hk => ?_)
  · have := hd d h
    exact ⟨this.kind, this.frm, this.to_, fun h1 => by have := this.num h1; omega⟩
  · have := st_run hc (deeds := deeds.take k) (fun d h => hd d (List.mem_of_mem_take h))
    exact good_of this h8 (by rw [List.length_take]; omega)


def coinsF (coins : List Int) : List Int := 10 :: (coins.take 4).map fun x => restF x 50
def deedsF (n : Nat) (l : List GMark_Deed) : List GMark_Deed := (l.take 150).map fun x => ⟨1 + restF x.Kind 3, restF x.From n, restF x.To n, 1 + restF x.N 12⟩
def RD (d : GMark_Deed) : Prop := R64 d.Kind ∧ R64 d.From ∧ R64 d.To ∧ R64 d.N
theorem w37_gen {coins : List Int} {l : List GMark_Deed} (hc : ∀ c ∈ coins, R64 c) (hl : ∀ d ∈ l, RD d) (hcl : coins.length ≤ 9223372036854775807) (hll : l.length ≤ 9223372036854775807) : w37 coins l fun r => r = (coinsF coins, deedsF (coinsF coins).length l, (coinsF coins).sum) := by
  unfold w37
  refine ⟨fun v s i => ∃ k : Nat, i = k ∧ k ≤ coins.length ∧ v = coinsF (coins.take k) ∧ s = v.sum ∧ 0 ≤ s ∧ s ≤ 10 + 50 * ((min k 4 : Nat) : Int), fun _ _ i => (coins.length - i).toNat, ⟨0, rfl, by omega, rfl, rfl, by decide, by decide⟩, ?_⟩
  rintro v s i ⟨k, rfl, hk, rfl, rfl, hs0, hs1⟩ w rfl
  have hvl : (coinsF (coins.take k)).length ≤ 5 := by simp only [coinsF, List.length_cons, List.length_map, List.length_take]; omega
  refine ⟨fun h => ⟨by have := of_decide_eq_true h; omega, fun a ha => ?_⟩, fun h => ?_⟩
  · have hlt : k < coins.length := by have := of_decide_eq_true h; omega
    have ha' : coins[k]? = some a := by simpa using ha
    have hra := hc a (List.mem_of_getElem? ha')
    have hb := restF_bound a 50 (by decide)
    refine ⟨fun h4 => ?_, fun h4 => ?_⟩
    · refine ⟨_, s17 a 50 hra (by decide), by simp only [List.length_cons, List.length_nil]; omega, ?_⟩
      rintro _ rfl
      refine ⟨_, s17 a 50 hra (by decide), by simp only [R64]; omega, ?_⟩
      rintro _ rfl
      refine ⟨by simp only [R64]; omega, ?_⟩
      rintro _ rfl
      have e : coinsF (coins.take (k + 1)) = coinsF (coins.take k) ++ [restF a 50] := by
        have hk4 : k < 4 := by omega
        unfold coinsF
        rw [List.take_take, List.take_take, show min 4 (k + 1) = k + 1 by omega, show min 4 k = k by omega, List.take_add_one, ha', List.map_append]
        rfl
      refine ⟨⟨k + 1, by omega, by omega, e.symm, ?_, ?_, ?_⟩, by first | omega | (dsimp only; omega)⟩
      · rw [List.sum_append]; simp
      · omega
      · have : min (k + 1) 4 = min k 4 + 1 := by omega
        rw [this]; omega
    · refine ⟨by simp only [R64]; omega, ?_⟩
      rintro _ rfl
      have e : coinsF (coins.take (k + 1)) = coinsF (coins.take k) := by
        unfold coinsF
        rw [List.take_take, List.take_take, show min 4 (k + 1) = min 4 k by omega]
      refine ⟨⟨k + 1, by omega, by omega, e.symm, rfl, hs0, ?_⟩, by first | omega | (dsimp only; omega)⟩
      have : min (k + 1) 4 = min k 4 := by omega
      rw [this]; exact hs1
  · have hge : coins.length ≤ k := by have := of_decide_eq_false h; omega
    rw [List.take_of_length_le hge]
    have hn1 : 1 ≤ (coinsF coins).length := by simp [coinsF]
    have hn5 : (coinsF coins).length ≤ 5 := by simp only [coinsF, List.length_cons, List.length_map, List.length_take]; omega
    generalize hN : (coinsF coins).length = N at hn1 hn5
    refine ⟨fun v i => ∃ k : Nat, i = k ∧ k ≤ l.length ∧ v = deedsF N (l.take k), fun _ i => (l.length - i).toNat, ⟨0, rfl, by omega, rfl⟩, ?_⟩
    rintro v i ⟨k, rfl, hk, rfl⟩ w rfl
    have hdl : (deedsF N (l.take k)).length ≤ 150 := by simp only [deedsF, List.length_map, List.length_take]; omega
    refine ⟨fun h => ⟨by have := of_decide_eq_true h; omega, fun a ha => ?_⟩, fun h => ?_⟩
    · have hlt : k < l.length := by have := of_decide_eq_true h; omega
      have ha' : l[k]? = some a := by simpa using ha
      obtain ⟨r1, r2, r3, r4⟩ := hl a (List.mem_of_getElem? ha')
      have b1 := restF_bound a.Kind 3 (by decide)
      have b4 := restF_bound a.N 12 (by decide)
      refine ⟨fun h5 => ?_, fun h5 => ?_⟩
      · refine ⟨_, s17 a.Kind 3 r1 (by decide), by simp only [R64]; omega, ?_⟩
        rintro _ rfl
        refine ⟨_, s17 a.From N r2 (by omega), _, s17 a.To N r3 (by omega), _, s17 a.N 12 r4 (by decide), by simp only [R64]; omega, ?_⟩
        rintro _ rfl
        refine ⟨by simp only [List.length_cons, List.length_nil]; omega, ?_⟩
        rintro _ rfl
        refine ⟨by simp only [R64]; omega, ?_⟩
        rintro _ rfl
        refine ⟨⟨k + 1, by omega, by omega, ?_⟩, by first | omega | (dsimp only; omega)⟩
        unfold deedsF
        rw [List.take_take, List.take_take, show min 150 (k + 1) = k + 1 by omega, show min 150 k = k by omega, List.take_add_one, ha', List.map_append]
        rfl
      · refine ⟨by simp only [R64]; omega, ?_⟩
        rintro _ rfl
        refine ⟨⟨k + 1, by omega, by omega, ?_⟩, by first | omega | (dsimp only; omega)⟩
        unfold deedsF
        rw [List.take_take, List.take_take, show min 150 (k + 1) = min 150 k by omega]
    · have hge : l.length ≤ k := by have := of_decide_eq_false h; omega
      rw [List.take_of_length_le hge]
theorem towns_facts (coins : List Int) (l : List GMark_Deed) : coinsF coins ≠ [] ∧ (coinsF coins).length ≤ 5 ∧ (∀ c ∈ coinsF coins, 0 ≤ c ∧ c ≤ 1000) ∧ (deedsF (coinsF coins).length l).length ≤ 150 ∧ ∀ d ∈ deedsF (coinsF coins).length l, D12 (coinsF coins).length d := by
  have hn1 : 1 ≤ (coinsF coins).length := by simp [coinsF]
  refine ⟨by simp [coinsF], by simp only [coinsF, List.length_cons, List.length_map, List.length_take]; omega, fun c hc => ?_, by simp only [deedsF, List.length_map, List.length_take]; omega, fun d hd => ?_⟩
  · rcases List.mem_cons.1 hc with rfl | hc
    · decide
    · obtain ⟨x, _, rfl⟩ := List.mem_map.1 hc
      have := restF_bound x 50 (by decide)
      omega
  · obtain ⟨x, _, rfl⟩ := List.mem_map.1 hd
    have b1 := restF_bound x.Kind 3 (by decide)
    have b2 := restF_bound x.From (coinsF coins).length (by omega)
    have b3 := restF_bound x.To (coinsF coins).length (by omega)
    have b4 := restF_bound x.N 12 (by decide)
    refine ⟨?_, b2, b3, fun _ => ?_⟩
    · show 1 + restF x.Kind 3 = 1 ∨ _
      simp only
      omega
    · simp only
      omega
theorem s37m {coins : List Int} {l : List GMark_Deed} (hc : ∀ c ∈ coins, R64 c) (hl : ∀ d ∈ l, RD d) (hcl : coins.length ≤ 9223372036854775807) (hll : l.length ≤ 9223372036854775807) : sp37m coins l (coinsF coins, deedsF (coinsF coins).length l, (coinsF coins).sum) := ok37m _ _ _ (w37_gen hc hl hcl hll)

theorem s39 : sp39 true := by
  have hrun := run_sp38 (coins := [5, 3]) (deeds := [⟨1, 0, 1, 2⟩, ⟨3, 1, 0, 0⟩, ⟨2, 0, 1, 0⟩, ⟨2, 1, 0, 0⟩, ⟨2, 0, 1, 0⟩]) (by decide) (by decide) (by decide) (by decide) (fun d hd => by
    simp only [List.mem_cons, List.not_mem_nil, or_false] at hd
    rcases hd with rfl | rfl | rfl | rfl | rfl
    · exact ⟨by decide, by decide, by decide, by decide⟩
    · exact ⟨by decide, by decide, by decide, by decide⟩
    · exact ⟨by decide, by decide, by decide, by decide⟩
    · exact ⟨by decide, by decide, by decide, by decide⟩
    · exact ⟨by decide, by decide, by decide, by decide⟩)
  have hS : shotF (runF [5, 3] [⟨1, 0, 1, 2⟩, ⟨3, 1, 0, 0⟩, ⟨2, 0, 1, 0⟩, ⟨2, 1, 0, 0⟩, ⟨2, 0, 1, 0⟩]) = ⟨true, [3, 3], [[[]], [[2]]], [3, 5], 0⟩ := by decide +kernel
  rw [hS] at hrun
  refine ok39 _ ⟨_, hrun, fun _ => ⟨fun _ => ⟨_, s24 _ _ (by decide), fun _ => ⟨_, s24 _ _ (by decide), fun _ => ⟨fun _ => ⟨by decide, fun a4 h4 => ?_⟩, fun h => absurd rfl h⟩, fun h => by simp at h⟩, fun h => by simp at h⟩, fun h => by simp at h⟩, fun h => absurd rfl h⟩
  have h4 : some [[2]] = some a4 := h4
  injection h4 with h4
  subst h4
  refine ⟨fun _ => ⟨by decide, fun a5 h5 => ?_⟩, fun h => absurd rfl h⟩
  have h5 : some [[2]] = some a5 := h5
  injection h5 with h5
  subst h5
  refine ⟨by decide, fun a6 h6 => ?_⟩
  have h6 : some [2] = some a6 := h6
  injection h6 with h6
  subst h6
  exact ⟨_, s24 _ _ (by decide), rfl⟩

def AllDone (n : Nat) (m : M) : Prop := ∀ i, i < n → m.bg i = true ∧ ∀ j ∈ others n i, m.ov i j = true
theorem tell_side {n : Nat} {m : M} (i : Nat) : tellF (sideM m n i) = if m.bg i = true ∧ ∀ j ∈ others n i, m.ov i j = true then (m.st i, (others n i).map (m.rc i), 0) else (0, [], 8) := by
  unfold tellF
  rw [show (sideM m n i).begun = m.bg i from rfl, show (sideM m n i).over = (others n i).map (m.ov i) from rfl]
  by_cases h : m.bg i = true ∧ ∀ j ∈ others n i, m.ov i j = true
  · rw [if_pos h, if_neg]
    · rfl
    · simp only [h.1, Bool.not_true, Bool.false_or, decide_eq_true_eq]
      intro hm
      obtain ⟨j, hj, he⟩ := List.mem_map.1 hm
      rw [h.2 j hj] at he
      cases he
  · rw [if_neg h, if_pos]
    cases hb : m.bg i with
    | false => rfl
    | true =>
      simp only [Bool.not_true, Bool.false_or, decide_eq_true_eq]
      refine Classical.byContradiction fun hn => h ⟨hb, fun j hj => ?_⟩
      cases ho : m.ov i j with
      | true => rfl
      | false => exact absurd (List.mem_map.2 ⟨j, hj, ho⟩) hn
theorem done_iff {n : Nat} {t : Tw} {m : M} (h : Sim n t m) : (shotF t).Done = true ↔ AllDone n m := by
  show ((t.sides.map tellF).all fun e => decide (e.2.2 = 0)) = true ↔ _
  rw [h.sides, List.map_map, List.all_eq_true]
  constructor
  · intro hall i hi
    have := hall _ (List.mem_map.2 ⟨i, List.mem_range.2 hi, rfl⟩)
    simp only [Function.comp, tell_side, decide_eq_true_eq] at this
    by_cases hc : m.bg i = true ∧ ∀ j ∈ others n i, m.ov i j = true
    · exact hc
    · rw [if_neg hc] at this
      simp at this
  · intro hall e he
    obtain ⟨i, hi, rfl⟩ := List.mem_map.1 he
    simp only [Function.comp, tell_side, decide_eq_true_eq]
    rw [if_pos (hall i (List.mem_range.1 hi))]
end Go.Hw.VK

