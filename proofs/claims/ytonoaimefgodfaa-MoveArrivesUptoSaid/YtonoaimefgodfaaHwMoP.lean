import Derived.Test.YtonoaimefgodfaaHwMoN
set_option linter.unusedVariables false
set_option linter.unusedSimpArgs false
namespace Go.Hw.VM
open Go Go.Proofs

def restF (x n : Int) : Int := if x < 0 then (-(x + 1)).tmod n else x.tmod n
theorem s17 (x n : Int) (hx : R64 x) (hn : 0 < n) : sp17 x n (restF x n) := by
  refine ok17 _ _ _ ?_
  simp only [R64] at hx
  unfold w17
  refine ⟨fun y => y = if x < 0 then -(x + 1) else x, ⟨fun h => ⟨by simp only [R64]; omega, ?_⟩, fun h => by rw [if_neg (by omega)]⟩, ?_⟩
  · rintro _ rfl
    refine ⟨by omega, ?_⟩
    rintro _ rfl
    rw [if_pos h]
  · rintro _ rfl
    refine ⟨by omega, ?_⟩
    rintro _ rfl
    unfold restF
    split <;> rfl
theorem restF_bound (x n : Int) (hn : 0 < n) : 0 ≤ restF x n ∧ restF x n < n := by
  have key : ∀ y : Int, 0 ≤ y → 0 ≤ y.tmod n ∧ y.tmod n < n := by
    intro y hy
    rw [Int.tmod_eq_emod_of_nonneg hy]
    exact ⟨Int.emod_nonneg _ (by omega), Int.emod_lt_of_pos _ hn⟩
  unfold restF
  split
  · exact key _ (by omega)
  · exact key _ (by omega)
theorem s24 (a b : List Int) (ha : a.length ≤ 1000000) : sp24 a b (decide (a = b)) := by
  refine ok24 a b _ ⟨fun h => ?_, fun h => ⟨fun i => ∃ k : Nat, i = k ∧ k ≤ a.length ∧ a.take k = b.take k, fun i => (a.length - i).toNat, ⟨0, rfl, by omega, by simp⟩, ?_⟩⟩
  · have : a ≠ b := by rintro rfl; exact h rfl
    simp [this]
  have hlen : a.length = b.length := by omega
  rintro i ⟨k, rfl, hk, hn⟩ w rfl
  refine ⟨fun h => ⟨by have := of_decide_eq_true h; omega, fun x hx => ⟨by have := of_decide_eq_true h; omega, fun y hy => ?_⟩⟩, fun h => ?_⟩
  · have hx' : a[k]? = some x := by simpa using hx
    have hy' : b[k]? = some y := by simpa using hy
    refine ⟨fun he => ?_, fun he => ⟨by simp only [R64]; have := of_decide_eq_true h; omega, ?_⟩⟩
    · have : a ≠ b := by rintro rfl; rw [hx'] at hy'; injection hy' with hy'; exact he hy'
      simp [this]
    · rintro _ rfl
      have := of_decide_eq_true h
      refine ⟨⟨k + 1, by omega, by omega, ?_⟩, by first | omega | (dsimp only; omega)⟩
      rw [List.take_add_one, List.take_add_one, hn, hx', hy', he]
  · have hge : a.length ≤ k := by have := of_decide_eq_false h; omega
    rw [List.take_of_length_le hge, List.take_of_length_le (by omega)] at hn
    simp [hn]
theorem s36 (a b : List GMove_Got) (ha : a.length ≤ 1000000) : sp36 a b (decide (a = b)) := by
  refine ok36 a b _ ⟨fun h => ?_, fun h => ⟨fun i => ∃ k : Nat, i = k ∧ k ≤ a.length ∧ a.take k = b.take k, fun i => (a.length - i).toNat, ⟨0, rfl, by omega, by simp⟩, ?_⟩⟩
  · have : a ≠ b := by rintro rfl; exact h rfl
    simp [this]
  have hlen : a.length = b.length := by omega
  rintro i ⟨k, rfl, hk, hn⟩ w rfl
  refine ⟨fun h => ⟨by have := of_decide_eq_true h; omega, fun x hx => ⟨by have := of_decide_eq_true h; omega, fun y hy => ?_⟩⟩, fun h => ?_⟩
  · have hx' : a[k]? = some x := by simpa using hx
    have hy' : b[k]? = some y := by simpa using hy
    refine ⟨fun he => ?_, fun he => ⟨by simp only [R64]; have := of_decide_eq_true h; omega, ?_⟩⟩
    · have : a ≠ b := by rintro rfl; rw [hx'] at hy'; injection hy' with hy'; exact he hy'
      simp [this]
    · rintro _ rfl
      have := of_decide_eq_true h
      refine ⟨⟨k + 1, by omega, by omega, ?_⟩, by first | omega | (dsimp only; omega)⟩
      rw [List.take_add_one, List.take_add_one, hn, hx', hy', he]
  · have hge : a.length ≤ k := by have := of_decide_eq_false h; omega
    rw [List.take_of_length_le hge, List.take_of_length_le (by omega)] at hn
    simp [hn]

def d0 : GMove_Deed := ⟨0, 0, 0, 0, 0⟩
def nodesF (x : Int) : Int := 1 + restF x 3
def whereF (x : Int) (at_ : List Int) : List Int := 1 :: (at_.take 2).map fun a => 1 + restF a (nodesF x)
def mkDeed (x : Int) (m : Nat) (l : List GMove_Deed) (i : Nat) : GMove_Deed := ⟨1 + restF (l.getD i d0).Kind 3, 1 + restF (l.getD i d0).From (nodesF x), 1 + restF (l.getD i d0).To (nodesF x), restF (l.getD i d0).Who m, i⟩
def deedsF (x : Int) (m : Nat) (l : List GMove_Deed) (many : Nat) : List GMove_Deed := (List.range (min l.length many)).map (mkDeed x m l)
def RD (d : GMove_Deed) : Prop := R64 d.Kind ∧ R64 d.From ∧ R64 d.To ∧ R64 d.Who ∧ R64 d.N
theorem s32 {x : Int} {at_ : List Int} {l : List GMove_Deed} {many : Nat} (hx : R64 x) (hc : ∀ c ∈ at_, R64 c) (hl : ∀ d ∈ l, RD d) (hcl : at_.length ≤ 9223372036854775807) (hll : l.length ≤ 9223372036854775807) (hmany : many ≤ 1000) :
    sp32 x at_ l (many : Int) (nodesF x, whereF x at_, deedsF x (whereF x at_).length l many) := by
  refine ok32 _ _ _ _ _ ?_
  unfold w32
  have hr := restF_bound x 3 (by decide)
  refine ⟨_, s17 x 3 hx (by decide), by simp only [R64]; omega, ?_⟩
  rintro _ rfl
  have hN1 : 1 ≤ nodesF x ∧ nodesF x ≤ 3 := by unfold nodesF; omega
  rw [show 1 + restF x 3 = nodesF x from rfl]
  refine ⟨fun v i => ∃ k : Nat, i = k ∧ k ≤ at_.length ∧ v = whereF x (at_.take k), fun _ i => (at_.length - i).toNat, ⟨0, rfl, by omega, rfl⟩, ?_⟩
  rintro v i ⟨k, rfl, hk, rfl⟩ w rfl
  have hvl : (whereF x (at_.take k)).length ≤ 3 := by simp only [whereF, List.length_cons, List.length_map, List.length_take]; omega
  refine ⟨fun h => ⟨by have := of_decide_eq_true h; omega, fun a ha => ?_⟩, fun h => ?_⟩
  · have hlt : k < at_.length := by have := of_decide_eq_true h; omega
    have ha' : at_[k]? = some a := by simpa using ha
    have hra := hc a (List.mem_of_getElem? ha')
    have hb := restF_bound a (nodesF x) (by omega)
    refine ⟨fun h4 => ?_, fun h4 => ?_⟩
    · refine ⟨_, s17 a (nodesF x) hra (by omega), by simp only [R64]; omega, ?_⟩
      rintro _ rfl
      refine ⟨by simp only [List.length_cons, List.length_nil]; omega, ?_⟩
      rintro _ rfl
      refine ⟨by simp only [R64]; omega, ?_⟩
      rintro _ rfl
      refine ⟨⟨k + 1, by omega, by omega, ?_⟩, by first | omega | (dsimp only; omega)⟩
      have hk2 : k < 2 := by omega
      unfold whereF
      rw [List.take_take, List.take_take, show min 2 (k + 1) = k + 1 by omega, show min 2 k = k by omega, List.take_add_one, ha', List.map_append]
      rfl
    · refine ⟨by simp only [R64]; omega, ?_⟩
      rintro _ rfl
      refine ⟨⟨k + 1, by omega, by omega, ?_⟩, by first | omega | (dsimp only; omega)⟩
      unfold whereF
      rw [List.take_take, List.take_take, show min 2 (k + 1) = min 2 k by omega]
  · have hge : at_.length ≤ k := by have := of_decide_eq_false h; omega
    rw [List.take_of_length_le hge]
    have hm1 : 1 ≤ (whereF x at_).length := by simp [whereF]
    have hm3 : (whereF x at_).length ≤ 3 := by simp only [whereF, List.length_cons, List.length_map, List.length_take]; omega
    generalize whereF x at_ = W at hm1 hm3
    refine ⟨fun v i => ∃ k : Nat, i = k ∧ k ≤ l.length ∧ v = (List.range (min k many)).map (mkDeed x W.length l), fun _ i => (l.length - i).toNat, ⟨0, rfl, by omega, by simp⟩, ?_⟩
    rintro v i ⟨k, rfl, hk, rfl⟩ w rfl
    refine ⟨fun h => ⟨by have := of_decide_eq_true h; omega, fun a ha => ?_⟩, fun h => ?_⟩
    · have hlt : k < l.length := by have := of_decide_eq_true h; omega
      have ha' : l[k]? = some a := by simpa using ha
      obtain ⟨r1, r2, r3, r4, r5⟩ := hl a (List.mem_of_getElem? ha')
      have b1 := restF_bound a.Kind 3 (by decide)
      have b2 := restF_bound a.From (nodesF x) (by omega)
      have b3 := restF_bound a.To (nodesF x) (by omega)
      refine ⟨fun h5 => ?_, fun h5 => ?_⟩
      · refine ⟨_, s17 a.Kind 3 r1 (by decide), by simp only [R64]; omega, ?_⟩
        rintro _ rfl
        refine ⟨_, s17 a.From (nodesF x) r2 (by omega), by simp only [R64]; omega, ?_⟩
        rintro _ rfl
        refine ⟨_, s17 a.To (nodesF x) r3 (by omega), by simp only [R64]; omega, ?_⟩
        rintro _ rfl
        refine ⟨_, s17 a.Who W.length r4 (by omega), by simp only [List.length_cons, List.length_nil, List.length_map, List.length_range]; omega, ?_⟩
        rintro _ rfl
        refine ⟨by simp only [R64]; omega, ?_⟩
        rintro _ rfl
        refine ⟨⟨k + 1, by omega, by omega, ?_⟩, by first | omega | (dsimp only; omega)⟩
        have hg : l.getD k d0 = a := by rw [List.getD_eq_getElem?_getD, ha']; rfl
        rw [show min (k + 1) many = k + 1 by omega, show min k many = k by omega, List.range_succ, List.map_append]
        simp only [List.map_cons, List.map_nil, mkDeed, hg]
      · refine ⟨by simp only [R64]; omega, ?_⟩
        rintro _ rfl
        refine ⟨⟨k + 1, by omega, by omega, ?_⟩, by first | omega | (dsimp only; omega)⟩
        rw [show min (k + 1) many = min k many by omega]
    · have hge : l.length ≤ k := by have := of_decide_eq_false h; omega
      have : k = l.length := by omega
      subst this
      rfl
end Go.Hw.VM

