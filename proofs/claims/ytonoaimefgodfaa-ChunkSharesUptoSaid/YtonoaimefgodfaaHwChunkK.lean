import Derived.Shelf.Bytes.SlIndexAt
import Derived.Test.YtonoaimefgodfaaHwLayK
set_option linter.unusedVariables false
set_option linter.unusedSimpArgs false
namespace Go.Hw.VC
open Go Go.Proofs

theorem V_bytes {K : GK} {w : World} {l : List UInt8} {tok : Tok} {v : Value} (h : V K w (.list (bytesOf l) tok) v) :
    (l = [] ∧ v = .slice none 0 0) ∨ ∃ ad cap, v = .slice (some ad) l.length cap ∧ ∀ (i : Nat) (c : UInt8), l[i]? = some c → w.cell? (ad.add i) = some (.int .u8 c.toNat) := by
  generalize hh : bytesOf l = hs at h
  cases h with
  | nil => 
    left
    cases l with
    | nil => exact ⟨rfl, rfl⟩
    | cons => simp [bytesOf] at hh
  | list0 tok ht ad =>
    cases l with
    | nil => exact .inr ⟨ad, 0, rfl, fun i c hc => by simp at hc⟩
    | cons => simp [bytesOf] at hh
  | list hs tok b o cap sz vals hw hleaf hv hc hl hcap ht =>
    subst hh
    refine .inr ⟨⟨b, o, none⟩, cap, by simp [bytesOf], fun i c hi => ?_⟩
    have hx : (flat (bytesOf l))[i]? = some (.int .u8 c.toNat) := by rw [flat_bytesOf]; simp [bytesOf, hi]
    have h1 := hv i _ hx
    have h2 := hc i (List.getElem?_eq_some_iff.1 hx).1
    generalize vals i = u at h1 h2
    cases h1
    by_cases hi0 : i = 0
    · subst hi0; simpa [Addr.add] using h2
    · simpa [Addr.add, hi0] using h2

theorem s51 (l : List UInt8) : sp51 l 10 (Lib.indexByte l 10) := by
  refine ⟨fun x hx => ?_, .int _ _, ⟨⟨Try.f51, Try.func51, rfl, by decide⟩, fun K w vs hh hl hv => ?_⟩⟩
  · rcases List.mem_cons.1 hx with rfl | hx
    · exact (inferInstance : PVi (bn l)).1
    · rcases List.mem_cons.1 hx with rfl | hx
      · exact .int _ _
      · cases hx
  obtain ⟨v0, v1, rfl⟩ : ∃ v0 v1, vs = [v0, v1] := by
    match vs, hl with
    | [a, b], _ => exact ⟨a, b, rfl⟩
  have h0 := hv 0 _ v0 rfl rfl
  have h1 := hv 1 _ v1 rfl rfl
  cases h1
  rcases V_bytes h0 with ⟨rfl, rfl⟩ | ⟨ad, cap, rfl, hc⟩
  · refine (Any.bytes_IndexByte_nil iL 10 w).mono ?_
    rintro en w' ⟨rfl, rfl⟩
    exact ⟨_, .int .i64 (-1), K, _, rfl, .refl K w', hh, .int _ _, rfl⟩
  · refine (Any.bytes_IndexByte_at iL ad l.length cap (l.map fun c => (c.toNat : Int)) 10 w (by simp) (fun i hi => ?_)).mono ?_
    · rw [hc i l[i] (List.getElem?_eq_getElem hi)]
      simp [List.getD, hi]
    · rintro en w' ⟨rfl, rfl⟩
      refine ⟨_, .int .i64 (Lib.indexByte l 10), K, _, rfl, .refl K w', hh, ?_, rfl⟩
      have : Lib.bytesOf (l.map fun c => (c.toNat : Int)) = l := by
        unfold Lib.bytesOf
        rw [List.map_map]
        conv => rhs; rw [← List.map_id l]
        apply List.map_congr_left
        intro c _
        simp
      rw [this]
      exact .int _ _

theorem index_cases (c : UInt8) : ∀ l : List UInt8, (Lib.indexByte l c = -1 ∧ c ∉ l) ∨ ∃ k : Nat, k < l.length ∧ Lib.indexByte l c = k ∧ l[k]? = some c ∧ c ∉ l.take k
  | [] => .inl ⟨rfl, by simp⟩
  | b :: l => by
    by_cases hb : b = c
    · exact .inr ⟨0, by simp, by simp [Lib.indexByte, hb], by simp [hb], by simp⟩
    · rcases index_cases c l with ⟨h1, h2⟩ | ⟨k, h1, h2, h3, h4⟩
      · exact .inl ⟨by simp [Lib.indexByte, hb, h1], by simp [h2, Ne.symm hb]⟩
      · refine .inr ⟨k + 1, by simp; omega, ?_, by simpa using h3, by simp [h4, Ne.symm hb]⟩
        have : (Lib.indexByte l c == -1) = false := by rw [h2]; simp
        simp [Lib.indexByte, hb, this, h2]

def pl (b : List UInt8) : Nat := if 0 ≤ Lib.indexByte (b.take (min b.length 32)) 10 then (Lib.indexByte (b.take (min b.length 32)) 10).toNat + 1 else min b.length 32
theorem pl_spec {b : List UInt8} (hb : b ≠ []) : 1 ≤ pl b ∧ pl b ≤ b.length ∧ pl b ≤ 32 ∧ (pl b < 32 → pl b < b.length → b[pl b - 1]? = some 10) ∧ (10 : UInt8) ∉ b.take (pl b - 1) := by
  have hl : 0 < b.length := List.length_pos_iff.2 hb
  rcases index_cases 10 (b.take (min b.length 32)) with ⟨h1, h2⟩ | ⟨k, h1, h2, h3, h4⟩
  · have e : pl b = min b.length 32 := by unfold pl; rw [h1]; simp
    refine ⟨by omega, by omega, by omega, fun h3 h4 => by omega, fun hm => h2 ?_⟩
    rw [e] at hm
    have : b.take (min b.length 32 - 1) = (b.take (min b.length 32)).take (min b.length 32 - 1) := by
      rw [List.take_take, Nat.min_eq_left (Nat.sub_le _ 1)]
    rw [this] at hm
    exact List.mem_of_mem_take hm
  · have e : pl b = k + 1 := by unfold pl; rw [h2]; simp
    rw [List.length_take] at h1
    have hk : k < min b.length 32 := by omega
    refine ⟨by omega, by omega, by omega, fun _ _ => ?_, ?_⟩
    · rw [e]
      rw [List.getElem?_take, if_pos hk] at h3
      exact h3
    · rw [e]
      rw [List.take_take, Nat.min_eq_left (by omega)] at h4
      exact h4
def cutF (b : List UInt8) : List (List UInt8) := if h : b = [] then [] else b.take (pl b) :: cutF (b.drop (pl b))
termination_by b.length
decreasing_by
  have := pl_spec h
  rw [List.length_drop]; omega
theorem cut_nil : cutF [] = [] := by rw [cutF]; simp
theorem cut_cons {b : List UInt8} (h : b ≠ []) : cutF b = b.take (pl b) :: cutF (b.drop (pl b)) := by rw [cutF, dif_neg h]
theorem cut_good : ∀ (n : Nat) (b : List UInt8), b.length ≤ n → (cutF b).flatten = b ∧ (cutF b).length ≤ b.length ∧ ∀ (i : Nat) (p : List UInt8), (cutF b)[i]? = some p →
    1 ≤ p.length ∧ p.length ≤ 32 ∧ (i + 1 < (cutF b).length → p.length < 32 → p[p.length - 1]? = some 10) ∧ (10 : UInt8) ∉ p.take (p.length - 1)
  | 0, b, h => by
    obtain rfl : b = [] := List.eq_nil_of_length_eq_zero (by omega)
    rw [cut_nil]; simp
  | n + 1, b, h => by
    by_cases hb : b = []
    · subst hb; rw [cut_nil]; simp
    · obtain ⟨p1, p2, p3, p4, p5⟩ := pl_spec hb
      obtain ⟨e1, e2, e3⟩ := cut_good n (b.drop (pl b)) (by rw [List.length_drop]; omega)
      rw [List.length_drop] at e2
      rw [cut_cons hb]
      refine ⟨by rw [List.flatten_cons, e1, List.take_append_drop], by rw [List.length_cons]; omega, fun i p hp => ?_⟩
      cases i with
      | zero =>
        simp only [List.getElem?_cons_zero, Option.some.injEq] at hp
        subst hp
        have hlen : (b.take (pl b)).length = pl b := by rw [List.length_take]; omega
        rw [hlen]
        refine ⟨p1, p3, fun h1 h2 => ?_, ?_⟩
        · rw [List.getElem?_take, if_pos (by omega)]
          refine p4 h2 ?_
          by_cases hlt : pl b < b.length
          · exact hlt
          · rw [List.drop_of_length_le (by omega), cut_nil] at h1
            simp at h1
        · rw [List.take_take, Nat.min_eq_left (by omega)]; exact p5
      | succ i =>
        simp only [List.getElem?_cons_succ] at hp
        obtain ⟨q1, q2, q3, q4⟩ := e3 i p hp
        exact ⟨q1, q2, fun h1 h2 => q3 (by simpa using h1) h2, q4⟩

theorem s43 (l : List UInt8) (h : l.length ≤ 1000) : sp43 l l := by
  refine ok43 l _ ⟨fun h0 => ?_, by simp; omega, fun v hv => ?_⟩
  · exact (List.eq_nil_of_length_eq_zero h0).symm
  · simpa using hv
theorem s44 (l : List UInt8) (h : l.length ≤ 1000) : sp44 l l := by
  refine ok44 l _ ⟨fun h0 => ?_, by simp; omega, fun v hv => ?_⟩
  · exact (List.eq_nil_of_length_eq_zero h0).symm
  · simpa using hv
theorem s14 (l : List UInt8) {k : Nat} (hk : k ≤ 300) : sp14 l k (l.take k) := by
  refine ok14 l _ _ (fun v hv => ?_)
  subst hv
  refine ⟨⟨by omega, by omega, by omega⟩, fun v hv => ?_⟩
  have : v = l.take k := by
    rw [hv]
    simp only [Int.toNat_zero, List.drop_zero]
    by_cases h : l.length ≤ k
    · rw [List.take_of_length_le (by omega), List.take_of_length_le h]
    · congr 1; omega
  subst this
  exact ⟨_, s43 _ (by rw [List.length_take]; omega), rfl⟩
theorem s25 (b : List UInt8) (hb : b.length ≤ 300) : sp25 b (cutF b) := by
  refine ok25 b _ ⟨fun v out => v.length + out.length ≤ 300 ∧ out ++ cutF v = cutF b, fun v _ => v.length, ⟨by simpa using hb, by simp⟩, ?_⟩
  rintro v out ⟨h1, h2⟩
  refine ⟨fun hpos => ?_, fun hz => ?_⟩
  · have hv : v ≠ [] := List.length_pos_iff.1 (by omega)
    obtain ⟨p1, p2, p3, p4, p5⟩ := pl_spec hv
    rintro n rfl
    refine ⟨fun x => x = (pl v : Int), ⟨⟨by omega, by omega, by omega⟩, fun u hu => ?_⟩, ?_⟩
    · have hu2 : u = v.take (min v.length 32) := by
        rw [hu]; simp only [Int.toNat_zero, List.drop_zero]; congr 1; omega
      subst hu2
      refine ⟨_, s51 _, fun hi => ?_, fun hi => ?_⟩
      · have hr := index_cases 10 (v.take (min v.length 32))
        have hpl : (pl v : Int) = Lib.indexByte (v.take (min v.length 32)) 10 + 1 := by unfold pl; rw [if_pos hi]; omega
        refine ⟨by unfold R64; omega, fun x hx => ?_⟩
        rw [hx, hpl]
      · unfold pl; rw [if_neg (by omega)]; omega
    · rintro x rfl
      refine ⟨⟨by omega, by omega, by omega⟩, fun u hu => ?_⟩
      have hu2 : u = v.take (pl v) := by rw [hu]; simp
      subst hu2
      refine ⟨_, s44 _ (by rw [List.length_take]; omega), by simp; omega, fun o ho => ⟨⟨by omega, by omega, by omega⟩, fun u hu => ?_⟩⟩
      have hu3 : u = v.drop (pl v) := by rw [hu]; simp
      subst hu3; subst ho
      refine ⟨⟨by rw [List.length_drop, List.length_append]; simp; omega, ?_⟩, by show (v.drop (pl v)).length < v.length; rw [List.length_drop]; omega⟩
      rw [← h2, cut_cons hv, List.append_assoc]; rfl
  · obtain rfl : v = [] := List.eq_nil_of_length_eq_zero (by omega)
    rw [cut_nil, List.append_nil] at h2
    exact h2

end Go.Hw.VC

