import Derived.Test.YtphdkcgchcogdaaHwRf
import Derived.RangeFuncBox
import Derived.RangeFuncLeaves
import Derived.Shelf.Abstract
import Derived.WalkKit
import Derived.OwnWalkIn
import Derived.TacticsInMore
import Derived.LoopNIn
import Derived.LoopIn
import Derived.Test.YtphdkcgchcogdaaProg
set_option linter.unusedVariables false
set_option linter.unusedSimpArgs false
namespace Go.Hw
open Go Go.Proofs Go.RowKit
def bw {E : Type} (l : List E) : List (Int × E) := (l.zipIdx.map fun x => ((x.2 : Int), x.1)).reverse
theorem bw_len {E : Type} (l : List E) : (bw l).length = l.length := by simp [bw]
theorem bw_get {E : Type} (l : List E) (i : Nat) (hi : i < l.length) : (bw l)[i]? = l[l.length - 1 - i]?.map fun x => (((l.length - 1 - i : Nat) : Int), x) := by
  simp only [bw]
  rw [List.getElem?_reverse (by simpa using hi)]
  simp only [List.getElem?_map, List.getElem?_zipIdx, List.length_map, List.length_zipIdx, Option.map_map, Nat.zero_add]
  rfl
theorem flat_atk {E : Type} {f : E → HV} {k : Nat} (hk : ∀ a, (f a).cells.length = k) : ∀ (l : List E) {q j : Nat} {a : E} {y : HV}, l[q]? = some a → j < k → (f a).cells[j]? = some y → (flat (l.map f))[q * k + j]? = some y
  | [], q, j, a, y, h, _, _ => by simp at h
  | b :: l, 0, j, a, y, h, hj, hy => by
    simp at h; subst h
    simp only [List.map_cons, flat, List.flatMap_cons]
    rw [List.getElem?_append_left (by rw [hk]; omega)]
    simpa using hy
  | b :: l, q + 1, j, a, y, h, hj, hy => by
    simp only [List.getElem?_cons_succ] at h
    have := flat_atk hk l h hj hy
    simp only [List.map_cons, flat, List.flatMap_cons] at this ⊢
    rw [List.getElem?_append_right (by rw [hk, Nat.add_mul]; omega), hk, show (q + 1) * k + j - k = q * k + j by rw [Nat.add_mul]; omega]
    exact this
attribute [local go_sem] Oper.semAt_some
set_option maxRecDepth 100000 in
set_option maxHeartbeats 2000000 in
theorem back_in (l bs os b off len cap : Nat) (vals : Nat → Value) (J : Nat → World → Prop) (Kp : World → World → Prop)
    (hY : ∀ i W1, i < len → J i W1 → YieldAt Fence.wide 0 Try.prog l #[.int .i64 ((len - 1 - i : Nat) : Int), .agg #[vals ((len - 1 - i) * 3), vals ((len - 1 - i) * 3 + 1), vals ((len - 1 - i) * 3 + 2)]] W1 fun e W' => e = .returned (.bool true) ∧ J (i + 1) W' ∧ Kp W1 W')
    (hK1 : ∀ W W', Kp W W' → W.cell? ⟨bs, os, none⟩ = some (.slice (some ⟨b, off, none⟩) len cap) → W'.cell? ⟨bs, os, none⟩ = some (.slice (some ⟨b, off, none⟩) len cap))
    (hK2 : ∀ W W' j, Kp W W' → j < len * 3 → W.cell? ⟨b, off + j, none⟩ = some (vals j) → W'.cell? ⟨b, off + j, none⟩ = some (vals j))
    (W : World) (hBs : W.cell? ⟨bs, os, none⟩ = some (.slice (some ⟨b, off, none⟩) len cap)) (hc : ∀ j, j < len * 3 → W.cell? ⟨b, off + j, none⟩ = some (vals j)) (hlen : len < 9223372036854775807) (h0 : J 0 W) :
    CallsIn Fence.wide 1 Try.prog 83 #[.func (.yield l) #[] #[], .pointer (some ⟨bs, os, none⟩)] W fun e W' => (∃ v, e = .returned v) ∧ J len W' := by
  refine callsIn_of_wp Try.func83 rfl trivial ?_ rfl
  simp only [Try.ntmps83, List.size_toArray, List.length_cons, List.length_nil, Nat.reduceAdd, Nat.reduceSub, Array.replicate_succ, Array.replicate_zero, List.push_toArray, List.append_toArray, List.nil_append, List.cons_append]
  gi_wp2
  gi_loopw [3] (fun i wr => ∃ k : Nat, k ≤ len ∧ i = .int .i64 ((len : Int) - 1 - k) ∧ J k wr ∧ wr.cell? ⟨bs, os, none⟩ = some (.slice (some ⟨b, off, none⟩) len cap) ∧ ∀ j, j < len * 3 → wr.cell? ⟨b, off + j, none⟩ = some (vals j))
    (fun i _ => (intOf i + 1).toNat)
  case atStart => exact ⟨0, Nat.zero_le _, by simp, h0, hBs, hc⟩
  case round =>
    obtain ⟨k, hk, rfl, hJs, hb', hc'⟩ := hrel
    by_cases hlt : k < len
    · obtain ⟨fn, tmps, assign, body, hy, hR⟩ := hY k wr hlt hJs
      have hi : ((len : Int) - 1 - k) = ((len - 1 - k : Nat) : Int) := by omega
      generalize hq : len - 1 - k = q at hi hy hR
      rw [hi]
      have hq' : q < len := by omega
      have hc0 := hc' (q * 3) (by omega)
      have hc1 : wr.cell? ⟨b, off + q * 3 + 1, none⟩ = some (vals (q * 3 + 1)) := hc' (q * 3 + 1) (by omega)
      have hc2 : wr.cell? ⟨b, off + q * 3 + 2, none⟩ = some (vals (q * 3 + 2)) := hc' (q * 3 + 2) (by omega)
      gi_wp2
      refine hR.mono ?_
      rintro e W3 ⟨rfl, hJ3, hk3⟩
      gi_wp2
      go_roundw
      case rel => exact ⟨k + 1, by omega, by rw [← hi]; simp; omega, hJ3, hK1 _ _ hk3 hb', fun j hj => hK2 _ _ j hk3 hj (hc' j hj)⟩
      case measure => simp [intOf]
    · obtain rfl : k = len := by omega
      gi_wp2
      go_end0
      exact ⟨⟨_, rfl⟩, hJs⟩
set_option maxRecDepth 100000 in
set_option maxHeartbeats 2000000 in
theorem back_nil (l bs os : Nat) (ad : Option Addr) (cap : Nat) (J : Nat → World → Prop) (W : World) (hBs : W.cell? ⟨bs, os, none⟩ = some (.slice ad 0 cap)) (h0 : J 0 W) :
    CallsIn Fence.wide 1 Try.prog 83 #[.func (.yield l) #[] #[], .pointer (some ⟨bs, os, none⟩)] W fun e W' => (∃ v, e = .returned v) ∧ J 0 W' := by
  refine callsIn_of_wp Try.func83 rfl trivial ?_ rfl
  simp only [Try.ntmps83, List.size_toArray, List.length_cons, List.length_nil, Nat.reduceAdd, Nat.reduceSub, Array.replicate_succ, Array.replicate_zero, List.push_toArray, List.append_toArray, List.nil_append, List.cons_append]
  gi_wp2
  gi_loopw [3] (fun i wr => i = .int .i64 (-1) ∧ J 0 wr) (fun _ _ => 0)
  case atStart => exact ⟨rfl, h0⟩
  case round =>
    obtain ⟨rfl, hJs⟩ := hrel
    gi_wp2
    go_end0
    exact ⟨⟨_, rfl⟩, hJs⟩

theorem back_seq {E : Type} {f : E → HV} (hagg : ∀ a, f a = .agg (f a).cells) (hlen3 : ∀ a, (f a).cells.length = 3) (l : List E) (hlen : l.length < 9223372036854775807) :
    SeqH Try.prog 83 [.rptr [.list (l.map f) .none]] ((bw l).map fun x => [.int .i64 x.1, f x.2]) := by
  refine ⟨⟨_, Try.func83, rfl, by decide⟩, fun K w h lb hh hl hv => ?_⟩
  obtain ⟨v, rfl⟩ : ∃ v, lb = [v] := by
    match lb, hl with
    | [v], _ => exact ⟨v, rfl⟩
  have hV := hv 0 _ v rfl rfl
  cases hV with
  | rptr _ bs os vals hleaf hvv hc hlim =>
  have hV0 := hvv 0 _ rfl
  have hbox : w.cell? ⟨bs, os, none⟩ = some (vals 0) := hc 0 (by simp)
  have hlimb : os < K.lim bs := by have := hlim (by simp); simp at this; omega
  have hbs : bs < w.heap.size := by
    rcases Nat.lt_or_ge bs w.heap.size with h1 | h1
    · exact h1
    · rw [hh.limb bs h1] at hlimb; omega
  have hW : ∀ {W : World} {b : Nat} {j : Nat} {v : Value}, b < w.heap.size → Below w.heap.size w W → w.cell? ⟨b, j, none⟩ = some v → W.cell? ⟨b, j, none⟩ = some v := fun hb hW hc => (hW.cell (p := ⟨_, _, none⟩) hb).trans hc
  have nil : ∀ ad cap, l = [] → vals 0 = .slice ad 0 cap → SeqN Try.prog 83 #[.pointer (some ⟨bs, os, none⟩)] [] (KpK K) w := by
    intro ad cap _ h0 lp J W hb _ _ hJ
    exact back_nil lp bs os ad cap J W (hW hbs hb (h0 ▸ hbox)) hJ
  generalize hu : vals 0 = u at hV0
  generalize hm : l.map f = m at hV0
  cases hV0 with
  | nil _ _ =>
    obtain rfl : l = [] := List.map_eq_nil_iff.1 hm
    exact ⟨[], rfl, fun i r x hr => by simp [bw] at hr, nil _ _ rfl hu⟩
  | list0 _ _ ad =>
    obtain rfl : l = [] := List.map_eq_nil_iff.1 hm
    exact ⟨[], rfl, fun i r x hr => by simp [bw] at hr, nil _ _ rfl hu⟩
  | list _ _ b o cap sz vals' hw hleaf' hv' hc' hl' hcap ht =>
    subst hm
    rw [List.length_map] at hu
    rcases Nat.eq_zero_or_pos l.length with hz | hpos
    · obtain rfl : l = [] := List.eq_nil_of_length_eq_zero hz
      exact ⟨[], rfl, fun i r x hr => by simp [bw] at hr, nil _ _ rfl hu⟩
    have hfl : (flat (l.map f)).length = l.length * 3 := by
      rw [flat_length (sz := 3) (by intro y hy; obtain ⟨a, _, rfl⟩ := List.mem_map.1 hy; exact hlen3 a), List.length_map]
    rw [hfl] at hc' hl'
    have hlb : o + l.length * 3 ≤ K.lim b := hl' (by omega)
    have hb : b < w.heap.size := by
      rcases Nat.lt_or_ge b w.heap.size with h1 | h1
      · exact h1
      · rw [hh.limb b h1] at hlb; omega
    refine ⟨(List.range l.length).map fun i => #[.int .i64 ((l.length - 1 - i : Nat) : Int), .agg #[vals' ((l.length - 1 - i) * 3), vals' ((l.length - 1 - i) * 3 + 1), vals' ((l.length - 1 - i) * 3 + 2)]], by simp [bw_len], ?_, ?_⟩
    · intro i r x hr hx
      simp only [List.getElem?_map, Option.map_eq_some_iff] at hr hx
      obtain ⟨⟨q, a⟩, hq, rfl⟩ := hr
      obtain ⟨i', hi', rfl⟩ := hx
      have hlt : i < l.length := by have := lt_of_get hi'; simpa using this
      rw [List.getElem?_range hlt] at hi'
      injection hi' with hi'
      subst hi'
      rw [bw_get l i hlt] at hq
      obtain ⟨a', ha', hqe⟩ := Option.map_eq_some_iff.1 hq
      obtain ⟨rfl, rfl⟩ := Prod.mk.inj hqe
      refine ⟨rfl, fun j y v hy hv => ?_⟩
      match j with
      | 0 => simp at hy hv; subst hy; subst hv; exact .int _ _
      | 1 =>
        simp at hy hv
        subst hy; subst hv
        rw [hagg a']
        refine V.ofAgg _ _ (by simp [hlen3]) (fun y hy => hleaf' y (List.mem_flatMap.2 ⟨f a', List.mem_map.2 ⟨a', List.mem_of_getElem? ha', rfl⟩, hy⟩)) (fun j y v hy hv => ?_)
        have hj : j < 3 := by rw [← hlen3 a']; exact lt_of_get hy
        have hgf : (flat (l.map f))[(l.length - 1 - i) * 3 + j]? = some y := flat_atk hlen3 l ha' hj hy
        have := hv' _ _ hgf
        match j, hj with
        | 0, _ => simp at hv; subst hv; simpa using this
        | 1, _ => simp at hv; subst hv; simpa using this
        | 2, _ => simp at hv; subst hv; simpa using this
      | j + 2 => simp at hy
    · intro lp J W hW' _ hY hJ
      have := back_in lp bs os b o l.length cap vals' J (KpK K)
        (fun i W1 hi hj => hY i _ W1 (by simp [hi]) hj)
        (fun A B hk hcell => hk bs os _ hlimb hcell)
        (fun A B j hk hj hcell => hk b (o + j) _ (by omega) hcell)
        W (hW hbs hW' (hu ▸ hbox)) (fun j hj => hW hb hW' (hc' j hj)) hlen hJ
      refine this.mono fun e W' ⟨h1, h2⟩ => ⟨h1, by simpa using h2⟩
end Go.Hw

