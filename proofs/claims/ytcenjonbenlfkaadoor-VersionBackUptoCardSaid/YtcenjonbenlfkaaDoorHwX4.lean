import Derived.RangeFuncBox
import Derived.RangeFuncLeaves
import Derived.Shelf.Abstract
import Derived.WalkKit
import Derived.OwnWalkIn
import Derived.TacticsInMore
import Derived.LoopNIn
import Derived.LoopIn
import Derived.Test.YtcenjonbenlfkaaDoorHwRfs
import Derived.Test.YtcenjonbenlfkaaDoorHwX2
set_option linter.unusedVariables false
set_option linter.unusedSimpArgs false
namespace Go.Hw.VX
open Go Go.Proofs Go.RowKit
def splitL (c : UInt8) : List UInt8 → List (List UInt8)
  | [] => [[]]
  | b :: l => if b == c then [] :: splitL c l else match splitL c l with
    | [] => [[b]]
    | p :: r => (b :: p) :: r
theorem splitL_ne (c : UInt8) (l : List UInt8) : splitL c l ≠ [] := by
  cases l with
  | nil => simp [splitL]
  | cons b l =>
    simp only [splitL]
    split
    · simp
    · split <;> simp
theorem index_split (c : UInt8) : ∀ l : List UInt8, (Lib.indexByte l c = -1 ∧ splitL c l = [l]) ∨ ∃ k : Nat, Lib.indexByte l c = k ∧ k < l.length ∧ splitL c l = l.take k :: splitL c (l.drop (k + 1))
  | [] => .inl ⟨rfl, rfl⟩
  | b :: l => by
    by_cases hb : b = c
    · exact .inr ⟨0, by simp [Lib.indexByte, hb], by simp, by simp [splitL, hb]⟩
    · rcases index_split c l with ⟨h1, h2⟩ | ⟨k, h1, h2, h3⟩
      · exact .inl ⟨by simp [Lib.indexByte, hb, h1], by simp [splitL, hb, h2]⟩
      · refine .inr ⟨k + 1, ?_, by simp; omega, ?_⟩
        · have : (Lib.indexByte l c == -1) = false := by simp; omega
          simp [Lib.indexByte, hb, this]; omega
        · simp [splitL, hb, h3]
attribute [local go_sem] Oper.semAt_some
set_option maxRecDepth 100000 in
set_option maxHeartbeats 2000000 in
theorem split_in (c : UInt8) (s0 : List UInt8) (hlen : s0.length ≤ 100000) (b1 b b3 : Nat) (hb1 : b1 ≠ b) (hb3 : b3 ≠ b) :
    SeqTx Tryd.prog 59 #[.pointer (some ⟨b1, 0, none⟩), .pointer (some ⟨b, 0, none⟩), .pointer (some ⟨b3, 0, none⟩)] (splitL c s0) s0 b [(b1, .string ⟨#[c]⟩), (b3, .int .i64 0)] := by
  intro l J W hread hstore hY h0
  refine callsIn_of_wp Tryd.func59 rfl trivial ?_ rfl
  have hlen0 : 0 < (splitL c s0).length := List.length_pos_iff.2 (splitL_ne c s0)
  obtain ⟨c2, hfz, hcs⟩ := hread 0 s0 W hlen0 h0
  have c1 := hcs _ (List.mem_cons_self ..)
  have c3 := hcs _ (List.mem_cons_of_mem _ (List.mem_cons_self ..))
  simp only at c1 c3
  simp only [Tryd.ntmps59, List.size_toArray, List.length_cons, List.length_nil, Nat.reduceAdd, Nat.reduceSub, Array.replicate_succ, Array.replicate_zero, List.push_toArray, List.append_toArray, List.nil_append, List.cons_append]
  gi_wp2
  gi_loopw [7, 8] (fun _ _ wr => ∃ (i : Nat) (x : List UInt8), i < (splitL c s0).length ∧ (splitL c s0).drop i = splitL c x ∧ x.length ≤ 100000 ∧ J i x wr)
    (fun _ _ wr => match wr.cell? ⟨b, 0, none⟩ with | some (.string t) => t.size | _ => 0)
  case atStart => exact ⟨0, s0, hlen0, rfl, hlen, h0⟩
  case round =>
    obtain ⟨i, x, hi, hd, hx, hJ⟩ := hrel
    clear c1 c2 c3 hfz hcs
    obtain ⟨c2, hfz, hcs⟩ := hread i x wr hi hJ
    have c1 := hcs _ (List.mem_cons_self ..)
    have c3 := hcs _ (List.mem_cons_of_mem _ (List.mem_cons_self ..))
    simp only at c1 c3
    rcases index_split c x with ⟨e1, e2⟩ | ⟨k, e1, hk, e2⟩
    · have key : Calls Tryd.prog 60 #[.string ⟨x.toArray⟩, .string ⟨#[c]⟩] wr fun e w' => e = .returned (.int .i64 (-1)) ∧ w' = wr := by
        have : Calls Tryd.prog 60 #[.string ⟨x.toArray⟩, .string ⟨#[c]⟩] wr _ := Any.strings_Index_one yL ⟨x.toArray⟩ c wr
        simpa [e1] using this
      gi_wp2_with fail
      refine ⟨trivial, CallsIn.mono (callsIn_wf (ro := none) key) ?_⟩
      rintro e w' ⟨rfl, rfl⟩
      have hl1 : (splitL c s0).length = i + 1 := by
        have := congrArg List.length hd
        rw [e2, List.length_drop] at this; simp at this; omega
      have hp : (splitL c s0)[i]? = some x := by
        have := congrArg (·[0]?) hd
        simpa [e2] using this
      obtain ⟨fn, tmps, assign, body, hy, hR⟩ := hY i x x _ hp hJ
      gi_wp2
      refine hR.mono ?_
      rintro e W3 ⟨⟨bb, rfl, hbb⟩, hJ3⟩
      gi_wp2
      go_end0
      exact ⟨⟨_, rfl⟩, x, by rw [hl1]; exact hJ3⟩
    · have key : Calls Tryd.prog 60 #[.string ⟨x.toArray⟩, .string ⟨#[c]⟩] wr fun e w' => e = .returned (.int .i64 k) ∧ w' = wr := by
        have : Calls Tryd.prog 60 #[.string ⟨x.toArray⟩, .string ⟨#[c]⟩] wr _ := Any.strings_Index_one yL ⟨x.toArray⟩ c wr
        simpa [e1] using this
      gi_wp2_with fail
      refine ⟨trivial, CallsIn.mono (callsIn_wf (ro := none) key) ?_⟩
      rintro e w' ⟨rfl, rfl⟩
      have hne2 := List.length_pos_iff.2 (splitL_ne c (x.drop (k + 1)))
      have hl1 : i + 1 < (splitL c s0).length := by
        have := congrArg List.length hd
        rw [e2, List.length_drop, List.length_cons] at this; omega
      have hp : (splitL c s0)[i]? = some (x.take k) := by
        have := congrArg (·[0]?) hd
        simpa [e2] using this
      obtain ⟨fn, tmps, assign, body, hy, hR⟩ := hY i x (x.take k) _ hp hJ
      have hex : (⟨x.toArray⟩ : ByteArray).extract 0 k = ⟨(x.take k).toArray⟩ := by
        apply ByteArray.ext
        simp [ByteArray.data_extract]
      gi_wp2
      refine hR.mono ?_
      rintro e W3 ⟨⟨bb, rfl, hbb⟩, hJ3⟩
      obtain rfl := hbb hl1
      obtain ⟨d2, dfz, dcs⟩ := hread (i + 1) x W3 hl1 hJ3
      have d1 := dcs _ (List.mem_cons_self ..)
      have d3 := dcs _ (List.mem_cons_of_mem _ (List.mem_cons_self ..))
      simp only at d1 d3
      gi_wp2
      have hex2 : (⟨x.toArray⟩ : ByteArray).extract (k + 1) x.length = ⟨(x.drop (k + 1)).toArray⟩ := by
        rw [ByteArray.extract_mk, List.take_of_length_le (by simp)]
      rw [hex2]
      refine ⟨⟨i + 1, x.drop (k + 1), hl1, ?_, by rw [List.length_drop]; omega, hstore (i + 1) x _ W3 hl1 hJ3⟩, ?_⟩
      · have := congrArg (List.drop 1) hd
        rw [List.drop_drop, e2] at this
        simpa using this
      · obtain ⟨g2, _⟩ := hread (i + 1) (x.drop (k + 1)) _ hl1 (hstore (i + 1) x (x.drop (k + 1)) W3 hl1 hJ3)
        rw [g2, c2]
        simp [ByteArray.size]
        omega
end Go.Hw.VX

