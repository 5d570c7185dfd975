import Derived.Test.YtonoaimefgodfaaHwMkP
import Derived.Test.YtonoaimefgodfaaHwSep
import Derived.Test.YtonoaimefgodfaaHwBor
set_option linter.unusedVariables false
set_option linter.unusedSimpArgs false
namespace Go.Hw.VK
open Go Go.Proofs

structure PS where
  id : Nat
  wid : Nat
  oid : Nat
  peers : List Int
  begun : Bool
  state : Int
  ways : List (RW Int)
  over : List Bool
abbrev PS.obj (s : PS) : HObj := .cells [ln (eInt .i64) s.peers, .bool s.begun, ii s.state, .arr s.wid 0 s.ways.length 1, .arr s.oid 0 s.over.length 1]
abbrev wayO (l : List (RW Int)) : HObj := .cells (l.map (RW.hv (eInt .i64)))
abbrev overO (l : List Bool) : HObj := .cells (l.map eBool)
def PS.lay (s : PS) : Lay := [(s.id, s.obj), (s.wid, wayO s.ways), (s.oid, overO s.over)] ++ s.ways.flatMap RW.lay
structure PS.ok (s : PS) : Prop where
  rows : ∀ r ∈ s.ways, r.ok 1
  nw : s.ways.length = s.peers.length
  no : s.over.length = s.peers.length
  np : s.peers.length ≤ 8
  lens : ∀ r ∈ s.ways, r.l.length ≤ 200
theorem tcd {A : Type} {l : List A} {i : Nat} (v : A) (h : i < l.length) : l.take i ++ v :: l.drop (i + 1) = l.set i v := by rw [List.set_eq_take_append_cons_drop, if_pos h]

theorem r49 {h : Heap} {R : Lay} {id : Nat} {pl aw ao : HV} {b : Bool} {st n : Int} {Q : HV → Heap → Prop} (s : Sep h ((id, .cells [pl, .bool b, ii st, aw, ao]) :: R))
    (k1 : b = true → Q (ii 8) h) (k2 : ∀ h', b = false → Sep h' ((id, .cells [pl, .bool true, ii n, aw, ao]) :: R) → Q (ii 0) h') : HCalls Try.prog 49 [.ptr id 0, ii n] h Q := by
  refine sc_func2 (rs := [.t 4]) Try.func49 rfl (by decide) (by kernel_rfl) (lb rfl) hk49 ?_
  have h1 : h[id]? = some (.cells [pl, .bool b, ii st, aw, ao]) := s.get (by simp)
  show SC Try.prog Try.f49.ntmps _ hc49 _ [(0, .ptr id 0), (1, ii n)] h
  unfold hc49
  refine x_reg ?_
  simp [hops, hcall, hstep, X.ev, Env.get, Env.put, prune, evs, evParts, Heap.cells, Heap.mapAt, Heap.tokAt, atCells, hnew, one?, fillCells, putAt, HV.cells, isTuple, bnd, HV.strip1, ibin, ibinOk, eqsOk, HV.eqs]
  refine sc_seq (x_reg ?_)
  simp [hops, hcall, hstep, X.ev, Env.get, Env.put, prune, evs, evParts, Heap.cells, Heap.mapAt, Heap.tokAt, atCells, hnew, one?, fillCells, putAt, HV.cells, isTuple, bnd, HV.strip1, ibin, ibinOk, eqsOk, HV.eqs, h1]
  refine sc_cond (t := b) rfl (fun hb => ?_) (fun hb => ?_)
  · refine x_reg ?_
    simp [hops, hcall, hstep, X.ev, Env.get, Env.put, prune, evs, evParts, Heap.cells, Heap.mapAt, Heap.tokAt, atCells, hnew, one?, fillCells, putAt, HV.cells, isTuple, bnd, HV.strip1, ibin, ibinOk, eqsOk, HV.eqs]
    exact sc_ret (sq_r (x_ret _ rfl (k1 hb)))
  · refine sc_skip (x_reg ?_)
    have hs : ∀ X, (h.set id X)[id]? = some X := fun X => List.getElem?_set_self (lt_of_get h1)
    simp [hops, hcall, hstep, X.ev, Env.get, Env.put, prune, evs, evParts, Heap.cells, Heap.mapAt, Heap.tokAt, atCells, hnew, one?, fillCells, putAt, HV.cells, isTuple, bnd, HV.strip1, ibin, ibinOk, eqsOk, HV.eqs, h1, hs]
    refine x_reg ?_
    simp [hops, hcall, hstep, X.ev, Env.get, Env.put, prune, evs, evParts, Heap.cells, Heap.mapAt, Heap.tokAt, atCells, hnew, one?, fillCells, putAt, HV.cells, isTuple, bnd, HV.strip1, ibin, ibinOk, eqsOk, HV.eqs]
    exact sc_ret (x_ret _ rfl (k2 _ hb (Sep.set (A := []) s _)))
def markP (s : PS) (from_ st : Int) : PS × Bool × Int :=
  if idxI s.peers from_ < 0 then (s, false, 4) else if s.over.getD (idxI s.peers from_).toNat false then (s, false, 5)
  else ({ s with begun := true, state := if s.begun then s.state else st, over := s.over.set (idxI s.peers from_).toNat true }, !s.begun, 0)
theorem r22 {h : Heap} {R : Lay} {s : PS} (ok : s.ok) {f st : Int} (hs : Sep h (s.lay ++ R)) {Q : HV → Heap → Prop}
    (kk : ∀ h', Sep h' ((markP s f st).1.lay ++ R) → Q (.tuple [.bool (markP s f st).2.1, ii (markP s f st).2.2]) h') : HCalls Try.prog 22 [.ptr s.id 0, ii f, ii st] h Q := by
  refine sc_func2 (rs := [.t 6, .t 7]) Try.func22 rfl (by decide) (by kernel_rfl) (lb rfl) hk22 ?_
  have h1 : h[s.id]? = some s.obj := hs.get (by simp [PS.lay])
  have h2 : h[s.oid]? = some (overO s.over) := hs.get (by simp [PS.lay])
  show SC Try.prog Try.f22.ntmps _ hc22 _ [(0, .ptr s.id 0), (1, ii f), (2, ii st)] h
  unfold hc22
  refine x_reg ?_
  simp [hops, hcall, hstep, X.ev, Env.get, Env.put, prune, evs, evParts, Heap.cells, Heap.mapAt, Heap.tokAt, atCells, hnew, one?, fillCells, putAt, HV.cells, isTuple, bnd, HV.strip1, ibin, ibinOk, eqsOk, HV.eqs]
  refine x_reg ?_
  simp [hops, hcall, hstep, X.ev, Env.get, Env.put, prune, evs, evParts, Heap.cells, Heap.mapAt, Heap.tokAt, atCells, hnew, one?, fillCells, putAt, HV.cells, isTuple, bnd, HV.strip1, ibin, ibinOk, eqsOk, HV.eqs, h1]
  refine (s48 s.peers f (by have := ok.np; omega)).use ?_
  refine sc_seq (sc_block (x_reg ?_))
  simp [hops, hcall, hstep, X.ev, Env.get, Env.put, prune, evs, evParts, Heap.cells, Heap.mapAt, Heap.tokAt, atCells, hnew, one?, fillCells, putAt, HV.cells, isTuple, bnd, HV.strip1, ibin, ibinOk, eqsOk, HV.eqs]
  refine sc_cond rfl (fun hb => ?_) (fun hb => ?_)
  · refine x_reg ?_
    simp [hops, hcall, hstep, X.ev, Env.get, Env.put, prune, evs, evParts, Heap.cells, Heap.mapAt, Heap.tokAt, atCells, hnew, one?, fillCells, putAt, HV.cells, isTuple, bnd, HV.strip1, ibin, ibinOk, eqsOk, HV.eqs]
    refine sc_ret (bl_r (sq_r (x_ret _ rfl ?_)))
    have hb : idxI s.peers f < 0 := of_decide_eq_true hb
    unfold markP at kk
    rw [if_pos hb] at kk
    exact kk h hs
  · have hb : ¬ idxI s.peers f < 0 := of_decide_eq_false hb
    obtain ⟨k, hk, _, hkl⟩ : ∃ k : Nat, idxI s.peers f = k ∧ s.peers[k]? = some f ∧ k < s.peers.length := by
      rcases idxI_cases s.peers f with ⟨h1, _⟩ | h1
      · omega
      · exact h1
    have hko : k < s.over.length := by have := ok.no; omega
    have hkg : s.over[k]? = some s.over[k] := List.getElem?_eq_getElem hko
    have hM : markP s f st = if s.over[k] then (s, false, 5) else ({ s with begun := true, state := if s.begun then s.state else st, over := s.over.set k true }, !s.begun, 0) := by
      unfold markP
      rw [if_neg hb, hk]
      simp [List.getD_eq_getElem?_getD, hkg]
    rw [hM] at kk
    simp only [zg48, hk]
    refine x_reg ?_
    simp [hops, hcall, hstep, X.ev, Env.get, Env.put, prune, evs, evParts, Heap.cells, Heap.mapAt, Heap.tokAt, atCells, hnew, one?, fillCells, putAt, HV.cells, isTuple, bnd, HV.strip1, ibin, ibinOk, eqsOk, HV.eqs, h1, h2, hkg, hko]
    generalize s.over[k] = ov at hkg kk
    refine sc_cond (t := ov) rfl (fun hov => ?_) (fun hov => ?_)
    · refine x_reg ?_
      simp [hops, hcall, hstep, X.ev, Env.get, Env.put, prune, evs, evParts, Heap.cells, Heap.mapAt, Heap.tokAt, atCells, hnew, one?, fillCells, putAt, HV.cells, isTuple, bnd, HV.strip1, ibin, ibinOk, eqsOk, HV.eqs]
      refine sc_ret (bl_r (sq_r (x_ret _ rfl ?_)))
      rw [hov] at kk
      exact kk h hs
    · subst hov
      simp only [Bool.false_eq_true, if_false] at kk
      refine sc_skip (bl_n (sq_n (x_reg ?_)))
      simp [hops, hcall, hstep, X.ev, Env.get, Env.put, prune, evs, evParts, Heap.cells, Heap.mapAt, Heap.tokAt, atCells, hnew, one?, fillCells, putAt, HV.cells, isTuple, bnd, HV.strip1, ibin, ibinOk, eqsOk, HV.eqs]
      have tail : ∀ (b' : Bool) (st' : Int) (h' : Heap), (b' = !s.begun) → (st' = if s.begun then s.state else st) → Sep h' (({ s with begun := true, state := st' } : PS).lay ++ R) →
          SC Try.prog 38 (List.length h) ((C.reg [mo 31 0, oo 32 (O.nilck 31), oo 33 (O.faddr 4 1 32), oo 34 (O.load none 33), mo 35 8, oo 36 (O.iaddr 1 34 35), os (O.store 1 36 (X.c (HV.bool true)))] [9]).seq ((C.reg [mo 37 9, mo 6 37, oo 7 (O.mv (X.c (HV.int IntKind.i64 0)))] [6, 7]).seq C.ret))
            (RetS2 [RS.t 6, RS.t 7] (List.length h) Q) [(0, HV.ptr s.id 0), (8, ii ↑k), (9, HV.bool b')] h' := by
        rintro b' st' h' rfl rfl hs'
        have g1 : h'[s.id]? = some (PS.obj { s with begun := true, state := if s.begun then s.state else st }) := hs'.get (by simp [PS.lay])
        have g2 : h'[s.oid]? = some (overO s.over) := hs'.get (by simp [PS.lay])
        refine x_reg ?_
        simp [hops, hcall, hstep, X.ev, Env.get, Env.put, prune, evs, evParts, Heap.cells, Heap.mapAt, Heap.tokAt, atCells, hnew, one?, fillCells, putAt, HV.cells, isTuple, bnd, HV.strip1, ibin, ibinOk, eqsOk, HV.eqs, g1, g2, hko]
        refine ⟨hko, x_reg ?_⟩
        simp [hops, hcall, hstep, X.ev, Env.get, Env.put, prune, evs, evParts, Heap.cells, Heap.mapAt, Heap.tokAt, atCells, hnew, one?, fillCells, putAt, HV.cells, isTuple, bnd, HV.strip1, ibin, ibinOk, eqsOk, HV.eqs]
        refine sc_ret (x_ret _ rfl (kk _ ?_))
        have e : List.take k (List.map eBool s.over) ++ HV.bool true :: List.drop (k + 1) (List.map eBool s.over) = (s.over.set k true).map eBool := by
          rw [tcd _ (by simpa using hko), List.map_set]
        simp only [List.map_take, List.map_drop, e]
        have := Sep.set (A := [(s.id, PS.obj { s with begun := true, state := if s.begun then s.state else st }), (s.wid, wayO s.ways)]) (B := s.ways.flatMap RW.lay ++ R) (i := s.oid) (o := overO s.over) (by simpa [PS.lay] using hs') (overO (s.over.set k true))
        simpa [PS.lay, PS.obj, overO, List.map_set] using this
      refine r49 (R := [(s.wid, wayO s.ways), (s.oid, overO s.over)] ++ s.ways.flatMap RW.lay ++ R) (by simpa [PS.lay] using hs) (fun hb => ?_) (fun h' hb hs' => ?_)
      · simp [hops, hcall, hstep, X.ev, Env.get, Env.put, prune, evs, evParts, Heap.cells, Heap.mapAt, Heap.tokAt, atCells, hnew, one?, fillCells, putAt, HV.cells, isTuple, bnd, HV.strip1, ibin, ibinOk, eqsOk, HV.eqs]
        refine tail _ s.state h (by simp [hb]) (by simp [hb]) ?_
        have : ({ s with begun := true, state := s.state } : PS) = s := by
          obtain ⟨_, _, _, _, b, _, _, _⟩ := s
          simp only at hb
          subst hb
          rfl
        rw [this]; exact hs
      · simp [hops, hcall, hstep, X.ev, Env.get, Env.put, prune, evs, evParts, Heap.cells, Heap.mapAt, Heap.tokAt, atCells, hnew, one?, fillCells, putAt, HV.cells, isTuple, bnd, HV.strip1, ibin, ibinOk, eqsOk, HV.eqs]
        refine tail _ st h' (by simp [hb]) (by simp [hb]) ?_
        simpa [PS.lay] using hs'

end Go.Hw.VK

