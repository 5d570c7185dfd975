/- append, the bytes of a string, make, and literals of structs and arrays. -/
import Derived.Test.YthikpbaphpdpfaaHwMem5
import Derived.ChangeKeysEq
set_option linter.unusedVariables false
set_option linter.unusedSimpArgs false
namespace Go.Hw
open Go

variable {P : Program}
section
variable {o : Oper} {a : Act} {K : GK} {w : World} {k : HV → Heap → Prop} {e : Env} {h : Heap} (base : Nat)

theorem ok_append {t u et : TypeId} {d : TypeDesc} {sz by_ : Nat} {z : HV} {ts : Array TypeId} {s x : Operand} {s' x' : X} (ho : o.op = .call { callee := .builtin .append, args := #[s, x], argTypes := ts }) (h0 : ts[0]? = some t) (h1 : ts[1]? = some u)
    (ht : P.underlying t = some (.slice et)) (hu : P.underlying u = some d) (hd : (∃ e, d = .slice e) ∨ d = .string)
    (hsz : tsize P et = some sz) (hby : tbytes P et = some by_) (hz : tzero P et = some z) (hzl : z.cells.length = sz) (hsz0 : sz ≠ 0) (hby0 : by_ ≠ 0) (hs : cX s = some s') (hx : cX x = some x')
    (hst : hstep base (.append sz by_ s' x') e h k) (hh : HeapRel K h w) (he : EnvRel K w e a.tmps) : Ok P o a K w k := by
  obtain ⟨cs, hrun⟩ := run_builtin (P := P) (w := w) (a := a) ho
  have hts : ∀ args, Builtin.append_ ts o.type args = Builtin.append_ #[t, u] o.type args := fun args => by simp [Builtin.append_, h0, h1]
  have fin : ∀ {y v K' w' h'}, (Builtin.append_ #[t, u] o.type #[a.eval s, a.eval x]).run P w = .ok v w' → Step K w K' w' → HeapRel K' h' w' → V K' w' y v → k y h' → Ok P o a K w k := by
    intro y v K' w' h' hr hs' hh' hV hk
    refine ⟨y, v, K', w', h', .inl ?_, hs', hh', hV, hk⟩
    rw [hrun]
    have : (#[s, x] : Array Operand).map a.eval = #[a.eval s, a.eval x] := by simp
    simp only [builtin, this, hts, Sem.run_bind, hr, Result.andThen_ok, Sem.run_pure]
  simp only [hstep] at hst
  split at hst
  · rename_i hl tok ys tok' hev1 hev2
    have hs' := ev_sound hs he hev1
    have hx' := ev_sound hx he hev2
    obtain ⟨hap, htup⟩ := hst
    have hyw : ∀ y ∈ ys, y.cells.length = sz := by
      intro y hy
      rw [← strip1_cells y]
      exact hap.1.2 _ (List.mem_map_of_mem hy)
    obtain ⟨news, hsrc, hy⟩ := src_list (P := P) hx' hyw
    obtain ⟨y, v, K', w', h', hr, hst', hh', hV, hk⟩ := happend_sound (P := P) (ys := ys.map HV.strip1) (news := news) ht hu hd hsz hby hz hzl hsz0 hby0 hs' (by rw [List.length_map]; exact hsrc)
      (fun j y hjy => by
        obtain ⟨y0, h2, h3, h4⟩ := flat_strip1 htup j y hjy
        obtain ⟨l, u', hu', hV⟩ := hy j y0 h2
        exact ⟨by rw [h3]; exact l, u', hu', h4 _ _ _ hV⟩) hap hh o.type
    exact fin hr hst' hh' hV hk
  · rename_i hl tok ys hev1 hev2
    have hs' := ev_sound hs he hev1
    have hx' := ev_sound hx he hev2
    generalize hcx : a.eval x = cx at hx' fin
    cases hx'
    obtain ⟨rfl, hst⟩ := hst
    obtain ⟨y, v, K', w', h', hr, hst', hh', hV, hk⟩ := happend_sound (P := P) (ys := bytesOf ys) (news := ys.map fun c => .int .u8 c.toNat) ht hu hd hsz hby hz hzl hsz0 hby0 hs' (by
        have := src_str (P := P) (w := w) ys
        simpa [bytesOf] using this)
      (fun j y hjy => by
        rw [flat_bytesOf] at hjy
        simp only [bytesOf, List.getElem?_map, Option.map_eq_some_iff] at hjy
        obtain ⟨c, hc, rfl⟩ := hjy
        exact ⟨rfl, .int .u8 c.toNat, by simp [hc], .int _ _⟩) hst hh o.type
    exact fin hr hst' hh' hV hk
  · exact hst.elim

theorem ok_toBytes {src dst et : TypeId} {x : Operand} {y : X} (ho : o.op = .convert src dst x) (h1 : P.underlying src = some .string) (h2 : P.underlying dst = some (.slice et)) (h2' : P.underlying et = some (.int .u8)) (hx : cX x = some y) (hs : hstep base (.conv .toBytes y) e h k) (hh : HeapRel K h w) (he : EnvRel K w e a.tmps) : Ok P o a K w k := by
  simp only [hstep] at hs
  cases hev : y.ev e with
  | none => rw [hev] at hs; exact hs.elim
  | some zz =>
  rw [hev] at hs
  cases zz <;> try exact hs.elim
  rename_i s
  have hx' := ev_sound hx he hev
  generalize hcx : a.eval x = cx at hx'
  cases hx'
  generalize hgc : grownCap w s.length 0 et = gc
  have hge : s.length ≤ gc := by rw [← hgc]; exact grownCap_big w s.length 0 et
  generalize hcells : (s.map (fun c : UInt8 => Value.int .u8 (c.toNat : Int)) ++ List.replicate (gc - s.length) (Value.int .u8 0)).toArray = cells
  have hcsz : cells.size = gc := by rw [← hcells]; simp; omega
  have hrun : (execOp a.eval o).run P w = .ok (.value (.slice (some ⟨w.heap.size, 0, none⟩) s.length gc)) ((w.drew.alloc (.cells cells et)).freeze { block := w.heap.size, off := cells.size } 1) := by
    simp only [execOp, ho, hcx, Sem.run_bind, convert, run_underlying h1, run_underlying h2, run_underlying h2', Result.andThen_ok, Conv.stringToBytes, run_choose, Question.forced, Bool.false_eq_true, if_false, size_mk, newRow, run_newObj, Sem.run_pure, markStringish, run_shape]
    have e1 : (Question.appendCap s.length 0 et).cut (w.tape w.drawn (.appendCap s.length 0 et)) = gc := hgc
    simp only [e1]
    have e2 : (Array.map (fun b => Value.int IntKind.u8 (b.toNat : Int)) s.toArray ++ Array.replicate (gc - s.length) (Value.int IntKind.u8 0)) = cells := by
      rw [← hcells]; apply Array.ext'; simp
    simp only [e2]
    have e3 : (World.shape? (w.drew.alloc (.cells cells et)) w.heap.size) = some (et, cells.size) := by
      have := heap_alloc_new w.drew (.cells cells et)
      unfold World.shape?
      rw [show w.heap.size = w.drew.heap.size from rfl, this]
    rw [show (⟨w.heap.push (.cells cells et), w.tape, w.drawn + 1, w.os, w.output⟩ : World) = w.drew.alloc (.cells cells et) from rfl, e3]
    rfl
  have hheap : ((w.drew.alloc (.cells cells et)).freeze { block := w.heap.size, off := cells.size } 1).heap = w.heap.push (.cells cells et (cells.size, cells.size + 1)) := by
    simp only [World.freeze, World.alloc, World.drew, if_neg (show ¬ (1 = 0) by omega)]
    apply Array.ext_getElem?
    intro q
    rw [Array.getElem?_modify]
    by_cases hq : w.heap.size = q
    · subst hq; simp
    · simp only [if_neg hq, Array.getElem?_push, if_neg (Ne.symm hq)]
  have htp : TokPlace h (h ++ [.tok (1 + s.length)]) h.length (1 + s.length) := .inr ⟨rfl, rfl, by omega⟩
  obtain ⟨st, hh'⟩ := tok_push' (w' := (w.drew.alloc (.cells cells et)).freeze { block := w.heap.size, off := cells.size } 1) (n := s.length) hh htp hheap rfl rfl rfl (by omega) (fun i hi => by simp; omega)
  have hnb : ((w.drew.alloc (.cells cells et)).freeze { block := w.heap.size, off := cells.size } 1).heap[w.heap.size]? = some (.cells cells et (cells.size, cells.size + 1)) := by rw [hheap]; simp
  have hfl : (flat (bytesOf s)).length = s.length := by rw [flat_bytesOf]; simp [bytesOf]
  have hV := V_newlist (K' := (K.limAt w.heap.size s.length).tokAt h.length (1 + s.length) (some w.heap.size)) (w' := (w.drew.alloc (.cells cells et)).freeze { block := w.heap.size, off := cells.size } 1) (xs := bytesOf s) (us := []) (sz := 1) (b := w.heap.size) (cap := gc) (tok := .own h.length 1 1) (c := cells) (et := et) (fr := (cells.size, cells.size + 1))
    (fun x hx => by simp only [bytesOf, List.mem_map] at hx; obtain ⟨c, _, rfl⟩ := hx; rfl)
    (fun j y hjy => by
      rw [flat_bytesOf] at hjy
      have hj := lt_of_get hjy
      simp only [bytesOf, List.getElem?_map, Option.map_eq_some_iff] at hjy
      obtain ⟨c, hc, rfl⟩ := hjy
      refine ⟨rfl, .int .u8 c.toNat, ?_, .int _ _⟩
      rw [← hcells]
      simp only [List.getElem?_toArray]
      rw [List.getElem?_append_left (by simpa [bytesOf] using hj)]
      simp [hc])
    hnb (by rw [hfl]; simp [GK.limAt, GK.tokAt]) (by simpa [bytesOf] using hge)
    ⟨by simp [GK.tokAt, bytesOf], by rw [hfl]; simp [bytesOf], fun _ => .inr ⟨by simp [GK.tokAt, GK.limAt], by rw [hfl]; simp [GK.tokAt, GK.limAt], cells, et, _, hnb, by omega⟩⟩
  refine ⟨_, _, _, _, _, .inl hrun, st, hh', ?_, hs⟩
  simpa [bytesOf] using hV

theorem rep_get {α : Type} (z : List α) : ∀ (m j : Nat), j < m * z.length → (List.replicate m z).flatten[j]? = z[j % z.length]?
  | 0, j, h => by simp at h
  | m + 1, j, h => by
    rw [List.replicate_succ, List.flatten_cons, List.getElem?_append]
    split
    · rename_i hlt; rw [Nat.mod_eq_of_lt hlt]
    · rename_i hge
      rw [rep_get z m (j - z.length) (by rw [Nat.succ_mul] at h; omega)]
      congr 1
      rw [← Nat.mod_eq_sub_mod (by omega)]
theorem ok_mkslice {t et : TypeId} {sz by_ : Nat} {z : HV} {l c : Operand} {l' c' : X} {r : Option Nat} (ho : o.op = .makeSlice t l c) (ht : P.underlying t = some (.slice et)) (hsz : tsize P et = some sz) (hby : tbytes P et = some by_) (hz : tzero P et = some z) (hsz0 : sz ≠ 0) (hl : cX l = some l') (hc : cX c = some c')
    (hs : hstep base (.mkslice r sz by_ z.cells l' c') e h k) (hh : HeapRel K h w) (he : EnvRel K w e a.tmps) : Ok P o a K w k := by
  simp only [hstep] at hs
  split at hs
  · rename_i n m h1 h2
    obtain ⟨⟨rfl, hn0, hn63, hfit, hzl⟩, hs⟩ := hs
    have hl' := ev_sound hl he h1
    have hc' := ev_sound hc he h2
    generalize hcl : a.eval l = cl at hl'
    generalize hcc : a.eval c = cc at hc'
    cases hl'; cases hc'
    obtain ⟨i, u, hi, hu, hcon⟩ := tzero_info hz
    have hu2 := (V_hconst (K := K) (w := w) hcon)
    have husz : u.cells.size = sz := by rw [← (hu2.cells (hconst_tuple hcon)).1]; exact hzl
    have hisz : i.size = sz := by simp [tsize, hi] at hsz; exact hsz
    have hiby : i.bytes = by_ := by simp [tbytes, hi] at hby; exact hby
    obtain ⟨m, rfl⟩ : ∃ m : Nat, n = m := ⟨n.toNat, by omega⟩
    simp only [Int.toNat_natCast] at hs
    subst hisz; subst hiby
    generalize hzr : (Array.range (m * i.size)).map (u.cells[· % u.cells.size]!) = cells
    have hmb : m * i.bytes ≤ 281474976710656 := by
      have : ((m * i.bytes : Nat) : Int) ≤ 281474976710656 := by rw [Int.natCast_mul]; exact hfit
      omega
    have hwrap : IntKind.i64.wrap (m : Int) = m := by
      simp [IntKind.wrap, IntKind.signed, IntKind.bits]; omega
    have hcsz : cells.size = m * i.size := by rw [← hzr]; simp
    have hflat : ((List.replicate m z.cells).flatten).length = m * i.size := by simp [hzl]
    have hrun : (execOp a.eval o).run P w = .ok (.value (.slice (some ⟨w.heap.size, 0, none⟩) m m)) (w.alloc (.cells cells et)) := by
      have e1 : ¬ ((m : Int) < 0) := by omega
      have e2 : ¬ ((i.bytes : Int) * (m : Int) > 2 ^ 48) := by
        have : ((m * i.bytes : Nat) : Int) ≤ 281474976710656 := by omega
        rw [Int.natCast_mul, Int.mul_comm] at this
        omega
      have e3 : ¬ ((m : Int) > m) := by omega
      by_cases h0 : m * i.size = 0
      · have hc0 : cells = #[] := Array.eq_empty_of_size_eq_zero (by rw [hcsz, h0])
        simp only [execOp, ho, hcl, hcc, Instr.makeSlice, Sem.run_bind, run_underlying ht, Result.andThen_ok, asInt, asIntOf, Sem.run_pure, run_typeInfo w hi, hwrap, e1, e2, e3, decide_false, Bool.or_self, Bool.false_eq_true, if_false, run_askRoom, Int.toNat_natCast, run_sizeOf' hsz, h0, if_true, newRow, run_newObj, hc0]
        simp [show Array.range 0 = #[] from rfl]
      · simp only [execOp, ho, hcl, hcc, Instr.makeSlice, Sem.run_bind, run_underlying ht, Result.andThen_ok, asInt, asIntOf, Sem.run_pure, run_typeInfo w hi, hwrap, e1, e2, e3, decide_false, Bool.or_self, Bool.false_eq_true, if_false, run_askRoom, Int.toNat_natCast, run_sizeOf' hsz, h0, run_zeroValue hi hu, newRow, run_newObj, hzr]
        rfl
    have hok : ∀ K' : GK, Step K w K' (w.alloc (.cells cells et)) → ObjOk K' (w.alloc (.cells cells et)) w.heap.size (.cells (List.replicate m z.cells).flatten) := fun K' s => by
      refine ⟨cells, et, (0, 0), heap_alloc_new w _, by omega, fun _ _ => by omega, fun j x hx => ?_⟩
      have hj : j < m * i.size := by rw [← hflat]; exact lt_of_get hx
      rw [rep_get _ _ _ (by rw [hzl]; exact hj), hzl] at hx
      obtain ⟨c1, c2, c3⟩ := hu2.cells (hconst_tuple hcon)
      have hlt := lt_of_get hx
      refine ⟨c2 x (List.mem_of_getElem? hx), u.cells[j % i.size]!, ?_, ?_⟩
      · rw [← hzr]
        simp [hj, husz]
      · refine (c3 _ x _ hx ?_).step s
        rw [getElem!_pos u.cells (j % i.size) (by omega)]
        simp
    cases r with
    | none =>
      obtain ⟨s, hh'⟩ := push_obj (id := h.length) (w' := w.alloc (.cells cells et)) (ob := .cells cells et) (x := .cells (List.replicate m z.cells).flatten) hh rfl rfl rfl rfl (.inr ⟨rfl, rfl⟩) (by simp) hok
      exact ⟨_, _, _, _, _, .inl hrun, s, hh', .arr _ 0 m i.size w.heap.size m 0 (by simp [GK.rhoAt]) (Nat.le_refl _) (fun _ => rfl) ⟨cells, et, (0, 0), heap_alloc_new w _, by omega⟩, hs⟩
    | some j =>
      obtain ⟨s, hh'⟩ := push_obj (id := base + j) (w' := w.alloc (.cells cells et)) (ob := .cells cells et) (x := .cells (List.replicate m z.cells).flatten) hh rfl rfl rfl rfl (.inl ⟨hs.1, rfl⟩) (by simp) hok
      exact ⟨_, _, _, _, _, .inl hrun, s, hh', .arr _ 0 m i.size w.heap.size m 0 (by simp [GK.rhoAt]) (Nat.le_refl _) (fun _ => rfl) ⟨cells, et, (0, 0), heap_alloc_new w _, by omega⟩, hs.2⟩
  · exact hs.elim
end
end Go.Hw
