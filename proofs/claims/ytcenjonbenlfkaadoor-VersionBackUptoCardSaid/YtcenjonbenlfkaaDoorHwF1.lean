import Derived.Test.YtcenjonbenlfkaaDoorHwF0
import Derived.ChangeKeysEq
import Derived.Laws.StructEq
import Derived.MapKept
import Derived.OrdersIn
set_option linter.unusedVariables false
set_option linter.unusedSimpArgs false
namespace Go.Hw
open Go

variable {P : Program}
section
variable {o : Oper} {a : Act} {K : GK} {w : World} {k : HV → Heap → Prop} {e : Env} {h : Heap} (base : Nat)

theorem ok_append {t u et : TypeId} {d : TypeDesc} {sz by_ : Nat} {z : HV} {ts : Array TypeId} {s x : Operand} {s' x' : X} (ho : o.op = .call { callee := .builtin .append, args := #[s, x], argTypes := ts }) (h0 : ts[0]? = some t) (h1 : ts[1]? = some u)
    (ht : P.underlying t = some (.slice et)) (hu : P.underlying u = some d) (hd : (∃ e, d = .slice e) ∨ d = .string)
    (hsz : tsize P et = some sz) (hby : tbytes P et = some by_) (hz : tzero P et = some z) (hzl : z.cells.length = sz) (hsz0 : sz ≠ 0) (hby0 : by_ ≠ 0) (hs : cX s = some s') (hx : cX x = some x')
    (hst : hstep base (.append sz by_ s' x') e h k) (hh : HeapRel K h w) (he : EnvRel K w e a.tmps) : Ok P o a K w k := by
  obtain ⟨cs, hrun⟩ := run_builtin (P := P) (w := w) (a := a) ho
  have hts : ∀ args, Builtin.append_ ts o.type args = Builtin.append_ #[t, u] o.type args := fun args => by simp [Builtin.append_, h0, h1]
  have fin : ∀ {y v K' w' h'}, (Builtin.append_ #[t, u] o.type #[a.eval s, a.eval x]).run P w = .ok v w' → Step K w K' w' → HeapRel K' h' w' → V K' w' y v → k y h' → Ok P o a K w k := by
    intro y v K' w' h' hr hs' hh' hV hk
    refine ⟨y, v, K', w', h', .inl ?_, hs', hh', hV, hk⟩
    rw [hrun]
    have : (#[s, x] : Array Operand).map a.eval = #[a.eval s, a.eval x] := by simp
    simp only [builtin, this, hts, Sem.run_bind, hr, Result.andThen_ok, Sem.run_pure]
  simp only [hstep] at hst
  split at hst
  · rename_i hl tok ys tok' hev1 hev2
    have hs' := ev_sound hs he hev1
    have hx' := ev_sound hx he hev2
    obtain ⟨hap, htup⟩ := hst
    have hyw : ∀ y ∈ ys, y.cells.length = sz := by
      intro y hy
      rw [← strip1_cells y]
      exact hap.1.2 _ (List.mem_map_of_mem hy)
    obtain ⟨news, hsrc, hy⟩ := src_list (P := P) hx' hyw
    obtain ⟨y, v, K', w', h', hr, hst', hh', hV, hk⟩ := happend_sound (P := P) (ys := ys.map HV.strip1) (news := news) ht hu hd hsz hby hz hzl hsz0 hby0 hs' (by rw [List.length_map]; exact hsrc)
      (fun j y hjy => by
        obtain ⟨y0, h2, h3, h4⟩ := flat_strip1 htup j y hjy
        obtain ⟨l, u', hu', hV⟩ := hy j y0 h2
        exact ⟨by rw [h3]; exact l, u', hu', h4 _ _ _ hV⟩) hap hh o.type
    exact fin hr hst' hh' hV hk
  · rename_i hl tok ys hev1 hev2
    have hs' := ev_sound hs he hev1
    have hx' := ev_sound hx he hev2
    generalize hcx : a.eval x = cx at hx' fin
    cases hx'
    obtain ⟨rfl, hst⟩ := hst
    obtain ⟨y, v, K', w', h', hr, hst', hh', hV, hk⟩ := happend_sound (P := P) (ys := bytesOf ys) (news := ys.map fun c => .int .u8 c.toNat) ht hu hd hsz hby hz hzl hsz0 hby0 hs' (by
        have := src_str (P := P) (w := w) ys
        simpa [bytesOf] using this)
      (fun j y hjy => by
        rw [flat_bytesOf] at hjy
        simp only [bytesOf, List.getElem?_map, Option.map_eq_some_iff] at hjy
        obtain ⟨c, hc, rfl⟩ := hjy
        exact ⟨rfl, .int .u8 c.toNat, by simp [hc], .int _ _⟩) hst hh o.type
    exact fin hr hst' hh' hV hk
  · exact hst.elim

theorem ok_toBytes {src dst et : TypeId} {x : Operand} {y : X} (ho : o.op = .convert src dst x) (h1 : P.underlying src = some .string) (h2 : P.underlying dst = some (.slice et)) (h2' : P.underlying et = some (.int .u8)) (hx : cX x = some y) (hs : hstep base (.conv .toBytes y) e h k) (hh : HeapRel K h w) (he : EnvRel K w e a.tmps) : Ok P o a K w k := by
  simp only [hstep] at hs
  cases hev : y.ev e with
  | none => rw [hev] at hs; exact hs.elim
  | some zz =>
  rw [hev] at hs
  cases zz <;> try exact hs.elim
  rename_i s
  have hx' := ev_sound hx he hev
  generalize hcx : a.eval x = cx at hx'
  cases hx'
  generalize hgc : grownCap w s.length 0 et = gc
  have hge : s.length ≤ gc := by rw [← hgc]; exact grownCap_big w s.length 0 et
  generalize hcells : (s.map (fun c : UInt8 => Value.int .u8 (c.toNat : Int)) ++ List.replicate (gc - s.length) (Value.int .u8 0)).toArray = cells
  have hcsz : cells.size = gc := by rw [← hcells]; simp; omega
  have hrun : (execOp a.eval o).run P w = .ok (.value (.slice (some ⟨w.heap.size, 0, none⟩) s.length gc)) ((w.drew.alloc (.cells cells et)).freeze { block := w.heap.size, off := cells.size } 1) := by
    simp only [execOp, ho, hcx, Sem.run_bind, convert, run_underlying h1, run_underlying h2, run_underlying h2', Result.andThen_ok, Conv.stringToBytes, run_choose, Question.forced, Bool.false_eq_true, if_false, size_mk, newRow, run_newObj, Sem.run_pure, markStringish, run_shape]
    have e1 : (Question.appendCap s.length 0 et).cut (w.tape w.drawn (.appendCap s.length 0 et)) = gc := hgc
    simp only [e1]
    have e2 : (Array.map (fun b => Value.int IntKind.u8 (b.toNat : Int)) s.toArray ++ Array.replicate (gc - s.length) (Value.int IntKind.u8 0)) = cells := by
      rw [← hcells]; apply Array.ext'; simp
    simp only [e2]
    have e3 : (World.shape? (w.drew.alloc (.cells cells et)) w.heap.size) = some (et, cells.size) := by
      have := heap_alloc_new w.drew (.cells cells et)
      unfold World.shape?
      rw [show w.heap.size = w.drew.heap.size from rfl, this]
    rw [show (⟨w.heap.push (.cells cells et), w.tape, w.drawn + 1, w.os, w.output⟩ : World) = w.drew.alloc (.cells cells et) from rfl, e3]
    rfl
  have hheap : ((w.drew.alloc (.cells cells et)).freeze { block := w.heap.size, off := cells.size } 1).heap = w.heap.push (.cells cells et (cells.size, cells.size + 1)) := by
    simp only [World.freeze, World.alloc, World.drew, if_neg (show ¬ (1 = 0) by omega)]
    apply Array.ext_getElem?
    intro q
    rw [Array.getElem?_modify]
    by_cases hq : w.heap.size = q
    · subst hq; simp
    · simp only [if_neg hq, Array.getElem?_push, if_neg (Ne.symm hq)]
  have htp : TokPlace h (h ++ [.tok (1 + s.length)]) h.length (1 + s.length) := .inr ⟨rfl, rfl, by omega⟩
  obtain ⟨st, hh'⟩ := tok_push' (w' := (w.drew.alloc (.cells cells et)).freeze { block := w.heap.size, off := cells.size } 1) (n := s.length) hh htp hheap rfl tk rfl (by omega) (fun i hi => by simp; omega)
  have hnb : ((w.drew.alloc (.cells cells et)).freeze { block := w.heap.size, off := cells.size } 1).heap[w.heap.size]? = some (.cells cells et (cells.size, cells.size + 1)) := by rw [hheap]; simp
  have hfl : (flat (bytesOf s)).length = s.length := by rw [flat_bytesOf]; simp [bytesOf]
  have hV := V_newlist (K' := (K.limAt w.heap.size s.length).tokAt h.length (1 + s.length) (some w.heap.size)) (w' := (w.drew.alloc (.cells cells et)).freeze { block := w.heap.size, off := cells.size } 1) (xs := bytesOf s) (us := []) (sz := 1) (b := w.heap.size) (cap := gc) (tok := .own h.length 1 1) (c := cells) (et := et) (fr := (cells.size, cells.size + 1))
    (fun x hx => by simp only [bytesOf, List.mem_map] at hx; obtain ⟨c, _, rfl⟩ := hx; rfl)
    (fun j y hjy => by
      rw [flat_bytesOf] at hjy
      have hj := lt_of_get hjy
      simp only [bytesOf, List.getElem?_map, Option.map_eq_some_iff] at hjy
      obtain ⟨c, hc, rfl⟩ := hjy
      refine ⟨rfl, .int .u8 c.toNat, ?_, .int _ _⟩
      rw [← hcells]
      simp only [List.getElem?_toArray]
      rw [List.getElem?_append_left (by simpa [bytesOf] using hj)]
      simp [hc])
    hnb (by rw [hfl]; simp [GK.limAt, GK.tokAt]) (by simpa [bytesOf] using hge)
    ⟨by simp [GK.tokAt, bytesOf], by rw [hfl]; simp [bytesOf], fun _ => .inr ⟨by simp [GK.tokAt, GK.limAt], by rw [hfl]; simp [GK.tokAt, GK.limAt], cells, et, _, hnb, by omega⟩⟩
  refine ⟨_, _, _, _, _, .inl hrun, st, hh', ?_, hs⟩
  simpa [bytesOf] using hV

theorem rep_get {α : Type} (z : List α) : ∀ (m j : Nat), j < m * z.length → (List.replicate m z).flatten[j]? = z[j % z.length]?
  | 0, j, h => by simp at h
  | m + 1, j, h => by
    rw [List.replicate_succ, List.flatten_cons, List.getElem?_append]
    split
    · rename_i hlt; rw [Nat.mod_eq_of_lt hlt]
    · rename_i hge
      rw [rep_get z m (j - z.length) (by rw [Nat.succ_mul] at h; omega)]
      congr 1
      rw [← Nat.mod_eq_sub_mod (by omega)]
theorem ok_mkslice {t et : TypeId} {sz by_ : Nat} {z : HV} {zs : List HV} (hzs : zs = z.cells ∨ zs = z.cells.map HV.strip1) {l c : Operand} {l' c' : X} {r : Option Nat} (ho : o.op = .makeSlice t l c) (ht : P.underlying t = some (.slice et)) (hsz : tsize P et = some sz) (hby : tbytes P et = some by_) (hz : tzero P et = some z) (hsz0 : sz ≠ 0) (hl : cX l = some l') (hc : cX c = some c')
    (hs : hstep base (.mkslice r sz by_ zs l' c') e h k) (hh : HeapRel K h w) (he : EnvRel K w e a.tmps) : Ok P o a K w k := by
  simp only [hstep] at hs
  split at hs
  · rename_i n m h1 h2
    obtain ⟨⟨rfl, hn0, hn63, hfit, hzl0⟩, hs⟩ := hs
    have hzl : z.cells.length = sz := by rcases hzs with h | h <;> rw [← hzl0, h] <;> simp
    have hl' := ev_sound hl he h1
    have hc' := ev_sound hc he h2
    generalize hcl : a.eval l = cl at hl'
    generalize hcc : a.eval c = cc at hc'
    cases hl'; cases hc'
    obtain ⟨i, u, hi, hu, hcon⟩ := tzero_info hz
    have hu2 := (V_hconst (K := K) (w := w) hcon)
    have husz : u.cells.size = sz := by rw [← (hu2.cells (hconst_tuple hcon)).1]; exact hzl
    have hisz : i.size = sz := by simp [tsize, hi] at hsz; exact hsz
    have hiby : i.bytes = by_ := by simp [tbytes, hi] at hby; exact hby
    obtain ⟨m, rfl⟩ : ∃ m : Nat, n = m := ⟨n.toNat, by omega⟩
    simp only [Int.toNat_natCast] at hs
    subst hisz; subst hiby
    generalize hzr : (Array.range (m * i.size)).map (u.cells[· % u.cells.size]!) = cells
    have hmb : m * i.bytes ≤ 281474976710656 := by
      have : ((m * i.bytes : Nat) : Int) ≤ 281474976710656 := by rw [Int.natCast_mul]; exact hfit
      omega
    have hwrap : IntKind.i64.wrap (m : Int) = m := by
      simp [IntKind.wrap, IntKind.signed, IntKind.bits]; omega
    have hcsz : cells.size = m * i.size := by rw [← hzr]; simp
    have hflat : ((List.replicate m zs).flatten).length = m * i.size := by simp [hzl0]
    have hrun : (execOp a.eval o).run P w = .ok (.value (.slice (some ⟨w.heap.size, 0, none⟩) m m)) (w.alloc (.cells cells et)) := by
      have e1 : ¬ ((m : Int) < 0) := by omega
      have e2 : ¬ ((i.bytes : Int) * (m : Int) > 2 ^ 48) := by
        have : ((m * i.bytes : Nat) : Int) ≤ 281474976710656 := by omega
        rw [Int.natCast_mul, Int.mul_comm] at this
        omega
      have e3 : ¬ ((m : Int) > m) := by omega
      by_cases h0 : m * i.size = 0
      · have hc0 : cells = #[] := Array.eq_empty_of_size_eq_zero (by rw [hcsz, h0])
        simp only [execOp, ho, hcl, hcc, Instr.makeSlice, Sem.run_bind, run_underlying ht, Result.andThen_ok, asInt, asIntOf, Sem.run_pure, run_typeInfo w hi, hwrap, e1, e2, e3, decide_false, Bool.or_self, Bool.false_eq_true, if_false, run_askRoom, Int.toNat_natCast, run_sizeOf' hsz, h0, if_true, newRow, run_newObj, hc0]
        simp [show Array.range 0 = #[] from rfl]
      · simp only [execOp, ho, hcl, hcc, Instr.makeSlice, Sem.run_bind, run_underlying ht, Result.andThen_ok, asInt, asIntOf, Sem.run_pure, run_typeInfo w hi, hwrap, e1, e2, e3, decide_false, Bool.or_self, Bool.false_eq_true, if_false, run_askRoom, Int.toNat_natCast, run_sizeOf' hsz, h0, run_zeroValue hi hu, newRow, run_newObj, hzr]
        rfl
    have hok : ∀ K' : GK, Step K w K' (w.alloc (.cells cells et)) → ObjOk K' (w.alloc (.cells cells et)) w.heap.size (.cells (List.replicate m zs).flatten) := fun K' s => by
      refine ⟨cells, et, (0, 0), heap_alloc_new w _, by omega, fun _ _ => by omega, fun j x hx => ?_⟩
      have hj : j < m * i.size := by rw [← hflat]; exact lt_of_get hx
      rw [rep_get _ _ _ (by rw [hzl0]; exact hj), hzl0] at hx
      obtain ⟨y, hy, hxy⟩ : ∃ y, z.cells[j % i.size]? = some y ∧ (x = y ∨ x = y.strip1) := by
        rcases hzs with h | h
        · rw [h] at hx; exact ⟨x, hx, .inl rfl⟩
        · rw [h, List.getElem?_map] at hx
          obtain ⟨y, h1, h2⟩ := Option.map_eq_some_iff.1 hx
          exact ⟨y, h1, .inr h2.symm⟩
      obtain ⟨c1, c2, c3⟩ := hu2.cells (hconst_tuple hcon)
      have hlt := lt_of_get hy
      have hleaf := c2 y (List.mem_of_getElem? hy)
      refine ⟨by rcases hxy with rfl | rfl; exact hleaf; cases y <;> simp_all [HV.leaf, HV.strip1], u.cells[j % i.size]!, ?_, ?_⟩
      · rw [← hzr]
        simp [hj, husz]
      · have hV : V K w y u.cells[j % i.size]! := by
          refine c3 _ y _ hy ?_
          rw [getElem!_pos u.cells (j % i.size) (by omega)]
          simp
        rcases hxy with rfl | rfl
        · exact hV.step s
        · exact hV.strip1.step s
    cases r with
    | none =>
      obtain ⟨s, hh'⟩ := push_obj (id := h.length) (w' := w.alloc (.cells cells et)) (ob := .cells cells et) (x := .cells (List.replicate m zs).flatten) hh rfl rfl tk rfl (.inr ⟨rfl, rfl⟩) (by simp) hok
      exact ⟨_, _, _, _, _, .inl hrun, s, hh', .arr _ 0 m i.size w.heap.size m 0 (by simp [GK.rhoAt]) (Nat.le_refl _) (fun _ => rfl) ⟨cells, et, (0, 0), heap_alloc_new w _, by omega⟩, hs⟩
    | some j =>
      obtain ⟨s, hh'⟩ := push_obj (id := base + j) (w' := w.alloc (.cells cells et)) (ob := .cells cells et) (x := .cells (List.replicate m zs).flatten) hh rfl rfl tk rfl (.inl ⟨hs.1, rfl⟩) (by simp) hok
      exact ⟨_, _, _, _, _, .inl hrun, s, hh', .arr _ 0 m i.size w.heap.size m 0 (by simp [GK.rhoAt]) (Nat.le_refl _) (fun _ => rfl) ⟨cells, et, (0, 0), heap_alloc_new w _, by omega⟩, hs.2⟩
  · exact hs.elim
theorem ok_mkarr {t et : TypeId} {len sz : Nat} {parts : Array (Nat × Operand)} {ys : List X} {z : HV} {r : Option Nat} (ho : o.op = .buildSlice t len parts) (ht : P.underlying t = some (.slice et)) (hsz : tsize P et = some sz) (hsz0 : sz ≠ 0) (hz : tzero P et = some z) (hzl : z.cells.length = sz)
    (hx : (parts.toList.map (·.2)).mapM cX = some ys) (hidx : parts.toList.map (·.1) = List.range len) (hbig : len * sz ≤ 2 ^ 24)
    (hs : hstep base (.mkarr r sz ys) e h k) (hh : HeapRel K h w) (he : EnvRel K w e a.tmps) : Ok P o a K w k := by
  simp only [hstep] at hs
  split at hs
  · rename_i vs hev
    obtain ⟨hwid, hk⟩ := hs
    obtain ⟨h1, h2⟩ := evs_sound he hx hev
    obtain ⟨i, u, hi, hu, hc⟩ := tzero_info hz
    have hucs := (V_hconst (K := K) (w := w) hc).cells (hconst_tuple hc)
    have hlen : vs.length = len := by
      rw [h1, List.length_map, ← List.length_map (f := (·.1)), hidx, List.length_range]
    have husz : u.cells.size = sz := by rw [← hucs.1]; exact hzl
    generalize hus : parts.toList.map (fun p => a.eval p.2) = us
    have husl : us.length = len := by rw [← hus, List.length_map, ← List.length_map (f := (·.1)), hidx, List.length_range]
    have hpair : ∀ (j : Nat) (x : HV) (v : Value), vs[j]? = some x → us[j]? = some v → V K w x v := by
      intro j x v hxj hvj
      rw [← hus, List.getElem?_map] at hvj
      obtain ⟨p, hp, rfl⟩ := Option.map_eq_some_iff.1 hvj
      exact h2 j x p.2 hxj (by rw [List.getElem?_map, hp]; rfl)
    have hcell : ∀ v ∈ us, v.cells.size = sz := by
      intro v hv
      obtain ⟨j, hj⟩ := mem_get hv
      obtain ⟨x, hxj⟩ := get_of_lt (l := vs) (j := j) (by rw [hlen, ← husl]; exact lt_of_get hj)
      have hm := hwid x (List.mem_of_getElem? hxj)
      rw [← ((hpair j x v hxj hj).cells (isTuple_false hm.2)).1]; exact hm.1
    -- the run
    generalize hzr : (Array.range (len * sz)).map (u.cells[· % u.cells.size]!) = cur
    have hcursz : cur.size = (0 + us.length) * sz := by rw [← hzr, husl]; simp
    obtain ⟨out, hfill, hout⟩ := fill_seq sz us 0 cur hcursz hcell
    have hparts : (parts.map fun (p : Nat × Operand) => (p.1, a.eval p.2)).toList = (List.range' 0 us.length).zip us := by
      rw [Array.toList_map, ← hus, List.length_map]
      have : parts.toList.length = len := by rw [← List.length_map (f := (·.1)), hidx, List.length_range]
      rw [this]
      exact zip_map_range' a.eval parts.toList len (by rw [hidx, List.range_eq_range'])
    have hrun : (execOp a.eval o).run P w = .ok (.value (.slice (some ⟨w.heap.size, 0, none⟩) len len)) (w.alloc (.cells out et)) := by
      simp only [execOp, ho, Sem.run_bind]
      have : (Instr.buildSlice t len (parts.map fun (p : Nat × Operand) => (p.1, a.eval p.2))).run P w = .ok (.slice (some ⟨w.heap.size, 0, none⟩) len len) (w.alloc (.cells out et)) := by
        simp only [Instr.buildSlice, Sem.run_bind, run_underlying ht, Result.andThen_ok, run_sizeOf' hsz]
        rw [if_neg (by omega)]
        by_cases hz0 : len * sz = 0
        · have hl0 : len = 0 := by
            rcases Nat.mul_eq_zero.1 hz0 with h | h
            · exact h
            · exact absurd h hsz0
          subst hl0
          have hus0 : us = [] := List.eq_nil_of_length_eq_zero husl
          subst hus0
          simp only [hz0, if_true, Sem.run_pure, Result.andThen_ok, hparts]
          simp [Instr.fill] at hfill hout
          subst hfill
          simp [Instr.fill, newRow, hout, Array.range_zero']
        · simp only [if_neg hz0, Sem.run_bind, run_zeroValue hi hu, Sem.run_pure, Result.andThen_ok, hparts, hzr, hfill, newRow, run_newObj]
          simp
      simp only [this, Result.andThen_ok, Sem.run_pure]
    have hxt : ∀ x ∈ vs.map HV.strip1, ∀ cs, x ≠ .tuple cs := by
      intro x hx
      obtain ⟨y, hy, rfl⟩ := List.mem_map.1 hx
      exact isTuple_false (strip1_tuple (hwid y hy).2)
    have hpair' : ∀ (j : Nat) (x : HV) (v : Value), (vs.map HV.strip1)[j]? = some x → us[j]? = some v → V K w x v := by
      intro j x v hx hv
      rw [List.getElem?_map] at hx
      obtain ⟨y, hy, rfl⟩ := Option.map_eq_some_iff.1 hx
      exact (hpair j y v hy hv).strip1
    obtain ⟨hf1, hf2⟩ := flat_vals (K := K) (w := w) (xs := vs.map HV.strip1) (vs := us) (by simp [hlen, husl]) hxt hpair'
    have hwid' : ∀ x ∈ vs.map HV.strip1, x.cells.length = sz := by
      intro x hx
      obtain ⟨y, hy, rfl⟩ := List.mem_map.1 hx
      rw [strip1_cells]; exact (hwid y hy).1
    have hfl : (flat (vs.map HV.strip1)).length = len * sz := by rw [flat_length hwid', List.length_map, hlen]
    have hosz : out.size = len * sz := by
      rw [← Array.length_toList, hout]
      have : ∀ (us : List Value), (∀ v ∈ us, v.cells.size = sz) → (us.flatMap fun v => v.cells.toList).length = us.length * sz := by
        intro us
        induction us with
        | nil => simp
        | cons v r ih =>
          intro hv
          rw [List.flatMap_cons, List.length_append, ih (fun u hu => hv u (by simp [hu])), List.length_cons, Nat.add_mul]
          have := hv v (by simp)
          simp only [Array.length_toList]
          omega
      simp [this us hcell, husl]
    have hok : ∀ K' : GK, Step K w K' (w.alloc (.cells out et)) → ObjOk K' (w.alloc (.cells out et)) w.heap.size (.cells (flat (vs.map HV.strip1))) := fun K' s => by
      refine ⟨out, et, (0, 0), heap_alloc_new w _, by omega, fun _ _ => by omega, fun j x hx => ?_⟩
      obtain ⟨l, u', hu', hV⟩ := hf2 j x hx
      refine ⟨l, u', ?_, hV.step s⟩
      rw [← Array.getElem?_toList, hout]
      simpa using hu'
    have hvl : vs.length = len := hlen
    cases r with
    | none =>
      obtain ⟨s, hh'⟩ := push_obj (id := h.length) (w' := w.alloc (.cells out et)) (ob := .cells out et) (x := .cells (flat (vs.map HV.strip1))) hh rfl rfl tk rfl (.inr ⟨rfl, rfl⟩) (by simp) hok
      refine ⟨_, _, _, _, _, .inl hrun, s, hh', ?_, hk⟩
      rw [hvl]
      exact .arr _ 0 len sz w.heap.size len 0 (by simp [GK.rhoAt]) (Nat.le_refl _) (fun _ => rfl) ⟨out, et, (0, 0), heap_alloc_new w _, by omega⟩
    | some j =>
      obtain ⟨s, hh'⟩ := push_obj (id := base + j) (w' := w.alloc (.cells out et)) (ob := .cells out et) (x := .cells (flat (vs.map HV.strip1))) hh rfl rfl tk rfl (.inl ⟨hk.1, rfl⟩) (by simp) hok
      refine ⟨_, _, _, _, _, .inl hrun, s, hh', ?_, hk.2⟩
      rw [hvl]
      exact .arr _ 0 len sz w.heap.size len 0 (by simp [GK.rhoAt]) (Nat.le_refl _) (fun _ => rfl) ⟨out, et, (0, 0), heap_alloc_new w _, by omega⟩
  · exact hs.elim
end
end Go.Hw

set_option linter.unusedVariables false
set_option linter.unusedSimpArgs false
namespace Go.Hw
open Go

variable {P : Program} {K : GK} {w : World}

theorem scOf_bool {t : TypeId} (h : scOf P t = some .b) : P.underlying t = some .bool := by
  unfold scOf at h; split at h <;> simp_all
theorem scOf_int {t : TypeId} (h : scOf P t = some .i) : ∃ k, P.underlying t = some (.int k) := by
  unfold scOf at h; split at h <;> simp_all
theorem scOf_str {t : TypeId} (h : scOf P t = some .s) : P.underlying t = some .string := by
  unfold scOf at h; split at h <;> simp_all
theorem scOf_isAgg {k : Sc} {t : TypeId} (h : scOf P t = some k) : (isAgg t).run P w = .ok false w := by
  cases k with
  | b => exact run_isAgg (scOf_bool h) w
  | i => obtain ⟨_, hu⟩ := scOf_int h; exact run_isAgg hu w
  | s => exact run_isAgg (scOf_str h) w
theorem run_part1 {k : Sc} {t : TypeId} (h : scOf P t = some k) {us : Array Value} {i : Nat} {v : Value} (hv : us[i]? = some v) : (part t us i).run P w = .ok v w := by
  simp only [part, Sem.run_bind, scOf_isAgg h, Result.andThen_ok, Bool.false_eq_true, if_false, hv, Sem.run_pure]

theorem sc_run {k : Sc} {t : TypeId} {x y : HV} {u v : Value} {b : Bool} (ht : scOf P t = some k) (hx : V K w x u) (hy : V K w y v) (h : Sc.eq k x y = some b) :
    (∀ d, (Op.equalIn (d + 1) t u v).run P w = .ok b w) ∧ (∃ d, P.underlying t = some d ∧ Instr.sameNow d u v = some b) ∧ (b = true → v = u ∧ ∀ n, Instr.sameBits n u u = true) := by
  cases k with
  | b =>
    have hu := scOf_bool ht
    cases x <;> cases y <;> simp [Sc.eq] at h
    cases hx; cases hy
    subst h
    refine ⟨fun d => run_equalIn_bool' w d t _ _ hu, ⟨_, hu, rfl⟩, fun hb => ⟨?_, fun n => by cases n <;> simp [Instr.sameBits]⟩⟩
    rw [eq_of_beq hb]
  | i =>
    obtain ⟨q, hu⟩ := scOf_int ht
    cases x <;> cases y <;> simp [Sc.eq] at h
    obtain ⟨rfl, h⟩ := h
    cases hx; cases hy
    subst h
    refine ⟨fun d => run_equalIn_int w d t _ _ _ _ hu, ⟨_, hu, by simp [Instr.sameNow]⟩, fun hb => ⟨?_, fun n => by cases n <;> simp [Instr.sameBits]⟩⟩
    rw [eq_of_beq hb]
  | s =>
    have hu := scOf_str ht
    cases x <;> cases y <;> simp [Sc.eq] at h
    rename_i s1 s2
    cases hx; cases hy
    subst h
    refine ⟨fun d => ?_, ⟨_, hu, by rw [← str_eq]; rfl⟩, fun hb => ⟨?_, fun n => ?_⟩⟩
    · rw [run_equalIn_string w d t _ _ hu, ← beq_toListBytes, str_eq]
    · rw [eq_of_beq hb]
    · have : ((ByteArray.mk s1.toArray) == (ByteArray.mk s1.toArray)) = true := by rw [str_eq]; simp
      cases n <;> simpa [Instr.sameBits] using this


def Cells (K : GK) (w : World) (cs : List HV) (us : Array Value) (i : Nat) : Prop := ∀ (j : Nat) (z : HV), cs[j]? = some z → ∃ v, us[i + j]? = some v ∧ V K w z v
theorem Cells.tail {c : HV} {cs : List HV} {us : Array Value} {i : Nat} (h : Cells K w (c :: cs) us i) : Cells K w cs us (i + 1) := fun j z hz => by
  have := h (j + 1) z (by simpa using hz)
  rwa [Nat.add_assoc, Nat.add_comm 1 j]
theorem Cells.head {c : HV} {cs : List HV} {us : Array Value} {i : Nat} (h : Cells K w (c :: cs) us i) : ∃ v, us[i]? = some v ∧ V K w c v := by
  have := h 0 c rfl
  rwa [Nat.add_zero] at this
theorem Cells.ofAgg {cs : List HV} {us : List Value} (hn : cs.length = us.length) (hv : ∀ (j : Nat) (h : HV) (v : Value), cs[j]? = some h → us[j]? = some v → V K w h v) : Cells K w cs us.toArray 0 := fun j z hz => by
  obtain ⟨v, hvv⟩ := get_of_lt (l := us) (j := j) (by rw [← hn]; exact lt_of_get hz)
  exact ⟨v, by simpa using hvv, hv j z v hz hvv⟩
def flds (P : Program) (L : List Field) (i : Nat) : Prop := (L.zipIdx i).all (fun (f, j) => tsize P f.type == some 1 && f.offset == j && f.name != "_") = true
theorem flds_cons {f : Field} {L : List Field} {i : Nat} (h : flds P (f :: L) i) : f.offset = i ∧ f.name ≠ "_" ∧ flds P L (i + 1) := by
  unfold flds at h
  rw [List.zipIdx_cons, List.all_cons] at h
  simp only [Bool.and_eq_true, beq_iff_eq, bne_iff_ne] at h
  exact ⟨h.1.1.2, h.1.2, h.2⟩
theorem mapM_cons {α β : Type} {f : α → Option β} {a : α} {l : List α} {r : List β} (h : (a :: l).mapM f = some r) : ∃ b r', f a = some b ∧ l.mapM f = some r' ∧ r = b :: r' := by
  rw [List.mapM_cons] at h
  cases h1 : f a with
  | none => simp [h1] at h
  | some b =>
    cases h2 : l.mapM f with
    | none => simp [h1, h2] at h
    | some r' => simp [h1, h2] at h; exact ⟨b, r', rfl, rfl, h.symm⟩
theorem eqCells_cons {k : Sc} {ks : List Sc} {cs ds : List HV} {b : Bool} (h : eqCells (k :: ks) cs ds = some b) : ∃ c cs' d ds' p q, cs = c :: cs' ∧ ds = d :: ds' ∧ Sc.eq k c d = some p ∧ eqCells ks cs' ds' = some q ∧ b = (p && q) := by
  cases cs with
  | nil => simp [eqCells] at h
  | cons c cs =>
    cases ds with
    | nil => simp [eqCells] at h
    | cons d ds =>
      simp only [eqCells] at h
      split at h
      · rename_i p q h1 h2
        exact ⟨c, cs, d, ds, p, q, rfl, rfl, h1, h2, by injection h with h; exact h.symm⟩
      · cases h
theorem eqCells_nil {cs ds : List HV} {b : Bool} (h : eqCells [] cs ds = some b) : cs = [] ∧ ds = [] ∧ b = true := by
  cases cs <;> cases ds <;> simp [eqCells] at h
  exact ⟨rfl, rfl, h⟩
theorem run_fields (d : Nat) {us vs : Array Value} : ∀ (L : List Field) (i : Nat) (ks : List Sc) (cs ds : List HV) (b : Bool), flds P L i → L.mapM (fun f => scOf P f.type) = some ks → Cells K w cs us i → Cells K w ds vs i → eqCells ks cs ds = some b →
    (Op.eqFields (d + 1) us vs L).run P w = .ok b w
  | [], i, ks, cs, ds, b, _, hk, _, _, he => by
    simp at hk
    subst hk
    obtain ⟨_, _, rfl⟩ := eqCells_nil he
    rfl
  | f :: L, i, ks, cs, ds, b, hf, hk, hc, hd, he => by
    obtain ⟨h1, h2, h3⟩ := flds_cons hf
    obtain ⟨k, ks, h4, h5, rfl⟩ := mapM_cons hk
    obtain ⟨c, cs, d', ds, p, q, rfl, rfl, h6, h7, rfl⟩ := eqCells_cons he
    obtain ⟨u, hu, hU⟩ := hc.head
    obtain ⟨v, hv, hV⟩ := hd.head
    have ih := run_fields d L (i + 1) ks cs ds q h3 h5 hc.tail hd.tail h7
    have := (sc_run h4 hU hV h6).1 d
    simp only [Op.eqFields, if_pos h2, h1, Sem.run_bind, run_part1 h4 hu, run_part1 h4 hv, this, Result.andThen_ok]
    cases p with
    | false => rfl
    | true => simpa using ih
theorem run_items (d : Nat) {e : TypeId} {k : Sc} (he : scOf P e = some k) {us vs : Array Value} : ∀ (n i : Nat) (cs ds : List HV) (b : Bool), Cells K w cs us i → Cells K w ds vs i → eqCells (List.replicate n k) cs ds = some b →
    (Op.eqItems (d + 1) e 1 us vs (List.range' i n)).run P w = .ok b w
  | 0, i, cs, ds, b, _, _, h => by
    obtain ⟨_, _, rfl⟩ := eqCells_nil h
    rfl
  | n + 1, i, cs, ds, b, hc, hd, h => by
    obtain ⟨c, cs, d', ds, p, q, rfl, rfl, h6, h7, rfl⟩ := eqCells_cons h
    obtain ⟨u, hu, hU⟩ := hc.head
    obtain ⟨v, hv, hV⟩ := hd.head
    have ih := run_items d he n (i + 1) cs ds q hc.tail hd.tail h7
    have := (sc_run he hU hV h6).1 d
    rw [List.range'_succ]
    simp only [Op.eqItems, Nat.mul_one, Sem.run_bind, run_part1 he hu, run_part1 he hv, this, Result.andThen_ok]
    cases p with
    | false => rfl
    | true => simpa using ih

theorem eqKind_agg {t : TypeId} {ks : List Sc} (h : eqKind P t = some (.agg ks)) :
    (∃ fs, P.underlying t = some (.struct fs) ∧ flds P fs.toList 0 ∧ fs.toList.mapM (fun f => scOf P f.type) = some ks ∧ P.stoodInHeld t = false ∧ P.eqGuardType P.depth t = false) ∨
    ∃ n e k, P.underlying t = some (.array n e) ∧ tsize P e = some 1 ∧ scOf P e = some k ∧ ks = List.replicate n k ∧ P.eqGuardType P.depth t = false := by
  unfold eqKind at h
  split at h <;> try (cases h; done)
  · rename_i fs hu
    split at h
    · rename_i hc
      obtain ⟨l, h1, h2⟩ := Option.map_eq_some_iff.1 h
      injection h2 with h2
      subst h2
      simp only [Bool.and_eq_true, Bool.not_eq_true'] at hc
      exact .inl ⟨fs, hu, hc.1.1, h1, hc.1.2, hc.2⟩
    · cases h
  · rename_i n e hu
    split at h
    · rename_i hc
      obtain ⟨k, h1, h2⟩ := Option.map_eq_some_iff.1 h
      injection h2 with h2
      simp only [Bool.and_eq_true, Bool.not_eq_true', beq_iff_eq] at hc
      exact .inr ⟨n, e, k, hu, hc.2, h1, h2.symm, hc.1⟩
    · cases h
theorem info_of_tsize {e : TypeId} {n : Nat} (h : tsize P e = some n) : ∃ i, P.info? e = some i ∧ P.cellsOf e = n := by
  unfold tsize at h
  cases hi : P.info? e with
  | none => simp [hi] at h
  | some i => simp [hi] at h; exact ⟨i, rfl, by simp [Program.cellsOf, hi, h]⟩
theorem agg_run {t : TypeId} {ks : List Sc} {cs ds : List HV} {us vs : Array Value} {b : Bool} (ht : eqKind P t = some (.agg ks)) (hc : Cells K w cs us 0) (hd : Cells K w ds vs 0) (h : eqCells ks cs ds = some b) (d : Nat) :
    (Op.equalIn (d + 2) t (.agg us) (.agg vs)).run P w = .ok b w := by
  rcases eqKind_agg ht with ⟨fs, hu, hf, hk, hst, _⟩ | ⟨n, e, k, hu, hsz, hk, rfl, _⟩
  · have hu' : P.underlying t = some (.struct (P.fieldsOf t)) := by rw [hu]; simp [Program.fieldsOf, hu]
    rw [show d + 2 = (d + 1) + 1 from rfl, run_equalIn_struct w (d + 1) t us vs hu' hst, show P.fieldsOf t = fs by simp [Program.fieldsOf, hu]]
    exact run_fields d fs.toList 0 ks cs ds b hf hk hc hd h
  · obtain ⟨i, hi, hcell⟩ := info_of_tsize hsz
    rw [show d + 2 = (d + 1) + 1 from rfl, run_equalIn_array w (d + 1) us vs hu hi, hcell, List.range_eq_range']
    exact run_items d hk n 0 cs ds b hc hd h

section
variable {o : Oper} {a : Act} {k : HV → Heap → Prop} {e : Env} {h : Heap} (base : Nat)
theorem ok_eqagg {neg : Bool} {ks : List Sc} {t yt : TypeId} {x y : Operand} {x' y' : X} (ho : o.op = .binOp (if neg then .neq else .eql) t x y yt) (hkd : eqKind P t = some (.agg ks)) (hx : cXe x = some x') (hy : cXe y = some y')
    (hs : hstep base (.eqv neg (.agg ks) x' y') e h k) (hh : HeapRel K h w) (he : EnvRel K w e a.tmps) : Ok P o a K w k := by
  simp only [hstep] at hs
  split at hs
  · rename_i p q h1 h2
    split at hs
    · rename_i cs ds
      split at hs
      · rename_i b hb
        have hx' := eve_sound hx he h1
        have hy' := eve_sound hy he h2
        generalize hcx : a.eval x = cx at hx'
        generalize hcy : a.eval y = cy at hy'
        cases hx' with
        | agg _ us hn _ hv =>
          cases hy' with
          | agg _ vs hn' _ hv' =>
            have hrun := agg_run (P := P) hkd (Cells.ofAgg hn hv) (Cells.ofAgg hn' hv') hb 9998
            have hg : P.eqGuardType P.depth t = false := by
              rcases eqKind_agg hkd with ⟨_, _, _, _, _, hg⟩ | ⟨_, _, _, _, _, _, _, hg⟩ <;> exact hg
            cases neg with
            | false =>
              refine Ok.pure (v := .bool b) ?_ hh (.bool _) (by simpa using hs)
              simp [execOp, ho, hcx, hcy, run_eqGuard_agg w _ t x y _ _ hg, run_eql_struct, hrun, Result.andThen]
            | true =>
              refine Ok.pure (v := .bool (!b)) ?_ hh (.bool _) (by simpa using hs)
              simp [execOp, ho, hcx, hcy, run_eqGuard_agg w _ t x y _ _ hg, run_neq_struct, hrun, Result.andThen]
      · exact hs.elim
    · exact hs.elim
  · exact hs.elim
end
end Go.Hw

set_option linter.unusedVariables false
set_option linter.unusedSimpArgs false
namespace Go.Hw
open Go

variable {P : Program} {K : GK} {w : World}


theorem eqKind_sc {t : TypeId} {kd : EqK} (h : eqKind P t = some kd) : (kd = .bool → scOf P t = some .b) ∧ (kd = .int → scOf P t = some .i) ∧ (kd = .str → scOf P t = some .s) := by
  unfold eqKind at h
  split at h <;> refine ⟨fun hk => ?_, fun hk => ?_, fun hk => ?_⟩ <;> subst hk <;> first
    | (cases h; done)
    | (rename_i hu; simp only [scOf, hu]; done)
    | (split at h <;> first | (cases h; done) | (obtain ⟨_, _, h⟩ := Option.map_eq_some_iff.1 h; cases h))
theorem keq_cases {kd : EqK} {x y : HV} {b : Bool} (h : keq kd x y = some b) : ((kd = .bool ∧ Sc.eq .b x y = some b) ∨ (kd = .int ∧ Sc.eq .i x y = some b) ∨ (kd = .str ∧ Sc.eq .s x y = some b)) ∨ ∃ ks cs ds, kd = .agg ks ∧ x = .agg cs ∧ y = .agg ds ∧ eqCells ks cs ds = some b := by
  unfold keq at h
  split at h
  · exact .inl (.inl ⟨rfl, h⟩)
  · exact .inl (.inr (.inl ⟨rfl, h⟩))
  · exact .inl (.inr (.inr ⟨rfl, h⟩))
  · rename_i ks cs ds
    exact .inr ⟨ks, cs, ds, rfl, rfl, rfl, h⟩
  · cases h
theorem keq_sc {t : TypeId} {kd : EqK} (ht : eqKind P t = some kd) {x y : HV} {b : Bool} (h : keq kd x y = some b) : (∃ k, scOf P t = some k ∧ Sc.eq k x y = some b) ∨ ∃ ks cs ds, kd = .agg ks ∧ x = .agg cs ∧ y = .agg ds ∧ eqCells ks cs ds = some b := by
  obtain ⟨h1, h2, h3⟩ := eqKind_sc ht
  rcases keq_cases h with (⟨e1, e2⟩ | ⟨e1, e2⟩ | ⟨e1, e2⟩) | h
  · exact .inl ⟨.b, h1 e1, e2⟩
  · exact .inl ⟨.i, h2 e1, e2⟩
  · exact .inl ⟨.s, h3 e1, e2⟩
  · exact .inr h
theorem cells_same {ks : List Sc} {t : TypeId} : ∀ {cs ds : List HV} {us vs : List Value}, cs.length = us.length → ds.length = vs.length → (∀ (j : Nat) (h : HV) (v : Value), cs[j]? = some h → us[j]? = some v → V K w h v) → (∀ (j : Nat) (h : HV) (v : Value), ds[j]? = some h → vs[j]? = some v → V K w h v) →
    eqCells ks cs ds = some true → us = vs ∧ ∀ n u, u ∈ us → Instr.sameBits n u u = true := by
  induction ks with
  | nil =>
    intro cs ds us vs h1 h2 _ _ h
    obtain ⟨rfl, rfl, _⟩ := eqCells_nil h
    have e1 : us = [] := List.eq_nil_of_length_eq_zero h1.symm
    have e2 : vs = [] := List.eq_nil_of_length_eq_zero h2.symm
    subst e1; subst e2
    exact ⟨rfl, by simp⟩
  | cons k ks ih =>
    intro cs ds us vs h1 h2 hc hd h
    obtain ⟨c, cs, d, ds, p, q, rfl, rfl, h6, h7, h8⟩ := eqCells_cons h
    cases p <;> cases q <;> simp at h8
    cases us with
    | nil => simp at h1
    | cons u us =>
      cases vs with
      | nil => simp at h2
      | cons v vs =>
        obtain ⟨e1, e2⟩ := ih (by simpa using h1) (by simpa using h2) (fun j a b ha hb => hc (j + 1) a b (by simpa using ha) (by simpa using hb)) (fun j a b ha hb => hd (j + 1) a b (by simpa using ha) (by simpa using hb)) h7
        have hU := hc 0 c u rfl rfl
        have hV := hd 0 d v rfl rfl
        have hh : u = v ∧ ∀ n, Instr.sameBits n u u = true := by
          cases k <;> cases c <;> cases d <;> simp [Sc.eq] at h6 <;> cases hU <;> cases hV
          · subst h6; exact ⟨rfl, fun n => by cases n <;> simp [Instr.sameBits]⟩
          · obtain ⟨rfl, rfl⟩ := h6; exact ⟨rfl, fun n => by cases n <;> simp [Instr.sameBits]⟩
          · subst h6
            rename_i s
            have : ((ByteArray.mk s.toArray) == (ByteArray.mk s.toArray)) = true := by rw [str_eq]; simp
            exact ⟨rfl, fun n => by cases n <;> simpa [Instr.sameBits] using this⟩
        refine ⟨by rw [hh.1, e1], fun n z hz => ?_⟩
        simp at hz
        rcases hz with rfl | hz
        · exact hh.2 n
        · exact e2 n z hz
theorem key_same {t : TypeId} {kd : EqK} (ht : eqKind P t = some kd) {x y : HV} {u v : Value} (hx : V K w x u) (hy : V K w y v) (h : keq kd x y = some true) : v = u ∧ Instr.sameBits 10000 u u = true := by
  rcases keq_sc ht h with ⟨k, h1, h2⟩ | ⟨ks, cs, ds, rfl, rfl, rfl, h2⟩
  · obtain ⟨_, _, h3⟩ := sc_run h1 hx hy h2
    exact ⟨(h3 rfl).1, (h3 rfl).2 _⟩
  · cases hx with
    | agg _ us hn _ hv =>
      cases hy with
      | agg _ vs hn' _ hv' =>
        obtain ⟨rfl, h4⟩ := cells_same (t := t) hn hn' hv hv' h2
        refine ⟨rfl, ?_⟩
        simp only [Instr.sameBits, beq_self_eq_true, Bool.true_and, List.all_eq_true]
        intro p hp
        obtain ⟨a, b⟩ := p
        have hz : ∀ (l : List Value) (a b : Value), (a, b) ∈ l.zip l → a = b ∧ a ∈ l := by
          intro l
          induction l with
          | nil => intro a b h; simp at h
          | cons c l ih =>
            intro a b h
            simp only [List.zip_cons_cons, List.mem_cons, Prod.mk.injEq] at h
            rcases h with ⟨rfl, rfl⟩ | h
            · exact ⟨rfl, by simp⟩
            · obtain ⟨e1, e2⟩ := ih a b h; exact ⟨e1, by simp [e2]⟩
        obtain ⟨rfl, hm⟩ := hz us a b (by simpa using hp)
        exact h4 _ a hm
theorem run_stays {t : TypeId} {kd : EqK} (ht : eqKind P t = some kd) {x y : HV} {u v : Value} (hx : V K w x u) (hy : V K w y v) (h : keq kd x y = some true) (w' : World) : (Instr.keyThatStays v u).run P w' = .ok u w' := by
  obtain ⟨rfl, h1⟩ := key_same ht hx hy h
  simp [Instr.keyThatStays, h1]

theorem check_sc {k : Sc} {t : TypeId} {x : HV} {u : Value} (ht : scOf P t = some k) (hx : V K w x u) (h : Sc.eq k x x = some true) (em : Bool) (n : Nat) : (Instr.checkKey em (n + 1) t u).run P w = .ok () w := by
  unfold Instr.checkKey
  cases k with
  | b =>
    cases x <;> simp [Sc.eq] at h
    cases hx
    simp only [Sem.run_bind, run_underlying (scOf_bool ht), Result.andThen_ok]; rfl
  | i =>
    cases x <;> simp [Sc.eq] at h
    cases hx
    obtain ⟨q, hu⟩ := scOf_int ht
    simp only [Sem.run_bind, run_underlying hu, Result.andThen_ok]; rfl
  | s =>
    cases x <;> simp [Sc.eq] at h
    cases hx
    simp only [Sem.run_bind, run_underlying (scOf_str ht), Result.andThen_ok]; rfl
theorem check_run {t : TypeId} {kd : EqK} (ht : eqKind P t = some kd) {x : HV} {u : Value} (hx : V K w x u) (h : keq kd x x = some true) (em : Bool) : (Instr.checkKey em 10000 t u).run P w = .ok () w := by
  rcases keq_sc ht h with ⟨k, h1, h2⟩ | ⟨ks, cs, ds, rfl, rfl, hd, h2⟩
  · exact check_sc h1 hx h2 em 9999
  · injection hd with hd
    subst hd
    cases hx with
    | agg _ us hn hlf hv =>
      have hc := Cells.ofAgg hn hv
      clear hlf
      show (Instr.checkKey em (9998 + 1 + 1) t (.agg us.toArray)).run P w = .ok () w
      rw [Instr.checkKey]
      rcases eqKind_agg ht with ⟨fs, hu, hf, hk, _, _⟩ | ⟨n, e, k, hu, hsz, hk, rfl, _⟩
      · simp only [Sem.run_bind, run_underlying hu, Result.andThen_ok]
        rw [← Array.forIn_toList]
        generalize fs.toList = L at hf hk
        generalize 0 = i at hf hc
        clear ht hu hn hv
        induction L generalizing i ks cs with
        | nil => rfl
        | cons f L ih =>
          obtain ⟨g1, g2, g3⟩ := flds_cons hf
          obtain ⟨k, ks, g4, g5, rfl⟩ := mapM_cons hk
          obtain ⟨c, cs', d', ds', p, q, rfl, hd2, g6, g7, g8⟩ := eqCells_cons h2
          simp only [List.cons.injEq] at hd2
          obtain ⟨rfl, rfl⟩ := hd2
          cases p <;> cases q <;> simp at g8
          obtain ⟨u, hu, hU⟩ := hc.head
          have := check_sc g4 hU g6 em 9998
          simp only [List.forIn_cons, Sem.run_bind, if_pos g2, g1, run_part1 g4 hu, Result.andThen_ok, this, Sem.run_pure]
          exact ih ks cs' (by simpa [keq] using g7) g7 g5 (i + 1) g3 hc.tail
      · obtain ⟨i, hi, hcell⟩ := info_of_tsize hsz
        simp only [Sem.run_bind, run_underlying hu, Result.andThen_ok, Std.Legacy.Range.forIn_eq_forIn_range', Std.Legacy.Range.size, Nat.sub_zero, Nat.add_one_sub_one, Nat.div_one]
        generalize 0 = i at hc
        clear ht hu hn hv h
        induction n generalizing i cs with
        | zero => rfl
        | succ n ih =>
          obtain ⟨c, cs', d', ds', p, q, rfl, hd2, g6, g7, g8⟩ := eqCells_cons (k := k) (ks := List.replicate n k) h2
          simp only [List.cons.injEq] at hd2
          obtain ⟨rfl, rfl⟩ := hd2
          cases p <;> cases q <;> simp at g8
          obtain ⟨u, hu, hU⟩ := hc.head
          have := check_sc hk hU g6 em 9998
          simp only [List.range'_succ, List.forIn_cons, Sem.run_bind, run_sizeOf' hsz, Nat.mul_one, run_part1 hk hu, Result.andThen_ok, this, Sem.run_pure]
          exact ih cs' g7 (i + 1) hc.tail


def EntRel (K : GK) (w : World) (es : List (Nat × HV × HV)) (ms : List MapEntry) : Prop := ms.length = es.length ∧ ∀ (j n : Nat) (x y : HV), es[j]? = some (n, x, y) → ∃ m : MapEntry, ms[j]? = some m ∧ m.born = n ∧ isTuple x = false ∧ isTuple y = false ∧ V K w x m.key ∧ V K w y m.val
theorem EntRel.cons {p : Nat × HV × HV} {es : List (Nat × HV × HV)} {ms : List MapEntry} (h : EntRel K w (p :: es) ms) : ∃ m ms', ms = m :: ms' ∧ m.born = p.1 ∧ V K w p.2.1 m.key ∧ V K w p.2.2 m.val ∧ EntRel K w es ms' := by
  obtain ⟨h1, h2⟩ := h
  cases ms with
  | nil => simp at h1
  | cons m ms =>
    obtain ⟨m', h3, h4, _, _, h5, h6⟩ := h2 0 p.1 p.2.1 p.2.2 rfl
    simp at h3
    subst h3
    exact ⟨m, ms, rfl, h4, h5, h6, by simpa using h1, fun j n x y hj => by simpa using h2 (j + 1) n x y (by simpa using hj)⟩
def found (ms : List MapEntry) (i : Nat) : Option Nat → Option (Nat × Value)
  | none => none
  | some j => (ms[j]?).map fun m => (i + j, m.val)
theorem mfind_cons {kd : EqK} {x : HV} {p : Nat × HV × HV} {es : List (Nat × HV × HV)} {r : Option Nat} (h : mfind kd x (p :: es) = some r) : (keq kd x p.2.1 = some true ∧ r = some 0) ∨ (keq kd x p.2.1 = some false ∧ ∃ r', mfind kd x es = some r' ∧ r = r'.map (· + 1)) := by
  obtain ⟨n, kx, vx⟩ := p
  simp only [mfind] at h
  split at h
  · rename_i hq; injection h with h; exact .inl ⟨hq, h.symm⟩
  · rename_i hq
    obtain ⟨r', h1, h2⟩ := Option.map_eq_some_iff.1 h
    exact .inr ⟨hq, r', h1, h2.symm⟩
  · cases h
theorem found_succ {m : MapEntry} {ms : List MapEntry} {i : Nat} : ∀ (r : Option Nat), found (m :: ms) i (r.map (· + 1)) = found ms (i + 1) r
  | none => rfl
  | some j => by
    simp only [found, Option.map_some, List.getElem?_cons_succ]
    congr 1
    funext m
    simp
    omega
theorem run_find {t : TypeId} {kd : EqK} (ht : eqKind P t = some kd) {x : HV} {u : Value} (hx : V K w x u) (hself : keq kd x x = some true) {es : List (Nat × HV × HV)} {ms : List MapEntry} {r : Option Nat} (hr : EntRel K w es ms) (h : mfind kd x es = some r) : (Instr.findKey t u ms).run P w = .ok (found ms 0 r) w := by
  rcases keq_sc ht hself with ⟨k, h1, h2⟩ | ⟨ks, cs, ds, rfl, rfl, hd, h2⟩
  · obtain ⟨_, ⟨d, hu, _⟩, _⟩ := sc_run h1 hx hx h2
    refine MapKept.run_findKey hu ?_
    generalize 0 = i
    induction es generalizing ms r i with
    | nil =>
      simp [mfind] at h
      subst h
      have : ms = [] := List.eq_nil_of_length_eq_zero hr.1
      subst this
      rfl
    | cons p es ih =>
      obtain ⟨m, ms, rfl, _, hk, hv, hr'⟩ := hr.cons
      have hsc : ∀ b, keq kd x p.2.1 = some b → Instr.sameNow d u m.key = some b := by
        intro b hb
        rcases keq_sc ht hb with ⟨k', g1, g2⟩ | ⟨ks, cs, ds, rfl, rfl, _, _⟩
        · obtain ⟨_, ⟨d', g3, g4⟩, _⟩ := sc_run g1 hx hk g2
          rw [hu] at g3
          injection g3 with g3
          subst g3
          exact g4
        · exfalso
          cases k <;> simp [Sc.eq] at h2
      rcases mfind_cons h with ⟨g1, rfl⟩ | ⟨g1, r', g2, rfl⟩
      · simp only [Instr.findNow, hsc _ g1, found]
        simp
      · simp only [Instr.findNow, hsc _ g1]
        rw [ih hr' g2, found_succ]
  · injection hd with hd
    subst hd
    cases hx with
    | agg _ us hn _ hv =>
    have hnow : ∀ (d : TypeDesc) (z : Value), Instr.sameNow d (.agg us.toArray) z = none := fun d z => by cases d <;> rfl
    have hask : ∀ (es : List (Nat × HV × HV)) (ms : List MapEntry) (r : Option Nat) (i : Nat), EntRel K w es ms → mfind (.agg ks) (.agg cs) es = some r → (Instr.findAsking t (.agg us.toArray) ms i).run P w = .ok (found ms i r) w := by
      intro es
      induction es with
      | nil =>
        intro ms r i hr h
        simp [mfind] at h
        subst h
        have : ms = [] := List.eq_nil_of_length_eq_zero hr.1
        subst this
        rfl
      | cons p es ih =>
        intro ms r i hr h
        obtain ⟨m, ms, rfl, _, hk, hv', hr'⟩ := hr.cons
        have heq : ∀ b, keq (.agg ks) (.agg cs) p.2.1 = some b → (Op.equal t (.agg us.toArray) m.key).run P w = .ok b w := by
          intro b hb
          rcases keq_cases hb with (⟨e1, _⟩ | ⟨e1, _⟩ | ⟨e1, _⟩) | ⟨ks', cs', ds', e1, e2, e3, e4⟩
          · cases e1
          · cases e1
          · cases e1
          · injection e1 with e1
            injection e2 with e2
            subst e1; subst e2
            rw [e3] at hk
            generalize hmk : m.key = mk at hk
            cases hk with
            | agg _ vs hn' _ hv2 => exact agg_run ht (Cells.ofAgg hn hv) (Cells.ofAgg hn' hv2) e4 9998
        rcases mfind_cons h with ⟨g1, rfl⟩ | ⟨g1, r', g2, rfl⟩
        · simp only [Instr.findAsking, Sem.run_bind, heq _ g1, Result.andThen_ok, if_true, Sem.run_pure, found]
          simp
        · simp only [Instr.findAsking, Sem.run_bind, heq _ g1, Result.andThen_ok, Bool.false_eq_true, if_false]
          rw [ih ms r' (i + 1) hr' g2, found_succ]
    obtain ⟨d, hu⟩ : ∃ d, P.underlying t = some d := by
      rcases eqKind_agg ht with ⟨fs, hu, _⟩ | ⟨n, e, k, hu, _⟩ <;> exact ⟨_, hu⟩
    have e0 : Instr.findNow d (.agg us.toArray) ms 0 = none ∨ (ms = [] ∧ Instr.findNow d (.agg us.toArray) ms 0 = some none) := by
      cases ms with
      | nil => exact .inr ⟨rfl, rfl⟩
      | cons m ms => exact .inl (by simp [Instr.findNow, hnow])
    rcases e0 with e0 | ⟨rfl, e0⟩
    · simp only [Instr.findKey, Sem.run_bind, run_underlying hu, Result.andThen_ok, e0]
      exact hask es ms r 0 hr h
    · simp only [Instr.findKey, Sem.run_bind, run_underlying hu, Result.andThen_ok, e0, Sem.run_pure]
      have : es = [] := List.eq_nil_of_length_eq_zero hr.1.symm
      subst this
      simp [mfind] at h
      subst h
      rfl
end Go.Hw

set_option linter.unusedVariables false
set_option linter.unusedSimpArgs false
namespace Go.Hw
open Go

variable {P : Program}
section
variable {o : Oper} {a : Act} {K : GK} {w : World} {k : HV → Heap → Prop} {e : Env} {h : Heap} (base : Nat)

theorem heap_map {id b : Nat} {es : List (Nat × HV × HV)} {c : Nat} (hh : HeapRel K h w) (hr : K.rho id = some b) (hm : Heap.mapAt h id = some (es, c)) : h[id]? = some (.map es c) ∧ ∃ ms : Array MapEntry, w.heap[b]? = some (.map ms c) ∧ EntRel K w es ms.toList := by
  have h1 : h[id]? = some (.map es c) := by
    unfold Heap.mapAt at hm
    split at hm
    · rename_i es' c' hx
      injection hm with hm
      injection hm with e1 e2
      subst e1; subst e2
      exact hx
    · cases hm
  obtain ⟨_, ob, h2, h3, _⟩ := hh.obj id b hr
  rw [h1] at h2
  injection h2 with h2
  subst h2
  obtain ⟨ms, h4, h5, h6⟩ := h3
  exact ⟨h1, ms, h4, by simpa using h5, fun j n x y hj => by simpa using h6 j n x y hj⟩
theorem found_get {ms : List MapEntry} {es : List (Nat × HV × HV)} (hr : EntRel K w es ms) {j n : Nat} {x y : HV} (hj : es[j]? = some (n, x, y)) : ∃ m, ms[j]? = some m ∧ found ms 0 (some j) = some (j, m.val) ∧ m.born = n ∧ isTuple x = false ∧ isTuple y = false ∧ V K w x m.key ∧ V K w y m.val := by
  obtain ⟨m, h1, h2, h3, h4, h5, h6⟩ := hr.2 j n x y hj
  exact ⟨m, h1, by simp [found, h1], h2, h3, h4, h5, h6⟩
theorem tup2 {x y : HV} {u v : Value} (hx : V K w x u) (hy : V K w y v) : V K w (.tuple [x, y]) (.tuple #[u, v]) := by
  refine V.tuple [x, y] [u, v] rfl fun j h z hj hz => ?_
  match j, hj, hz with
  | 0, hj, hz => simp at hj hz; subst hj; subst hz; exact hx
  | 1, hj, hz => simp at hj hz; subst hj; subst hz; exact hy
  | j + 2, hj, hz => simp at hj
theorem tup3 {x y q : HV} {u v z : Value} (hx : V K w x u) (hy : V K w y v) (hq : V K w q z) : V K w (.tuple [x, y, q]) (.tuple #[u, v, z]) := by
  refine V.tuple [x, y, q] [u, v, z] rfl fun j h zz hj hz => ?_
  match j, hj, hz with
  | 0, hj, hz => simp at hj hz; subst hj; subst hz; exact hx
  | 1, hj, hz => simp at hj hz; subst hj; subst hz; exact hy
  | 2, hj, hz => simp at hj hz; subst hj; subst hz; exact hq
  | j + 3, hj, hz => simp at hj

theorem ok_maplen {ts : Array TypeId} {t0 kt et : TypeId} {x : Operand} {y : X} (ho : o.op = .call { callee := .builtin .len, args := #[x], argTypes := ts }) (h0 : ts[0]? = some t0) (ht : P.underlying t0 = some (.map kt et)) (hx : cX x = some y)
    (hs : hstep base (.maplen y) e h k) (hh : HeapRel K h w) (he : EnvRel K w e a.tmps) : Ok P o a K w k := by
  obtain ⟨cs, hr⟩ := run_builtin (P := P) (w := w) (a := a) ho
  simp only [hstep] at hs
  split at hs
  · rename_i id hev
    split at hs
    · rename_i es c hm
      have hx' := ev_sound hx he hev
      generalize hcx : a.eval x = cx at hx'
      cases hx' with
      | map _ b hrho =>
        obtain ⟨_, ms, h2, h3, _⟩ := heap_map hh hrho hm
        have hsz : ms.size = es.length := by simpa using h3
        exact Ok.pure (v := .int .i64 es.length) (by rw [hr]; simp [builtin, Builtin.len_, h0, hcx, run_underlying ht, goInt, MapKept.run_getObj_map h2, hsz]) hh (.int _ _) hs
    · exact hs.elim
  · rename_i hev
    have hx' := ev_sound hx he hev
    generalize hcx : a.eval x = cx at hx'
    cases hx'
    exact Ok.pure (v := .int .i64 0) (by rw [hr]; simp [builtin, Builtin.len_, h0, hcx, run_underlying ht, goInt]) hh (.int _ _) hs
  · exact hs.elim

theorem ok_lookup {t kt et : TypeId} {kd : EqK} {ok : Bool} {z : HV} {m key : Operand} {m' key' : X} (ho : o.op = .lookup t m key ok) (ht : P.underlying t = some (.map kt et)) (hkd : eqKind P kt = some kd) (hz : tzero P et = some z) (hm : cX m = some m') (hk : cX key = some key')
    (hs : hstep base (.lookup kd z ok m' key') e h k) (hh : HeapRel K h w) (he : EnvRel K w e a.tmps) : Ok P o a K w k := by
  obtain ⟨i, u0, hi, hu0, hcon⟩ := tzero_info hz
  have hz0 := V_hconst (K := K) (w := w) hcon
  have fin : ∀ {x : HV} {v : Value} {b : Bool}, (Instr.lookup t (a.eval m) (a.eval key) ok).run P w = .ok (if ok then .tuple #[v, .bool b] else v) w → V K w x v → k (if ok then .tuple [x, .bool b] else x) h → Ok P o a K w k := by
    intro x v b hr hV hkk
    refine Ok.pure (v := if ok then .tuple #[v, .bool b] else v) (by simp only [execOp, ho, Sem.run_bind, hr, Result.andThen_ok, Sem.run_pure]) hh ?_ hkk
    cases ok with
    | false => exact hV
    | true => exact tup2 hV (.bool _)
  simp only [hstep] at hs
  split at hs
  · rename_i id x h1 h2
    split at hs
    · rename_i es c hmp
      obtain ⟨hself, hs⟩ := hs
      have hm' := ev_sound hm he h1
      have hk' := ev_sound hk he h2
      generalize hcm : a.eval m = cm at hm' fin
      generalize hck : a.eval key = ck at hk' fin
      cases hm' with
      | map _ b hrho =>
        obtain ⟨_, ms, g2, g3⟩ := heap_map hh hrho hmp
        have hch := check_run (P := P) hkd hk' hself ms.isEmpty
        split at hs
        · rename_i j hj
          unfold evAt at hs
          cases hes : es[j]? with
          | none => rw [hes] at hs; exact hs.elim
          | some p =>
            obtain ⟨n, kx, vx⟩ := p
            rw [hes] at hs
            obtain ⟨mm, f1, f2, _, _, _, _, f3⟩ := found_get g3 hes
            have hf := run_find (P := P) hkd hk' hself g3 hj
            rw [f2] at hf
            refine fin (b := true) (v := mm.val) ?_ f3 hs
            simp only [Instr.lookup, Sem.run_bind, run_underlying ht, MapKept.run_getObj_map g2, Result.andThen_ok, hch, hf, Sem.run_pure]
        · rename_i hj
          have hf := run_find (P := P) hkd hk' hself g3 hj
          refine fin (b := false) (v := u0) ?_ hz0 hs
          simp only [Instr.lookup, Sem.run_bind, run_underlying ht, MapKept.run_getObj_map g2, Result.andThen_ok, hch, hf, found, Sem.run_pure, run_zeroValue hi hu0]
        · exact hs.elim
    · exact hs.elim
  · rename_i x h1 h2
    obtain ⟨hself, hs⟩ := hs
    have hm' := ev_sound hm he h1
    have hk' := ev_sound hk he h2
    generalize hcm : a.eval m = cm at hm' fin
    generalize hck : a.eval key = ck at hk' fin
    cases hm'
    have hch := check_run (P := P) hkd hk' hself true
    have hf := run_find (P := P) (es := []) (ms := []) (r := none) hkd hk' hself ⟨rfl, fun j n x y hj => by simp at hj⟩ rfl
    refine fin (b := false) (v := u0) ?_ hz0 hs
    have e0 : (#[] : Array MapEntry).isEmpty = true := rfl
    simp only [Instr.lookup, Sem.run_bind, run_underlying ht, Result.andThen_ok, Sem.run_pure, e0, hch, hf, found, run_zeroValue hi hu0]
  · exact hs.elim

theorem put_map {id b : Nat} {es es' : List (Nat × HV × HV)} {c c' : Nat} {ms ms' : Array MapEntry} (hh : HeapRel K h w) (hr : K.rho id = some b) (hm : h[id]? = some (.map es c)) (hb : w.heap[b]? = some (.map ms c)) (hent : Step K w K { w with heap := w.heap.setIfInBounds b (.map ms' c') } → EntRel K { w with heap := w.heap.setIfInBounds b (.map ms' c') } es' ms'.toList) :
    Step K w K { w with heap := w.heap.setIfInBounds b (.map ms' c') } ∧ HeapRel K (h.set id (.map es' c')) { w with heap := w.heap.setIfInBounds b (.map ms' c') } := by
  have hlt : b < w.heap.size := (Array.getElem?_eq_some_iff.1 hb).1
  refine set_obj (ob := .map ms' c') hh hr hm trivial trivial rfl rfl tk rfl (fun n hrm => ?_) (fun s => ?_)
  · obtain ⟨cc, ee, fr, h1, _⟩ := hrm
    rw [hb] at h1
    cases h1
  · obtain ⟨h1, h2⟩ := hent s
    exact ⟨ms', by simp [hlt], by simpa using h1, fun j n x y hj => by simpa using h2 j n x y hj⟩
theorem EntRel.step {K' : GK} {w' : World} {es : List (Nat × HV × HV)} {ms : List MapEntry} (s : Step K w K' w') (hr : EntRel K w es ms) : EntRel K' w' es ms := ⟨hr.1, fun j n x y hj => let ⟨m, h1, h2, h3, h4, h5, h6⟩ := hr.2 j n x y hj; ⟨m, h1, h2, h3, h4, h5.step s, h6.step s⟩⟩
theorem EntRel.push {es : List (Nat × HV × HV)} {ms : List MapEntry} (hr : EntRel K w es ms) {n : Nat} {x y : HV} {m : MapEntry} (h1 : m.born = n) (h2 : isTuple x = false) (h3 : isTuple y = false) (h4 : V K w x m.key) (h5 : V K w y m.val) : EntRel K w (es ++ [(n, x, y)]) (ms ++ [m]) := by
  refine ⟨by simp [hr.1], fun j n' x' y' hj => ?_⟩
  rw [List.getElem?_append] at hj ⊢
  rw [hr.1]
  split at hj
  · rename_i hlt; rw [if_pos hlt]; exact hr.2 j n' x' y' hj
  · rename_i hge
    rw [if_neg hge]
    have : j - es.length = 0 := by
      rcases Nat.eq_zero_or_pos (j - es.length) with h0 | h0
      · exact h0
      · obtain ⟨q, hq⟩ : ∃ q, j - es.length = q + 1 := ⟨j - es.length - 1, by omega⟩
        rw [hq] at hj; simp at hj
    rw [this] at hj ⊢
    simp at hj
    obtain ⟨rfl, rfl, rfl⟩ := hj
    exact ⟨m, rfl, h1, h2, h3, h4, h5⟩
theorem EntRel.set {es : List (Nat × HV × HV)} {ms : List MapEntry} (hr : EntRel K w es ms) (j0 : Nat) {n : Nat} {x y : HV} {m : MapEntry} (h1 : m.born = n) (h2 : isTuple x = false) (h3 : isTuple y = false) (h4 : V K w x m.key) (h5 : V K w y m.val) : EntRel K w (es.set j0 (n, x, y)) (ms.set j0 m) := by
  refine ⟨by simp [hr.1], fun j n' x' y' hj => ?_⟩
  rw [List.getElem?_set] at hj ⊢
  rw [hr.1]
  split at hj
  · rename_i e1
    rw [if_pos e1]
    split at hj
    · rename_i hlt
      rw [if_pos hlt]
      simp at hj
      obtain ⟨rfl, rfl, rfl⟩ := hj
      exact ⟨m, rfl, h1, h2, h3, h4, h5⟩
    · cases hj
  · rename_i e1
    rw [if_neg e1]
    exact hr.2 j n' x' y' hj
theorem EntRel.erase {es : List (Nat × HV × HV)} {ms : List MapEntry} (hr : EntRel K w es ms) (j0 : Nat) : EntRel K w (es.eraseIdx j0) (ms.eraseIdx j0) := by
  refine ⟨by simp [List.length_eraseIdx, hr.1], fun j n' x' y' hj => ?_⟩
  rw [List.getElem?_eraseIdx] at hj ⊢
  split at hj
  · rename_i h1; rw [if_pos h1]; exact hr.2 _ _ _ _ hj
  · rename_i h1; rw [if_neg h1]; exact hr.2 _ _ _ _ hj

theorem mfind_true {kd : EqK} {x : HV} : ∀ {es : List (Nat × HV × HV)} {j : Nat}, mfind kd x es = some (some j) → ∃ p, es[j]? = some p ∧ keq kd x p.2.1 = some true
  | [], j, h => by simp [mfind] at h
  | p :: es, j, h => by
    rcases mfind_cons h with ⟨q1, q2⟩ | ⟨q1, r', q2, q3⟩
    · injection q2 with q2
      subst q2
      exact ⟨p, rfl, q1⟩
    · cases r' with
      | none => simp at q3
      | some j' =>
        simp at q3
        subst q3
        obtain ⟨p', h1, h2⟩ := mfind_true q2
        exact ⟨p', by simpa using h1, h2⟩
theorem keq_tuple {kd : EqK} {x : HV} (hself : keq kd x x = some true) : isTuple x = false := by
  rcases keq_cases hself with (⟨_, h⟩ | ⟨_, h⟩ | ⟨_, h⟩) | ⟨_, _, _, _, rfl, _⟩ <;> first | rfl | (cases x <;> simp [Sc.eq] at h <;> rfl)
theorem modify_list (ms : Array MapEntry) (j : Nat) (f : MapEntry → MapEntry) (m : MapEntry) (hm : ms.toList[j]? = some m) : (ms.modify j f).toList = ms.toList.set j (f m) := by
  apply List.ext_getElem?
  intro q
  rw [List.getElem?_set]
  simp only [Array.getElem?_toList, Array.getElem?_modify]
  simp only [Array.getElem?_toList] at hm
  split
  · rename_i e1
    subst e1
    have : j < ms.toList.length := by
      have := (Array.getElem?_eq_some_iff.1 hm).1
      simpa using this
    rw [if_pos this, hm]
    rfl
  · rfl

theorem Ok.unit {K' : GK} {w' : World} {h' : Heap} (hr : (execOp a.eval o).run P w = .ok .skip w') (s : Step K w K' w') (hh : HeapRel K' h' w') (hk : k (.tuple []) h') : Ok P o a K w k :=
  ⟨.tuple [], undef, K', w', h', .inr ⟨hr, rfl⟩, s, hh, V.tuple [] [] rfl (fun j h v hh => by simp at hh), hk⟩
theorem Ok.val {K' : GK} {w' : World} {h' : Heap} {x : HV} {v : Value} (hr : (execOp a.eval o).run P w = .ok (.value v) w') (s : Step K w K' w') (hh : HeapRel K' h' w') (hv : V K' w' x v) (hk : k x h') : Ok P o a K w k :=
  ⟨x, v, K', w', h', .inl hr, s, hh, hv, hk⟩

theorem ok_mapset {t kt et : TypeId} {kd : EqK} {m key v : Operand} {m' key' v' : X} (ho : o.op = .mapUpdate t m key v ∨ o.op = .insert t m key v) (ht : P.underlying t = some (.map kt et)) (hkd : eqKind P kt = some kd) (hm : cX m = some m') (hk : cX key = some key') (hv : cX v = some v')
    (hs : hstep base (.mapset kd m' key' v') e h k) (hh : HeapRel K h w) (he : EnvRel K w e a.tmps) : Ok P o a K w k := by
  have hex : execOp a.eval o = (do Instr.mapUpdate t (a.eval m) (a.eval key) (a.eval v); pure .skip) := by
    rcases ho with ho | ho <;> simp only [execOp, ho]
  simp only [hstep] at hs
  split at hs
  · rename_i id x y h1 h2 h3
    split at hs
    · rename_i es c hmp
      obtain ⟨⟨hself, htup⟩, hs⟩ := hs
      have hm' := ev_sound hm he h1
      have hk' := ev_sound hk he h2
      have hv' := ev_sound hv he h3
      generalize hcm : a.eval m = cm at hm' hex
      generalize hck : a.eval key = ck at hk' hex
      generalize hcv : a.eval v = cv at hv' hex
      have hxt := keq_tuple hself
      cases hm' with
      | map _ b hrho =>
        obtain ⟨g1, ms, g2, g3⟩ := heap_map hh hrho hmp
        have hch := check_run (P := P) hkd hk' hself false
        split at hs
        · rename_i j hj
          split at hs
          · rename_i n kx vx hes
            obtain ⟨mm, f1, f2, f4, _, _, f5, f3⟩ := found_get g3 hes
            have hf := run_find (P := P) hkd hk' hself g3 hj
            rw [f2] at hf
            obtain ⟨p, q1, q2⟩ := mfind_true hj
            rw [hes] at q1
            injection q1 with q1
            subst q1
            have hst := run_stays (P := P) hkd hk' f5 q2 w
            have f1' : ms[j]? = some mm := by simpa using f1
            obtain ⟨s, hh'⟩ := put_map (es' := es.set j (n, x, y)) (c' := c) (ms' := ms.modify j fun e => { e with key := ck, val := cv }) hh hrho g1 g2 (fun s => by
              rw [modify_list ms j _ mm f1]
              exact (g3.step s).set j (m := { mm with key := ck, val := cv }) f4 hxt htup (hk'.step s) (hv'.step s))
            refine Ok.unit ?_ s hh' hs
            rw [hex]
            simp only [Instr.mapUpdate, Sem.run_bind, run_underlying ht, MapKept.run_getObj_map g2, Result.andThen_ok, hch, hf, f1', Option.map_some, Option.getD_some, hst, MapKept.run_setObj_map _ g2, Sem.run_pure]
          · exact hs.elim
        · rename_i hj
          have hf := run_find (P := P) hkd hk' hself g3 hj
          obtain ⟨s, hh'⟩ := put_map (es' := es ++ [(c, x, y)]) (c' := c + 1) (ms' := ms.push { key := ck, val := cv, born := c }) hh hrho g1 g2 (fun s => by
            rw [Array.toList_push]
            exact (g3.step s).push rfl hxt htup (hk'.step s) (hv'.step s))
          refine Ok.unit ?_ s hh' hs
          rw [hex]
          simp only [Instr.mapUpdate, Sem.run_bind, run_underlying ht, MapKept.run_getObj_map g2, Result.andThen_ok, hch, hf, found, MapKept.run_setObj_map _ g2, Sem.run_pure]
        · exact hs.elim
    · exact hs.elim
  · exact hs.elim

theorem ok_mapentry {t kt et : TypeId} {kd : EqK} {z : HV} {m key : Operand} {m' key' : X} (ho : o.op = .mapEntry t m key) (ht : P.underlying t = some (.map kt et)) (hkd : eqKind P kt = some kd) (hz : tzero P et = some z) (hm : cX m = some m') (hk : cX key = some key')
    (hs : hstep base (.mapentry kd z m' key') e h k) (hh : HeapRel K h w) (he : EnvRel K w e a.tmps) : Ok P o a K w k := by
  obtain ⟨i, u0, hi, hu0, hcon⟩ := tzero_info hz
  have hz0 := fun K w => V_hconst (K := K) (w := w) hcon
  have hzt : isTuple z = false := by
    have := hconst_tuple hcon
    cases z <;> first | rfl | exact absurd rfl (this _)
  simp only [hstep] at hs
  split at hs
  · rename_i id x h1 h2
    split at hs
    · rename_i es c hmp
      obtain ⟨hself, hs⟩ := hs
      have hm' := ev_sound hm he h1
      have hk' := ev_sound hk he h2
      generalize hcm : a.eval m = cm at hm'
      generalize hck : a.eval key = ck at hk'
      have hxt := keq_tuple hself
      cases hm' with
      | map _ b hrho =>
        obtain ⟨g1, ms, g2, g3⟩ := heap_map hh hrho hmp
        have hch := check_run (P := P) hkd hk' hself false
        split at hs
        · rename_i j hj
          split at hs
          · rename_i n kx vx hes
            obtain ⟨mm, f1, f2, f4, _, f6, f5, f3⟩ := found_get g3 hes
            have hf := run_find (P := P) hkd hk' hself g3 hj
            rw [f2] at hf
            obtain ⟨p, q1, q2⟩ := mfind_true hj
            rw [hes] at q1
            injection q1 with q1
            subst q1
            have hst := run_stays (P := P) hkd hk' f5 q2 w
            have f1' : ms[j]? = some mm := by simpa using f1
            obtain ⟨s, hh'⟩ := put_map (es' := es.set j (n, x, vx)) (c' := c) (ms' := ms.modify j fun e => { e with key := ck }) hh hrho g1 g2 (fun s => by
              rw [modify_list ms j _ mm f1]
              exact (g3.step s).set j (m := { mm with key := ck }) f4 hxt f6 (hk'.step s) (f3.step s))
            refine Ok.val (v := .tuple #[mm.val, .int .i64 n]) ?_ s hh' (tup2 (f3.step s) (.int _ _)) hs
            simp only [execOp, ho, hcm, hck, Instr.mapEntry, Sem.run_bind, run_underlying ht, MapKept.run_getObj_map g2, Result.andThen_ok, hch, hf, f1', Option.map_some, Option.getD_some, hst, MapKept.run_setObj_map _ g2, Sem.run_pure, f4, goInt]
          · exact hs.elim
        · rename_i hj
          have hf := run_find (P := P) hkd hk' hself g3 hj
          obtain ⟨s, hh'⟩ := put_map (es' := es ++ [(c, x, z)]) (c' := c + 1) (ms' := ms.push { key := ck, val := u0, born := c }) hh hrho g1 g2 (fun s => by
            rw [Array.toList_push]
            exact (g3.step s).push rfl hxt hzt (hk'.step s) (hz0 _ _))
          refine Ok.val (v := .tuple #[u0, .int .i64 c]) ?_ s hh' (tup2 (hz0 _ _) (.int _ _)) hs
          simp only [execOp, ho, hcm, hck, Instr.mapEntry, Sem.run_bind, run_underlying ht, MapKept.run_getObj_map g2, Result.andThen_ok, hch, hf, found, run_zeroValue hi hu0, MapKept.run_setObj_map _ g2, Sem.run_pure, goInt]
        · exact hs.elim
    · exact hs.elim
  · exact hs.elim

theorem findIdx_rel {n : Int} : ∀ {es : List (Nat × HV × HV)} {ms : List MapEntry}, EntRel K w es ms → ms.findIdx? (fun e => (e.born : Int) == n) = es.findIdx? (fun p => (p.1 : Int) == n)
  | [], ms, h => by
    have : ms = [] := List.eq_nil_of_length_eq_zero h.1
    subst this; rfl
  | p :: es, ms, h => by
    obtain ⟨m, ms, rfl, h1, _, _, h2⟩ := h.cons
    rw [List.findIdx?_cons, List.findIdx?_cons, h1, findIdx_rel h2]
theorem find_rel {n : Nat} : ∀ {es : List (Nat × HV × HV)} {ms : List MapEntry}, EntRel K w es ms → (ms.find? (fun e => e.born == n) = none ∧ es.find? (fun p => p.1 == n) = none) ∨ ∃ m p, ms.find? (fun e => e.born == n) = some m ∧ es.find? (fun p => p.1 == n) = some p ∧ V K w p.2.1 m.key ∧ V K w p.2.2 m.val
  | [], ms, h => by
    have : ms = [] := List.eq_nil_of_length_eq_zero h.1
    subst this; exact .inl ⟨rfl, rfl⟩
  | p :: es, ms, h => by
    obtain ⟨m, ms, rfl, h1, h3, h4, h2⟩ := h.cons
    rw [List.find?_cons, List.find?_cons, h1]
    cases p.1 == n with
    | true => exact .inr ⟨m, p, rfl, rfl, h3, h4⟩
    | false => exact find_rel h2

theorem ok_entryset {t : TypeId} {m st v : Operand} {m' s' v' : X} (ho : o.op = .entryStore t m st v) (hm : cX m = some m') (hst : cX st = some s') (hv : cX v = some v')
    (hs : hstep base (.entryset m' s' v') e h k) (hh : HeapRel K h w) (he : EnvRel K w e a.tmps) : Ok P o a K w k := by
  simp only [hstep] at hs
  split at hs
  · rename_i id n y h1 h2 h3
    split at hs
    · rename_i es c hmp
      obtain ⟨htup, hs⟩ := hs
      have hm' := ev_sound hm he h1
      have hs' := ev_sound hst he h2
      have hv' := ev_sound hv he h3
      generalize hcm : a.eval m = cm at hm'
      generalize hcs : a.eval st = cs at hs'
      generalize hcv : a.eval v = cv at hv'
      cases hs'
      cases hm' with
      | map _ b hrho =>
        obtain ⟨g1, ms, g2, g3⟩ := heap_map hh hrho hmp
        have hfi := findIdx_rel (n := n) g3
        split at hs
        · rename_i j hj
          split at hs
          · rename_i q kx vx hes
            obtain ⟨mm, f1, _, f4, f7, _, f5, f3⟩ := found_get g3 hes
            obtain ⟨s, hh'⟩ := put_map (es' := es.set j (q, kx, y)) (c' := c) (ms' := ms.modify j fun e => { e with val := cv }) hh hrho g1 g2 (fun s => by
              rw [modify_list ms j _ mm f1]
              exact (g3.step s).set j (m := { mm with val := cv }) f4 f7 htup (f5.step s) (hv'.step s))
            refine Ok.unit ?_ s hh' hs
            rw [hj] at hfi
            have hfa : ms.findIdx? (fun e => (e.born : Int) == n) = some j := by
              obtain ⟨l⟩ := ms
              simpa using hfi
            simp only [execOp, ho, hcm, hcs, hcv, Instr.entryStore, Sem.run_bind, MapKept.run_getObj_map g2, Result.andThen_ok, asInt, asIntOf, Sem.run_pure, hfa, MapKept.run_setObj_map _ g2]
          · exact hs.elim
        · exact hs.elim
    · exact hs.elim
  · exact hs.elim

theorem ok_mapdel {ts : Array TypeId} {t0 kt et : TypeId} {kd : EqK} {x key : Operand} {y z : X} (ho : o.op = .call { callee := .builtin .delete, args := #[x, key], argTypes := ts }) (h0 : ts[0]? = some t0) (ht : P.underlying t0 = some (.map kt et)) (hkd : eqKind P kt = some kd) (hx : cX x = some y) (hz : cX key = some z)
    (hs : hstep base (.mapdel kd y z) e h k) (hh : HeapRel K h w) (he : EnvRel K w e a.tmps) : Ok P o a K w k := by
  obtain ⟨cs, hr⟩ := run_builtin (P := P) (w := w) (a := a) ho
  simp only [hstep] at hs
  split at hs
  · rename_i id q h1 h2
    split at hs
    · rename_i es c hmp
      obtain ⟨hself, hs⟩ := hs
      have hm' := ev_sound hx he h1
      have hk' := ev_sound hz he h2
      generalize hcm : a.eval x = cm at hm'
      generalize hck : a.eval key = ck at hk'
      cases hm' with
      | map _ b hrho =>
        obtain ⟨g1, ms, g2, g3⟩ := heap_map hh hrho hmp
        have hch := check_run (P := P) hkd hk' hself ms.isEmpty
        have hargs : (#[x, key] : Array Operand).map a.eval = #[.map (some b), ck] := by simp [hcm, hck]
        split at hs
        · rename_i j hj
          have hf := run_find (P := P) hkd hk' hself g3 hj
          obtain ⟨p, q1, q2⟩ := mfind_true hj
          obtain ⟨n, kx, vx⟩ := p
          obtain ⟨mm, f1, f2, _⟩ := found_get g3 q1
          rw [f2] at hf
          obtain ⟨s, hh'⟩ := put_map (es' := es.eraseIdx j) (c' := c) (ms' := ms.eraseIdxIfInBounds j) hh hrho g1 g2 (fun s => by
            have : (ms.eraseIdxIfInBounds j).toList = ms.toList.eraseIdx j := by simp
            rw [this]
            exact (g3.step s).erase j)
          refine Ok.val (x := .tuple []) (v := .tuple #[]) ?_ s hh' (V.tuple [] [] rfl (fun j h v hh => by simp at hh)) hs
          rw [hr]
          simp only [builtin, hargs, Builtin.delete_, h0, Sem.run_bind, run_underlying ht, MapKept.run_getObj_map g2, Result.andThen_ok, hch, hf, MapKept.run_setObj_map _ g2, Sem.run_pure]
          simp [h0, run_underlying ht, MapKept.run_getObj_map g2, hch, hf, MapKept.run_setObj_map _ g2]
        · rename_i hj
          have hf := run_find (P := P) hkd hk' hself g3 hj
          have e1 : w.heap.setIfInBounds b (.map ms c) = w.heap := by
            apply Array.ext_getElem?
            intro i
            rw [Array.getElem?_setIfInBounds]
            split
            · rename_i e1; subst e1
              have := (Array.getElem?_eq_some_iff.1 g2).1
              rw [if_pos this]; exact g2.symm
            · rfl
          refine Ok.val (x := .tuple []) (v := .tuple #[]) (w' := w) ?_ (.refl K w) hh (V.tuple [] [] rfl (fun j h v hh => by simp at hh)) hs
          rw [hr]
          simp [builtin, hargs, Builtin.delete_, h0, run_underlying ht, MapKept.run_getObj_map g2, hch, hf, found, MapKept.run_setObj_map _ g2, e1]
        · exact hs.elim
    · exact hs.elim
  · exact hs.elim
end
end Go.Hw

set_option linter.unusedVariables false
set_option linter.unusedSimpArgs false
namespace Go.Hw
open Go

variable {P : Program}
section
variable {o : Oper} {a : Act} {K : GK} {w : World} {k : HV → Heap → Prop} {e : Env} {h : Heap} (base : Nat)

theorem step_same {w' : World} (hheap : w'.heap = w.heap) (hos : w'.os = w.os) (htape : TapeOk w w') (hout : w'.output = w.output) : Step K w K w' :=
  ⟨hos, htape, hout, by rw [hheap]; exact Nat.le_refl _, fun _ => Nat.le_refl _, fun _ => Nat.le_refl _, fun _ _ => ⟨rfl, fun _ _ => rfl⟩, fun _ _ h => h, fun b i v _ h => by
    unfold World.cell? at *; rw [hheap]; exact h, fun b n ⟨c, e, fr, h1, h2⟩ => ⟨c, e, fr, by rw [hheap]; exact h1, h2⟩, fun _ _ h => h, fun b _ _ => ⟨by rw [hheap], rfl⟩⟩
theorem heap_same {w' : World} (hheap : w'.heap = w.heap) (hos : w'.os = w.os) (htape : TapeOk w w') (hout : w'.output = w.output) (hh : HeapRel K h w) : HeapRel K h w' := by
  have s := step_same (K := K) hheap hos htape hout
  refine ⟨fun id b hid => ?_, hh.inj, hh.wm, fun i b hi => ?_, hh.tinj, ⟨fun b hb => hh.limb b (by rw [← hheap]; exact hb), hh.limb.t.step s⟩⟩
  · obtain ⟨k1, ob, k2, k3, k4⟩ := hh.obj id b hid
    exact ⟨by rw [hheap]; exact k1, ob, k2, k3.keep s (by rw [hheap]), k4⟩
  · obtain ⟨k1, k2, k3, c, e, fr, k4, k5, k6⟩ := hh.tok i b hi
    exact ⟨by rw [hheap]; exact k1, k2, k3, c, e, fr, by rw [hheap]; exact k4, k5, k6⟩

def noRow : Obj → Bool
  | .cells .. => false
  | _ => true
theorem run_getObj {r : Nat} {ob : Obj} {w' : World} (hb : w'.heap[r]? = some ob) (hn : noRow ob = true := by rfl) : (getObj r).run P w' = .ok ob w' := by
  cases ob <;> first | (simp [noRow] at hn; done) | simp [getObj, Sem.run, hb]
theorem run_setObj {r : Nat} {ob : Obj} {w' : World} (ob' : Obj) (hb : w'.heap[r]? = some ob) (hn : noRow ob = true := by rfl) : (setObj r ob').run P w' = .ok () { w' with heap := w'.heap.setIfInBounds r ob' } := by
  cases ob <;> first | (simp [noRow] at hn; done) | simp [setObj, Sem.run, hb]

theorem ok_range {t : TypeId} {st : Bool} {x : Operand} {y : X} (ho : o.op = .range t x) (ht : if st then P.underlying t = some .string else ∃ kt et, P.underlying t = some (.map kt et)) (hx : cX x = some y)
    (hs : hstep base (.range st y) e h k) (hh : HeapRel K h w) (he : EnvRel K w e a.tmps) : Ok P o a K w k := by
  simp only [hstep] at hs
  split at hs
  · rename_i s hev
    simp only [if_true] at ht
    have hx' := ev_sound hx he hev
    generalize hcx : a.eval x = cx at hx'
    cases hx'
    obtain ⟨s1, hh'⟩ := push_obj (id := h.length) (w' := w.alloc (.stringIter ⟨s.toArray⟩ 0)) (ob := .stringIter ⟨s.toArray⟩ 0) (x := .siter s 0) hh rfl rfl tk rfl (.inr ⟨rfl, rfl⟩) (by simp) (fun K' _ => heap_alloc_new w _)
    refine ⟨_, _, _, _, _, .inl ?_, s1, hh', .ptr _ 0 w.heap.size (by simp [GK.rhoAt]), hs⟩
    simp only [execOp, ho, hcx, Instr.range, Sem.run_bind, run_underlying ht, Result.andThen_ok, Sem.run_pure, run_newObj]
    rfl
  · rename_i hev
    simp only [Bool.false_eq_true, if_false] at ht
    obtain ⟨kt, et, ht⟩ := ht
    have hx' := ev_sound hx he hev
    generalize hcx : a.eval x = cx at hx'
    cases hx'
    obtain ⟨s1, hh'⟩ := push_obj (id := h.length) (w' := w.alloc (.mapIter none 0 #[] 0)) (ob := .mapIter none 0 #[] 0) (x := .iter none 0 [] 0) hh rfl rfl tk rfl (.inr ⟨rfl, rfl⟩) (by simp) (fun K' _ => heap_alloc_new w _)
    refine ⟨_, _, _, _, _, .inl ?_, s1, hh', .ptr _ 0 w.heap.size (by simp [GK.rhoAt]), hs⟩
    simp only [execOp, ho, hcx, Instr.range, Sem.run_bind, run_underlying ht, Result.andThen_ok, Sem.run_pure, run_newObj]
    rfl
  · rename_i id hev
    split at hs
    · rename_i es c hmp
      simp only [Bool.false_eq_true, if_false] at ht
      obtain ⟨kt, et, ht⟩ := ht
      have hx' := ev_sound hx he hev
      generalize hcx : a.eval x = cx at hx'
      cases hx' with
      | map _ b hrho =>
        obtain ⟨g1, ms, g2, g3⟩ := heap_map hh hrho hmp
        have hlt : id ≠ h.length := by have := lt_of_get g1; omega
        obtain ⟨s1, hh'⟩ := push_obj (id := h.length) (w' := w.alloc (.mapIter (some b) c #[] c)) (ob := .mapIter (some b) c #[] c) (x := .iter (some id) c [] c) hh rfl rfl tk rfl (.inr ⟨rfl, rfl⟩) (by simp) (fun K' s => ⟨b, s.rho _ _ hrho, heap_alloc_new w _⟩)
        refine ⟨_, _, _, _, _, .inl ?_, s1, hh', .ptr _ 0 w.heap.size (by simp [GK.rhoAt]), hs⟩
        simp only [execOp, ho, hcx, Instr.range, Sem.run_bind, run_underlying ht, run_getObj g2, Result.andThen_ok, Sem.run_pure, run_newObj]
        rfl
    · exact hs.elim
  · exact hs.elim

theorem heap_get {id b : Nat} {ob : HObj} (hh : HeapRel K h w) (hr : K.rho id = some b) (hm : h[id]? = some ob) : b < w.heap.size ∧ ObjOk K w b ob := by
  obtain ⟨h1, ob', h2, h3, _⟩ := hh.obj id b hr
  rw [hm] at h2
  injection h2 with h2
  subst h2
  exact ⟨h1, h3⟩
theorem tup1 {x : HV} {u : Value} (hx : V K w x u) : V K w (.tuple [x]) (.tuple #[u]) := by
  refine V.tuple [x] [u] rfl fun j h z hj hz => ?_
  match j, hj, hz with
  | 0, hj, hz => simp at hj hz; subst hj; subst hz; exact hx
  | j + 1, hj, hz => simp at hj
theorem room_no {b : Nat} {ob : Obj} {w' : World} (hb : w.heap[b]? = some ob) (hn : ∀ c e fr, ob ≠ .cells c e fr) : ∀ n, RoomAt w b n → RoomAt w' b n := fun n ⟨c, e, fr, h1, _⟩ => by
  rw [hb] at h1
  injection h1 with h1
  exact absurd h1 (hn _ _ _)

theorem ok_next {st : Bool} {x : Operand} {y : X} (ho : o.op = .next x st) (hx : cX x = some y)
    (hs : hstep base (.next st y) e h k) (hh : HeapRel K h w) (he : EnvRel K w e a.tmps) : Ok P o a K w k := by
  simp only [hstep] at hs
  split at hs
  · rename_i i hev
    have hx' := ev_sound hx he hev
    generalize hcx : a.eval x = cx at hx'
    cases hx' with
    | ptr _ _ b hrho =>
    split at hs
    · -- a string
      rename_i s pos hi
      obtain ⟨hblt, hob⟩ := heap_get hh hrho hi
      have hb : w.heap[b]? = some (.stringIter ⟨s.toArray⟩ pos) := hob
      split at hs
      · rename_i hlt
        obtain ⟨st1, hh'⟩ := set_obj (w' := { w with heap := w.heap.setIfInBounds b (.stringIter ⟨s.toArray⟩ (pos + (Utf8.decode ⟨s.toArray⟩ pos).2)) }) (new := .siter s (pos + (Utf8.decode ⟨s.toArray⟩ pos).2)) hh hrho hi trivial trivial rfl rfl tk rfl (room_no hb (by simp)) (fun _ => by simp [ObjOk, hblt])
        refine Ok.val (v := .tuple #[.bool true, .int .i64 pos, .int .i32 (Utf8.decode ⟨s.toArray⟩ pos).1]) ?_ st1 hh' (tup3 (.bool _) (.int _ _) (.int _ _)) hs
        have hsz : pos < (ByteArray.mk s.toArray).size := by simpa [ByteArray.size] using hlt
        simp only [execOp, ho, hcx, Instr.next, Sem.run_bind, run_getObj hb, Result.andThen_ok, if_pos hsz, run_setObj _ hb, Sem.run_pure, goInt]
      · rename_i hlt
        have hsz : ¬ pos < (ByteArray.mk s.toArray).size := by simpa [ByteArray.size] using hlt
        exact Ok.pure (v := .tuple #[.bool false]) (by simp only [execOp, ho, hcx, Instr.next, Sem.run_bind, run_getObj hb, Result.andThen_ok, if_neg hsz, Sem.run_pure]) hh (tup1 (.bool _)) hs
    · -- no map
      rename_i since seen last hi
      obtain ⟨hblt, hob⟩ := heap_get hh hrho hi
      have hb : w.heap[b]? = some (.mapIter none since seen.toArray last) := hob
      exact Ok.pure (v := .tuple #[.bool false]) (by simp only [execOp, ho, hcx, Instr.next, Sem.run_bind, run_getObj hb, Result.andThen_ok, Sem.run_pure]) hh (tup1 (.bool _)) hs
    · -- a map
      rename_i m since seen last hi
      split at hs
      · rename_i es c hmp
        obtain ⟨hfr, hk1, hk2⟩ := hs
        obtain ⟨hblt, hob⟩ := heap_get hh hrho hi
        obtain ⟨bm, hrm, hb⟩ := hob
        obtain ⟨g1, ms, g2, g3⟩ := heap_map hh hrm hmp
        have hne : i ≠ m := by intro e1; subst e1; rw [hi] at g1; cases g1
        have hfresh : (!seen.toArray.isEmpty && !ms.isEmpty && ms.all (·.born ≥ last)) = false := by
          rcases hfr with rfl | rfl | ⟨p, hp, hlt⟩
          · rfl
          · have : ms = #[] := Array.eq_empty_of_size_eq_zero (by simpa using g3.1)
            subst this; simp
          · obtain ⟨j, hj⟩ := mem_get hp
            obtain ⟨mm, f1, f2, _⟩ := g3.2 j p.1 p.2.1 p.2.2 hj
            have hmem : mm ∈ ms := by
              have := List.mem_of_getElem? f1
              simpa using this
            have : ms.all (·.born ≥ last) = false := by
              rw [Bool.eq_false_iff]
              intro h1
              rw [Array.all_eq_true'] at h1
              have := h1 mm hmem
              simp at this
              omega
            simp [this]
        have back : ∀ mm, mm ∈ ms → ∃ (j : Nat) (p : Nat × HV × HV), es[j]? = some p ∧ mm.born = p.1 ∧ V K w p.2.1 mm.key ∧ V K w p.2.2 mm.val := by
          intro mm hmm
          obtain ⟨j, hj⟩ := mem_get (show mm ∈ ms.toList by simpa using hmm)
          obtain ⟨p, hp⟩ := get_of_lt (l := es) (j := j) (by rw [← g3.1]; exact lt_of_get hj)
          obtain ⟨m', f1, f2, _, _, f3, f4⟩ := g3.2 j p.1 p.2.1 p.2.2 hp
          rw [hj] at f1
          injection f1 with f1
          subst f1
          exact ⟨j, p, hp, f2, f3, f4⟩
        generalize hleft : ms.filter (fun e => !seen.toArray.contains e.born) = left
        generalize hcand : (if (left.filter (·.born < since)).isEmpty then #[none] else #[]) ++ ((left.filter (·.born < since)) ++ (left.filter (·.born ≥ since))).map some = cand
        have hpos : 0 < cand.size := by
          rw [← hcand]
          simp only [Array.size_append, Array.size_map]
          split
          · simp; omega
          · rename_i hn
            have : 0 < (left.filter (·.born < since)).size := by
              rcases Nat.eq_zero_or_pos (left.filter (·.born < since)).size with h0 | h0
              · exact absurd (by simpa [Array.isEmpty] using h0) hn
              · exact h0
            omega
        -- the choice
        obtain ⟨ci, w1, hch, hw1, hlt⟩ : ∃ ci w1, (choose (.mapNext cand.size)).run P w = .ok ci w1 ∧ (w1.heap = w.heap ∧ w1.os = w.os ∧ TapeOk w w1 ∧ w1.output = w.output) ∧ ci < cand.size := by
          rw [run_choose]
          split
          · exact ⟨0, w, rfl, ⟨rfl, rfl, tk, rfl⟩, hpos⟩
          · exact ⟨_, _, rfl, ⟨rfl, rfl, tk, rfl⟩, Nat.mod_lt _ hpos⟩
        have s1 := step_same (K := K) hw1.1 hw1.2.1 hw1.2.2.1 hw1.2.2.2
        have hh1 := heap_same hw1.1 hw1.2.1 hw1.2.2.1 hw1.2.2.2 hh
        have hb1 : w1.heap[b]? = some (.mapIter (some bm) since seen.toArray last) := by rw [hw1.1]; exact hb
        have hrun0 : (execOp a.eval o).run P w = ((match cand[ci]? with
            | some (some e) => do
              setObj b (.mapIter (some bm) since (seen.toArray.push e.born) c)
              pure (.tuple #[.bool true, e.key, e.val])
            | some none => pure (.tuple #[.bool false])
            | none => stuck "Next: no such candidate" : Sem Value).run P w1).andThen fun v w' => .ok (.value v) w' := by
          simp only [execOp, ho, hcx, Instr.next, Sem.run_bind, run_getObj hb, run_getObj g2, Result.andThen_ok, hfresh, Bool.false_eq_true, if_false, hleft, hcand, hch, Sem.run_pure]
          rfl
        cases hci : cand[ci]? with
        | none => rw [Array.getElem?_eq_none_iff] at hci; omega
        | some oe =>
          rw [hci] at hrun0
          have hmem : oe ∈ cand := Array.mem_of_getElem? hci
          rw [← hcand, Array.mem_append] at hmem
          cases oe with
          | none =>
            have hold : ∀ p ∈ es, p.1 ∉ seen → since ≤ p.1 := by
              intro p hp hns
              rcases hmem with hmem | hmem
              · split at hmem
                · rename_i hemp
                  obtain ⟨j, hj⟩ := mem_get hp
                  obtain ⟨mm, f1, f2, _⟩ := g3.2 j p.1 p.2.1 p.2.2 hj
                  have hmm : mm ∈ ms := by have := List.mem_of_getElem? f1; simpa using this
                  refine Classical.byContradiction fun hlt => ?_
                  have h1 : mm ∈ left := by
                    rw [← hleft, Array.mem_filter]
                    exact ⟨hmm, by simpa [f2] using hns⟩
                  have h2 : mm ∈ left.filter (·.born < since) := by
                    rw [Array.mem_filter]
                    exact ⟨h1, by simp [f2]; omega⟩
                  rw [Array.isEmpty_iff] at hemp
                  rw [hemp] at h2
                  simp at h2
                · simp at hmem
              · simp at hmem
            refine Ok.val (v := .tuple #[.bool false]) ?_ s1 hh1 (tup1 (.bool _)) (hk2 hold)
            rw [hrun0]; rfl
          | some ent =>
            have hl : ent ∈ left := by
              rcases hmem with hmem | hmem
              · split at hmem <;> simp at hmem
              · simp only [Array.mem_map, Option.some.injEq, exists_eq_right, Array.mem_append, Array.mem_filter] at hmem
                rcases hmem with h1 | h1 <;> exact h1.1
            rw [← hleft, Array.mem_filter] at hl
            obtain ⟨j, p, hp, f1, f2, f3⟩ := back ent hl.1
            have hns : p.1 ∉ seen := by
              have := hl.2
              rw [f1] at this
              simpa using this
            obtain ⟨s2, hh2⟩ := set_obj (w' := { w1 with heap := w1.heap.setIfInBounds b (.mapIter (some bm) since (seen ++ [p.1]).toArray c) }) (new := .iter (some m) since (seen ++ [p.1]) c) hh1 hrho hi trivial trivial rfl rfl tk rfl (room_no hb1 (by simp)) (fun s => ⟨bm, hrm, by simp [hw1.1, hblt]⟩)
            refine Ok.val (v := .tuple #[.bool true, ent.key, ent.val]) ?_ (s1.trans s2) hh2 (tup3 (.bool _) ((f2.step s1).step s2) ((f3.step s1).step s2)) (hk1 j p hp hns)
            rw [hrun0]
            simp only [Sem.run_bind, run_setObj _ hb1, Result.andThen_ok, Sem.run_pure, f1]
            simp
      · exact hs.elim
    · exact hs.elim
  · exact hs.elim

theorem ok_entry {x : Operand} {y : X} (ho : o.op = .entry x) (hx : cX x = some y)
    (hs : hstep base (.entry y) e h k) (hh : HeapRel K h w) (he : EnvRel K w e a.tmps) : Ok P o a K w k := by
  simp only [hstep] at hs
  split at hs
  · rename_i i hev
    have hx' := ev_sound hx he hev
    generalize hcx : a.eval x = cx at hx'
    cases hx' with
    | ptr _ _ b hrho =>
    split at hs
    · rename_i m since seen last hi
      split at hs
      · rename_i es c n hmp hn
        obtain ⟨rfl, hs⟩ := hs
        obtain ⟨hblt, hob⟩ := heap_get hh hrho hi
        obtain ⟨bm, hrm, hb⟩ := hob
        obtain ⟨g1, ms, g2, g3⟩ := heap_map hh hrm hmp
        have hback : seen.toArray.back? = some n := by simpa using hn
        rcases find_rel (n := n) g3 with ⟨h1, h2⟩ | ⟨mm, p, h1, h2, h3, h4⟩
        · rw [h2] at hs; exact hs.elim
        · rw [h2] at hs
          have h1' : ms.find? (fun e => e.born == n) = some mm := by
            obtain ⟨l⟩ := ms
            simpa using h1
          refine Ok.pure (v := .tuple #[mm.key, mm.val]) ?_ hh (tup2 h3 h4) hs
          simp only [execOp, ho, hcx, Instr.entry, Sem.run_bind, run_getObj hb, run_getObj g2, Result.andThen_ok, hback, bne_self_eq_false, Bool.false_eq_true, if_false, h1', Sem.run_pure]
      · exact hs.elim
    · exact hs.elim
  · exact hs.elim

theorem ok_isnil {neg : Bool} {t yt : TypeId} {ms : Array (String × TypeId)} {x : Operand} {y : X} (ho : o.op = .binOp (if neg then .neq else .eql) t x (.const .nilIface) yt) (ht : P.underlying t = some (.interface ms)) (hx : cX x = some y)
    (hs : hstep base (.isnil neg y) e h k) (hh : HeapRel K h w) (he : EnvRel K w e a.tmps) : Ok P o a K w k := by
  have hec : a.eval (.const .nilIface) = .nilIface := rfl
  simp only [hstep] at hs
  split at hs
  · rename_i hev
    have hx' := ev_sound hx he hev
    generalize hcx : a.eval x = cx at hx'
    cases hx'
    have hr : (Op.equal t .nilIface .nilIface).run P w = .ok true w := by
      rw [equal_unfold]
      generalize 9999 = dd
      simp only [Op.equalIn, Sem.run_bind, run_underlying ht, Result.andThen_ok]
      rfl
    obtain ⟨h1, h2⟩ := run_eq_both hr rfl rfl
    refine Ok.pure (v := .bool (!neg)) ?_ hh (.bool _) hs
    cases neg with
    | false => simp [execOp, ho, hcx, hec, eqGuard, h1]
    | true => simp [execOp, ho, hcx, hec, eqGuard, h2]
  · rename_i u z hev
    have hx' := ev_sound hx he hev
    generalize hcx : a.eval x = cx at hx'
    cases hx' with
    | iface _ _ v _ _ =>
    have hr : (Op.equal t (.iface u v) .nilIface).run P w = .ok false w := by
      rw [equal_unfold]
      generalize 9999 = dd
      simp only [Op.equalIn, Sem.run_bind, run_underlying ht, Result.andThen_ok]
      rfl
    obtain ⟨h1, h2⟩ := run_eq_both hr rfl rfl
    refine Ok.pure (v := .bool neg) ?_ hh (.bool _) hs
    cases neg with
    | false => simp [execOp, ho, hcx, hec, eqGuard, h1]
    | true => simp [execOp, ho, hcx, hec, eqGuard, h2]
  · exact hs.elim


def CR (K : GK) (w : World) (cs : List HV) (cur : Array Value) : Prop := cs.length = cur.size ∧ ∀ (j : Nat) (y : HV), cs[j]? = some y → y.leaf = true ∧ ∃ u, cur[j]? = some u ∧ V K w y u
theorem fill_rel {place : Nat → Option (Nat × Nat)} {f : Nat × Operand → Option (Nat × Nat × X)} (hf : ∀ i x off n y, f (i, x) = some (off, n, y) → place i = some (off, n) ∧ cX x = some y) (he : EnvRel K w e a.tmps) :
    ∀ (parts : List (Nat × Operand)) (ps : List (Nat × Nat × X)) (l : List (Nat × Nat × HV)) (cs cs' : List HV) (cur : Array Value), parts.mapM f = some ps → evParts e ps = some l → fillCells cs l = some cs' → CR K w cs cur →
      ∃ out, Instr.fill place cur (parts.map fun p => (p.1, a.eval p.2)) = some out ∧ CR K w cs' out
  | [], ps, l, cs, cs', cur, hm, hev, hfc, hcr => by
    simp at hm
    subst hm
    simp [evParts] at hev
    subst hev
    simp [fillCells] at hfc
    subst hfc
    exact ⟨cur, rfl, hcr⟩
  | (i, x) :: parts, ps, l, cs, cs', cur, hm, hev, hfc, hcr => by
    obtain ⟨⟨off, n, y⟩, ps, h1, h2, rfl⟩ := mapM_cons hm
    obtain ⟨hp, hx⟩ := hf i x off n y h1
    simp only [evParts] at hev
    split at hev
    · rename_i v vs h3 h4
      injection hev with hev
      subst hev
      simp only [fillCells] at hfc
      split at hfc
      · rename_i hc
        obtain ⟨c1, c2, c3⟩ := hc
        have hV := ev_sound hx he h3
        obtain ⟨d1, d2, d3⟩ := hV.cells (isTuple_false c3)
        have hlen : cs.length = cur.size := hcr.1
        rw [List.map_cons]
        show ∃ out, Instr.fill place cur ((i, a.eval x) :: parts.map fun p => (p.1, a.eval p.2)) = some out ∧ CR K w cs' out
        rw [fill_step hp (by omega) (by omega)]
        refine fill_rel hf he parts ps vs _ cs' _ h2 h4 hfc ⟨by simp [putAt]; omega, fun j z hz => ?_⟩
        simp only [putAt] at hz
        rw [List.append_assoc, List.getElem?_append] at hz
        simp only [List.getElem?_toArray]
        rw [List.append_assoc, List.getElem?_append]
        simp only [List.length_take, Array.length_toList] at hz ⊢
        have e1 : min off cs.length = off := by omega
        have e2 : min off cur.size = off := by omega
        rw [e1] at hz
        rw [e2]
        split at hz
        · rename_i hj
          rw [if_pos hj]
          rw [List.getElem?_take_of_lt hj] at hz ⊢
          simpa using hcr.2 j z hz
        · rename_i hj
          rw [if_neg hj]
          rw [List.getElem?_append] at hz ⊢
          have e3 : v.cells.length = (a.eval x).cells.toList.length := by simp [d1]
          rw [← e3]
          split at hz
          · rename_i hj2
            rw [if_pos hj2]
            have hlt : j - off < (a.eval x).cells.size := by omega
            exact ⟨d2 z (List.mem_of_getElem? hz), (a.eval x).cells[j - off], by simp [hlt], d3 _ z _ hz (by simp [hlt])⟩
          · rename_i hj2
            rw [if_neg hj2]
            rw [List.getElem?_drop] at hz ⊢
            have := hcr.2 _ z hz
            rw [show off + n + (j - off - v.cells.length) = off + v.cells.length + (j - off - v.cells.length) by omega]
            simpa using this
      · cases hfc
    · cases hev
theorem CR.agg {cs : List HV} {out : Array Value} (h : CR K w cs out) : V K w (.agg cs) (.agg out) :=
  V.ofAgg cs out h.1 (fun z hz => by obtain ⟨j, hj⟩ := mem_get hz; exact (h.2 j z hj).1) (fun j z v hz hv => by
    obtain ⟨_, u, hu, hV⟩ := h.2 j z hz
    rw [hu] at hv
    injection hv with hv
    subst hv
    exact hV)
theorem CR.zero {t : TypeId} {z : HV} {i : TypeInfo} {u : Value} (hcon : hconst u = some z) : CR K w z.cells u.cells := by
  have hV := V_hconst (K := K) (w := w) hcon
  obtain ⟨h1, h2, h3⟩ := hV.cells (hconst_tuple hcon)
  refine ⟨h1, fun j y hy => ?_⟩
  have := lt_of_get hy
  exact ⟨h2 y (List.mem_of_getElem? hy), u.cells[j]'(by omega), by simp [show j < u.cells.size by omega], h3 j y _ hy (by simp [show j < u.cells.size by omega])⟩

theorem run_places : ∀ {L : List Field} {ns : List Nat}, L.mapM (fun f => tsize P f.type) = some ns → (L.mapM (m := Sem) fun f => do pure (f.offset, ← sizeOf f.type)).run P w = .ok (L.zipWith (fun f n => (f.offset, n)) ns) w
  | [], ns, h => by simp at h; subst h; rfl
  | f :: L, ns, h => by
    obtain ⟨n, ns, h1, h2, rfl⟩ := mapM_cons h
    rw [List.mapM_cons]
    simp only [Sem.run_bind, run_sizeOf' h1, Result.andThen_ok, Sem.run_pure, run_places h2, List.zipWith_cons_cons]

theorem ok_build_struct {t : TypeId} {fs : Array Field} {ns : List Nat} {parts : Array (Nat × Operand)} {ps : List (Nat × Nat × X)} {z : HV} (ho : o.op = .build t parts) (hz : tzero P t = some z) (ht : P.underlying t = some (.struct fs)) (hns : fs.toList.mapM (fun f => tsize P f.type) = some ns)
    (hps : (parts.toList.mapM fun (x : Nat × Operand) => fs[x.1]?.bind fun f => (tsize P f.type).bind fun n => (cX x.2).bind fun y => some (f.offset, n, y)) = some ps)
    (hs : hstep base (.build z.cells ps) e h k) (hh : HeapRel K h w) (he : EnvRel K w e a.tmps) : Ok P o a K w k := by
  obtain ⟨i, u, hi, hu, hcon⟩ := tzero_info hz
  simp only [hstep] at hs
  split at hs
  · rename_i l hev
    split at hs
    · rename_i cs hfc
      obtain ⟨out, h1, h2⟩ := fill_rel (place := fun i => ((fs.toList.zipWith (fun f n => (f.offset, n)) ns).toArray)[i]?) (f := fun (x : Nat × Operand) => fs[x.1]?.bind fun f => (tsize P f.type).bind fun n => (cX x.2).bind fun y => some (f.offset, n, y)) (fun i x off n y hf => by
        dsimp only at hf
        cases hfi : fs[i]? with
        | none => simp [hfi] at hf
        | some f =>
          cases hn : tsize P f.type with
          | none => simp [hfi, hn] at hf
          | some n' =>
            cases hc : cX x with
            | none => simp [hfi, hn, hc] at hf
            | some y' =>
              simp [hfi, hn, hc] at hf
              obtain ⟨rfl, rfl, rfl⟩ := hf
              refine ⟨?_, rfl⟩
              simp only [List.getElem?_toArray, List.getElem?_zipWith]
              have h1 : fs.toList[i]? = some f := by simpa using hfi
              obtain ⟨h3, h4⟩ := mapM_some hns
              obtain ⟨n2, hn2⟩ := get_of_lt (l := ns) (j := i) (by rw [← h3]; exact lt_of_get h1)
              have := h4 i f n2 h1 hn2
              rw [hn] at this
              injection this with this
              subst this
              rw [h1, hn2]) he parts.toList ps l z.cells cs u.cells hps hev hfc (CR.zero (t := t) (i := i) hcon)
      refine Ok.pure (v := .agg out) ?_ hh h2.agg hs
      have hpl := run_places (P := P) (w := w) hns
      obtain ⟨L⟩ := fs
      obtain ⟨parts⟩ := parts
      simp only at hpl h1
      simp only [execOp, ho, Instr.build, Sem.run_bind, run_zeroValue hi hu, Result.andThen_ok, run_underlying ht, List.mapM_toArray, hpl, List.map_toArray]
      simp only [Sem.run_map, Result.andThen_ok, hpl]
      rw [h1]
      rfl
    · exact hs.elim
  · exact hs.elim

theorem ok_build_array {t et : TypeId} {m sz : Nat} {parts : Array (Nat × Operand)} {ps : List (Nat × Nat × X)} {z : HV} (ho : o.op = .build t parts) (hz : tzero P t = some z) (ht : P.underlying t = some (.array m et)) (hsz : tsize P et = some sz)
    (hps : (parts.toList.mapM fun (x : Nat × Operand) => (cX x.2).bind fun y => some (x.1 * sz, sz, y)) = some ps)
    (hs : hstep base (.build z.cells ps) e h k) (hh : HeapRel K h w) (he : EnvRel K w e a.tmps) : Ok P o a K w k := by
  obtain ⟨i, u, hi, hu, hcon⟩ := tzero_info hz
  simp only [hstep] at hs
  split at hs
  · rename_i l hev
    split at hs
    · rename_i cs hfc
      obtain ⟨out, h1, h2⟩ := fill_rel (place := fun i => some (i * sz, sz)) (f := fun (x : Nat × Operand) => (cX x.2).bind fun y => some (x.1 * sz, sz, y)) (fun i x off n y hf => by
        dsimp only at hf
        cases hc : cX x with
        | none => simp [hc] at hf
        | some y' =>
          simp [hc] at hf
          obtain ⟨rfl, rfl, rfl⟩ := hf
          exact ⟨rfl, rfl⟩) he parts.toList ps l z.cells cs u.cells hps hev hfc (CR.zero (t := t) (i := i) hcon)
      refine Ok.pure (v := .agg out) ?_ hh h2.agg hs
      obtain ⟨parts⟩ := parts
      simp only at h1
      simp only [execOp, ho, Instr.build, Sem.run_bind, run_zeroValue hi hu, Result.andThen_ok, run_underlying ht, run_sizeOf' hsz, List.map_toArray]
      rw [h1]
      rfl
    · exact hs.elim
  · exact hs.elim
theorem ok_mkif {t : TypeId} {d : TypeDesc} {x : Operand} {y : X} (ho : o.op = .makeInterface t x) (ht : P.underlying t = some d) (hd : ∀ ms, d ≠ .interface ms) (hx : cX x = some y)
    (hs : hstep base (.mkif t y) e h k) (hh : HeapRel K h w) (he : EnvRel K w e a.tmps) : Ok P o a K w k := by
  simp only [hstep] at hs
  split at hs
  · rename_i v hev
    have hx' := ev_sound hx he hev
    refine Ok.pure (v := .iface t (a.eval x)) ?_ hh (.iface t v _ hs.1 hx') hs.2
    simp only [execOp, ho, Instr.makeInterface, Sem.run_bind, run_underlying ht, Result.andThen_ok]
    cases d <;> first | rfl | exact absurd rfl (hd _)
  · exact hs.elim
end
end Go.Hw

set_option linter.unusedVariables false
set_option linter.unusedSimpArgs false
namespace Go.Hw
open Go
variable {P : Program}
section
variable {o : Oper} {a : Act} {K : GK} {w : World} {k : HV → Heap → Prop} {e : Env} {h : Heap} (base : Nat)
theorem list_set_self {α : Type} {l : List α} {i : Nat} {x : α} (h : l[i]? = some x) : l.set i x = l := by
  apply List.ext_getElem?
  intro j
  rw [List.getElem?_set]
  split
  · rename_i e; subst e
    have := (List.getElem?_eq_some_iff.1 h).1
    rw [if_pos this]; exact h.symm
  · rfl
theorem ok_mark {src dst et : TypeId} {x : Operand} {y : X} (ho : o.op = .convert src dst x) (hsd : src = dst) (h1 : P.underlying dst = some (.slice et)) (h1' : P.underlying et = some (.int .u8)) (hx : cX x = some y) (hs : hstep base (.conv .mark y) e h k) (hh : HeapRel K h w) (he : EnvRel K w e a.tmps) : Ok P o a K w k := by
  subst hsd
  simp only [hstep] at hs
  cases hev : y.ev e with
  | none => rw [hev] at hs; exact hs.elim
  | some zz =>
  rw [hev] at hs
  cases zz <;> try exact hs.elim
  rename_i id off n sz
  dsimp only at hs
  split at hs
  case h_2 => exact hs.elim
  rename_i cs hcs
  obtain ⟨hpos, hk⟩ := hs
  have hx' := ev_sound hx he hev
  have hx0 := hx'
  generalize hcx : a.eval x = cx at hx' hx0
  cases hx' with
  | arrn => omega
  | arr0 => omega
  | arr _ _ _ _ b cap off' hr hcap hoff hroom =>
    obtain ⟨c, et', fr, hb, hlen, hfr, hvs⟩ := heap_cells hh hr hcs
    have hid : h[id]? = some (.cells cs) := by
      unfold Heap.cells at hcs
      split at hcs
      · rename_i hq; injection hcs with hcs; subst hcs; exact hq
      · cases hcs
    obtain ⟨fr', hfe, hfr'⟩ : ∃ fr', (if fr.1 == fr.2 then (c.size, c.size + 1) else (min fr.1 c.size, max fr.2 (c.size + 1))) = fr' ∧ nofr c fr' := by
      refine ⟨_, rfl, fun i hi => ?_⟩
      have := hfr i hi
      by_cases hq : fr.1 = fr.2
      · rw [if_pos (by simpa using hq)]; exact .inr hi
      · rw [if_neg (by simpa using hq)]
        refine .inr ?_
        simp only
        omega
    have hheap : (w.freeze { block := b, off := c.size } 1).heap = w.heap.setIfInBounds b (.cells c et' fr') := by
      simp only [World.freeze, if_neg (show ¬ (1 = 0) by omega)]
      apply Array.ext_getElem?
      intro q
      rw [Array.getElem?_modify, Array.getElem?_setIfInBounds]
      by_cases hq : b = q
      · subst hq
        have hlt : b < w.heap.size := (Array.getElem?_eq_some_iff.1 hb).1
        simp only [if_true, hb, Option.map_some, hlt]
        rw [← hfe]
      · simp [hq]
    have hrun : (execOp a.eval o).run P w = .ok (.value (.slice (some ⟨b, off', none⟩) n cap)) (w.freeze { block := b, off := c.size } 1) := by
      have hsh : w.shape? b = some (et', c.size) := by unfold World.shape?; rw [hb]
      simp only [execOp, ho, hcx, Sem.run_bind, convert, run_underlying h1, run_underlying h1', Result.andThen_ok, beq_self_eq_true, markStringish, run_shape, hsh, Sem.run_pure]
      rfl
    obtain ⟨s, hh1⟩ := set_obj (old := .cells cs) (new := .cells cs) hh hr hid trivial trivial hheap rfl tk rfl (by
      rintro m ⟨c', e', fr0, h4, h5⟩
      rw [hb] at h4
      injection h4 with h4
      injection h4 with h6 h7 h8
      subst h6
      exact ⟨c, et', fr', by rw [hheap]; have hlt : b < w.heap.size := (Array.getElem?_eq_some_iff.1 hb).1; simp [hlt], h5⟩) (by
      intro s
      refine ⟨c, et', fr', by rw [hheap]; have hlt : b < w.heap.size := (Array.getElem?_eq_some_iff.1 hb).1; simp [hlt], hlen, hfr', fun j x hx => ?_⟩
      obtain ⟨q1, v, q2, q3⟩ := hvs j x hx
      exact ⟨q1, v, q2, q3.step s⟩)
    rw [list_set_self hid] at hh1
    exact Ok.val hrun s hh1 (hx0.step s) hk
end
end Go.Hw

set_option linter.unusedVariables false
set_option linter.unusedSimpArgs false
namespace Go.Hw
open Go

variable {P : Program}

theorem heap_app {K : GK} {w : World} {h : Heap} (hh : HeapRel K h w) (cs : List HV) : HeapRel K (h ++ [.cells cs]) w := by
  have hg : ∀ (i : Nat) (o : HObj), h[i]? = some o → (h ++ [HObj.cells cs])[i]? = some o := fun i o ho => by rw [List.getElem?_append_left (lt_of_get ho)]; exact ho
  have hb : ∀ i b, K.rho i = some b → (h ++ [HObj.cells cs])[i]? = h[i]? := fun i b hr => by
    obtain ⟨_, o, h2, _⟩ := hh.obj i b hr
    rw [hg i o h2, h2]
  refine ⟨fun i b hr => ?_, fun i j b x y hi hj hx hy lx ly => hh.inj i j b x y hi hj (by rw [← hb i b hi]; exact hx) (by rw [← hb j b hj]; exact hy) lx ly, fun k => ?_, fun k b hk => ?_, hh.tinj, hh.limb⟩
  · obtain ⟨h1, o, h2, h3⟩ := hh.obj i b hr
    exact ⟨h1, o, hg i o h2, h3⟩
  · rw [hh.wm k]
    rcases Nat.lt_trichotomy k h.length with hk | hk | hk
    · rw [List.getElem?_append_left hk]
    · subst hk; simp
    · rw [List.getElem?_eq_none (by omega), List.getElem?_eq_none (by simp; omega)]
  · obtain ⟨h1, ⟨n, h2⟩, h3, h4⟩ := hh.tok k b hk
    exact ⟨h1, ⟨n, hg k _ h2⟩, fun i o hi ho => h3 i o hi (by rw [← hb i b hi]; exact ho), h4⟩

theorem heap_dead {K : GK} {w : World} {h : Heap} {id : Nat} {cs : List HV} (hh : HeapRel K h w) (hc : h[id]? = some (.cells cs)) : HeapRel K (h.set id .dead) w := by
  have hget : (h.set id HObj.dead)[id]? = some .dead := List.getElem?_set_self (lt_of_get hc)
  have hoth : ∀ i, i ≠ id → (h.set id HObj.dead)[i]? = h[i]? := fun i hi => List.getElem?_set_ne (Ne.symm hi)
  have key : ∀ {i : Nat} {x : HObj}, (h.set id .dead)[i]? = some x → x.live → h[i]? = some x := by
    intro i x hx lx
    by_cases e : i = id
    · subst e; rw [hget] at hx; injection hx with hx; subst hx; exact lx.elim
    · rw [← hoth i e]; exact hx
  refine ⟨fun i b hr => ?_, fun i j b x y hi hj hx hy lx ly => hh.inj i j b x y hi hj (key hx lx) (key hy ly) lx ly, fun k => ?_, fun k b hk => ?_, hh.tinj, hh.limb⟩
  · obtain ⟨h1, o, h2, h3, h4⟩ := hh.obj i b hr
    by_cases e : i = id
    · subst e; exact ⟨h1, .dead, hget, trivial, fun l => l.elim⟩
    · exact ⟨h1, o, by rw [hoth i e]; exact h2, h3, h4⟩
  · rw [hh.wm k]
    by_cases e : k = id
    · subst e; rw [hget, hc]
    · rw [hoth k e]
  · obtain ⟨h1, ⟨n, h2⟩, h3, h4⟩ := hh.tok k b hk
    have hne : k ≠ id := by intro e; subst e; rw [hc] at h2; cases h2
    exact ⟨h1, ⟨n, by rw [hoth k hne]; exact h2⟩, fun i o hi ho hl => h3 i o hi (key ho hl) hl, h4⟩

theorem heap_rename {K : GK} {w : World} {h : Heap} {id b : Nat} {cs cs' : List HV} (hh : HeapRel K h w) (hr : K.rho id = some b) (hc : h[id]? = some (.cells cs)) (hok : ObjOk K w b (.cells cs')) :
    Step K w (K.rhoAt h.length b) w ∧ HeapRel (K.rhoAt h.length b) (h.set id .dead ++ [.cells cs']) w := by
  have hlt := lt_of_get hc
  have hno : K.rho h.length = none := by
    cases hr2 : K.rho h.length with
    | none => rfl
    | some b2 =>
      obtain ⟨_, o, h2, _⟩ := hh.obj _ b2 hr2
      rw [List.getElem?_eq_none (Nat.le_refl _)] at h2; cases h2
  have s : Step K w (K.rhoAt h.length b) w := by
    refine ⟨rfl, tk, rfl, Nat.le_refl _, fun _ => Nat.le_refl _, fun _ => Nat.le_refl _, fun _ _ => ⟨rfl, fun _ _ => rfl⟩, fun i b' hi => ?_, fun _ _ _ _ h => h, fun _ _ h => h, fun b' hb' ho => ?_, fun _ _ _ => ⟨rfl, rfl⟩⟩
    · have : i ≠ h.length := by intro e; subst e; rw [hno] at hi; cases hi
      simp [GK.rhoAt, this, hi]
    · rcases ho with ⟨i, ho⟩ | ho
      · simp only [GK.rhoAt] at ho
        split at ho
        · injection ho with ho; subst ho; exact .inl ⟨id, hr⟩
        · exact .inl ⟨i, ho⟩
      · exact .inr ho
  have hd := heap_dead hh hc
  obtain ⟨hb1, o0, ho0, _, hlim⟩ := hh.obj id b hr
  rw [hc] at ho0; injection ho0 with ho0; subst ho0
  have hlim := hlim trivial
  have hlen : (h.set id HObj.dead).length = h.length := by simp
  have hnew : (h.set id HObj.dead ++ [HObj.cells cs'])[h.length]? = some (.cells cs') := by rw [List.getElem?_append_right (by simp)]; simp
  have hold : ∀ i, i < h.length → (h.set id HObj.dead ++ [HObj.cells cs'])[i]? = (h.set id HObj.dead)[i]? := fun i hi => List.getElem?_append_left (by simpa using hi)
  have hrlt : ∀ i b', K.rho i = some b' → i < h.length := fun i b' hi => by
    obtain ⟨_, o, h2, _⟩ := hh.obj i b' hi
    exact lt_of_get h2
  have hfree : ∀ (i : Nat) (x : HObj), K.rho i = some b → (h.set id HObj.dead)[i]? = some x → ¬ x.live := by
    intro i x hi hx lx
    by_cases e : i = id
    · subst e; rw [List.getElem?_set_self hlt] at hx; injection hx with hx; subst hx; exact lx.elim
    · rw [List.getElem?_set_ne (Ne.symm e)] at hx
      exact e (hh.inj i id b x _ hi hr hx hc lx trivial)
  refine ⟨s, ⟨fun i b' hi => ?_, fun i j b' x y hi hj hx hy lx ly => ?_, fun k => ?_, fun k b' hk => ?_, hh.tinj, ⟨hh.limb.z, hh.limb.t.step s⟩⟩⟩
  · simp only [GK.rhoAt] at hi
    split at hi
    · rename_i e
      injection hi with hi; subst hi; subst e
      exact ⟨hb1, _, hnew, ObjOk.keep s rfl hok, fun _ => hlim⟩
    · obtain ⟨h1, o, h2, h3, h4⟩ := hd.obj i b' hi
      exact ⟨h1, o, by rw [hold i (hrlt i b' hi)]; exact h2, ObjOk.keep s rfl h3, h4⟩
  · simp only [GK.rhoAt] at hi hj
    split at hi <;> split at hj
    · simp_all
    · injection hi with hi; subst hi
      exact absurd ly (hfree j y hj (by rw [← hold j (hrlt j _ hj)]; exact hy))
    · injection hj with hj; subst hj
      exact absurd lx (hfree i x hi (by rw [← hold i (hrlt i _ hi)]; exact hx))
    · exact hd.inj i j b' x y hi hj (by rw [← hold i (hrlt i _ hi)]; exact hx) (by rw [← hold j (hrlt j _ hj)]; exact hy) lx ly
  · show K.wm k = _
    rw [hd.wm k]
    rcases Nat.lt_trichotomy k h.length with hk | hk | hk
    · rw [hold k hk]
    · subst hk; rw [hnew, List.getElem?_eq_none (by simp)]
    · rw [List.getElem?_eq_none (by simp; omega), List.getElem?_eq_none (by simp; omega)]
  · obtain ⟨h1, ⟨n, h2⟩, h3, h4⟩ := hd.tok k b' hk
    have hk2 : k < h.length := by have := lt_of_get h2; simpa using this
    refine ⟨h1, ⟨n, by rw [hold k hk2]; exact h2⟩, fun i o hi ho hl => ?_, h4⟩
    simp only [GK.rhoAt] at hi
    split at hi
    · injection hi with hi; subst hi
      exact (hh.tok k b hk).2.2.1 id _ hr hc trivial
    · exact h3 i o hi (by rw [← hold i (hrlt i _ hi)]; exact ho) hl

section
variable {o : Oper} {a : Act} {K : GK} {w : World} {k : HV → Heap → Prop} {e : Env} {h : Heap} (base : Nat)

def ArrOut (P : Program) (t u ty : TypeId) (K : GK) (w : World) (sv xv : Value) (h' : Heap) (x : HV) : Prop :=
  ∃ v K' w', (Builtin.append_ #[t, u] ty #[sv, xv]).run P w = .ok v w' ∧ Step K w K' w' ∧ HeapRel K' h' w' ∧ V K' w' x v

theorem arr_new {t u et ty : TypeId} {d : TypeDesc} {i : TypeInfo} {zu : Value} {n m cap : Nat} {bs : Option Addr} {xv : Value} {os news : List HV} {nv olds : List Value} {h0 : Heap} (ht : P.underlying t = some (.slice et)) (hu : P.underlying u = some d) (hd : (∃ e, d = .slice e) ∨ d = .string)
    (hi : P.info? et = some i) (hzu : i.zero = some zu) (hzs : zu.cells.size = i.size) (hby0 : i.bytes ≠ 0) (hx : Src P w i.size n xv nv) (hnl : news.length = n * i.size)
    (hy : ∀ (j : Nat) (y : HV), news[j]? = some y → y.leaf = true ∧ ∃ u, nv[j]? = some u ∧ V K w y u)
    (hcap : cap < m + n) (hold : ∀ w' : World, (∀ ad, w'.cell? ad = w.cell? ad) → (Builtin.firstCells i.size m (.slice bs m cap)).run P w' = .ok olds.toArray w')
    (hol : olds.length = m * i.size) (hosl : os.length = m * i.size) (hoV : ∀ (j : Nat) (y : HV), os[j]? = some y → y.leaf = true ∧ ∃ u, olds[j]? = some u ∧ V K w y u)
    (hfit : (m + n) * i.bytes ≤ 140737488355328) (hh : HeapRel K h0 w) : ArrOut P t u ty K w (.slice bs m cap) xv (h0 ++ [.cells (os ++ news)]) (.arr h0.length 0 (m + n) i.size) := by
  have h63 : m + n ≤ 9223372036854775807 := by
    have := Nat.le_mul_of_pos_right (m + n) (Nat.pos_of_ne_zero hby0)
    omega
  have hnv := hx.size
  have hr := run_append_new (P := P) (w := w) (ty := ty) ht hu hd hi hzu bs m cap n hcap hx hold hfit h63
  have hcapge := grownCap_big w (m + n) cap et
  generalize hgc : grownCap w (m + n) cap et = gc at hr hcapge
  generalize hcells : (olds ++ nv ++ (Builtin.zeroCells zu.cells (gc - (m + n))).toList).toArray = cells at hr
  have hcsz : cells.size = gc * i.size := by
    rw [← hcells]
    have := size_zeroCells zu.cells (gc - (m + n))
    simp only [List.size_toArray, List.length_append, hol, hnv, Array.length_toList, this, hzs]
    rw [Nat.sub_mul, Nat.add_mul]
    have := Nat.mul_le_mul_right i.size hcapge
    rw [Nat.add_mul] at this
    omega
  have hle : (os ++ news).length ≤ cells.size := by
    rw [List.length_append, hosl, hnl, ← Nat.add_mul, hcsz]; exact Nat.mul_le_mul_right _ hcapge
  obtain ⟨s, hh'⟩ := push_obj (id := h0.length) (w' := w.drew.alloc (.cells cells et)) (ob := .cells cells et) (x := .cells (os ++ news)) hh rfl rfl tk rfl (.inr ⟨rfl, rfl⟩) (by simp) (fun K' s => by
    refine ⟨cells, et, (0, 0), heap_alloc_new w.drew _, hle, fun _ _ => by omega, fun j x hx => ?_⟩
    have hcg : ∀ q : Nat, cells[q]? = (olds ++ (nv ++ (Builtin.zeroCells zu.cells (gc - (m + n))).toList))[q]? := fun q => by rw [← hcells]; simp only [List.getElem?_toArray, List.append_assoc]
    rw [hcg, List.getElem?_append, hol]
    rw [List.getElem?_append, hosl] at hx
    split at hx
    · rename_i hj
      obtain ⟨l, u', hu', hV⟩ := hoV j x hx
      exact ⟨l, u', by rw [if_pos hj]; exact hu', hV.step s⟩
    · rename_i hj
      obtain ⟨l, u', hu', hV⟩ := hy _ x hx
      exact ⟨l, u', by rw [if_neg hj, List.getElem?_append_left (lt_of_get hu')]; exact hu', hV.step s⟩)
  exact ⟨_, _, _, hr, s, hh', .arr _ 0 (m + n) i.size w.heap.size gc 0 (by simp [GK.rhoAt]) hcapge (fun _ => rfl) ⟨cells, et, (0, 0), heap_alloc_new w.drew _, by omega⟩⟩

theorem arr_list {t u et ty : TypeId} {d : TypeDesc} {i : TypeInfo} {zu : Value} {n : Nat} {sv xv : Value} {news : List HV} {nv : List Value} (ht : P.underlying t = some (.slice et)) (hu : P.underlying u = some d) (hd : (∃ e, d = .slice e) ∨ d = .string)
    (hi : P.info? et = some i) (hzu : i.zero = some zu) (hzs : zu.cells.size = i.size) (hby0 : i.bytes ≠ 0) (hs' : V K w (.list [] .full) sv) (hx : Src P w i.size n xv nv) (hnl : news.length = n * i.size)
    (hy : ∀ (j : Nat) (y : HV), news[j]? = some y → y.leaf = true ∧ ∃ u, nv[j]? = some u ∧ V K w y u)
    (hfit : n * i.bytes ≤ 140737488355328) (hh : HeapRel K h w) : ArrOut P t u ty K w sv xv (h ++ [.cells news]) (.arr h.length 0 n i.size) := by
  have hsl : ∃ bs, sv = .slice bs 0 0 := by
    cases hs' with
    | nil _ _ => exact ⟨none, rfl⟩
    | list0 _ _ ad => exact ⟨some ad, rfl⟩
    | list _ _ b of cap sz' vals hw' hleaf hvv hc hlim hcap htk =>
      have : cap = 0 := htk
      subst this
      exact ⟨_, rfl⟩
  obtain ⟨bs, rfl⟩ := hsl
  by_cases hn : n = 0
  · subst hn
    have hnv : nv = [] := List.eq_nil_of_length_eq_zero (by rw [hx.size]; simp)
    have hnw : news = [] := List.eq_nil_of_length_eq_zero (by rw [hnl]; simp)
    subst hnv; subst hnw
    refine ⟨_, K, w, run_append_zero ht hu hd hi bs 0 0 (Nat.le_refl _) hx, .refl K w, heap_app hh [], ?_⟩
    cases bs with
    | none => exact .arrn _ _ _
    | some ad => exact .arr0 _ _ _ ad
  · have := arr_new (P := P) (K := K) (w := w) (ty := ty) (n := n) (m := 0) (cap := 0) (bs := bs) (os := []) (olds := []) (h0 := h) ht hu hd hi hzu hzs hby0 hx hnl hy (by omega) (fun w' _ => by
      cases bs with
      | none => simp [Builtin.firstCells]
      | some ad =>
        have := run_loadCells w' ad 0 (fun _ => (.bool false)) (P := P) (fun j hj => absurd hj (by omega))
        simpa [Builtin.firstCells] using this) (by simp) (by simp) (fun j y hj => by simp at hj) (by simpa using hfit) hh
    simpa using this

theorem arr_arr {t u et ty : TypeId} {d : TypeDesc} {i : TypeInfo} {zu : Value} {n m id : Nat} {sv xv : Value} {cs news : List HV} {nv : List Value} (ht : P.underlying t = some (.slice et)) (hu : P.underlying u = some d) (hd : (∃ e, d = .slice e) ∨ d = .string)
    (hi : P.info? et = some i) (hzu : i.zero = some zu) (hzs : zu.cells.size = i.size) (hby0 : i.bytes ≠ 0) (hs' : V K w (.arr id 0 m i.size) sv) (hc : h[id]? = some (.cells cs)) (hml : m * i.size ≤ cs.length) (hx : Src P w i.size n xv nv) (hnl : news.length = n * i.size)
    (hy : ∀ (j : Nat) (y : HV), news[j]? = some y → y.leaf = true ∧ ∃ u, nv[j]? = some u ∧ V K w y u)
    (hfit : (m + n) * i.bytes ≤ 140737488355328) (hh : HeapRel K h w) : ArrOut P t u ty K w sv xv (h.set id .dead ++ [.cells (cs.take (m * i.size) ++ news)]) (.arr h.length 0 (m + n) i.size) := by
  have hnv := hx.size
  have hdl : (h.set id HObj.dead).length = h.length := by simp
  -- a base without room
  have empty : ∀ bs : Option Addr, m = 0 → sv = .slice bs 0 0 → ArrOut P t u ty K w sv xv (h.set id .dead ++ [.cells (cs.take (m * i.size) ++ news)]) (.arr h.length 0 (m + n) i.size) := by
    rintro bs rfl rfl
    have := arr_list (P := P) (K := K) (w := w) (h := h.set id .dead) (t := t) (u := u) (ty := ty) (sv := .slice bs 0 0) ht hu hd hi hzu hzs hby0 (by
      cases bs with
      | none => exact .nil _ trivial
      | some ad => exact V.list0 _ (show TokNil K .full from trivial) ad) hx hnl hy (by simpa using hfit) (heap_dead hh hc)
    simpa using this
  cases hs' with
  | arrn => exact empty none rfl rfl
  | arr0 _ _ _ ad => exact empty (some ad) rfl rfl
  | arr _ _ _ _ b cap off' hr hcap hoff hroom =>
    by_cases hc0 : cap = 0
    · subst hc0
      obtain rfl : m = 0 := by omega
      exact empty _ rfl rfl
    · obtain rfl : off' = 0 := hoff (by omega)
      obtain ⟨hb1, o0, ho0, hok, hlim⟩ := hh.obj id b hr
      rw [hc] at ho0; injection ho0 with ho0; subst ho0
      have hlim := hlim trivial
      obtain ⟨c, et', fr, hb, hlen, hfr, hvs⟩ := hok
      obtain ⟨c2, et2, fr2, hb2, hrm⟩ := hroom
      rw [hb] at hb2; injection hb2 with hb2; injection hb2 with hb2 _ _; subst hb2
      simp only [Nat.zero_add] at hrm
      by_cases hgrow : cap < m + n
      · have := arr_new (P := P) (K := K) (w := w) (ty := ty) (n := n) (m := m) (cap := cap) (bs := some ⟨b, 0, none⟩) (os := cs.take (m * i.size)) (olds := c.toList.take (m * i.size)) (h0 := h.set id .dead) ht hu hd hi hzu hzs hby0 hx hnl hy hgrow (fun w' hw' => by
          simp only [Builtin.firstCells]
          have := run_loadCells w' ⟨b, 0, none⟩ (m * i.size) (fun j => (c[j]?).getD undef) (P := P) (fun j hj => by
            rw [Addr.add_lit, hw', cell_of_row w b _ c et' fr hb]
            simp only [Nat.zero_add]
            rw [Array.getElem?_eq_getElem (by omega)]; rfl)
          rw [this]
          congr 1
          apply Array.ext_getElem?
          intro q
          simp only [List.getElem?_toArray, List.getElem?_map, List.getElem?_range, List.getElem?_take, Array.getElem?_toList]
          by_cases hq : q < m * i.size
          · rw [if_pos hq]
            simp [hq, show q < c.size by omega]
          · rw [if_neg hq]
            simp [List.getElem?_eq_none (l := List.range (m * i.size)) (by simpa using Nat.le_of_not_lt hq)]) (by simp; omega) (by simp; omega) (fun j y hj => by
          rw [List.getElem?_take] at hj ⊢
          split at hj
          · rename_i hjm
            obtain ⟨l, v, h7, h8⟩ := hvs j y hj
            exact ⟨l, v, by rw [if_pos hjm]; simpa using h7, h8⟩
          · cases hj) hfit (heap_dead hh hc)
        simpa [hdl] using this
      · have hone : ∀ v ∈ nv, v.oneCell' = true := by
          intro v hv
          obtain ⟨q, hq⟩ := mem_get hv
          obtain ⟨y, hyq⟩ := get_of_lt (l := news) (j := q) (by rw [hnl, ← hnv]; exact lt_of_get hq)
          obtain ⟨l, u', hu', hV⟩ := hy q y hyq
          rw [hq] at hu'
          injection hu' with hu'
          subst hu'
          exact hV.oneCell l
        have hmn : m * i.size + n * i.size ≤ c.size := by
          have := Nat.mul_le_mul_right i.size (show m + n ≤ cap by omega)
          rw [Nat.add_mul] at this
          omega
        have hrun := run_storeCells_nofr (P := P) b (m * i.size) et' fr nv 0 c w hb hfr (by omega) hone
        simp only [Nat.add_zero] at hrun
        generalize hcur : (c.toList.take (m * i.size) ++ nv ++ c.toList.drop (m * i.size + nv.length)).toArray = cur at hrun
        have hcsz : cur.size = c.size := by rw [← hcur]; simp; omega
        have hcget : ∀ j, cur[j]? = if j < m * i.size then c[j]? else if j < m * i.size + nv.length then nv[j - m * i.size]? else c[j]? := by
          intro j
          rw [← hcur]
          simp only [List.getElem?_toArray]
          rw [seg_get _ _ _ _ (by simp; omega)]
          simp
        have hsame := setRow_heap w b c cur et' fr hb
        have hoth : ∀ q, q ≠ b → (w.setRow b cur).heap[q]? = w.heap[q]? := fun q hq => setRow_other w b q cur hq
        have hok : ∀ {K' : GK}, Step K w K' (w.setRow b cur) → ObjOk K' (w.setRow b cur) b (.cells (cs.take (m * i.size) ++ news)) := fun s => by
          refine ⟨cur, et', fr, hsame, by simp [hnl, hcsz]; omega, fun j hj => hfr j (by omega), fun j x hx => ?_⟩
          rw [List.getElem?_append, List.length_take, Nat.min_eq_left hml] at hx
          rw [hcget]
          split at hx
          · rename_i hj
            rw [List.getElem?_take, if_pos hj] at hx
            obtain ⟨l, v, h7, h8⟩ := hvs j x hx
            exact ⟨l, v, by rw [if_pos hj]; exact h7, h8.step s⟩
          · rename_i hj
            obtain ⟨l, v, h7, h8⟩ := hy _ x hx
            have := lt_of_get h7
            exact ⟨l, v, by rw [if_neg hj, if_pos (by omega)]; exact h7, h8.step s⟩
        have hheap : (w.setRow b cur).heap = w.heap.setIfInBounds b (.cells cur et' fr) := by
          apply Array.ext_getElem?
          intro q
          by_cases hq : q = b
          · subst hq; rw [hsame]; simp [hb1]
          · rw [hoth q hq]; simp [Ne.symm hq]
        obtain ⟨s1, hh1⟩ := set_obj (w' := w.setRow b cur) (new := .cells (cs.take (m * i.size) ++ news)) (ob := .cells cur et' fr) hh hr hc trivial trivial hheap rfl tk rfl (fun q hq => by
          obtain ⟨c', e', fr', hb', hn⟩ := hq
          rw [hb] at hb'; injection hb' with hb'; injection hb' with hb' _ _; subst hb'
          exact ⟨cur, et', fr, hsame, by omega⟩) hok
        have hc1 : (h.set id (HObj.cells (cs.take (m * i.size) ++ news)))[id]? = some (.cells (cs.take (m * i.size) ++ news)) := List.getElem?_set_self (lt_of_get hc)
        obtain ⟨s2, hh2⟩ := heap_rename hh1 hr hc1 (hok s1)
        have hst' : (storeCells ⟨b, 0 + m * i.size, none⟩ nv).run P w = .ok () (w.setRow b cur) := by rw [Nat.zero_add]; exact hrun
        have hrr := run_append_fits (P := P) (w := w) (ty := ty) ht hu hd hi b 0 m cap n (by omega) hx hst'
        refine ⟨_, _, _, hrr, s1.trans s2, by simpa using hh2, ?_⟩
        exact .arr _ 0 (m + n) i.size b cap 0 (by simp [GK.rhoAt]) (by omega) (fun _ => rfl) ⟨cur, et', fr, hsame, by omega⟩

theorem src_any {sz : Nat} {y : HV} {v : Value} (hv : V K w y v) (hok : srcOk sz h y) (hh : HeapRel K h w) :
    ∃ nv, Src P w sz (srcLen y) v nv ∧ (srcCells h y).length = srcLen y * sz ∧ ∀ (j : Nat) (x : HV), (srcCells h y)[j]? = some x → x.leaf = true ∧ ∃ u, nv[j]? = some u ∧ V K w x u := by
  cases y with
  | list ys tok =>
    obtain ⟨news, hsrc, hy⟩ := src_list (P := P) hv (fun y hy => (hok y hy).1)
    refine ⟨news, hsrc, ?_, fun j y hjy => ?_⟩
    · show (flat (ys.map HV.strip1)).length = _
      rw [flat_length (sz := sz) (fun x hx => by
        obtain ⟨y, hy, rfl⟩ := List.mem_map.1 hx
        rw [strip1_cells]; exact (hok y hy).1)]
      simp [srcLen]
    · obtain ⟨y0, h2, h3, h4⟩ := flat_strip1 (fun x hx => (hok x hx).2) j y hjy
      obtain ⟨l, u', hu', hV⟩ := hy j y0 h2
      exact ⟨by rw [h3]; exact l, u', hu', h4 _ _ _ hV⟩
  | str s =>
    obtain rfl : sz = 1 := hok
    cases hv
    refine ⟨s.map fun c => .int .u8 c.toNat, src_str s, by simp [srcCells, srcLen, bytesOf], fun j y hjy => ?_⟩
    simp only [srcCells, bytesOf, List.getElem?_map, Option.map_eq_some_iff] at hjy
    obtain ⟨c, hc, rfl⟩ := hjy
    exact ⟨rfl, .int .u8 c.toNat, by simp [hc], .int _ _⟩
  | arr id off n z =>
    obtain ⟨rfl, cs, hcs, hl⟩ := hok
    have hget : srcCells h (.arr id off n z) = (cs.drop off).take (n * z) := by simp [srcCells, hcs]
    rw [hget]
    have hlen : ((cs.drop off).take (n * z)).length = n * z := by simp; omega
    cases hv with
    | arrn => exact ⟨[], ⟨fun w' => by simp [Builtin.lenOf, srcLen], fun w' _ => by simp [Builtin.firstCells, srcLen], by simp [srcLen]⟩, by simp [srcLen], fun j x hx => by simp at hx⟩
    | arr0 _ _ _ ad =>
      refine ⟨[], ⟨fun w' => by simp [Builtin.lenOf, srcLen], fun w' _ => ?_, by simp [srcLen]⟩, by simp [srcLen], fun j x hx => by simp at hx⟩
      have := run_loadCells w' ad 0 (fun _ => (.bool false)) (P := P) (fun j hj => absurd hj (by omega))
      simpa [Builtin.firstCells, srcLen] using this
    | arr _ _ _ _ b cap off' hr hcap hoff hroom =>
      obtain ⟨c, et', fr, hb, hlen2, _, hvs⟩ := heap_cells hh hr hcs
      refine ⟨(List.range (n * z)).map fun j => (c[off + j]?).getD undef, ⟨fun w' => by simp [Builtin.lenOf, srcLen], fun w' hw' => ?_, by simp [srcLen]⟩, hlen, fun j x hx => ?_⟩
      · simp only [Builtin.firstCells, srcLen]
        by_cases hn0 : n = 0
        · subst hn0
          have := run_loadCells w' ⟨b, off', none⟩ 0 (fun _ => (.bool false)) (P := P) (fun j hj => absurd hj (by omega))
          simpa using this
        · obtain rfl : off' = off := hoff (by omega)
          exact run_loadCells w' ⟨b, off', none⟩ _ (fun j => (c[off' + j]?).getD undef) (fun j hj => by
            rw [Addr.add_lit, hw', cell_of_row w b _ c et' fr hb]
            rw [Array.getElem?_eq_getElem (by omega)]; rfl)
      · have hj : j < n * z := by rw [← hlen]; exact lt_of_get hx
        rw [List.getElem?_take, if_pos hj, List.getElem?_drop] at hx
        obtain ⟨l, v, h7, h8⟩ := hvs _ x hx
        exact ⟨l, v, by simp [hj, h7], h8⟩
  | _ => exact hok.elim

theorem ok_appendarr {t u et : TypeId} {d : TypeDesc} {sz by_ : Nat} {z : HV} {ts : Array TypeId} {s x : Operand} {s' x' : X} (ho : o.op = .call { callee := .builtin .append, args := #[s, x], argTypes := ts }) (h0 : ts[0]? = some t) (h1 : ts[1]? = some u)
    (ht : P.underlying t = some (.slice et)) (hu : P.underlying u = some d) (hd : (∃ e, d = .slice e) ∨ d = .string)
    (hsz : tsize P et = some sz) (hby : tbytes P et = some by_) (hz : tzero P et = some z) (hzl : z.cells.length = sz) (hsz0 : sz ≠ 0) (hby0 : by_ ≠ 0) (hs : cX s = some s') (hx : cX x = some x')
    (hst : hstep base (.appendarr sz by_ s' x') e h k) (hh : HeapRel K h w) (he : EnvRel K w e a.tmps) : Ok P o a K w k := by
  obtain ⟨cs, hrun⟩ := run_builtin (P := P) (w := w) (a := a) ho
  have hts : ∀ args, Builtin.append_ ts o.type args = Builtin.append_ #[t, u] o.type args := fun args => by simp [Builtin.append_, h0, h1]
  have fin : ∀ {y h'}, ArrOut P t u o.type K w (a.eval s) (a.eval x) h' y → k y h' → Ok P o a K w k := by
    rintro y h' ⟨v, K', w', hr, hs', hh', hV⟩ hk
    refine ⟨y, v, K', w', h', .inl ?_, hs', hh', hV, hk⟩
    rw [hrun]
    have : (#[s, x] : Array Operand).map a.eval = #[a.eval s, a.eval x] := by simp
    simp only [builtin, this, hts, Sem.run_bind, hr, Result.andThen_ok, Sem.run_pure]
  obtain ⟨i, zu, hi, hzu, hzc⟩ := tzero_info hz
  have hisz : i.size = sz := by simp [tsize, hi] at hsz; exact hsz
  have hiby : i.bytes = by_ := by simp [tbytes, hi] at hby; exact hby
  have hzus : zu.cells.size = sz := by rw [← ((V_hconst (K := K) (w := w) hzc).cells (hconst_tuple hzc)).1]; exact hzl
  subst hisz; subst hiby
  simp only [hstep] at hst
  split at hst
  · rename_i bv y hev1 hev2
    have hs' := ev_sound hs he hev1
    have hx' := ev_sound hx he hev2
    obtain ⟨hok, hst⟩ := hst
    obtain ⟨nv, hsrc, hnl, hy⟩ := src_any (P := P) hx' hok hh
    split at hst
    · exact fin (arr_list ht hu hd hi hzu hzus hby0 hs' hsrc hnl hy hst.1 hh) hst.2
    · rename_i id m z'
      split at hst
      · rename_i cs' hcs
        obtain ⟨⟨rfl, hml, hfit⟩, hk⟩ := hst
        have hc : h[id]? = some (.cells cs') := by
          unfold Heap.cells at hcs
          split at hcs
          · rename_i hg; injection hcs with hcs; subst hcs; exact hg
          · cases hcs
        exact fin (arr_arr ht hu hd hi hzu hzus hby0 hs' hc hml hsrc hnl hy hfit hh) hk
      · exact hst.elim
    · exact hst.elim
  · exact hst.elim
theorem ok_clear {t et : TypeId} {sz : Nat} {z : HV} {ts : Array TypeId} {x : Operand} {x' : X} (ho : o.op = .call { callee := .builtin .clear, args := #[x], argTypes := ts }) (h0 : ts[0]? = some t)
    (ht : P.underlying t = some (.slice et)) (hsz : tsize P et = some sz) (hz : tzero P et = some z) (hx : cX x = some x')
    (hst : hstep base (.clear sz (z.cells.map HV.strip1) x') e h k) (hh : HeapRel K h w) (he : EnvRel K w e a.tmps) : Ok P o a K w k := by
  obtain ⟨cs0, hrun⟩ := run_builtin (P := P) (w := w) (a := a) ho
  simp only [hstep] at hst
  split at hst
  · rename_i id off n q hev
    split at hst
    · rename_i cs hcs
      obtain ⟨⟨rfl, hzl, hroom⟩, hk⟩ := hst
      have hx' := ev_sound hx he hev
      have hc : h[id]? = some (.cells cs) := by
        unfold Heap.cells at hcs
        split at hcs
        · rename_i hg; injection hcs with hcs; subst hcs; exact hg
        · cases hcs
      have hargs : (#[x] : Array Operand).map a.eval = #[a.eval x] := by simp
      obtain ⟨i, zu, hi, hzu, hzc⟩ := tzero_info hz
      have hzus : zu.cells.size = q := by rw [← ((V_hconst (K := K) (w := w) hzc).cells (hconst_tuple hzc)).1]; simpa using hzl
      have same : h.set id (.cells (putAt cs off [])) = h := by
        have : putAt cs off [] = cs := by simp [putAt]
        rw [this]
        obtain ⟨hlt, he2⟩ := List.getElem?_eq_some_iff.1 hc
        rw [← he2]; exact List.set_getElem_self hlt
      have nil : n = 0 → (Builtin.clear_ ts o.type #[a.eval x]).run P w = .ok (.tuple #[]) w → Ok P o a K w k := fun hn hr => by
        subst hn
        refine ⟨.tuple [], .tuple #[], K, w, h, .inl ?_, .refl K w, hh, V.tuple [] [] rfl (fun j h v hh => by simp at hh), by simpa [same] using hk⟩
        rw [hrun, hargs]
        simp only [builtin, Sem.run_bind, hr, Result.andThen_ok, Sem.run_pure]
      generalize hev' : a.eval x = xv at hx' hargs nil
      cases hx' with
      | arrn => exact nil rfl (by simp [Builtin.clear_, h0, run_underlying ht])
      | arr0 => exact nil rfl (by simp [Builtin.clear_, h0, run_underlying ht])
      | arr _ _ _ _ b cap off' hr hcap hoff hrm =>
        by_cases hn : n = 0
        · exact nil hn (by subst hn; simp [Builtin.clear_, h0, run_underlying ht])
        · obtain rfl := hoff (by omega)
          obtain ⟨c1, c2, c3⟩ := (V_hconst (K := K) (w := w) hzc).cells (hconst_tuple hzc)
          have hzsz := size_zeroCells zu.cells n
          have hzl' : z.cells.length = q := by simpa using hzl
          have hfl : ((List.replicate n (z.cells.map HV.strip1)).flatten).length = n * q := by simp [hzl']
          obtain ⟨w', hrun2, s, hh'⟩ := put_row (P := P) (K := K) (w := w) (off := off') (vs := (List.replicate n (z.cells.map HV.strip1)).flatten) (us := (Builtin.zeroCells zu.cells n).toList) hh hr hc
            (by simp only [Array.length_toList]; rw [hfl, hzsz, hzus]) (by rw [hfl]; exact hroom)
            (fun v hv => by
              obtain ⟨l, hl, hv⟩ := List.mem_flatten.1 hv
              obtain rfl := (List.mem_replicate.1 hl).2
              obtain ⟨y, hy, rfl⟩ := List.mem_map.1 hv
              have := c2 y hy
              cases y <;> simp_all [HV.leaf, HV.strip1])
            (fun j v u hv hu => by
              have hj : j < n * q := by rw [← hfl]; exact lt_of_get hv
              rw [rep_get _ _ _ (by rw [hzl]; exact hj), hzl, List.getElem?_map] at hv
              obtain ⟨y, hy, rfl⟩ := Option.map_eq_some_iff.1 hv
              have hlt := lt_of_get hy
              refine (c3 _ y _ hy ?_).strip1
              simp only [Builtin.zeroCells, Array.toList_map, Array.toList_range, List.getElem?_map, List.getElem?_range, hzus] at hu
              rw [List.getElem?_range hj] at hu
              simp only [Option.map_some, Option.some.injEq] at hu
              rw [← hu, getElem!_pos zu.cells (j % q) (by omega)]
              simp)
          refine ⟨.tuple [], .tuple #[], K, w', _, .inl ?_, s, hh', V.tuple [] [] rfl (fun j h v hh => by simp at hh), hk⟩
          rw [hrun]
          obtain ⟨m, rfl⟩ : ∃ m, n = m + 1 := ⟨n - 1, by omega⟩
          simp [builtin, hargs, Builtin.clear_, h0, run_underlying ht, run_zeroValue hi hzu, hrun2]
    · exact hst.elim
  · exact hst.elim
end
end Go.Hw

set_option linter.unusedVariables false
set_option linter.unusedSimpArgs false
namespace Go.Hw
open Go

variable {P : Program}

theorem bind_some {α β : Type} {x : Option α} {f : α → Option β} {y : β} (h : x.bind f = some y) : ∃ z, x = some z ∧ f z = some y := Option.bind_eq_some_iff.1 h

section
variable {o : Oper} {a : Act} {K : GK} {w : World} {k : HV → Heap → Prop} {e : Env} {h : Heap} (base : Nat)

theorem sound_slice {t : TypeId} {x : Operand} {lo hi mx : Option Operand} {r : Option Nat} {m : Bool} {ho : O} (hop : o.op = .slice t x lo hi mx) (hc : cOp P r m o = some (.op ho)) (hs : hstep base ho e h k) (hh : HeapRel K h w) (he : EnvRel K w e a.tmps) : Ok P o a K w k := by
  simp only [cOp, hop, Option.map_eq_some_iff, Option.bind_eq_bind, OC.op.injEq, exists_eq_right] at hc
  split at hc
  · rename_i n et ht
    split at hc
    · obtain ⟨sz, h1, hc⟩ := bind_some hc
      obtain ⟨y, h2, hc⟩ := bind_some hc
      obtain ⟨lo', h3, hc⟩ := bind_some hc
      obtain ⟨hi', h4, hc⟩ := bind_some hc
      injection hc with hc
      subst hc
      exact ok_slicearr base hop ht h1 h2 h3 h4 hs hh he
    · cases hc
  · rename_i ht
    split at hc
    · obtain ⟨y, h2, hc⟩ := bind_some hc
      obtain ⟨lo', h3, hc⟩ := bind_some hc
      obtain ⟨hi', h4, hc⟩ := bind_some hc
      injection hc with hc
      subst hc
      simp only [hstep] at hs
      split at hs
      · rename_i s hev
        split at hs
        · rename_i p q hp hq
          exact ok_slice_str hop ht h2 h3 h4 hev hp hq hs.1 hs.2 hh he
        · exact hs.elim
      · exact hs.elim
    · cases hc
  · rename_i et ht
    obtain ⟨sz, h1, hc⟩ := bind_some hc
    obtain ⟨y, h2, hc⟩ := bind_some hc
    obtain ⟨lo', h3, hc⟩ := bind_some hc
    obtain ⟨hi', h4, hc⟩ := bind_some hc
    obtain ⟨mx', h5, hc⟩ := bind_some hc
    injection hc with hc
    subst hc
    simp only [hstep] at hs
    split at hs
    · rename_i l tok hev
      cases mx with
      | none =>
        simp [cOpt] at h5
        subst h5
        dsimp only at hs
        split at hs
        · rename_i p q hp hq
          exact ok_slice_list hop ht h1 h2 h3 h4 hev hp hq hs.1 hs.2 hh he
        · exact hs.elim
      | some m0 =>
        simp only [cOpt, Option.map_eq_some_iff] at h5
        obtain ⟨m', h5, rfl⟩ := h5
        dsimp only at hs
        split at hs
        · rename_i p q c hp hq hcc
          cases hi with
          | none =>
            simp [cOpt] at h4
            subst h4
            simp at hq
          | some hi0 =>
            simp only [cOpt, Option.map_eq_some_iff] at h4
            obtain ⟨hi', h4, rfl⟩ := h4
            exact ok_slice_list3 hop ht h1 h2 h3 h4 h5 hev hp (by simpa using hq) hcc hs.1 hs.2 hh he
        · exact hs.elim
    · rename_i id off n z hev
      cases mx with
      | none =>
        simp [cOpt] at h5
        subst h5
        dsimp only at hs
        split at hs
        · rename_i p q hp hq
          exact ok_slice_arr hop ht h1 h2 h3 h4 hev hp hq hs.1 hs.2 hh he
        · exact hs.elim
      | some m0 =>
        simp only [cOpt, Option.map_eq_some_iff] at h5
        obtain ⟨m', h5, rfl⟩ := h5
        exact hs.elim
    · exact hs.elim
  · cases hc

theorem sound_builtin {b : Builtin} {args : Array Operand} {ts : Array TypeId} {ys : List X} {t0 : TypeId} {m : Bool} {ho : O} (hop : o.op = .call { callee := .builtin b, args := args, argTypes := ts }) (hys : args.toList.mapM cX = some ys) (ht0 : ts[0]? = some t0)
    (hc0 : cBuiltin P m b ys ts = some ho) (hs : hstep base ho e h k) (hh : HeapRel K h w) (he : EnvRel K w e a.tmps) : Ok P o a K w k := by
    unfold cBuiltin at hc0
    obtain ⟨t0', ht0', hc⟩ := bind_some hc0
    clear hc0
    rw [ht0] at ht0'
    injection ht0' with ht0'
    subst ht0'
    have one : ∀ {y : X}, ys = [y] → ∃ x, args = #[x] ∧ cX x = some y := by
      intro y hy
      subst hy
      cases hl : args.toList with
      | nil => rw [hl] at hys; simp at hys
      | cons x r =>
        rw [hl] at hys
        obtain ⟨h1, h2⟩ := mapM_some hys
        cases r with
        | nil => exact ⟨x, by apply Array.ext'; simpa using hl, h2 0 x y rfl rfl⟩
        | cons _ _ => simp at h1
    have two : ∀ {y z : X}, ys = [y, z] → ∃ x u, args = #[x, u] ∧ cX x = some y ∧ cX u = some z := by
      intro y z hy
      subst hy
      cases hl : args.toList with
      | nil => rw [hl] at hys; simp at hys
      | cons x r =>
        rw [hl] at hys
        obtain ⟨h1, h2⟩ := mapM_some hys
        cases r with
        | nil => simp at h1
        | cons u r =>
          cases r with
          | nil => exact ⟨x, u, by apply Array.ext'; simpa using hl, h2 0 x y rfl rfl, h2 1 u z rfl rfl⟩
          | cons _ _ => simp at h1
    split at hc
    · -- len
      rename_i y
      obtain ⟨x, rfl, hx⟩ := one rfl
      split at hc
      · injection hc with hc; subst hc
        exact ok_len_str base hop ht0 (by assumption) hx hs hh he
      · injection hc with hc; subst hc
        exact ok_len_list base hop ht0 (by assumption) hx hs hh he
      · injection hc with hc; subst hc
        exact ok_maplen base hop ht0 (by assumption) hx hs hh he
      · injection hc with hc; subst hc
        exact ok_lenc base hop ht0 (.inl ⟨_, by assumption⟩) hs hh he
      · rename_i ar har
        split at hc
        · injection hc with hc; subst hc
          exact ok_lenc base hop ht0 (.inr ⟨_, _, har, by assumption⟩) hs hh he
        · cases hc
      · cases hc
    · -- append
      rename_i y z
      obtain ⟨x, u, rfl, hx, hu⟩ := two rfl
      obtain ⟨t1, ht1, hc⟩ := bind_some hc
      split at hc
      · rename_i et het
        obtain ⟨sz, h1, hc⟩ := bind_some hc
        obtain ⟨by_, h2, hc⟩ := bind_some hc
        obtain ⟨zz, h3, hc⟩ := bind_some hc
        split at hc
        all_goals first
          | (cases hc; done)
          | (rename_i hu1
             split at hc
             · cases hc
             · rename_i hcond
               simp only [Bool.or_eq_true, beq_iff_eq, bne_iff_ne, ne_eq, not_or, Decidable.not_not] at hcond
               split at hc
               · injection hc with hc; subst hc
                 exact ok_appendarr base hop ht0 ht1 het hu1 (by first | exact .inl ⟨_, rfl⟩ | exact .inr rfl) h1 h2 h3 hcond.2 hcond.1.1 hcond.1.2 hx hu hs hh he
               · injection hc with hc; subst hc
                 exact ok_append base hop ht0 ht1 het hu1 (by first | exact .inl ⟨_, rfl⟩ | exact .inr rfl) h1 h2 h3 hcond.2 hcond.1.1 hcond.1.2 hx hu hs hh he)
      · cases hc
    · -- copy
      split at hc
      · obtain ⟨sz, h1, hc⟩ := bind_some hc
        injection hc with hc; subst hc; exact hs.elim
      · cases hc
    · -- delete
      rename_i y z
      obtain ⟨x, u, rfl, hx, hu⟩ := two rfl
      split at hc
      · rename_i kt et hkt
        obtain ⟨kd, hkd, rfl⟩ := Option.map_eq_some_iff.1 hc
        exact ok_mapdel base hop ht0 hkt hkd hx hu hs hh he
      · cases hc
    · -- clear
      rename_i y
      obtain ⟨x, rfl, hx⟩ := one rfl
      split at hc
      · rename_i et het
        obtain ⟨sz, h1, hc⟩ := bind_some hc
        obtain ⟨z, h2, hc⟩ := bind_some hc
        injection hc with hc; subst hc
        exact ok_clear base hop ht0 het h1 h2 hx hs hh he
      · cases hc
    · injection hc with hc; subst hc
      exact ok_minmax (isMax := false) base hop hys (by simpa using hs) hh he
    · injection hc with hc; subst hc
      exact ok_minmax (isMax := true) base hop hys (by simpa using hs) hh he
    · cases hc

theorem sound_call {c : Call} {m : Bool} {ho : O} (hop : o.op = .call c) (hc : cCall P m c = some (.op ho)) (hs : hstep base ho e h k) (hh : HeapRel K h w) (he : EnvRel K w e a.tmps) : Ok P o a K w k := by
  obtain ⟨callee, args, ts⟩ := c
  unfold cCall at hc
  split at hc
  · rename_i b heq
    simp only at heq
    subst heq
    simp only [Option.map_eq_some_iff, OC.op.injEq, exists_eq_right, Option.bind_eq_bind] at hc
    obtain ⟨ys, hys, hc⟩ := bind_some hc
    have hc' := hc
    unfold cBuiltin at hc'
    obtain ⟨t0, ht0, _⟩ := bind_some hc'
    exact sound_builtin base hop hys ht0 hc hs hh he
  · obtain ⟨ys, hys, hc⟩ := bind_some hc
    cases hc
  · obtain ⟨f', hf, hc⟩ := bind_some hc
    obtain ⟨ys, hys, hc⟩ := bind_some hc
    cases hc
  · cases hc

theorem op_sound {r : Option Nat} {m : Bool} {ho : O} (hc : cOp P r m o = some (.op ho)) (hs : hstep base ho e h k) (hh : HeapRel K h w) (he : EnvRel K w e a.tmps) : Ok P o a K w k := by
  cases hop : o.op
  case slice t x lo hi mx => exact sound_slice base hop hc hs hh he
  all_goals simp only [cOp, hop, Option.map_eq_some_iff, Option.bind_eq_some_iff, Option.bind_eq_bind, Option.pure_def, OC.op.injEq, exists_eq_right, Option.some.injEq, reduceCtorEq] at hc
  case move x => obtain ⟨y, h1, rfl⟩ := hc; exact ok_mv base (.inl hop) h1 hs hh he
  case assign x => obtain ⟨y, h1, rfl⟩ := hc; exact ok_mv base (.inr hop) h1 hs hh he
  case pick c x y => obtain ⟨c', h1, x', h2, y', h3, rfl⟩ := hc; exact ok_pick base hop h1 h2 h3 hs hh he
  case alloc t =>
    split at hc
    · rename_i hb
      injection hc with hc; subst hc
      cases hz : tzero P t with
      | none => simp [hz, isBld] at hb
      | some z =>
        simp only [hz, Option.getD_some, Bool.and_eq_true] at hb
        exact ok_bldnew base hop hz hb.2 hs hh he
    · obtain ⟨z, h1, hc⟩ := bind_some hc
      injection hc with hc; subst hc
      exact ok_alloc base hop h1 hs hh he
  case box t x => obtain ⟨n, h1, y, h2, rfl⟩ := hc; exact ok_box base hop h1 h2 hs hh he
  case build t parts =>
    obtain ⟨z, h1, hc⟩ := hc
    split at hc
    · rename_i fs hfs
      obtain ⟨ns, h0, hc⟩ := bind_some hc
      obtain ⟨ps, h2, hc⟩ := bind_some hc
      injection hc with hc; subst hc
      exact ok_build_struct base hop h1 hfs h0 h2 hs hh he
    · rename_i n et het
      obtain ⟨sz, h3, hc⟩ := bind_some hc
      obtain ⟨ps, h2, hc⟩ := bind_some hc
      injection hc with hc; subst hc
      exact ok_build_array base hop h1 het h3 h2 hs hh he
    · cases hc
  case buildSlice t len parts =>
    split at hc
    · rename_i et het
      obtain ⟨n, h1, hc⟩ := bind_some hc
      obtain ⟨z, h2, hc⟩ := bind_some hc
      obtain ⟨xs, h3, hc⟩ := bind_some hc
      split at hc
      · rename_i hcond
        simp only [Bool.and_eq_true, bne_iff_ne, ne_eq, beq_iff_eq, decide_eq_true_eq] at hcond
        injection hc with hc
        split at hc
        · subst hc
          exact ok_mkarr base hop het h1 hcond.1.1.1 h2 hcond.1.1.2 h3 hcond.1.2 hcond.2 hs hh he
        · subst hc
          exact ok_mklist base hop het h1 hcond.1.1.1 h2 hcond.1.1.2 h3 hcond.1.2 hcond.2 hs hh he
      · cases hc
    · cases hc
  case insert t mp key v =>
    split at hc
    · rename_i kt et hkt
      obtain ⟨kd, hkd, hc⟩ := bind_some hc
      obtain ⟨m', h1, hc⟩ := bind_some hc
      obtain ⟨k', h2, hc⟩ := bind_some hc
      obtain ⟨v', h3, hc⟩ := bind_some hc
      injection hc with hc; subst hc
      exact ok_mapset base (.inr hop) hkt hkd h1 h2 h3 hs hh he
    · cases hc
  case mapUpdate t mp key v =>
    split at hc
    · rename_i kt et hkt
      obtain ⟨kd, hkd, hc⟩ := bind_some hc
      obtain ⟨m', h1, hc⟩ := bind_some hc
      obtain ⟨k', h2, hc⟩ := bind_some hc
      obtain ⟨v', h3, hc⟩ := bind_some hc
      injection hc with hc; subst hc
      exact ok_mapset base (.inl hop) hkt hkd h1 h2 h3 hs hh he
    · cases hc
  case load t x => obtain ⟨n, h1, y, h2, rfl⟩ := hc; exact ok_load base hop h1 h2 hs hh he
  case store t x v => obtain ⟨n, h1, y, h2, z, h3, rfl⟩ := hc; exact ok_store base hop h1 h2 h3 hs hh he
  case nilCheck x => obtain ⟨y, h1, rfl⟩ := hc; exact ok_nilck base hop h1 hs hh he
  case binOp op t x y yt =>
    unfold cBin at hc
    split at hc
    · split at hc
      · rename_i ms _ ht
        obtain ⟨y', h1, rfl⟩ := Option.map_eq_some_iff.1 hc
        exact ok_isnil (neg := false) base hop ht h1 hs hh he
      · obtain ⟨kd, h1, hc⟩ := bind_some hc
        obtain ⟨x', h2, hc⟩ := bind_some hc
        obtain ⟨y', h3, hc⟩ := bind_some hc
        injection hc with hc; subst hc
        by_cases hag : ∃ n, kd = .agg n
        · obtain ⟨n, rfl⟩ := hag
          exact ok_eqagg (neg := false) base hop h1 h2 h3 hs hh he
        · exact ok_eqv (neg := false) base hop h1 (fun n hn => hag ⟨n, hn⟩) h2 h3 hs hh he
    · split at hc
      · rename_i ms _ ht
        obtain ⟨y', h1, rfl⟩ := Option.map_eq_some_iff.1 hc
        exact ok_isnil (neg := true) base hop ht h1 hs hh he
      · obtain ⟨kd, h1, hc⟩ := bind_some hc
        obtain ⟨x', h2, hc⟩ := bind_some hc
        obtain ⟨y', h3, hc⟩ := bind_some hc
        injection hc with hc; subst hc
        by_cases hag : ∃ n, kd = .agg n
        · obtain ⟨n, rfl⟩ := hag
          exact ok_eqagg (neg := true) base hop h1 h2 h3 hs hh he
        · exact ok_eqv (neg := true) base hop h1 (fun n hn => hag ⟨n, hn⟩) h2 h3 hs hh he
    · rename_i hne1 hne2
      obtain ⟨x', h2, hc⟩ := bind_some hc
      obtain ⟨y', h3, hc⟩ := bind_some hc
      injection hc with hc; subst hc
      exact ok_bin base (fun h => hne1 h) (fun h => hne2 h) hop h2 h3 hs hh he
  case unOp op t x => obtain ⟨y, h1, rfl⟩ := hc; exact ok_un base hop h1 hs hh he
  case convert src dst x =>
    unfold cConv at hc
    obtain ⟨y, h1, hc⟩ := bind_some hc
    split at hc
    · injection hc with hc; subst hc
      exact ok_conv_int base hop (by assumption) (by assumption) h1 hs hh he
    · injection hc with hc; subst hc
      exact ok_conv_same base hop (by assumption) (by assumption) h1 hs hh he
    · rename_i et hs1 hd1
      split at hc
      · rename_i hm
        injection hc with hc; subst hc
        have hu8 : P.underlying et = some (.int .u8) := by
          cases hq : P.underlying et with
          | none => simp [hq] at hm
          | some d =>
            cases d with
            | int kk => cases kk <;> simp [hq] at hm; rfl
            | _ => simp [hq] at hm
        exact ok_toBytes base hop hs1 hd1 hu8 h1 hs hh he
      · cases hc
    · rename_i et hs1 hd1
      split at hc
      · rename_i hm
        injection hc with hc; subst hc
        have hu8 : P.underlying et = some (.int .u8) := by
          cases hq : P.underlying et with
          | none => simp [hq] at hm
          | some d =>
            cases d with
            | int kk => cases kk <;> simp [hq] at hm; rfl
            | _ => simp [hq] at hm
        exact ok_conv_ofBytes base hop hs1 hu8 hd1 h1 hs hh he
      · cases hc
    · rename_i et0 et hs1 hd1
      have hu8 : P.underlying et = some (.int .u8) := by
        cases hq : P.underlying et with
        | none => simp [hq] at hc
        | some d =>
          cases d with
          | int kk => cases kk <;> simp [hq] at hc; rfl
          | _ => simp [hq] at hc
      simp only [hu8, if_true] at hc
      by_cases hm1 : src = dst
      · rw [if_pos hm1] at hc
        injection hc with hc; subst hc
        exact ok_mark base hop hm1 hd1 hu8 h1 hs hh he
      · rw [if_neg hm1] at hc; cases hc
    · cases hc
  case makeFunc fn first caps =>
    unfold cMkFunc at hc
    split at hc
    · split at hc
      · rename_i hf
        obtain ⟨ys, h1, hc⟩ := bind_some hc
        injection hc with hc; subst hc
        exact ok_mkfunc base hop (by simpa using hf) h1 hs hh he
      · cases hc
    · cases hc
  case makeMap t hint =>
    split at hc
    · injection hc with hc; subst hc
      exact ok_mkmap base hop hs hh he
    · cases hc
  case makeSlice t l c =>
    split at hc
    · rename_i et het
      obtain ⟨sz, h1, hc⟩ := bind_some hc
      split at hc
      · cases hc
      · rename_i hsz0
        obtain ⟨by_, h2, hc⟩ := bind_some hc
        obtain ⟨z, h3, hc⟩ := bind_some hc
        obtain ⟨l', h4, hc⟩ := bind_some hc
        obtain ⟨c', h5, hc⟩ := bind_some hc
        injection hc with hc; subst hc
        exact ok_mkslice base (by unfold mkz; split; exact .inl rfl; exact .inr rfl) hop het h1 h2 h3 (by simpa using hsz0) h4 h5 hs hh he
    · cases hc
  case fieldAddr t x i =>
    split at hc
    · rename_i fs hfs
      obtain ⟨f, h1, hc⟩ := bind_some hc
      obtain ⟨n, h2, hc⟩ := bind_some hc
      split at hc
      · cases hc
      · rename_i hn0
        obtain ⟨y, h3, hc⟩ := bind_some hc
        injection hc with hc; subst hc
        exact ok_faddr base hop hfs h1 h2 (by simpa using hn0) h3 hs hh he
    · cases hc
  case field t x i =>
    split at hc
    · rename_i fs hfs
      obtain ⟨f, h1, hc⟩ := bind_some hc
      obtain ⟨n, h2, hc⟩ := bind_some hc
      obtain ⟨y, h3, hc⟩ := bind_some hc
      injection hc with hc; subst hc
      exact ok_field base hop hfs h1 h2 h3 hs hh he
    · cases hc
  case indexAddr t x i =>
    split at hc
    · rename_i et het
      obtain ⟨n, h1, hc⟩ := bind_some hc
      obtain ⟨x', h2, hc⟩ := bind_some hc
      obtain ⟨i', h3, hc⟩ := bind_some hc
      injection hc with hc; subst hc
      exact ok_iaddr base hop het h1 h2 h3 hs hh he
    · rename_i m' et het
      split at hc
      · cases hc
      · obtain ⟨n, h1, hc⟩ := bind_some hc
        obtain ⟨x', h2, hc⟩ := bind_some hc
        obtain ⟨i', h3, hc⟩ := bind_some hc
        injection hc with hc; subst hc
        exact ok_iaddrarr base hop het h1 h2 h3 hs hh he
    · cases hc
  case index t x i =>
    split at hc
    · rename_i het
      obtain ⟨x', h2, hc⟩ := bind_some hc
      obtain ⟨i', h3, hc⟩ := bind_some hc
      injection hc with hc; subst hc
      exact ok_index base hop het h2 h3 hs hh he
    · rename_i m' et het
      obtain ⟨n, h1, hc⟩ := bind_some hc
      obtain ⟨ag, h4, hc⟩ := bind_some hc
      obtain ⟨x', h2, hc⟩ := bind_some hc
      obtain ⟨i', h3, hc⟩ := bind_some hc
      injection hc with hc; subst hc
      exact ok_indexarr base hop het h1 h4 h2 h3 hs hh he
    · cases hc
  case lookup t x i ok =>
    split at hc
    · rename_i kt et hkt
      obtain ⟨kd, hkd, hc⟩ := bind_some hc
      obtain ⟨z, h1, hc⟩ := bind_some hc
      obtain ⟨x', h2, hc⟩ := bind_some hc
      obtain ⟨i', h3, hc⟩ := bind_some hc
      injection hc with hc; subst hc
      exact ok_lookup base hop hkt hkd h1 h2 h3 hs hh he
    · cases hc
  case mapEntry t mp key =>
    split at hc
    · rename_i kt et hkt
      obtain ⟨kd, hkd, hc⟩ := bind_some hc
      obtain ⟨z, h1, hc⟩ := bind_some hc
      obtain ⟨x', h2, hc⟩ := bind_some hc
      obtain ⟨i', h3, hc⟩ := bind_some hc
      injection hc with hc; subst hc
      exact ok_mapentry base hop hkt hkd h1 h2 h3 hs hh he
    · cases hc
  case entryStore t mp st v => obtain ⟨m', h1, s', h2, v', h3, rfl⟩ := hc; exact ok_entryset base hop h1 h2 h3 hs hh he
  case range t x =>
    split at hc
    · rename_i ht
      obtain ⟨y, h1, hc⟩ := bind_some hc
      injection hc with hc; subst hc
      exact ok_range base hop (by simpa using ht) h1 hs hh he
    · rename_i kt et ht
      obtain ⟨y, h1, hc⟩ := bind_some hc
      injection hc with hc; subst hc
      exact ok_range base hop (by simpa using ⟨kt, et, ht⟩) h1 hs hh he
    · cases hc
  case next x st => obtain ⟨y, h1, rfl⟩ := hc; exact ok_next base hop h1 hs hh he
  case entry x => obtain ⟨y, h1, rfl⟩ := hc; exact ok_entry base hop h1 hs hh he
  case makeInterface t x =>
    obtain ⟨d, hd, hc⟩ := hc
    split at hc
    · cases hc
    · rename_i hn
      obtain ⟨y, h1, hc⟩ := bind_some hc
      injection hc with hc; subst hc
      exact ok_mkif base hop hd (fun ms hms => hn (by rw [hms]; rfl)) h1 hs hh he
  case extract x i => obtain ⟨y, h1, rfl⟩ := hc; exact ok_extract base hop h1 hs hh he
  case call c => exact sound_call base hop hc hs hh he
end
end Go.Hw

set_option linter.unusedVariables false
set_option linter.unusedSimpArgs false
namespace Go.Hw
open Go

def HCalls (P : Program) : CallP := fun f args h R =>
  (∃ fn, P.funcs[f]? = some fn ∧ fn.body.isSome = true ∧ fn.name ≠ "runtime.NumGoroutine") ∧
  ∀ (K : GK) (w : World) (vs : List Value), HeapRel K h w → args.length = vs.length → (∀ (j : Nat) (x : HV) (v : Value), args[j]? = some x → vs[j]? = some v → V K w x v) →
    Calls P f vs.toArray w fun en w' => ∃ v x K' h', en = .returned v ∧ Step K w K' w' ∧ HeapRel K' h' w' ∧ V K' w' x v ∧ R x h'

theorem HCalls.mono {P : Program} {f : FuncId} {args : List HV} {h : Heap} {R R' : HV → Heap → Prop} (hc : HCalls P f args h R) (hr : ∀ x h', R x h' → R' x h') : HCalls P f args h R' :=
  ⟨hc.1, fun K w vs hh hl hv => (hc.2 K w vs hh hl hv).mono fun en w' ⟨v, x, K', h', h1, h2, h3, h4, h5⟩ => ⟨v, x, K', h', h1, h2, h3, h4, hr x h' h5⟩⟩


inductive PV : HV → Prop
  | bool (b : Bool) : PV (.bool b)
  | int (k : IntKind) (n : Int) : PV (.int k n)
  | str (s : List UInt8) : PV (.str s)
  | list (hs : List HV) (tok : Tok) (ht : ∀ k o s, tok ≠ .own k o s) (h : ∀ (x : HV), x ∈ flat hs → PV x) : PV (.list hs tok)
  | nilslice : PV .nilslice
  | rptr (cs : List HV) (h : ∀ (x : HV), x ∈ cs → PV x) : PV (.rptr cs)
  | nilptr : PV .nilptr
  | nilmap : PV .nilmap
  | func (f : FuncId) (caps : List HV) (h : ∀ (x : HV), x ∈ caps → PV x) : PV (.func f caps)
  | nilfunc : PV .nilfunc
  | nilif : PV .nilif
  | iface (t : Nat) (x : HV) (h : PV x) : PV (.iface t x)
  | agg (cs : List HV) (h : ∀ (x : HV), x ∈ cs → PV x) : PV (.agg cs)
  | tuple (vs : List HV) (h : ∀ (x : HV), x ∈ vs → PV x) : PV (.tuple vs)
  | any : PV .any

theorem V.transfer {K K' : GK} {w : World} {x : HV} {v : Value} (h : V K w x v) (hp : PV x) (hl : ∀ b, K.lim b ≤ K'.lim b) : V K' w x v := by
  induction h with
  | bool b => exact .bool b
  | int k n => exact .int k n
  | str s => exact .str s
  | nil tok _ =>
    cases hp with
    | list _ _ ht _ =>
      refine .nil tok ?_
      cases tok with
      | own k o s => exact absurd rfl (ht k o s)
      | _ => trivial
  | list0 tok _ ad =>
    cases hp with
    | list _ _ ht _ =>
      refine .list0 tok ?_ ad
      cases tok with
      | own k o s => exact absurd rfl (ht k o s)
      | _ => trivial
  | nilslice => exact .nilslice
  | list hs tok b o cap sz vals hw hleaf hv hc hlim hcap htk ih =>
    cases hp with
    | list _ _ ht hall =>
      refine .list hs tok b o cap sz vals hw hleaf (fun j y hy => ih j y hy (hall y (List.mem_of_getElem? hy))) hc (fun h0 => Nat.le_trans (hlim h0) (hl b)) hcap ?_
      cases tok with
      | own k o s => exact absurd rfl (ht k o s)
      | none => trivial
      | full => exact htk
  | arr id off len sz b cap off' hr hcap ho hroom => cases hp
  | arrn id off sz => cases hp
  | arr0 id off sz ad => cases hp
  | rptr cs b o vals hleaf hv hc hlim ih =>
    cases hp with
    | rptr _ hall => exact .rptr cs b o vals hleaf (fun j y hy => ih j y hy (hall y (List.mem_of_getElem? hy))) hc (fun h0 => Nat.le_trans (hlim h0) (hl b))
  | ptr id off b hr => cases hp
  | nilptr => exact .nilptr
  | map id b hr => cases hp
  | nilmap => exact .nilmap
  | func f caps vs hn hv ih =>
    cases hp with
    | func _ _ hall => exact .func f caps vs hn (fun j y u hy hu => ih j y u hy hu (hall y (List.mem_of_getElem? hy)))
  | nilfunc => exact .nilfunc
  | nilif => exact .nilif
  | iface t x v ht hx ih =>
    cases hp with
    | iface _ _ hx' => exact .iface t x v ht (ih hx')
  | agg cs vs hn hleaf hv ih =>
    cases hp with
    | agg _ hall => exact .agg cs vs hn hleaf (fun j y u hy hu => ih j y u hy hu (hall y (List.mem_of_getElem? hy)))
  | tuple cs vs hn hv ih =>
    cases hp with
    | tuple _ hall => exact .tuple cs vs hn (fun j y u hy hu => ih j y u hy hu (hall y (List.mem_of_getElem? hy)))
  | any v h => exact .any v h

structure PCall (P : Program) (f : FuncId) (args : List HV) (r : HV) : Prop where
  pargs : ∀ x ∈ args, PV x
  pres : PV r
  call : HCalls P f args [] fun x _ => x.strip1 = r

def GK.bare (K : GK) : GK := { lim := K.lim, rho := fun _ => none, tb := fun _ => none, wm := fun _ => 0 }
theorem heap_bare {K : GK} {h : Heap} {w : World} (hh : HeapRel K h w) : HeapRel K.bare [] w :=
  ⟨fun id b hr => by simp [GK.bare] at hr, fun i j b x y hi => by simp [GK.bare] at hi, fun k => by simp [GK.bare], fun k b hk => by simp [GK.bare] at hk, fun i j b hi => by simp [GK.bare] at hi, hh.limb.view (fun _ => rfl) (fun _ _ ho => by rcases ho with ⟨i, h⟩ | ⟨i, h⟩ <;> simp [GK.bare] at h)⟩
theorem not_owned_bare {K : GK} {b : Nat} : ¬ owned K.bare b := by
  rintro (⟨i, h⟩ | ⟨i, h⟩) <;> simp [GK.bare] at h

theorem PCall.use {P : Program} {f : FuncId} {args : List HV} {r : HV} (hp : PCall P f args r) {h : Heap} {R : HV → Heap → Prop} (hr : R r h) : HCalls P f args h R := by
  refine ⟨hp.call.1, fun K w vs hh hl hv => ?_⟩
  refine (hp.call.2 K.bare w vs (heap_bare hh) hl (fun j x v hx hvj => (hv j x v hx hvj).transfer (hp.pargs x (List.mem_of_getElem? hx)) (fun _ => Nat.le_refl _))).mono ?_
  rintro en w' ⟨v, x, K', h', rfl, s, hh', hV, rfl⟩
  have hfr : ∀ b, b < w.heap.size → w'.heap[b]? = w.heap[b]? ∧ K'.lim b = K.lim b := fun b hb => s.frame b hb not_owned_bare
  have hlim : ∀ b, K.lim b ≤ K'.lim b := s.lim
  have st : Step K w { K with lim := K'.lim } w' := by
    refine ⟨s.os, s.tape, s.output, s.size, hlim, fun _ => Nat.le_refl _, fun k _ => ⟨rfl, fun b hb => (hfr b (hh.tok k b hb).1).2⟩, fun _ _ h => h, s.cell, s.shape, fun _ _ h => h, fun b hb _ => hfr b hb⟩
  refine ⟨v, x.strip1, { K with lim := K'.lim }, h, rfl, st, ⟨fun id b hid => ?_, hh.inj, hh.wm, fun k b hk => ?_, hh.tinj, ⟨hh'.limb.z, hh.limb.t.step st⟩⟩, hV.strip1.transfer hp.pres (fun _ => Nat.le_refl _), hr⟩
  · obtain ⟨h1, o, h2, h3, h4⟩ := hh.obj id b hid
    exact ⟨Nat.lt_of_lt_of_le h1 s.size, o, h2, h3.keep st (hfr b h1).1, fun hlive => by rw [show ({ K with lim := K'.lim } : GK).lim b = K.lim b from (hfr b h1).2]; exact h4 hlive⟩
  · obtain ⟨h1, h2, h3, c, e, fr, h4, h5, h6⟩ := hh.tok k b hk
    exact ⟨Nat.lt_of_lt_of_le h1 s.size, h2, h3, c, e, fr, by rw [(hfr b h1).1]; exact h4, by rw [show ({ K with lim := K'.lim } : GK).lim b = K.lim b from (hfr b h1).2]; exact h5, h6⟩

def DCalls (P : Program) : CallP := fun f args h R => ∃ r, PCall P f args r ∧ R r h


variable {P : Program}

def OpFor (P : Program) (N : Nat) (ops : Array Oper) (i : Nat) (l : Op) : Prop :=
  ∃ o r m, ops[i]? = some o ∧ (cOp P r m o = some l.o ∨ l.o = .op .bad) ∧ l.dst = o.dst ∧ cGuard ops o.guard = some l.guard ∧ ∀ d, o.dst = some d → d < N
def AllFor (P : Program) (N : Nat) (ops : Array Oper) : List Nat → List Op → Prop
  | [], [] => True
  | i :: is, l :: ls => OpFor P N ops i l ∧ AllFor P N ops is ls
  | _, _ => False

theorem cOp_call {o : Oper} {r : Option Nat} {m : Bool} {f : FuncId} {xs : List X} (hc : cOp P r m o = some (.call f xs)) : ∃ args ts, o.op = .call { callee := .value (.func f), args := args, argTypes := ts } ∧ args.toList.mapM (cXn m) = some xs := by
  cases hop : o.op <;> simp only [cOp, hop, Option.map_eq_some_iff, Option.bind_eq_bind, reduceCtorEq, and_false, exists_false] at hc
  rename_i c
  obtain ⟨callee, args, ts⟩ := c
  unfold cCall at hc
  split at hc
  · obtain ⟨q, _, h2⟩ := Option.map_eq_some_iff.1 hc
    cases h2
  · rename_i g heq
    simp only at heq
    subst heq
    obtain ⟨ys, h1, h2⟩ := bind_some hc
    simp at h2
    obtain ⟨rfl, rfl⟩ := h2
    exact ⟨args, ts, rfl, h1⟩
  · obtain ⟨ys, h1, h2⟩ := bind_some hc
    obtain ⟨zs, h3, h4⟩ := bind_some h2
    simp at h4
  · cases hc
theorem cOp_callv {o : Oper} {r : Option Nat} {m : Bool} {f : X} {xs : List X} (hc : cOp P r m o = some (.callv f xs)) : ∃ g args ts, o.op = .call { callee := .value g, args := args, argTypes := ts } ∧ cX g = some f ∧ args.toList.mapM cX = some xs := by
  cases hop : o.op <;> simp only [cOp, hop, Option.map_eq_some_iff, Option.bind_eq_bind, reduceCtorEq, and_false, exists_false] at hc
  rename_i c
  obtain ⟨callee, args, ts⟩ := c
  unfold cCall at hc
  split at hc
  · obtain ⟨q, _, h2⟩ := Option.map_eq_some_iff.1 hc
    cases h2
  · rename_i g heq
    obtain ⟨ys, h1, h2⟩ := bind_some hc
    simp at h2
  · rename_i g hng heq
    simp only at heq
    subst heq
    obtain ⟨ys, h1, h2⟩ := bind_some hc
    obtain ⟨zs, h3, h4⟩ := bind_some h2
    simp at h4
    obtain ⟨rfl, rfl⟩ := h4
    exact ⟨g, args, ts, rfl, h1, h3⟩
  · cases hc

theorem run_callFunc {f : FuncId} {fn : Func} (hf : P.funcs[f]? = some fn) (hb : fn.body.isSome = true) (hn : fn.name ≠ "runtime.NumGoroutine") (args : Array Value) (w : World) : (callFunc f args).run P w = .ok (.enter f args) w := by
  have hb' : fn.body.isNone = false := by cases h : fn.body <;> simp_all
  simp [callFunc, hf, hn]
  intro hnone
  simp [hnone] at hb

theorem env_put {K : GK} {w : World} {e : Env} {a : Act} {dst : Option Nat} {x : HV} {v : Value} {N : Nat} (he : EnvRel K w e a.tmps) (hs : a.tmps.size = N) (hd : ∀ d, dst = some d → d < N) (hv : V K w x v) : EnvRel K w (e.put dst x) (a.put dst v).tmps := by
  cases dst with
  | none => exact he
  | some d =>
    intro t y hy
    simp only [Env.put, Env.get] at hy
    have hdl := hd d rfl
    simp only [Act.put, Array.getD_eq_getD_getElem?, Array.getElem?_setIfInBounds]
    split at hy
    · rename_i hdt
      subst hdt
      injection hy with hy
      subst hy
      simp [hs, hdl]; exact hv
    · rename_i hdt
      rw [if_neg hdt]
      have := he t y hy
      rwa [Array.getD_eq_getD_getElem?] at this
theorem act_put_size (a : Act) (dst : Option Nat) (v : Value) : (a.put dst v).tmps.size = a.tmps.size := by cases dst <;> simp [Act.put]
theorem act_put_defers (a : Act) (dst : Option Nat) (v : Value) : (a.put dst v).defers = a.defers := by cases dst <;> rfl

abbrev WF (ro : Option Nat) : Fence := { Fence.wide with round := ro }
theorem callsIn_wf {ro : Option Nat} {n : Nat} {f : FuncId} {args : Array Value} {w : World} {R : Ending → World → Prop} (h : Calls P f args w R) : CallsIn (WF ro) n P f args w R := by
  have := (callsIn_wide (n := n)).2 h
  exact ⟨trivial, this.2⟩
theorem cOp_ne_defer {o : Oper} {r : Option Nat} {m : Bool} {x : OC} (h : cOp P r m o = some x) : ∀ c, o.op ≠ .defer c := by
  intro c hc
  simp [cOp, hc] at h

theorem hops_sound {N : Nat} {ds : List Deferred} {ro : Option Nat} {ops : Array Oper} {base : Nat} {S : CallP} (hS : ∀ f args h R, S f args h R → HCalls P f args h R) {Q : Env → Heap → Prop} {Q' : Exit → Act → World → Prop} {js : List Nat} : ∀ (is : List Nat) (ls : List Op), AllFor P N ops is ls → ∀ (e : Env) (h : Heap) (K : GK) (w : World) (a : Act), hops S base ls e h Q → Rel N ds K w e h a →
    (∀ K' w' e' h' a', Step K w K' w' → Rel N ds K' w' e' h' a' → Q e' h' → wpOpsIn (WF ro) 0 P ops Q' js a' w') → wpOpsIn (WF ro) 0 P ops Q' (is ++ js) a w
  | [], [], _, e, h, K, w, a, hq, hr, hfin => hfin K w e h a (.refl K w) hr hq
  | i :: is, l :: ls, ⟨⟨o, r, m, h1, h2, h3, h4, h5⟩, hrest⟩, e, h, K, w, a, hq, hr, hfin => by
    -- one operation that runs
    have run1 : hcall S base l.o e h (fun v h' => hops S base ls (e.put l.dst v) h' Q) → o.wpIn (WF ro) 0 P a w (wpOpsIn (WF ro) 0 P ops Q' (is ++ js)) Q' := by
      intro hc
      have next : ∀ {x v K' w' h'}, Step K w K' w' → HeapRel K' h' w' → V K' w' x v → hops S base ls (e.put l.dst x) h' Q → wpOpsIn (WF ro) 0 P ops Q' (is ++ js) (a.put o.dst v) w' := by
        intro x v K' w' h' s hh' hV hk
        rw [h3] at hk
        exact hops_sound hS is ls hrest (e.put o.dst x) h' K' w' (a.put o.dst v) hk ⟨hh', env_put (hr.env.step s) hr.size h5 hV, by rw [act_put_size]; exact hr.size, by rw [act_put_defers]; exact hr.defers⟩ (fun K2 w2 e2 h2 a2 s2 r2 q2 => hfin K2 w2 e2 h2 a2 (s.trans s2) r2 q2)
      rcases h2 with h2 | h2
      rotate_left
      · rw [h2] at hc
        exact hc.elim
      cases hlo : l.o with
      | op ho =>
        rw [hlo] at hc h2
        have hc' : hstep base ho e h (fun v h' => hops S base ls (e.put l.dst v) h' Q) := hc
        obtain ⟨x, v, K', w', h', hg, s, hh', hV, hk⟩ := op_sound base h2 hc' hr.heap hr.env
        unfold Oper.wpIn
        refine ⟨fun _ _ => trivial, ?_⟩
        rw [Oper.semAt_eq _ _ _ (cOp_ne_defer h2)]
        rcases hg with hg | ⟨hg, hu⟩
        · rw [hg]; exact next s hh' hV hk
        · rw [hg]
          subst hu
          exact next s hh' hV hk
      | call f xs =>
        rw [hlo] at hc h2
        obtain ⟨args, ts, hop, hxs⟩ := cOp_call h2
        simp only [hcall] at hc
        split at hc
        · rename_i vs hvs
          obtain ⟨hl, hv⟩ := evsn_sound m hr.env hxs hvs
          obtain ⟨⟨fn, hf, hb, hn⟩, hcall⟩ := hS _ _ _ _ hc
          have := hcall K w (args.toList.map a.eval) hr.heap (by simp [hl]) (fun j x v hx hvj => by
            rw [List.getElem?_map] at hx hvj
            obtain ⟨y, hy, rfl⟩ := Option.map_eq_some_iff.1 hx
            obtain ⟨q, hq, rfl⟩ := Option.map_eq_some_iff.1 hvj
            exact (hv j y q hy hq).strip1)
          unfold Oper.wpIn
          refine ⟨fun _ _ => trivial, ?_⟩
          rw [Oper.semAt_eq _ _ _ (cOp_ne_defer h2)]
          have hrun : (execOp a.eval o).run P w = .ok (.enter f (args.toList.map a.eval).toArray) w := by
            simp only [execOp, hop, resolve, Act.eval, Deferred.ofValue, Sem.run_bind, Sem.run_pure, Result.andThen_ok, invoke]
            rw [run_callFunc hf hb hn]
            congr 2
            apply Array.ext'
            simp
          rw [hrun, Oper.uponIn_enter]
          refine ⟨fun hd => by simp [Fence.wide] at hd, callsIn_wf ?_⟩
          refine this.mono ?_
          rintro en w' ⟨v, x, K', h', rfl, s, hh', hV, hk⟩
          exact next s hh' hV hk
        · exact hc.elim
      | callv f xs =>
        rw [hlo] at hc h2
        obtain ⟨g, args, ts, hop, hg, hxs⟩ := cOp_callv h2
        simp only [hcall] at hc
        split at hc
        · rename_i g' caps vs hev hvs
          obtain ⟨hl, hv⟩ := evs_sound hr.env hxs hvs
          have hfv := ev_sound hg hr.env hev
          generalize hgv : a.eval g = gv at hfv
          cases hfv with
          | func _ _ us hn' hus =>
            obtain ⟨⟨fn, hf, hb, hn⟩, hcall⟩ := hS _ _ _ _ hc
            have := hcall K w (args.toList.map a.eval ++ us) hr.heap (by simp [hl, hn']) (fun j x v hx hvj => by
              rw [List.getElem?_append] at hx hvj
              have e1 : (vs.map HV.strip1).length = (args.toList.map a.eval).length := by simp [hl]
              rw [e1] at hx
              split at hx
              · rename_i hj
                rw [if_pos hj] at hvj
                rw [List.getElem?_map] at hx hvj
                obtain ⟨y, hy, rfl⟩ := Option.map_eq_some_iff.1 hx
                obtain ⟨q, hq, rfl⟩ := Option.map_eq_some_iff.1 hvj
                exact (hv j y q hy hq).strip1
              · rename_i hj
                rw [if_neg hj] at hvj
                exact hus _ x v hx hvj)
            unfold Oper.wpIn
            refine ⟨fun _ _ => trivial, ?_⟩
            rw [Oper.semAt_eq _ _ _ (cOp_ne_defer h2)]
            have hrun : (execOp a.eval o).run P w = .ok (.enter g' (args.toList.map a.eval ++ us).toArray) w := by
              simp only [execOp, hop, resolve, hgv, Deferred.ofValue, Sem.run_bind, Sem.run_pure, Result.andThen_ok, invoke]
              rw [run_callFunc hf hb hn]
              congr 2
              apply Array.ext'
              simp
            rw [hrun, Oper.uponIn_enter]
            refine ⟨fun hd => by simp [Fence.wide] at hd, callsIn_wf ?_⟩
            refine this.mono ?_
            rintro en w' ⟨v, x, K', h', rfl, s, hh', hV, hk⟩
            exact next s hh' hV hk
        · exact hc.elim
    have skip1 : hops S base ls (e.put l.dst (.tuple [])) h Q → wpOpsIn (WF ro) 0 P ops Q' (is ++ js) (a.put o.dst undef) w := by
      intro hk
      rw [h3] at hk
      exact hops_sound hS is ls hrest (e.put o.dst (.tuple [])) h K w (a.put o.dst undef) hk ⟨hr.heap, env_put hr.env hr.size h5 (V.tuple [] [] rfl (fun j h v hh => by simp at hh)), by rw [act_put_size]; exact hr.size, by rw [act_put_defers]; exact hr.defers⟩ hfin
    simp only [List.cons_append, wpOpsIn, h1]
    simp only [hops] at hq
    cases hg : o.guard with
    | none =>
      simp only [hg, cGuard, Option.some.injEq] at h4
      rw [← h4] at hq
      rw [if_pos (by simp [Region.wanted, hg])]
      exact run1 hq
    | some jb =>
      obtain ⟨j, b⟩ := jb
      simp only [hg, cGuard, Option.bind_eq_bind] at h4
      obtain ⟨oj, hoj, h4⟩ := bind_some h4
      obtain ⟨d, hd, h4⟩ := bind_some h4
      simp only [Option.some.injEq] at h4
      rw [← h4] at hq
      have hy : ∀ x, e.get d = some x → V K w x (a.tmps.getD d undef) := fun x hx => hr.env d x hx
      dsimp only at hq
      split at hq
      · rename_i c hc
        have hV := hy _ hc
        have hyl : yielded ops a.tmps j = some c := by
          simp only [yielded, hoj, hd, Option.bind_some]
          rw [Array.getD_eq_getD_getElem?] at hV
          cases ht : a.tmps[d]? with
          | none => rw [ht] at hV; simp [undef] at hV; cases hV
          | some u => rw [ht] at hV; simp at hV; cases hV; rfl
        by_cases hcb : c = b
        · rw [if_pos (by simp [Region.wanted, hg, hyl, hcb])]
          exact run1 (hq.1 hcb)
        · rw [if_neg (by simp [Region.wanted, hg, hyl, hcb])]
          exact ⟨fun _ _ => trivial, skip1 (hq.2 hcb)⟩
      · rename_i hc
        have hV := hy _ hc
        have hyl : yielded ops a.tmps j = none := by
          simp only [yielded, hoj, hd, Option.bind_some]
          rw [Array.getD_eq_getD_getElem?] at hV
          cases ht : a.tmps[d]? with
          | none => rfl
          | some u =>
            rw [ht] at hV
            simp at hV
            cases hV
            rfl
        rw [if_neg (by simp [Region.wanted, hg, hyl])]
        exact ⟨fun _ _ => trivial, skip1 hq⟩
      · exact hq.elim
  | [], _ :: _, h, _, _, _, _, _, _, _, _ => h.elim
  | _ :: _, [], h, _, _, _, _, _, _, _, _ => h.elim

end Go.Hw

set_option linter.unusedVariables false
set_option linter.unusedSimpArgs false
namespace Go.Hw
open Go

variable {P : Program} {base : Nat} {e : Env} {h : Heap} {k : HV → Heap → Prop}

inductive Dat where
  | same (rd : Bool)
  | res (j : Nat) (ob : HObj)
  | tnew (n : Nat)
  | tset (id m n : Nat)
  | any (h0 h1 : Heap)
def Dat.app (base : Nat) : Dat → Heap → Heap
  | .same _, h => h
  | .res j ob, h => h.set (base + j) ob
  | .tnew n, h => h ++ [.tok n]
  | .tset id _ n, h => h.set id (.tok n)
  | .any _ h1, _ => h1
def Dat.at (base : Nat) : Dat → Heap → Heap → Prop
  | .same false, _, _ => True
  | .same true, h, g => ∀ (id : Nat) (x : HObj), h[id]? = some x → x.live → g[id]? = some x
  | .res j ob, _, g => ob.live ∧ g[base + j]? = some .res
  | .tnew _, h, g => g.length = h.length
  | .tset id m _, _, g => g[id]? = some (.tok m)
  | .any h0 _, _, g => g = h0
def Dat.fits : Dat → Ef → Prop
  | .same false, _ => True
  | .same true, .read | .same true, .rdmap => True
  | .res .., .alloc => True
  | .tnew _, .tok | .tset .., .tok => True
  | .any _ _, .act => True
  | _, _ => False


theorem pure_any {o : O} (hp : efO o = .pure) (he : ∀ x y, o ≠ .eqv true .slice x y) (he' : ∀ x y, o ≠ .eqv false .slice x y) (g : Heap) : hstep base o e h k = hstep base o e g (fun v _ => k v h) := by
  cases o <;> first
    | rfl
    | (simp [efO] at hp; done)
    | (rename_i c x
       cases c <;> first
         | (simp [efO] at hp; done)
         | (simp only [hstep]
            cases hx : x.ev e with
            | none => rfl
            | some z => cases z <;> rfl))
theorem pure_det {o : O} (hp : efO o = .pure) (he : ∀ b x y, o ≠ .eqv b .slice x y) (hs : hstep base o e h k) : ∃ v, k v h ∧ ∀ k' : HV → Heap → Prop, k' v h → hstep base o e h k' := by
  cases o with
  | eqv neg kd x y =>
    simp only [hstep] at hs ⊢
    cases h1 : x.ev e with
    | none => simp only [h1] at hs
    | some a =>
    cases h2 : y.ev e with
    | none => simp only [h1, h2] at hs
    | some b =>
    simp only [h1, h2] at hs ⊢
    cases kd with
    | slice => exact absurd rfl (he neg x y)
    | agg n =>
      simp only at hs ⊢
      split at hs
      · rename_i cs ds
        cases hq : eqCells n cs ds with
        | none => simp only [hq] at hs
        | some t => simp only [hq] at hs ⊢; exact ⟨_, hs, fun k' h' => h'⟩
      · exact hs.elim
    | _ =>
      simp only at hs ⊢
      obtain ⟨h3, h4⟩ := hs
      cases a <;> cases b <;> simp only [eqsOk] at h3 <;> first
        | exact h3.elim
        | (exact ⟨_, h4 _ rfl, fun k' h' => ⟨h3, fun t ht => by simp only [HV.eqs] at ht; subst ht; exact h'⟩⟩)
        | (exact ⟨_, h4 _ rfl, fun k' h' => ⟨trivial, fun t ht => by simp only [HV.eqs] at ht; subst ht; exact h'⟩⟩)
  | pick c a b =>
    simp only [hstep] at hs ⊢
    split at hs
    · rename_i t x y _ _ _
      cases t with
      | true => exact ⟨x, hs.1 rfl, fun k' h' => ⟨fun _ => h', nofun⟩⟩
      | false => exact ⟨y, hs.2 rfl, fun k' h' => ⟨nofun, fun _ => h'⟩⟩
    · exact hs.elim
  | conv c x =>
    simp only [hstep] at hs ⊢
    split at hs <;> first
      | exact hs.elim
      | (simp [efO] at hp; done)
      | exact ⟨_, hs, fun k' h' => h'⟩
  | _ =>
    first
      | (simp [efO] at hp; done)
      | (simp only [hstep] at hs ⊢
         repeat' (split at hs)
         all_goals first
           | exact hs.elim
           | exact ⟨_, hs, fun k' h' => h'⟩
           | exact ⟨_, hs.2, fun k' h' => ⟨hs.1, h'⟩⟩
           | exact ⟨_, hs.2.2, fun k' h' => ⟨hs.1, hs.2.1, h'⟩⟩
           | (obtain ⟨h1, hs⟩ := hs; repeat' (split at hs)
              all_goals first
                | exact hs.elim
                | exact ⟨_, hs, fun k' h' => ⟨h1, h'⟩⟩
                | exact ⟨_, hs.2, fun k' h' => ⟨h1, hs.1, h'⟩⟩)
           | (obtain ⟨h1, h2, hs⟩ := hs; repeat' (split at hs)
              all_goals first
                | exact hs.elim
                | exact ⟨_, hs, fun k' h' => ⟨h1, h2, h'⟩⟩))


theorem ev_agree {e' : Env} {x : X} (h : ∀ t ∈ usesX x, e.get t = e'.get t) : x.ev e' = x.ev e := by
  cases x with
  | t n => exact (h n (by simp [usesX])).symm
  | c v => rfl
theorem evs_agree {e' : Env} : ∀ {xs : List X}, (∀ t ∈ xs.flatMap usesX, e.get t = e'.get t) → evs e' xs = evs e xs
  | [], _ => rfl
  | x :: r, h => by
    simp only [List.flatMap_cons, List.mem_append] at h
    simp only [evs, ev_agree (e' := e') (fun t ht => h t (.inl ht)), evs_agree (e' := e') (fun t ht => h t (.inr ht))]
theorem evParts_agree {e' : Env} : ∀ {xs : List (Nat × Nat × X)}, (∀ t ∈ xs.flatMap (fun p => usesX p.2.2), e.get t = e'.get t) → evParts e' xs = evParts e xs
  | [], _ => rfl
  | (a, b, x) :: r, h => by
    simp only [List.flatMap_cons, List.mem_append] at h
    simp only [evParts, ev_agree (e' := e') (fun t ht => h t (.inl ht)), evParts_agree (e' := e') (fun t ht => h t (.inr ht))]
theorem bnd_agree {e' : Env} {d : Int} {x : Option X} (h : ∀ t ∈ (x.map usesX).getD [], e.get t = e'.get t) : bnd e' d x = bnd e d x := by
  cases x with
  | none => rfl
  | some y => simp only [bnd, ev_agree (e' := e') (x := y) (fun t ht => h t (by simpa using ht))]
theorem step_agree {e' : Env} {o : O} (h' : ∀ t ∈ usesO o, e.get t = e'.get t) : hstep base o e' h k = hstep base o e h k := by
  cases o with
  | slice sz x lo hi mx =>
    simp only [usesO, List.mem_append] at h'
    simp only [hstep]
    have e1 : x.ev e' = x.ev e := ev_agree (fun t ht => h' t (.inl (.inl (.inl ht))))
    have e2 : ∀ d, bnd e' d lo = bnd e d lo := fun d => bnd_agree fun t ht => h' t (.inl (.inl (.inr ht)))
    have e3 : ∀ d, bnd e' d hi = bnd e d hi := fun d => bnd_agree fun t ht => h' t (.inl (.inr ht))
    have e4 : ∀ d, bnd e' d mx = bnd e d mx := fun d => bnd_agree fun t ht => h' t (.inr ht)
    rw [e1]
    simp only [e2, e3]
    cases mx with
    | none => rfl
    | some m =>
      simp only [e4]
      cases hi with
      | none => rfl
      | some y => simp only [Option.bind_some, e3]
  | slicearr n sz x lo hi =>
    simp only [usesO, List.mem_append] at h'
    simp only [hstep]
    have e1 : x.ev e' = x.ev e := ev_agree (fun t ht => h' t (.inl (.inl ht)))
    have e2 : ∀ d, bnd e' d lo = bnd e d lo := fun d => bnd_agree fun t ht => h' t (.inl (.inr ht))
    have e3 : ∀ d, bnd e' d hi = bnd e d hi := fun d => bnd_agree fun t ht => h' t (.inr ht)
    rw [e1]
    simp only [e2, e3]
  | sslice x lo hi =>
    simp only [usesO, List.mem_append] at h'
    simp only [hstep]
    have e1 : x.ev e' = x.ev e := ev_agree (fun t ht => h' t (.inl (.inl ht)))
    have e2 : ∀ d, bnd e' d lo = bnd e d lo := fun d => bnd_agree fun t ht => h' t (.inl (.inr ht))
    have e3 : ∀ d, bnd e' d hi = bnd e d hi := fun d => bnd_agree fun t ht => h' t (.inr ht)
    rw [e1]
    simp only [e2, e3]
  | pick a b c | mapset _ a b c | entryset a b c =>
    simp only [usesO, List.mem_append] at h'
    simp only [hstep, ev_agree (e' := e') (x := a) (fun t ht => h' t (.inl (.inl ht))), ev_agree (e' := e') (x := b) (fun t ht => h' t (.inl (.inr ht))), ev_agree (e' := e') (x := c) (fun t ht => h' t (.inr ht))]
  | store _ a b | bin _ a b | eqv _ _ a b | iaddr _ a b | iaddrarr _ _ a b | index a b | indexarr _ _ _ a b | lookup _ _ _ a b | mapentry _ _ a b | mapdel _ a b | append _ _ a b | appendarr _ _ a b | copy _ a b | mkslice _ _ _ _ a b =>
    simp only [usesO, List.mem_append] at h'
    simp only [hstep, ev_agree (e' := e') (x := a) (fun t ht => h' t (.inl ht)), ev_agree (e' := e') (x := b) (fun t ht => h' t (.inr ht))]
  | mv a | box _ _ a | load _ a | nilck a | un _ a | conv _ a | faddr _ _ a | field _ _ a | extract a _ | len _ a | maplen a | range _ a | next _ a | entry a | mkif _ a | isnil _ a | clear _ _ a =>
    simp only [usesO] at h'
    simp only [hstep, ev_agree (e' := e') (x := a) h']
  | mklist _ xs | mkarr _ _ xs | mkfunc _ xs | min xs | max xs =>
    simp only [usesO] at h'
    simp only [hstep, evs_agree (e' := e') (xs := xs) h']
  | build _ xs =>
    simp only [usesO] at h'
    simp only [hstep, evParts_agree (e' := e') (xs := xs) h']
  | alloc _ _ | bldnew _ => rfl
  | mkmap _ => rfl
  | lenc _ => rfl
  | bad => rfl


theorem cells_some {h : Heap} {id : Nat} {cs : List HV} (hc : Heap.cells h id = some cs) : h[id]? = some (.cells cs) := by
  unfold Heap.cells at hc
  split at hc
  · rename_i x hx; injection hc with hc; subst hc; exact hx
  · cases hc
theorem mapAt_some {h : Heap} {id : Nat} {es : List (Nat × HV × HV) × Nat} (hc : Heap.mapAt h id = some es) : h[id]? = some (.map es.1 es.2) := by
  unfold Heap.mapAt at hc
  split at hc
  · rename_i x hx; injection hc with hc; subst hc; exact hx
  · cases hc
theorem tokAt_some {h : Heap} {id n : Nat} (hc : Heap.tokAt h id = some n) : h[id]? = some (.tok n) := by
  unfold Heap.tokAt at hc
  split at hc
  · rename_i x hx; injection hc with hc; subst hc; exact hx
  · cases hc
def Keeps (h g : Heap) : Prop := ∀ (id : Nat) (x : HObj), h[id]? = some x → x.live → g[id]? = some x
theorem cells_keep {g : Heap} (hk : Keeps h g) {id : Nat} {cs : List HV} (hc : Heap.cells h id = some cs) : Heap.cells g id = some cs := by
  have := hk id _ (cells_some hc) trivial
  simp [Heap.cells, this]
theorem mapAt_keep {g : Heap} (hk : Keeps h g) {id : Nat} {es : List (Nat × HV × HV) × Nat} (hc : Heap.mapAt h id = some es) : Heap.mapAt g id = some es := by
  have := hk id _ (mapAt_some hc) trivial
  simp [Heap.mapAt, this]
theorem read_dat {o : O} (hp : efO o = .read ∨ efO o = .rdmap) (hs : hstep base o e h k) : ∃ v, k v h ∧ ∀ (g : Heap) (k' : HV → Heap → Prop), Keeps h g → k' v g → hstep base o e g k' := by
  cases o with
  | load n x =>
    simp only [hstep] at hs ⊢
    split at hs
    · split at hs
      · rename_i v hv
        exact ⟨v, hs, fun g k' _ hk => hk⟩
      · exact hs.elim
    · rename_i id off _
      split at hs
      · rename_i cs hcs
        split at hs
        · rename_i v hv
          exact ⟨v, hs, fun g k' hg hk => by simp only [cells_keep hg hcs, hv]; exact hk⟩
        · exact hs.elim
      · exact hs.elim
    · exact hs.elim
  | slicearr n sz x lo hi =>
    simp only [hstep] at hs ⊢
    split at hs
    · split at hs
      · rename_i a b cs h1 h2 hcs
        exact ⟨_, hs.2, fun g k' hg hk => by simp only [cells_keep hg hcs, h1, h2]; exact ⟨hs.1, hk⟩⟩
      · exact hs.elim
    · exact hs.elim
  | conv c x =>
    cases c <;> simp [efO] at hp
    simp only [hstep] at hs ⊢
    split at hs
    · rename_i he _; cases he
    · rename_i he _; cases he
    · rename_i he _; cases he
    · exact ⟨_, hs.2, fun g k' _ hk => ⟨hs.1, hk⟩⟩
    · split at hs
      · rename_i cs hcs
        exact ⟨_, hs.2, fun g k' hg hk => by simp only [cells_keep hg hcs]; exact ⟨hs.1, hk⟩⟩
      · exact hs.elim
    · rename_i he _; cases he
    · exact hs.elim
  | lookup kd z ok x i =>
    simp only [hstep] at hs ⊢
    split at hs
    · split at hs
      · rename_i es c hes
        obtain ⟨hself, hs⟩ := hs
        split at hs
        · rename_i j hj
          split at hs
          · rename_i v hv
            exact ⟨_, hs, fun g k' hg hk => by simp only [mapAt_keep hg hes, hj, hv]; exact ⟨hself, hk⟩⟩
          · exact hs.elim
        · rename_i hj
          exact ⟨_, hs, fun g k' hg hk => by simp only [mapAt_keep hg hes, hj]; exact ⟨hself, hk⟩⟩
        · exact hs.elim
      · exact hs.elim
    · exact ⟨_, hs.2, fun g k' _ hk => ⟨hs.1, hk⟩⟩
    · exact hs.elim
  | maplen x =>
    simp only [hstep] at hs ⊢
    split at hs
    · split at hs
      · rename_i es c hes
        exact ⟨_, hs, fun g k' hg hk => by simp only [mapAt_keep hg hes]; exact hk⟩
      · exact hs.elim
    · exact ⟨_, hs, fun g k' _ hk => hk⟩
    · exact hs.elim
  | _ => simp [efO] at hp

theorem hnew_dat {r : Option Nat} (hr : r.isSome = true) {ob : HObj} (hl : ob.live) {f : Nat → HV} (hs : hnew base r h ob fun i h' => k (f i) h') : ∃ v d, Dat.fits d .alloc ∧ d.at base h h ∧ k v (d.app base h) ∧ ∀ (g : Heap) (k' : HV → Heap → Prop), d.at base h g → k' v (d.app base g) → hnew base r g ob fun i h' => k' (f i) h' := by
  cases r with
  | none => cases hr
  | some j => exact ⟨f (base + j), .res j ob, trivial, ⟨hl, hs.1⟩, hs.2, fun g k' hg hk => ⟨hg.2, hk⟩⟩
def placed : O → Prop
  | .alloc r _ | .box r _ _ | .mkmap r | .mkslice r _ _ _ _ _ | .mkarr r _ _ => r.isSome = true
  | _ => True
theorem alloc_dat {o : O} (hp : efO o = .alloc) (hr : placed o) (hs : hstep base o e h k) : ∃ v d, Dat.fits d .alloc ∧ d.at base h h ∧ k v (d.app base h) ∧ ∀ (g : Heap) (k' : HV → Heap → Prop), d.at base h g → k' v (d.app base g) → hstep base o e g k' := by
  cases o with
  | alloc r z => exact hnew_dat (f := fun i => .ptr i 0) (ob := .cells z) hr trivial hs
  | mkmap r => exact hnew_dat (f := fun i => .map i) (ob := .map [] 0) hr trivial hs
  | box r n x =>
    simp only [hstep] at hs ⊢
    split at hs
    · obtain ⟨v, d, h1, h2, h3, h4⟩ := hnew_dat (f := fun i => .ptr i 0) hr (ob := .cells _) trivial hs.2
      exact ⟨v, d, h1, h2, h3, fun g k' hg hk => ⟨hs.1, h4 g k' hg hk⟩⟩
    · exact hs.elim
  | mkslice r sz by_ z l c =>
    simp only [hstep] at hs ⊢
    split at hs
    · rename_i n m _ _
      obtain ⟨v, d, h1, h2, h3, h4⟩ := hnew_dat (f := fun i => .arr i 0 n.toNat sz) hr (ob := .cells _) trivial hs.2
      exact ⟨v, d, h1, h2, h3, fun g k' hg hk => ⟨hs.1, h4 g k' hg hk⟩⟩
    · exact hs.elim
  | mkarr r sz xs =>
    simp only [hstep] at hs ⊢
    split at hs
    · rename_i vs _
      obtain ⟨v, d, h1, h2, h3, h4⟩ := hnew_dat (f := fun i => .arr i 0 vs.length sz) hr (ob := .cells _) trivial hs.2
      exact ⟨v, d, h1, h2, h3, fun g k' hg hk => ⟨hs.1, h4 g k' hg hk⟩⟩
    · exact hs.elim
  | conv c x => cases c <;> simp [efO] at hp
  | _ => simp [efO] at hp

theorem happend_dat {sz by_ : Nat} {hs ys : List HV} {tok : Tok} (ha : happend sz by_ h hs tok ys k) : ∃ v d, Dat.fits d .tok ∧ d.at base h h ∧ k v (d.app base h) ∧ ∀ (g : Heap) (k' : HV → Heap → Prop), d.at base h g → k' v (d.app base g) → happend sz by_ g hs tok ys k' := by
  obtain ⟨h1, h2⟩ := ha
  cases tok with
  | none => exact ⟨_, .same false, trivial, trivial, h2.2, fun g k' _ hk => ⟨h1, h2.1, hk⟩⟩
  | full => exact ⟨_, .tnew _, trivial, rfl, h2.2, fun g k' hg hk => ⟨h1, h2.1, by rw [show g.length = h.length from hg]; exact hk⟩⟩
  | own id off z =>
    obtain ⟨h2, h3, h4⟩ := h2
    exact ⟨_, .tset id _ _, trivial, tokAt_some h3, h4, fun g k' hg hk => ⟨h1, h2, by simp [Heap.tokAt, show g[id]? = _ from hg], hk⟩⟩
theorem tok_dat {o : O} (hp : efO o = .tok) (hs : hstep base o e h k) : ∃ v d, Dat.fits d .tok ∧ d.at base h h ∧ k v (d.app base h) ∧ ∀ (g : Heap) (k' : HV → Heap → Prop), d.at base h g → k' v (d.app base g) → hstep base o e g k' := by
  cases o with
  | append sz by_ s x =>
    simp only [hstep] at hs ⊢
    split at hs
    · obtain ⟨v, d, h1, h2, h3, h4⟩ := happend_dat (base := base) hs.1
      exact ⟨v, d, h1, h2, h3, fun g k' hg hk => ⟨h4 g k' hg hk, hs.2⟩⟩
    · obtain ⟨v, d, h1, h2, h3, h4⟩ := happend_dat (base := base) hs.2
      exact ⟨v, d, h1, h2, h3, fun g k' hg hk => ⟨hs.1, h4 g k' hg hk⟩⟩
    · exact hs.elim
  | conv c x =>
    cases c <;> simp [efO] at hp
    simp only [hstep] at hs ⊢
    split at hs
    · rename_i he _; cases he
    · rename_i he _; cases he
    · exact ⟨_, .tnew _, trivial, rfl, hs, fun g k' hg hk => by rw [show g.length = h.length from hg]; exact hk⟩
    · rename_i he _; cases he
    · rename_i he _; cases he
    · rename_i he _; cases he
    · exact hs.elim
  | _ => simp [efO] at hp

theorem act_det {o : O} (hp : efO o = .act) (hnx : ∀ x, o ≠ .next false x) (hs : hstep base o e h k) : ∃ v h', k v h' ∧ ∀ (k' : HV → Heap → Prop), k' v h' → hstep base o e h k' := by
  cases o with
  | conv c x =>
    cases c <;> simp [efO] at hp
    simp only [hstep] at hs ⊢
    split at hs <;> first | (exact hs.elim) | skip
    all_goals first | (rename_i hm _; cases hm; done) | skip
    split at hs
    · exact ⟨_, _, hs.2, fun k' hk => ⟨hs.1, hk⟩⟩
    · exact hs.elim
  | store n a x =>
    simp only [hstep] at hs ⊢
    split at hs
    · split at hs
      · exact ⟨_, _, hs.2, fun k' hk => ⟨hs.1, hk⟩⟩
      · exact hs.elim
    · exact hs.elim
  | mapset kd m x y =>
    simp only [hstep] at hs ⊢
    split at hs
    · split at hs
      · obtain ⟨h1, hs⟩ := hs
        split at hs
        · split at hs
          · exact ⟨_, _, hs, fun k' hk => ⟨h1, hk⟩⟩
          · exact hs.elim
        · exact ⟨_, _, hs, fun k' hk => ⟨h1, hk⟩⟩
        · exact hs.elim
      · exact hs.elim
    · exact hs.elim
  | mapentry kd z m x =>
    simp only [hstep] at hs ⊢
    split at hs
    · split at hs
      · obtain ⟨h1, hs⟩ := hs
        split at hs
        · split at hs
          · exact ⟨_, _, hs, fun k' hk => ⟨h1, hk⟩⟩
          · exact hs.elim
        · exact ⟨_, _, hs, fun k' hk => ⟨h1, hk⟩⟩
        · exact hs.elim
      · exact hs.elim
    · exact hs.elim
  | entryset m x y =>
    simp only [hstep] at hs ⊢
    split at hs
    · split at hs
      · obtain ⟨h1, hs⟩ := hs
        split at hs
        · split at hs
          · exact ⟨_, _, hs, fun k' hk => ⟨h1, hk⟩⟩
          · exact hs.elim
        · exact hs.elim
      · exact hs.elim
    · exact hs.elim
  | mapdel kd m x =>
    simp only [hstep] at hs ⊢
    split at hs
    · split at hs
      · obtain ⟨h1, hs⟩ := hs
        split at hs
        · exact ⟨_, _, hs, fun k' hk => ⟨h1, hk⟩⟩
        · exact ⟨_, _, hs, fun k' hk => ⟨h1, hk⟩⟩
        · exact hs.elim
      · exact hs.elim
    · exact hs.elim
  | range st x =>
    simp only [hstep] at hs ⊢
    split at hs
    · exact ⟨_, _, hs, fun k' hk => hk⟩
    · exact ⟨_, _, hs, fun k' hk => hk⟩
    · split at hs
      · exact ⟨_, _, hs, fun k' hk => hk⟩
      · exact hs.elim
    · exact hs.elim
  | next st x =>
    cases st with
    | false => exact absurd rfl (hnx x)
    | true =>
    simp only [hstep] at hs ⊢
    split at hs
    · split at hs
      · split at hs
        · rename_i hlt
          exact ⟨_, _, hs, fun k' hk => by rw [if_pos hlt]; exact hk⟩
        · rename_i hlt
          exact ⟨_, _, hs, fun k' hk => by rw [if_neg hlt]; exact hk⟩
      · rename_i he _; cases he
      · rename_i he _; cases he
      · exact hs.elim
    · exact hs.elim
  | entry x =>
    simp only [hstep] at hs ⊢
    split at hs
    · split at hs
      · split at hs
        · obtain ⟨h1, hs⟩ := hs
          split at hs
          · exact ⟨_, _, hs, fun k' hk => ⟨h1, hk⟩⟩
          · exact hs.elim
        · exact hs.elim
      · exact hs.elim
    · exact hs.elim
  | bad => exact hs.elim
  | copy => exact hs.elim
  | bldnew T => exact ⟨_, _, hs, fun k' hk => hk⟩
  | clear sz z x =>
    simp only [hstep] at hs ⊢
    split at hs
    · split at hs
      · exact ⟨_, _, hs.2, fun k' hk => ⟨hs.1, hk⟩⟩
      · exact hs.elim
    · exact hs.elim
  | appendarr sz by_ s x =>
    simp only [hstep] at hs ⊢
    split at hs
    · obtain ⟨h0, hs⟩ := hs
      split at hs
      · exact ⟨_, _, hs.2, fun k' hk => ⟨h0, hs.1, hk⟩⟩
      · split at hs
        · rename_i hcs
          exact ⟨_, _, hs.2, fun k' hk => ⟨h0, hs.1, hk⟩⟩
        · exact hs.elim
      · exact hs.elim
    · exact hs.elim
  | _ => simp [efO] at hp

def quiet : OC → Prop
  | .op o => placed o ∧ (∀ b x y, o ≠ .eqv b .slice x y) ∧ ∀ x, o ≠ .next false x
  | .call .. => True
  | .callv .. => True
theorem call_dat {o : OC} (hq : quiet o) (hs : hcall (DCalls P) base o e h k) : ∃ v d, Dat.fits d (efOC o) ∧ d.at base h h ∧ k v (d.app base h) ∧
    ∀ (e' : Env) (g : Heap) (k' : HV → Heap → Prop), (∀ t ∈ usesOC o, e.get t = e'.get t) → d.at base h g → k' v (d.app base g) → hcall (DCalls P) base o e' g k' := by
  cases o with
  | callv f xs =>
    simp only [hcall] at hs ⊢
    split at hs
    · rename_i g caps vs hf hvs
      obtain ⟨r, hp, hk⟩ := hs
      refine ⟨r, .same false, trivial, trivial, hk, fun e' g' k' he _ hk' => ?_⟩
      rw [ev_agree (e := e) (e' := e') (x := f) (fun t ht => he t (by simp [usesOC, ht])), evs_agree (e := e) (e' := e') (xs := xs) (fun t ht => he t (by simp [usesOC] at ht ⊢; exact .inr ht)), hf, hvs]
      exact ⟨r, hp, hk'⟩
    · exact hs.elim
  | call f xs =>
    simp only [hcall] at hs ⊢
    split at hs
    · rename_i vs hvs
      obtain ⟨r, hp, hk⟩ := hs
      refine ⟨r, .same false, trivial, trivial, hk, fun e' g k' he _ hk' => ?_⟩
      rw [evs_agree (e := e) (e' := e') (xs := xs) he, hvs]
      exact ⟨r, hp, hk'⟩
    · exact hs.elim
  | op o =>
    obtain ⟨hpl, hsl, hnx⟩ := hq
    have go : (∃ v d, Dat.fits d (efO o) ∧ d.at base h h ∧ k v (d.app base h) ∧ ∀ (g : Heap) (k' : HV → Heap → Prop), d.at base h g → k' v (d.app base g) → hstep base o e g k') → ∃ v d, Dat.fits d (efOC (.op o)) ∧ d.at base h h ∧ k v (d.app base h) ∧
        ∀ (e' : Env) (g : Heap) (k' : HV → Heap → Prop), (∀ t ∈ usesOC (.op o), e.get t = e'.get t) → d.at base h g → k' v (d.app base g) → hcall (DCalls P) base (.op o) e' g k' := by
      rintro ⟨v, d, h1, h2, h3, h4⟩
      refine ⟨v, d, h1, h2, h3, fun e' g k' he hg hk => ?_⟩
      show hstep base o e' g k'
      rw [step_agree (e := e) (e' := e') he]
      exact h4 g k' hg hk
    have hs' : hstep base o e h k := hs
    cases hef : efO o with
    | pure =>
      obtain ⟨v, h1, h2⟩ := pure_det hef hsl hs'
      refine go ⟨v, .same false, trivial, trivial, h1, fun g k' _ hk => ?_⟩
      rw [pure_any (base := base) (e := e) (h := g) (k := k') hef (hsl true) (hsl false) h]
      exact h2 (fun v _ => k' v g) hk
    | read =>
      obtain ⟨v, h1, h2⟩ := read_dat (.inl hef) hs'
      exact go ⟨v, .same true, by rw [hef]; trivial, fun _ _ h _ => h, h1, fun g k' hg hk => h2 g k' hg hk⟩
    | rdmap =>
      obtain ⟨v, h1, h2⟩ := read_dat (.inr hef) hs'
      exact go ⟨v, .same true, by rw [hef]; trivial, fun _ _ h _ => h, h1, fun g k' hg hk => h2 g k' hg hk⟩
    | alloc => exact go (hef ▸ alloc_dat hef hpl hs')
    | tok => exact go (hef ▸ tok_dat hef hs')
    | pcall => exact absurd hef (by cases o <;> first | (simp [efO]; done) | (rename_i c _; cases c <;> simp [efO]))
    | act =>
      obtain ⟨v, h', h1, h2⟩ := act_det hef hnx hs'
      exact go ⟨v, .any h h', by rw [hef]; trivial, rfl, h1, fun g k' hg hk => by rw [show g = h from hg]; exact h2 k' hk⟩


theorem set_keeps {id : Nat} {o x : HObj} (hx : h[id]? = some x) (hl : ¬ x.live) : Keeps h (h.set id o) := by
  intro j y hy hyl
  rw [List.getElem?_set]
  split
  · rename_i e1; subst e1; rw [hx] at hy; injection hy with hy; subst hy; exact absurd hyl hl
  · exact hy
theorem get_lt {h : Heap} {id : Nat} {x : HObj} (hx : h[id]? = some x) : id < h.length := by
  rcases Nat.lt_or_ge id h.length with h1 | h1
  · exact h1
  · rw [List.getElem?_eq_none h1] at hx; cases hx
theorem dat_swap {x y : Ef} {c d : Dat} (hs : swaps x y = true) (hc : c.fits x) (hd : d.fits y) (h1 : c.at base h h) (h2 : d.at base (c.app base h) (c.app base h)) :
    d.at base (c.app base h) h ∧ c.at base h (d.app base h) ∧ d.app base (c.app base h) = c.app base (d.app base h) := by
  cases c with
  | same rd =>
    simp only [Dat.app] at h2 ⊢
    refine ⟨h2, ?_, trivial⟩
    cases rd with
    | false => trivial
    | true =>
      cases d with
      | same _ => exact fun _ _ h _ => h
      | res j ob => exact set_keeps h2.2 (by simp [HObj.live])
      | tnew n => intro id z hz _; simp only [Dat.app]; rw [List.getElem?_append_left (get_lt hz)]; exact hz
      | tset id m n => exact set_keeps h2 (by simp [HObj.live])
      | any h0 h1' => cases y <;> simp [Dat.fits] at hd <;> cases x <;> simp [Dat.fits] at hc <;> simp [swaps] at hs
  | res j ob =>
    obtain ⟨hl, hr⟩ := h1
    cases x <;> simp only [Dat.fits] at hc
    simp only [Dat.app] at h2 ⊢
    cases d with
    | same rd =>
      cases rd with
      | false => exact ⟨trivial, ⟨hl, hr⟩, rfl⟩
      | true => cases y <;> simp [Dat.fits] at hd <;> simp [swaps] at hs
    | res j' ob' =>
      have hne : base + j ≠ base + j' := by
        intro e1
        have := h2.2
        rw [← e1, List.getElem?_set] at this
        simp only [if_true, get_lt hr] at this
        injection this with this
        subst this
        exact hl.elim
      have h3 : h[base + j']? = some .res := by
        have := h2.2
        rwa [List.getElem?_set, if_neg hne] at this
      refine ⟨⟨h2.1, h3⟩, ⟨hl, ?_⟩, ?_⟩
      · simp only [Dat.app]; rw [List.getElem?_set, if_neg (Ne.symm hne)]; exact hr
      · simp only [Dat.app]; exact List.set_comm _ _ hne
    | tnew n =>
      simp only [Dat.at, List.length_set] at h2 ⊢
      refine ⟨trivial, ⟨hl, ?_⟩, ?_⟩
      · rw [List.getElem?_append_left (get_lt hr)]; exact hr
      · rw [List.set_append_left _ _ (get_lt hr)]
    | tset id m n =>
      simp only [Dat.at] at h2 ⊢
      have hne : base + j ≠ id := by
        intro e1
        rw [← e1, List.getElem?_set] at h2
        simp only [if_true, get_lt hr] at h2
        injection h2 with h2
        subst h2
        exact hl.elim
      rw [List.getElem?_set, if_neg hne] at h2
      refine ⟨h2, ⟨hl, ?_⟩, ?_⟩
      · rw [List.getElem?_set, if_neg (Ne.symm hne)]; exact hr
      · exact List.set_comm _ _ hne
    | any h0 h1' => cases y <;> simp [Dat.fits] at hd <;> simp [swaps] at hs
  | tnew n =>
    cases x <;> simp only [Dat.fits] at hc
    simp only [Dat.app] at h2 ⊢
    cases d with
    | same rd =>
      cases rd with
      | false => exact ⟨trivial, rfl, rfl⟩
      | true =>
        refine ⟨fun id z hz hzl => ?_, rfl, rfl⟩
        rw [List.getElem?_append] at hz
        split at hz
        · exact hz
        · rename_i hlt
          cases hq : id - h.length with
          | zero => rw [hq] at hz; simp at hz; subst hz; exact hzl.elim
          | succ q => rw [hq] at hz; simp at hz
    | res j ob =>
      obtain ⟨hl, hr⟩ := h2
      have hlt : base + j < h.length := by
        rw [List.getElem?_append] at hr
        split at hr
        · assumption
        · cases hq : base + j - h.length with
          | zero => rw [hq] at hr; simp at hr
          | succ q => rw [hq] at hr; simp at hr
      rw [List.getElem?_append_left hlt] at hr
      refine ⟨⟨hl, hr⟩, by simp [Dat.app, Dat.at], ?_⟩
      simp only [Dat.app]; rw [List.set_append_left _ _ hlt]
    | tnew m => cases y <;> simp [Dat.fits] at hd <;> simp [swaps] at hs
    | tset id m q => cases y <;> simp [Dat.fits] at hd <;> simp [swaps] at hs
    | any h0 h1' => cases y <;> simp [Dat.fits] at hd <;> simp [swaps] at hs
  | tset id m n =>
    cases x <;> simp only [Dat.fits] at hc
    have h1' : h[id]? = some (.tok m) := h1
    simp only [Dat.app] at h2 ⊢
    cases d with
    | same rd =>
      cases rd with
      | false => exact ⟨trivial, h1, rfl⟩
      | true =>
        refine ⟨fun j z hz hzl => ?_, h1, rfl⟩
        rw [List.getElem?_set] at hz
        split at hz
        · rename_i e1
          subst e1
          simp only [get_lt h1', if_true] at hz
          injection hz with hz
          subst hz
          exact hzl.elim
        · exact hz
    | res j ob =>
      obtain ⟨hl, hr⟩ := h2
      have hne : id ≠ base + j := by
        intro e1
        rw [e1, List.getElem?_set] at hr
        simp only [if_true, ← e1, get_lt h1'] at hr
        injection hr with hr
        cases hr
      rw [List.getElem?_set, if_neg hne] at hr
      refine ⟨⟨hl, hr⟩, ?_, ?_⟩
      · simp only [Dat.app, Dat.at]; rw [List.getElem?_set, if_neg (Ne.symm hne)]; exact h1'
      · simp only [Dat.app]; exact List.set_comm _ _ hne
    | tnew m => cases y <;> simp [Dat.fits] at hd <;> simp [swaps] at hs
    | tset id m q => cases y <;> simp [Dat.fits] at hd <;> simp [swaps] at hs
    | any h0 h1' => cases y <;> simp [Dat.fits] at hd <;> simp [swaps] at hs
  | any h0 h1' =>
    cases x <;> simp only [Dat.fits] at hc
    cases d with
    | same rd =>
      cases rd with
      | false => exact ⟨trivial, h1, rfl⟩
      | true => cases y <;> simp [Dat.fits] at hd <;> simp [swaps] at hs
    | _ => cases y <;> simp [Dat.fits] at hd <;> simp [swaps] at hs


def hop1 (S : CallP) (base : Nat) (o : Op) (e : Env) (h : Heap) (k : HV → Heap → Prop) : Prop :=
  match o.guard with
  | none => hcall S base o.o e h k
  | some (t, b) => match e.get t with
    | some (.bool c) => (c = b → hcall S base o.o e h k) ∧ (c ≠ b → k (.tuple []) h)
    | some (.tuple []) => k (.tuple []) h
    | _ => False
theorem hops_cons {S : CallP} {o : Op} {r : List Op} {Q : Env → Heap → Prop} : hops S base (o :: r) e h Q = hop1 S base o e h fun v h' => hops S base r (e.put o.dst v) h' Q := by
  unfold hop1
  simp only [hops]
  rfl
theorem op_dat {o : Op} (hq : quiet o.o) (hs : hop1 (DCalls P) base o e h k) : ∃ v d, Dat.fits d (efOC o.o) ∧ d.at base h h ∧ k v (d.app base h) ∧
    ∀ (e' : Env) (g : Heap) (k' : HV → Heap → Prop), (∀ t ∈ usesOp o, e.get t = e'.get t) → d.at base h g → k' v (d.app base g) → hop1 (DCalls P) base o e' g k' := by
  unfold hop1 at hs ⊢
  cases hg : o.guard with
  | none =>
    simp only [hg] at hs
    obtain ⟨v, d, h1, h2, h3, h4⟩ := call_dat hq hs
    exact ⟨v, d, h1, h2, h3, fun e' g k' he hgg hk => h4 e' g k' (fun t ht => he t (by simp [usesOp, hg, ht])) hgg hk⟩
  | some p =>
    obtain ⟨t, b⟩ := p
    simp only [hg] at hs
    have hte : ∀ e' : Env, (∀ u ∈ usesOp o, e.get u = e'.get u) → e'.get t = e.get t := fun e' he => (he t (by simp [usesOp, hg])).symm
    cases hgt : e.get t with
    | none => simp only [hgt] at hs
    | some z =>
      simp only [hgt] at hs
      split at hs
      · rename_i c hz
        injection hz with hz
        subst hz
        by_cases hcb : c = b
        · obtain ⟨v, d, h1, h2, h3, h4⟩ := call_dat hq (hs.1 hcb)
          refine ⟨v, d, h1, h2, h3, fun e' g k' he hgg hk => ?_⟩
          simp only [hte e' he, hgt]
          exact ⟨fun _ => h4 e' g k' (fun t ht => he t (by simp [usesOp, hg, ht])) hgg hk, fun hn => absurd hcb hn⟩
        · refine ⟨.tuple [], .same false, trivial, trivial, hs.2 hcb, fun e' g k' he _ hk => ?_⟩
          simp only [hte e' he, hgt]
          exact ⟨fun hn => absurd hn hcb, fun _ => hk⟩
      · rename_i hz
        injection hz with hz
        subst hz
        refine ⟨.tuple [], .same false, trivial, trivial, hs, fun e' g k' he _ hk => ?_⟩
        simp only [hte e' he, hgt]
        exact hk
      · exact hs.elim


def EE (e e' : Env) : Prop := ∀ t, e.get t = e'.get t
theorem EE.put {e' : Env} (he : EE e e') (dst : Option Nat) (v : HV) : EE (e.put dst v) (e'.put dst v) := by
  intro t
  cases dst with
  | none => exact he t
  | some d => simp only [Env.put, Env.get, he t]
theorem get_put {dst : Option Nat} {v : HV} {t : Nat} (ht : dst ≠ some t) : (e.put dst v).get t = e.get t := by
  cases dst with
  | none => rfl
  | some d => simp only [Env.put, Env.get]; rw [if_neg (fun h => ht (by rw [h]))]
def Upto (Q : Env → Heap → Prop) : Env → Heap → Prop := fun e h => ∃ e', EE e' e ∧ Q e' h
theorem hops_env : ∀ {ops : List Op} {e e' : Env} {h : Heap} {Q : Env → Heap → Prop}, (∀ o ∈ ops, quiet o.o) → EE e e' → hops (DCalls P) base ops e h Q → hops (DCalls P) base ops e' h (Upto Q)
  | [], e, e', h, Q, _, he, hq => ⟨e, he, hq⟩
  | o :: r, e, e', h, Q, hall, he, hq => by
    rw [hops_cons] at hq ⊢
    obtain ⟨v, d, h1, h2, h3, h4⟩ := op_dat (hall o (by simp)) hq
    exact h4 e' h _ (fun t _ => he t) h2 (hops_env (fun x hx => hall x (by simp [hx])) (he.put o.dst v) h3)
theorem Upto.idem {Q : Env → Heap → Prop} (x : Upto (Upto Q) e h) : Upto Q e h := by
  obtain ⟨e1, h1, e2, h2, hq⟩ := x
  exact ⟨e2, fun t => (h2 t).trans (h1 t), hq⟩
theorem hops_mono : ∀ {ops : List Op} {e : Env} {h : Heap} {Q R : Env → Heap → Prop}, (∀ o ∈ ops, quiet o.o) → (∀ e h, Q e h → R e h) → hops (DCalls P) base ops e h Q → hops (DCalls P) base ops e h R
  | [], e, h, Q, R, _, hQR, hq => hQR e h hq
  | o :: r, e, h, Q, R, hall, hQR, hq => by
    rw [hops_cons] at hq ⊢
    obtain ⟨v, d, h1, h2, h3, h4⟩ := op_dat (hall o (by simp)) hq
    exact h4 e h _ (fun t _ => rfl) h2 (hops_mono (fun x hx => hall x (by simp [hx])) hQR h3)
def canSwap (x y : Op) : Prop := swaps (efOC x.o) (efOC y.o) = true ∧ indep x y = true
theorem hops_front : ∀ {pre post : List Op} {y : Op} {e : Env} {h : Heap} {Q : Env → Heap → Prop}, (∀ o ∈ pre ++ y :: post, quiet o.o) → (∀ x ∈ pre, canSwap x y) → hops (DCalls P) base (pre ++ y :: post) e h Q → hops (DCalls P) base (y :: (pre ++ post)) e h (Upto Q)
  | [], post, y, e, h, Q, hall, _, hq => hops_env hall (fun _ => rfl) hq
  | x :: pre, post, y, e, h, Q, hall, hsw, hq => by
    have hpost : ∀ o ∈ pre ++ post, quiet o.o := fun o ho => hall o (by simp at ho ⊢; rcases ho with h | h <;> simp [h])
    rw [List.cons_append, hops_cons] at hq
    obtain ⟨v, c, h1, h2, h3, h4⟩ := op_dat (hall x (by simp)) hq
    have h5 := hops_front (fun o ho => hall o (by simp at ho ⊢; exact .inr ho)) (fun o ho => hsw o (by simp [ho])) h3
    rw [hops_cons] at h5
    obtain ⟨u, d, k1, k2, k3, k4⟩ := op_dat (hall y (by simp)) h5
    obtain ⟨hs, hind⟩ := hsw x (by simp)
    obtain ⟨s1, s2, s3⟩ := dat_swap hs h1 k1 h2 k2
    simp only [indep, Bool.and_eq_true] at hind
    rw [hops_cons]
    refine k4 e h _ (fun t ht => ?_) s1 ?_
    · refine get_put ?_
      intro hd
      have := hind.1
      rw [hd] at this
      simp at this
      exact this.1 ht
    · rw [List.cons_append, hops_cons]
      refine h4 (e.put y.dst u) (d.app base h) _ (fun t ht => ?_) s2 ?_
      · refine (get_put ?_).symm
        intro hd
        have := hind.2
        rw [hd] at this
        simp at this
        exact this ht
      · rw [← s3]
        refine hops_mono hpost (fun _ _ hx => Upto.idem hx) (hops_env hpost ?_ k3)
        intro t
        cases hx : x.dst with
        | none => rfl
        | some a =>
          cases hy : y.dst with
          | none => rfl
          | some b =>
            have hab : a ≠ b := by
              intro hab
              have := hind.1
              rw [hx, hy] at this
              simp [hab] at this
            simp only [Env.put, Env.get]
            by_cases ha : a = t
            · subst ha; simp [Ne.symm hab]
            · by_cases hb : b = t
              · subst hb; simp [hab]
              · simp [ha, hb]
end Go.Hw

