import Derived.Test.YtonoaimefgodfaaHwF0
import Derived.ChangeKeysEq
import Derived.Laws.StructEq
import Derived.MapKept
set_option linter.unusedVariables false
set_option linter.unusedSimpArgs false
namespace Go.Hw
open Go

variable {P : Program}
section
variable {o : Oper} {a : Act} {K : GK} {w : World} {k : HV → Heap → Prop} {e : Env} {h : Heap} (base : Nat)

theorem ok_append {t u et : TypeId} {d : TypeDesc} {sz by_ : Nat} {z : HV} {ts : Array TypeId} {s x : Operand} {s' x' : X} (ho : o.op = .call { callee := .builtin .append, args := #[s, x], argTypes := ts }) (h0 : ts[0]? = some t) (h1 : ts[1]? = some u)
    (ht : P.underlying t = some (.slice et)) (hu : P.underlying u = some d) (hd : (∃ e, d = .slice e) ∨ d = .string)
    (hsz : tsize P et = some sz) (hby : tbytes P et = some by_) (hz : tzero P et = some z) (hzl : z.cells.length = sz) (hsz0 : sz ≠ 0) (hby0 : by_ ≠ 0) (hs : cX s = some s') (hx : cX x = some x')
    (hst : hstep base (.append sz by_ s' x') e h k) (hh : HeapRel K h w) (he : EnvRel K w e a.tmps) : Ok P o a K w k := by
  obtain ⟨cs, hrun⟩ := run_builtin (P := P) (w := w) (a := a) ho
  have hts : ∀ args, Builtin.append_ ts o.type args = Builtin.append_ #[t, u] o.type args := fun args => by simp [Builtin.append_, h0, h1]
  have fin : ∀ {y v K' w' h'}, (Builtin.append_ #[t, u] o.type #[a.eval s, a.eval x]).run P w = .ok v w' → Step K w K' w' → HeapRel K' h' w' → V K' w' y v → k y h' → Ok P o a K w k := by
    intro y v K' w' h' hr hs' hh' hV hk
    refine ⟨y, v, K', w', h', .inl ?_, hs', hh', hV, hk⟩
    rw [hrun]
    have : (#[s, x] : Array Operand).map a.eval = #[a.eval s, a.eval x] := by simp
    simp only [builtin, this, hts, Sem.run_bind, hr, Result.andThen_ok, Sem.run_pure]
  simp only [hstep] at hst
  split at hst
  · rename_i hl tok ys tok' hev1 hev2
    have hs' := ev_sound hs he hev1
    have hx' := ev_sound hx he hev2
    obtain ⟨hap, htup⟩ := hst
    have hyw : ∀ y ∈ ys, y.cells.length = sz := by
      intro y hy
      rw [← strip1_cells y]
      exact hap.1.2 _ (List.mem_map_of_mem hy)
    obtain ⟨news, hsrc, hy⟩ := src_list (P := P) hx' hyw
    obtain ⟨y, v, K', w', h', hr, hst', hh', hV, hk⟩ := happend_sound (P := P) (ys := ys.map HV.strip1) (news := news) ht hu hd hsz hby hz hzl hsz0 hby0 hs' (by rw [List.length_map]; exact hsrc)
      (fun j y hjy => by
        obtain ⟨y0, h2, h3, h4⟩ := flat_strip1 htup j y hjy
        obtain ⟨l, u', hu', hV⟩ := hy j y0 h2
        exact ⟨by rw [h3]; exact l, u', hu', h4 _ _ _ hV⟩) hap hh o.type
    exact fin hr hst' hh' hV hk
  · rename_i hl tok ys hev1 hev2
    have hs' := ev_sound hs he hev1
    have hx' := ev_sound hx he hev2
    generalize hcx : a.eval x = cx at hx' fin
    cases hx'
    obtain ⟨rfl, hst⟩ := hst
    obtain ⟨y, v, K', w', h', hr, hst', hh', hV, hk⟩ := happend_sound (P := P) (ys := bytesOf ys) (news := ys.map fun c => .int .u8 c.toNat) ht hu hd hsz hby hz hzl hsz0 hby0 hs' (by
        have := src_str (P := P) (w := w) ys
        simpa [bytesOf] using this)
      (fun j y hjy => by
        rw [flat_bytesOf] at hjy
        simp only [bytesOf, List.getElem?_map, Option.map_eq_some_iff] at hjy
        obtain ⟨c, hc, rfl⟩ := hjy
        exact ⟨rfl, .int .u8 c.toNat, by simp [hc], .int _ _⟩) hst hh o.type
    exact fin hr hst' hh' hV hk
  · exact hst.elim

theorem ok_toBytes {src dst et : TypeId} {x : Operand} {y : X} (ho : o.op = .convert src dst x) (h1 : P.underlying src = some .string) (h2 : P.underlying dst = some (.slice et)) (h2' : P.underlying et = some (.int .u8)) (hx : cX x = some y) (hs : hstep base (.conv .toBytes y) e h k) (hh : HeapRel K h w) (he : EnvRel K w e a.tmps) : Ok P o a K w k := by
  simp only [hstep] at hs
  cases hev : y.ev e with
  | none => rw [hev] at hs; exact hs.elim
  | some zz =>
  rw [hev] at hs
  cases zz <;> try exact hs.elim
  rename_i s
  have hx' := ev_sound hx he hev
  generalize hcx : a.eval x = cx at hx'
  cases hx'
  generalize hgc : grownCap w s.length 0 et = gc
  have hge : s.length ≤ gc := by rw [← hgc]; exact grownCap_big w s.length 0 et
  generalize hcells : (s.map (fun c : UInt8 => Value.int .u8 (c.toNat : Int)) ++ List.replicate (gc - s.length) (Value.int .u8 0)).toArray = cells
  have hcsz : cells.size = gc := by rw [← hcells]; simp; omega
  have hrun : (execOp a.eval o).run P w = .ok (.value (.slice (some ⟨w.heap.size, 0, none⟩) s.length gc)) ((w.drew.alloc (.cells cells et)).freeze { block := w.heap.size, off := cells.size } 1) := by
    simp only [execOp, ho, hcx, Sem.run_bind, convert, run_underlying h1, run_underlying h2, run_underlying h2', Result.andThen_ok, Conv.stringToBytes, run_choose, Question.forced, Bool.false_eq_true, if_false, size_mk, newRow, run_newObj, Sem.run_pure, markStringish, run_shape]
    have e1 : (Question.appendCap s.length 0 et).cut (w.tape w.drawn (.appendCap s.length 0 et)) = gc := hgc
    simp only [e1]
    have e2 : (Array.map (fun b => Value.int IntKind.u8 (b.toNat : Int)) s.toArray ++ Array.replicate (gc - s.length) (Value.int IntKind.u8 0)) = cells := by
      rw [← hcells]; apply Array.ext'; simp
    simp only [e2]
    have e3 : (World.shape? (w.drew.alloc (.cells cells et)) w.heap.size) = some (et, cells.size) := by
      have := heap_alloc_new w.drew (.cells cells et)
      unfold World.shape?
      rw [show w.heap.size = w.drew.heap.size from rfl, this]
    rw [show (⟨w.heap.push (.cells cells et), w.tape, w.drawn + 1, w.os, w.output⟩ : World) = w.drew.alloc (.cells cells et) from rfl, e3]
    rfl
  have hheap : ((w.drew.alloc (.cells cells et)).freeze { block := w.heap.size, off := cells.size } 1).heap = w.heap.push (.cells cells et (cells.size, cells.size + 1)) := by
    simp only [World.freeze, World.alloc, World.drew, if_neg (show ¬ (1 = 0) by omega)]
    apply Array.ext_getElem?
    intro q
    rw [Array.getElem?_modify]
    by_cases hq : w.heap.size = q
    · subst hq; simp
    · simp only [if_neg hq, Array.getElem?_push, if_neg (Ne.symm hq)]
  have htp : TokPlace h (h ++ [.tok (1 + s.length)]) h.length (1 + s.length) := .inr ⟨rfl, rfl, by omega⟩
  obtain ⟨st, hh'⟩ := tok_push' (w' := (w.drew.alloc (.cells cells et)).freeze { block := w.heap.size, off := cells.size } 1) (n := s.length) hh htp hheap rfl tk rfl (by omega) (fun i hi => by simp; omega)
  have hnb : ((w.drew.alloc (.cells cells et)).freeze { block := w.heap.size, off := cells.size } 1).heap[w.heap.size]? = some (.cells cells et (cells.size, cells.size + 1)) := by rw [hheap]; simp
  have hfl : (flat (bytesOf s)).length = s.length := by rw [flat_bytesOf]; simp [bytesOf]
  have hV := V_newlist (K' := (K.limAt w.heap.size s.length).tokAt h.length (1 + s.length) (some w.heap.size)) (w' := (w.drew.alloc (.cells cells et)).freeze { block := w.heap.size, off := cells.size } 1) (xs := bytesOf s) (us := []) (sz := 1) (b := w.heap.size) (cap := gc) (tok := .own h.length 1 1) (c := cells) (et := et) (fr := (cells.size, cells.size + 1))
    (fun x hx => by simp only [bytesOf, List.mem_map] at hx; obtain ⟨c, _, rfl⟩ := hx; rfl)
    (fun j y hjy => by
      rw [flat_bytesOf] at hjy
      have hj := lt_of_get hjy
      simp only [bytesOf, List.getElem?_map, Option.map_eq_some_iff] at hjy
      obtain ⟨c, hc, rfl⟩ := hjy
      refine ⟨rfl, .int .u8 c.toNat, ?_, .int _ _⟩
      rw [← hcells]
      simp only [List.getElem?_toArray]
      rw [List.getElem?_append_left (by simpa [bytesOf] using hj)]
      simp [hc])
    hnb (by rw [hfl]; simp [GK.limAt, GK.tokAt]) (by simpa [bytesOf] using hge)
    ⟨by simp [GK.tokAt, bytesOf], by rw [hfl]; simp [bytesOf], fun _ => .inr ⟨by simp [GK.tokAt, GK.limAt], by rw [hfl]; simp [GK.tokAt, GK.limAt], cells, et, _, hnb, by omega⟩⟩
  refine ⟨_, _, _, _, _, .inl hrun, st, hh', ?_, hs⟩
  simpa [bytesOf] using hV

theorem rep_get {α : Type} (z : List α) : ∀ (m j : Nat), j < m * z.length → (List.replicate m z).flatten[j]? = z[j % z.length]?
  | 0, j, h => by simp at h
  | m + 1, j, h => by
    rw [List.replicate_succ, List.flatten_cons, List.getElem?_append]
    split
    · rename_i hlt; rw [Nat.mod_eq_of_lt hlt]
    · rename_i hge
      rw [rep_get z m (j - z.length) (by rw [Nat.succ_mul] at h; omega)]
      congr 1
      rw [← Nat.mod_eq_sub_mod (by omega)]
theorem ok_mkslice {t et : TypeId} {sz by_ : Nat} {z : HV} {l c : Operand} {l' c' : X} {r : Option Nat} (ho : o.op = .makeSlice t l c) (ht : P.underlying t = some (.slice et)) (hsz : tsize P et = some sz) (hby : tbytes P et = some by_) (hz : tzero P et = some z) (hsz0 : sz ≠ 0) (hl : cX l = some l') (hc : cX c = some c')
    (hs : hstep base (.mkslice r sz by_ z.cells l' c') e h k) (hh : HeapRel K h w) (he : EnvRel K w e a.tmps) : Ok P o a K w k := by
  simp only [hstep] at hs
  split at hs
  · rename_i n m h1 h2
    obtain ⟨⟨rfl, hn0, hn63, hfit, hzl⟩, hs⟩ := hs
    have hl' := ev_sound hl he h1
    have hc' := ev_sound hc he h2
    generalize hcl : a.eval l = cl at hl'
    generalize hcc : a.eval c = cc at hc'
    cases hl'; cases hc'
    obtain ⟨i, u, hi, hu, hcon⟩ := tzero_info hz
    have hu2 := (V_hconst (K := K) (w := w) hcon)
    have husz : u.cells.size = sz := by rw [← (hu2.cells (hconst_tuple hcon)).1]; exact hzl
    have hisz : i.size = sz := by simp [tsize, hi] at hsz; exact hsz
    have hiby : i.bytes = by_ := by simp [tbytes, hi] at hby; exact hby
    obtain ⟨m, rfl⟩ : ∃ m : Nat, n = m := ⟨n.toNat, by omega⟩
    simp only [Int.toNat_natCast] at hs
    subst hisz; subst hiby
    generalize hzr : (Array.range (m * i.size)).map (u.cells[· % u.cells.size]!) = cells
    have hmb : m * i.bytes ≤ 281474976710656 := by
      have : ((m * i.bytes : Nat) : Int) ≤ 281474976710656 := by rw [Int.natCast_mul]; exact hfit
      omega
    have hwrap : IntKind.i64.wrap (m : Int) = m := by
      simp [IntKind.wrap, IntKind.signed, IntKind.bits]; omega
    have hcsz : cells.size = m * i.size := by rw [← hzr]; simp
    have hflat : ((List.replicate m z.cells).flatten).length = m * i.size := by simp [hzl]
    have hrun : (execOp a.eval o).run P w = .ok (.value (.slice (some ⟨w.heap.size, 0, none⟩) m m)) (w.alloc (.cells cells et)) := by
      have e1 : ¬ ((m : Int) < 0) := by omega
      have e2 : ¬ ((i.bytes : Int) * (m : Int) > 2 ^ 48) := by
        have : ((m * i.bytes : Nat) : Int) ≤ 281474976710656 := by omega
        rw [Int.natCast_mul, Int.mul_comm] at this
        omega
      have e3 : ¬ ((m : Int) > m) := by omega
      by_cases h0 : m * i.size = 0
      · have hc0 : cells = #[] := Array.eq_empty_of_size_eq_zero (by rw [hcsz, h0])
        simp only [execOp, ho, hcl, hcc, Instr.makeSlice, Sem.run_bind, run_underlying ht, Result.andThen_ok, asInt, asIntOf, Sem.run_pure, run_typeInfo w hi, hwrap, e1, e2, e3, decide_false, Bool.or_self, Bool.false_eq_true, if_false, run_askRoom, Int.toNat_natCast, run_sizeOf' hsz, h0, if_true, newRow, run_newObj, hc0]
        simp [show Array.range 0 = #[] from rfl]
      · simp only [execOp, ho, hcl, hcc, Instr.makeSlice, Sem.run_bind, run_underlying ht, Result.andThen_ok, asInt, asIntOf, Sem.run_pure, run_typeInfo w hi, hwrap, e1, e2, e3, decide_false, Bool.or_self, Bool.false_eq_true, if_false, run_askRoom, Int.toNat_natCast, run_sizeOf' hsz, h0, run_zeroValue hi hu, newRow, run_newObj, hzr]
        rfl
    have hok : ∀ K' : GK, Step K w K' (w.alloc (.cells cells et)) → ObjOk K' (w.alloc (.cells cells et)) w.heap.size (.cells (List.replicate m z.cells).flatten) := fun K' s => by
      refine ⟨cells, et, (0, 0), heap_alloc_new w _, by omega, fun _ _ => by omega, fun j x hx => ?_⟩
      have hj : j < m * i.size := by rw [← hflat]; exact lt_of_get hx
      rw [rep_get _ _ _ (by rw [hzl]; exact hj), hzl] at hx
      obtain ⟨c1, c2, c3⟩ := hu2.cells (hconst_tuple hcon)
      have hlt := lt_of_get hx
      refine ⟨c2 x (List.mem_of_getElem? hx), u.cells[j % i.size]!, ?_, ?_⟩
      · rw [← hzr]
        simp [hj, husz]
      · refine (c3 _ x _ hx ?_).step s
        rw [getElem!_pos u.cells (j % i.size) (by omega)]
        simp
    cases r with
    | none =>
      obtain ⟨s, hh'⟩ := push_obj (id := h.length) (w' := w.alloc (.cells cells et)) (ob := .cells cells et) (x := .cells (List.replicate m z.cells).flatten) hh rfl rfl tk rfl (.inr ⟨rfl, rfl⟩) (by simp) hok
      exact ⟨_, _, _, _, _, .inl hrun, s, hh', .arr _ 0 m i.size w.heap.size m 0 (by simp [GK.rhoAt]) (Nat.le_refl _) (fun _ => rfl) ⟨cells, et, (0, 0), heap_alloc_new w _, by omega⟩, hs⟩
    | some j =>
      obtain ⟨s, hh'⟩ := push_obj (id := base + j) (w' := w.alloc (.cells cells et)) (ob := .cells cells et) (x := .cells (List.replicate m z.cells).flatten) hh rfl rfl tk rfl (.inl ⟨hs.1, rfl⟩) (by simp) hok
      exact ⟨_, _, _, _, _, .inl hrun, s, hh', .arr _ 0 m i.size w.heap.size m 0 (by simp [GK.rhoAt]) (Nat.le_refl _) (fun _ => rfl) ⟨cells, et, (0, 0), heap_alloc_new w _, by omega⟩, hs.2⟩
  · exact hs.elim
theorem ok_mkarr {t et : TypeId} {len sz : Nat} {parts : Array (Nat × Operand)} {ys : List X} {z : HV} {r : Option Nat} (ho : o.op = .buildSlice t len parts) (ht : P.underlying t = some (.slice et)) (hsz : tsize P et = some sz) (hsz0 : sz ≠ 0) (hz : tzero P et = some z) (hzl : z.cells.length = sz)
    (hx : (parts.toList.map (·.2)).mapM cX = some ys) (hidx : parts.toList.map (·.1) = List.range len) (hbig : len * sz ≤ 2 ^ 24)
    (hs : hstep base (.mkarr r sz ys) e h k) (hh : HeapRel K h w) (he : EnvRel K w e a.tmps) : Ok P o a K w k := by
  simp only [hstep] at hs
  split at hs
  · rename_i vs hev
    obtain ⟨hwid, hk⟩ := hs
    obtain ⟨h1, h2⟩ := evs_sound he hx hev
    obtain ⟨i, u, hi, hu, hc⟩ := tzero_info hz
    have hucs := (V_hconst (K := K) (w := w) hc).cells (hconst_tuple hc)
    have hlen : vs.length = len := by
      rw [h1, List.length_map, ← List.length_map (f := (·.1)), hidx, List.length_range]
    have husz : u.cells.size = sz := by rw [← hucs.1]; exact hzl
    generalize hus : parts.toList.map (fun p => a.eval p.2) = us
    have husl : us.length = len := by rw [← hus, List.length_map, ← List.length_map (f := (·.1)), hidx, List.length_range]
    have hpair : ∀ (j : Nat) (x : HV) (v : Value), vs[j]? = some x → us[j]? = some v → V K w x v := by
      intro j x v hxj hvj
      rw [← hus, List.getElem?_map] at hvj
      obtain ⟨p, hp, rfl⟩ := Option.map_eq_some_iff.1 hvj
      exact h2 j x p.2 hxj (by rw [List.getElem?_map, hp]; rfl)
    have hcell : ∀ v ∈ us, v.cells.size = sz := by
      intro v hv
      obtain ⟨j, hj⟩ := mem_get hv
      obtain ⟨x, hxj⟩ := get_of_lt (l := vs) (j := j) (by rw [hlen, ← husl]; exact lt_of_get hj)
      have hm := hwid x (List.mem_of_getElem? hxj)
      rw [← ((hpair j x v hxj hj).cells (isTuple_false hm.2)).1]; exact hm.1
    -- the run
    generalize hzr : (Array.range (len * sz)).map (u.cells[· % u.cells.size]!) = cur
    have hcursz : cur.size = (0 + us.length) * sz := by rw [← hzr, husl]; simp
    obtain ⟨out, hfill, hout⟩ := fill_seq sz us 0 cur hcursz hcell
    have hparts : (parts.map fun (p : Nat × Operand) => (p.1, a.eval p.2)).toList = (List.range' 0 us.length).zip us := by
      rw [Array.toList_map, ← hus, List.length_map]
      have : parts.toList.length = len := by rw [← List.length_map (f := (·.1)), hidx, List.length_range]
      rw [this]
      exact zip_map_range' a.eval parts.toList len (by rw [hidx, List.range_eq_range'])
    have hrun : (execOp a.eval o).run P w = .ok (.value (.slice (some ⟨w.heap.size, 0, none⟩) len len)) (w.alloc (.cells out et)) := by
      simp only [execOp, ho, Sem.run_bind]
      have : (Instr.buildSlice t len (parts.map fun (p : Nat × Operand) => (p.1, a.eval p.2))).run P w = .ok (.slice (some ⟨w.heap.size, 0, none⟩) len len) (w.alloc (.cells out et)) := by
        simp only [Instr.buildSlice, Sem.run_bind, run_underlying ht, Result.andThen_ok, run_sizeOf' hsz]
        rw [if_neg (by omega)]
        by_cases hz0 : len * sz = 0
        · have hl0 : len = 0 := by
            rcases Nat.mul_eq_zero.1 hz0 with h | h
            · exact h
            · exact absurd h hsz0
          subst hl0
          have hus0 : us = [] := List.eq_nil_of_length_eq_zero husl
          subst hus0
          simp only [hz0, if_true, Sem.run_pure, Result.andThen_ok, hparts]
          simp [Instr.fill] at hfill hout
          subst hfill
          simp [Instr.fill, newRow, hout, Array.range_zero']
        · simp only [if_neg hz0, Sem.run_bind, run_zeroValue hi hu, Sem.run_pure, Result.andThen_ok, hparts, hzr, hfill, newRow, run_newObj]
          simp
      simp only [this, Result.andThen_ok, Sem.run_pure]
    have hxt : ∀ x ∈ vs.map HV.strip1, ∀ cs, x ≠ .tuple cs := by
      intro x hx
      obtain ⟨y, hy, rfl⟩ := List.mem_map.1 hx
      exact isTuple_false (strip1_tuple (hwid y hy).2)
    have hpair' : ∀ (j : Nat) (x : HV) (v : Value), (vs.map HV.strip1)[j]? = some x → us[j]? = some v → V K w x v := by
      intro j x v hx hv
      rw [List.getElem?_map] at hx
      obtain ⟨y, hy, rfl⟩ := Option.map_eq_some_iff.1 hx
      exact (hpair j y v hy hv).strip1
    obtain ⟨hf1, hf2⟩ := flat_vals (K := K) (w := w) (xs := vs.map HV.strip1) (vs := us) (by simp [hlen, husl]) hxt hpair'
    have hwid' : ∀ x ∈ vs.map HV.strip1, x.cells.length = sz := by
      intro x hx
      obtain ⟨y, hy, rfl⟩ := List.mem_map.1 hx
      rw [strip1_cells]; exact (hwid y hy).1
    have hfl : (flat (vs.map HV.strip1)).length = len * sz := by rw [flat_length hwid', List.length_map, hlen]
    have hosz : out.size = len * sz := by
      rw [← Array.length_toList, hout]
      have : ∀ (us : List Value), (∀ v ∈ us, v.cells.size = sz) → (us.flatMap fun v => v.cells.toList).length = us.length * sz := by
        intro us
        induction us with
        | nil => simp
        | cons v r ih =>
          intro hv
          rw [List.flatMap_cons, List.length_append, ih (fun u hu => hv u (by simp [hu])), List.length_cons, Nat.add_mul]
          have := hv v (by simp)
          simp only [Array.length_toList]
          omega
      simp [this us hcell, husl]
    have hok : ∀ K' : GK, Step K w K' (w.alloc (.cells out et)) → ObjOk K' (w.alloc (.cells out et)) w.heap.size (.cells (flat (vs.map HV.strip1))) := fun K' s => by
      refine ⟨out, et, (0, 0), heap_alloc_new w _, by omega, fun _ _ => by omega, fun j x hx => ?_⟩
      obtain ⟨l, u', hu', hV⟩ := hf2 j x hx
      refine ⟨l, u', ?_, hV.step s⟩
      rw [← Array.getElem?_toList, hout]
      simpa using hu'
    have hvl : vs.length = len := hlen
    cases r with
    | none =>
      obtain ⟨s, hh'⟩ := push_obj (id := h.length) (w' := w.alloc (.cells out et)) (ob := .cells out et) (x := .cells (flat (vs.map HV.strip1))) hh rfl rfl tk rfl (.inr ⟨rfl, rfl⟩) (by simp) hok
      refine ⟨_, _, _, _, _, .inl hrun, s, hh', ?_, hk⟩
      rw [hvl]
      exact .arr _ 0 len sz w.heap.size len 0 (by simp [GK.rhoAt]) (Nat.le_refl _) (fun _ => rfl) ⟨out, et, (0, 0), heap_alloc_new w _, by omega⟩
    | some j =>
      obtain ⟨s, hh'⟩ := push_obj (id := base + j) (w' := w.alloc (.cells out et)) (ob := .cells out et) (x := .cells (flat (vs.map HV.strip1))) hh rfl rfl tk rfl (.inl ⟨hk.1, rfl⟩) (by simp) hok
      refine ⟨_, _, _, _, _, .inl hrun, s, hh', ?_, hk.2⟩
      rw [hvl]
      exact .arr _ 0 len sz w.heap.size len 0 (by simp [GK.rhoAt]) (Nat.le_refl _) (fun _ => rfl) ⟨out, et, (0, 0), heap_alloc_new w _, by omega⟩
  · exact hs.elim
end
end Go.Hw

set_option linter.unusedVariables false
set_option linter.unusedSimpArgs false
namespace Go.Hw
open Go

variable {P : Program} {K : GK} {w : World}

theorem scOf_bool {t : TypeId} (h : scOf P t = some .b) : P.underlying t = some .bool := by
  unfold scOf at h; split at h <;> simp_all
theorem scOf_int {t : TypeId} (h : scOf P t = some .i) : ∃ k, P.underlying t = some (.int k) := by
  unfold scOf at h; split at h <;> simp_all
theorem scOf_str {t : TypeId} (h : scOf P t = some .s) : P.underlying t = some .string := by
  unfold scOf at h; split at h <;> simp_all
theorem scOf_isAgg {k : Sc} {t : TypeId} (h : scOf P t = some k) : (isAgg t).run P w = .ok false w := by
  cases k with
  | b => exact run_isAgg (scOf_bool h) w
  | i => obtain ⟨_, hu⟩ := scOf_int h; exact run_isAgg hu w
  | s => exact run_isAgg (scOf_str h) w
theorem run_part1 {k : Sc} {t : TypeId} (h : scOf P t = some k) {us : Array Value} {i : Nat} {v : Value} (hv : us[i]? = some v) : (part t us i).run P w = .ok v w := by
  simp only [part, Sem.run_bind, scOf_isAgg h, Result.andThen_ok, Bool.false_eq_true, if_false, hv, Sem.run_pure]

theorem sc_run {k : Sc} {t : TypeId} {x y : HV} {u v : Value} {b : Bool} (ht : scOf P t = some k) (hx : V K w x u) (hy : V K w y v) (h : Sc.eq k x y = some b) :
    (∀ d, (Op.equalIn (d + 1) t u v).run P w = .ok b w) ∧ (∃ d, P.underlying t = some d ∧ Instr.sameNow d u v = some b) ∧ (b = true → v = u ∧ ∀ n, Instr.sameBits n u u = true) := by
  cases k with
  | b =>
    have hu := scOf_bool ht
    cases x <;> cases y <;> simp [Sc.eq] at h
    cases hx; cases hy
    subst h
    refine ⟨fun d => run_equalIn_bool' w d t _ _ hu, ⟨_, hu, rfl⟩, fun hb => ⟨?_, fun n => by cases n <;> simp [Instr.sameBits]⟩⟩
    rw [eq_of_beq hb]
  | i =>
    obtain ⟨q, hu⟩ := scOf_int ht
    cases x <;> cases y <;> simp [Sc.eq] at h
    obtain ⟨rfl, h⟩ := h
    cases hx; cases hy
    subst h
    refine ⟨fun d => run_equalIn_int w d t _ _ _ _ hu, ⟨_, hu, by simp [Instr.sameNow]⟩, fun hb => ⟨?_, fun n => by cases n <;> simp [Instr.sameBits]⟩⟩
    rw [eq_of_beq hb]
  | s =>
    have hu := scOf_str ht
    cases x <;> cases y <;> simp [Sc.eq] at h
    rename_i s1 s2
    cases hx; cases hy
    subst h
    refine ⟨fun d => ?_, ⟨_, hu, by rw [← str_eq]; rfl⟩, fun hb => ⟨?_, fun n => ?_⟩⟩
    · rw [run_equalIn_string w d t _ _ hu, ← beq_toListBytes, str_eq]
    · rw [eq_of_beq hb]
    · have : ((ByteArray.mk s1.toArray) == (ByteArray.mk s1.toArray)) = true := by rw [str_eq]; simp
      cases n <;> simpa [Instr.sameBits] using this


def Cells (K : GK) (w : World) (cs : List HV) (us : Array Value) (i : Nat) : Prop := ∀ (j : Nat) (z : HV), cs[j]? = some z → ∃ v, us[i + j]? = some v ∧ V K w z v
theorem Cells.tail {c : HV} {cs : List HV} {us : Array Value} {i : Nat} (h : Cells K w (c :: cs) us i) : Cells K w cs us (i + 1) := fun j z hz => by
  have := h (j + 1) z (by simpa using hz)
  rwa [Nat.add_assoc, Nat.add_comm 1 j]
theorem Cells.head {c : HV} {cs : List HV} {us : Array Value} {i : Nat} (h : Cells K w (c :: cs) us i) : ∃ v, us[i]? = some v ∧ V K w c v := by
  have := h 0 c rfl
  rwa [Nat.add_zero] at this
theorem Cells.ofAgg {cs : List HV} {us : List Value} (hn : cs.length = us.length) (hv : ∀ (j : Nat) (h : HV) (v : Value), cs[j]? = some h → us[j]? = some v → V K w h v) : Cells K w cs us.toArray 0 := fun j z hz => by
  obtain ⟨v, hvv⟩ := get_of_lt (l := us) (j := j) (by rw [← hn]; exact lt_of_get hz)
  exact ⟨v, by simpa using hvv, hv j z v hz hvv⟩
def flds (P : Program) (L : List Field) (i : Nat) : Prop := (L.zipIdx i).all (fun (f, j) => tsize P f.type == some 1 && f.offset == j && f.name != "_") = true
theorem flds_cons {f : Field} {L : List Field} {i : Nat} (h : flds P (f :: L) i) : f.offset = i ∧ f.name ≠ "_" ∧ flds P L (i + 1) := by
  unfold flds at h
  rw [List.zipIdx_cons, List.all_cons] at h
  simp only [Bool.and_eq_true, beq_iff_eq, bne_iff_ne] at h
  exact ⟨h.1.1.2, h.1.2, h.2⟩
theorem mapM_cons {α β : Type} {f : α → Option β} {a : α} {l : List α} {r : List β} (h : (a :: l).mapM f = some r) : ∃ b r', f a = some b ∧ l.mapM f = some r' ∧ r = b :: r' := by
  rw [List.mapM_cons] at h
  cases h1 : f a with
  | none => simp [h1] at h
  | some b =>
    cases h2 : l.mapM f with
    | none => simp [h1, h2] at h
    | some r' => simp [h1, h2] at h; exact ⟨b, r', rfl, rfl, h.symm⟩
theorem eqCells_cons {k : Sc} {ks : List Sc} {cs ds : List HV} {b : Bool} (h : eqCells (k :: ks) cs ds = some b) : ∃ c cs' d ds' p q, cs = c :: cs' ∧ ds = d :: ds' ∧ Sc.eq k c d = some p ∧ eqCells ks cs' ds' = some q ∧ b = (p && q) := by
  cases cs with
  | nil => simp [eqCells] at h
  | cons c cs =>
    cases ds with
    | nil => simp [eqCells] at h
    | cons d ds =>
      simp only [eqCells] at h
      split at h
      · rename_i p q h1 h2
        exact ⟨c, cs, d, ds, p, q, rfl, rfl, h1, h2, by injection h with h; exact h.symm⟩
      · cases h
theorem eqCells_nil {cs ds : List HV} {b : Bool} (h : eqCells [] cs ds = some b) : cs = [] ∧ ds = [] ∧ b = true := by
  cases cs <;> cases ds <;> simp [eqCells] at h
  exact ⟨rfl, rfl, h⟩
theorem run_fields (d : Nat) {us vs : Array Value} : ∀ (L : List Field) (i : Nat) (ks : List Sc) (cs ds : List HV) (b : Bool), flds P L i → L.mapM (fun f => scOf P f.type) = some ks → Cells K w cs us i → Cells K w ds vs i → eqCells ks cs ds = some b →
    (Op.eqFields (d + 1) us vs L).run P w = .ok b w
  | [], i, ks, cs, ds, b, _, hk, _, _, he => by
    simp at hk
    subst hk
    obtain ⟨_, _, rfl⟩ := eqCells_nil he
    rfl
  | f :: L, i, ks, cs, ds, b, hf, hk, hc, hd, he => by
    obtain ⟨h1, h2, h3⟩ := flds_cons hf
    obtain ⟨k, ks, h4, h5, rfl⟩ := mapM_cons hk
    obtain ⟨c, cs, d', ds, p, q, rfl, rfl, h6, h7, rfl⟩ := eqCells_cons he
    obtain ⟨u, hu, hU⟩ := hc.head
    obtain ⟨v, hv, hV⟩ := hd.head
    have ih := run_fields d L (i + 1) ks cs ds q h3 h5 hc.tail hd.tail h7
    have := (sc_run h4 hU hV h6).1 d
    simp only [Op.eqFields, if_pos h2, h1, Sem.run_bind, run_part1 h4 hu, run_part1 h4 hv, this, Result.andThen_ok]
    cases p with
    | false => rfl
    | true => simpa using ih
theorem run_items (d : Nat) {e : TypeId} {k : Sc} (he : scOf P e = some k) {us vs : Array Value} : ∀ (n i : Nat) (cs ds : List HV) (b : Bool), Cells K w cs us i → Cells K w ds vs i → eqCells (List.replicate n k) cs ds = some b →
    (Op.eqItems (d + 1) e 1 us vs (List.range' i n)).run P w = .ok b w
  | 0, i, cs, ds, b, _, _, h => by
    obtain ⟨_, _, rfl⟩ := eqCells_nil h
    rfl
  | n + 1, i, cs, ds, b, hc, hd, h => by
    obtain ⟨c, cs, d', ds, p, q, rfl, rfl, h6, h7, rfl⟩ := eqCells_cons h
    obtain ⟨u, hu, hU⟩ := hc.head
    obtain ⟨v, hv, hV⟩ := hd.head
    have ih := run_items d he n (i + 1) cs ds q hc.tail hd.tail h7
    have := (sc_run he hU hV h6).1 d
    rw [List.range'_succ]
    simp only [Op.eqItems, Nat.mul_one, Sem.run_bind, run_part1 he hu, run_part1 he hv, this, Result.andThen_ok]
    cases p with
    | false => rfl
    | true => simpa using ih

theorem eqKind_agg {t : TypeId} {ks : List Sc} (h : eqKind P t = some (.agg ks)) :
    (∃ fs, P.underlying t = some (.struct fs) ∧ flds P fs.toList 0 ∧ fs.toList.mapM (fun f => scOf P f.type) = some ks ∧ P.stoodInHeld t = false ∧ P.eqGuardType P.depth t = false) ∨
    ∃ n e k, P.underlying t = some (.array n e) ∧ tsize P e = some 1 ∧ scOf P e = some k ∧ ks = List.replicate n k ∧ P.eqGuardType P.depth t = false := by
  unfold eqKind at h
  split at h <;> try (cases h; done)
  · rename_i fs hu
    split at h
    · rename_i hc
      obtain ⟨l, h1, h2⟩ := Option.map_eq_some_iff.1 h
      injection h2 with h2
      subst h2
      simp only [Bool.and_eq_true, Bool.not_eq_true'] at hc
      exact .inl ⟨fs, hu, hc.1.1, h1, hc.1.2, hc.2⟩
    · cases h
  · rename_i n e hu
    split at h
    · rename_i hc
      obtain ⟨k, h1, h2⟩ := Option.map_eq_some_iff.1 h
      injection h2 with h2
      simp only [Bool.and_eq_true, Bool.not_eq_true', beq_iff_eq] at hc
      exact .inr ⟨n, e, k, hu, hc.2, h1, h2.symm, hc.1⟩
    · cases h
theorem info_of_tsize {e : TypeId} {n : Nat} (h : tsize P e = some n) : ∃ i, P.info? e = some i ∧ P.cellsOf e = n := by
  unfold tsize at h
  cases hi : P.info? e with
  | none => simp [hi] at h
  | some i => simp [hi] at h; exact ⟨i, rfl, by simp [Program.cellsOf, hi, h]⟩
theorem agg_run {t : TypeId} {ks : List Sc} {cs ds : List HV} {us vs : Array Value} {b : Bool} (ht : eqKind P t = some (.agg ks)) (hc : Cells K w cs us 0) (hd : Cells K w ds vs 0) (h : eqCells ks cs ds = some b) (d : Nat) :
    (Op.equalIn (d + 2) t (.agg us) (.agg vs)).run P w = .ok b w := by
  rcases eqKind_agg ht with ⟨fs, hu, hf, hk, hst, _⟩ | ⟨n, e, k, hu, hsz, hk, rfl, _⟩
  · have hu' : P.underlying t = some (.struct (P.fieldsOf t)) := by rw [hu]; simp [Program.fieldsOf, hu]
    rw [show d + 2 = (d + 1) + 1 from rfl, run_equalIn_struct w (d + 1) t us vs hu' hst, show P.fieldsOf t = fs by simp [Program.fieldsOf, hu]]
    exact run_fields d fs.toList 0 ks cs ds b hf hk hc hd h
  · obtain ⟨i, hi, hcell⟩ := info_of_tsize hsz
    rw [show d + 2 = (d + 1) + 1 from rfl, run_equalIn_array w (d + 1) us vs hu hi, hcell, List.range_eq_range']
    exact run_items d hk n 0 cs ds b hc hd h

section
variable {o : Oper} {a : Act} {k : HV → Heap → Prop} {e : Env} {h : Heap} (base : Nat)
theorem ok_eqagg {neg : Bool} {ks : List Sc} {t yt : TypeId} {x y : Operand} {x' y' : X} (ho : o.op = .binOp (if neg then .neq else .eql) t x y yt) (hkd : eqKind P t = some (.agg ks)) (hx : cXe x = some x') (hy : cXe y = some y')
    (hs : hstep base (.eqv neg (.agg ks) x' y') e h k) (hh : HeapRel K h w) (he : EnvRel K w e a.tmps) : Ok P o a K w k := by
  simp only [hstep] at hs
  split at hs
  · rename_i p q h1 h2
    split at hs
    · rename_i cs ds
      split at hs
      · rename_i b hb
        have hx' := eve_sound hx he h1
        have hy' := eve_sound hy he h2
        generalize hcx : a.eval x = cx at hx'
        generalize hcy : a.eval y = cy at hy'
        cases hx' with
        | agg _ us hn _ hv =>
          cases hy' with
          | agg _ vs hn' _ hv' =>
            have hrun := agg_run (P := P) hkd (Cells.ofAgg hn hv) (Cells.ofAgg hn' hv') hb 9998
            have hg : P.eqGuardType P.depth t = false := by
              rcases eqKind_agg hkd with ⟨_, _, _, _, _, hg⟩ | ⟨_, _, _, _, _, _, _, hg⟩ <;> exact hg
            cases neg with
            | false =>
              refine Ok.pure (v := .bool b) ?_ hh (.bool _) (by simpa using hs)
              simp [execOp, ho, hcx, hcy, run_eqGuard_agg w _ t x y _ _ hg, run_eql_struct, hrun, Result.andThen]
            | true =>
              refine Ok.pure (v := .bool (!b)) ?_ hh (.bool _) (by simpa using hs)
              simp [execOp, ho, hcx, hcy, run_eqGuard_agg w _ t x y _ _ hg, run_neq_struct, hrun, Result.andThen]
      · exact hs.elim
    · exact hs.elim
  · exact hs.elim
end
end Go.Hw

set_option linter.unusedVariables false
set_option linter.unusedSimpArgs false
namespace Go.Hw
open Go

variable {P : Program} {K : GK} {w : World}


def EntRel (K : GK) (w : World) (es : List (Nat × HV × HV)) (ms : List MapEntry) : Prop := ms.length = es.length ∧ ∀ (j n : Nat) (x y : HV), es[j]? = some (n, x, y) → ∃ m : MapEntry, ms[j]? = some m ∧ m.born = n ∧ isTuple x = false ∧ isTuple y = false ∧ V K w x m.key ∧ V K w y m.val
end Go.Hw

set_option linter.unusedVariables false
set_option linter.unusedSimpArgs false
namespace Go.Hw
open Go

variable {P : Program}
section
variable {o : Oper} {a : Act} {K : GK} {w : World} {k : HV → Heap → Prop} {e : Env} {h : Heap} (base : Nat)

theorem EntRel.step {K' : GK} {w' : World} {es : List (Nat × HV × HV)} {ms : List MapEntry} (s : Step K w K' w') (hr : EntRel K w es ms) : EntRel K' w' es ms := ⟨hr.1, fun j n x y hj => let ⟨m, h1, h2, h3, h4, h5, h6⟩ := hr.2 j n x y hj; ⟨m, h1, h2, h3, h4, h5.step s, h6.step s⟩⟩
theorem EntRel.push {es : List (Nat × HV × HV)} {ms : List MapEntry} (hr : EntRel K w es ms) {n : Nat} {x y : HV} {m : MapEntry} (h1 : m.born = n) (h2 : isTuple x = false) (h3 : isTuple y = false) (h4 : V K w x m.key) (h5 : V K w y m.val) : EntRel K w (es ++ [(n, x, y)]) (ms ++ [m]) := by
  refine ⟨by simp [hr.1], fun j n' x' y' hj => ?_⟩
  rw [List.getElem?_append] at hj ⊢
  rw [hr.1]
  split at hj
  · rename_i hlt; rw [if_pos hlt]; exact hr.2 j n' x' y' hj
  · rename_i hge
    rw [if_neg hge]
    have : j - es.length = 0 := by
      rcases Nat.eq_zero_or_pos (j - es.length) with h0 | h0
      · exact h0
      · obtain ⟨q, hq⟩ : ∃ q, j - es.length = q + 1 := ⟨j - es.length - 1, by omega⟩
        rw [hq] at hj; simp at hj
    rw [this] at hj ⊢
    simp at hj
    obtain ⟨rfl, rfl, rfl⟩ := hj
    exact ⟨m, rfl, h1, h2, h3, h4, h5⟩
theorem EntRel.set {es : List (Nat × HV × HV)} {ms : List MapEntry} (hr : EntRel K w es ms) (j0 : Nat) {n : Nat} {x y : HV} {m : MapEntry} (h1 : m.born = n) (h2 : isTuple x = false) (h3 : isTuple y = false) (h4 : V K w x m.key) (h5 : V K w y m.val) : EntRel K w (es.set j0 (n, x, y)) (ms.set j0 m) := by
  refine ⟨by simp [hr.1], fun j n' x' y' hj => ?_⟩
  rw [List.getElem?_set] at hj ⊢
  rw [hr.1]
  split at hj
  · rename_i e1
    rw [if_pos e1]
    split at hj
    · rename_i hlt
      rw [if_pos hlt]
      simp at hj
      obtain ⟨rfl, rfl, rfl⟩ := hj
      exact ⟨m, rfl, h1, h2, h3, h4, h5⟩
    · cases hj
  · rename_i e1
    rw [if_neg e1]
    exact hr.2 j n' x' y' hj
theorem EntRel.erase {es : List (Nat × HV × HV)} {ms : List MapEntry} (hr : EntRel K w es ms) (j0 : Nat) : EntRel K w (es.eraseIdx j0) (ms.eraseIdx j0) := by
  refine ⟨by simp [List.length_eraseIdx, hr.1], fun j n' x' y' hj => ?_⟩
  rw [List.getElem?_eraseIdx] at hj ⊢
  split at hj
  · rename_i h1; rw [if_pos h1]; exact hr.2 _ _ _ _ hj
  · rename_i h1; rw [if_neg h1]; exact hr.2 _ _ _ _ hj

theorem Ok.val {K' : GK} {w' : World} {h' : Heap} {x : HV} {v : Value} (hr : (execOp a.eval o).run P w = .ok (.value v) w') (s : Step K w K' w') (hh : HeapRel K' h' w') (hv : V K' w' x v) (hk : k x h') : Ok P o a K w k :=
  ⟨x, v, K', w', h', .inl hr, s, hh, hv, hk⟩

end
end Go.Hw

set_option linter.unusedVariables false
set_option linter.unusedSimpArgs false
namespace Go.Hw
open Go

variable {P : Program}
section
variable {o : Oper} {a : Act} {K : GK} {w : World} {k : HV → Heap → Prop} {e : Env} {h : Heap} (base : Nat)

theorem ok_isnil {neg : Bool} {t yt : TypeId} {ms : Array (String × TypeId)} {x : Operand} {y : X} (ho : o.op = .binOp (if neg then .neq else .eql) t x (.const .nilIface) yt) (ht : P.underlying t = some (.interface ms)) (hx : cX x = some y)
    (hs : hstep base (.isnil neg y) e h k) (hh : HeapRel K h w) (he : EnvRel K w e a.tmps) : Ok P o a K w k := by
  have hec : a.eval (.const .nilIface) = .nilIface := rfl
  simp only [hstep] at hs
  split at hs
  · rename_i hev
    have hx' := ev_sound hx he hev
    generalize hcx : a.eval x = cx at hx'
    cases hx'
    have hr : (Op.equal t .nilIface .nilIface).run P w = .ok true w := by
      rw [equal_unfold]
      generalize 9999 = dd
      simp only [Op.equalIn, Sem.run_bind, run_underlying ht, Result.andThen_ok]
      rfl
    obtain ⟨h1, h2⟩ := run_eq_both hr rfl rfl
    refine Ok.pure (v := .bool (!neg)) ?_ hh (.bool _) hs
    cases neg with
    | false => simp [execOp, ho, hcx, hec, eqGuard, h1]
    | true => simp [execOp, ho, hcx, hec, eqGuard, h2]
  · rename_i u z hev
    have hx' := ev_sound hx he hev
    generalize hcx : a.eval x = cx at hx'
    cases hx' with
    | iface _ _ v _ _ =>
    have hr : (Op.equal t (.iface u v) .nilIface).run P w = .ok false w := by
      rw [equal_unfold]
      generalize 9999 = dd
      simp only [Op.equalIn, Sem.run_bind, run_underlying ht, Result.andThen_ok]
      rfl
    obtain ⟨h1, h2⟩ := run_eq_both hr rfl rfl
    refine Ok.pure (v := .bool neg) ?_ hh (.bool _) hs
    cases neg with
    | false => simp [execOp, ho, hcx, hec, eqGuard, h1]
    | true => simp [execOp, ho, hcx, hec, eqGuard, h2]
  · exact hs.elim


def CR (K : GK) (w : World) (cs : List HV) (cur : Array Value) : Prop := cs.length = cur.size ∧ ∀ (j : Nat) (y : HV), cs[j]? = some y → y.leaf = true ∧ ∃ u, cur[j]? = some u ∧ V K w y u
theorem fill_rel {place : Nat → Option (Nat × Nat)} {f : Nat × Operand → Option (Nat × Nat × X)} (hf : ∀ i x off n y, f (i, x) = some (off, n, y) → place i = some (off, n) ∧ cX x = some y) (he : EnvRel K w e a.tmps) :
    ∀ (parts : List (Nat × Operand)) (ps : List (Nat × Nat × X)) (l : List (Nat × Nat × HV)) (cs cs' : List HV) (cur : Array Value), parts.mapM f = some ps → evParts e ps = some l → fillCells cs l = some cs' → CR K w cs cur →
      ∃ out, Instr.fill place cur (parts.map fun p => (p.1, a.eval p.2)) = some out ∧ CR K w cs' out
  | [], ps, l, cs, cs', cur, hm, hev, hfc, hcr => by
    simp at hm
    subst hm
    simp [evParts] at hev
    subst hev
    simp [fillCells] at hfc
    subst hfc
    exact ⟨cur, rfl, hcr⟩
  | (i, x) :: parts, ps, l, cs, cs', cur, hm, hev, hfc, hcr => by
    obtain ⟨⟨off, n, y⟩, ps, h1, h2, rfl⟩ := mapM_cons hm
    obtain ⟨hp, hx⟩ := hf i x off n y h1
    simp only [evParts] at hev
    split at hev
    · rename_i v vs h3 h4
      injection hev with hev
      subst hev
      simp only [fillCells] at hfc
      split at hfc
      · rename_i hc
        obtain ⟨c1, c2, c3⟩ := hc
        have hV := ev_sound hx he h3
        obtain ⟨d1, d2, d3⟩ := hV.cells (isTuple_false c3)
        have hlen : cs.length = cur.size := hcr.1
        rw [List.map_cons]
        show ∃ out, Instr.fill place cur ((i, a.eval x) :: parts.map fun p => (p.1, a.eval p.2)) = some out ∧ CR K w cs' out
        rw [fill_step hp (by omega) (by omega)]
        refine fill_rel hf he parts ps vs _ cs' _ h2 h4 hfc ⟨by simp [putAt]; omega, fun j z hz => ?_⟩
        simp only [putAt] at hz
        rw [List.append_assoc, List.getElem?_append] at hz
        simp only [List.getElem?_toArray]
        rw [List.append_assoc, List.getElem?_append]
        simp only [List.length_take, Array.length_toList] at hz ⊢
        have e1 : min off cs.length = off := by omega
        have e2 : min off cur.size = off := by omega
        rw [e1] at hz
        rw [e2]
        split at hz
        · rename_i hj
          rw [if_pos hj]
          rw [List.getElem?_take_of_lt hj] at hz ⊢
          simpa using hcr.2 j z hz
        · rename_i hj
          rw [if_neg hj]
          rw [List.getElem?_append] at hz ⊢
          have e3 : v.cells.length = (a.eval x).cells.toList.length := by simp [d1]
          rw [← e3]
          split at hz
          · rename_i hj2
            rw [if_pos hj2]
            have hlt : j - off < (a.eval x).cells.size := by omega
            exact ⟨d2 z (List.mem_of_getElem? hz), (a.eval x).cells[j - off], by simp [hlt], d3 _ z _ hz (by simp [hlt])⟩
          · rename_i hj2
            rw [if_neg hj2]
            rw [List.getElem?_drop] at hz ⊢
            have := hcr.2 _ z hz
            rw [show off + n + (j - off - v.cells.length) = off + v.cells.length + (j - off - v.cells.length) by omega]
            simpa using this
      · cases hfc
    · cases hev
theorem CR.agg {cs : List HV} {out : Array Value} (h : CR K w cs out) : V K w (.agg cs) (.agg out) :=
  V.ofAgg cs out h.1 (fun z hz => by obtain ⟨j, hj⟩ := mem_get hz; exact (h.2 j z hj).1) (fun j z v hz hv => by
    obtain ⟨_, u, hu, hV⟩ := h.2 j z hz
    rw [hu] at hv
    injection hv with hv
    subst hv
    exact hV)
theorem CR.zero {t : TypeId} {z : HV} {i : TypeInfo} {u : Value} (hcon : hconst u = some z) : CR K w z.cells u.cells := by
  have hV := V_hconst (K := K) (w := w) hcon
  obtain ⟨h1, h2, h3⟩ := hV.cells (hconst_tuple hcon)
  refine ⟨h1, fun j y hy => ?_⟩
  have := lt_of_get hy
  exact ⟨h2 y (List.mem_of_getElem? hy), u.cells[j]'(by omega), by simp [show j < u.cells.size by omega], h3 j y _ hy (by simp [show j < u.cells.size by omega])⟩

theorem run_places : ∀ {L : List Field} {ns : List Nat}, L.mapM (fun f => tsize P f.type) = some ns → (L.mapM (m := Sem) fun f => do pure (f.offset, ← sizeOf f.type)).run P w = .ok (L.zipWith (fun f n => (f.offset, n)) ns) w
  | [], ns, h => by simp at h; subst h; rfl
  | f :: L, ns, h => by
    obtain ⟨n, ns, h1, h2, rfl⟩ := mapM_cons h
    rw [List.mapM_cons]
    simp only [Sem.run_bind, run_sizeOf' h1, Result.andThen_ok, Sem.run_pure, run_places h2, List.zipWith_cons_cons]

theorem ok_build_struct {t : TypeId} {fs : Array Field} {ns : List Nat} {parts : Array (Nat × Operand)} {ps : List (Nat × Nat × X)} {z : HV} (ho : o.op = .build t parts) (hz : tzero P t = some z) (ht : P.underlying t = some (.struct fs)) (hns : fs.toList.mapM (fun f => tsize P f.type) = some ns)
    (hps : (parts.toList.mapM fun (x : Nat × Operand) => fs[x.1]?.bind fun f => (tsize P f.type).bind fun n => (cX x.2).bind fun y => some (f.offset, n, y)) = some ps)
    (hs : hstep base (.build z.cells ps) e h k) (hh : HeapRel K h w) (he : EnvRel K w e a.tmps) : Ok P o a K w k := by
  obtain ⟨i, u, hi, hu, hcon⟩ := tzero_info hz
  simp only [hstep] at hs
  split at hs
  · rename_i l hev
    split at hs
    · rename_i cs hfc
      obtain ⟨out, h1, h2⟩ := fill_rel (place := fun i => ((fs.toList.zipWith (fun f n => (f.offset, n)) ns).toArray)[i]?) (f := fun (x : Nat × Operand) => fs[x.1]?.bind fun f => (tsize P f.type).bind fun n => (cX x.2).bind fun y => some (f.offset, n, y)) (fun i x off n y hf => by
        dsimp only at hf
        cases hfi : fs[i]? with
        | none => simp [hfi] at hf
        | some f =>
          cases hn : tsize P f.type with
          | none => simp [hfi, hn] at hf
          | some n' =>
            cases hc : cX x with
            | none => simp [hfi, hn, hc] at hf
            | some y' =>
              simp [hfi, hn, hc] at hf
              obtain ⟨rfl, rfl, rfl⟩ := hf
              refine ⟨?_, rfl⟩
              simp only [List.getElem?_toArray, List.getElem?_zipWith]
              have h1 : fs.toList[i]? = some f := by simpa using hfi
              obtain ⟨h3, h4⟩ := mapM_some hns
              obtain ⟨n2, hn2⟩ := get_of_lt (l := ns) (j := i) (by rw [← h3]; exact lt_of_get h1)
              have := h4 i f n2 h1 hn2
              rw [hn] at this
              injection this with this
              subst this
              rw [h1, hn2]) he parts.toList ps l z.cells cs u.cells hps hev hfc (CR.zero (t := t) (i := i) hcon)
      refine Ok.pure (v := .agg out) ?_ hh h2.agg hs
      have hpl := run_places (P := P) (w := w) hns
      obtain ⟨L⟩ := fs
      obtain ⟨parts⟩ := parts
      simp only at hpl h1
      simp only [execOp, ho, Instr.build, Sem.run_bind, run_zeroValue hi hu, Result.andThen_ok, run_underlying ht, List.mapM_toArray, hpl, List.map_toArray]
      simp only [Sem.run_map, Result.andThen_ok, hpl]
      rw [h1]
      rfl
    · exact hs.elim
  · exact hs.elim

theorem ok_build_array {t et : TypeId} {m sz : Nat} {parts : Array (Nat × Operand)} {ps : List (Nat × Nat × X)} {z : HV} (ho : o.op = .build t parts) (hz : tzero P t = some z) (ht : P.underlying t = some (.array m et)) (hsz : tsize P et = some sz)
    (hps : (parts.toList.mapM fun (x : Nat × Operand) => (cX x.2).bind fun y => some (x.1 * sz, sz, y)) = some ps)
    (hs : hstep base (.build z.cells ps) e h k) (hh : HeapRel K h w) (he : EnvRel K w e a.tmps) : Ok P o a K w k := by
  obtain ⟨i, u, hi, hu, hcon⟩ := tzero_info hz
  simp only [hstep] at hs
  split at hs
  · rename_i l hev
    split at hs
    · rename_i cs hfc
      obtain ⟨out, h1, h2⟩ := fill_rel (place := fun i => some (i * sz, sz)) (f := fun (x : Nat × Operand) => (cX x.2).bind fun y => some (x.1 * sz, sz, y)) (fun i x off n y hf => by
        dsimp only at hf
        cases hc : cX x with
        | none => simp [hc] at hf
        | some y' =>
          simp [hc] at hf
          obtain ⟨rfl, rfl, rfl⟩ := hf
          exact ⟨rfl, rfl⟩) he parts.toList ps l z.cells cs u.cells hps hev hfc (CR.zero (t := t) (i := i) hcon)
      refine Ok.pure (v := .agg out) ?_ hh h2.agg hs
      obtain ⟨parts⟩ := parts
      simp only at h1
      simp only [execOp, ho, Instr.build, Sem.run_bind, run_zeroValue hi hu, Result.andThen_ok, run_underlying ht, run_sizeOf' hsz, List.map_toArray]
      rw [h1]
      rfl
    · exact hs.elim
  · exact hs.elim
theorem ok_mkif {t : TypeId} {d : TypeDesc} {x : Operand} {y : X} (ho : o.op = .makeInterface t x) (ht : P.underlying t = some d) (hd : ∀ ms, d ≠ .interface ms) (hx : cX x = some y)
    (hs : hstep base (.mkif t y) e h k) (hh : HeapRel K h w) (he : EnvRel K w e a.tmps) : Ok P o a K w k := by
  simp only [hstep] at hs
  split at hs
  · rename_i v hev
    have hx' := ev_sound hx he hev
    refine Ok.pure (v := .iface t (a.eval x)) ?_ hh (.iface t v _ hs.1 hx') hs.2
    simp only [execOp, ho, Instr.makeInterface, Sem.run_bind, run_underlying ht, Result.andThen_ok]
    cases d <;> first | rfl | exact absurd rfl (hd _)
  · exact hs.elim
end
end Go.Hw

set_option linter.unusedVariables false
set_option linter.unusedSimpArgs false
namespace Go.Hw
open Go
variable {P : Program}
section
variable {o : Oper} {a : Act} {K : GK} {w : World} {k : HV → Heap → Prop} {e : Env} {h : Heap} (base : Nat)
theorem list_set_self {α : Type} {l : List α} {i : Nat} {x : α} (h : l[i]? = some x) : l.set i x = l := by
  apply List.ext_getElem?
  intro j
  rw [List.getElem?_set]
  split
  · rename_i e; subst e
    have := (List.getElem?_eq_some_iff.1 h).1
    rw [if_pos this]; exact h.symm
  · rfl
theorem ok_mark {src dst et : TypeId} {x : Operand} {y : X} (ho : o.op = .convert src dst x) (hsd : src = dst) (h1 : P.underlying dst = some (.slice et)) (h1' : P.underlying et = some (.int .u8)) (hx : cX x = some y) (hs : hstep base (.conv .mark y) e h k) (hh : HeapRel K h w) (he : EnvRel K w e a.tmps) : Ok P o a K w k := by
  subst hsd
  simp only [hstep] at hs
  cases hev : y.ev e with
  | none => rw [hev] at hs; exact hs.elim
  | some zz =>
  rw [hev] at hs
  cases zz <;> try exact hs.elim
  rename_i id off n sz
  dsimp only at hs
  split at hs
  case h_2 => exact hs.elim
  rename_i cs hcs
  obtain ⟨hpos, hk⟩ := hs
  have hx' := ev_sound hx he hev
  have hx0 := hx'
  generalize hcx : a.eval x = cx at hx' hx0
  cases hx' with
  | arrn => omega
  | arr0 => omega
  | arr _ _ _ _ b cap off' hr hcap hoff hroom =>
    obtain ⟨c, et', fr, hb, hlen, hfr, hvs⟩ := heap_cells hh hr hcs
    have hid : h[id]? = some (.cells cs) := by
      unfold Heap.cells at hcs
      split at hcs
      · rename_i hq; injection hcs with hcs; subst hcs; exact hq
      · cases hcs
    obtain ⟨fr', hfe, hfr'⟩ : ∃ fr', (if fr.1 == fr.2 then (c.size, c.size + 1) else (min fr.1 c.size, max fr.2 (c.size + 1))) = fr' ∧ nofr c fr' := by
      refine ⟨_, rfl, fun i hi => ?_⟩
      have := hfr i hi
      by_cases hq : fr.1 = fr.2
      · rw [if_pos (by simpa using hq)]; exact .inr hi
      · rw [if_neg (by simpa using hq)]
        refine .inr ?_
        simp only
        omega
    have hheap : (w.freeze { block := b, off := c.size } 1).heap = w.heap.setIfInBounds b (.cells c et' fr') := by
      simp only [World.freeze, if_neg (show ¬ (1 = 0) by omega)]
      apply Array.ext_getElem?
      intro q
      rw [Array.getElem?_modify, Array.getElem?_setIfInBounds]
      by_cases hq : b = q
      · subst hq
        have hlt : b < w.heap.size := (Array.getElem?_eq_some_iff.1 hb).1
        simp only [if_true, hb, Option.map_some, hlt]
        rw [← hfe]
      · simp [hq]
    have hrun : (execOp a.eval o).run P w = .ok (.value (.slice (some ⟨b, off', none⟩) n cap)) (w.freeze { block := b, off := c.size } 1) := by
      have hsh : w.shape? b = some (et', c.size) := by unfold World.shape?; rw [hb]
      simp only [execOp, ho, hcx, Sem.run_bind, convert, run_underlying h1, run_underlying h1', Result.andThen_ok, beq_self_eq_true, markStringish, run_shape, hsh, Sem.run_pure]
      rfl
    obtain ⟨s, hh1⟩ := set_obj (old := .cells cs) (new := .cells cs) hh hr hid trivial trivial hheap rfl ⟨rfl, Nat.le_refl _⟩ rfl (by
      rintro m ⟨c', e', fr0, h4, h5⟩
      rw [hb] at h4
      injection h4 with h4
      injection h4 with h6 h7 h8
      subst h6
      exact ⟨c, et', fr', by rw [hheap]; have hlt : b < w.heap.size := (Array.getElem?_eq_some_iff.1 hb).1; simp [hlt], h5⟩) (by
      intro s
      refine ⟨c, et', fr', by rw [hheap]; have hlt : b < w.heap.size := (Array.getElem?_eq_some_iff.1 hb).1; simp [hlt], hlen, hfr', fun j x hx => ?_⟩
      obtain ⟨q1, v, q2, q3⟩ := hvs j x hx
      exact ⟨q1, v, q2, q3.step s⟩)
    rw [list_set_self hid] at hh1
    exact Ok.val hrun s hh1 (hx0.step s) hk
end
end Go.Hw

set_option linter.unusedVariables false
set_option linter.unusedSimpArgs false
namespace Go.Hw
open Go

variable {P : Program}

theorem heap_app {K : GK} {w : World} {h : Heap} (hh : HeapRel K h w) (cs : List HV) : HeapRel K (h ++ [.cells cs]) w := by
  have hg : ∀ (i : Nat) (o : HObj), h[i]? = some o → (h ++ [HObj.cells cs])[i]? = some o := fun i o ho => by rw [List.getElem?_append_left (lt_of_get ho)]; exact ho
  have hb : ∀ i b, K.rho i = some b → (h ++ [HObj.cells cs])[i]? = h[i]? := fun i b hr => by
    obtain ⟨_, o, h2, _⟩ := hh.obj i b hr
    rw [hg i o h2, h2]
  refine ⟨fun i b hr => ?_, fun i j b x y hi hj hx hy lx ly => hh.inj i j b x y hi hj (by rw [← hb i b hi]; exact hx) (by rw [← hb j b hj]; exact hy) lx ly, fun k => ?_, fun k b hk => ?_, hh.tinj, hh.limb⟩
  · obtain ⟨h1, o, h2, h3⟩ := hh.obj i b hr
    exact ⟨h1, o, hg i o h2, h3⟩
  · rw [hh.wm k]
    rcases Nat.lt_trichotomy k h.length with hk | hk | hk
    · rw [List.getElem?_append_left hk]
    · subst hk; simp
    · rw [List.getElem?_eq_none (by omega), List.getElem?_eq_none (by simp; omega)]
  · obtain ⟨h1, ⟨n, h2⟩, h3, h4⟩ := hh.tok k b hk
    exact ⟨h1, ⟨n, hg k _ h2⟩, fun i o hi ho => h3 i o hi (by rw [← hb i b hi]; exact ho), h4⟩

theorem heap_dead {K : GK} {w : World} {h : Heap} {id : Nat} {cs : List HV} (hh : HeapRel K h w) (hc : h[id]? = some (.cells cs)) : HeapRel K (h.set id .dead) w := by
  have hget : (h.set id HObj.dead)[id]? = some .dead := List.getElem?_set_self (lt_of_get hc)
  have hoth : ∀ i, i ≠ id → (h.set id HObj.dead)[i]? = h[i]? := fun i hi => List.getElem?_set_ne (Ne.symm hi)
  have key : ∀ {i : Nat} {x : HObj}, (h.set id .dead)[i]? = some x → x.live → h[i]? = some x := by
    intro i x hx lx
    by_cases e : i = id
    · subst e; rw [hget] at hx; injection hx with hx; subst hx; exact lx.elim
    · rw [← hoth i e]; exact hx
  refine ⟨fun i b hr => ?_, fun i j b x y hi hj hx hy lx ly => hh.inj i j b x y hi hj (key hx lx) (key hy ly) lx ly, fun k => ?_, fun k b hk => ?_, hh.tinj, hh.limb⟩
  · obtain ⟨h1, o, h2, h3, h4⟩ := hh.obj i b hr
    by_cases e : i = id
    · subst e; exact ⟨h1, .dead, hget, trivial, fun l => l.elim⟩
    · exact ⟨h1, o, by rw [hoth i e]; exact h2, h3, h4⟩
  · rw [hh.wm k]
    by_cases e : k = id
    · subst e; rw [hget, hc]
    · rw [hoth k e]
  · obtain ⟨h1, ⟨n, h2⟩, h3, h4⟩ := hh.tok k b hk
    have hne : k ≠ id := by intro e; subst e; rw [hc] at h2; cases h2
    exact ⟨h1, ⟨n, by rw [hoth k hne]; exact h2⟩, fun i o hi ho hl => h3 i o hi (key ho hl) hl, h4⟩

theorem heap_rename {K : GK} {w : World} {h : Heap} {id b : Nat} {cs cs' : List HV} (hh : HeapRel K h w) (hr : K.rho id = some b) (hc : h[id]? = some (.cells cs)) (hok : ObjOk K w b (.cells cs')) :
    Step K w (K.rhoAt h.length b) w ∧ HeapRel (K.rhoAt h.length b) (h.set id .dead ++ [.cells cs']) w := by
  have hlt := lt_of_get hc
  have hno : K.rho h.length = none := by
    cases hr2 : K.rho h.length with
    | none => rfl
    | some b2 =>
      obtain ⟨_, o, h2, _⟩ := hh.obj _ b2 hr2
      rw [List.getElem?_eq_none (Nat.le_refl _)] at h2; cases h2
  have s : Step K w (K.rhoAt h.length b) w := by
    refine ⟨rfl, tk, rfl, Nat.le_refl _, fun _ => Nat.le_refl _, fun _ => Nat.le_refl _, fun _ _ => ⟨rfl, fun _ _ => rfl⟩, fun i b' hi => ?_, fun _ _ _ _ h => h, fun _ _ h => h, fun b' hb' ho => ?_, fun _ _ _ => ⟨rfl, rfl⟩⟩
    · have : i ≠ h.length := by intro e; subst e; rw [hno] at hi; cases hi
      simp [GK.rhoAt, this, hi]
    · rcases ho with ⟨i, ho⟩ | ho
      · simp only [GK.rhoAt] at ho
        split at ho
        · injection ho with ho; subst ho; exact .inl ⟨id, hr⟩
        · exact .inl ⟨i, ho⟩
      · exact .inr ho
  have hd := heap_dead hh hc
  obtain ⟨hb1, o0, ho0, _, hlim⟩ := hh.obj id b hr
  rw [hc] at ho0; injection ho0 with ho0; subst ho0
  have hlim := hlim trivial
  have hlen : (h.set id HObj.dead).length = h.length := by simp
  have hnew : (h.set id HObj.dead ++ [HObj.cells cs'])[h.length]? = some (.cells cs') := by rw [List.getElem?_append_right (by simp)]; simp
  have hold : ∀ i, i < h.length → (h.set id HObj.dead ++ [HObj.cells cs'])[i]? = (h.set id HObj.dead)[i]? := fun i hi => List.getElem?_append_left (by simpa using hi)
  have hrlt : ∀ i b', K.rho i = some b' → i < h.length := fun i b' hi => by
    obtain ⟨_, o, h2, _⟩ := hh.obj i b' hi
    exact lt_of_get h2
  have hfree : ∀ (i : Nat) (x : HObj), K.rho i = some b → (h.set id HObj.dead)[i]? = some x → ¬ x.live := by
    intro i x hi hx lx
    by_cases e : i = id
    · subst e; rw [List.getElem?_set_self hlt] at hx; injection hx with hx; subst hx; exact lx.elim
    · rw [List.getElem?_set_ne (Ne.symm e)] at hx
      exact e (hh.inj i id b x _ hi hr hx hc lx trivial)
  refine ⟨s, ⟨fun i b' hi => ?_, fun i j b' x y hi hj hx hy lx ly => ?_, fun k => ?_, fun k b' hk => ?_, hh.tinj, hh.limb⟩⟩
  · simp only [GK.rhoAt] at hi
    split at hi
    · rename_i e
      injection hi with hi; subst hi; subst e
      exact ⟨hb1, _, hnew, ObjOk.keep s rfl hok, fun _ => hlim⟩
    · obtain ⟨h1, o, h2, h3, h4⟩ := hd.obj i b' hi
      exact ⟨h1, o, by rw [hold i (hrlt i b' hi)]; exact h2, ObjOk.keep s rfl h3, h4⟩
  · simp only [GK.rhoAt] at hi hj
    split at hi <;> split at hj
    · simp_all
    · injection hi with hi; subst hi
      exact absurd ly (hfree j y hj (by rw [← hold j (hrlt j _ hj)]; exact hy))
    · injection hj with hj; subst hj
      exact absurd lx (hfree i x hi (by rw [← hold i (hrlt i _ hi)]; exact hx))
    · exact hd.inj i j b' x y hi hj (by rw [← hold i (hrlt i _ hi)]; exact hx) (by rw [← hold j (hrlt j _ hj)]; exact hy) lx ly
  · show K.wm k = _
    rw [hd.wm k]
    rcases Nat.lt_trichotomy k h.length with hk | hk | hk
    · rw [hold k hk]
    · subst hk; rw [hnew, List.getElem?_eq_none (by simp)]
    · rw [List.getElem?_eq_none (by simp; omega), List.getElem?_eq_none (by simp; omega)]
  · obtain ⟨h1, ⟨n, h2⟩, h3, h4⟩ := hd.tok k b' hk
    have hk2 : k < h.length := by have := lt_of_get h2; simpa using this
    refine ⟨h1, ⟨n, by rw [hold k hk2]; exact h2⟩, fun i o hi ho hl => ?_, h4⟩
    simp only [GK.rhoAt] at hi
    split at hi
    · injection hi with hi; subst hi
      exact (hh.tok k b hk).2.2.1 id _ hr hc trivial
    · exact h3 i o hi (by rw [← hold i (hrlt i _ hi)]; exact ho) hl

section
variable {o : Oper} {a : Act} {K : GK} {w : World} {k : HV → Heap → Prop} {e : Env} {h : Heap} (base : Nat)

def ArrOut (P : Program) (t u ty : TypeId) (K : GK) (w : World) (sv xv : Value) (h' : Heap) (x : HV) : Prop :=
  ∃ v K' w', (Builtin.append_ #[t, u] ty #[sv, xv]).run P w = .ok v w' ∧ Step K w K' w' ∧ HeapRel K' h' w' ∧ V K' w' x v

theorem arr_new {t u et ty : TypeId} {d : TypeDesc} {i : TypeInfo} {zu : Value} {n m cap : Nat} {bs : Option Addr} {xv : Value} {os news : List HV} {nv olds : List Value} {h0 : Heap} (ht : P.underlying t = some (.slice et)) (hu : P.underlying u = some d) (hd : (∃ e, d = .slice e) ∨ d = .string)
    (hi : P.info? et = some i) (hzu : i.zero = some zu) (hzs : zu.cells.size = i.size) (hby0 : i.bytes ≠ 0) (hx : Src P w i.size n xv nv) (hnl : news.length = n * i.size)
    (hy : ∀ (j : Nat) (y : HV), news[j]? = some y → y.leaf = true ∧ ∃ u, nv[j]? = some u ∧ V K w y u)
    (hcap : cap < m + n) (hold : ∀ w' : World, (∀ ad, w'.cell? ad = w.cell? ad) → (Builtin.firstCells i.size m (.slice bs m cap)).run P w' = .ok olds.toArray w')
    (hol : olds.length = m * i.size) (hosl : os.length = m * i.size) (hoV : ∀ (j : Nat) (y : HV), os[j]? = some y → y.leaf = true ∧ ∃ u, olds[j]? = some u ∧ V K w y u)
    (hfit : (m + n) * i.bytes ≤ 140737488355328) (hh : HeapRel K h0 w) : ArrOut P t u ty K w (.slice bs m cap) xv (h0 ++ [.cells (os ++ news)]) (.arr h0.length 0 (m + n) i.size) := by
  have h63 : m + n ≤ 9223372036854775807 := by
    have := Nat.le_mul_of_pos_right (m + n) (Nat.pos_of_ne_zero hby0)
    omega
  have hnv := hx.size
  have hr := run_append_new (P := P) (w := w) (ty := ty) ht hu hd hi hzu bs m cap n hcap hx hold hfit h63
  have hcapge := grownCap_big w (m + n) cap et
  generalize hgc : grownCap w (m + n) cap et = gc at hr hcapge
  generalize hcells : (olds ++ nv ++ (Builtin.zeroCells zu.cells (gc - (m + n))).toList).toArray = cells at hr
  have hcsz : cells.size = gc * i.size := by
    rw [← hcells]
    have := size_zeroCells zu.cells (gc - (m + n))
    simp only [List.size_toArray, List.length_append, hol, hnv, Array.length_toList, this, hzs]
    rw [Nat.sub_mul, Nat.add_mul]
    have := Nat.mul_le_mul_right i.size hcapge
    rw [Nat.add_mul] at this
    omega
  have hle : (os ++ news).length ≤ cells.size := by
    rw [List.length_append, hosl, hnl, ← Nat.add_mul, hcsz]; exact Nat.mul_le_mul_right _ hcapge
  obtain ⟨s, hh'⟩ := push_obj (id := h0.length) (w' := w.drew.alloc (.cells cells et)) (ob := .cells cells et) (x := .cells (os ++ news)) hh rfl rfl tk rfl (.inr ⟨rfl, rfl⟩) (by simp) (fun K' s => by
    refine ⟨cells, et, (0, 0), heap_alloc_new w.drew _, hle, fun _ _ => by omega, fun j x hx => ?_⟩
    have hcg : ∀ q : Nat, cells[q]? = (olds ++ (nv ++ (Builtin.zeroCells zu.cells (gc - (m + n))).toList))[q]? := fun q => by rw [← hcells]; simp only [List.getElem?_toArray, List.append_assoc]
    rw [hcg, List.getElem?_append, hol]
    rw [List.getElem?_append, hosl] at hx
    split at hx
    · rename_i hj
      obtain ⟨l, u', hu', hV⟩ := hoV j x hx
      exact ⟨l, u', by rw [if_pos hj]; exact hu', hV.step s⟩
    · rename_i hj
      obtain ⟨l, u', hu', hV⟩ := hy _ x hx
      exact ⟨l, u', by rw [if_neg hj, List.getElem?_append_left (lt_of_get hu')]; exact hu', hV.step s⟩)
  exact ⟨_, _, _, hr, s, hh', .arr _ 0 (m + n) i.size w.heap.size gc 0 (by simp [GK.rhoAt]) hcapge (fun _ => rfl) ⟨cells, et, (0, 0), heap_alloc_new w.drew _, by omega⟩⟩

theorem arr_list {t u et ty : TypeId} {d : TypeDesc} {i : TypeInfo} {zu : Value} {n : Nat} {sv xv : Value} {news : List HV} {nv : List Value} (ht : P.underlying t = some (.slice et)) (hu : P.underlying u = some d) (hd : (∃ e, d = .slice e) ∨ d = .string)
    (hi : P.info? et = some i) (hzu : i.zero = some zu) (hzs : zu.cells.size = i.size) (hby0 : i.bytes ≠ 0) (hs' : V K w (.list [] .full) sv) (hx : Src P w i.size n xv nv) (hnl : news.length = n * i.size)
    (hy : ∀ (j : Nat) (y : HV), news[j]? = some y → y.leaf = true ∧ ∃ u, nv[j]? = some u ∧ V K w y u)
    (hfit : n * i.bytes ≤ 140737488355328) (hh : HeapRel K h w) : ArrOut P t u ty K w sv xv (h ++ [.cells news]) (.arr h.length 0 n i.size) := by
  have hsl : ∃ bs, sv = .slice bs 0 0 := by
    cases hs' with
    | nil _ _ => exact ⟨none, rfl⟩
    | list0 _ _ ad => exact ⟨some ad, rfl⟩
    | list _ _ b of cap sz' vals hw' hleaf hvv hc hlim hcap htk =>
      have : cap = 0 := htk
      subst this
      exact ⟨_, rfl⟩
  obtain ⟨bs, rfl⟩ := hsl
  by_cases hn : n = 0
  · subst hn
    have hnv : nv = [] := List.eq_nil_of_length_eq_zero (by rw [hx.size]; simp)
    have hnw : news = [] := List.eq_nil_of_length_eq_zero (by rw [hnl]; simp)
    subst hnv; subst hnw
    refine ⟨_, K, w, run_append_zero ht hu hd hi bs 0 0 (Nat.le_refl _) hx, .refl K w, heap_app hh [], ?_⟩
    cases bs with
    | none => exact .arrn _ _ _
    | some ad => exact .arr0 _ _ _ ad
  · have := arr_new (P := P) (K := K) (w := w) (ty := ty) (n := n) (m := 0) (cap := 0) (bs := bs) (os := []) (olds := []) (h0 := h) ht hu hd hi hzu hzs hby0 hx hnl hy (by omega) (fun w' _ => by
      cases bs with
      | none => simp [Builtin.firstCells]
      | some ad =>
        have := run_loadCells w' ad 0 (fun _ => (.bool false)) (P := P) (fun j hj => absurd hj (by omega))
        simpa [Builtin.firstCells] using this) (by simp) (by simp) (fun j y hj => by simp at hj) (by simpa using hfit) hh
    simpa using this

theorem arr_arr {t u et ty : TypeId} {d : TypeDesc} {i : TypeInfo} {zu : Value} {n m id : Nat} {sv xv : Value} {cs news : List HV} {nv : List Value} (ht : P.underlying t = some (.slice et)) (hu : P.underlying u = some d) (hd : (∃ e, d = .slice e) ∨ d = .string)
    (hi : P.info? et = some i) (hzu : i.zero = some zu) (hzs : zu.cells.size = i.size) (hby0 : i.bytes ≠ 0) (hs' : V K w (.arr id 0 m i.size) sv) (hc : h[id]? = some (.cells cs)) (hml : m * i.size ≤ cs.length) (hx : Src P w i.size n xv nv) (hnl : news.length = n * i.size)
    (hy : ∀ (j : Nat) (y : HV), news[j]? = some y → y.leaf = true ∧ ∃ u, nv[j]? = some u ∧ V K w y u)
    (hfit : (m + n) * i.bytes ≤ 140737488355328) (hh : HeapRel K h w) : ArrOut P t u ty K w sv xv (h.set id .dead ++ [.cells (cs.take (m * i.size) ++ news)]) (.arr h.length 0 (m + n) i.size) := by
  have hnv := hx.size
  have hdl : (h.set id HObj.dead).length = h.length := by simp
  -- a base without room
  have empty : ∀ bs : Option Addr, m = 0 → sv = .slice bs 0 0 → ArrOut P t u ty K w sv xv (h.set id .dead ++ [.cells (cs.take (m * i.size) ++ news)]) (.arr h.length 0 (m + n) i.size) := by
    rintro bs rfl rfl
    have := arr_list (P := P) (K := K) (w := w) (h := h.set id .dead) (t := t) (u := u) (ty := ty) (sv := .slice bs 0 0) ht hu hd hi hzu hzs hby0 (by
      cases bs with
      | none => exact .nil _ trivial
      | some ad => exact V.list0 _ (show TokNil K .full from trivial) ad) hx hnl hy (by simpa using hfit) (heap_dead hh hc)
    simpa using this
  cases hs' with
  | arrn => exact empty none rfl rfl
  | arr0 _ _ _ ad => exact empty (some ad) rfl rfl
  | arr _ _ _ _ b cap off' hr hcap hoff hroom =>
    by_cases hc0 : cap = 0
    · subst hc0
      obtain rfl : m = 0 := by omega
      exact empty _ rfl rfl
    · obtain rfl : off' = 0 := hoff (by omega)
      obtain ⟨hb1, o0, ho0, hok, hlim⟩ := hh.obj id b hr
      rw [hc] at ho0; injection ho0 with ho0; subst ho0
      have hlim := hlim trivial
      obtain ⟨c, et', fr, hb, hlen, hfr, hvs⟩ := hok
      obtain ⟨c2, et2, fr2, hb2, hrm⟩ := hroom
      rw [hb] at hb2; injection hb2 with hb2; injection hb2 with hb2 _ _; subst hb2
      simp only [Nat.zero_add] at hrm
      by_cases hgrow : cap < m + n
      · have := arr_new (P := P) (K := K) (w := w) (ty := ty) (n := n) (m := m) (cap := cap) (bs := some ⟨b, 0, none⟩) (os := cs.take (m * i.size)) (olds := c.toList.take (m * i.size)) (h0 := h.set id .dead) ht hu hd hi hzu hzs hby0 hx hnl hy hgrow (fun w' hw' => by
          simp only [Builtin.firstCells]
          have := run_loadCells w' ⟨b, 0, none⟩ (m * i.size) (fun j => (c[j]?).getD undef) (P := P) (fun j hj => by
            rw [Addr.add_lit, hw', cell_of_row w b _ c et' fr hb]
            simp only [Nat.zero_add]
            rw [Array.getElem?_eq_getElem (by omega)]; rfl)
          rw [this]
          congr 1
          apply Array.ext_getElem?
          intro q
          simp only [List.getElem?_toArray, List.getElem?_map, List.getElem?_range, List.getElem?_take, Array.getElem?_toList]
          by_cases hq : q < m * i.size
          · rw [if_pos hq]
            simp [hq, show q < c.size by omega]
          · rw [if_neg hq]
            simp [List.getElem?_eq_none (l := List.range (m * i.size)) (by simpa using Nat.le_of_not_lt hq)]) (by simp; omega) (by simp; omega) (fun j y hj => by
          rw [List.getElem?_take] at hj ⊢
          split at hj
          · rename_i hjm
            obtain ⟨l, v, h7, h8⟩ := hvs j y hj
            exact ⟨l, v, by rw [if_pos hjm]; simpa using h7, h8⟩
          · cases hj) hfit (heap_dead hh hc)
        simpa [hdl] using this
      · have hone : ∀ v ∈ nv, v.oneCell' = true := by
          intro v hv
          obtain ⟨q, hq⟩ := mem_get hv
          obtain ⟨y, hyq⟩ := get_of_lt (l := news) (j := q) (by rw [hnl, ← hnv]; exact lt_of_get hq)
          obtain ⟨l, u', hu', hV⟩ := hy q y hyq
          rw [hq] at hu'
          injection hu' with hu'
          subst hu'
          exact hV.oneCell l
        have hmn : m * i.size + n * i.size ≤ c.size := by
          have := Nat.mul_le_mul_right i.size (show m + n ≤ cap by omega)
          rw [Nat.add_mul] at this
          omega
        have hrun := run_storeCells_nofr (P := P) b (m * i.size) et' fr nv 0 c w hb hfr (by omega) hone
        simp only [Nat.add_zero] at hrun
        generalize hcur : (c.toList.take (m * i.size) ++ nv ++ c.toList.drop (m * i.size + nv.length)).toArray = cur at hrun
        have hcsz : cur.size = c.size := by rw [← hcur]; simp; omega
        have hcget : ∀ j, cur[j]? = if j < m * i.size then c[j]? else if j < m * i.size + nv.length then nv[j - m * i.size]? else c[j]? := by
          intro j
          rw [← hcur]
          simp only [List.getElem?_toArray]
          rw [seg_get _ _ _ _ (by simp; omega)]
          simp
        have hsame := setRow_heap w b c cur et' fr hb
        have hoth : ∀ q, q ≠ b → (w.setRow b cur).heap[q]? = w.heap[q]? := fun q hq => setRow_other w b q cur hq
        have hok : ∀ {K' : GK}, Step K w K' (w.setRow b cur) → ObjOk K' (w.setRow b cur) b (.cells (cs.take (m * i.size) ++ news)) := fun s => by
          refine ⟨cur, et', fr, hsame, by simp [hnl, hcsz]; omega, fun j hj => hfr j (by omega), fun j x hx => ?_⟩
          rw [List.getElem?_append, List.length_take, Nat.min_eq_left hml] at hx
          rw [hcget]
          split at hx
          · rename_i hj
            rw [List.getElem?_take, if_pos hj] at hx
            obtain ⟨l, v, h7, h8⟩ := hvs j x hx
            exact ⟨l, v, by rw [if_pos hj]; exact h7, h8.step s⟩
          · rename_i hj
            obtain ⟨l, v, h7, h8⟩ := hy _ x hx
            have := lt_of_get h7
            exact ⟨l, v, by rw [if_neg hj, if_pos (by omega)]; exact h7, h8.step s⟩
        have hheap : (w.setRow b cur).heap = w.heap.setIfInBounds b (.cells cur et' fr) := by
          apply Array.ext_getElem?
          intro q
          by_cases hq : q = b
          · subst hq; rw [hsame]; simp [hb1]
          · rw [hoth q hq]; simp [Ne.symm hq]
        obtain ⟨s1, hh1⟩ := set_obj (w' := w.setRow b cur) (new := .cells (cs.take (m * i.size) ++ news)) (ob := .cells cur et' fr) hh hr hc trivial trivial hheap rfl tk rfl (fun q hq => by
          obtain ⟨c', e', fr', hb', hn⟩ := hq
          rw [hb] at hb'; injection hb' with hb'; injection hb' with hb' _ _; subst hb'
          exact ⟨cur, et', fr, hsame, by omega⟩) hok
        have hc1 : (h.set id (HObj.cells (cs.take (m * i.size) ++ news)))[id]? = some (.cells (cs.take (m * i.size) ++ news)) := List.getElem?_set_self (lt_of_get hc)
        obtain ⟨s2, hh2⟩ := heap_rename hh1 hr hc1 (hok s1)
        have hst' : (storeCells ⟨b, 0 + m * i.size, none⟩ nv).run P w = .ok () (w.setRow b cur) := by rw [Nat.zero_add]; exact hrun
        have hrr := run_append_fits (P := P) (w := w) (ty := ty) ht hu hd hi b 0 m cap n (by omega) hx hst'
        refine ⟨_, _, _, hrr, s1.trans s2, by simpa using hh2, ?_⟩
        exact .arr _ 0 (m + n) i.size b cap 0 (by simp [GK.rhoAt]) (by omega) (fun _ => rfl) ⟨cur, et', fr, hsame, by omega⟩

theorem src_any {sz : Nat} {y : HV} {v : Value} (hv : V K w y v) (hok : srcOk sz h y) (hh : HeapRel K h w) :
    ∃ nv, Src P w sz (srcLen y) v nv ∧ (srcCells h y).length = srcLen y * sz ∧ ∀ (j : Nat) (x : HV), (srcCells h y)[j]? = some x → x.leaf = true ∧ ∃ u, nv[j]? = some u ∧ V K w x u := by
  cases y with
  | list ys tok =>
    obtain ⟨news, hsrc, hy⟩ := src_list (P := P) hv (fun y hy => (hok y hy).1)
    refine ⟨news, hsrc, ?_, fun j y hjy => ?_⟩
    · show (flat (ys.map HV.strip1)).length = _
      rw [flat_length (sz := sz) (fun x hx => by
        obtain ⟨y, hy, rfl⟩ := List.mem_map.1 hx
        rw [strip1_cells]; exact (hok y hy).1)]
      simp [srcLen]
    · obtain ⟨y0, h2, h3, h4⟩ := flat_strip1 (fun x hx => (hok x hx).2) j y hjy
      obtain ⟨l, u', hu', hV⟩ := hy j y0 h2
      exact ⟨by rw [h3]; exact l, u', hu', h4 _ _ _ hV⟩
  | str s =>
    obtain rfl : sz = 1 := hok
    cases hv
    refine ⟨s.map fun c => .int .u8 c.toNat, src_str s, by simp [srcCells, srcLen, bytesOf], fun j y hjy => ?_⟩
    simp only [srcCells, bytesOf, List.getElem?_map, Option.map_eq_some_iff] at hjy
    obtain ⟨c, hc, rfl⟩ := hjy
    exact ⟨rfl, .int .u8 c.toNat, by simp [hc], .int _ _⟩
  | arr id off n z =>
    obtain ⟨rfl, cs, hcs, hl⟩ := hok
    have hget : srcCells h (.arr id off n z) = (cs.drop off).take (n * z) := by simp [srcCells, hcs]
    rw [hget]
    have hlen : ((cs.drop off).take (n * z)).length = n * z := by simp; omega
    cases hv with
    | arrn => exact ⟨[], ⟨fun w' => by simp [Builtin.lenOf, srcLen], fun w' _ => by simp [Builtin.firstCells, srcLen], by simp [srcLen]⟩, by simp [srcLen], fun j x hx => by simp at hx⟩
    | arr0 _ _ _ ad =>
      refine ⟨[], ⟨fun w' => by simp [Builtin.lenOf, srcLen], fun w' _ => ?_, by simp [srcLen]⟩, by simp [srcLen], fun j x hx => by simp at hx⟩
      have := run_loadCells w' ad 0 (fun _ => (.bool false)) (P := P) (fun j hj => absurd hj (by omega))
      simpa [Builtin.firstCells, srcLen] using this
    | arr _ _ _ _ b cap off' hr hcap hoff hroom =>
      obtain ⟨c, et', fr, hb, hlen2, _, hvs⟩ := heap_cells hh hr hcs
      refine ⟨(List.range (n * z)).map fun j => (c[off + j]?).getD undef, ⟨fun w' => by simp [Builtin.lenOf, srcLen], fun w' hw' => ?_, by simp [srcLen]⟩, hlen, fun j x hx => ?_⟩
      · simp only [Builtin.firstCells, srcLen]
        by_cases hn0 : n = 0
        · subst hn0
          have := run_loadCells w' ⟨b, off', none⟩ 0 (fun _ => (.bool false)) (P := P) (fun j hj => absurd hj (by omega))
          simpa using this
        · obtain rfl : off' = off := hoff (by omega)
          exact run_loadCells w' ⟨b, off', none⟩ _ (fun j => (c[off' + j]?).getD undef) (fun j hj => by
            rw [Addr.add_lit, hw', cell_of_row w b _ c et' fr hb]
            rw [Array.getElem?_eq_getElem (by omega)]; rfl)
      · have hj : j < n * z := by rw [← hlen]; exact lt_of_get hx
        rw [List.getElem?_take, if_pos hj, List.getElem?_drop] at hx
        obtain ⟨l, v, h7, h8⟩ := hvs _ x hx
        exact ⟨l, v, by simp [hj, h7], h8⟩
  | _ => exact hok.elim

theorem ok_appendarr {t u et : TypeId} {d : TypeDesc} {sz by_ : Nat} {z : HV} {ts : Array TypeId} {s x : Operand} {s' x' : X} (ho : o.op = .call { callee := .builtin .append, args := #[s, x], argTypes := ts }) (h0 : ts[0]? = some t) (h1 : ts[1]? = some u)
    (ht : P.underlying t = some (.slice et)) (hu : P.underlying u = some d) (hd : (∃ e, d = .slice e) ∨ d = .string)
    (hsz : tsize P et = some sz) (hby : tbytes P et = some by_) (hz : tzero P et = some z) (hzl : z.cells.length = sz) (hsz0 : sz ≠ 0) (hby0 : by_ ≠ 0) (hs : cX s = some s') (hx : cX x = some x')
    (hst : hstep base (.appendarr sz by_ s' x') e h k) (hh : HeapRel K h w) (he : EnvRel K w e a.tmps) : Ok P o a K w k := by
  obtain ⟨cs, hrun⟩ := run_builtin (P := P) (w := w) (a := a) ho
  have hts : ∀ args, Builtin.append_ ts o.type args = Builtin.append_ #[t, u] o.type args := fun args => by simp [Builtin.append_, h0, h1]
  have fin : ∀ {y h'}, ArrOut P t u o.type K w (a.eval s) (a.eval x) h' y → k y h' → Ok P o a K w k := by
    rintro y h' ⟨v, K', w', hr, hs', hh', hV⟩ hk
    refine ⟨y, v, K', w', h', .inl ?_, hs', hh', hV, hk⟩
    rw [hrun]
    have : (#[s, x] : Array Operand).map a.eval = #[a.eval s, a.eval x] := by simp
    simp only [builtin, this, hts, Sem.run_bind, hr, Result.andThen_ok, Sem.run_pure]
  obtain ⟨i, zu, hi, hzu, hzc⟩ := tzero_info hz
  have hisz : i.size = sz := by simp [tsize, hi] at hsz; exact hsz
  have hiby : i.bytes = by_ := by simp [tbytes, hi] at hby; exact hby
  have hzus : zu.cells.size = sz := by rw [← ((V_hconst (K := K) (w := w) hzc).cells (hconst_tuple hzc)).1]; exact hzl
  subst hisz; subst hiby
  simp only [hstep] at hst
  split at hst
  · rename_i bv y hev1 hev2
    have hs' := ev_sound hs he hev1
    have hx' := ev_sound hx he hev2
    obtain ⟨hok, hst⟩ := hst
    obtain ⟨nv, hsrc, hnl, hy⟩ := src_any (P := P) hx' hok hh
    split at hst
    · exact fin (arr_list ht hu hd hi hzu hzus hby0 hs' hsrc hnl hy hst.1 hh) hst.2
    · rename_i id m z'
      split at hst
      · rename_i cs' hcs
        obtain ⟨⟨rfl, hml, hfit⟩, hk⟩ := hst
        have hc : h[id]? = some (.cells cs') := by
          unfold Heap.cells at hcs
          split at hcs
          · rename_i hg; injection hcs with hcs; subst hcs; exact hg
          · cases hcs
        exact fin (arr_arr ht hu hd hi hzu hzus hby0 hs' hc hml hsrc hnl hy hfit hh) hk
      · exact hst.elim
    · exact hst.elim
  · exact hst.elim
end
end Go.Hw

set_option linter.unusedVariables false
set_option linter.unusedSimpArgs false
namespace Go.Hw
open Go

variable {P : Program}

theorem bind_some {α β : Type} {x : Option α} {f : α → Option β} {y : β} (h : x.bind f = some y) : ∃ z, x = some z ∧ f z = some y := Option.bind_eq_some_iff.1 h

section
variable {o : Oper} {a : Act} {K : GK} {w : World} {k : HV → Heap → Prop} {e : Env} {h : Heap} (base : Nat)

theorem sound_slice {t : TypeId} {x : Operand} {lo hi mx : Option Operand} {r : Option Nat} {m : Bool} {ho : O} (hop : o.op = .slice t x lo hi mx) (hc : cOp P r m o = some (.op ho)) (hs : hstep base ho e h k) (hh : HeapRel K h w) (he : EnvRel K w e a.tmps) : Ok P o a K w k := by
  simp only [cOp, hop, Option.map_eq_some_iff, Option.bind_eq_bind, OC.op.injEq, exists_eq_right] at hc
  split at hc
  · rename_i n et ht
    split at hc
    · obtain ⟨sz, h1, hc⟩ := bind_some hc
      obtain ⟨y, h2, hc⟩ := bind_some hc
      obtain ⟨lo', h3, hc⟩ := bind_some hc
      obtain ⟨hi', h4, hc⟩ := bind_some hc
      injection hc with hc
      subst hc
      exact ok_slicearr base hop ht h1 h2 h3 h4 hs hh he
    · cases hc
  · rename_i ht
    split at hc
    · obtain ⟨y, h2, hc⟩ := bind_some hc
      obtain ⟨lo', h3, hc⟩ := bind_some hc
      obtain ⟨hi', h4, hc⟩ := bind_some hc
      injection hc with hc
      subst hc
      simp only [hstep] at hs
      split at hs
      · rename_i s hev
        split at hs
        · rename_i p q hp hq
          exact ok_slice_str hop ht h2 h3 h4 hev hp hq hs.1 hs.2 hh he
        · exact hs.elim
      · exact hs.elim
    · cases hc
  · rename_i et ht
    obtain ⟨sz, h1, hc⟩ := bind_some hc
    obtain ⟨y, h2, hc⟩ := bind_some hc
    obtain ⟨lo', h3, hc⟩ := bind_some hc
    obtain ⟨hi', h4, hc⟩ := bind_some hc
    obtain ⟨mx', h5, hc⟩ := bind_some hc
    injection hc with hc
    subst hc
    simp only [hstep] at hs
    split at hs
    · rename_i l tok hev
      cases mx with
      | none =>
        simp [cOpt] at h5
        subst h5
        dsimp only at hs
        split at hs
        · rename_i p q hp hq
          exact ok_slice_list hop ht h1 h2 h3 h4 hev hp hq hs.1 hs.2 hh he
        · exact hs.elim
      | some m0 =>
        simp only [cOpt, Option.map_eq_some_iff] at h5
        obtain ⟨m', h5, rfl⟩ := h5
        dsimp only at hs
        split at hs
        · rename_i p q c hp hq hcc
          cases hi with
          | none =>
            simp [cOpt] at h4
            subst h4
            simp at hq
          | some hi0 =>
            simp only [cOpt, Option.map_eq_some_iff] at h4
            obtain ⟨hi', h4, rfl⟩ := h4
            exact ok_slice_list3 hop ht h1 h2 h3 h4 h5 hev hp (by simpa using hq) hcc hs.1 hs.2 hh he
        · exact hs.elim
    · rename_i id off n z hev
      cases mx with
      | none =>
        simp [cOpt] at h5
        subst h5
        dsimp only at hs
        split at hs
        · rename_i p q hp hq
          exact ok_slice_arr hop ht h1 h2 h3 h4 hev hp hq hs.1 hs.2 hh he
        · exact hs.elim
      | some m0 =>
        simp only [cOpt, Option.map_eq_some_iff] at h5
        obtain ⟨m', h5, rfl⟩ := h5
        exact hs.elim
    · exact hs.elim
  · cases hc

theorem sound_builtin {b : Builtin} {args : Array Operand} {ts : Array TypeId} {ys : List X} {t0 : TypeId} {m : Bool} {ho : O} (hop : o.op = .call { callee := .builtin b, args := args, argTypes := ts }) (hys : args.toList.mapM cX = some ys) (ht0 : ts[0]? = some t0)
    (hc0 : cBuiltin P m b ys ts = some ho) (hs : hstep base ho e h k) (hh : HeapRel K h w) (he : EnvRel K w e a.tmps) : Ok P o a K w k := by
    unfold cBuiltin at hc0
    obtain ⟨t0', ht0', hc⟩ := bind_some hc0
    clear hc0
    rw [ht0] at ht0'
    injection ht0' with ht0'
    subst ht0'
    have one : ∀ {y : X}, ys = [y] → ∃ x, args = #[x] ∧ cX x = some y := by
      intro y hy
      subst hy
      cases hl : args.toList with
      | nil => rw [hl] at hys; simp at hys
      | cons x r =>
        rw [hl] at hys
        obtain ⟨h1, h2⟩ := mapM_some hys
        cases r with
        | nil => exact ⟨x, by apply Array.ext'; simpa using hl, h2 0 x y rfl rfl⟩
        | cons _ _ => simp at h1
    have two : ∀ {y z : X}, ys = [y, z] → ∃ x u, args = #[x, u] ∧ cX x = some y ∧ cX u = some z := by
      intro y z hy
      subst hy
      cases hl : args.toList with
      | nil => rw [hl] at hys; simp at hys
      | cons x r =>
        rw [hl] at hys
        obtain ⟨h1, h2⟩ := mapM_some hys
        cases r with
        | nil => simp at h1
        | cons u r =>
          cases r with
          | nil => exact ⟨x, u, by apply Array.ext'; simpa using hl, h2 0 x y rfl rfl, h2 1 u z rfl rfl⟩
          | cons _ _ => simp at h1
    split at hc
    · -- len
      rename_i y
      obtain ⟨x, rfl, hx⟩ := one rfl
      split at hc
      · injection hc with hc; subst hc
        exact ok_len_str base hop ht0 (by assumption) hx hs hh he
      · injection hc with hc; subst hc
        exact ok_len_list base hop ht0 (by assumption) hx hs hh he
      · injection hc with hc; subst hc
        exact ok_lenc base hop ht0 (.inl ⟨_, by assumption⟩) hs hh he
      · rename_i ar har
        split at hc
        · injection hc with hc; subst hc
          exact ok_lenc base hop ht0 (.inr ⟨_, _, har, by assumption⟩) hs hh he
        · cases hc
      · cases hc
    · -- append
      rename_i y z
      obtain ⟨x, u, rfl, hx, hu⟩ := two rfl
      obtain ⟨t1, ht1, hc⟩ := bind_some hc
      split at hc
      · rename_i et het
        obtain ⟨sz, h1, hc⟩ := bind_some hc
        obtain ⟨by_, h2, hc⟩ := bind_some hc
        obtain ⟨zz, h3, hc⟩ := bind_some hc
        split at hc
        all_goals first
          | (cases hc; done)
          | (rename_i hu1
             split at hc
             · cases hc
             · rename_i hcond
               simp only [Bool.or_eq_true, beq_iff_eq, bne_iff_ne, ne_eq, not_or, Decidable.not_not] at hcond
               split at hc
               · injection hc with hc; subst hc
                 exact ok_appendarr base hop ht0 ht1 het hu1 (by first | exact .inl ⟨_, rfl⟩ | exact .inr rfl) h1 h2 h3 hcond.2 hcond.1.1 hcond.1.2 hx hu hs hh he
               · injection hc with hc; subst hc
                 exact ok_append base hop ht0 ht1 het hu1 (by first | exact .inl ⟨_, rfl⟩ | exact .inr rfl) h1 h2 h3 hcond.2 hcond.1.1 hcond.1.2 hx hu hs hh he)
      · cases hc
    · -- copy
      split at hc
      · obtain ⟨sz, h1, hc⟩ := bind_some hc
        injection hc with hc; subst hc; exact hs.elim
      · cases hc
    · injection hc with hc; subst hc
      exact ok_minmax (isMax := false) base hop hys (by simpa using hs) hh he
    · injection hc with hc; subst hc
      exact ok_minmax (isMax := true) base hop hys (by simpa using hs) hh he
    · cases hc

theorem sound_call {c : Call} {m : Bool} {ho : O} (hop : o.op = .call c) (hc : cCall P m c = some (.op ho)) (hs : hstep base ho e h k) (hh : HeapRel K h w) (he : EnvRel K w e a.tmps) : Ok P o a K w k := by
  obtain ⟨callee, args, ts⟩ := c
  unfold cCall at hc
  split at hc
  · rename_i b heq
    simp only at heq
    subst heq
    simp only [Option.map_eq_some_iff, OC.op.injEq, exists_eq_right, Option.bind_eq_bind] at hc
    obtain ⟨ys, hys, hc⟩ := bind_some hc
    have hc' := hc
    unfold cBuiltin at hc'
    obtain ⟨t0, ht0, _⟩ := bind_some hc'
    exact sound_builtin base hop hys ht0 hc hs hh he
  · obtain ⟨ys, hys, hc⟩ := bind_some hc
    cases hc
  · obtain ⟨f', hf, hc⟩ := bind_some hc
    obtain ⟨ys, hys, hc⟩ := bind_some hc
    cases hc
  · cases hc

theorem op_sound {r : Option Nat} {m : Bool} {ho : O} (hc : cOp P r m o = some (.op ho)) (hs : hstep base ho e h k) (hh : HeapRel K h w) (he : EnvRel K w e a.tmps) : Ok P o a K w k := by
  cases hop : o.op
  case slice t x lo hi mx => exact sound_slice base hop hc hs hh he
  all_goals simp only [cOp, hop, Option.map_eq_some_iff, Option.bind_eq_some_iff, Option.bind_eq_bind, Option.pure_def, OC.op.injEq, exists_eq_right, Option.some.injEq, reduceCtorEq] at hc
  case move x => obtain ⟨y, h1, rfl⟩ := hc; exact ok_mv base (.inl hop) h1 hs hh he
  case assign x => obtain ⟨y, h1, rfl⟩ := hc; exact ok_mv base (.inr hop) h1 hs hh he
  case pick c x y => obtain ⟨c', h1, x', h2, y', h3, rfl⟩ := hc; exact ok_pick base hop h1 h2 h3 hs hh he
  case alloc t => obtain ⟨z, h1, rfl⟩ := hc; exact ok_alloc base hop h1 hs hh he
  case box t x => obtain ⟨n, h1, y, h2, rfl⟩ := hc; exact ok_box base hop h1 h2 hs hh he
  case build t parts =>
    obtain ⟨z, h1, hc⟩ := hc
    split at hc
    · rename_i fs hfs
      obtain ⟨ns, h0, hc⟩ := bind_some hc
      obtain ⟨ps, h2, hc⟩ := bind_some hc
      injection hc with hc; subst hc
      exact ok_build_struct base hop h1 hfs h0 h2 hs hh he
    · rename_i n et het
      obtain ⟨sz, h3, hc⟩ := bind_some hc
      obtain ⟨ps, h2, hc⟩ := bind_some hc
      injection hc with hc; subst hc
      exact ok_build_array base hop h1 het h3 h2 hs hh he
    · cases hc
  case buildSlice t len parts =>
    split at hc
    · rename_i et het
      obtain ⟨n, h1, hc⟩ := bind_some hc
      obtain ⟨z, h2, hc⟩ := bind_some hc
      obtain ⟨xs, h3, hc⟩ := bind_some hc
      split at hc
      · rename_i hcond
        simp only [Bool.and_eq_true, bne_iff_ne, ne_eq, beq_iff_eq, decide_eq_true_eq] at hcond
        injection hc with hc
        split at hc
        · subst hc
          exact ok_mkarr base hop het h1 hcond.1.1.1 h2 hcond.1.1.2 h3 hcond.1.2 hcond.2 hs hh he
        · subst hc
          exact ok_mklist base hop het h1 hcond.1.1.1 h2 hcond.1.1.2 h3 hcond.1.2 hcond.2 hs hh he
      · cases hc
    · cases hc
  case load t x => obtain ⟨n, h1, y, h2, rfl⟩ := hc; exact ok_load base hop h1 h2 hs hh he
  case store t x v => obtain ⟨n, h1, y, h2, z, h3, rfl⟩ := hc; exact ok_store base hop h1 h2 h3 hs hh he
  case nilCheck x => obtain ⟨y, h1, rfl⟩ := hc; exact ok_nilck base hop h1 hs hh he
  case binOp op t x y yt =>
    unfold cBin at hc
    split at hc
    · split at hc
      · rename_i ms _ ht
        obtain ⟨y', h1, rfl⟩ := Option.map_eq_some_iff.1 hc
        exact ok_isnil (neg := false) base hop ht h1 hs hh he
      · obtain ⟨kd, h1, hc⟩ := bind_some hc
        obtain ⟨x', h2, hc⟩ := bind_some hc
        obtain ⟨y', h3, hc⟩ := bind_some hc
        injection hc with hc; subst hc
        by_cases hag : ∃ n, kd = .agg n
        · obtain ⟨n, rfl⟩ := hag
          exact ok_eqagg (neg := false) base hop h1 h2 h3 hs hh he
        · exact ok_eqv (neg := false) base hop h1 (fun n hn => hag ⟨n, hn⟩) h2 h3 hs hh he
    · split at hc
      · rename_i ms _ ht
        obtain ⟨y', h1, rfl⟩ := Option.map_eq_some_iff.1 hc
        exact ok_isnil (neg := true) base hop ht h1 hs hh he
      · obtain ⟨kd, h1, hc⟩ := bind_some hc
        obtain ⟨x', h2, hc⟩ := bind_some hc
        obtain ⟨y', h3, hc⟩ := bind_some hc
        injection hc with hc; subst hc
        by_cases hag : ∃ n, kd = .agg n
        · obtain ⟨n, rfl⟩ := hag
          exact ok_eqagg (neg := true) base hop h1 h2 h3 hs hh he
        · exact ok_eqv (neg := true) base hop h1 (fun n hn => hag ⟨n, hn⟩) h2 h3 hs hh he
    · rename_i hne1 hne2
      obtain ⟨x', h2, hc⟩ := bind_some hc
      obtain ⟨y', h3, hc⟩ := bind_some hc
      injection hc with hc; subst hc
      exact ok_bin base (fun h => hne1 h) (fun h => hne2 h) hop h2 h3 hs hh he
  case unOp op t x => obtain ⟨y, h1, rfl⟩ := hc; exact ok_un base hop h1 hs hh he
  case convert src dst x =>
    unfold cConv at hc
    obtain ⟨y, h1, hc⟩ := bind_some hc
    split at hc
    · injection hc with hc; subst hc
      exact ok_conv_int base hop (by assumption) (by assumption) h1 hs hh he
    · injection hc with hc; subst hc
      exact ok_conv_same base hop (by assumption) (by assumption) h1 hs hh he
    · rename_i et hs1 hd1
      split at hc
      · rename_i hm
        injection hc with hc; subst hc
        have hu8 : P.underlying et = some (.int .u8) := by
          cases hq : P.underlying et with
          | none => simp [hq] at hm
          | some d =>
            cases d with
            | int kk => cases kk <;> simp [hq] at hm; rfl
            | _ => simp [hq] at hm
        exact ok_toBytes base hop hs1 hd1 hu8 h1 hs hh he
      · cases hc
    · rename_i et hs1 hd1
      split at hc
      · rename_i hm
        injection hc with hc; subst hc
        have hu8 : P.underlying et = some (.int .u8) := by
          cases hq : P.underlying et with
          | none => simp [hq] at hm
          | some d =>
            cases d with
            | int kk => cases kk <;> simp [hq] at hm; rfl
            | _ => simp [hq] at hm
        exact ok_conv_ofBytes base hop hs1 hu8 hd1 h1 hs hh he
      · cases hc
    · rename_i et0 et hs1 hd1
      have hu8 : P.underlying et = some (.int .u8) := by
        cases hq : P.underlying et with
        | none => simp [hq] at hc
        | some d =>
          cases d with
          | int kk => cases kk <;> simp [hq] at hc; rfl
          | _ => simp [hq] at hc
      simp only [hu8, if_true] at hc
      by_cases hm1 : src = dst
      · rw [if_pos hm1] at hc
        injection hc with hc; subst hc
        exact ok_mark base hop hm1 hd1 hu8 h1 hs hh he
      · rw [if_neg hm1] at hc; cases hc
    · cases hc
  case makeFunc fn first caps =>
    unfold cMkFunc at hc
    split at hc
    · split at hc
      · rename_i hf
        obtain ⟨ys, h1, hc⟩ := bind_some hc
        injection hc with hc; subst hc
        exact ok_mkfunc base hop (by simpa using hf) h1 hs hh he
      · cases hc
    · cases hc
  case makeSlice t l c =>
    split at hc
    · rename_i et het
      obtain ⟨sz, h1, hc⟩ := bind_some hc
      split at hc
      · cases hc
      · rename_i hsz0
        obtain ⟨by_, h2, hc⟩ := bind_some hc
        obtain ⟨z, h3, hc⟩ := bind_some hc
        obtain ⟨l', h4, hc⟩ := bind_some hc
        obtain ⟨c', h5, hc⟩ := bind_some hc
        injection hc with hc; subst hc
        exact ok_mkslice base hop het h1 h2 h3 (by simpa using hsz0) h4 h5 hs hh he
    · cases hc
  case fieldAddr t x i =>
    split at hc
    · rename_i fs hfs
      obtain ⟨f, h1, hc⟩ := bind_some hc
      obtain ⟨n, h2, hc⟩ := bind_some hc
      split at hc
      · cases hc
      · rename_i hn0
        obtain ⟨y, h3, hc⟩ := bind_some hc
        injection hc with hc; subst hc
        exact ok_faddr base hop hfs h1 h2 (by simpa using hn0) h3 hs hh he
    · cases hc
  case field t x i =>
    split at hc
    · rename_i fs hfs
      obtain ⟨f, h1, hc⟩ := bind_some hc
      obtain ⟨n, h2, hc⟩ := bind_some hc
      obtain ⟨y, h3, hc⟩ := bind_some hc
      injection hc with hc; subst hc
      exact ok_field base hop hfs h1 h2 h3 hs hh he
    · cases hc
  case indexAddr t x i =>
    split at hc
    · rename_i et het
      obtain ⟨n, h1, hc⟩ := bind_some hc
      obtain ⟨x', h2, hc⟩ := bind_some hc
      obtain ⟨i', h3, hc⟩ := bind_some hc
      injection hc with hc; subst hc
      exact ok_iaddr base hop het h1 h2 h3 hs hh he
    · rename_i m' et het
      split at hc
      · cases hc
      · obtain ⟨n, h1, hc⟩ := bind_some hc
        obtain ⟨x', h2, hc⟩ := bind_some hc
        obtain ⟨i', h3, hc⟩ := bind_some hc
        injection hc with hc; subst hc
        exact ok_iaddrarr base hop het h1 h2 h3 hs hh he
    · cases hc
  case index t x i =>
    split at hc
    · rename_i het
      obtain ⟨x', h2, hc⟩ := bind_some hc
      obtain ⟨i', h3, hc⟩ := bind_some hc
      injection hc with hc; subst hc
      exact ok_index base hop het h2 h3 hs hh he
    · rename_i m' et het
      obtain ⟨n, h1, hc⟩ := bind_some hc
      obtain ⟨ag, h4, hc⟩ := bind_some hc
      obtain ⟨x', h2, hc⟩ := bind_some hc
      obtain ⟨i', h3, hc⟩ := bind_some hc
      injection hc with hc; subst hc
      exact ok_indexarr base hop het h1 h4 h2 h3 hs hh he
    · cases hc
  case makeInterface t x =>
    obtain ⟨d, hd, hc⟩ := hc
    split at hc
    · cases hc
    · rename_i hn
      obtain ⟨y, h1, hc⟩ := bind_some hc
      injection hc with hc; subst hc
      exact ok_mkif base hop hd (fun ms hms => hn (by rw [hms]; rfl)) h1 hs hh he
  case extract x i => obtain ⟨y, h1, rfl⟩ := hc; exact ok_extract base hop h1 hs hh he
  case call c => exact sound_call base hop hc hs hh he
end
end Go.Hw

set_option linter.unusedVariables false
set_option linter.unusedSimpArgs false
namespace Go.Hw
open Go

def HCalls (P : Program) : CallP := fun f args h R =>
  (∃ fn, P.funcs[f]? = some fn ∧ fn.body.isSome = true ∧ fn.name ≠ "runtime.NumGoroutine") ∧
  ∀ (K : GK) (w : World) (vs : List Value), HeapRel K h w → args.length = vs.length → (∀ (j : Nat) (x : HV) (v : Value), args[j]? = some x → vs[j]? = some v → V K w x v) →
    Calls P f vs.toArray w fun en w' => ∃ v x K' h', en = .returned v ∧ Step K w K' w' ∧ HeapRel K' h' w' ∧ V K' w' x v ∧ R x h'

theorem HCalls.mono {P : Program} {f : FuncId} {args : List HV} {h : Heap} {R R' : HV → Heap → Prop} (hc : HCalls P f args h R) (hr : ∀ x h', R x h' → R' x h') : HCalls P f args h R' :=
  ⟨hc.1, fun K w vs hh hl hv => (hc.2 K w vs hh hl hv).mono fun en w' ⟨v, x, K', h', h1, h2, h3, h4, h5⟩ => ⟨v, x, K', h', h1, h2, h3, h4, hr x h' h5⟩⟩


inductive PV : HV → Prop
  | bool (b : Bool) : PV (.bool b)
  | int (k : IntKind) (n : Int) : PV (.int k n)
  | str (s : List UInt8) : PV (.str s)
  | list (hs : List HV) (tok : Tok) (ht : ∀ k o s, tok ≠ .own k o s) (h : ∀ (x : HV), x ∈ flat hs → PV x) : PV (.list hs tok)
  | nilslice : PV .nilslice
  | rptr (cs : List HV) (h : ∀ (x : HV), x ∈ cs → PV x) : PV (.rptr cs)
  | nilptr : PV .nilptr
  | nilmap : PV .nilmap
  | func (f : FuncId) (caps : List HV) (h : ∀ (x : HV), x ∈ caps → PV x) : PV (.func f caps)
  | nilfunc : PV .nilfunc
  | nilif : PV .nilif
  | iface (t : Nat) (x : HV) (h : PV x) : PV (.iface t x)
  | agg (cs : List HV) (h : ∀ (x : HV), x ∈ cs → PV x) : PV (.agg cs)
  | tuple (vs : List HV) (h : ∀ (x : HV), x ∈ vs → PV x) : PV (.tuple vs)
  | any : PV .any

theorem V.transfer {K K' : GK} {w : World} {x : HV} {v : Value} (h : V K w x v) (hp : PV x) (hl : ∀ b, K.lim b ≤ K'.lim b) : V K' w x v := by
  induction h with
  | bool b => exact .bool b
  | int k n => exact .int k n
  | str s => exact .str s
  | nil tok _ =>
    cases hp with
    | list _ _ ht _ =>
      refine .nil tok ?_
      cases tok with
      | own k o s => exact absurd rfl (ht k o s)
      | _ => trivial
  | list0 tok _ ad =>
    cases hp with
    | list _ _ ht _ =>
      refine .list0 tok ?_ ad
      cases tok with
      | own k o s => exact absurd rfl (ht k o s)
      | _ => trivial
  | nilslice => exact .nilslice
  | list hs tok b o cap sz vals hw hleaf hv hc hlim hcap htk ih =>
    cases hp with
    | list _ _ ht hall =>
      refine .list hs tok b o cap sz vals hw hleaf (fun j y hy => ih j y hy (hall y (List.mem_of_getElem? hy))) hc (fun h0 => Nat.le_trans (hlim h0) (hl b)) hcap ?_
      cases tok with
      | own k o s => exact absurd rfl (ht k o s)
      | none => trivial
      | full => exact htk
  | arr id off len sz b cap off' hr hcap ho hroom => cases hp
  | arrn id off sz => cases hp
  | arr0 id off sz ad => cases hp
  | rptr cs b o vals hleaf hv hc hlim ih =>
    cases hp with
    | rptr _ hall => exact .rptr cs b o vals hleaf (fun j y hy => ih j y hy (hall y (List.mem_of_getElem? hy))) hc (fun h0 => Nat.le_trans (hlim h0) (hl b))
  | ptr id off b hr => cases hp
  | nilptr => exact .nilptr
  | map id b hr => cases hp
  | nilmap => exact .nilmap
  | func f caps vs hn hv ih =>
    cases hp with
    | func _ _ hall => exact .func f caps vs hn (fun j y u hy hu => ih j y u hy hu (hall y (List.mem_of_getElem? hy)))
  | nilfunc => exact .nilfunc
  | nilif => exact .nilif
  | iface t x v ht hx ih =>
    cases hp with
    | iface _ _ hx' => exact .iface t x v ht (ih hx')
  | agg cs vs hn hleaf hv ih =>
    cases hp with
    | agg _ hall => exact .agg cs vs hn hleaf (fun j y u hy hu => ih j y u hy hu (hall y (List.mem_of_getElem? hy)))
  | tuple cs vs hn hv ih =>
    cases hp with
    | tuple _ hall => exact .tuple cs vs hn (fun j y u hy hu => ih j y u hy hu (hall y (List.mem_of_getElem? hy)))
  | any v h => exact .any v h

structure PCall (P : Program) (f : FuncId) (args : List HV) (r : HV) : Prop where
  pargs : ∀ x ∈ args, PV x
  pres : PV r
  call : HCalls P f args [] fun x _ => x.strip1 = r

def GK.bare (K : GK) : GK := { lim := K.lim, rho := fun _ => none, tb := fun _ => none, wm := fun _ => 0 }
theorem heap_bare {K : GK} {h : Heap} {w : World} (hh : HeapRel K h w) : HeapRel K.bare [] w :=
  ⟨fun id b hr => by simp [GK.bare] at hr, fun i j b x y hi => by simp [GK.bare] at hi, fun k => by simp [GK.bare], fun k b hk => by simp [GK.bare] at hk, fun i j b hi => by simp [GK.bare] at hi, hh.limb⟩
theorem not_owned_bare {K : GK} {b : Nat} : ¬ owned K.bare b := by
  rintro (⟨i, h⟩ | ⟨i, h⟩) <;> simp [GK.bare] at h

theorem PCall.use {P : Program} {f : FuncId} {args : List HV} {r : HV} (hp : PCall P f args r) {h : Heap} {R : HV → Heap → Prop} (hr : R r h) : HCalls P f args h R := by
  refine ⟨hp.call.1, fun K w vs hh hl hv => ?_⟩
  refine (hp.call.2 K.bare w vs (heap_bare hh) hl (fun j x v hx hvj => (hv j x v hx hvj).transfer (hp.pargs x (List.mem_of_getElem? hx)) (fun _ => Nat.le_refl _))).mono ?_
  rintro en w' ⟨v, x, K', h', rfl, s, hh', hV, rfl⟩
  have hfr : ∀ b, b < w.heap.size → w'.heap[b]? = w.heap[b]? ∧ K'.lim b = K.lim b := fun b hb => s.frame b hb not_owned_bare
  have hlim : ∀ b, K.lim b ≤ K'.lim b := s.lim
  have st : Step K w { K with lim := K'.lim } w' := by
    refine ⟨s.os, s.tape, s.output, s.size, hlim, fun _ => Nat.le_refl _, fun k _ => ⟨rfl, fun b hb => (hfr b (hh.tok k b hb).1).2⟩, fun _ _ h => h, s.cell, s.shape, fun _ _ h => h, fun b hb _ => hfr b hb⟩
  refine ⟨v, x.strip1, { K with lim := K'.lim }, h, rfl, st, ⟨fun id b hid => ?_, hh.inj, hh.wm, fun k b hk => ?_, hh.tinj, hh'.limb⟩, hV.strip1.transfer hp.pres (fun _ => Nat.le_refl _), hr⟩
  · obtain ⟨h1, o, h2, h3, h4⟩ := hh.obj id b hid
    exact ⟨Nat.lt_of_lt_of_le h1 s.size, o, h2, h3.keep st (hfr b h1).1, fun hlive => by rw [show ({ K with lim := K'.lim } : GK).lim b = K.lim b from (hfr b h1).2]; exact h4 hlive⟩
  · obtain ⟨h1, h2, h3, c, e, fr, h4, h5, h6⟩ := hh.tok k b hk
    exact ⟨Nat.lt_of_lt_of_le h1 s.size, h2, h3, c, e, fr, by rw [(hfr b h1).1]; exact h4, by rw [show ({ K with lim := K'.lim } : GK).lim b = K.lim b from (hfr b h1).2]; exact h5, h6⟩

def DCalls (P : Program) : CallP := fun f args h R => ∃ r, PCall P f args r ∧ R r h


variable {P : Program}

def OpFor (P : Program) (N : Nat) (ops : Array Oper) (i : Nat) (l : Op) : Prop :=
  ∃ o r m, ops[i]? = some o ∧ (cOp P r m o = some l.o ∨ l.o = .op .bad) ∧ l.dst = o.dst ∧ cGuard ops o.guard = some l.guard ∧ ∀ d, o.dst = some d → d < N
def AllFor (P : Program) (N : Nat) (ops : Array Oper) : List Nat → List Op → Prop
  | [], [] => True
  | i :: is, l :: ls => OpFor P N ops i l ∧ AllFor P N ops is ls
  | _, _ => False

theorem cOp_call {o : Oper} {r : Option Nat} {m : Bool} {f : FuncId} {xs : List X} (hc : cOp P r m o = some (.call f xs)) : ∃ args ts, o.op = .call { callee := .value (.func f), args := args, argTypes := ts } ∧ args.toList.mapM (cXn m) = some xs := by
  cases hop : o.op <;> simp only [cOp, hop, Option.map_eq_some_iff, Option.bind_eq_bind, reduceCtorEq, and_false, exists_false] at hc
  rename_i c
  obtain ⟨callee, args, ts⟩ := c
  unfold cCall at hc
  split at hc
  · obtain ⟨q, _, h2⟩ := Option.map_eq_some_iff.1 hc
    cases h2
  · rename_i g heq
    simp only at heq
    subst heq
    obtain ⟨ys, h1, h2⟩ := bind_some hc
    simp at h2
    obtain ⟨rfl, rfl⟩ := h2
    exact ⟨args, ts, rfl, h1⟩
  · obtain ⟨ys, h1, h2⟩ := bind_some hc
    obtain ⟨zs, h3, h4⟩ := bind_some h2
    simp at h4
  · cases hc
theorem cOp_callv {o : Oper} {r : Option Nat} {m : Bool} {f : X} {xs : List X} (hc : cOp P r m o = some (.callv f xs)) : ∃ g args ts, o.op = .call { callee := .value g, args := args, argTypes := ts } ∧ cX g = some f ∧ args.toList.mapM cX = some xs := by
  cases hop : o.op <;> simp only [cOp, hop, Option.map_eq_some_iff, Option.bind_eq_bind, reduceCtorEq, and_false, exists_false] at hc
  rename_i c
  obtain ⟨callee, args, ts⟩ := c
  unfold cCall at hc
  split at hc
  · obtain ⟨q, _, h2⟩ := Option.map_eq_some_iff.1 hc
    cases h2
  · rename_i g heq
    obtain ⟨ys, h1, h2⟩ := bind_some hc
    simp at h2
  · rename_i g hng heq
    simp only at heq
    subst heq
    obtain ⟨ys, h1, h2⟩ := bind_some hc
    obtain ⟨zs, h3, h4⟩ := bind_some h2
    simp at h4
    obtain ⟨rfl, rfl⟩ := h4
    exact ⟨g, args, ts, rfl, h1, h3⟩
  · cases hc

theorem run_callFunc {f : FuncId} {fn : Func} (hf : P.funcs[f]? = some fn) (hb : fn.body.isSome = true) (hn : fn.name ≠ "runtime.NumGoroutine") (args : Array Value) (w : World) : (callFunc f args).run P w = .ok (.enter f args) w := by
  have hb' : fn.body.isNone = false := by cases h : fn.body <;> simp_all
  simp [callFunc, hf, hn]
  intro hnone
  simp [hnone] at hb

theorem env_put {K : GK} {w : World} {e : Env} {a : Act} {dst : Option Nat} {x : HV} {v : Value} {N : Nat} (he : EnvRel K w e a.tmps) (hs : a.tmps.size = N) (hd : ∀ d, dst = some d → d < N) (hv : V K w x v) : EnvRel K w (e.put dst x) (a.put dst v).tmps := by
  cases dst with
  | none => exact he
  | some d =>
    intro t y hy
    simp only [Env.put, Env.get] at hy
    have hdl := hd d rfl
    simp only [Act.put, Array.getD_eq_getD_getElem?, Array.getElem?_setIfInBounds]
    split at hy
    · rename_i hdt
      subst hdt
      injection hy with hy
      subst hy
      simp [hs, hdl]; exact hv
    · rename_i hdt
      rw [if_neg hdt]
      have := he t y hy
      rwa [Array.getD_eq_getD_getElem?] at this
theorem act_put_size (a : Act) (dst : Option Nat) (v : Value) : (a.put dst v).tmps.size = a.tmps.size := by cases dst <;> simp [Act.put]
theorem act_put_defers (a : Act) (dst : Option Nat) (v : Value) : (a.put dst v).defers = a.defers := by cases dst <;> rfl

theorem hops_sound {N : Nat} {ops : Array Oper} {base : Nat} {S : CallP} (hS : ∀ f args h R, S f args h R → HCalls P f args h R) {Q : Env → Heap → Prop} {Q' : Exit → Act → World → Prop} {js : List Nat} : ∀ (is : List Nat) (ls : List Op), AllFor P N ops is ls → ∀ (e : Env) (h : Heap) (K : GK) (w : World) (a : Act), hops S base ls e h Q → Rel N K w e h a →
    (∀ K' w' e' h' a', Step K w K' w' → Rel N K' w' e' h' a' → Q e' h' → wpOps P ops Q' js a' w') → wpOps P ops Q' (is ++ js) a w
  | [], [], _, e, h, K, w, a, hq, hr, hfin => hfin K w e h a (.refl K w) hr hq
  | i :: is, l :: ls, ⟨⟨o, r, m, h1, h2, h3, h4, h5⟩, hrest⟩, e, h, K, w, a, hq, hr, hfin => by
    -- one operation that runs
    have run1 : hcall S base l.o e h (fun v h' => hops S base ls (e.put l.dst v) h' Q) → o.wp P a w (wpOps P ops Q' (is ++ js)) Q' := by
      intro hc
      have next : ∀ {x v K' w' h'}, Step K w K' w' → HeapRel K' h' w' → V K' w' x v → hops S base ls (e.put l.dst x) h' Q → wpOps P ops Q' (is ++ js) (a.put o.dst v) w' := by
        intro x v K' w' h' s hh' hV hk
        rw [h3] at hk
        exact hops_sound hS is ls hrest (e.put o.dst x) h' K' w' (a.put o.dst v) hk ⟨hh', env_put (hr.env.step s) hr.size h5 hV, by rw [act_put_size]; exact hr.size, by rw [act_put_defers]; exact hr.defers⟩ (fun K2 w2 e2 h2 a2 s2 r2 q2 => hfin K2 w2 e2 h2 a2 (s.trans s2) r2 q2)
      rcases h2 with h2 | h2
      rotate_left
      · rw [h2] at hc
        exact hc.elim
      cases hlo : l.o with
      | op ho =>
        rw [hlo] at hc h2
        have hc' : hstep base ho e h (fun v h' => hops S base ls (e.put l.dst v) h' Q) := hc
        obtain ⟨x, v, K', w', h', hg, s, hh', hV, hk⟩ := op_sound base h2 hc' hr.heap hr.env
        unfold Oper.wp
        rcases hg with hg | ⟨hg, hu⟩
        · rw [hg]; exact next s hh' hV hk
        · rw [hg]
          subst hu
          exact next s hh' hV hk
      | call f xs =>
        rw [hlo] at hc h2
        obtain ⟨args, ts, hop, hxs⟩ := cOp_call h2
        simp only [hcall] at hc
        split at hc
        · rename_i vs hvs
          obtain ⟨hl, hv⟩ := evsn_sound m hr.env hxs hvs
          obtain ⟨⟨fn, hf, hb, hn⟩, hcall⟩ := hS _ _ _ _ hc
          have := hcall K w (args.toList.map a.eval) hr.heap (by simp [hl]) (fun j x v hx hvj => by
            rw [List.getElem?_map] at hx hvj
            obtain ⟨y, hy, rfl⟩ := Option.map_eq_some_iff.1 hx
            obtain ⟨q, hq, rfl⟩ := Option.map_eq_some_iff.1 hvj
            exact (hv j y q hy hq).strip1)
          unfold Oper.wp
          have hrun : (execOp a.eval o).run P w = .ok (.enter f (args.toList.map a.eval).toArray) w := by
            simp only [execOp, hop, resolve, Act.eval, Deferred.ofValue, Sem.run_bind, Sem.run_pure, Result.andThen_ok, invoke]
            rw [run_callFunc hf hb hn]
            congr 2
            apply Array.ext'
            simp
          rw [hrun, Oper.upon_enter]
          refine this.mono ?_
          rintro en w' ⟨v, x, K', h', rfl, s, hh', hV, hk⟩
          exact next s hh' hV hk
        · exact hc.elim
      | callv f xs =>
        rw [hlo] at hc h2
        obtain ⟨g, args, ts, hop, hg, hxs⟩ := cOp_callv h2
        simp only [hcall] at hc
        split at hc
        · rename_i g' caps vs hev hvs
          obtain ⟨hl, hv⟩ := evs_sound hr.env hxs hvs
          have hfv := ev_sound hg hr.env hev
          generalize hgv : a.eval g = gv at hfv
          cases hfv with
          | func _ _ us hn' hus =>
            obtain ⟨⟨fn, hf, hb, hn⟩, hcall⟩ := hS _ _ _ _ hc
            have := hcall K w (args.toList.map a.eval ++ us) hr.heap (by simp [hl, hn']) (fun j x v hx hvj => by
              rw [List.getElem?_append] at hx hvj
              have e1 : (vs.map HV.strip1).length = (args.toList.map a.eval).length := by simp [hl]
              rw [e1] at hx
              split at hx
              · rename_i hj
                rw [if_pos hj] at hvj
                rw [List.getElem?_map] at hx hvj
                obtain ⟨y, hy, rfl⟩ := Option.map_eq_some_iff.1 hx
                obtain ⟨q, hq, rfl⟩ := Option.map_eq_some_iff.1 hvj
                exact (hv j y q hy hq).strip1
              · rename_i hj
                rw [if_neg hj] at hvj
                exact hus _ x v hx hvj)
            unfold Oper.wp
            have hrun : (execOp a.eval o).run P w = .ok (.enter g' (args.toList.map a.eval ++ us).toArray) w := by
              simp only [execOp, hop, resolve, hgv, Deferred.ofValue, Sem.run_bind, Sem.run_pure, Result.andThen_ok, invoke]
              rw [run_callFunc hf hb hn]
              congr 2
              apply Array.ext'
              simp
            rw [hrun, Oper.upon_enter]
            refine this.mono ?_
            rintro en w' ⟨v, x, K', h', rfl, s, hh', hV, hk⟩
            exact next s hh' hV hk
        · exact hc.elim
    have skip1 : hops S base ls (e.put l.dst (.tuple [])) h Q → wpOps P ops Q' (is ++ js) (a.put o.dst undef) w := by
      intro hk
      rw [h3] at hk
      exact hops_sound hS is ls hrest (e.put o.dst (.tuple [])) h K w (a.put o.dst undef) hk ⟨hr.heap, env_put hr.env hr.size h5 (V.tuple [] [] rfl (fun j h v hh => by simp at hh)), by rw [act_put_size]; exact hr.size, by rw [act_put_defers]; exact hr.defers⟩ hfin
    simp only [List.cons_append, wpOps, h1]
    simp only [hops] at hq
    cases hg : o.guard with
    | none =>
      simp only [hg, cGuard, Option.some.injEq] at h4
      rw [← h4] at hq
      rw [if_pos (by simp [Region.wanted, hg])]
      exact .inl (run1 hq)
    | some jb =>
      obtain ⟨j, b⟩ := jb
      simp only [hg, cGuard, Option.bind_eq_bind] at h4
      obtain ⟨oj, hoj, h4⟩ := bind_some h4
      obtain ⟨d, hd, h4⟩ := bind_some h4
      simp only [Option.some.injEq] at h4
      rw [← h4] at hq
      have hy : ∀ x, e.get d = some x → V K w x (a.tmps.getD d undef) := fun x hx => hr.env d x hx
      dsimp only at hq
      split at hq
      · rename_i c hc
        have hV := hy _ hc
        have hyl : yielded ops a.tmps j = some c := by
          simp only [yielded, hoj, hd, Option.bind_some]
          rw [Array.getD_eq_getD_getElem?] at hV
          cases ht : a.tmps[d]? with
          | none => rw [ht] at hV; simp [undef] at hV; cases hV
          | some u => rw [ht] at hV; simp at hV; cases hV; rfl
        by_cases hcb : c = b
        · rw [if_pos (by simp [Region.wanted, hg, hyl, hcb])]
          exact .inl (run1 (hq.1 hcb))
        · rw [if_neg (by simp [Region.wanted, hg, hyl, hcb])]
          exact skip1 (hq.2 hcb)
      · rename_i hc
        have hV := hy _ hc
        have hyl : yielded ops a.tmps j = none := by
          simp only [yielded, hoj, hd, Option.bind_some]
          rw [Array.getD_eq_getD_getElem?] at hV
          cases ht : a.tmps[d]? with
          | none => rfl
          | some u =>
            rw [ht] at hV
            simp at hV
            cases hV
            rfl
        rw [if_neg (by simp [Region.wanted, hg, hyl])]
        exact skip1 hq
      · exact hq.elim
  | [], _ :: _, h, _, _, _, _, _, _, _, _ => h.elim
  | _ :: _, [], h, _, _, _, _, _, _, _, _ => h.elim

end Go.Hw

set_option linter.unusedVariables false
set_option linter.unusedSimpArgs false
namespace Go.Hw
open Go

variable {P : Program} {base : Nat} {e : Env} {h : Heap} {k : HV → Heap → Prop}

inductive Dat where
  | same (rd : Bool)
  | res (j : Nat) (ob : HObj)
  | tnew (n : Nat)
  | tset (id m n : Nat)
  | any (h0 h1 : Heap)
def Dat.at (base : Nat) : Dat → Heap → Heap → Prop
  | .same false, _, _ => True
  | .same true, h, g => ∀ (id : Nat) (x : HObj), h[id]? = some x → x.live → g[id]? = some x
  | .res j ob, _, g => ob.live ∧ g[base + j]? = some .res
  | .tnew _, h, g => g.length = h.length
  | .tset id m _, _, g => g[id]? = some (.tok m)
  | .any h0 _, _, g => g = h0
def EE (e e' : Env) : Prop := ∀ t, e.get t = e'.get t
theorem EE.put {e' : Env} (he : EE e e') (dst : Option Nat) (v : HV) : EE (e.put dst v) (e'.put dst v) := by
  intro t
  cases dst with
  | none => exact he t
  | some d => simp only [Env.put, Env.get, he t]
end Go.Hw

set_option linter.unusedVariables false
set_option linter.unusedSimpArgs false
namespace Go.Hw
open Go

variable {P : Program}

theorem cOps_from {ann : Ann} {N id : Nat} {ops : Array Oper} {draw : Bool} : ∀ {rest : List Oper} {i r : Nat} {l : List Op} {r' : Nat}, (∀ j, rest[j]? = ops[i + j]?) → cOps P ann N id ops draw rest i r = some (l, r') → AllFor P N ops (List.range' i rest.length) l
  | [], i, r, l, r', _, h => by
    simp [cOps] at h
    obtain ⟨rfl, _⟩ := h
    trivial
  | o :: rest, i, r, l, r', hi, h => by
    simp only [cOps, Option.bind_eq_bind] at h
    have h1 : ∀ {r m} (oc : Option OC), cOp P r m o = oc → ∃ r m, cOp P r m o = some (oc.getD (.op .bad)) ∨ oc.getD (.op .bad) = .op .bad := by
      intro r m oc hoc
      cases oc with
      | none => exact ⟨r, m, .inr rfl⟩
      | some z => exact ⟨r, m, .inl hoc⟩
    obtain ⟨r0, m0, h1⟩ := h1 _ rfl
    obtain ⟨g, h2, h⟩ := bind_some h
    obtain ⟨⟨l', r''⟩, h3, h⟩ := bind_some h
    split at h
    · cases h
    · rename_i hd
      simp only [Option.some.injEq, Prod.mk.injEq] at h
      obtain ⟨rfl, rfl⟩ := h
      have h0 : ops[i]? = some o := by simpa using (hi 0).symm
      refine ⟨⟨o, r0, m0, h0, h1, rfl, h2, fun d hdd => ?_⟩, cOps_from (fun j => by have := hi (j + 1); simpa [Nat.add_assoc, Nat.add_comm 1 j] using this) h3⟩
      rw [hdd] at hd
      simpa using hd
theorem cOps_all {ann : Ann} {N id : Nat} {ops : Array Oper} {draw : Bool} {l : List Op} {r : Nat} (h : cOps P ann N id ops draw ops.toList 0 0 = some (l, r)) : AllFor P N ops (List.range ops.size) l := by
  have := cOps_from (P := P) (rest := ops.toList) (i := 0) (fun j => by simp) h
  rwa [Array.length_toList, ← List.range_eq_range'] at this
def VR (ops : Array Oper) : List Nat → Prop
  | [] => True
  | p :: acc => (p < ops.size ∧ p ∉ acc ∧ ∀ o, ops[p]? = some o → ∀ ed ∈ o.after, Region.binds .any ed = true → ed.on ∈ acc) ∧ VR ops acc
theorem VR.tail {ops : Array Oper} : ∀ {x y : List Nat}, VR ops (x ++ y) → VR ops y
  | [], _, h => h
  | _ :: x, y, h => VR.tail (x := x) h.2
theorem VR.nodup {ops : Array Oper} : ∀ {l : List Nat}, VR ops l → l.Nodup ∧ ∀ i ∈ l, i < ops.size
  | [], _ => ⟨List.nodup_nil, by simp⟩
  | p :: acc, h => by
    obtain ⟨h1, h2⟩ := VR.nodup h.2
    exact ⟨List.nodup_cons.2 ⟨h.1.2.1, h1⟩, fun i hi => by simp at hi; rcases hi with rfl | hi; exact h.1.1; exact h2 i hi⟩
theorem pigeon : ∀ (n : Nat) (l : List Nat), l.Nodup → (∀ i ∈ l, i < n) → l.length ≤ n
  | 0, l, _, h => by
    cases l with
    | nil => simp
    | cons a r => exact absurd (h a (by simp)) (by omega)
  | n + 1, l, hn, h => by
    have h1 := pigeon n (l.erase n) (hn.erase n) (fun i hi => by
      have h2 := h i (List.mem_of_mem_erase hi)
      have h3 : i ≠ n := fun e => by subst e; exact (List.Nodup.not_mem_erase hn) hi
      omega)
    by_cases hm : n ∈ l
    · rw [List.length_erase_of_mem hm] at h1; omega
    · rw [List.erase_of_not_mem hm] at h1; omega
theorem VR.all {ops : Array Oper} {l : List Nat} (h : VR ops l) (hl : ops.size ≤ l.length) : ∀ i, i < ops.size → i ∈ l := by
  intro i hi
  refine Classical.byContradiction fun hm => ?_
  obtain ⟨h1, h2⟩ := h.nodup
  have := pigeon ops.size (i :: l) (List.nodup_cons.2 ⟨hm, h1⟩) (fun j hj => by simp at hj; rcases hj with rfl | hj; exact hi; exact h2 j hj)
  simp at this
  omega

def Bits (ops : Array Oper) (acc : Array Nat) : Prop := ∀ j i, (acc.getD j 0).testBit i = true → ∃ o, ops[j]? = some o ∧ ∃ ed ∈ o.after, Region.binds .any ed = true ∧ (i = ed.on ∨ (ed.on < j ∧ (acc.getD ed.on 0).testBit i = true))
theorem fold_bits {acc : Array Nat} {i : Nat} : ∀ (l : List Edge) (s : Nat), (l.foldl (fun s e => if Region.binds .any e then s ||| 2 ^ e.on ||| acc.getD e.on 0 else s) s).testBit i = true → s.testBit i = true ∨ ∃ ed ∈ l, Region.binds .any ed = true ∧ (i = ed.on ∨ (acc.getD ed.on 0).testBit i = true)
  | [], s, h => .inl h
  | e :: l, s, h => by
    rw [List.foldl_cons] at h
    rcases fold_bits l _ h with h1 | ⟨ed, h2, h3⟩
    · split at h1
      · rename_i hbd
        rw [Nat.testBit_or, Nat.testBit_or] at h1
        simp only [Bool.or_eq_true] at h1
        rcases h1 with (h1 | h1) | h1
        · exact .inl h1
        · refine .inr ⟨e, by simp, hbd, .inl ?_⟩
          rw [Nat.testBit_two_pow] at h1
          exact (of_decide_eq_true h1).symm
        · exact .inr ⟨e, by simp, hbd, .inr h1⟩
      · exact .inl h1
    · exact .inr ⟨ed, by simp [h2], h3⟩
theorem before_bits (ops : Array Oper) : Bits ops (Region.before ops) := by
  have key : ∀ (l : List Oper) (acc : Array Nat), (∀ j, l[j]? = ops[acc.size + j]?) → Bits ops acc → Bits ops (l.foldl (fun acc o => acc.push (o.after.foldl (fun s e => if Region.binds .any e then s ||| 2 ^ e.on ||| acc.getD e.on 0 else s) 0)) acc) := by
    intro l
    induction l with
    | nil => intro acc _ h; exact h
    | cons o l ih =>
      intro acc hl h
      rw [List.foldl_cons]
      refine ih _ (fun j => ?_) ?_
      · have := hl (j + 1)
        simpa [Nat.add_assoc, Nat.add_comm 1 j] using this
      · intro j i hji
        have hgd : ∀ q, q < acc.size → ∀ x, (acc.push x).getD q 0 = acc.getD q 0 := fun q hq x => by
          simp only [Array.getD_eq_getD_getElem?, Array.getElem?_push]
          rw [if_neg (by omega)]
        have hz : ∀ q, acc.size ≤ q → acc.getD q 0 = 0 := fun q hq => by
          simp [Array.getD_eq_getD_getElem?, hq]
        rcases Nat.lt_trichotomy j acc.size with hj | hj | hj
        · rw [hgd j hj] at hji
          obtain ⟨o', h1, ed, h2, h3, h4⟩ := h j i hji
          refine ⟨o', h1, ed, h2, h3, h4.imp id fun h5 => ⟨h5.1, ?_⟩⟩
          rw [hgd _ (by omega)]
          exact h5.2
        · subst hj
          rw [Array.getD_eq_getD_getElem?, Array.getElem?_push] at hji
          simp only [if_true, Option.getD_some] at hji
          rw [← Array.foldl_toList] at hji
          rcases fold_bits _ _ hji with h1 | ⟨ed, h2, h3, h4⟩
          · simp at h1
          · refine ⟨o, by simpa using (hl 0).symm, ed, by simpa using h2, h3, h4.imp id fun h5 => ?_⟩
            have hlt : ed.on < acc.size := by
              rcases Nat.lt_or_ge ed.on acc.size with h | h
              · exact h
              · rw [hz _ h] at h5; simp at h5
            exact ⟨hlt, by rw [hgd _ hlt]; exact h5⟩
        · rw [Array.getD_eq_getD_getElem?, Array.getElem?_push, if_neg (by omega)] at hji
          simp [show acc.size ≤ j by omega] at hji
  unfold Region.before
  rw [← Array.foldl_toList]
  exact key ops.toList #[] (fun j => by simp) (fun j i h => by simp at h)
theorem VR.before {ops : Array Oper} : ∀ (p : Nat) {acc : List Nat} {i : Nat}, VR ops (p :: acc) → ((Region.before ops).getD p 0).testBit i = true → i ∈ acc := by
  intro p
  induction p using Nat.strongRecOn with
  | _ p ih =>
    intro acc i hv hb
    obtain ⟨o, h1, ed, h2, h3, h4⟩ := before_bits ops p i hb
    have h5 := hv.1.2.2 o h1 ed h2 h3
    rcases h4 with rfl | ⟨h6, h7⟩
    · exact h5
    · obtain ⟨x, y, rfl⟩ := List.append_of_mem h5
      have := ih ed.on h6 (VR.tail hv.2) h7
      simp [this]


theorem DCalls.sub {f : FuncId} {args : List HV} {h : Heap} {R : HV → Heap → Prop} (hd : DCalls P f args h R) : HCalls P f args h R := by
  obtain ⟨r, hp, hr⟩ := hd
  exact hp.use hr

section
variable {N : Nat} {ops : Array Oper} {l : List Op} {q base : Nat} {Q : Env → Heap → Prop} {Q' : Exit → Act → World → Prop}
def rem (q : Nat) (acc : List Nat) : List Nat := (List.range q).filter fun i => !acc.contains i
end

theorem hops_all {N : Nat} {ops : Array Oper} {base : Nat} {S : CallP} (hS : ∀ f args h R, S f args h R → HCalls P f args h R) {Q : Env → Heap → Prop} {Q' : Exit → Act → World → Prop} {is : List Nat} {ls : List Op} (hall : AllFor P N ops is ls) (e : Env) (h : Heap) (K : GK) (w : World) (a : Act) (hq : hops S base ls e h Q) (hr : Rel N K w e h a)
    (hfin : ∀ K' w' e' h' a', Step K w K' w' → Rel N K' w' e' h' a' → Q e' h' → Q' .normal a' w') : wpOps P ops Q' is a w := by
  have := hops_sound (Q' := Q') (js := []) hS is ls hall e h K w a hq hr hfin
  rwa [List.append_nil] at this
end Go.Hw

set_option linter.unusedVariables false
set_option linter.unusedSimpArgs false
namespace Go.Hw
open Go

variable {P : Program}

def Ex.up : Ex → Exit
  | .normal => .normal
  | .exit i => .exit i
  | .ret => .ret

def Lift (N : Nat) (K : GK) (w : World) (Q : Ex → Env → Heap → Prop) : Exit → Act → World → Prop := fun x a' w' =>
  ∃ q K' e' h', x = Ex.up q ∧ Step K w K' w' ∧ Rel N K' w' e' h' a' ∧ Q q e' h'
theorem Lift.imp {N : Nat} {K : GK} {w : World} {Q Q' : Ex → Env → Heap → Prop} (hq : ∀ q e h, Q q e h → Q' q e h) {x : Exit} {a : Act} {w' : World} (h : Lift N K w Q x a w') : Lift N K w Q' x a w' :=
  let ⟨q, K', e', h', h1, h2, h3, h4⟩ := h
  ⟨q, K', e', h', h1, h2, h3, hq q e' h' h4⟩

theorem prune_rel {N : Nat} {K : GK} {w : World} {e : Env} {h : Heap} {a : Act} (hr : Rel N K w e h a) (keep : List Nat) : Rel N K w (prune e keep) h a :=
  ⟨hr.heap, fun t x hx => hr.env t x (Env.get_prune e keep t x hx), hr.size, hr.defers⟩

def Weak (e : Env) (h : Heap) (e' : Env) (h' : Heap) : Prop :=
  ∀ (N : Nat) (K : GK) (w : World) (a : Act), Rel N K w e h a → ∃ K', Step K w K' w ∧ Rel N K' w e' h' a
theorem Weak.refl (e : Env) (h : Heap) : Weak e h e h := fun N K w a hr => ⟨K, .refl K w, hr⟩
theorem Weak.trans {e e1 e2 : Env} {h h1 h2 : Heap} (x : Weak e h e1 h1) (y : Weak e1 h1 e2 h2) : Weak e h e2 h2 := fun N K w a hr =>
  let ⟨K1, s1, r1⟩ := x N K w a hr
  let ⟨K2, s2, r2⟩ := y N K1 w a r1
  ⟨K2, s1.trans s2, r2⟩
def Env.sub : Env → Env → Prop
  | [], _ => True
  | (t, v) :: r, e => (match e.get t with
    | some x => x = v ∨ x.strip1 = v
    | none => False) ∧ Env.sub r e
theorem Env.sub_get {e' e : Env} (h : Env.sub e' e) : ∀ (t : Nat) (v : HV), e'.get t = some v → ∃ x, e.get t = some x ∧ (x = v ∨ x.strip1 = v) := by
  induction e' with
  | nil => intro t v hv; simp [Env.get] at hv
  | cons p r ih =>
    obtain ⟨u, y⟩ := p
    intro t v hv
    obtain ⟨h1, h2⟩ := h
    simp only [Env.get] at hv
    split at hv
    · rename_i e1
      subst e1
      injection hv with hv
      subst hv
      cases hg : e.get u with
      | none => simp [hg] at h1
      | some x => simp only [hg] at h1; exact ⟨x, rfl, h1⟩
    · exact ih h2 t v hv
theorem Weak.sub {e e' : Env} {h : Heap} (hs : Env.sub e' e) : Weak e h e' h := fun N K w a hr =>
  ⟨K, .refl K w, hr.heap, fun t v hv => by
    obtain ⟨x, hx, hxv⟩ := Env.sub_get hs t v hv
    rcases hxv with rfl | rfl
    · exact hr.env t x hx
    · exact (hr.env t x hx).strip1, hr.size, hr.defers⟩
theorem Weak.acc {e : Env} {h : Heap} (t sz : Nat) (hs : List HV) (hg : e.get t = some (.list hs .full)) (hw : ∀ x ∈ hs, x.cells.length = sz) :
    Weak e h ((t, .list hs (.own h.length 1 sz)) :: e) (h ++ [.tok (1 + hs.length)]) := fun N K w a hr => by
  have htp : TokPlace h (h ++ [.tok (1 + hs.length)]) h.length (1 + hs.length) := .inr ⟨rfl, rfl, by omega⟩
  obtain ⟨s, hh'⟩ := tok_bare hr.heap htp rfl
  refine ⟨_, s, hh', fun u x hx => ?_, hr.size, hr.defers⟩
  simp only [Env.get] at hx
  split at hx
  · rename_i e1
    subst e1
    injection hx with hx
    subst hx
    have hV := hr.env t _ hg
    generalize a.tmps.getD t undef = v at hV ⊢
    have hV' := hV.step s
    cases hV with
    | nil _ _ => exact .nil _ (by simp [TokNil, GK.tokAt])
    | list0 _ _ ad => exact .list0 _ (by simp [TokNil, GK.tokAt]) ad
    | list _ _ b of cap sz' vals hw' hleaf hvv hc hlim hcap htk =>
      cases hV' with
      | list0 _ _ ad => exact .list0 _ (by simp [TokNil, GK.tokAt]) _
      | list _ _ _ _ _ sz'' vals' hw'' hleaf' hvv' hc' hlim' hcap' htk' =>
        exact .list hs _ b of cap sz vals' hw hleaf' hvv' hc' hlim' hcap' ⟨by simp [GK.tokAt], flat_length hw, fun _ => .inl htk⟩
  · exact (hr.env u x hx).step s

theorem wp_loop_ghost {c : Code} {X : Type} (I : X → Act → World → Prop) (μ : X → Nat) {Q : Exit → Act → World → Prop} (round : ∀ x a w, I x a w → c.wp P (Exit.then (fun a' w' => ∃ x', μ x' < μ x ∧ I x' a' w') Q) a w) {x0 : X} {a : Act} {w : World} (h0 : I x0 a w) : (Code.loop c).wp P Q a w := by
  intro b k cs
  have key : ∀ (n : Nat) (x : X) (a : Act) (w : World), μ x = n → I x a w → ∃ e a' w', Q e a' w' ∧ Arrives P (lone (b.at a (.code c :: .inLoop c :: k)) cs w) b k cs e a' w' := by
    intro n
    induction n using Nat.strongRecOn with
    | _ n ih =>
      intro x a w hn hI
      obtain ⟨e, a₁, w₁, hq, harr⟩ := round x a w hI b (.inLoop c :: k) cs
      cases e with
      | normal =>
        obtain ⟨x', hlt, hI₁⟩ := hq
        obtain ⟨e₂, a₂, w₂, hq₂, harr₂⟩ := ih (μ x') (hn ▸ hlt) x' a₁ w₁ rfl hI₁
        exact ⟨e₂, a₂, w₂, hq₂, .of_steps (Steps.trans harr (.one step_inLoop)) harr₂⟩
      | exit id => exact ⟨_, a₁, w₁, hq, .pass (x := .inLoop c) rfl (fun _ _ => .inl (by simp)) harr⟩
      | goto l => exact ⟨_, a₁, w₁, hq, .pass (x := .inLoop c) rfl (fun _ _ => .inl (by simp)) harr⟩
      | ret => exact ⟨_, a₁, w₁, hq, .pass (x := .inLoop c) rfl (fun _ _ => .inl (by simp)) harr⟩
      | panic ch => exact ⟨_, a₁, w₁, hq, .pass (x := .inLoop c) rfl (fun _ _ => .inl (by simp)) harr⟩
      | outgrown => exact ⟨_, a₁, w₁, hq, .pass (x := .inLoop c) rfl (fun _ _ => .inl (by simp)) harr⟩
  obtain ⟨e, a', w', hq, harr⟩ := key _ x0 a w rfl h0
  exact ⟨e, a', w', hq, .of_steps (.one step_loop) harr⟩

def argEnvFrom : Nat → List HV → Env
  | _, [] => []
  | i, x :: r => (i, x) :: argEnvFrom (i + 1) r
def argEnv (l : List HV) : Env := argEnvFrom 0 l
theorem argEnv_get : ∀ (l : List HV) (i t : Nat) (x : HV), Env.get (argEnvFrom i l) t = some x → i ≤ t ∧ l[t - i]? = some x
  | [], i, t, x, h => by simp [argEnvFrom, Env.get] at h
  | y :: r, i, t, x, h => by
    simp only [argEnvFrom, Env.get] at h
    split at h
    · rename_i e1
      subst e1
      exact ⟨Nat.le_refl _, by simpa using h⟩
    · obtain ⟨h1, h2⟩ := argEnv_get r (i + 1) t x h
      refine ⟨by omega, ?_⟩
      rw [show t - i = (t - (i + 1)) + 1 by omega]
      exact h2
def retV : List HV → HV
  | [x] => x
  | vs => .tuple vs

def resOf (tmps : Array Value) : ResultVar → Sem Value
  | .tmp t => pure (tmps.getD t undef)
  | .cell a t => do loadVar t (← asAddr (tmps.getD a undef))

end Go.Hw

set_option linter.unusedVariables false
set_option linter.unusedSimpArgs false
namespace Go.Hw
open Go


theorem bytesOf_is (s : List UInt8) : isBytes (bytesOf s) := by
  intro y hy
  simp only [bytesOf, List.mem_map] at hy
  obtain ⟨c, _, rfl⟩ := hy
  exact ⟨_, rfl⟩
theorem strOf_bytesOf (s : List UInt8) : strOf (bytesOf s) = s := by
  simp only [strOf, bytesOf, List.map_map]
  conv => rhs; rw [← List.map_id s]
  apply List.map_congr_left
  intro c _
  simp
theorem pv_bytesOf (s : List UInt8) (tok : Tok) (ht : ∀ k o z, tok ≠ .own k o z) : PV (.list (bytesOf s) tok) := by
  refine .list _ _ ht fun x hx => ?_
  rw [flat_bytesOf] at hx
  simp only [bytesOf, List.mem_map] at hx
  obtain ⟨c, _, rfl⟩ := hx
  exact .int _ _
abbrev eB (s : List UInt8) : HV := .list (bytesOf s) .none
theorem pv_eB (s : List UInt8) : PV (eB s) := pv_bytesOf s .none (by simp)


theorem wrap64_of {n : Int} (h0 : -9223372036854775808 ≤ n) (h1 : n ≤ 9223372036854775807) : IntKind.i64.wrap n = n := by
  simp only [IntKind.wrap, IntKind.bits, IntKind.signed, Bool.true_and, decide_eq_true_eq, Nat.reduceSub, Int.reducePow, ge_iff_le]
  split <;> omega

end Go.Hw

set_option linter.unusedVariables false
set_option linter.unusedSimpArgs false
namespace Go.Hw
open Go

variable {S D : CallP} {L : C → (Ex → Env → Heap → Prop) → Env → Heap → Prop} {b : Nat} {r : List Op} {e : Env} {h : Heap} {Q : Env → Heap → Prop} {QQ : Ex → Env → Heap → Prop} {d : Nat} {x y z : X}

structure HO (S : CallP) (b : Nat) (ops : List Op) (e : Env) (h : Heap) (Q : Env → Heap → Prop) : Prop where
  of ::
  out : hops S b ops e h Q
structure HC (S D : CallP) (L : C → (Ex → Env → Heap → Prop) → Env → Heap → Prop) (c : C) (Q : Ex → Env → Heap → Prop) (e : Env) (h : Heap) : Prop where
  of ::
  out : hwp S D L c Q e h



def Fin (Q : Ex → Env → Heap → Prop) (keep : List Nat) : Env → Heap → Prop := fun e h => Q .normal (prune e keep) h
theorem ev_cons {xs : List X} {v : HV} {vs : List HV} (h1 : x.ev e = some v) (h2 : evs e xs = some vs) : evs e (x :: xs) = some (v :: vs) := by simp only [evs, h1, h2]
theorem sub_nil : Env.sub [] e := trivial
theorem sub_cons {t : Nat} {v u : HV} {s : Env} (h1 : e.get t = some u) (h2 : u = v ∨ u.strip1 = v) (h3 : Env.sub s e) : Env.sub ((t, v) :: s) e := by
  simp only [Env.sub, h1]
  exact ⟨h2, h3⟩


theorem st_end {keep : List Nat} {e' : Env} (hp : prune e keep = e') (k : QQ .normal e' h) : HO S b [] e h (Fin QQ keep) := by
  refine ⟨?_⟩
  subst hp
  exact k
theorem st_g {t : Nat} {c : Bool} {o : OC} {dst : Option Nat} (hg : e.get t = some (.bool c)) (k : HO S b (⟨dst, o, none⟩ :: r) e h Q) : HO S b (⟨dst, o, some (t, c)⟩ :: r) e h Q := by
  refine ⟨?_⟩
  simp only [hops, hg]
  exact ⟨fun _ => k.out, fun h => absurd rfl h⟩
theorem st_gtf {t : Nat} {o : OC} {dst : Option Nat} (hg : e.get t = some (.bool true)) (k : HO S b r (e.put dst (.tuple [])) h Q) : HO S b (⟨dst, o, some (t, false)⟩ :: r) e h Q := by
  refine ⟨?_⟩
  simp only [hops, hg]
  exact ⟨nofun, fun _ => k.out⟩
theorem st_gft {t : Nat} {o : OC} {dst : Option Nat} (hg : e.get t = some (.bool false)) (k : HO S b r (e.put dst (.tuple [])) h Q) : HO S b (⟨dst, o, some (t, true)⟩ :: r) e h Q := by
  refine ⟨?_⟩
  simp only [hops, hg]
  exact ⟨nofun, fun _ => k.out⟩
theorem st_gu {t : Nat} {o : OC} {dst : Option Nat} {c : Bool} (hg : e.get t = some (.tuple [])) (k : HO S b r (e.put dst (.tuple [])) h Q) : HO S b (⟨dst, o, some (t, c)⟩ :: r) e h Q := by
  refine ⟨?_⟩
  simp only [hops, hg]
  exact k.out
theorem st_mv {v : HV} (hx : x.ev e = some v) (k : HO S b r ((d, v) :: e) h Q) : HO S b (⟨some d, .op (.mv x), none⟩ :: r) e h Q := by
  refine ⟨?_⟩
  simp only [hops, hcall, hstep, hx]
  exact k.out
theorem st_pick_t {v w : HV} (hz : z.ev e = some (.bool true)) (hx : x.ev e = some v) (hy : y.ev e = some w) (k : HO S b r ((d, v) :: e) h Q) : HO S b (⟨some d, .op (.pick z x y), none⟩ :: r) e h Q := by
  refine ⟨?_⟩
  simp only [hops, hcall, hstep, hx, hy, hz]
  exact ⟨fun _ => k.out, nofun⟩
theorem st_pick_f {v w : HV} (hz : z.ev e = some (.bool false)) (hx : x.ev e = some v) (hy : y.ev e = some w) (k : HO S b r ((d, w) :: e) h Q) : HO S b (⟨some d, .op (.pick z x y), none⟩ :: r) e h Q := by
  refine ⟨?_⟩
  simp only [hops, hcall, hstep, hx, hy, hz]
  exact ⟨nofun, fun _ => k.out⟩
theorem st_add {m n : Int} (hx : x.ev e = some (.int .i64 m)) (hy : y.ev e = some (.int .i64 n)) (h1 : -9223372036854775808 ≤ m + n ∧ m + n ≤ 9223372036854775807) (k : HO S b r ((d, .int .i64 (m + n)) :: e) h Q) : HO S b (⟨some d, .op (.bin .add x y), none⟩ :: r) e h Q := by
  refine ⟨?_⟩
  simp only [hops, hcall, hstep, hx, hy, ibin, ibinOk, wrap64_of h1.1 h1.2]
  exact ⟨.inl trivial, trivial, k.out⟩
theorem st_sub {m n : Int} (hx : x.ev e = some (.int .i64 m)) (hy : y.ev e = some (.int .i64 n)) (h1 : -9223372036854775808 ≤ m - n ∧ m - n ≤ 9223372036854775807) (k : HO S b r ((d, .int .i64 (m - n)) :: e) h Q) : HO S b (⟨some d, .op (.bin .sub x y), none⟩ :: r) e h Q := by
  refine ⟨?_⟩
  simp only [hops, hcall, hstep, hx, hy, ibin, ibinOk, wrap64_of h1.1 h1.2]
  exact ⟨.inl trivial, trivial, k.out⟩
theorem st_bin {op : BinOp} {i j : IntKind} {m n : Int} {v : HV} (hx : x.ev e = some (.int i m)) (hy : y.ev e = some (.int j n)) (h0 : i = j ∨ op = .shl ∨ op = .shr) (h1 : ibinOk op n) (h2 : ibin op i m n = some v) (k : HO S b r ((d, v) :: e) h Q) : HO S b (⟨some d, .op (.bin op x y), none⟩ :: r) e h Q := by
  refine ⟨?_⟩
  simp only [hops, hcall, hstep, hx, hy, h2]
  exact ⟨h0, h1, k.out⟩
theorem st_sbin {op : BinOp} {m n : List UInt8} {v : HV} (hx : x.ev e = some (.str m)) (hy : y.ev e = some (.str n)) (h1 : sbinOk op m n) (h2 : sbin op m n = some v) (k : HO S b r ((d, v) :: e) h Q) : HO S b (⟨some d, .op (.bin op x y), none⟩ :: r) e h Q := by
  refine ⟨?_⟩
  simp only [hops, hcall, hstep, hx, hy, h2]
  exact ⟨h1, k.out⟩
theorem st_lss {i : IntKind} {m n : Int} (hx : x.ev e = some (.int i m)) (hy : y.ev e = some (.int i n)) (k1 : m < n → HO S b r ((d, .bool true) :: e) h Q) (k2 : n ≤ m → HO S b r ((d, .bool false) :: e) h Q) : HO S b (⟨some d, .op (.bin .lss x y), none⟩ :: r) e h Q := by
  refine ⟨?_⟩
  simp only [hops, hcall, hstep, hx, hy, ibin, ibinOk]
  refine ⟨.inl trivial, trivial, ?_⟩
  by_cases hc : m < n
  · rw [decide_eq_true hc]; exact (k1 hc).out
  · rw [decide_eq_false hc]; exact (k2 (by omega)).out
theorem st_gtr {i : IntKind} {m n : Int} (hx : x.ev e = some (.int i m)) (hy : y.ev e = some (.int i n)) (k1 : n < m → HO S b r ((d, .bool true) :: e) h Q) (k2 : m ≤ n → HO S b r ((d, .bool false) :: e) h Q) : HO S b (⟨some d, .op (.bin .gtr x y), none⟩ :: r) e h Q := by
  refine ⟨?_⟩
  simp only [hops, hcall, hstep, hx, hy, ibin, ibinOk]
  refine ⟨.inl trivial, trivial, ?_⟩
  by_cases hc : m > n
  · rw [decide_eq_true hc]; exact (k1 hc).out
  · rw [decide_eq_false hc]; exact (k2 (by omega)).out
theorem st_geq {i : IntKind} {m n : Int} (hx : x.ev e = some (.int i m)) (hy : y.ev e = some (.int i n)) (k1 : n ≤ m → HO S b r ((d, .bool true) :: e) h Q) (k2 : m < n → HO S b r ((d, .bool false) :: e) h Q) : HO S b (⟨some d, .op (.bin .geq x y), none⟩ :: r) e h Q := by
  refine ⟨?_⟩
  simp only [hops, hcall, hstep, hx, hy, ibin, ibinOk]
  refine ⟨.inl trivial, trivial, ?_⟩
  by_cases hc : m ≥ n
  · rw [decide_eq_true hc]; exact (k1 hc).out
  · rw [decide_eq_false hc]; exact (k2 (by omega)).out
theorem st_nei {i : IntKind} {m n : Int} (hx : x.ev e = some (.int i m)) (hy : y.ev e = some (.int i n)) (k1 : m ≠ n → HO S b r ((d, .bool true) :: e) h Q) (k2 : m = n → HO S b r ((d, .bool false) :: e) h Q) : HO S b (⟨some d, .op (.eqv true .int x y), none⟩ :: r) e h Q := by
  refine ⟨?_⟩
  simp only [hops, hcall, hstep, hx, hy]
  refine ⟨rfl, fun t ht => ?_⟩
  simp only [HV.eqs] at ht
  subst ht
  by_cases hc : m = n
  · rw [show (m == n) = true by simp [hc]]; exact (k2 hc).out
  · rw [show (m == n) = false by simp [hc]]; exact (k1 hc).out
theorem st_nes {m n : List UInt8} (hx : x.ev e = some (.str m)) (hy : y.ev e = some (.str n)) (k1 : m ≠ n → HO S b r ((d, .bool true) :: e) h Q) (k2 : m = n → HO S b r ((d, .bool false) :: e) h Q) : HO S b (⟨some d, .op (.eqv true .str x y), none⟩ :: r) e h Q := by
  refine ⟨?_⟩
  simp only [hops, hcall, hstep, hx, hy]
  refine ⟨trivial, fun t ht => ?_⟩
  simp only [HV.eqs] at ht
  subst ht
  by_cases hc : m = n
  · rw [show (m == n) = true by simp [hc]]; exact (k2 hc).out
  · rw [show (m == n) = false by simp [hc]]; exact (k1 hc).out
theorem st_eqv {neg : Bool} {kd : EqK} {u v : HV} (hx : x.ev e = some u) (hy : y.ev e = some v) (h1 : ∀ n, kd ≠ .agg n) (h2 : eqsOk kd u v) (k : ∀ t, HV.eqs u v t → HO S b r ((d, .bool (if neg then !t else t)) :: e) h Q) : HO S b (⟨some d, .op (.eqv neg kd x y), none⟩ :: r) e h Q := by
  refine ⟨?_⟩
  simp only [hops, hcall, hstep, hx, hy]
  cases kd with
  | agg n => exact absurd rfl (h1 n)
  | _ => exact ⟨h2, fun t ht => (k t ht).out⟩
theorem st_eqn {hs : List HV} {tok : Tok} (hx : x.ev e = some (.list hs tok)) (hy : y.ev e = some .nilslice) (k1 : hs = [] → HO S b r ((d, .bool true) :: e) h Q) (k2 : HO S b r ((d, .bool false) :: e) h Q) : HO S b (⟨some d, .op (.eqv false .slice x y), none⟩ :: r) e h Q := by
  refine ⟨?_⟩
  simp only [hops, hcall, hstep, hx, hy]
  refine ⟨trivial, fun t ht => ?_⟩
  cases t with
  | false => exact k2.out
  | true => exact (k1 (Classical.byContradiction fun hn => by simpa using ht hn)).out
theorem st_ofbytes {s : List UInt8} {tok : Tok} (hx : x.ev e = some (.list (bytesOf s) tok)) (k : HO S b r ((d, .str s) :: e) h Q) : HO S b (⟨some d, .op (.conv .ofBytes x), none⟩ :: r) e h Q := by
  refine ⟨?_⟩
  simp only [hops, hcall, hstep, hx, strOf_bytesOf]
  exact ⟨bytesOf_is s, k.out⟩


theorem st_len {hs : List HV} {tok : Tok} {n : Nat} (hx : x.ev e = some (.list hs tok)) (hn : hs.length = n) (k : HO S b r ((d, .int .i64 n) :: e) h Q) : HO S b (⟨some d, .op (.len false x), none⟩ :: r) e h Q := by
  refine ⟨?_⟩
  subst hn
  simp only [hops, hcall, hstep, hx]
  exact k.out
theorem st_mklist {sz : Nat} {xs : List X} {vs ws : List HV} (hx : evs e xs = some vs) (h1 : ∀ v ∈ vs, v.cells.length = sz ∧ isTuple v = false) (h2 : vs.map HV.strip1 = ws) (k : HO S b r ((d, .list ws .full) :: e) h Q) : HO S b (⟨some d, .op (.mklist sz xs), none⟩ :: r) e h Q := by
  refine ⟨?_⟩
  subst h2
  simp only [hops, hcall, hstep, hx]
  exact ⟨h1, k.out⟩
theorem st_iaddr {A : Type} {l : List A} {f : A → HV} {sz : Nat} {tok : Tok} {n : Int} {i : IntKind} (hx : x.ev e = some (.list (l.map f) tok)) (hy : y.ev e = some (.int i n)) (h1 : 0 ≤ n ∧ n < l.length) (h2 : ∀ a, (f a).cells.length = sz) (k : ∀ a, l[n.toNat]? = some a → HO S b r ((d, .rptr (f a).cells) :: e) h Q) : HO S b (⟨some d, .op (.iaddr sz x y), none⟩ :: r) e h Q := by
  refine ⟨?_⟩
  simp only [hops, hcall, hstep, hx, hy, List.length_map, List.getElem?_map]
  refine ⟨h1, ?_⟩
  have hlt : n.toNat < l.length := by omega
  rw [List.getElem?_eq_getElem hlt]
  exact ⟨h2 _, (k _ (List.getElem?_eq_getElem hlt)).out⟩
theorem st_load_r {n : Option Nat} {cs : List HV} {v : HV} (hx : x.ev e = some (.rptr cs)) (h1 : atCells n cs = some v) (k : HO S b r ((d, v) :: e) h Q) : HO S b (⟨some d, .op (.load n x), none⟩ :: r) e h Q := by
  refine ⟨?_⟩
  simp only [hops, hcall, hstep, hx, h1]
  exact k.out
theorem bnd_none {dd : Int} : bnd e dd none = some dd := rfl
theorem bnd_some {dd : Int} {i : IntKind} {n : Int} (hx : x.ev e = some (.int i n)) : bnd e dd (some x) = some n := by simp only [bnd, hx]
theorem st_slice {A : Type} {l : List A} {f : A → HV} {sz : Nat} {tok : Tok} {lo hi : Option X} {p q : Int} (hx : x.ev e = some (.list (l.map f) tok)) (hl : bnd e 0 lo = some p) (hh : bnd e l.length hi = some q) (h1 : 0 ≤ p ∧ p ≤ q ∧ q ≤ l.length) (h2 : ∀ a, (f a).cells.length = sz) (k : HO S b r ((d, .list (((l.take q.toNat).drop p.toNat).map f) (cutTok hi.isNone p.toNat tok)) :: e) h Q) : HO S b (⟨some d, .op (.slice sz x lo hi none), none⟩ :: r) e h Q := by
  refine ⟨?_⟩
  rw [← List.length_map (f := f) (as := l)] at hh
  simp only [hops, hcall, hstep, hx, hl, hh]
  rw [← List.map_take, ← List.map_drop, List.length_map]
  refine ⟨⟨h1.1, h1.2.1, h1.2.2, fun y hy => ?_⟩, k.out⟩
  obtain ⟨a, _, rfl⟩ := List.mem_map.1 hy
  exact h2 a


theorem st_app_full {hs ys zs : List HV} {t : Tok} {sz by_ : Nat} (hx : x.ev e = some (.list hs .full)) (hy : y.ev e = some (.list ys t)) (h1 : ys.map HV.strip1 = ys) (h2 : (hs.length + ys.length) * by_ ≤ 140737488355328) (h3 : ∀ v ∈ ys, v.cells.length = sz ∧ isTuple v = false) (h4 : ∀ v ∈ hs, v.cells.length = sz) (hz : hs ++ ys = zs)
    {n m : Nat} {h' : Heap} (hm : 1 + (hs.length + ys.length) = m) (hn : h.length = n) (hh : h ++ [.tok m] = h') (k : HO S b r ((d, .list zs (.own n 1 sz)) :: e) h' Q) : HO S b (⟨some d, .op (.append sz by_ x y), none⟩ :: r) e h Q := by
  refine ⟨?_⟩
  subst hn
  subst hm
  subst hh
  subst hz
  simp only [hops, hcall, hstep, hx, hy, happend, h1]
  exact ⟨⟨⟨h2, fun v hv => (h3 v hv).1⟩, h4, k.out⟩, fun v hv => (h3 v hv).2⟩
theorem st_app_own {hs ys zs : List HV} {t : Tok} {sz by_ id off : Nat} (hx : x.ev e = some (.list hs (.own id off sz))) (hy : y.ev e = some (.list ys t)) (h1 : ys.map HV.strip1 = ys) (h2 : (hs.length + ys.length) * by_ ≤ 140737488355328) (h3 : ∀ v ∈ ys, v.cells.length = sz ∧ isTuple v = false) (h4 : Heap.tokAt h id = some (off + hs.length)) (hz : hs ++ ys = zs)
    {m : Nat} {h' : Heap} (hm : off + (hs.length + ys.length) = m) (hh : h.set id (.tok m) = h') (k : HO S b r ((d, .list zs (.own id off sz)) :: e) h' Q) : HO S b (⟨some d, .op (.append sz by_ x y), none⟩ :: r) e h Q := by
  refine ⟨?_⟩
  subst hm
  subst hh
  subst hz
  simp only [hops, hcall, hstep, hx, hy, happend, h1]
  exact ⟨⟨⟨h2, fun v hv => (h3 v hv).1⟩, trivial, h4, k.out⟩, fun v hv => (h3 v hv).2⟩
theorem minInt_eq (m n : Int) : minInt m n = min m n := by
  unfold minInt
  split <;> omega
theorem st_min2 {i : IntKind} {m n : Int} {v : Int} (hx : x.ev e = some (.int i m)) (hy : y.ev e = some (.int i n)) (hv : min m n = v) (k : HO S b r ((d, .int i v) :: e) h Q) : HO S b (⟨some d, .op (.min [x, y]), none⟩ :: r) e h Q := by
  refine ⟨?_⟩
  subst hv
  simp only [hops, hcall, hstep, evs, hx, hy]
  refine ⟨fun v hv => ?_, ?_⟩
  · simp at hv; exact ⟨n, hv⟩
  · rw [show foldInt minInt m [.int i n] = minInt m n from rfl, minInt_eq]; exact k.out
theorem pv_map {A : Type} {f : A → HV} (hf : ∀ a, ∀ x ∈ (f a).cells, PV x) (l : List A) (tok : Tok) (ht : ∀ k o s, tok ≠ .own k o s) : PV (.list (l.map f) tok) := by
  refine .list _ _ ht fun x hx => ?_
  simp only [flat, List.mem_flatMap, List.mem_map] at hx
  obtain ⟨y, ⟨a, _, rfl⟩, hy⟩ := hx
  exact hf a x hy
end Go.Hw

set_option linter.unusedVariables false
set_option linter.unusedSimpArgs false
namespace Go.Hw
open Go

variable {P : Program}

def MCalls (P : Program) (acts : List FuncId) : CallP := fun f args h R => if acts.contains f then HCalls P f args h R else DCalls P f args h R
theorem MCalls.sub {acts : List FuncId} {f : FuncId} {args : List HV} {h : Heap} {R : HV → Heap → Prop} (hd : MCalls P acts f args h R) : HCalls P f args h R := by
  unfold MCalls at hd
  split at hd
  · exact hd
  · exact DCalls.sub hd
theorem DCalls.mono {f : FuncId} {args : List HV} {h : Heap} {R R' : HV → Heap → Prop} (hc : DCalls P f args h R) (hr : ∀ x h', R x h' → R' x h') : DCalls P f args h R' := by
  obtain ⟨r, h1, h2⟩ := hc
  exact ⟨r, h1, hr _ _ h2⟩
theorem MCalls.mono {acts : List FuncId} {f : FuncId} {args : List HV} {h : Heap} {R R' : HV → Heap → Prop} (hd : MCalls P acts f args h R) (hr : ∀ x h', R x h' → R' x h') : MCalls P acts f args h R' := by
  unfold MCalls at hd ⊢
  split
  · rename_i hc; rw [if_pos hc] at hd; exact HCalls.mono hd hr
  · rename_i hc; rw [if_neg hc] at hd; exact DCalls.mono hd hr

section
variable {base : Nat} {e : Env} {h : Heap} {k k' : HV → Heap → Prop}
variable {acts : List FuncId}
end


end Go.Hw

set_option linter.unusedVariables false
set_option linter.unusedSimpArgs false
namespace Go.Hw
open Go

variable {P : Program}

def Base (m : Nat) (K : GK) : Prop := ∀ k, m ≤ k → K.rho k = none ∧ K.tb k = none ∧ K.wm k = 0
theorem base_of {K : GK} {h : Heap} {w : World} (hh : HeapRel K h w) : Base h.length K := by
  intro k hk
  have hn : h[k]? = none := List.getElem?_eq_none hk
  refine ⟨?_, ?_, by rw [hh.wm k, hn]⟩
  · cases hr : K.rho k with
    | none => rfl
    | some b => obtain ⟨_, o, h1, _⟩ := hh.obj k b hr; rw [hn] at h1; cases h1
  · cases hr : K.tb k with
    | none => rfl
    | some b => obtain ⟨_, ⟨n, h1⟩, _⟩ := hh.tok k b hr; rw [hn] at h1; cases h1

def SC (P : Program) (N m : Nat) (c : C) (QQ : Ex → Env → Heap → Prop) (e : Env) (h : Heap) : Prop :=
  ∀ (ann : Ann) (code : Code), comp P ann N code = some c → ∀ (K0 : GK) (w0 : World) (K : GK) (w : World) (a : Act), Base m K0 → Step K0 w0 K w → Rel N K w e h a → code.wp P (Lift N K0 w0 QQ) a w

def WeakF (m : Nat) (e : Env) (h : Heap) (e' : Env) (h' : Heap) : Prop :=
  ∀ (N : Nat) (K0 : GK) (w0 : World) (K : GK) (w : World) (a : Act), Base m K0 → Step K0 w0 K w → Rel N K w e h a → ∃ K', Step K0 w0 K' w ∧ Rel N K' w e' h' a
theorem WeakF.refl {m : Nat} (e : Env) (h : Heap) : WeakF m e h e h := fun N K0 w0 K w a _ s r => ⟨K, s, r⟩
theorem WeakF.trans {m : Nat} {e e1 e2 : Env} {h h1 h2 : Heap} (x : WeakF m e h e1 h1) (y : WeakF m e1 h1 e2 h2) : WeakF m e h e2 h2 := fun N K0 w0 K w a b s r =>
  let ⟨K1, s1, r1⟩ := x N K0 w0 K w a b s r
  y N K0 w0 K1 w a b s1 r1
theorem WeakF.of {m : Nat} {e e' : Env} {h h' : Heap} (x : Weak e h e' h') : WeakF m e h e' h' := fun N K0 w0 K w a _ s r =>
  let ⟨K', s', r'⟩ := x N K w a r
  ⟨K', s.trans s', r'⟩

section
variable {N m : Nat} {e e' : Env} {h h' : Heap} {QQ : Ex → Env → Heap → Prop}

theorem SC.weak {c : C} (hw : WeakF m e h e' h') (k : SC P N m c QQ e' h') : SC P N m c QQ e h := fun ann code hc K0 w0 K w a b s r =>
  let ⟨K', s', r'⟩ := hw N K0 w0 K w a b s r
  k ann code hc K0 w0 K' w a b s' r'
theorem SC.mono {c : C} {QQ' : Ex → Env → Heap → Prop} (k : SC P N m c QQ e h) (hq : ∀ x e h, QQ x e h → QQ' x e h) : SC P N m c QQ' e h := fun ann code hc K0 w0 K w a b s r =>
  wp_mono (k ann code hc K0 w0 K w a b s r) fun x a' w' ⟨q, K', e', h', h1, h2, h3, h4⟩ => ⟨q, K', e', h', h1, h2, h3, hq _ _ _ h4⟩
def SeqS (P : Program) (N m : Nat) (c : C) (QQ : Ex → Env → Heap → Prop) : Ex → Env → Heap → Prop
  | .normal, e, h => SC P N m c QQ e h
  | x, e, h => QQ x e h
def BlkS (id : Nat) (QQ : Ex → Env → Heap → Prop) : Ex → Env → Heap → Prop
  | .exit i, e, h => if i = id then QQ .normal e h else QQ (.exit i) e h
  | x, e, h => QQ x e h
def LoopS {X : Type} (m : Nat) (st : X → Env × Heap) (μ : X → Nat) (x : X) (QQ : Ex → Env → Heap → Prop) : Ex → Env → Heap → Prop
  | .normal, e, h => ∃ x', μ x' < μ x ∧ WeakF m e h (st x').1 (st x').2
  | q, e, h => QQ q e h

def From (P : Program) (ann : Ann) (N : Nat) (code : Code) : C → Prop
  | .skip => code = .skip
  | .reg l keep => ∃ id ops r, code = .region id ops false ∧ cOps P ann N id ops false ops.toList 0 0 = some (l, r)
  | .dreg pre tail n keep => ∃ id ops l, code = .region id ops true ∧ cOps P ann N id ops true ops.toList 0 0 = some (l, n) ∧ drawOk ops l (quiets ann.acts l) = true ∧ l.take (quiets ann.acts l) = pre ∧ l.drop (quiets ann.acts l) = tail
  | .dord acts alts n keep => ∃ id ops l us ps, code = .region id ops true ∧ cOps P ann N id ops true ops.toList 0 0 = some (l, n) ∧ drawOk3 ops acts l us ps = true ∧ (ps.map fun p => p.map (opOf l)) = alts
  | .seq p q => ∃ x y, code = .seq x y ∧ comp P ann N x = some p ∧ comp P ann N y = some q
  | .cond c p q => ∃ o x y, code = .cond o x y ∧ cX o = some c ∧ comp P ann N x = some p ∧ comp P ann N y = some q
  | .block id p => ∃ x, code = .block id x ∧ comp P ann N x = some p
  | .loop p => ∃ x, code = .loop x ∧ comp P ann N x = some p
  | .exit id => code = .exit id
  | .ret => code = .ret
  | .bad _ => True
theorem comp_from {ann : Ann} {code : Code} {c : C} (hc : comp P ann N code = some c) : From P ann N code c := by
  cases code with
  | skip => simp only [comp, Option.some.injEq] at hc; subst hc; rfl
  | region id ops draw =>
    simp only [comp, Option.bind_eq_bind] at hc
    obtain ⟨⟨l, q⟩, h1, hc⟩ := bind_some hc
    cases draw with
    | false =>
      simp only [Bool.false_eq_true, if_false, Option.some.injEq] at hc
      subst hc
      exact ⟨id, ops, q, rfl, h1⟩
    | true =>
      simp only [if_true] at hc
      split at hc
      · split at hc
        · rename_i hok
          simp only [Option.some.injEq] at hc
          subst hc
          exact ⟨id, ops, l, _, _, rfl, h1, hok, rfl⟩
        · cases hc
      split at hc
      · rename_i hok
        simp only [Option.some.injEq] at hc
        subst hc
        exact ⟨id, ops, l, rfl, h1, hok, rfl, rfl⟩
      · cases hc
  | seq x y =>
    simp only [comp, Option.bind_eq_bind] at hc
    obtain ⟨cx, h1, hc⟩ := bind_some hc
    obtain ⟨cy, h2, hc⟩ := bind_some hc
    injection hc with hc
    subst hc
    exact ⟨x, y, rfl, h1, h2⟩
  | cond o x y =>
    simp only [comp, Option.bind_eq_bind] at hc
    obtain ⟨co, h0, hc⟩ := bind_some hc
    obtain ⟨cx, h1, hc⟩ := bind_some hc
    obtain ⟨cy, h2, hc⟩ := bind_some hc
    injection hc with hc
    subst hc
    exact ⟨o, x, y, rfl, h0, h1, h2⟩
  | block id x =>
    simp only [comp, Option.bind_eq_bind] at hc
    obtain ⟨cx, h1, hc⟩ := bind_some hc
    injection hc with hc
    subst hc
    exact ⟨x, rfl, h1⟩
  | loop x =>
    simp only [comp, Option.bind_eq_bind] at hc
    obtain ⟨cx, h1, hc⟩ := bind_some hc
    injection hc with hc
    subst hc
    exact ⟨x, rfl, h1⟩
  | exit i => simp only [comp, Option.some.injEq] at hc; subst hc; rfl
  | ret => simp only [comp, Option.some.injEq] at hc; subst hc; rfl
  | rangeFunc _ _ _ _ => simp only [comp, Option.some.injEq] at hc; subst hc; trivial
  | scope _ => simp only [comp, Option.some.injEq] at hc; subst hc; trivial
  | label _ => simp only [comp, Option.some.injEq] at hc; subst hc; trivial
  | goto _ => simp only [comp, Option.some.injEq] at hc; subst hc; trivial
  | refuse _ => simp only [comp, Option.some.injEq] at hc; subst hc; trivial

theorem sc_skip (k : QQ .normal e h) : SC P N m .skip QQ e h := by
  intro ann code hc K0 w0 K w a b s r
  have hf := comp_from hc
  simp only [From] at hf
  subst hf
  exact wp_skip ⟨.normal, K, e, h, rfl, s, r, k⟩
theorem sc_exit {id : Nat} (k : QQ (.exit id) e h) : SC P N m (.exit id) QQ e h := by
  intro ann code hc K0 w0 K w a b s r
  have hf := comp_from hc
  simp only [From] at hf
  subst hf
  exact wp_exit ⟨.exit id, K, e, h, rfl, s, r, k⟩
theorem sc_ret (k : QQ .ret e h) : SC P N m .ret QQ e h := by
  intro ann code hc K0 w0 K w a b s r
  have hf := comp_from hc
  simp only [From] at hf
  subst hf
  exact wp_ret ⟨.ret, K, e, h, rfl, s, r, k⟩
theorem sc_seq {p q : C} (k : SC P N m p (SeqS P N m q QQ) e h) : SC P N m (.seq p q) QQ e h := by
  intro ann code hc K0 w0 K w a b s r
  obtain ⟨x, y, rfl, h1, h2⟩ := comp_from hc
  refine wp_seq (wp_mono (k ann x h1 K0 w0 K w a b s r) ?_)
  rintro ex a' w' ⟨q, K', e', h', rfl, s', r', hq⟩
  cases q with
  | normal => exact hq ann y h2 K0 w0 K' w' a' b s' r'
  | exit i => exact ⟨.exit i, K', e', h', rfl, s', r', hq⟩
  | ret => exact ⟨.ret, K', e', h', rfl, s', r', hq⟩
theorem sc_block {id : Nat} {p : C} (k : SC P N m p (BlkS id QQ) e h) : SC P N m (.block id p) QQ e h := by
  intro ann code hc K0 w0 K w a b s r
  obtain ⟨x, rfl, h1⟩ := comp_from hc
  refine wp_block (wp_mono (k ann x h1 K0 w0 K w a b s r) ?_)
  rintro ex a' w' ⟨q, K', e', h', rfl, s', r', hq⟩
  cases q with
  | normal => exact ⟨.normal, K', e', h', rfl, s', r', hq⟩
  | exit j =>
    show Exit.inBlock id (Lift N K0 w0 QQ) (.exit j) a' w'
    simp only [Exit.inBlock]
    simp only [BlkS] at hq
    split
    · rename_i e1; rw [if_pos e1] at hq; exact ⟨.normal, K', e', h', rfl, s', r', hq⟩
    · rename_i e1; rw [if_neg e1] at hq; exact ⟨.exit j, K', e', h', rfl, s', r', hq⟩
  | ret => exact ⟨.ret, K', e', h', rfl, s', r', hq⟩
theorem sc_cond {x : X} {p q : C} {t : Bool} (hx : x.ev e = some (.bool t)) (k1 : t = true → SC P N m p QQ e h) (k2 : t = false → SC P N m q QQ e h) : SC P N m (.cond x p q) QQ e h := by
  intro ann code hc K0 w0 K w a b s r
  obtain ⟨o, y, z, rfl, h0, h1, h2⟩ := comp_from hc
  have hV := ev_sound h0 r.env hx
  generalize hcv : a.eval o = cv at hV
  cases hV
  exact wp_cond_split hcv (fun ht => k1 ht ann y h1 K0 w0 K w a b s r) (fun ht => k2 ht ann z h2 K0 w0 K w a b s r)
theorem sc_reg {ops : List Op} {keep : List Nat} (k : hops (HCalls P) 0 ops e h fun e' h' => QQ .normal (prune e' keep) h') : SC P N m (.reg ops keep) QQ e h := by
  intro ann code hc K0 w0 K w a b s r
  obtain ⟨id, ops', q, rfl, h1⟩ := comp_from hc
  refine wp_region (hops_all (base := 0) (fun _ _ _ _ h => h) (cOps_all h1) e h K w a k r ?_)
  intro K' w' e' h' a' s' r' hq'
  exact ⟨.normal, K', _, h', rfl, s.trans s', prune_rel r' _, hq'⟩
theorem sc_loop {c : C} {X : Type} (st : X → Env × Heap) (μ : X → Nat) (x0 : X) (h0 : WeakF m e h (st x0).1 (st x0).2) (round : ∀ x, SC P N m c (LoopS m st μ x QQ) (st x).1 (st x).2) : SC P N m (.loop c) QQ e h := by
  intro ann code hc K0 w0 K w a b s r
  obtain ⟨x, rfl, h1⟩ := comp_from hc
  obtain ⟨K1, s1, r1⟩ := h0 N K0 w0 K w a b s r
  refine wp_loop_ghost (fun x a' w' => ∃ K', Step K0 w0 K' w' ∧ Rel N K' w' (st x).1 (st x).2 a') μ ?_ (x0 := x0) ⟨K1, s1, r1⟩
  rintro x a1 w1 ⟨K2, s2, r2⟩
  refine wp_mono (round x ann _ h1 K0 w0 K2 w1 a1 b s2 r2) ?_
  rintro ex a' w' ⟨q, K', e', h', rfl, s', r', hq⟩
  cases q with
  | normal =>
    obtain ⟨x', hlt, hw⟩ := hq
    obtain ⟨K3, s3, r3⟩ := hw N K0 w0 K' w' a' b s' r'
    exact ⟨x', hlt, K3, s3, r3⟩
  | exit i => exact ⟨.exit i, K', e', h', rfl, s', r', hq⟩
  | ret => exact ⟨.ret, K', e', h', rfl, s', r', hq⟩
end
end Go.Hw

set_option linter.unusedVariables false
set_option linter.unusedSimpArgs false
namespace Go.Hw
open Go

variable {P : Program}

inductive RS where
  | t (n : Nat)
  | c (slot : Nat) (n : Option Nat)
def resTags (P : Program) : List ResultVar → Option (List RS)
  | [] => some []
  | .tmp t :: r => (resTags P r).map (.t t :: ·)
  | .cell a t :: r => match tagg P t, resTags P r with
    | some n, some l => some (.c a n :: l)
    | _, _ => none
def resVal (e : Env) (h : Heap) : RS → Option HV
  | .t n => e.get n
  | .c s n => match e.get s with
    | some (.ptr id off) => match Heap.cells h id with
      | some cs => atCells n (cs.drop off)
      | none => none
    | _ => none
def resVals2 (e : Env) (h : Heap) : List RS → Option (List HV)
  | [] => some []
  | r :: l => match resVal e h r, resVals2 e h l with
    | some v, some vs => some (v :: vs)
    | _, _ => none
theorem res_run {N : Nat} {K : GK} {w : World} {e : Env} {h : Heap} {a : Act} (hr : Rel N K w e h a) : ∀ {vars : List ResultVar} {rs : List RS} {vs : List HV}, resTags P vars = some rs → resVals2 e h rs = some vs →
    ∃ us : List Value, (vars.mapM (m := Sem) (resOf a.tmps)).run P w = .ok us w ∧ us.length = vars.length ∧ vs.length = vars.length ∧ ∀ (j : Nat) (x : HV) (u : Value), vs[j]? = some x → us[j]? = some u → V K w x u
  | [], rs, vs, h1, h2 => by
    simp only [resTags, Option.some.injEq] at h1
    subst h1
    simp only [resVals2, Option.some.injEq] at h2
    subst h2
    exact ⟨[], rfl, rfl, rfl, fun j x u hx => by simp at hx⟩
  | v :: vars, rs, vs, h1, h2 => by
    have step : ∀ {r : RS} {l : List RS} {u : Value}, resTags P vars = some l → (resOf a.tmps v).run P w = .ok u w → (∀ x, resVal e h r = some x → V K w x u) → rs = r :: l →
        ∃ us : List Value, ((v :: vars).mapM (m := Sem) (resOf a.tmps)).run P w = .ok us w ∧ us.length = (v :: vars).length ∧ vs.length = (v :: vars).length ∧ ∀ (j : Nat) (x : HV) (u : Value), vs[j]? = some x → us[j]? = some u → V K w x u := by
      intro r l u g1 g2 g3 g4
      subst g4
      simp only [resVals2] at h2
      split at h2
      · rename_i x xs g5 g6
        injection h2 with h2
        subst h2
        obtain ⟨us, k1, k2, k3, k4⟩ := res_run hr g1 g6
        refine ⟨u :: us, ?_, by simp [k2], by simp [k3], fun j y z hy hz => ?_⟩
        · rw [List.mapM_cons]
          simp only [Sem.run_bind, g2, Result.andThen_ok, k1, Sem.run_pure]
        · cases j with
          | zero => simp at hy hz; subst hy; subst hz; exact g3 x g5
          | succ j => exact k4 j y z (by simpa using hy) (by simpa using hz)
      · cases h2
    cases v with
    | tmp t =>
      simp only [resTags, Option.map_eq_some_iff] at h1
      obtain ⟨l, g1, g2⟩ := h1
      exact step (r := .t t) g1 rfl (fun x hx => hr.env t x hx) g2.symm
    | cell s t =>
      simp only [resTags] at h1
      split at h1
      · rename_i n l g0 g1
        injection h1 with h1
        have h1' := h1.symm
        -- the value of the cell
        have hval : ∃ x, resVal e h (.c s n) = some x := by
          subst h1'
          simp only [resVals2] at h2
          split at h2
          · rename_i x xs g5 g6; exact ⟨x, g5⟩
          · cases h2
        obtain ⟨x, hx⟩ := hval
        have hx0 := hx
        simp only [resVal] at hx
        split at hx
        · rename_i id off hg
          split at hx
          · rename_i cs hcs
            have hV := hr.env s _ hg
            generalize hcv : a.tmps.getD s undef = cv at hV
            cases hV with
            | ptr _ _ b hrho =>
              obtain ⟨c, et, fr, hb, hlen, _, hvs⟩ := heap_cells hr.heap hrho hcs
              obtain ⟨u, k1, k2⟩ := run_loadVar_at (P := P) (K := K) (w := w) g0 (b := b) (off := off) (cs := cs.drop off) hx (fun j y hy => by
                rw [List.getElem?_drop] at hy
                obtain ⟨l', v', k1, k2⟩ := hvs _ y hy
                exact ⟨l', v', by rw [cell_of_row w b (off + j) c et fr hb]; exact k1, k2⟩)
              refine step (u := u) g1 ?_ (fun y hy => ?_) h1'
              · show (do loadVar t (← asAddr (a.tmps.getD s undef)) : Sem Value).run P w = .ok u w
                rw [hcv]
                simpa [asAddr] using k1
              · rw [hx0] at hy
                injection hy with hy
                subst hy
                exact k2
          · cases hx
        · cases hx
      · cases h1

def packV : List Value → Value
  | [x] => x
  | l => .tuple l.toArray
inductive Ren (σ : List Nat) : HV → HV → Prop
  | pv (x : HV) (h : PV x) : Ren σ x x
  | own (hs : List HV) (i j off sz : Nat) (hσ : σ[i]? = some j) (h : ∀ (x : HV), x ∈ flat hs → PV x) : Ren σ (.list hs (.own i off sz)) (.list hs (.own j off sz))
  | ptr (i j off : Nat) (hσ : σ[i]? = some j) : Ren σ (.ptr i off) (.ptr j off)
  | map (i j : Nat) (hσ : σ[i]? = some j) : Ren σ (.map i) (.map j)
  | arr (i j off len sz : Nat) (hσ : σ[i]? = some j) : Ren σ (.arr i off len sz) (.arr j off len sz)
  | agg (xs ys : List HV) (hl : xs.length = ys.length) (h : ∀ (j : Nat) (x y : HV), xs[j]? = some x → ys[j]? = some y → Ren σ x y) (hleaf : ∀ x ∈ xs, x.leaf = true) : Ren σ (.agg xs) (.agg ys)
  | tuple (xs ys : List HV) (hl : xs.length = ys.length) (h : ∀ (j : Nat) (x y : HV), xs[j]? = some x → ys[j]? = some y → Ren σ x y) : Ren σ (.tuple xs) (.tuple ys)
  | func (f : FuncId) (xs ys : List HV) (hl : xs.length = ys.length) (h : ∀ (j : Nat) (x y : HV), xs[j]? = some x → ys[j]? = some y → Ren σ x y) : Ren σ (.func f xs) (.func f ys)
def GK.ren (σ : List Nat) (K : GK) : GK := { lim := K.lim, rho := fun i => (σ[i]?).bind K.rho, tb := fun i => (σ[i]?).bind K.tb, wm := fun i => match σ[i]? with | some j => K.wm j | none => 0 }
theorem Ren.V {σ : List Nat} {K : GK} {w : World} {x y : HV} (hr : Ren σ x y) : ∀ {v : Value}, V K w y v → V (K.ren σ) w x v := by
  induction hr with
  | pv x h => intro v hv; exact hv.transfer h (fun _ => Nat.le_refl _)
  | own hs i j off sz hσ h =>
    intro v hv
    have hw : (K.ren σ).wm i = K.wm j := by simp [GK.ren, hσ]
    have ht : (K.ren σ).tb i = K.tb j := by simp [GK.ren, hσ]
    cases hv with
    | nil _ htn => exact .nil _ (by simpa [TokNil, hw] using htn)
    | list0 _ htn ad => exact .list0 _ (by simpa [TokNil, hw] using htn) ad
    | list _ _ b o cap sz' vals hw' hleaf hvv hc hlim hcap htk =>
      refine .list hs _ b o cap sz' vals hw' hleaf (fun q z hz => (hvv q z hz).transfer (h z (List.mem_of_getElem? hz)) (fun _ => Nat.le_refl _)) hc hlim hcap ?_
      obtain ⟨t1, t2, t3⟩ := htk
      exact ⟨by rw [hw]; exact t1, t2, fun he => by rw [hw] at he; rw [ht]; exact t3 he⟩
  | ptr i j off hσ => intro v hv; cases hv with | ptr _ _ b hr => exact .ptr _ _ b (by simp [GK.ren, hσ, hr])
  | map i j hσ => intro v hv; cases hv with | map _ b hr => exact .map _ b (by simp [GK.ren, hσ, hr])
  | arr i j off len sz hσ =>
    intro v hv
    cases hv with
    | arr _ _ _ _ b cap off' hr hcap ho hroom => exact .arr _ _ _ _ b cap off' (by simp [GK.ren, hσ, hr]) hcap ho hroom
    | arrn => exact .arrn _ _ _
    | arr0 => exact .arr0 _ _ _ _
  | agg xs ys hl h hleaf ih =>
    intro v hv
    cases hv with
    | agg _ vs hn _ hvv => exact .agg xs vs (by omega) hleaf (fun q x u hx hu => by
        obtain ⟨y, hy⟩ := get_of_lt (l := ys) (j := q) (by rw [← hl]; exact lt_of_get hx)
        exact ih q x y hx hy (hvv q y u hy hu))
  | tuple xs ys hl h ih =>
    intro v hv
    cases hv with
    | tuple _ vs hn hvv => exact .tuple xs vs (by omega) (fun q x u hx hu => by
        obtain ⟨y, hy⟩ := get_of_lt (l := ys) (j := q) (by rw [← hl]; exact lt_of_get hx)
        exact ih q x y hx hy (hvv q y u hy hu))
  | func f xs ys hl h ih =>
    intro v hv
    cases hv with
    | func _ _ vs hn hvv => exact .func f xs vs (by omega) (fun q x u hx hu => by
        obtain ⟨y, hy⟩ := get_of_lt (l := ys) (j := q) (by rw [← hl]; exact lt_of_get hx)
        exact ih q x y hx hy (hvv q y u hy hu))
def RenO (σ : List Nat) : HObj → HObj → Prop
  | .cells xs, .cells ys => xs.length = ys.length ∧ ∀ (j : Nat) (x y : HV), xs[j]? = some x → ys[j]? = some y → Ren σ x y ∧ x.leaf = true
  | .map es c, .map fs d => c = d ∧ es.length = fs.length ∧ ∀ (j n m : Nat) (x y x' y' : HV), es[j]? = some (n, x, y) → fs[j]? = some (m, x', y') → n = m ∧ Ren σ x x' ∧ Ren σ y y' ∧ isTuple x = false ∧ isTuple y = false
  | .iter none a b c, .iter none a' b' c' => a = a' ∧ b = b' ∧ c = c'
  | .iter (some i) a b c, .iter (some j) a' b' c' => σ[i]? = some j ∧ a = a' ∧ b = b' ∧ c = c'
  | .siter s p, .siter t q => s = t ∧ p = q
  | .tok n, .tok m => n = m
  | .dead, .dead => True
  | .res, .res => True
  | .dead, o => ¬ (∃ n, o = .tok n)
  | _, _ => False
theorem RenO.live {σ : List Nat} {o' o : HObj} (hr : RenO σ o' o) (hl : o'.live) : o.live := by
  cases o' <;> cases o <;> simp only [RenO] at hr <;> first
    | trivial
    | exact hl.elim
    | exact hr.elim
    | (rename_i a _ _ _ b _ _ _; cases a <;> cases b <;> first | trivial | exact hr.elim)
    | (rename_i a _ _ _; cases a <;> exact hr.elim)
theorem RenO.tok {σ : List Nat} {o' o : HObj} (hr : RenO σ o' o) : (match o' with | .tok n => n | _ => 0) = (match o with | .tok n => n | _ => 0) := by
  cases o' <;> cases o <;> simp only [RenO] at hr <;> first
    | rfl
    | exact hr
    | exact hr.elim
    | (exfalso; exact hr ⟨_, rfl⟩)
    | (rename_i a _ _ _; cases a <;> exact hr.elim)
theorem RenO.ok {σ : List Nat} {K : GK} {w : World} {b : Nat} {o' o : HObj} (hr : RenO σ o' o) (ho : ObjOk K w b o) : ObjOk (K.ren σ) w b o' := by
  cases o' with
  | cells xs =>
    cases o <;> simp only [RenO] at hr
    rename_i ys
    obtain ⟨c, e, fr, h1, h2, h3, h4⟩ := ho
    refine ⟨c, e, fr, h1, by omega, h3, fun j x hx => ?_⟩
    obtain ⟨y, hy⟩ := get_of_lt (l := ys) (j := j) (by rw [← hr.1]; exact lt_of_get hx)
    obtain ⟨_, v, h5, h6⟩ := h4 j y hy
    obtain ⟨h7, h8⟩ := hr.2 j x y hx hy
    exact ⟨h8, v, h5, h7.V h6⟩
  | map es c =>
    cases o <;> simp only [RenO] at hr
    rename_i fs d
    obtain ⟨rfl, hl, hr⟩ := hr
    obtain ⟨ms, h1, h2, h3⟩ := ho
    refine ⟨ms, h1, by omega, fun j n x y hx => ?_⟩
    obtain ⟨⟨n', x', y'⟩, hy⟩ := get_of_lt (l := fs) (j := j) (by rw [← hl]; exact lt_of_get hx)
    obtain ⟨m, h4, h5, _, _, h6, h7⟩ := h3 j n' x' y' hy
    obtain ⟨rfl, g1, g2, g3, g4⟩ := hr j n n' x y x' y' hx hy
    exact ⟨m, h4, h5, g3, g4, g1.V h6, g2.V h7⟩
  | iter a p q r =>
    cases o with
    | iter a' p' q' r' =>
      cases a with
      | none =>
        cases a' with
        | none =>
          simp only [RenO] at hr
          obtain ⟨rfl, rfl, rfl⟩ := hr
          exact ho
        | some _ => simp only [RenO] at hr
      | some i =>
        cases a' with
        | none => simp only [RenO] at hr
        | some j =>
          simp only [RenO] at hr
          obtain ⟨h1, rfl, rfl, rfl⟩ := hr
          obtain ⟨b', h2, h3⟩ := ho
          exact ⟨b', by simp [GK.ren, h1, h2], h3⟩
    | _ => cases a <;> simp only [RenO] at hr
  | siter s p =>
    cases o <;> simp only [RenO] at hr
    obtain ⟨rfl, rfl⟩ := hr
    exact ho
  | tok n => cases o <;> simp only [RenO] at hr; exact ho
  | dead => trivial
  | res => cases o <;> simp only [RenO] at hr; exact ho
theorem nodup_inj : ∀ {l : List Nat}, l.Nodup → ∀ (i j k : Nat), l[i]? = some k → l[j]? = some k → i = j
  | [], _, i, j, k, h, _ => by simp at h
  | a :: l, hn, i, j, k, hi, hj => by
    obtain ⟨h1, h2⟩ := List.nodup_cons.1 hn
    cases i with
    | zero =>
      cases j with
      | zero => rfl
      | succ j =>
        simp at hi hj
        subst hi
        exact absurd (List.mem_of_getElem? hj) h1
    | succ i =>
      cases j with
      | zero =>
        simp at hi hj
        subst hj
        exact absurd (List.mem_of_getElem? hi) h1
      | succ j => rw [nodup_inj h2 i j k (by simpa using hi) (by simpa using hj)]
theorem WeakF.ren {m : Nat} {e e' : Env} {h h' : Heap} (σ : List Nat) (hid : ∀ i, i < m → σ[i]? = some i) (hnd : σ.Nodup) (hlen : h'.length = σ.length) (hobj : ∀ (i j : Nat) (o' : HObj), h'[i]? = some o' → σ[i]? = some j → ∃ o, h[j]? = some o ∧ RenO σ o' o ∧ o' ≠ .tok 0)
    (henv : ∀ t x', e'.get t = some x' → ∃ x, e.get t = some x ∧ (Ren σ x' x ∨ Ren σ x' x.strip1)) : WeakF m e h e' h' := by
  intro N K0 w0 K w a hb s r
  have hinj := nodup_inj hnd
  have hσ : ∀ {i b : Nat} {f : Nat → Option Nat}, (σ[i]?).bind f = some b → ∃ j : Nat, σ[i]? = some j ∧ f j = some b := fun h => Option.bind_eq_some_iff.1 h
  have hown : ∀ b, owned (K.ren σ) b → owned K b := by
    rintro b (⟨i, h1⟩ | ⟨i, h1⟩)
    · obtain ⟨j, _, h2⟩ := hσ h1; exact .inl ⟨j, h2⟩
    · obtain ⟨j, _, h2⟩ := hσ h1; exact .inr ⟨j, h2⟩
  have hget : ∀ {i j : Nat}, σ[i]? = some j → ∃ o', h'[i]? = some o' := fun hi => get_of_lt (by rw [hlen]; exact lt_of_get hi)
  have hwm : ∀ i, (K.ren σ).wm i = match h'[i]? with | some (.tok n) => n | _ => 0 := by
    intro i
    simp only [GK.ren]
    cases hi : σ[i]? with
    | none =>
      have : h'[i]? = none := List.getElem?_eq_none (by rw [hlen]; exact List.getElem?_eq_none_iff.1 hi)
      rw [this]
    | some j =>
      obtain ⟨o', ho'⟩ := hget hi
      obtain ⟨o, h1, h2, _⟩ := hobj i j o' ho' hi
      have := h2.tok
      simp only
      rw [r.heap.wm j, h1, ho']
      cases o' <;> cases o <;> exact this.symm
  refine ⟨K.ren σ, ⟨s.os, s.tape, s.output, s.size, s.lim, fun k => ?_, fun k hk => ?_, fun id b hid' => ?_, s.cell, s.shape, fun b hlt ho => s.own b hlt (hown b ho), fun b hlt ho => s.frame b hlt ho⟩, ⟨⟨fun id b hr => ?_, fun i j b x y hi hj hx hy lx ly => ?_, hwm, fun k b hk => ?_, fun i j b hi hj => ?_, r.heap.limb⟩, fun t x hx => ?_, r.size, r.defers⟩⟩
  · rcases Nat.lt_or_ge k m with hk | hk
    · simp only [GK.ren, hid k hk]; exact s.wm k
    · rw [(hb k hk).2.2]; exact Nat.zero_le _
  · rcases Nat.lt_or_ge k m with hkm | hkm
    · simp only [GK.ren, hid k hkm] at hk ⊢
      exact s.tok k hk
    · obtain ⟨_, h2, h3⟩ := hb k hkm
      refine ⟨?_, fun b h => by rw [h2] at h; cases h⟩
      rw [h2]
      simp only [GK.ren]
      cases hi : σ[k]? with
      | none => rfl
      | some j =>
        cases ht : K.tb j with
        | none => simp [ht]
        | some b =>
          exfalso
          obtain ⟨_, ⟨n, hn⟩, _⟩ := r.heap.tok j b ht
          obtain ⟨o', ho'⟩ := hget hi
          obtain ⟨o, h4, h5, h6⟩ := hobj k j o' ho' hi
          rw [hn] at h4
          injection h4 with h4
          subst h4
          have h7 := h5.tok
          rw [hwm k, ho', h3] at hk
          cases o' <;> simp only [RenO] at h5 <;> first
            | (subst h5; simp at hk; exact h6 (by rw [hk]))
            | exact h5 ⟨_, rfl⟩
            | (rename_i q _ _ _; cases q <;> exact h5.elim)
  · have hkm : id < m := by
      rcases Nat.lt_or_ge id m with h | h
      · exact h
      · rw [(hb id h).1] at hid'; cases hid'
    simp only [GK.ren, hid id hkm]
    exact s.rho id b hid'
  · obtain ⟨j, h1, h2⟩ := hσ hr
    obtain ⟨o', ho'⟩ := hget h1
    obtain ⟨o, h3, h4, _⟩ := hobj id j o' ho' h1
    obtain ⟨g1, o2, g2, g3, g4⟩ := r.heap.obj j b h2
    rw [h3] at g2
    injection g2 with g2
    subst g2
    exact ⟨g1, o', ho', h4.ok g3, fun hl => g4 (h4.live hl)⟩
  · obtain ⟨i', h1, h2⟩ := hσ hi
    obtain ⟨j', h3, h4⟩ := hσ hj
    obtain ⟨o1, h5, h6, _⟩ := hobj i i' x hx h1
    obtain ⟨o2, h7, h8, _⟩ := hobj j j' y hy h3
    have := r.heap.inj i' j' b o1 o2 h2 h4 h5 h7 (h6.live lx) (h8.live ly)
    subst this
    exact hinj i j i' h1 h3
  · obtain ⟨j, h1, h2⟩ := hσ hk
    obtain ⟨g1, ⟨n, g2⟩, g3, g4⟩ := r.heap.tok j b h2
    obtain ⟨o', ho'⟩ := hget h1
    obtain ⟨o, h3, h4, _⟩ := hobj k j o' ho' h1
    rw [g2] at h3
    injection h3 with h3
    subst h3
    refine ⟨g1, ⟨n, ?_⟩, fun id o hid2 ho2 hl => ?_, g4⟩
    · cases o' <;> simp only [RenO] at h4 <;> first
        | (subst h4; exact ho')
        | (exfalso; exact h4 ⟨_, rfl⟩)
        | (rename_i q _ _ _; cases q <;> exact h4.elim)
    · obtain ⟨i', h5, h6⟩ := hσ hid2
      obtain ⟨o2, h7, h8, _⟩ := hobj id i' o ho2 h5
      exact g3 i' o2 h6 h7 (h8.live hl)
  · obtain ⟨i', h1, h2⟩ := hσ hi
    obtain ⟨j', h3, h4⟩ := hσ hj
    have := r.heap.tinj i' j' b h2 h4
    subst this
    exact hinj i j i' h1 h3
  · obtain ⟨y, h1, h2⟩ := henv t x hx
    rcases h2 with h2 | h2
    · exact h2.V (r.env t y h1)
    · exact h2.V (r.env t y h1).strip1
end Go.Hw

set_option linter.unusedVariables false
set_option linter.unusedSimpArgs false
namespace Go.Hw
open Go

variable {P : Program} {N m : Nat} {S D : CallP} {b : Nat} {r : List Op} {e e' : Env} {h h' : Heap} {Q : Env → Heap → Prop} {QQ : Ex → Env → Heap → Prop} {d : Nat} {x y z : X}


abbrev eInt (k : IntKind) (n : Int) : HV := .int k n
abbrev eBool (b : Bool) : HV := .bool b
abbrev eStr (s : List UInt8) : HV := .str s
abbrev eLst {A : Type} (f : A → HV) (l : List A) : HV := .list (l.map f) .none
structure Enc {A : Type} (f : A → HV) (sz : Nat) : Prop where
  pv : ∀ a, ∀ x ∈ (f a).cells, PV x
  wid : ∀ a, (f a).cells.length = sz
  tup : ∀ a, isTuple (f a) = false
  str : ∀ a, (f a).strip1 = f a
theorem enc_int (k : IntKind) : Enc (eInt k) 1 := ⟨fun a x hx => by simp [HV.cells] at hx; subst hx; exact .int _ _, fun _ => rfl, fun _ => rfl, fun _ => rfl⟩
theorem enc_bool : Enc eBool 1 := ⟨fun a x hx => by simp [HV.cells] at hx; subst hx; exact .bool _, fun _ => rfl, fun _ => rfl, fun _ => rfl⟩
theorem enc_str : Enc eStr 1 := ⟨fun a x hx => by simp [HV.cells] at hx; subst hx; exact .str _, fun _ => rfl, fun _ => rfl, fun _ => rfl⟩
theorem enc_byte : Enc (fun c : UInt8 => HV.int .u8 c.toNat) 1 := ⟨fun a x hx => by simp [HV.cells] at hx; subst hx; exact .int _ _, fun _ => rfl, fun _ => rfl, fun _ => rfl⟩
theorem pv_lst {A : Type} {f : A → HV} {sz : Nat} (hf : Enc f sz) (l : List A) (tok : Tok) (ht : ∀ k o s, tok ≠ .own k o s) : PV (.list (l.map f) tok) := pv_map hf.pv l tok ht
theorem enc_lst {A : Type} {f : A → HV} {sz : Nat} (hf : Enc f sz) : Enc (eLst f) 1 := ⟨fun a x hx => by simp [HV.cells] at hx; subst hx; exact pv_lst hf a .none (by simp), fun _ => rfl, fun _ => rfl, fun _ => rfl⟩
theorem enc_bytes : Enc eB 1 := ⟨fun a x hx => by simp [HV.cells] at hx; subst hx; exact pv_eB a, fun _ => rfl, fun _ => rfl, fun _ => rfl⟩
theorem pv_cells {x : HV} (h : ∀ y ∈ x.cells, PV y) (ht : isTuple x = false) : PV x := by
  cases x with
  | agg cs => exact .agg cs h
  | tuple vs => simp [isTuple] at ht
  | _ => exact h _ (by simp [HV.cells])
theorem Enc.all {A : Type} {f : A → HV} {sz : Nat} (hf : Enc f sz) (a : A) : PV (f a) := pv_cells (hf.pv a) (hf.tup a)
theorem wid_map {A : Type} {f : A → HV} {sz : Nat} (hf : Enc f sz) (l : List A) : ∀ v ∈ l.map f, v.cells.length = sz := fun v hv => by
  obtain ⟨a, _, rfl⟩ := List.mem_map.1 hv
  exact hf.wid a


def JoinS {A : Type} (m : Nat) (J : A → Prop) (st : A → Env × Heap) (QQ : Ex → Env → Heap → Prop) : Ex → Env → Heap → Prop
  | .normal, e, h => ∃ x, J x ∧ WeakF m e h (st x).1 (st x).2
  | q, e, h => QQ q e h
theorem sc_join {A : Type} (J : A → Prop) (st : A → Env × Heap) {p q : C} (kb : ∀ x, J x → SC P N m q QQ (st x).1 (st x).2) (ka : SC P N m p (JoinS m J st QQ) e h) : SC P N m (.seq p q) QQ e h := by
  refine sc_seq (ka.mono fun x e h hx => ?_)
  cases x with
  | normal => obtain ⟨x, h1, h2⟩ := hx; exact (kb x h1).weak h2
  | exit i => exact hx
  | ret => exact hx
theorem sq_n {c : C} (k : SC P N m c QQ e h) : SeqS P N m c QQ .normal e h := k
theorem sq_x {c : C} {i : Nat} (k : QQ (.exit i) e h) : SeqS P N m c QQ (.exit i) e h := k
theorem sq_r {c : C} (k : QQ .ret e h) : SeqS P N m c QQ .ret e h := k
theorem bl_n {id : Nat} (k : QQ .normal e h) : BlkS id QQ .normal e h := k
theorem bl_r {id : Nat} (k : QQ .ret e h) : BlkS id QQ .ret e h := k
theorem bl_x {id : Nat} (k : QQ .normal e h) : BlkS id QQ (.exit id) e h := by simp only [BlkS, if_true]; exact k
theorem lo_n {X : Type} {st : X → Env × Heap} {μ : X → Nat} {x : X} (x' : X) (hm : μ x' < μ x) (hw : WeakF m e h (st x').1 (st x').2) : LoopS m st μ x QQ .normal e h := ⟨x', hm, hw⟩
theorem lo_x {X : Type} {st : X → Env × Heap} {μ : X → Nat} {x : X} {i : Nat} (k : QQ (.exit i) e h) : LoopS m st μ x QQ (.exit i) e h := k
theorem lo_r {X : Type} {st : X → Env × Heap} {μ : X → Nat} {x : X} (k : QQ .ret e h) : LoopS m st μ x QQ .ret e h := k
theorem jo_n {A : Type} {J : A → Prop} {st : A → Env × Heap} (x : A) (hj : J x) (hw : WeakF m e h (st x).1 (st x).2) : JoinS m J st QQ .normal e h := ⟨x, hj, hw⟩
theorem jo_r {A : Type} {J : A → Prop} {st : A → Env × Heap} (k : QQ .ret e h) : JoinS m J st QQ .ret e h := k
theorem s_reg {ops : List Op} {keep : List Nat} (k : HO (HCalls P) 0 ops e h (Fin QQ keep)) : SC P N m (.reg ops keep) QQ e h := sc_reg k.out
theorem s_cond_t {p q : C} (hx : x.ev e = some (.bool true)) (k : SC P N m p QQ e h) : SC P N m (.cond x p q) QQ e h := sc_cond hx (fun _ => k) nofun
theorem s_cond_f {p q : C} (hx : x.ev e = some (.bool false)) (k : SC P N m q QQ e h) : SC P N m (.cond x p q) QQ e h := sc_cond hx nofun fun _ => k
theorem s_cond {p q : C} {t : Bool} (hx : x.ev e = some (.bool t)) {A B : Prop} (hw : (t = true → A) ∧ (t = false → B)) (k1 : A → SC P N m p QQ e h) (k2 : B → SC P N m q QQ e h) : SC P N m (.cond x p q) QQ e h :=
  sc_cond hx (fun ht => k1 (hw.1 ht)) fun ht => k2 (hw.2 ht)
theorem g_end {keep : List Nat} (e' : Env) (hp : prune e keep = e') (k : QQ .normal e' h) : HO S b [] e h (Fin QQ keep) := st_end hp k
theorem g_add {m n : Int} {K : Int → Prop} (hx : x.ev e = some (.int .i64 m)) (hy : y.ev e = some (.int .i64 n)) (hw : (-9223372036854775808 ≤ m + n ∧ m + n ≤ 9223372036854775807) ∧ ∀ t, t = m + n → K t) (k : ∀ t, K t → HO S b r ((d, .int .i64 t) :: e) h Q) : HO S b (⟨some d, .op (.bin .add x y), none⟩ :: r) e h Q :=
  st_add hx hy hw.1 (k _ (hw.2 _ rfl))
theorem g_sub {m n : Int} {K : Int → Prop} (hx : x.ev e = some (.int .i64 m)) (hy : y.ev e = some (.int .i64 n)) (hw : (-9223372036854775808 ≤ m - n ∧ m - n ≤ 9223372036854775807) ∧ ∀ t, t = m - n → K t) (k : ∀ t, K t → HO S b r ((d, .int .i64 t) :: e) h Q) : HO S b (⟨some d, .op (.bin .sub x y), none⟩ :: r) e h Q :=
  st_sub hx hy hw.1 (k _ (hw.2 _ rfl))
theorem g_lss {i : IntKind} {m n : Int} {A B : Prop} (hx : x.ev e = some (.int i m)) (hy : y.ev e = some (.int i n)) (hw : (m < n → A) ∧ (n ≤ m → B)) (k1 : A → HO S b r ((d, .bool true) :: e) h Q) (k2 : B → HO S b r ((d, .bool false) :: e) h Q) : HO S b (⟨some d, .op (.bin .lss x y), none⟩ :: r) e h Q :=
  st_lss hx hy (fun c => k1 (hw.1 c)) fun c => k2 (hw.2 c)
theorem g_gtr {i : IntKind} {m n : Int} {A B : Prop} (hx : x.ev e = some (.int i m)) (hy : y.ev e = some (.int i n)) (hw : (n < m → A) ∧ (m ≤ n → B)) (k1 : A → HO S b r ((d, .bool true) :: e) h Q) (k2 : B → HO S b r ((d, .bool false) :: e) h Q) : HO S b (⟨some d, .op (.bin .gtr x y), none⟩ :: r) e h Q :=
  st_gtr hx hy (fun c => k1 (hw.1 c)) fun c => k2 (hw.2 c)
theorem g_geq {i : IntKind} {m n : Int} {A B : Prop} (hx : x.ev e = some (.int i m)) (hy : y.ev e = some (.int i n)) (hw : (n ≤ m → A) ∧ (m < n → B)) (k1 : A → HO S b r ((d, .bool true) :: e) h Q) (k2 : B → HO S b r ((d, .bool false) :: e) h Q) : HO S b (⟨some d, .op (.bin .geq x y), none⟩ :: r) e h Q :=
  st_geq hx hy (fun c => k1 (hw.1 c)) fun c => k2 (hw.2 c)
theorem g_nei {i : IntKind} {m n : Int} {A B : Prop} (hx : x.ev e = some (.int i m)) (hy : y.ev e = some (.int i n)) (hw : (m ≠ n → A) ∧ (m = n → B)) (k1 : A → HO S b r ((d, .bool true) :: e) h Q) (k2 : B → HO S b r ((d, .bool false) :: e) h Q) : HO S b (⟨some d, .op (.eqv true .int x y), none⟩ :: r) e h Q :=
  st_nei hx hy (fun c => k1 (hw.1 c)) fun c => k2 (hw.2 c)
theorem g_nes {m n : List UInt8} {A B : Prop} (hx : x.ev e = some (.str m)) (hy : y.ev e = some (.str n)) (hw : (m ≠ n → A) ∧ (m = n → B)) (k1 : A → HO S b r ((d, .bool true) :: e) h Q) (k2 : B → HO S b r ((d, .bool false) :: e) h Q) : HO S b (⟨some d, .op (.eqv true .str x y), none⟩ :: r) e h Q :=
  st_nes hx hy (fun c => k1 (hw.1 c)) fun c => k2 (hw.2 c)
theorem gb_cmp {op : BinOp} {i : IntKind} {m n : Int} {t0 : Bool} {K : Bool → Prop} (hx : x.ev e = some (.int i m)) (hy : y.ev e = some (.int i n)) (h1 : ibinOk op n) (h2 : ibin op i m n = some (.bool t0)) (hw : ∀ t, t = t0 → K t) (k : ∀ t, K t → HO S b r ((d, .bool t) :: e) h Q) : HO S b (⟨some d, .op (.bin op x y), none⟩ :: r) e h Q :=
  st_bin hx hy (.inl rfl) h1 h2 (k _ (hw _ rfl))
theorem gb_eqs {neg : Bool} {m n : List UInt8} {K : Bool → Prop} (hx : x.ev e = some (.str m)) (hy : y.ev e = some (.str n)) (hw : ∀ t, t = (if neg then !(m == n) else m == n) → K t) (k : ∀ t, K t → HO S b r ((d, .bool t) :: e) h Q) : HO S b (⟨some d, .op (.eqv neg .str x y), none⟩ :: r) e h Q :=
  st_eqv hx hy (by simp) trivial fun t ht => by simp only [HV.eqs] at ht; subst ht; exact k _ (hw _ rfl)
theorem g_eqn {hs : List HV} {tok : Tok} {A B : Prop} (hx : x.ev e = some (.list hs tok)) (hy : y.ev e = some .nilslice) (hw : (hs.length = 0 → A) ∧ B) (k1 : A → HO S b r ((d, .bool true) :: e) h Q) (k2 : B → HO S b r ((d, .bool false) :: e) h Q) : HO S b (⟨some d, .op (.eqv false .slice x y), none⟩ :: r) e h Q :=
  st_eqn hx hy (fun c => k1 (hw.1 (by rw [c]; rfl))) (k2 hw.2)
theorem g_min {i : IntKind} {m n : Int} {K : Int → Prop} (hx : x.ev e = some (.int i m)) (hy : y.ev e = some (.int i n)) (hw : ∀ t, t = min m n → K t) (k : ∀ t, K t → HO S b r ((d, .int i t) :: e) h Q) : HO S b (⟨some d, .op (.min [x, y]), none⟩ :: r) e h Q :=
  st_min2 hx hy rfl (k _ (hw _ rfl))
theorem g_sadd {m n : List UInt8} {K : List UInt8 → Prop} (hx : x.ev e = some (.str m)) (hy : y.ev e = some (.str n)) (hw : m.length + n.length ≤ 9223372036854775807 ∧ ∀ t, t = m ++ n → K t) (k : ∀ t, K t → HO S b r ((d, .str t) :: e) h Q) : HO S b (⟨some d, .op (.bin .add x y), none⟩ :: r) e h Q :=
  st_sbin hx hy hw.1 rfl (k _ (hw.2 _ rfl))
theorem g_len {A : Type} {l : List A} {f : A → HV} {tok : Tok} (hx : x.ev e = some (.list (l.map f) tok)) (k : HO S b r ((d, .int .i64 l.length) :: e) h Q) : HO S b (⟨some d, .op (.len false x), none⟩ :: r) e h Q :=
  st_len hx (List.length_map ..) k
theorem g_iaddr {A : Type} {l : List A} {f : A → HV} {sz : Nat} {tok : Tok} {n : Int} {i : IntKind} {K : A → Prop} (hf : Enc f sz) (hx : x.ev e = some (.list (l.map f) tok)) (hy : y.ev e = some (.int i n)) (hw : (0 ≤ n ∧ n < l.length) ∧ ∀ a, l[n.toNat]? = some a → K a) (k : ∀ a, K a → HO S b r ((d, .rptr (f a).cells) :: e) h Q) : HO S b (⟨some d, .op (.iaddr sz x y), none⟩ :: r) e h Q :=
  st_iaddr hx hy hw.1 hf.wid fun a ha => k a (hw.2 a ha)
theorem g_slice {A : Type} {l : List A} {f : A → HV} {sz : Nat} {tok : Tok} {lo hi : Option X} {p q : Int} {K : List A → Prop} (hf : Enc f sz) (hx : x.ev e = some (.list (l.map f) tok)) (hl : bnd e 0 lo = some p) (hh : bnd e l.length hi = some q) (hw : (0 ≤ p ∧ p ≤ q ∧ q ≤ l.length) ∧ ∀ t, t = (l.take q.toNat).drop p.toNat → K t) (k : ∀ t, K t → HO S b r ((d, .list (t.map f) (cutTok hi.isNone p.toNat tok)) :: e) h Q) : HO S b (⟨some d, .op (.slice sz x lo hi none), none⟩ :: r) e h Q :=
  st_slice hx hl hh hw.1 hf.wid (k _ (hw.2 _ rfl))
theorem g_appf {A : Type} {l ys : List A} {f : A → HV} {t : Tok} {sz by_ : Nat} {K : List A → Prop} (hf : Enc f sz) (hx : x.ev e = some (.list (l.map f) .full)) (hy : y.ev e = some (.list (ys.map f) t)) {n : Nat} (hn : h.length = n) (hw : (l.length + ys.length) * by_ ≤ 140737488355328 ∧ ∀ t, t = l ++ ys → K t) (k : ∀ t, K t → HO S b r ((d, .list (t.map f) (.own n 1 sz)) :: e) (h ++ [.tok (1 + t.length)]) Q) : HO S b (⟨some d, .op (.append sz by_ x y), none⟩ :: r) e h Q :=
  st_app_full (m := 1 + (l ++ ys).length) hx hy (by rw [List.map_map]; exact List.map_congr_left fun a _ => hf.str a) (by simpa using hw.1) (fun v hv => by obtain ⟨a, _, rfl⟩ := List.mem_map.1 hv; exact ⟨hf.wid a, hf.tup a⟩) (wid_map hf l) (List.map_append ..).symm (by simp) hn rfl (k _ (hw.2 _ rfl))
theorem g_appo {A : Type} {l ys : List A} {f : A → HV} {t : Tok} {sz by_ id : Nat} {K : List A → Prop} (hf : Enc f sz) (hx : x.ev e = some (.list (l.map f) (.own id 1 sz))) (hy : y.ev e = some (.list (ys.map f) t)) (h4 : Heap.tokAt h id = some (1 + l.length)) (hw : (l.length + ys.length) * by_ ≤ 140737488355328 ∧ ∀ t, t = l ++ ys → K t) (h' : List A → Heap) (hh : ∀ t : List A, h.set id (.tok (1 + t.length)) = h' t) (k : ∀ t, K t → HO S b r ((d, .list (t.map f) (.own id 1 sz)) :: e) (h' t) Q) : HO S b (⟨some d, .op (.append sz by_ x y), none⟩ :: r) e h Q :=
  st_app_own (m := 1 + (l ++ ys).length) hx hy (by rw [List.map_map]; exact List.map_congr_left fun a _ => hf.str a) (by simpa using hw.1) (fun v hv => by obtain ⟨a, _, rfl⟩ := List.mem_map.1 hv; exact ⟨hf.wid a, hf.tup a⟩) (by simpa using h4) (List.map_append ..).symm (by simp) (hh (l ++ ys)) (k _ (hw.2 _ rfl))
theorem g_mkl {A : Type} {f : A → HV} {sz : Nat} {xs : List X} {vs : List HV} (hf : Enc f sz) (l : List A) (hx : evs e xs = some vs) (hl : vs.map HV.strip1 = l.map f) (hv : ∀ v ∈ vs, v.cells.length = sz ∧ isTuple v = false) (k : HO S b r ((d, .list (l.map f) .full) :: e) h Q) : HO S b (⟨some d, .op (.mklist sz xs), none⟩ :: r) e h Q :=
  st_mklist hx hv hl k

end Go.Hw

set_option linter.unusedVariables false
set_option linter.unusedSimpArgs false
namespace Go.Hw
open Go

variable {P : Program} {N m : Nat} {S D : CallP} {b : Nat} {r : List Op} {e e' : Env} {h h' : Heap} {Q : Env → Heap → Prop} {QQ : Ex → Env → Heap → Prop} {d : Nat} {x y z : X}

theorem mkn {p : HV → Prop} : ∀ v ∈ ([] : List HV), p v := by simp
theorem mkc {p : HV → Prop} {a : HV} {l : List HV} (h1 : p a) (h2 : ∀ v ∈ l, p v) : ∀ v ∈ a :: l, p v := by
  intro v hv
  rcases List.mem_cons.1 hv with rfl | hv
  · exact h1
  · exact h2 v hv
theorem pvn : ∀ x ∈ ([] : List HV), PV x := mkn
theorem pvc {a : HV} {l : List HV} (h1 : PV a) (h2 : ∀ x ∈ l, PV x) : ∀ x ∈ a :: l, PV x := mkc h1 h2
theorem g_eqn2 {T : Type} {l : List T} {f : T → HV} {tok : Tok} {A B : Prop} (hx : x.ev e = some (.list (l.map f) tok)) (hy : y.ev e = some .nilslice) (hw : (l.length = 0 → A) ∧ B) (k1 : A → HO S b r ((d, .bool true) :: e) h Q) (k2 : B → HO S b r ((d, .bool false) :: e) h Q) : HO S b (⟨some d, .op (.eqv false .slice x y), none⟩ :: r) e h Q :=
  g_eqn hx hy (by rw [List.length_map]; exact hw) k1 k2
def RenE (σ : List Nat) (e : Env) : Env → Prop
  | [] => True
  | (t, x') :: r => (∃ x, e.get t = some x ∧ (Ren σ x' x ∨ Ren σ x' x.strip1)) ∧ RenE σ e r
def RenH (σ0 : List Nat) (h : Heap) : List Nat → Heap → Prop
  | [], [] => True
  | j :: σ, o' :: h' => (∃ o, h[j]? = some o ∧ RenO σ0 o' o ∧ o' ≠ .tok 0) ∧ RenH σ0 h σ h'
  | _, _ => False
theorem RenH.get {σ0 : List Nat} {h : Heap} : ∀ {σ : List Nat} {h' : Heap}, RenH σ0 h σ h' → h'.length = σ.length ∧ ∀ (i j : Nat) (o' : HObj), h'[i]? = some o' → σ[i]? = some j → ∃ o, h[j]? = some o ∧ RenO σ0 o' o ∧ o' ≠ .tok 0
  | [], [], _ => ⟨rfl, fun i j o' h1 => by simp at h1⟩
  | j :: σ, o' :: h', ⟨h1, h2⟩ => by
    obtain ⟨h3, h4⟩ := h2.get
    refine ⟨by simp [h3], fun i k o h5 h6 => ?_⟩
    cases i with
    | zero => simp at h5 h6; subst h5; subst h6; exact h1
    | succ i => simp at h5 h6; exact h4 i k o h5 h6
theorem RenE.get {σ : List Nat} : ∀ {e' : Env}, RenE σ e e' → ∀ t x', e'.get t = some x' → ∃ x, e.get t = some x ∧ (Ren σ x' x ∨ Ren σ x' x.strip1)
  | [], _, t, x', h => by simp [Env.get] at h
  | (u, y) :: r, ⟨h1, h2⟩, t, x', h => by
    simp only [Env.get] at h
    split at h
    · rename_i hu
      injection h with h
      subst h
      have : u = t := by simpa using hu
      subst this
      exact h1
    · exact h2.get t x' h
theorem weak_ren (σ : List Nat) (hid : ∀ i, i < m → σ[i]? = some i) (hnd : σ.Nodup) (hh : RenH σ h σ h') (he : RenE σ e e') : WeakF m e h e' h' :=
  WeakF.ren σ hid hnd hh.get.1 hh.get.2 he.get
theorem ro_nil {σ0 : List Nat} : RenH σ0 h [] [] := trivial
theorem ro_tok {σ0 σ : List Nat} {j n : Nat} (h1 : h[j]? = some (.tok (1 + n))) (h2 : RenH σ0 h σ h') : RenH σ0 h (j :: σ) (.tok (1 + n) :: h') := ⟨⟨_, h1, rfl, by simp⟩, h2⟩
theorem re_nil {σ : List Nat} : RenE σ e [] := trivial
theorem re_cons {σ : List Nat} {t : Nat} {x' u : HV} (h1 : e.get t = some u) (h2 : Ren σ x' u) (h3 : RenE σ e e') : RenE σ e ((t, x') :: e') := ⟨⟨u, h1, .inl h2⟩, h3⟩
theorem re_cons1 {σ : List Nat} {t : Nat} {x' u : HV} (h1 : e.get t = some u) (h2 : Ren σ x' u.strip1) (h3 : RenE σ e e') : RenE σ e ((t, x') :: e') := ⟨⟨u, h1, .inr h2⟩, h3⟩
theorem w_acc {A : Type} {l : List A} {f : A → HV} (t sz : Nat) {n : Nat} (hn : h.length = n) (hf : Enc f sz) (hg : e.get t = some (.list (l.map f) .full)) : WeakF m e h ((t, .list (l.map f) (.own n 1 sz)) :: e) (h ++ [.tok (1 + l.length)]) := by
  subst hn
  have := Weak.acc (h := h) t sz (l.map f) hg (wid_map hf l)
  rw [List.length_map] at this
  exact WeakF.of this
theorem pv_flat {A : Type} {f : A → HV} {sz : Nat} (hf : Enc f sz) (l : List A) : ∀ (x : HV), x ∈ flat (l.map f) → PV x := by
  cases pv_lst hf l .none (by simp) with
  | list _ _ _ h => exact h
end Go.Hw

set_option linter.unusedVariables false
set_option linter.unusedSimpArgs false
namespace Go.Hw
open Go

variable {P : Program} {N m : Nat} {S D : CallP} {b : Nat} {r : List Op} {e e' : Env} {h h' : Heap} {Q : Env → Heap → Prop} {QQ : Ex → Env → Heap → Prop} {d : Nat} {x y z : X}


structure GM (K V : Type) where
  es : List (Nat × K × V)
  c : Nat
variable {A B : Type}
def GM.nil : GM A B := ⟨[], 0⟩
def GM.obj (fk : A → HV) (fv : B → HV) (m : GM A B) : HObj := .map (m.es.map fun p => (p.1, fk p.2.1, fv p.2.2)) m.c
def GM.idx [DecidableEq A] (m : GM A B) (k : A) : Option Nat := m.es.findIdx? fun p => decide (k = p.2.1)
def GM.get [DecidableEq A] (m : GM A B) (k : A) : Option B := (m.es.find? fun p => decide (k = p.2.1)).map (·.2.2)
def GM.put [DecidableEq A] (m : GM A B) (k : A) (v : B) : GM A B :=
  match m.idx k with
  | some j => match m.es[j]? with
    | some p => ⟨m.es.set j (p.1, k, v), m.c⟩
    | none => m
  | none => ⟨m.es ++ [(m.c, k, v)], m.c + 1⟩
variable [DecidableEq A] {fk : A → HV} {fv : B → HV} {kd : EqK}
end Go.Hw

set_option linter.unusedVariables false
set_option linter.unusedSimpArgs false
namespace Go.Hw
open Go

variable {P : Program} {N m : Nat} {S D : CallP} {b : Nat} {r : List Op} {e e' : Env} {h h' : Heap} {Q : Env → Heap → Prop} {QQ : Ex → Env → Heap → Prop} {d : Nat} {x y z : X}

def RenL (σ : List Nat) : List HV → List HV → Prop
  | [], [] => True
  | x :: xs, y :: ys => (Ren σ x y ∧ x.leaf = true) ∧ RenL σ xs ys
  | _, _ => False
theorem RenL.get {σ : List Nat} : ∀ {xs ys : List HV}, RenL σ xs ys → xs.length = ys.length ∧ ∀ (j : Nat) (x y : HV), xs[j]? = some x → ys[j]? = some y → Ren σ x y ∧ x.leaf = true
  | [], [], _ => ⟨rfl, fun j x y h => by simp at h⟩
  | x :: xs, y :: ys, ⟨h1, h2⟩ => by
    obtain ⟨h3, h4⟩ := h2.get
    refine ⟨by simp [h3], fun j u v h5 h6 => ?_⟩
    cases j with
    | zero => simp at h5 h6; subst h5; subst h6; exact h1
    | succ j => simp at h5 h6; exact h4 j u v h5 h6
theorem rl_nil {σ : List Nat} : RenL σ [] [] := trivial
theorem rl_cons {σ : List Nat} {x' y' : HV} {xs ys : List HV} (h1 : Ren σ x' y') (h2 : x'.leaf = true) (h3 : RenL σ xs ys) : RenL σ (x' :: xs) (y' :: ys) := ⟨⟨h1, h2⟩, h3⟩
theorem ro_cells {σ0 σ : List Nat} {j : Nat} {xs ys : List HV} (h1 : h[j]? = some (.cells ys)) (hr : RenL σ0 xs ys) (h2 : RenH σ0 h σ h') : RenH σ0 h (j :: σ) (.cells xs :: h') := ⟨⟨_, h1, hr.get, by simp⟩, h2⟩
end Go.Hw

set_option linter.unusedVariables false
set_option linter.unusedSimpArgs false
namespace Go.Hw
open Go
variable {A B : Type}
structure GM.wf (m : GM A B) : Prop where
  keys : (m.es.map (·.2.1)).Nodup
  births : ∀ p ∈ m.es, p.1 < m.c
variable [DecidableEq A]
end Go.Hw

set_option linter.unusedVariables false
set_option linter.unusedSimpArgs false
namespace Go.Hw
open Go

def kap (σ : List Nat) (N j : Nat) : Option Nat := if j < N then σ.findIdx? (fun k => k == j) else some (σ.length + (j - N))
theorem kap_of {σ : List Nat} {N i j : Nat} (hn : σ.Nodup) (h : σ[i]? = some j) (hj : j < N) : kap σ N j = some i := by
  unfold kap
  rw [if_pos hj, List.findIdx?_eq_some_iff_getElem]
  obtain ⟨h1, h2⟩ := List.getElem?_eq_some_iff.1 h
  refine ⟨h1, by simp [h2], fun k hk => ?_⟩
  intro hc
  have h3 : σ[k]? = some j := by rw [List.getElem?_eq_getElem (by omega)]; simpa using hc
  have := nodup_inj hn k i j h3 h
  omega
theorem kap_some {σ : List Nat} {N i j : Nat} (h : kap σ N j = some i) : (σ[i]? = some j ∧ j < N) ∨ (N ≤ j ∧ i = σ.length + (j - N)) := by
  unfold kap at h
  split at h
  · rename_i hj
    rw [List.findIdx?_eq_some_iff_getElem] at h
    obtain ⟨h1, h2, _⟩ := h
    exact .inl ⟨by rw [List.getElem?_eq_getElem h1]; simpa using h2, hj⟩
  · injection h with h
    exact .inr ⟨by omega, h.symm⟩
theorem kap_none {σ : List Nat} {N j : Nat} (h : kap σ N j = none) : j < N ∧ ∀ i : Nat, σ[i]? ≠ some j := by
  unfold kap at h
  split at h
  · rename_i hj
    refine ⟨hj, fun i hi => ?_⟩
    have := List.findIdx?_eq_none_iff.1 h j (List.mem_of_getElem? hi)
    simp at this
  · cases h
def tau (σ : List Nat) (N k : Nat) : List Nat := σ ++ List.range' N k
theorem tau_get {σ : List Nat} {N k i j : Nat} (h : (tau σ N k)[i]? = some j) : (σ[i]? = some j) ∨ (σ.length ≤ i ∧ j = N + (i - σ.length) ∧ i - σ.length < k) := by
  unfold tau at h
  rw [List.getElem?_append] at h
  split at h
  · exact .inl h
  · rename_i hi
    rcases Nat.lt_or_ge (i - σ.length) k with hlt | hge
    · rw [List.getElem?_range' hlt] at h
      injection h with h
      exact .inr ⟨by omega, by omega, hlt⟩
    · rw [List.getElem?_eq_none (by rw [List.length_range']; exact hge)] at h
      cases h
theorem Ren.back {σ : List Nat} {K1 K2 : GK} {w : World} {x y : HV} (hl : K2.lim = K1.lim) (hk : ∀ i j : Nat, σ[i]? = some j → K2.rho j = K1.rho i ∧ K2.tb j = K1.tb i ∧ K2.wm j = K1.wm i) (hr : Ren σ x y) : ∀ {v : Value}, _root_.Go.Hw.V K1 w x v → _root_.Go.Hw.V K2 w y v := by
  induction hr with
  | pv x h => intro v hv; exact hv.transfer h (fun _ => by rw [hl]; exact Nat.le_refl _)
  | own hs i j off sz hσ h =>
    intro v hv
    obtain ⟨_, ht, hw⟩ := hk i j hσ
    cases hv with
    | nil _ htn => exact .nil _ (by simpa [TokNil, hw] using htn)
    | list0 _ htn ad => exact .list0 _ (by simpa [TokNil, hw] using htn) ad
    | list _ _ b o cap sz' vals hw' hleaf hvv hc hlim hcap htk =>
      refine .list hs _ b o cap sz' vals hw' hleaf (fun q z hz => (hvv q z hz).transfer (h z (List.mem_of_getElem? hz)) (fun _ => by rw [hl]; exact Nat.le_refl _)) hc (by rw [hl]; exact hlim) hcap ?_
      obtain ⟨t1, t2, t3⟩ := htk
      exact ⟨by rw [hw]; exact t1, t2, fun he => by rw [hw] at he; rw [ht]; simpa [hl] using t3 he⟩
  | ptr i j off hσ => intro v hv; cases hv with | ptr _ _ b hr => exact .ptr _ _ b (by rw [(hk i j hσ).1]; exact hr)
  | map i j hσ => intro v hv; cases hv with | map _ b hr => exact .map _ b (by rw [(hk i j hσ).1]; exact hr)
  | arr i j off len sz hσ =>
    intro v hv
    cases hv with
    | arr _ _ _ _ b cap off' hr hcap ho hroom => exact .arr _ _ _ _ b cap off' (by rw [(hk i j hσ).1]; exact hr) hcap ho hroom
    | arrn => exact .arrn _ _ _
    | arr0 => exact .arr0 _ _ _ _
  | agg xs ys hlen h hleaf ih =>
    intro v hv
    cases hv with
    | agg _ vs hn _ hvv =>
      refine .agg ys vs (by omega) (fun y hy => ?_) (fun q y u hy hu => ?_)
      · obtain ⟨q, hq⟩ := List.getElem?_of_mem hy
        obtain ⟨x, hx⟩ := get_of_lt (l := xs) (j := q) (by rw [hlen]; exact lt_of_get hq)
        have h1 := hleaf x (List.mem_of_getElem? hx)
        have h2 := h q x y hx hq
        cases h2 <;> first | exact h1 | rfl
      · obtain ⟨x, hx⟩ := get_of_lt (l := xs) (j := q) (by rw [hlen]; exact lt_of_get hy)
        exact ih q x y hx hy (hvv q x u hx hu)
  | tuple xs ys hlen h ih =>
    intro v hv
    cases hv with
    | tuple _ vs hn hvv => exact .tuple ys vs (by omega) (fun q y u hy hu => by
        obtain ⟨x, hx⟩ := get_of_lt (l := xs) (j := q) (by rw [hlen]; exact lt_of_get hy)
        exact ih q x y hx hy (hvv q x u hx hu))
  | func f xs ys hlen h ih =>
    intro v hv
    cases hv with
    | func _ _ vs hn hvv => exact .func f ys vs (by omega) (fun q y u hy hu => by
        obtain ⟨x, hx⟩ := get_of_lt (l := xs) (j := q) (by rw [hlen]; exact lt_of_get hy)
        exact ih q x y hx hy (hvv q x u hx hu))
theorem Ren.leaf {σ : List Nat} {x y : HV} (h : Ren σ x y) (hx : x.leaf = true) : y.leaf = true := by
  cases h <;> first | exact hx | rfl
theorem RenO.back {σ : List Nat} {K1 K2 : GK} {w : World} {b : Nat} {o1 o2 : HObj} (hl : K2.lim = K1.lim) (hk : ∀ i j : Nat, σ[i]? = some j → K2.rho j = K1.rho i ∧ K2.tb j = K1.tb i ∧ K2.wm j = K1.wm i) (hr : RenO σ o1 o2) (hd : o1 ≠ .dead) (ho : ObjOk K1 w b o1) : ObjOk K2 w b o2 := by
  cases o1 with
  | cells xs =>
    cases o2 <;> simp only [RenO] at hr
    rename_i ys
    obtain ⟨c, e, fr, h1, h2, h3, h4⟩ := ho
    refine ⟨c, e, fr, h1, by omega, h3, fun j y hy => ?_⟩
    obtain ⟨x, hx⟩ := get_of_lt (l := xs) (j := j) (by rw [hr.1]; exact lt_of_get hy)
    obtain ⟨_, v, h5, h6⟩ := h4 j x hx
    obtain ⟨h7, h8⟩ := hr.2 j x y hx hy
    exact ⟨h7.leaf h8, v, h5, h7.back hl hk h6⟩
  | map es c =>
    cases o2 <;> simp only [RenO] at hr
    rename_i fs d
    obtain ⟨rfl, hlen, hr⟩ := hr
    obtain ⟨ms, h1, h2, h3⟩ := ho
    refine ⟨ms, h1, by omega, fun j n x' y' hy => ?_⟩
    obtain ⟨⟨n', x, y⟩, hx⟩ := get_of_lt (l := es) (j := j) (by rw [hlen]; exact lt_of_get hy)
    obtain ⟨m, h4, h5, t1, t2, h6, h7⟩ := h3 j n' x y hx
    obtain ⟨rfl, g1, g2, g3, g4⟩ := hr j n' n x y x' y' hx hy
    have tt : ∀ {u u' : HV}, Ren σ u u' → isTuple u = false → isTuple u' = false := fun hu h => by cases hu <;> first | exact h | rfl
    exact ⟨m, h4, h5, tt g1 g3, tt g2 g4, g1.back hl hk h6, g2.back hl hk h7⟩
  | iter a p q r =>
    cases o2 with
    | iter a' p' q' r' =>
      cases a with
      | none =>
        cases a' with
        | none =>
          simp only [RenO] at hr
          obtain ⟨rfl, rfl, rfl⟩ := hr
          exact ho
        | some _ => simp only [RenO] at hr
      | some i =>
        cases a' with
        | none => simp only [RenO] at hr
        | some j =>
          simp only [RenO] at hr
          obtain ⟨h1, rfl, rfl, rfl⟩ := hr
          obtain ⟨b', h2, h3⟩ := ho
          exact ⟨b', by rw [(hk i j h1).1]; exact h2, h3⟩
    | _ => cases a <;> simp only [RenO] at hr
  | siter s p =>
    cases o2 <;> simp only [RenO] at hr
    obtain ⟨rfl, rfl⟩ := hr
    exact ho
  | tok n => exact ho.elim
  | dead => exact absurd rfl hd
  | res => exact ho.elim
theorem RenO.live2 {σ : List Nat} {o' o : HObj} (hr : RenO σ o' o) (hd : o' ≠ .dead) (hl : o.live) : o'.live := by
  cases o' <;> cases o <;> simp only [RenO] at hr <;> first
    | trivial
    | exact hl.elim
    | exact absurd rfl hd
    | exact hr.elim
    | (rename_i a _ _ _ b _ _ _; cases a <;> cases b <;> first | trivial | exact hr.elim)
    | (rename_i a _ _ _; cases a <;> exact hr.elim)
end Go.Hw

set_option linter.unusedVariables false
set_option linter.unusedSimpArgs false
namespace Go.Hw
open Go

theorem ren_heap {K : GK} {w : World} {h h' : Heap} (σ : List Nat) (hnd : σ.Nodup) (hlen : h'.length = σ.length) (hobj : ∀ (i j : Nat) (o' : HObj), h'[i]? = some o' → σ[i]? = some j → ∃ o, h[j]? = some o ∧ RenO σ o' o ∧ o' ≠ .tok 0) (r : HeapRel K h w) : HeapRel (K.ren σ) h' w := by
  have hinj := nodup_inj hnd
  have hσ : ∀ {i b : Nat} {f : Nat → Option Nat}, (σ[i]?).bind f = some b → ∃ j : Nat, σ[i]? = some j ∧ f j = some b := fun h => Option.bind_eq_some_iff.1 h
  have hget : ∀ {i j : Nat}, σ[i]? = some j → ∃ o', h'[i]? = some o' := fun hi => get_of_lt (by rw [hlen]; exact lt_of_get hi)
  have hwm : ∀ i, (K.ren σ).wm i = match h'[i]? with | some (.tok n) => n | _ => 0 := by
    intro i
    simp only [GK.ren]
    cases hi : σ[i]? with
    | none =>
      have : h'[i]? = none := List.getElem?_eq_none (by rw [hlen]; exact List.getElem?_eq_none_iff.1 hi)
      rw [this]
    | some j =>
      obtain ⟨o', ho'⟩ := hget hi
      obtain ⟨o, h1, h2, _⟩ := hobj i j o' ho' hi
      have := h2.tok
      simp only
      rw [r.wm j, h1, ho']
      cases o' <;> cases o <;> exact this.symm
  refine ⟨fun id b hr => ?_, fun i j b x y hi hj hx hy lx ly => ?_, hwm, fun k b hk => ?_, fun i j b hi hj => ?_, r.limb⟩
  · obtain ⟨j, h1, h2⟩ := hσ hr
    obtain ⟨o', ho'⟩ := hget h1
    obtain ⟨o, h3, h4, _⟩ := hobj id j o' ho' h1
    obtain ⟨g1, o2, g2, g3, g4⟩ := r.obj j b h2
    rw [h3] at g2
    injection g2 with g2
    subst g2
    exact ⟨g1, o', ho', h4.ok g3, fun hl => g4 (h4.live hl)⟩
  · obtain ⟨i', h1, h2⟩ := hσ hi
    obtain ⟨j', h3, h4⟩ := hσ hj
    obtain ⟨o1, h5, h6, _⟩ := hobj i i' x hx h1
    obtain ⟨o2, h7, h8, _⟩ := hobj j j' y hy h3
    have := r.inj i' j' b o1 o2 h2 h4 h5 h7 (h6.live lx) (h8.live ly)
    subst this
    exact hinj i j i' h1 h3
  · obtain ⟨j, h1, h2⟩ := hσ hk
    obtain ⟨g1, ⟨n, g2⟩, g3, g4⟩ := r.tok j b h2
    obtain ⟨o', ho'⟩ := hget h1
    obtain ⟨o, h3, h4, _⟩ := hobj k j o' ho' h1
    rw [g2] at h3
    injection h3 with h3
    subst h3
    refine ⟨g1, ⟨n, ?_⟩, fun id o hid2 ho2 hl => ?_, g4⟩
    · cases o' <;> simp only [RenO] at h4 <;> first
        | (subst h4; exact ho')
        | (exfalso; exact h4 ⟨_, rfl⟩)
        | (rename_i q _ _ _; cases q <;> exact h4.elim)
    · obtain ⟨i', h5, h6⟩ := hσ hid2
      obtain ⟨o2, h7, h8, _⟩ := hobj id i' o ho2 h5
      exact g3 i' o2 h6 h7 (h8.live hl)
  · obtain ⟨i', h1, h2⟩ := hσ hi
    obtain ⟨j', h3, h4⟩ := hσ hj
    have := r.tinj i' j' b h2 h4
    subst this
    exact hinj i j i' h1 h3

def GK.back (σ : List Nat) (N : Nat) (K K1 : GK) : GK := { lim := K1.lim, rho := fun j => match kap σ N j with | some i => K1.rho i | none => K.rho j, tb := fun j => match kap σ N j with | some i => K1.tb i | none => K.tb j, wm := fun j => match kap σ N j with | some i => K1.wm i | none => K.wm j }

theorem HCalls.frame {P : Program} {f : FuncId} {args args' : List HV} {h H : Heap} {R R' : HV → Heap → Prop} (σ : List Nat) (hc : HCalls P f args h R) (hnd : σ.Nodup) (hlt : ∀ i j : Nat, σ[i]? = some j → j < H.length) (hlen : h.length = σ.length)
    (hobj : ∀ (i j : Nat) (o' : HObj), h[i]? = some o' → σ[i]? = some j → ∃ o, H[j]? = some o ∧ RenO σ o' o ∧ o' ≠ .tok 0 ∧ o' ≠ .dead)
    (hargs : args'.length = args.length ∧ ∀ (j : Nat) (x x' : HV), args[j]? = some x → args'[j]? = some x' → Ren σ x x' ∨ Ren σ x x'.strip1)
    (hR : ∀ x h1, R x h1 → ∃ y H2, R' y H2 ∧ σ.length ≤ h1.length ∧ Ren (tau σ H.length (h1.length - σ.length)) x y ∧ H2.length = H.length + (h1.length - σ.length) ∧ (∀ j : Nat, j < H.length → (∀ i : Nat, σ[i]? ≠ some j) → H2[j]? = H[j]?) ∧
      ∀ (i j : Nat) (o1 : HObj), (tau σ H.length (h1.length - σ.length))[i]? = some j → h1[i]? = some o1 → ∃ o2, H2[j]? = some o2 ∧ RenO (tau σ H.length (h1.length - σ.length)) o1 o2 ∧ (o1 = .dead → o2 = .dead)) : HCalls P f args' H R' := by
  refine ⟨hc.1, fun K w vs hh hl hv => ?_⟩
  have hh0 : HeapRel (K.ren σ) h w := ren_heap σ hnd hlen (fun i j o' h1 h2 => by obtain ⟨o, g1, g2, g3, _⟩ := hobj i j o' h1 h2; exact ⟨o, g1, g2, g3⟩) hh
  refine (hc.2 (K.ren σ) w vs hh0 (by omega) (fun j x v hx hvj => ?_)).mono ?_
  · obtain ⟨x', hx'⟩ := get_of_lt (l := args') (j := j) (by rw [hargs.1]; exact lt_of_get hx)
    have h1 := hv j x' v hx' hvj
    rcases hargs.2 j x x' hx hx' with h2 | h2
    · exact h2.V h1
    · exact h2.V h1.strip1
  rintro en w' ⟨v, x, K1, h1, rfl, s, hh1, hV, hRx⟩
  obtain ⟨y, H2, hR', hge, hxy, hH2, hrest, hnew⟩ := hR x h1 hRx
  generalize hτ : tau σ H.length (h1.length - σ.length) = τ at hxy hnew
  -- names
  have hσN : ∀ {j : Nat}, kap σ H.length j = none → j < H.length ∧ ∀ i : Nat, σ[i]? ≠ some j := fun h => kap_none h
  have hkτ : ∀ {i j : Nat}, τ[i]? = some j → kap σ H.length j = some i := by
    intro i j hij
    rw [← hτ] at hij
    rcases tau_get hij with h2 | ⟨h2, h3, h4⟩
    · exact kap_of hnd h2 (hlt i j h2)
    · unfold kap
      rw [if_neg (by omega)]
      congr 1
      omega
  have hτk : ∀ {i j : Nat}, kap σ H.length j = some i → i < h1.length → τ[i]? = some j := by
    intro i j hij hi
    rw [← hτ]
    unfold tau
    rcases kap_some hij with ⟨h2, _⟩ | ⟨h2, h3⟩
    · rw [List.getElem?_append_left (lt_of_get h2)]; exact h2
    · rw [List.getElem?_append_right (by omega), List.getElem?_range' (by omega)]
      congr 1
      omega
  let K2 := GK.back σ H.length K K1
  have hk2 : ∀ i j : Nat, τ[i]? = some j → K2.rho j = K1.rho i ∧ K2.tb j = K1.tb i ∧ K2.wm j = K1.wm i := by
    intro i j hij
    have := hkτ hij
    simp only [K2, GK.back, this, and_self]
  have ks : ∀ {i j : Nat}, σ[i]? = some j → kap σ H.length j = some i := fun h2 => kap_of hnd h2 (hlt _ _ h2)
  have hren : ∀ i j : Nat, σ[i]? = some j → (K.ren σ).rho i = K.rho j ∧ (K.ren σ).tb i = K.tb j ∧ (K.ren σ).wm i = K.wm j := by
    intro i j hij
    simp [GK.ren, hij]
  have hH : ∀ {j : Nat}, H.length ≤ j → K.rho j = none ∧ K.tb j = none ∧ K.wm j = 0 := by
    intro j hj
    have hn : H[j]? = none := List.getElem?_eq_none hj
    refine ⟨?_, ?_, ?_⟩
    · cases hr : K.rho j with
      | none => rfl
      | some b => obtain ⟨_, o, ho, _⟩ := hh.obj j b hr; rw [hn] at ho; cases ho
    · cases hr : K.tb j with
      | none => rfl
      | some b => obtain ⟨_, ⟨n, ho⟩, _⟩ := hh.tok j b hr; rw [hn] at ho; cases ho
    · rw [hh.wm j, hn]
  have hown : ∀ b, owned (K.ren σ) b → owned K b := by
    rintro b (⟨i, h2⟩ | ⟨i, h2⟩)
    · obtain ⟨j, _, h3⟩ := Option.bind_eq_some_iff.1 h2; exact .inl ⟨j, h3⟩
    · obtain ⟨j, _, h3⟩ := Option.bind_eq_some_iff.1 h2; exact .inr ⟨j, h3⟩
  -- the caller's other blocks are not the callee's
  have hapart : ∀ {j b : Nat} {o : HObj}, kap σ H.length j = none → K.rho j = some b → H[j]? = some o → o.live → ¬ owned (K.ren σ) b := by
    rintro j b o hj hr ho hol (⟨i, h2⟩ | ⟨i, h2⟩)
    · obtain ⟨j', h3, h4⟩ := Option.bind_eq_some_iff.1 h2
      obtain ⟨o', ho'⟩ := get_of_lt (l := h) (j := i) (by rw [hlen]; exact lt_of_get h3)
      obtain ⟨o3, g1, g2, g3, g4⟩ := hobj i j' o' ho' h3
      obtain ⟨_, o4, g5, g6, _⟩ := hh.obj j' b h4
      rw [g1] at g5
      injection g5 with g5
      subst g5
      have hl3 : o3.live := by
        cases o3 with
        | tok _ => exact g6.elim
        | res => exact g6.elim
        | dead => cases o' <;> simp only [RenO] at g2 <;> first | exact g2.elim | exact absurd rfl g4 | (rename_i q _ _ _; cases q <;> exact g2.elim)
        | _ => trivial
      have := hh.inj j j' b o o3 hr h4 ho g1 hol hl3
      subst this
      exact (hσN hj).2 i h3
    · obtain ⟨j', h3, h4⟩ := Option.bind_eq_some_iff.1 h2
      exact (hh.tok j' b h4).2.2.1 j o hr ho hol
  have htok : ∀ {j b : Nat}, kap σ H.length j = none → K.tb j = some b → ¬ owned (K.ren σ) b := by
    rintro j b hj hr (⟨i, h2⟩ | ⟨i, h2⟩)
    · obtain ⟨j', h3, h4⟩ := Option.bind_eq_some_iff.1 h2
      obtain ⟨o', ho'⟩ := get_of_lt (l := h) (j := i) (by rw [hlen]; exact lt_of_get h3)
      obtain ⟨o3, g1, g2, g3, g4⟩ := hobj i j' o' ho' h3
      obtain ⟨_, o4, g5, g6, _⟩ := hh.obj j' b h4
      rw [g1] at g5
      injection g5 with g5
      subst g5
      have hl3 : o3.live := by
        cases o3 with
        | tok _ => exact g6.elim
        | res => exact g6.elim
        | dead => cases o' <;> simp only [RenO] at g2 <;> first | exact g2.elim | exact absurd rfl g4 | (rename_i q _ _ _; cases q <;> exact g2.elim)
        | _ => trivial
      exact (hh.tok j b hr).2.2.1 j' o3 h4 g1 hl3
    · obtain ⟨j', h3, h4⟩ := Option.bind_eq_some_iff.1 h2
      have := hh.tinj j j' b hr h4
      subst this
      exact (hσN hj).2 i h3
  have hstep : Step K w K2 w' := by
    refine ⟨s.os, s.tape, s.output, s.size, s.lim, fun k => ?_, fun k hk => ?_, fun id b hid => ?_, s.cell, s.shape, fun b hb ho => ?_, fun b hb ho => s.frame b hb fun h2 => ho (hown b h2)⟩
    · cases hkap : kap σ H.length k with
      | none => simp only [K2, GK.back, hkap]; exact Nat.le_refl _
      | some i =>
        simp only [K2, GK.back, hkap]
        rcases kap_some hkap with ⟨h2, _⟩ | ⟨h2, h3⟩
        · have := s.wm i; rw [(hren i k h2).2.2] at this; exact this
        · rw [(hH h2).2.2]; exact Nat.zero_le _
    · cases hkap : kap σ H.length k with
      | none =>
        simp only [K2, GK.back, hkap] at hk ⊢
        exact ⟨trivial, fun b hb => (s.frame b (hh.tok k b hb).1 (htok hkap hb)).2⟩
      | some i =>
        simp only [K2, GK.back, hkap] at hk ⊢
        rcases kap_some hkap with ⟨h2, _⟩ | ⟨h2, h3⟩
        · have := s.tok i (by rw [(hren i k h2).2.2]; exact hk)
          rw [(hren i k h2).2.1] at this
          exact this
        · rw [(hH h2).2.2] at hk
          have hn : σ[i]? = none := List.getElem?_eq_none (by omega)
          have := s.tok i (by simp only [GK.ren, hn]; exact hk)
          simp only [GK.ren, hn, Option.bind_none] at this
          rw [(hH h2).2.1]
          exact ⟨this.1, fun b hb => by cases hb⟩
    · cases hkap : kap σ H.length id with
      | none => simp only [K2, GK.back, hkap]; exact hid
      | some i =>
        simp only [K2, GK.back, hkap]
        rcases kap_some hkap with ⟨h2, _⟩ | ⟨h2, h3⟩
        · exact s.rho i b (by rw [(hren i id h2).1]; exact hid)
        · rw [(hH h2).1] at hid; cases hid
    · rcases ho with ⟨j, hj⟩ | ⟨j, hj⟩
      · cases hkap : kap σ H.length j with
        | none => simp only [K2, GK.back, hkap] at hj; exact .inl ⟨j, hj⟩
        | some i => simp only [K2, GK.back, hkap] at hj; exact hown b (s.own b hb (.inl ⟨i, hj⟩))
      · cases hkap : kap σ H.length j with
        | none => simp only [K2, GK.back, hkap] at hj; exact .inr ⟨j, hj⟩
        | some i => simp only [K2, GK.back, hkap] at hj; exact hown b (s.own b hb (.inr ⟨i, hj⟩))
  have hrho : ∀ {j b : Nat}, K2.rho j = some b → (∃ i, kap σ H.length j = some i ∧ K1.rho i = some b ∧ τ[i]? = some j) ∨ (kap σ H.length j = none ∧ K.rho j = some b) := by
    intro j b hj
    cases hkap : kap σ H.length j with
    | none => simp only [K2, GK.back, hkap] at hj; exact .inr ⟨rfl, hj⟩
    | some i =>
      simp only [K2, GK.back, hkap] at hj
      obtain ⟨_, o, ho, _⟩ := hh1.obj i b hj
      exact .inl ⟨i, rfl, hj, hτk hkap (lt_of_get ho)⟩
  have htb : ∀ {j b : Nat}, K2.tb j = some b → (∃ i, kap σ H.length j = some i ∧ K1.tb i = some b ∧ τ[i]? = some j) ∨ (kap σ H.length j = none ∧ K.tb j = some b) := by
    intro j b hj
    cases hkap : kap σ H.length j with
    | none => simp only [K2, GK.back, hkap] at hj; exact .inr ⟨rfl, hj⟩
    | some i =>
      simp only [K2, GK.back, hkap] at hj
      obtain ⟨_, ⟨n, ho⟩, _⟩ := hh1.tok i b hj
      exact .inl ⟨i, rfl, hj, hτk hkap (lt_of_get ho)⟩
  have hkeep : ∀ {j : Nat}, kap σ H.length j = none → H2[j]? = H[j]? := fun hj => hrest _ (hσN hj).1 (hσN hj).2
  have hfar : ∀ {j b : Nat} {o : HObj}, kap σ H.length j = none → K.rho j = some b → H[j]? = some o → o.live → ¬ owned K1 b := fun hj hr ho hl h2 => hapart hj hr ho hl (s.own _ (hh.obj _ _ hr).1 h2)
  have hftok : ∀ {j b : Nat}, kap σ H.length j = none → K.tb j = some b → ¬ owned K1 b := fun hj hr h2 => htok hj hr (s.own _ (hh.tok _ _ hr).1 h2)
  have hlive : ∀ {i j : Nat} {o1 o2 : HObj}, τ[i]? = some j → h1[i]? = some o1 → H2[j]? = some o2 → RenO τ o1 o2 ∧ (o2.live → o1.live) ∧ (o1.live → o2.live) ∧ (o1 = .dead → o2 = .dead) := by
    intro i j o1 o2 hij ho1 ho2
    obtain ⟨o3, g1, g2, g3⟩ := hnew i j o1 hij ho1
    rw [ho2] at g1
    injection g1 with g1
    subst g1
    refine ⟨g2, fun hl2 => ?_, fun hl1 => g2.live hl1, g3⟩
    by_cases hd : o1 = .dead
    · rw [g3 hd] at hl2; exact hl2.elim
    · exact g2.live2 hd hl2
  have hheap : HeapRel K2 H2 w' := by
    refine ⟨fun id b hr => ?_, fun i j b x y hi hj hx hy lx ly => ?_, fun k => ?_, fun k b hk => ?_, fun i j b hi hj => ?_, hh1.limb⟩
    · rcases hrho hr with ⟨i, h2, h3, h4⟩ | ⟨h2, h3⟩
      · obtain ⟨g1, o1, g2, g3, g4⟩ := hh1.obj i b h3
        obtain ⟨o2, g5, g6, g7⟩ := hnew i id o1 h4 g2
        refine ⟨g1, o2, g5, ?_, fun hl2 => g4 ((hlive h4 g2 g5).2.1 hl2)⟩
        by_cases hd : o1 = .dead
        · rw [g7 hd]; trivial
        · exact g6.back (K1 := K1) (K2 := K2) rfl hk2 hd g3
      · obtain ⟨g1, o, g2, g3, g4⟩ := hh.obj id b h3
        refine ⟨Nat.lt_of_lt_of_le g1 s.size, o, by rw [hkeep h2]; exact g2, ?_, fun hl2 => ?_⟩
        · cases o with
          | dead => trivial
          | tok _ => exact g3.elim
          | res => exact g3.elim
          | _ => exact ObjOk.keep hstep (s.frame b g1 (hapart h2 h3 g2 trivial)).1 g3
        · have := (s.frame b g1 (hapart h2 h3 g2 hl2)).2
          show K1.lim b = 0
          rw [this]
          exact g4 hl2
    · rcases hrho hi with ⟨i', h2, h3, h4⟩ | ⟨h2, h3⟩
      · obtain ⟨_, o1, g2, _⟩ := hh1.obj i' b h3
        have l1 := (hlive h4 g2 hx).2.1 lx
        rcases hrho hj with ⟨j', k2, k3, k4⟩ | ⟨k2, k3⟩
        · obtain ⟨_, o2, g3, _⟩ := hh1.obj j' b k3
          have l2 := (hlive k4 g3 hy).2.1 ly
          have := hh1.inj i' j' b o1 o2 h3 k3 g2 g3 l1 l2
          subst this
          rw [h4] at k4
          injection k4
        · rw [hkeep k2] at hy
          exact absurd (.inl ⟨i', h3⟩) (hfar k2 k3 hy ly)
      · rw [hkeep h2] at hx
        rcases hrho hj with ⟨j', k2, k3, k4⟩ | ⟨k2, k3⟩
        · exact absurd (.inl ⟨j', k3⟩) (hfar h2 h3 hx lx)
        · rw [hkeep k2] at hy
          exact hh.inj i j b x y h3 k3 hx hy lx ly
    · cases hkap : kap σ H.length k with
      | none =>
        simp only [K2, GK.back, hkap]
        rw [hkeep hkap]
        exact hh.wm k
      | some i =>
        simp only [K2, GK.back, hkap]
        rw [hh1.wm i]
        cases ho1 : h1[i]? with
        | none =>
          have hk : H2[k]? = none := by
            refine List.getElem?_eq_none ?_
            have := List.getElem?_eq_none_iff.1 ho1
            rcases kap_some hkap with ⟨h2, _⟩ | ⟨h2, h3⟩
            · have := lt_of_get h2; omega
            · omega
          rw [hk]
        | some o1 =>
          obtain ⟨o2, g1, g2, g3⟩ := hnew i k o1 (hτk hkap (lt_of_get ho1)) ho1
          rw [g1]
          have := g2.tok
          cases o1 <;> cases o2 <;> exact this
    · rcases htb hk with ⟨i, h2, h3, h4⟩ | ⟨h2, h3⟩
      · obtain ⟨g1, ⟨n, g2⟩, g3, g4⟩ := hh1.tok i b h3
        obtain ⟨o2, g5, g6, g7⟩ := hnew i k _ h4 g2
        refine ⟨g1, ⟨n, ?_⟩, fun id o hid ho hl => ?_, g4⟩
        · cases o2 <;> simp only [RenO] at g6
          rw [g5, g6]
        · rcases hrho hid with ⟨i', k2, k3, k4⟩ | ⟨k2, k3⟩
          · obtain ⟨_, o1, g8, _⟩ := hh1.obj i' b k3
            exact g3 i' o1 k3 g8 ((hlive k4 g8 ho).2.1 hl)
          · rw [hkeep k2] at ho
            exact hfar k2 k3 ho hl (.inr ⟨i, h3⟩)
      · obtain ⟨g1, ⟨n, g2⟩, g3, c, e, fr, g4, g5, g6⟩ := hh.tok k b h3
        have hf := s.frame b g1 (htok h2 h3)
        refine ⟨Nat.lt_of_lt_of_le g1 s.size, ⟨n, by rw [hkeep h2]; exact g2⟩, fun id o hid ho hl => ?_, c, e, fr, by rw [hf.1]; exact g4, ?_, g6⟩
        · rcases hrho hid with ⟨i', k2, k3, k4⟩ | ⟨k2, k3⟩
          · exact hftok h2 h3 (.inl ⟨i', k3⟩)
          · rw [hkeep k2] at ho
            exact g3 id o k3 ho hl
        · show K1.lim b ≤ c.size
          rw [hf.2]
          exact g5
    · rcases htb hi with ⟨i', h2, h3, h4⟩ | ⟨h2, h3⟩
      · rcases htb hj with ⟨j', k2, k3, k4⟩ | ⟨k2, k3⟩
        · have := hh1.tinj i' j' b h3 k3
          subst this
          rw [h4] at k4
          injection k4
        · exact absurd (.inr ⟨i', h3⟩) (hftok k2 k3)
      · rcases htb hj with ⟨j', k2, k3, k4⟩ | ⟨k2, k3⟩
        · exact absurd (.inr ⟨j', k3⟩) (hftok h2 h3)
        · exact hh.tinj i j b h3 k3
  exact ⟨v, y, K2, H2, rfl, hstep, hheap, hxy.back (K1 := K1) (K2 := K2) rfl hk2 hV, hR'⟩
end Go.Hw

set_option linter.unusedVariables false
set_option linter.unusedSimpArgs false
namespace Go.Hw
open Go

variable {P : Program} {N m : Nat} {S D : CallP} {b : Nat} {r : List Op} {e e' : Env} {h h' : Heap} {Q : Env → Heap → Prop} {QQ : Ex → Env → Heap → Prop} {d : Nat} {x y z : X}

def SameOff (σ : List Nat) : Nat → Heap → Heap → Prop
  | _, [], _ => True
  | i, o :: H, o2 :: H2 => (i ∈ σ ∨ o2 = o) ∧ SameOff σ (i + 1) H H2
  | _, _ :: _, [] => False
theorem SameOff.get {σ : List Nat} : ∀ {H H2 : Heap} {k : Nat}, SameOff σ k H H2 → ∀ j : Nat, j < H.length → k + j ∉ σ → H2[j]? = H[j]?
  | [], _, _, _, j, hj, _ => by simp at hj
  | o :: H, [], k, h, _, _, _ => h.elim
  | o :: H, o2 :: H2, k, ⟨h1, h2⟩, j, hj, hn => by
    cases j with
    | zero =>
      rcases h1 with h1 | h1
      · exact absurd h1 hn
      · simp [h1]
    | succ j =>
      simp only [List.getElem?_cons_succ]
      exact h2.get j (by simpa using hj) (by rw [show k + 1 + j = k + (j + 1) by omega]; exact hn)
def ROut (σ0 : List Nat) (H2 : Heap) : List Nat → Heap → Prop
  | [], [] => True
  | j :: σ, o1 :: h1 => (∃ o2, H2[j]? = some o2 ∧ RenO σ0 o1 o2 ∧ (o1 = .dead → o2 = .dead)) ∧ ROut σ0 H2 σ h1
  | _, _ => False
theorem ROut.get {σ0 : List Nat} {H2 : Heap} : ∀ {σ : List Nat} {h1 : Heap}, ROut σ0 H2 σ h1 → ∀ (i j : Nat) (o1 : HObj), σ[i]? = some j → h1[i]? = some o1 → ∃ o2, H2[j]? = some o2 ∧ RenO σ0 o1 o2 ∧ (o1 = .dead → o2 = .dead)
  | [], [], _, i, j, o1, hi, _ => by simp at hi
  | k :: σ, o :: h1, ⟨g1, g2⟩, i, j, o1, hi, ho => by
    cases i with
    | zero => simp at hi ho; subst hi; subst ho; exact g1
    | succ i => simp at hi ho; exact g2.get i j o1 hi ho
def RenA (σ : List Nat) : List HV → List HV → Prop
  | [], [] => True
  | x :: xs, y :: ys => (Ren σ x y ∨ Ren σ x y.strip1) ∧ RenA σ xs ys
  | _, _ => False
theorem RenA.get {σ : List Nat} : ∀ {xs ys : List HV}, RenA σ xs ys → ys.length = xs.length ∧ ∀ (j : Nat) (x y : HV), xs[j]? = some x → ys[j]? = some y → Ren σ x y ∨ Ren σ x y.strip1
  | [], [], _ => ⟨rfl, fun j x y h => by simp at h⟩
  | x :: xs, y :: ys, ⟨h1, h2⟩ => by
    obtain ⟨h3, h4⟩ := h2.get
    refine ⟨by simp [h3], fun j u v h5 h6 => ?_⟩
    cases j with
    | zero => simp at h5 h6; subst h5; subst h6; exact h1
    | succ j => simp at h5 h6; exact h4 j u v h5 h6
end Go.Hw

set_option linter.unusedVariables false
set_option linter.unusedSimpArgs false
namespace Go.Hw
open Go

end Go.Hw

set_option linter.unusedVariables false
set_option linter.unusedSimpArgs false
namespace Go.Hw
open Go
variable {P : Program} {N m : Nat} {S D : CallP} {b : Nat} {r : List Op} {e e' : Env} {h h' : Heap} {Q : Env → Heap → Prop} {QQ : Ex → Env → Heap → Prop} {d : Nat} {x y z : X}

end Go.Hw

set_option linter.unusedVariables false
set_option linter.unusedSimpArgs false
namespace Go.Hw
open Go
variable {P : Program} {N m : Nat} {S D : CallP} {b : Nat} {r : List Op} {e e' : Env} {h h' : Heap} {Q : Env → Heap → Prop} {QQ : Ex → Env → Heap → Prop} {d : Nat} {x y z : X}

theorem pv_nil : PV (.list [] .full) := .list _ _ (by simp) (by simp [flat])
@[reducible] def oo (d : Nat) (x : O) : Op := ⟨some d, .op x, none⟩
@[reducible] def os (x : O) : Op := ⟨none, .op x, none⟩
@[reducible] def og (d : Nat) (x : O) (t : Nat) (b : Bool) : Op := ⟨some d, .op x, some (t, b)⟩
@[reducible] def co (d : Nat) (x : OC) : Op := ⟨some d, x, none⟩
@[reducible] def cs (x : OC) : Op := ⟨none, x, none⟩
@[reducible] def cg (d : Nat) (x : OC) (t : Nat) (b : Bool) : Op := ⟨some d, x, some (t, b)⟩
theorem q_reg {ops : List Op} {keep : List Nat} {q : C} (k : HO (HCalls P) 0 ops e h (Fin (SeqS P N m q QQ) keep)) : SC P N m (.seq (.reg ops keep) q) QQ e h := sc_seq (s_reg k)
theorem g_endq {keep : List Nat} {q : C} (e' : Env) (hp : prune e keep = e') (k : SC P N m q QQ e' h) : HO S b [] e h (Fin (SeqS P N m q QQ) keep) := g_end e' hp k

def RenFL (σ : List Nat) : List HV → List HV → Prop
  | [], [] => True
  | x :: xs, y :: ys => Ren σ x y ∧ RenFL σ xs ys
  | _, _ => False
theorem RenFL.get {σ : List Nat} : ∀ {xs ys : List HV}, RenFL σ xs ys → xs.length = ys.length ∧ ∀ (j : Nat) (x y : HV), xs[j]? = some x → ys[j]? = some y → Ren σ x y
  | [], [], _ => ⟨rfl, fun j x y h => by simp at h⟩
  | x :: xs, y :: ys, ⟨h1, h2⟩ => by
    obtain ⟨h3, h4⟩ := h2.get
    refine ⟨by simp [h3], fun j u v h5 h6 => ?_⟩
    cases j with
    | zero => simp at h5 h6; subst h5; subst h6; exact h1
    | succ j => simp at h5 h6; exact h4 j u v h5 h6
theorem Ren.fn {σ : List Nat} {f : FuncId} {xs ys : List HV} (h : RenFL σ xs ys) : Ren σ (.func f xs) (.func f ys) := .func f xs ys h.get.1 h.get.2

def SubD (P : Program) (S : CallP) (f : FuncId) : Prop := ∀ as h R, DCalls P f as h R → S f as h R
def SubH (P : Program) (S : CallP) (f : FuncId) : Prop := ∀ as h R, HCalls P f as h R → S f as h R
theorem dh {f : FuncId} : SubD P (HCalls P) f := fun _ _ _ h => DCalls.sub h
theorem dd {f : FuncId} : SubD P (DCalls P) f := fun _ _ _ h => h
theorem hh {f : FuncId} : SubH P (HCalls P) f := fun _ _ _ h => h
theorem hm {acts : List FuncId} {f : FuncId} (hf : acts.contains f = true) : SubH P (MCalls P acts) f := fun as h R hd => by
  unfold MCalls
  rw [if_pos hf]
  exact hd
theorem k_call {f : FuncId} (hS : SubD P S f) {xs : List X} {vs as : List HV} {A : Type} {g : A → HV} {K : A → Prop} (hx : evs e xs = some vs) (ha : vs.map HV.strip1 = as) (hw : ∃ a, PCall P f as (g a) ∧ K a) (k : ∀ a, K a → HO S b r ((d, g a) :: e) h Q) : HO S b (⟨some d, .call f xs, none⟩ :: r) e h Q := by
  obtain ⟨a, h1, h2⟩ := hw
  subst ha
  refine ⟨?_⟩
  simp only [hops, hcall, hx]
  exact hS _ _ _ ⟨_, h1, (k a h2).out⟩
end Go.Hw

set_option linter.unusedVariables false
set_option linter.unusedSimpArgs false
namespace Go.Hw
open Go
variable {P : Program}
def RetS2 (rs : List RS) (m : Nat) (R : HV → Heap → Prop) : Ex → Env → Heap → Prop := fun q e h => (q = .normal ∨ q = .ret) ∧ ∃ vs, resVals2 e h rs = some vs ∧ ∃ ws h', ws.length = vs.length ∧ WeakF m (argEnv vs) h (argEnv ws) h' ∧ R (retV ws) h'
theorem argEnvFrom_get : ∀ (l : List HV) (i j : Nat) (x : HV), l[j]? = some x → Env.get (argEnvFrom i l) (i + j) = some x
  | [], i, j, x, h => by simp at h
  | y :: r, i, 0, x, h => by simp at h; subst h; simp [argEnvFrom, Env.get]
  | y :: r, i, j + 1, x, h => by
    simp only [argEnvFrom, Env.get]
    rw [if_neg (by omega), show i + (j + 1) = i + 1 + j by omega]
    exact argEnvFrom_get r (i + 1) j x (by simpa using h)
theorem sc_func2 {f : FuncId} {fn : Func} {code : Code} {c : C} {ann : Ann} {rs : List RS} {args : List HV} {h : Heap} {R : HV → Heap → Prop} (hf : P.funcs[f]? = some fn) (hb : fn.body = some code) (hn : fn.name ≠ "runtime.NumGoroutine")
    (hres : resTags P fn.results.toList = some rs) (hargs : args.length ≤ fn.ntmps) (hc : comp P ann fn.ntmps code = some c)
    (hw : SC P fn.ntmps h.length c (RetS2 rs h.length R) (argEnv args) h) : HCalls P f args h R := by
  refine ⟨⟨fn, hf, by rw [hb]; rfl, hn⟩, fun K w vs hh hl hv => ?_⟩
  refine calls_of_wp hf hb (wp_mono (hw ann code hc K w K w _ (base_of hh) (.refl K w) ⟨hh, fun t x hx => ?_, ?_, rfl⟩) ?_)
  · obtain ⟨_, h2⟩ := argEnv_get args 0 t x hx
    simp only [Nat.sub_zero] at h2
    have hlt := lt_of_get h2
    obtain ⟨v, hvt⟩ := get_of_lt (l := vs) (j := t) (by omega)
    have : (vs.toArray ++ Array.replicate (fn.ntmps - vs.toArray.size) undef).getD t undef = v := by
      rw [Array.getD_eq_getD_getElem?, Array.getElem?_append_left (by simp; omega)]
      simp [hvt]
    rw [this]
    exact hv t x v h2 hvt
  · simp; omega
  · rintro ex a' w' ⟨q, K1, e1, h1, rfl, s1, r1, hq, xs, hxs, ys, h', hlen, hwk, hR⟩
    obtain ⟨us, k1, k2, k3, k4⟩ := res_run (P := P) r1 hres hxs
    obtain ⟨K', s, hr'⟩ := hwk us.length K w K1 w' { a' with tmps := us.toArray } (base_of hh) s1 ⟨r1.heap, fun t x hx => by
      obtain ⟨_, h2⟩ := argEnv_get xs 0 t x hx
      simp only [Nat.sub_zero] at h2
      have hlt := lt_of_get h2
      obtain ⟨v, hvt⟩ := get_of_lt (l := us) (j := t) (by omega)
      have : us.toArray.getD t undef = v := by simp [Array.getD_eq_getD_getElem?, hvt]
      show _root_.Go.Hw.V K1 w' x (us.toArray.getD t undef)
      rw [this]
      exact k4 t x v h2 hvt, by simp, r1.defers⟩
    have k4' : ∀ (j : Nat) (x : HV) (u : Value), ys[j]? = some x → us[j]? = some u → V K' w' x u := by
      intro j x u hx hu
      have h2 := argEnvFrom_get ys 0 j x hx
      rw [Nat.zero_add] at h2
      have h3 := hr'.env j x h2
      have : us.toArray.getD j undef = u := by simp [Array.getD_eq_getD_getElem?, hu]
      rw [show ({ a' with tmps := us.toArray } : Act).tmps = us.toArray from rfl, this] at h3
      exact h3
    have hrun : (results fn a'.tmps).run P w' = .ok (packV us) w' := by
      have he : results fn a'.tmps = (do
          let vs ← fn.results.mapM (resOf a'.tmps)
          pure (if h : vs.size = 1 then vs[0] else .tuple vs)) := rfl
      have hr2 : fn.results = fn.results.toList.toArray := by simp
      have hm : (fn.results.mapM (resOf a'.tmps)).run P w' = .ok us.toArray w' := by
        rw [hr2]
        simp only [List.mapM_toArray, Sem.run_map, k1, Result.andThen_ok]
      rw [he]
      simp only [Sem.run_bind, hm, Result.andThen_ok, Sem.run_pure]
      congr 1
      cases us with
      | nil => rfl
      | cons x r =>
        cases r with
        | nil => rfl
        | cons y r => simp [packV]
    have hV : V K' w' (retV ys) (packV us) := by
      have hall : V K' w' (.tuple ys) (.tuple us.toArray) := V.tuple ys us (by omega) k4'
      cases us with
      | nil =>
        cases ys with
        | nil => exact hall
        | cons _ _ => simp at hlen k2 k3; omega
      | cons t r =>
        cases ys with
        | nil => simp at hlen k2 k3; omega
        | cons u xs =>
          cases r with
          | nil =>
            cases xs with
            | nil => exact k4' 0 u t rfl rfl
            | cons _ _ => simp at hlen k2 k3; omega
          | cons t2 r =>
            cases xs with
            | nil => simp at hlen k2 k3; omega
            | cons u2 us => exact hall
    rcases hq with rfl | rfl
    · exact ⟨r1.defers, _, hrun, _, _, K', h', rfl, s, hr'.heap, hV, hR⟩
    · exact ⟨r1.defers, _, hrun, _, _, K', h', rfl, s, hr'.heap, hV, hR⟩

theorem p_func2 {f : FuncId} {fn : Func} {code : Code} {c : C} {ann : Ann} {rs : List RS} {args : List HV} {A : Type} {g : A → HV} {a : A} (hf : P.funcs[f]? = some fn) (hb : fn.body = some code) (hn : fn.name ≠ "runtime.NumGoroutine")
    (hres : resTags P fn.results.toList = some rs) (hargs : args.length ≤ fn.ntmps) (hc : comp P ann fn.ntmps code = some c) (hpv : ∀ x ∈ args, PV x) (hpr : PV (g a)) (hs : (g a).strip1 = g a)
    (hw : SC P fn.ntmps 0 c (RetS2 rs 0 fun x h' => x = g a ∧ h' = []) (argEnv args) []) : PCall P f args (g a) :=
  ⟨hpv, hpr, (sc_func2 (h := []) hf hb hn hres hargs hc hw).mono fun x _ ⟨h1, _⟩ => by rw [h1, hs]⟩
variable {m : Nat} {e : Env} {h : Heap}
theorem g_hret3 {A : Type} {a r0 : A} {g : A → HV} {ho : A → Heap} {rs : List RS} {ex : Ex} {vs ws : List HV} (ha : a = r0) (hq : ex = .normal ∨ ex = .ret) (hv : resVals2 e h rs = some vs) (e1 e2 : Env) (h1 : argEnv vs = e1) (h2 : argEnv ws = e2) (hl : ws.length = vs.length) (hk : WeakF m e1 h e2 (ho a)) (hf : retV ws = g a) : RetS2 rs m (fun x h' => x = g r0 ∧ h' = ho r0) ex e h := by
  subst ha; subst h1; subst h2
  exact ⟨hq, vs, hv, ws, ho a, hl, hk, hf, rfl⟩
end Go.Hw

