import Derived.Shelf.Strings.Builder1
import Derived.Test.YtcenjonbenlfkaaDoorHwSep
set_option linter.unusedVariables false
set_option linter.unusedSimpArgs false
namespace Go.Hw
open Go Go.Shelf Go.RowKit Go.Proofs
variable {P : Program} {ρ : _root_.Go.Shelf.Ren}

structure WKeeps (w w' : World) (S : Nat → Prop) : Prop where
  os : w'.os = w.os
  tape : w'.tape = w.tape
  output : w'.output = w.output
  size : w.heap.size ≤ w'.heap.size
  block : ∀ k, k < w.heap.size → ¬ S k → w'.heap[k]? = w.heap[k]?
theorem WKeeps.refl (w : World) (S : Nat → Prop) : WKeeps w w S := ⟨rfl, rfl, rfl, Nat.le_refl _, fun _ _ _ => rfl⟩
theorem WKeeps.trans {a b c : World} {S : Nat → Prop} (h : WKeeps a b S) (k : WKeeps b c S) : WKeeps a c S :=
  ⟨k.os.trans h.os, k.tape.trans h.tape, k.output.trans h.output, Nat.le_trans h.size k.size, fun i hi hs => (k.block i (Nat.lt_of_lt_of_le hi h.size) hs).trans (h.block i hi hs)⟩
theorem WKeeps.sub {a b : World} {S T : Nat → Prop} (h : WKeeps a b S) (hs : ∀ k, S k → T k) : WKeeps a b T := ⟨h.os, h.tape, h.output, h.size, fun k hk ht => h.block k hk fun h => ht (hs k h)⟩
theorem WKeeps.below {w w' : World} (h : Below w.heap.size w w') (S : Nat → Prop) : WKeeps w w' S := ⟨h.os, h.tape, h.output, h.size, fun k hk _ => h.block k hk⟩
theorem WKeeps.setCell (w : World) (p : Addr) (v : Value) {S : Nat → Prop} (hp : S p.block) : WKeeps w (w.setCell p v) S :=
  ⟨rfl, rfl, rfl, by simp [World.setCell], fun k _ hk => Below.heap_setCell _ _ _ _ (fun e => hk (by rw [e]; exact hp))⟩

abbrev selfV (b : Nat) : Value := .pointer (some ⟨b, 0, none⟩)
theorem bld_check (L : Lays.n240 P ρ) (X : Builder.X72 P ρ) (b : Nat) (p v : Value) (w : World) (hb : w.heap[b]? = some (.cells #[p, v] (ρ.t 72) (0, 0))) (hp : p = .pointer none ∨ p = selfV b) :
    Calls P (ρ.f 240) #[selfV b] w fun e w' => e = .returned (.tuple #[]) ∧ w'.heap[b]? = some (.cells #[selfV b, v] (ρ.t 72) (0, 0)) ∧ WKeeps w w' (fun k => k = b) := by
  have h0 : w.cell? ⟨b, 0, none⟩ = some p := by rw [Lib.cell_of_heap hb]; rfl
  rcases hp with rfl | rfl
  · refine (Any.Builder_copyCheck_fresh L X b w h0 (by simp [World.shape?, hb]) (Lib.frozen_of_heap hb 0)).mono ?_
    rintro e w' ⟨rfl, rfl⟩
    exact ⟨rfl, by simp [World.setCell, Array.getElem?_modify, hb], .setCell w ⟨b, 0, none⟩ _ rfl⟩
  · refine (Any.Builder_copyCheck_used L X b w h0).mono ?_
    rintro e w' ⟨rfl, rfl⟩
    exact ⟨rfl, hb, .refl _ _⟩

theorem room_alloc (w : World) (o : Obj) {g n : Nat} (h : RoomAt w g n) : RoomAt (w.drew.alloc o) g n := by
  obtain ⟨c, e, fr, h1, h2⟩ := h
  have hlt : g < w.heap.size := by
    rcases Nat.lt_or_ge g w.heap.size with h | h
    · exact h
    · rw [Array.getElem?_eq_none h] at h1; cases h1
  exact ⟨c, e, fr, by rw [Lib.alloc_old w.drew o g hlt]; exact h1, h2⟩
theorem append_where {t u ty e : TypeId} {i : TypeInfo} (w : World) (ht : P.underlying t = some (.slice e)) (hu : P.underlying u = some .string) (hi : P.info? e = some i) (hz : i.zero = some (.int .u8 0)) (hsize : i.size = 1) (hby : i.bytes = 1)
    (v : Value) (n : Nat) (xs : List Value) (hown : w.ownsRow 0 e 1 v n xs) (s : ByteArray) (hfit : n + s.size ≤ 140737488355328) {v' : Value} {w' : World}
    (hr : (Builtin.append_ #[t, u] ty #[v, .string s]).run P w = .ok v' w') : (∀ g, v'.ownBlock = some g → v.ownBlock = some g ∨ w.heap.size ≤ g) ∧ ∀ g n, RoomAt w g n → RoomAt w' g n := by
  have hxl : xs.length = n := by simpa using hown.1
  rcases hown.2 with ⟨rfl, rfl⟩ | ⟨g, cap, cur, rfl, hbg, hg, hnc, hcm, hcs, htake⟩
  · by_cases hm : s.size = 0
    · have hf := Lib.run_firstCells_string (P := P) w 1 s
      rw [hm] at hf
      have : (Builtin.append_ #[t, u] ty #[.slice none 0 0, .string s]).run P w = .ok (.slice none 0 0) w := by
        simp [Builtin.append_, run_underlying ht, run_underlying hu, sizeOf, typeInfo, hi, hsize, Builtin.lenOf, hm, hf]
      rw [this] at hr
      injection hr with h1 h2
      subst h1; subst h2
      exact ⟨fun g hg => by simp [Value.ownBlock] at hg, fun _ _ h => h⟩
    · have := run_append_nil_string (P := P) w t u ty e i (.int .u8 0) ht hu hi hz s (by omega) (by omega) (by rw [hby]; omega)
      rw [this] at hr
      injection hr with h1 h2
      subst h1; subst h2
      exact ⟨fun g hg => by simp [Value.ownBlock] at hg; exact .inr (by omega), fun _ _ h => room_alloc _ _ h⟩
  · by_cases hroom : n + s.size ≤ cap
    · have := Lib.run_append_room_string (P := P) w t u ty e i ht hu hi hsize g n cap cur hg s hroom (by rw [hcs, Nat.mul_one]; exact hroom)
      rw [this] at hr
      injection hr with h1 h2
      subst h1; subst h2
      refine ⟨fun g' hg' => .inl (by simpa [Value.ownBlock] using hg'), fun g' n h => ?_⟩
      obtain ⟨c, e', fr, h1, h2⟩ := h
      by_cases hgg : g' = g
      · subst hgg
        rw [hg] at h1
        injection h1 with h1
        injection h1 with h1 _ _
        subst h1
        refine ⟨_, e, (0, 0), setRow_heap w g' cur _ e _ hg, ?_⟩
        simp only [List.size_toArray, List.length_append, List.length_take, List.length_drop, Array.length_toList, Lib.strCells_length]
        omega
      · exact ⟨c, e', fr, by rw [setRow_other w g g' _ hgg]; exact h1, h2⟩
    · have holds : ∀ j u, xs[j]? = some u → w.cell? ((⟨g, 0, none⟩ : Addr).add j) = some u := hown.cells (g := g) rfl
      have := Lib.run_append_grow_string (P := P) w t u ty e i (.int .u8 0) ht hu hi hz ⟨g, 0, none⟩ n cap xs (by rw [hsize]; simpa using hxl) holds s (by omega) (by omega) (by rw [hby]; exact growslice_fits (by omega) (by omega))
      rw [this] at hr
      injection hr with h1 h2
      subst h1; subst h2
      exact ⟨fun g' hg' => by simp [Value.ownBlock] at hg'; exact .inr (by omega), fun _ _ h => room_alloc _ _ h⟩
theorem wp_append {ops : Array Oper} {rest : List Oper} {o : Oper} {a : Act} {Q : Exit → Act → World → Prop} {w : World} (hgd : o.guard = none) (sl x : Operand) (t u : TypeId)
    (ho : o.op = .call { callee := .builtin .append, args := #[sl, x], argTypes := #[t, u] })
    (e : TypeId) (i : TypeInfo) (ht : P.underlying t = some (.slice e)) (hu : P.underlying u = some .string) (hi : P.info? e = some i) (hz : i.zero = some (.int .u8 0))
    (hsize : i.size = 1) (hby : i.bytes = 1)
    (v : Value) (n : Nat) (xs : List Value) (hs : a.eval sl = v) (hown : w.ownsRow 0 e 1 v n xs) (s : ByteArray) (hx : a.eval x = .string s)
    (hbytes : n + s.size ≤ 140737488355328)
    (h : ∀ v' w', w'.ownsRow 0 e 1 v' (n + s.size) (xs ++ Lib.strCells s) → w.grownBy w' v.ownBlock → (∀ g, v'.ownBlock = some g → v.ownBlock = some g ∨ w.heap.size ≤ g) → (v' = .slice none 0 0 → v = .slice none 0 0) → (∀ g n, RoomAt w g n → RoomAt w' g n) → wpList P ops Q rest (a.put o.dst v') w') : wpList P ops Q (o :: rest) a w := by
  refine wpList_plain hgd fun K hK => ?_
  obtain ⟨v', w', hr, h2, h3, h4⟩ := Lib.run_append_own_string (P := P) w 0 t u o.type e i ht hu hi hz hsize hby v n xs hown s (by unfold maxLen; omega) hbytes (Nat.zero_le _)
  have h5 := append_where w ht hu hi hz hsize hby v n xs hown s hbytes hr
  unfold Oper.wp execOp
  simp only [ho, resolve, invoke, builtin, Sem.run_bind, Sem.run_pure, Result.andThen_ok, List.map_toArray, List.map_cons, List.map_nil, hs, hx, hr]
  exact hK _ _ (h v' w' h2 h3 h5.1 (fun e => (h4.1 e).1) h5.2)

set_option maxHeartbeats 2000000 in
set_option maxRecDepth 100000 in
theorem bld_write (L : Lays.n166 P ρ) (X : Builder.Extra P ρ) (b : Nat) (p v : Value) (bs : List Value) (s : ByteArray) (w : World) (hb : w.heap[b]? = some (.cells #[p, v] (ρ.t 72) (0, 0))) (hp : p = .pointer none ∨ p = selfV b)
    (hown : w.ownsRow 0 (ρ.t 5) 1 v bs.length bs) (hne : v.ownBlock ≠ some b) (hlen : bs.length + s.size ≤ 140737488355328) :
    Calls P (ρ.f 166) #[selfV b, .string s] w fun e w' => e = .returned (.tuple #[.int .i64 s.size, .nilIface]) ∧
      ∃ v', w'.heap[b]? = some (.cells #[selfV b, v'] (ρ.t 72) (0, 0)) ∧ w'.ownsRow 0 (ρ.t 5) 1 v' (bs ++ Lib.strCells s).length (bs ++ Lib.strCells s) ∧
        (∀ g, v'.ownBlock = some g → v.ownBlock = some g ∨ w.heap.size ≤ g) ∧ (v' = .slice none 0 0 → v = .slice none 0 0) ∧ (∀ g n, v.ownBlock = some g → RoomAt w g n → RoomAt w' g n) ∧ WKeeps w w' (fun k => k = b ∨ v.ownBlock = some k) := by
  obtain ⟨i0, hi, hz0, hz1, hz2⟩ := info_parts X.infoByte
  have mixed := L.mixed
  have t72 := L.t72; have a72 := L.a72; have z72 := L.z72; have v72 := L.v72; have u72 := run_underlying L.t72
  have t70 := L.t70; have a70 := L.a70; have z70 := L.z70; have v70 := L.v70; have u70 := run_underlying L.t70
  have t37 := L.t37; have a37 := L.a37; have z37 := L.z37; have v37 := L.v37; have u37 := run_underlying L.t37
  have t3 := L.t3; have a3 := L.a3; have z3 := L.z3; have v3 := L.v3; have u3 := run_underlying L.t3
  have t9 := L.t9; have a9 := L.a9; have z9 := L.z9; have v9 := L.v9; have u9 := run_underlying L.t9
  have t4 := L.t4; have a4 := L.a4; have z4 := L.z4; have v4 := L.v4; have u4 := run_underlying L.t4
  have t164 := L.t164; have a164 := L.a164; have z164 := L.z164; have v164 := L.v164; have u164 := run_underlying L.t164
  have t5 := X.t5; have a5 := X.a5; have z5 := X.z5; have v5 := X.v5; have u5 := run_underlying X.t5
  have e240 : ∀ args w, (callFunc (ρ.f 240) args).run P w = .ok (.enter (ρ.f 240) args) w := enters_of L.f240 (by kernel_rfl) rfl
  go_enter L.f166, Body.n166_ntmps ρ
  go_wp2_with (go_at_fn (ρ.f 240); refine (bld_check { L with } X.toX72 b p v _ hb hp).mono ?_)
  rintro e w1 ⟨rfl, hbk, hk1⟩
  have hown1 : w1.ownsRow 0 (ρ.t 5) 1 v bs.length bs := by
    refine hown.kept (row := some b) ⟨hk1.os, hk1.tape, hk1.output, hk1.size, fun k hk hs => hk1.block k hk fun e => hs (by rw [e])⟩ (.inr hne)
  have c0 : w1.cell? ⟨b, 0, none⟩ = some (.pointer (some ⟨b, 0, none⟩)) := by rw [Lib.cell_of_heap hbk]; rfl
  have c1 : w1.cell? ⟨b, 1, none⟩ = some v := by rw [Lib.cell_of_heap hbk]; rfl
  go_wp2_with (at_builtin; refine wp_append rfl _ _ (ρ.t 37) (ρ.t 9) rfl (ρ.t 5) i0 L.t37 L.t9 hi hz0 hz1 hz2 _ _ _ rfl hown1 s rfl hlen ?_)
  intro v' w2 hown' hgrow hwh hnil hrm
  have hlt : b < w1.heap.size := by
    rcases Nat.lt_or_ge b w1.heap.size with h' | h'
    · exact h'
    · simp [Array.getElem?_eq_none h'] at hbk
  have hb2 : w2.heap[b]? = some (.cells #[.pointer (some ⟨b, 0, none⟩), v] (ρ.t 72) (0, 0)) := by
    rw [hgrow.block b hlt (fun e => hne e.symm)]
    exact hbk
  have d0 : w2.cell? ⟨b, 0, none⟩ = some (.pointer (some ⟨b, 0, none⟩)) := by rw [Lib.cell_of_heap hb2]; rfl
  have d1 : w2.cell? ⟨b, 1, none⟩ = some v := by rw [Lib.cell_of_heap hb2]; rfl
  have f1 : w2.frozen? ⟨b, 1, none⟩ = false := Lib.frozen_of_heap hb2 1
  obtain ⟨ao, n', cap, rfl⟩ : ∃ ao n' cap, v' = .slice ao n' cap := by
    rcases hown'.2 with ⟨hv, _⟩ | ⟨g, cap, cur, hv, _⟩
    · exact ⟨_, _, _, hv⟩
    · exact ⟨_, _, _, hv⟩
  go_wp2
  go_ret2
  have hsz := hk1.size
  obtain ⟨_, v2, h1, h2, h3⟩ := Lib.BuilderAt.put (T := (ρ.t 72)) (e := (ρ.t 5)) (Nat.zero_le b) hb2 (bs' := bs ++ Lib.strCells s) (by simpa [Lib.strCells_length] using hown') X.neB5
  have h4 : (w2.setCell ⟨b, 1, none⟩ (.slice ao n' cap)).heap[b]? = some (.cells #[selfV b, .slice ao n' cap] (ρ.t 72) (0, 0)) := by simp [World.setCell, Array.getElem?_modify, hb2]
  have h5 : v2 = .slice ao n' cap := by
    have := h1.symm.trans h4
    simp at this
    exact this
  subst h5
  refine ⟨rfl, _, h4, h2, fun g hg => ?_, hnil, fun g n hg hr => ?_, ?_⟩
  · rcases hwh g hg with h | h
    · exact .inl h
    · exact .inr (by omega)
  · have hgb : g ≠ b := fun e => hne (e ▸ hg)
    obtain ⟨c, e, fr, k1, k2⟩ := hr
    have hglt : g < w.heap.size := by
      rcases Nat.lt_or_ge g w.heap.size with h | h
      · exact h
      · rw [Array.getElem?_eq_none h] at k1; cases k1
    obtain ⟨c, e, fr, k1, k2⟩ := hrm g n ⟨c, e, fr, by rw [hk1.block g hglt hgb]; exact k1, k2⟩
    exact ⟨c, e, fr, by rw [Below.heap_setCell _ _ _ _ hgb]; exact k1, k2⟩
  · refine ((hk1.sub fun k h => .inl h).trans ?_).trans (.setCell w2 _ _ (.inl rfl))
    exact ⟨hgrow.os, hgrow.tape, hgrow.output, hgrow.size, fun k hk hs => hgrow.block k hk fun e => hs (.inr e.symm)⟩

set_option maxHeartbeats 2000000 in
set_option maxRecDepth 100000 in
theorem bld_string (L : Lays.n169 P ρ) (X : Builder.Extra P ρ) (b : Nat) (p v : Value) (l : List UInt8) (w : World) (hb : w.heap[b]? = some (.cells #[p, v] (ρ.t 72) (0, 0))) 
    (hown : w.ownsRow 0 (ρ.t 5) 1 v l.length (Lib.byteCells l)) :
    Calls P (ρ.f 169) #[selfV b] w fun e w' => e = .returned (.string ⟨l.toArray⟩) ∧ WKeeps w w' (fun k => v.ownBlock = some k) ∧ ∀ g n, v.ownBlock = some g → RoomAt w g n → RoomAt w' g n := by
  have low : ∀ {w'}, Below w.heap.size w w' → WKeeps w w' (fun k => v.ownBlock = some k) ∧ ∀ g n, v.ownBlock = some g → RoomAt w g n → RoomAt w' g n := fun h => by
    refine ⟨.below h _, fun g n _ hr => ?_⟩
    obtain ⟨c, e, fr, h1, h2⟩ := hr
    have hlt : g < w.heap.size := by
      rcases Nat.lt_or_ge g w.heap.size with h | h
      · exact h
      · rw [Array.getElem?_eq_none h] at h1; cases h1
    exact ⟨c, e, fr, by rw [h.block g hlt]; exact h1, h2⟩
  rcases hown.2 with ⟨rfl, hz⟩ | ⟨g, cap, cur, rfl, hbg, hg, hnc, hcm, hcs, htake⟩
  · obtain rfl : l = [] := List.eq_nil_of_length_eq_zero hz
    refine (Any.Builder_String_nil L X w.heap.size b p w hb).mono ?_
    rintro e w' ⟨rfl, hB⟩
    exact ⟨rfl, low hB⟩
  · by_cases hl0 : l = []
    · subst hl0
      by_cases hc : cap = 0
      · subst hc
        refine (Any.Builder_String_noroom L X w.heap.size b g p cur w (Nat.le_refl _) hb hg).mono ?_
        rintro e w' ⟨rfl, hB⟩
        exact ⟨rfl, low hB⟩
      · refine (Any.Builder_String_room L X w.heap.size b g cap p w hc hb).mono ?_
        rintro e w' ⟨rfl, hB⟩
        exact ⟨rfl, low hB⟩
    · have hll : l.length ≠ 0 := by simpa using hl0
      clear low
      have c1 : w.drew.cell? ⟨b, 1, none⟩ = some (.slice (some ⟨g, 0, none⟩) l.length cap) := by
        have : w.drew.heap[b]? = some (.cells #[p, .slice (some ⟨g, 0, none⟩) l.length cap] (ρ.t 72) (0, 0)) := hb
        rw [Lib.cell_of_heap this]; rfl
      have hSD : (Builtin.unsafeSliceData_ #[(ρ.t 37)] (ρ.t 127) #[.slice (some ⟨g, 0, none⟩) l.length cap]).run P w.drew = .ok (.pointer (some ⟨g, 0, none⟩)) w.drew :=
        Lib.run_unsafeSliceData_row _ _ _ _ _ _ (by omega)
      have hUS : (Builtin.unsafeString_ #[(ρ.t 127), (ρ.t 3)] (ρ.t 9) #[.pointer (some ⟨g, 0, none⟩), .int .i64 l.length]).run P w.drew = .ok (.string ⟨l.toArray⟩) (w.drew.freeze ⟨g, 0, none⟩ l.length) := by
        refine Lib.run_unsafeString_row w.drew (ρ.t 127) (ρ.t 3) (ρ.t 9) (ρ.t 5) L.t127 X.cellsByte g cur.size (by have hg' : w.drew.heap[g]? = some (.cells cur (ρ.t 5) (0, 0)) := hg; simp [World.shape?, hg']) l hl0 (by omega) (by unfold maxLen at hcm; omega) ?_
        intro j x hx
        have := hown.cells (g := g) rfl j (.int .u8 x.toNat) (by simp [Lib.byteCells, hx])
        exact this
      have mixed := L.mixed
      have t72 := L.t72; have a72 := L.a72; have z72 := L.z72; have v72 := L.v72; have u72 := run_underlying L.t72
      have t70 := L.t70; have a70 := L.a70; have z70 := L.z70; have v70 := L.v70; have u70 := run_underlying L.t70
      have t37 := L.t37; have a37 := L.a37; have z37 := L.z37; have v37 := L.v37; have u37 := run_underlying L.t37
      have t127 := L.t127; have a127 := L.a127; have z127 := L.z127; have v127 := L.v127; have u127 := run_underlying L.t127
      have t3 := L.t3; have a3 := L.a3; have z3 := L.z3; have v3 := L.v3; have u3 := run_underlying L.t3
      have t9 := L.t9; have a9 := L.a9; have z9 := L.z9; have v9 := L.v9; have u9 := run_underlying L.t9
      have t5 := X.t5; have a5 := X.a5; have z5 := X.z5; have v5 := X.v5; have u5 := run_underlying X.t5
      have fin : WKeeps w (w.drew.freeze ⟨g, 0, none⟩ l.length) (fun k => (Value.slice (some ⟨g, 0, none⟩) l.length cap).ownBlock = some k) ∧ ∀ g' n, (Value.slice (some ⟨g, 0, none⟩) l.length cap).ownBlock = some g' → RoomAt w g' n → RoomAt (w.drew.freeze ⟨g, 0, none⟩ l.length) g' n := by
        have hg1 : w.drew.heap[g]? = some (.cells cur (ρ.t 5) (0, 0)) := hg
        have hB := Lib.below_freeze (Below.drew (Below.refl 0 w)) (p := ⟨g, 0, none⟩) (Nat.zero_le _) l.length
        refine ⟨⟨hB.os, hB.tape, hB.output, hB.size, fun k hk hs => ?_⟩, fun g' n hg' hr => ?_⟩
        · have hne : g ≠ k := fun e => hs (by simp [Value.ownBlock, e])
          simp only [World.freeze, if_neg hll, Array.getElem?_modify, if_neg hne]
          rfl
        · obtain rfl : g = g' := by simpa [Value.ownBlock] using hg'
          obtain ⟨c, e, fr, h1, h2⟩ := hr
          rw [hg] at h1
          injection h1 with h1
          injection h1 with h1 h3 h4
          subst h1
          refine ⟨cur, ρ.t 5, (0, 0 + l.length), ?_, h2⟩
          simp only [World.freeze, if_neg hll, Array.getElem?_modify, if_pos rfl, hg1, Option.map_some]
          rfl
      go_enter L.f169, Body.n169_ntmps ρ
      go_wp2
      go_region_o
      all_goals (go_wp2; go_ret; exact ⟨rfl, fin⟩)
end Go.Hw

