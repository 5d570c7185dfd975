import Derived.Test.YtcenjonbenlfkaaDoorHwBld
set_option linter.unusedVariables false
set_option linter.unusedSimpArgs false
namespace Go.Hw
open Go Go.Shelf Go.RowKit Go.Proofs
variable {P : Program} {ρ : _root_.Go.Shelf.Ren}

theorem heap_re {K K' : GK} {h h' : Heap} {w w' : World} {S : Nat → Prop} (hh : HeapRel K h w) (kp : WKeeps w w' S) (hroom : ∀ b n, S b → RoomAt w b n → RoomAt w' b n)
    (e1 : K'.lim = K.lim) (e2 : K'.tb = K.tb) (e3 : K'.wm = K.wm) (r1 : ∀ id b, K.rho id = some b → K'.rho id = some b)
    (r2 : ∀ id b, K'.rho id = some b → K.rho id = some b ∨ (h.length ≤ id ∧ w.heap.size ≤ b ∧ b < w'.heap.size ∧ ∃ o', h'[id]? = some o' ∧ (Step K w K' w' → ObjOk K' w' b o')))
    (r3 : ∀ i j b, K'.rho i = some b → K'.rho j = some b → w.heap.size ≤ b → i = j)
    (hS : ∀ b, S b → ∃ id o, K.rho id = some b ∧ h[id]? = some o ∧ o.live)
    (hlen : h.length ≤ h'.length)
    (hchg : ∀ id o', h'[id]? = some o' → ((∀ n, o' ≠ .tok n) ∧ h.length ≤ id) ∨ h[id]? = some o' ∨ ((∀ n, o' ≠ .tok n) ∧ ∃ o, h[id]? = some o ∧ o.live ∧ ∃ b, K.rho id = some b ∧ S b))
    (hall : ∀ id o b, h[id]? = some o → o.live → K.rho id = some b → S b → ∃ o', h'[id]? = some o' ∧ (Step K w K' w' → ObjOk K' w' b o')) :
    Step K w K' w' ∧ HeapRel K' h' w' := by
  have hSlim : ∀ b, S b → K.lim b = 0 := fun b hb => by
    obtain ⟨id, o, h1, h2, h3⟩ := hS b hb
    obtain ⟨_, o2, h4, _, h5⟩ := hh.obj id b h1
    rw [h2] at h4; injection h4 with h4; subst h4
    exact h5 h3
  have hlt : ∀ {b c e fr}, w.heap[b]? = some (.cells c e fr) → b < w.heap.size := fun {b c e fr} hb => by
    rcases Nat.lt_or_ge b w.heap.size with h | h
    · exact h
    · rw [Array.getElem?_eq_none h] at hb; cases hb
  have st : Step K w K' w' := by
    refine ⟨kp.os, ⟨kp.tape, Nat.zero_le _⟩, kp.output, kp.size, fun b => by rw [e1]; exact Nat.le_refl _, fun k => by rw [e3]; exact Nat.le_refl _, fun k _ => ⟨by rw [e2], fun b _ => by rw [e1]⟩, r1, fun b i v hi hc => ?_, fun b n hr => ?_, fun b hb ho => ?_, fun b hb ho => ⟨?_, by rw [e1]⟩⟩
    · have hns : ¬ S b := fun hs => by rw [hSlim b hs] at hi; omega
      have hb := World.block_lt_of_cell? w _ hc
      rw [World.cell?_of_block (kp.block b hb hns)]; exact hc
    · by_cases hs : S b
      · exact hroom b n hs hr
      · obtain ⟨c, e, fr, g1, g2⟩ := hr
        exact ⟨c, e, fr, by rw [kp.block b (hlt g1) hs]; exact g1, g2⟩
    · rcases ho with ⟨id, h1⟩ | ⟨k, h1⟩
      · rcases r2 id b h1 with h1 | h1
        · exact .inl ⟨id, h1⟩
        · omega
      · exact .inr ⟨k, by rw [← e2]; exact h1⟩
    · refine kp.block b hb fun hs => ho ?_
      obtain ⟨id, o, h1, _⟩ := hS b hs
      exact .inl ⟨id, h1⟩
  have hin : ∀ {id b}, K.rho id = some b → id < h.length := fun {id b} hr => by
    obtain ⟨_, o, h1, _⟩ := hh.obj id b hr
    exact lt_of_get h1
  refine ⟨st, ⟨fun id b hr => ?_, fun i j b x y hi hj hx hy lx ly => ?_, fun k => ?_, fun k b hk => ?_, fun i j b => by rw [e2]; exact hh.tinj i j b, ⟨fun b hb => by rw [e1]; exact hh.limb b (Nat.le_trans kp.size hb), hh.limb.t.step st⟩⟩⟩
  · rcases r2 id b hr with hr0 | ⟨_, hb, hb2, o', ho, hok⟩
    · obtain ⟨hb, o, h1, h2, h3⟩ := hh.obj id b hr0
      obtain ⟨o', ho'⟩ := get_of_lt (l := h') (j := id) (Nat.lt_of_lt_of_le (hin hr0) hlen)
      refine ⟨Nat.lt_of_lt_of_le hb kp.size, ?_⟩
      by_cases hs : S b
      · obtain ⟨i0, o0, g1, g2, g3⟩ := hS b hs
        by_cases hol : o.live
        · obtain ⟨o2, k1, k2⟩ := hall id o b h1 hol hr0 hs
          exact ⟨o2, k1, k2 st, fun _ => by rw [e1]; exact hSlim b hs⟩
        · have hd : o = .dead := by
            cases o <;> first | rfl | exact absurd trivial hol | exact h2.elim
          subst hd
          rcases hchg id o' ho' with ⟨_, h⟩ | h | ⟨_, o2, k1, k2, _⟩
          · have := hin hr0; omega
          · rw [h1] at h; injection h with h; subst h
            exact ⟨.dead, ho', trivial, fun h => h.elim⟩
          · rw [h1] at k1; injection k1 with k1; subst k1; exact k2.elim
      · rcases hchg id o' ho' with ⟨_, h⟩ | h | ⟨_, o2, k1, k2, b2, k3, k4⟩
        · have := hin hr0; omega
        · rw [h1] at h; injection h with h; subst h
          exact ⟨o, ho', h2.keep st (kp.block b hb hs), fun hl => by rw [e1]; exact h3 hl⟩
        · rw [hr0] at k3; injection k3 with k3; subst k3; exact absurd k4 hs
    · exact ⟨hb2, o', ho, hok st, fun _ => by rw [e1]; exact hh.limb b hb⟩
  · have old : ∀ {i x}, K.rho i = some b → h'[i]? = some x → x.live → ∃ x', h[i]? = some x' ∧ x'.live := fun {i x} hi hx lx => by
      rcases hchg i x hx with ⟨_, h⟩ | h | ⟨_, o2, k1, k2, _⟩
      · have := hin hi; omega
      · exact ⟨x, h, lx⟩
      · exact ⟨o2, k1, k2⟩
    rcases r2 i b hi with hi0 | ⟨_, hb, _⟩
    · rcases r2 j b hj with hj0 | ⟨_, hb, _⟩
      · obtain ⟨x', hx', lx'⟩ := old hi0 hx lx
        obtain ⟨y', hy', ly'⟩ := old hj0 hy ly
        exact hh.inj i j b x' y' hi0 hj0 hx' hy' lx' ly'
      · exact r3 i j b hi hj hb
    · exact r3 i j b hi hj hb
  · rw [e3, hh.wm k]
    cases hk : h'[k]? with
    | none =>
      have : h'.length ≤ k := List.getElem?_eq_none_iff.1 hk
      rw [List.getElem?_eq_none (by omega)]
    | some o' =>
      rcases hchg k o' hk with ⟨h1, h2⟩ | h1 | ⟨h1, o, h2, h3, _⟩
      · rw [List.getElem?_eq_none h2]
        cases o' <;> first | rfl | exact absurd rfl (h1 _)
      · rw [h1]
      · rw [h2]
        cases o <;> first | (exact h3.elim) | (cases o' <;> first | rfl | exact absurd rfl (h1 _))
  · rw [e2] at hk
    obtain ⟨h1, ⟨n, h2⟩, h3, c, e, fr, h4, h5, h6⟩ := hh.tok k b hk
    have hns : ¬ S b := fun hs => by
      obtain ⟨id, o, g1, g2, g3⟩ := hS b hs
      exact h3 id o g1 g2 g3
    refine ⟨Nat.lt_of_lt_of_le h1 kp.size, ?_, fun id o' hid ho' => ?_, c, e, fr, by rw [kp.block b h1 hns]; exact h4, by rw [e1]; exact h5, h6⟩
    · obtain ⟨o', ho'⟩ := get_of_lt (l := h') (j := k) (Nat.lt_of_lt_of_le (lt_of_get h2) hlen)
      rcases hchg k o' ho' with ⟨_, g⟩ | g | ⟨_, o, g2, g3, _⟩
      · have := lt_of_get h2; omega
      · rw [h2] at g; injection g with g; subst g; exact ⟨n, ho'⟩
      · rw [h2] at g2; injection g2 with g2; subst g2; exact g3.elim
    · rcases r2 id b hid with hr0 | ⟨_, hb, _⟩
      · rcases hchg id o' ho' with ⟨_, g⟩ | g | ⟨_, o, g2, g3, b2, g4, g5⟩
        · have := hin hr0; omega
        · exact h3 id o' hr0 g
        · rw [hr0] at g4; injection g4 with g4; subst g4; exact absurd g5 hns
      · omega

structure BW where
  id : Nat
  row : Option Nat
  cap : Nat
  l : List UInt8
def BW.lay (T U : TypeId) (B : BW) : Lay := (B.id, .bld T B.row B.l.length B.cap) :: (match B.row with
  | some j => [(j, .brow U B.cap B.l)]
  | none => [])
def BW.new (id : Nat) : BW := ⟨id, none, 0, []⟩

theorem RoomAt.cells {w' : World} {b n : Nat} {c c' : Array Value} {e e' : TypeId} {fr fr' : Nat × Nat} {w : World} (h1 : w.heap[b]? = some (.cells c e fr)) (h2 : w'.heap[b]? = some (.cells c' e' fr')) (h3 : c.size ≤ c'.size) (h : RoomAt w b n) : RoomAt w' b n := by
  obtain ⟨c2, e2, f2, g1, g2⟩ := h
  rw [h1] at g1
  injection g1 with g1
  injection g1 with g1 _ _
  subst g1
  exact ⟨c', e', fr', h2, by omega⟩

theorem bw_read {K : GK} {h : Heap} {w : World} {T U : TypeId} {B : BW} {b : Nat} (hTU : T ≠ U) (hh : HeapRel K h w) (hs : Sep h (B.lay T U)) (hb : K.rho B.id = some b) :
    ∃ p v, w.heap[b]? = some (.cells #[p, v] T (0, 0)) ∧ (p = .pointer none ∨ p = selfV b) ∧ w.ownsRow 0 U 1 v B.l.length (Lib.byteCells B.l) ∧ v.ownBlock ≠ some b ∧
      (∀ g, v.ownBlock = some g → ∃ j, B.row = some j ∧ K.rho j = some g ∧ h[j]? = some (.brow U B.cap B.l)) ∧ (∀ j, B.row = some j → ∃ g, v.ownBlock = some g ∧ K.rho j = some g) := by
  obtain ⟨_, o, h1, h2, h3⟩ := hh.obj B.id b hb
  have g1 : h[B.id]? = some (.bld T B.row B.l.length B.cap) := hs.get (by simp [BW.lay])
  rw [g1] at h1; injection h1 with h1; subst h1
  cases hr : B.row with
  | none =>
    rw [hr] at h2
    obtain ⟨hl, _, p, h4, h5⟩ := h2
    have : B.l = [] := List.eq_nil_of_length_eq_zero hl
    refine ⟨p, _, h4, h5, by rw [this]; exact World.ownsRow_nil _ _ _ _, by simp [Value.ownBlock], fun g hg => by simp [Value.ownBlock] at hg, fun j hj => by cases hj⟩
  | some j =>
    rw [hr] at h2
    obtain ⟨g, hg, p, h4, h5⟩ := h2
    have g2 : h[j]? = some (.brow U B.cap B.l) := hs.get (by simp [BW.lay, hr])
    obtain ⟨_, o, k1, k2, k3⟩ := hh.obj j g hg
    rw [g2] at k1; injection k1 with k1; subst k1
    obtain ⟨c, k4, k5, k6, k7, k8⟩ := k2
    refine ⟨p, _, h4, h5, ⟨by simp [Lib.byteCells], .inr ⟨g, B.cap, c, rfl, Nat.zero_le _, k4, k6, k7, by omega, by rw [Nat.mul_one]; exact k8⟩⟩, ?_, fun g' hg' => ⟨j, rfl, ?_, g2⟩, fun j' hj' => ⟨g, rfl, ?_⟩⟩
    · intro e
      simp only [Value.ownBlock, Option.some.injEq] at e
      subst e
      rw [h4] at k4
      injection k4 with k4
      injection k4 with _ k4 _
      exact hTU k4
    · simp only [Value.ownBlock, Option.some.injEq] at hg'
      subst hg'; exact hg
    · injection hj' with hj'; subst hj'; exact hg

theorem set2_get {h : Heap} {i j k : Nat} {a b o : HObj} (hg : ((h.set i a).set j b)[k]? = some o) : (k = j ∧ o = b ∧ j < h.length) ∨ (k ≠ j ∧ k = i ∧ o = a ∧ i < h.length) ∨ (k ≠ j ∧ k ≠ i ∧ h[k]? = some o) := by
  have hk := lt_of_get hg
  simp only [List.length_set] at hk
  by_cases hj : k = j
  · subst hj
    rw [List.getElem?_set_self (by simpa using hk)] at hg
    injection hg with hg
    exact .inl ⟨rfl, hg.symm, hk⟩
  · rw [List.getElem?_set_ne (Ne.symm hj)] at hg
    by_cases hi : k = i
    · subst hi
      rw [List.getElem?_set_self hk] at hg
      injection hg with hg
      exact .inr (.inl ⟨hj, rfl, hg.symm, hk⟩)
    · rw [List.getElem?_set_ne (Ne.symm hi)] at hg
      exact .inr (.inr ⟨hj, hi, hg⟩)

set_option maxHeartbeats 1000000 in
theorem r_write (L : Lays.n166 P ρ) (X : Builder.Extra P ρ) (hfn : ∃ fn, P.funcs[ρ.f 166]? = some fn ∧ fn.body.isSome = true ∧ fn.name ≠ "runtime.NumGoroutine") {B : BW} {h : Heap} {R : Lay} {s : List UInt8} (hs : Sep h (B.lay (ρ.t 72) (ρ.t 5) ++ R)) (hlen : B.l.length + s.length ≤ 140737488355328)
    {Q : HV → Heap → Prop} (k : ∀ (B' : BW) (h' : Heap), B'.id = B.id → B'.l = B.l ++ s → Sep h' (B'.lay (ρ.t 72) (ρ.t 5) ++ R) → Q (.tuple [ii s.length, .nilif]) h') : HCalls P (ρ.f 166) [.ptr B.id 0, .str s] h Q := by
  refine ⟨hfn, fun K w vs hh hl hv => ?_⟩
  obtain ⟨u, v, rfl⟩ : ∃ u v, vs = [u, v] := by
    match vs, hl with
    | [u, v], _ => exact ⟨u, v, rfl⟩
  have h0 := hv 0 _ u rfl rfl
  have h1 := hv 1 _ v rfl rfl
  cases h1
  cases h0 with
  | ptr _ _ b hb =>
  obtain ⟨p, v, hbk, hp, hown, hne, hrow, hrow2⟩ := bw_read X.neB5 hh (hs.sub (List.sublist_append_left _ _)) hb
  have hBl : (Lib.byteCells B.l).length = B.l.length := Lib.byteCells_length _
  refine (bld_write L X b p v (Lib.byteCells B.l) ⟨s.toArray⟩ w hbk hp (by rw [hBl]; exact hown) hne (by rw [hBl]; exact hlen)).mono ?_
  rintro e w' ⟨rfl, v', hb', hown', hwh, hnn, hrm, kp⟩
  have hcat : Lib.byteCells B.l ++ Lib.strCells ⟨s.toArray⟩ = Lib.byteCells (B.l ++ s) := by rw [Lib.strCells_eq, Lib.byteCells_append]
  rw [hcat, Lib.byteCells_length] at hown'
  have hid : h[B.id]? = some (.bld (ρ.t 72) B.row B.l.length B.cap) := hs.get (by simp [BW.lay])
  have hidl := lt_of_get hid
  have hlive : ∀ {i g o}, K.rho i = some g → h[i]? = some o → o.live → (g = b → i = B.id) := fun {i g o} hi ho hlv e => by
    subst e; exact hh.inj i B.id g o _ hi hb ho hid hlv trivial
  have hbroom : ∀ n, RoomAt w b n → RoomAt w' b n := fun n => RoomAt.cells hbk hb' (by simp)
  have hret : V K w' (.tuple [ii s.length, .nilif]) (.tuple #[.int .i64 s.length, .nilIface]) := .tuple [ii s.length, .nilif] [.int .i64 s.length, .nilIface] rfl (fun j x y hx hy => by
    match j with
    | 0 => simp at hx hy; subst hx; subst hy; exact .int _ _
    | 1 => simp at hx hy; subst hx; subst hy; exact .nilif
    | j + 2 => simp at hx)
  have hsz : ((⟨s.toArray⟩ : ByteArray).size : Int) = (s.length : Int) := by simp [ByteArray.size]
  rw [hsz]
  have hS : ∀ g, (g = b ∨ v.ownBlock = some g) → ∃ id o, K.rho id = some g ∧ h[id]? = some o ∧ o.live := fun g hg => by
    rcases hg with rfl | hg
    · exact ⟨_, _, hb, hid, trivial⟩
    · obtain ⟨j, _, h2, h3⟩ := hrow g hg
      exact ⟨j, _, h2, h3, trivial⟩
  have hother : ∀ {g o i}, v.ownBlock = some g → K.rho i = some g → h[i]? = some o → o.live → B.row = some i := fun {g o i} hg hi ho hlv => by
    obtain ⟨j, h2, h3, h4⟩ := hrow g hg
    rw [h2, hh.inj i j g o _ hi h3 ho h4 hlv trivial]
  rcases hown'.2 with ⟨rfl, hz⟩ | ⟨g', cap', cur', rfl, _, hg', hnc', hcm', hcs', htake'⟩
  · -- nothing at all
    obtain rfl := hnn rfl
    have hnil : B.l ++ s = [] := List.eq_nil_of_length_eq_zero hz
    have hr : B.row = none := by
      cases hr : B.row with
      | none => rfl
      | some j =>
        obtain ⟨g, h1, _⟩ := hrow2 j hr
        simp [Value.ownBlock] at h1
    have hB0 : B.l.length = 0 := by simp [List.append_eq_nil_iff.1 hnil |>.1]
    have hcap0 : B.cap = 0 := by
      obtain ⟨_, o, h1, h2, _⟩ := hh.obj B.id b hb
      rw [hid, hr] at h1; injection h1 with h1; subst h1
      exact h2.2.1
    obtain ⟨st, hr'⟩ := heap_re (K' := K) (h' := h) hh kp (fun g n hg => by
        rcases hg with rfl | hg
        · exact hbroom n
        · simp [Value.ownBlock] at hg) rfl rfl rfl (fun _ _ h => h) (fun _ _ h => .inl h)
      (fun i j g hi hj hg => absurd (hh.obj i g hi).1 (by omega)) hS (Nat.le_refl _) (fun id o ho => .inr (.inl ho)) (fun id o g ho hlv hg hS' => by
        rcases hS' with rfl | hg2
        · obtain rfl := hlive hg ho hlv rfl
          rw [hid] at ho; injection ho with ho; subst ho
          exact ⟨_, hid, fun _ => by rw [hr]; exact ⟨hB0, hcap0, _, hb', .inr rfl⟩⟩
        · simp [Value.ownBlock] at hg2)
    refine ⟨_, _, K, h, rfl, st, hr', hret, k B h rfl (by rw [hnil]; exact List.append_eq_nil_iff.1 hnil |>.1) hs⟩
  · have hl2 : (Lib.byteCells (B.l ++ s)) = (B.l ++ s).map fun x => Value.int .u8 x.toNat := rfl
    have hbrow : ∀ w'' : World, w''.heap[g']? = some (.cells cur' (ρ.t 5) (0, 0)) → ∃ c, w''.heap[g']? = some (.cells c (ρ.t 5) (0, 0)) ∧ c.size = cap' ∧ (B.l ++ s).length ≤ cap' ∧ cap' ≤ 9223372036854775807 ∧ c.toList.take (B.l ++ s).length = (B.l ++ s).map fun x => Value.int .u8 x.toNat := fun w'' hw => by
      refine ⟨cur', hw, by omega, hnc', hcm', ?_⟩
      rw [← hl2, ← htake', Nat.mul_one]
    by_cases hv' : v.ownBlock = some g'
    · obtain ⟨j, hr, hjg, hj⟩ := hrow g' hv'
      have hne' : B.id ≠ j := fun e => by rw [e, hj] at hid; cases hid
      have hgb : g' ≠ b := fun e => hne (e ▸ hv')
      have hjl := lt_of_get hj
      obtain ⟨_, ov, ov1, ov2, ov3⟩ := hh.obj j g' hjg
      rw [hj] at ov1; injection ov1 with ov1; subst ov1
      obtain ⟨c0, ov4, ov5, _⟩ := ov2
      have hget1 : ((h.set B.id (.bld (ρ.t 72) (some j) (B.l ++ s).length cap')).set j (.brow (ρ.t 5) cap' (B.l ++ s)))[B.id]? = some (.bld (ρ.t 72) (some j) (B.l ++ s).length cap') := by
        rw [List.getElem?_set_ne (Ne.symm hne'), List.getElem?_set_self hidl]
      have hget2 : ((h.set B.id (.bld (ρ.t 72) (some j) (B.l ++ s).length cap')).set j (.brow (ρ.t 5) cap' (B.l ++ s)))[j]? = some (.brow (ρ.t 5) cap' (B.l ++ s)) := List.getElem?_set_self (by simpa using hjl)
      obtain ⟨st, hr'⟩ := heap_re (K' := K) (h' := (h.set B.id (.bld (ρ.t 72) (some j) (B.l ++ s).length cap')).set j (.brow (ρ.t 5) cap' (B.l ++ s))) hh kp (fun g n hg => by
          rcases hg with rfl | hg
          · exact hbroom n
          · exact hrm g n hg) rfl rfl rfl (fun _ _ h => h) (fun _ _ h => .inl h)
        (fun i j g hi hj hg => absurd (hh.obj i g hi).1 (by omega)) hS (by simp) (fun id o ho => by
          rcases set2_get ho with ⟨rfl, rfl, _⟩ | ⟨_, rfl, rfl, _⟩ | ⟨_, _, h3⟩
          · exact .inr (.inr ⟨fun n => by simp, _, hj, trivial, g', hjg, .inr hv'⟩)
          · exact .inr (.inr ⟨fun n => by simp, _, hid, trivial, b, hb, .inl rfl⟩)
          · exact .inr (.inl h3)) (fun id o g2 ho hlv hg hS' => by
          rcases hS' with rfl | hg2
          · obtain rfl := hlive hg ho hlv rfl
            exact ⟨_, hget1, fun _ => ⟨g', hjg, _, hb', .inr rfl⟩⟩
          · have hri := hother hg2 hg ho hlv
            rw [hr] at hri; injection hri with hri; subst hri
            obtain rfl : g2 = g' := by rw [hv'] at hg2; injection hg2 with hg2; exact hg2.symm
            exact ⟨_, hget2, fun _ => hbrow w' hg'⟩)
      refine ⟨_, _, K, _, rfl, st, hr', hret, k ⟨B.id, some j, cap', B.l ++ s⟩ _ rfl rfl ?_⟩
      have he : B.lay (ρ.t 72) (ρ.t 5) = [(B.id, .bld (ρ.t 72) (some j) B.l.length B.cap), (j, .brow (ρ.t 5) B.cap B.l)] := by simp [BW.lay, hr]
      rw [he] at hs
      have s1 := Sep.set (A := []) (B := (j, .brow (ρ.t 5) B.cap B.l) :: R) hs (.bld (ρ.t 72) (some j) (B.l ++ s).length cap')
      exact Sep.set (A := [(B.id, .bld (ρ.t 72) (some j) (B.l ++ s).length cap')]) (B := R) s1 (.brow (ρ.t 5) cap' (B.l ++ s))
    · have hfresh : w.heap.size ≤ g' := (hwh g' rfl).resolve_left hv'
      have hglt : g' < w'.heap.size := by
        rcases Nat.lt_or_ge g' w'.heap.size with h | h
        · exact h
        · rw [Array.getElem?_eq_none h] at hg'; cases hg'
      have hKn : ∀ i, K.rho i = some g' → False := fun i hi => by have := (hh.obj i g' hi).1; omega
      have hKl : K.rho h.length = none := by
        cases hk : K.rho h.length with
        | none => rfl
        | some x => obtain ⟨_, o, h1, _⟩ := hh.obj _ _ hk; have := lt_of_get h1; omega
      -- the heap afterwards: the old row is given up
      have main : ∀ h1 : Heap, h1.length = h.length → h1[B.id]? = some (.bld (ρ.t 72) (some h.length) (B.l ++ s).length cap') →
          (∀ i o, h1[i]? = some o → h[i]? = some o ∨ i = B.id ∧ o = .bld (ρ.t 72) (some h.length) (B.l ++ s).length cap' ∨ B.row = some i ∧ o = .dead) → (∀ j, B.row = some j → h1[j]? = some .dead) →
          Sep h1 ((B.id, .bld (ρ.t 72) (some h.length) (B.l ++ s).length cap') :: R) →
          ∃ v x K' h', (Ending.returned (.tuple #[.int .i64 s.length, .nilIface])) = .returned v ∧ Step K w K' w' ∧ HeapRel K' h' w' ∧ V K' w' x v ∧ Q x h' := by
        intro h1 hl1 hg1 hch1 hd1 hs1
        have hgid : (h1 ++ [HObj.brow (ρ.t 5) cap' (B.l ++ s)])[B.id]? = some (.bld (ρ.t 72) (some h.length) (B.l ++ s).length cap') := by rw [List.getElem?_append_left (by omega)]; exact hg1
        have hgn : (h1 ++ [HObj.brow (ρ.t 5) cap' (B.l ++ s)])[h.length]? = some (.brow (ρ.t 5) cap' (B.l ++ s)) := by rw [List.getElem?_append_right (by omega), hl1]; simp
        obtain ⟨st, hr'⟩ := heap_re (K' := K.rhoAt h.length g') (h' := h1 ++ [.brow (ρ.t 5) cap' (B.l ++ s)]) hh kp (fun g n hg => by
            rcases hg with rfl | hg
            · exact hbroom n
            · exact hrm g n hg) rfl rfl rfl (fun i x hi => by
            simp only [GK.rhoAt]
            by_cases e : i = h.length
            · subst e; rw [hKl] at hi; cases hi
            · rw [if_neg e]; exact hi) (fun i x hi => by
            simp only [GK.rhoAt] at hi
            by_cases e : i = h.length
            · subst e
              rw [if_pos rfl] at hi
              injection hi with hi
              subst hi
              exact .inr ⟨Nat.le_refl _, hfresh, hglt, _, hgn, fun _ => hbrow w' hg'⟩
            · rw [if_neg e] at hi
              exact .inl hi) (fun i j x hi hj hx => by
            simp only [GK.rhoAt] at hi hj
            by_cases e1 : i = h.length
            · by_cases e2 : j = h.length
              · rw [e1, e2]
              · rw [if_neg e2] at hj
                have := (hh.obj j x hj).1; omega
            · rw [if_neg e1] at hi
              have := (hh.obj i x hi).1; omega) hS (by simp; omega) (fun id o ho => by
            rcases Nat.lt_or_ge id h.length with hlt | hge
            · rw [List.getElem?_append_left (by omega)] at ho
              rcases hch1 id o ho with h2 | ⟨rfl, rfl⟩ | ⟨h2, rfl⟩
              · exact .inr (.inl h2)
              · exact .inr (.inr ⟨fun n => by simp, _, hid, trivial, b, hb, .inl rfl⟩)
              · obtain ⟨g, h3, h4⟩ := hrow2 id h2
                obtain ⟨j, h5, h6, h7⟩ := hrow g h3
                rw [h2] at h5; injection h5 with h5; subst h5
                exact .inr (.inr ⟨fun n => by simp, _, h7, trivial, g, h4, .inr h3⟩)
            · have := lt_of_get ho
              simp at this
              obtain rfl : id = h.length := by omega
              rw [hgn] at ho; injection ho with ho; subst ho
              exact .inl ⟨fun n => by simp, Nat.le_refl _⟩) (fun id o g2 ho hlv hg hS' => by
            rcases hS' with rfl | hg2
            · obtain rfl := hlive hg ho hlv rfl
              exact ⟨_, hgid, fun _ => ⟨g', by simp [GK.rhoAt], _, hb', .inr rfl⟩⟩
            · have hri := hother hg2 hg ho hlv
              have := lt_of_get ho
              exact ⟨.dead, by rw [List.getElem?_append_left (by omega)]; exact hd1 id hri, fun _ => trivial⟩)
        refine ⟨_, _, K.rhoAt h.length g', _, rfl, st, hr', V.tuple [ii s.length, .nilif] [.int .i64 s.length, .nilIface] rfl (fun j x y hx hy => by
          match j with
          | 0 => simp at hx hy; subst hx; subst hy; exact .int _ _
          | 1 => simp at hx hy; subst hx; subst hy; exact .nilif
          | j + 2 => simp at hx), k ⟨B.id, some h.length, cap', B.l ++ s⟩ _ rfl rfl ?_⟩
        have := (hs1.new (.brow (ρ.t 5) cap' (B.l ++ s)))
        rw [hl1] at this
        exact this.perm (List.Perm.swap _ _ _)
      cases hr : B.row with
      | none =>
        have he : B.lay (ρ.t 72) (ρ.t 5) = [(B.id, .bld (ρ.t 72) none B.l.length B.cap)] := by simp [BW.lay, hr]
        rw [he] at hs
        refine main (h.set B.id (.bld (ρ.t 72) (some h.length) (B.l ++ s).length cap')) (by simp) (List.getElem?_set_self hidl) (fun i o ho => ?_) (fun j hj => by rw [hr] at hj; cases hj) (Sep.set (A := []) (B := R) hs _)
        by_cases hi : i = B.id
        · subst hi
          rw [List.getElem?_set_self hidl] at ho
          injection ho with ho
          exact .inr (.inl ⟨rfl, ho.symm⟩)
        · rw [List.getElem?_set_ne (Ne.symm hi)] at ho
          exact .inl ho
      | some j =>
        obtain ⟨g, hvg, hjg⟩ := hrow2 j hr
        have hj : h[j]? = some (.brow (ρ.t 5) B.cap B.l) := hs.get (by simp [BW.lay, hr])
        have hne' : B.id ≠ j := fun e => by rw [e, hj] at hid; cases hid
        have he : B.lay (ρ.t 72) (ρ.t 5) = [(B.id, .bld (ρ.t 72) (some j) B.l.length B.cap), (j, .brow (ρ.t 5) B.cap B.l)] := by simp [BW.lay, hr]
        rw [he] at hs
        have s1 := Sep.set (A := []) (B := (j, .brow (ρ.t 5) B.cap B.l) :: R) hs (.bld (ρ.t 72) (some h.length) (B.l ++ s).length cap')
        have s2 := Sep.set (A := [(B.id, .bld (ρ.t 72) (some h.length) (B.l ++ s).length cap')]) (B := R) s1 .dead
        refine main ((h.set B.id (.bld (ρ.t 72) (some h.length) (B.l ++ s).length cap')).set j .dead) (by simp) (by rw [List.getElem?_set_ne (Ne.symm hne'), List.getElem?_set_self hidl]) (fun i o ho => ?_) (fun j' hj' => ?_) (s2.sub ?_)
        · rcases set2_get ho with ⟨rfl, rfl, _⟩ | ⟨_, rfl, rfl, _⟩ | ⟨_, _, h3⟩
          · exact .inr (.inr ⟨hr, rfl⟩)
          · exact .inr (.inl ⟨rfl, rfl⟩)
          · exact .inl h3
        · rw [hr] at hj'; injection hj' with hj'; subst hj'
          exact List.getElem?_set_self (by simpa using lt_of_get hj)
        · exact List.Sublist.cons_cons _ (List.sublist_cons_self _ _)
theorem r_string (L : Lays.n169 P ρ) (X : Builder.Extra P ρ) (hfn : ∃ fn, P.funcs[ρ.f 169]? = some fn ∧ fn.body.isSome = true ∧ fn.name ≠ "runtime.NumGoroutine") {B : BW} {h : Heap} {R : Lay} (hs : Sep h (B.lay (ρ.t 72) (ρ.t 5) ++ R))
    {Q : HV → Heap → Prop} (k : ∀ (h' : Heap), Sep h' R → Q (.str B.l) h') : HCalls P (ρ.f 169) [.ptr B.id 0] h Q := by
  refine ⟨hfn, fun K w vs hh hl hv => ?_⟩
  obtain ⟨u, rfl⟩ : ∃ u, vs = [u] := by
    match vs, hl with
    | [u], _ => exact ⟨u, rfl⟩
  have h0 := hv 0 _ u rfl rfl
  cases h0 with
  | ptr _ _ b hb =>
  obtain ⟨p, v, hbk, hp, hown, hne, hrow, hrow2⟩ := bw_read X.neB5 hh (hs.sub (List.sublist_append_left _ _)) hb
  refine (bld_string L X b p v B.l w hbk hown).mono ?_
  rintro e w' ⟨rfl, kp, hrm⟩
  have hS : ∀ g, v.ownBlock = some g → ∃ id o, K.rho id = some g ∧ h[id]? = some o ∧ o.live := fun g hg => by
    obtain ⟨j, _, h2, h3⟩ := hrow g hg
    exact ⟨j, _, h2, h3, trivial⟩
  have hother : ∀ {g o i}, v.ownBlock = some g → K.rho i = some g → h[i]? = some o → o.live → B.row = some i := fun {g o i} hg hi ho hlv => by
    obtain ⟨j, h2, h3, h4⟩ := hrow g hg
    rw [h2, hh.inj i j g o _ hi h3 ho h4 hlv trivial]
  have main : ∀ h1 : Heap, h1.length = h.length → (∀ i o, h1[i]? = some o → h[i]? = some o ∨ B.row = some i ∧ o = .dead) → (∀ j, B.row = some j → h1[j]? = some .dead) → Sep h1 R →
      ∃ v x K' h', (Ending.returned (.string ⟨B.l.toArray⟩)) = .returned v ∧ Step K w K' w' ∧ HeapRel K' h' w' ∧ V K' w' x v ∧ Q x h' := by
    intro h1 hl1 hch1 hd1 hs1
    obtain ⟨st, hr'⟩ := heap_re (K' := K) (h' := h1) hh kp (fun g n hg => hrm g n hg) rfl rfl rfl (fun _ _ h => h) (fun _ _ h => .inl h)
      (fun i j g hi hj hg => absurd (hh.obj i g hi).1 (by omega)) hS (by omega) (fun id o ho => by
        rcases hch1 id o ho with h2 | ⟨h2, rfl⟩
        · exact .inr (.inl h2)
        · obtain ⟨g, h3, h4⟩ := hrow2 id h2
          obtain ⟨j, h5, h6, h7⟩ := hrow g h3
          rw [h2] at h5; injection h5 with h5; subst h5
          exact .inr (.inr ⟨fun n => by simp, _, h7, trivial, g, h4, h3⟩)) (fun id o g2 ho hlv hg hS' => by
        have hri := hother hS' hg ho hlv
        exact ⟨.dead, hd1 id hri, fun _ => trivial⟩)
    exact ⟨_, _, K, h1, rfl, st, hr', .str _, k h1 hs1⟩
  cases hr : B.row with
  | none =>
    exact main h rfl (fun i o ho => .inl ho) (fun j hj => by rw [hr] at hj; cases hj) (hs.sub (List.sublist_append_right _ _))
  | some j =>
    have hj : h[j]? = some (.brow (ρ.t 5) B.cap B.l) := hs.get (by simp [BW.lay, hr])
    have he : B.lay (ρ.t 72) (ρ.t 5) = [(B.id, .bld (ρ.t 72) (some j) B.l.length B.cap), (j, .brow (ρ.t 5) B.cap B.l)] := by simp [BW.lay, hr]
    rw [he] at hs
    have s2 := Sep.set (A := [(B.id, .bld (ρ.t 72) (some j) B.l.length B.cap)]) (B := R) hs .dead
    refine main (h.set j .dead) (by simp) (fun i o ho => ?_) (fun j' hj' => ?_) (s2.sub ?_)
    · by_cases hi : i = j
      · subst hi
        rw [List.getElem?_set_self (lt_of_get hj)] at ho
        injection ho with ho
        exact .inr ⟨hr, ho.symm⟩
      · rw [List.getElem?_set_ne (Ne.symm hi)] at ho
        exact .inl ho
    · rw [hr] at hj'; injection hj' with hj'; subst hj'
      exact List.getElem?_set_self (lt_of_get hj)
    · exact (List.sublist_cons_self _ _).trans (List.sublist_cons_self _ _)
end Go.Hw

