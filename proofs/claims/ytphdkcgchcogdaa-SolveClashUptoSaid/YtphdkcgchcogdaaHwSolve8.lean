import Derived.Test.YtphdkcgchcogdaaHwSolve7
set_option linter.unusedVariables false
set_option linter.unusedSimpArgs false
namespace Go.Hw.VE
open Go Go.Proofs Go.Shelf


def at1 {α : Type} (q : α → Bool) (l : List α) : Option α := if idxF q l < 0 then none else l[(idxF q l).toNat]?
theorem at1_cases {α : Type} (q : α → Bool) (l : List α) : (∃ (k : Nat) (a : α), idxF q l = k ∧ l[k]? = some a ∧ q a = true ∧ at1 q l = some a) ∨ (idxF q l = -1 ∧ at1 q l = none ∧ ∀ a ∈ l, q a = false) := by
  rcases first_idx q l with ⟨k, a, h1, h2, h3⟩ | h
  · have e := idx_found h1 h2 h3
    refine .inl ⟨k, a, e, h1, h2, ?_⟩
    unfold at1
    rw [e, if_neg (by omega)]
    simpa using h1
  · have e := idx_none h
    refine .inr ⟨e, ?_, h⟩
    unfold at1
    rw [e, if_pos (by omega)]
theorem at1_some {α : Type} {q : α → Bool} {l : List α} {a : α} (h : at1 q l = some a) : a ∈ l ∧ q a = true := by
  rcases at1_cases q l with ⟨k, b, _, h1, h2, h3⟩ | ⟨_, h1, _⟩
  · rw [h] at h3; injection h3 with h3; subst h3
    exact ⟨List.mem_of_getElem? h1, h2⟩
  · rw [h] at h1; cases h1
theorem s30 (p : Pk) (u : Us) : sp30 p u (decide (p.Name = u.Name), u) := by
  refine ok30 _ _ _ ?_
  unfold w30
  rintro _ rfl
  show (_, u) = _
  congr 1
  by_cases h : p.Name = u.Name <;> simp [h]
theorem s29_30 (l : List Pk) (u : Us) (hl : l.length ≤ 1000000) : sp29_30 l u (idxF (fun a => decide (a.Name = u.Name)) l, u) := by
  refine ok29_30 _ _ _ ?_
  unfold w29_30
  refine ⟨fun q1 q2 q3 v => q1 = u.Name ∧ q2 = u.Low ∧ q3 = u.High ∧ ∃ k : Nat, v = k ∧ k ≤ l.length ∧ ∀ (j : Nat) (b : Pk), j < k → l[j]? = some b → decide (b.Name = u.Name) = false, fun _ _ _ v => (l.length - v).toNat, ⟨rfl, rfl, rfl, 0, rfl, by omega, fun j b hj => by omega⟩, ?_⟩
  rintro _ _ _ v ⟨rfl, rfl, rfl, k, rfl, hk, hj⟩ t ht
  refine ⟨fun h1 => ?_, fun h1 => ?_⟩
  · have hlt : k < l.length := by rw [h1] at ht; have := of_decide_eq_true ht.symm; omega
    refine ⟨by omega, fun a ha => ?_⟩
    have ha' : l[k]? = some a := by simpa using ha
    refine ⟨_, s30 a u, fun he => ?_, fun hne => ⟨by simp only [R64]; omega, ?_⟩⟩
    · show ((k : Int), u) = _
      rw [idx_found ha' he hj]
    · rintro _ rfl
      refine ⟨⟨rfl, rfl, rfl, k + 1, by omega, by omega, fun j b hjk hb => ?_⟩, by dsimp only; omega⟩
      by_cases h2 : j = k
      · subst h2; rw [ha'] at hb; injection hb with hb; subst hb; exact hne
      · exact hj j b (by omega) hb
  · have hge : ¬ ((k : Int) < l.length) := by rw [h1] at ht; exact of_decide_eq_false ht.symm
    show ((-1 : Int), u) = _
    rw [idx_none fun a ha => ?_]
    obtain ⟨j, hj'⟩ := mem_get ha
    exact hj j a (by have := lt_of_get hj'; omega) hj'
def isM (p : Pk) (m : Md) : Bool := decide (m.Name = p.Name) && decide (m.Version = p.Version)
theorem s46 (m : Md) (p : Pk) : sp46 m p (isM p m, p) := by
  refine ok46 _ _ _ ?_
  unfold w46
  refine ⟨fun h => ?_, fun h => ?_⟩
  · rintro _ rfl
    show (_, p) = _
    congr 1
    by_cases h2 : m.Version = p.Version <;> simp [isM, h, h2]
  · show (false, p) = _
    simp [isM, h]
theorem s45 (l : List Md) (p : Pk) (hl : l.length ≤ 1000000) : sp45_46 l p (idxF (isM p) l, p) := by
  refine ok45_46 _ _ _ ?_
  unfold w45_46
  refine ⟨fun q1 q2 v => q1 = p.Name ∧ q2 = p.Version ∧ ∃ k : Nat, v = k ∧ k ≤ l.length ∧ ∀ (j : Nat) (b : Md), j < k → l[j]? = some b → isM p b = false, fun _ _ v => (l.length - v).toNat, ⟨rfl, rfl, 0, rfl, by omega, fun j b hj => by omega⟩, ?_⟩
  rintro _ _ v ⟨rfl, rfl, k, rfl, hk, hj⟩ t ht
  refine ⟨fun h1 => ?_, fun h1 => ?_⟩
  · have hlt : k < l.length := by rw [h1] at ht; have := of_decide_eq_true ht.symm; omega
    refine ⟨by omega, fun a ha => ?_⟩
    have ha' : l[k]? = some a := by simpa using ha
    refine ⟨_, s46 a p, fun he => ?_, fun hne => ⟨by simp only [R64]; omega, ?_⟩⟩
    · show ((k : Int), p) = _
      rw [idx_found ha' he hj]
    · rintro _ rfl
      refine ⟨⟨rfl, rfl, k + 1, by omega, by omega, fun j b hjk hb => ?_⟩, by dsimp only; omega⟩
      by_cases h2 : j = k
      · subst h2; rw [ha'] at hb; injection hb with hb; subst hb; exact hne
      · exact hj j b (by omega) hb
  · have hge : ¬ ((k : Int) < l.length) := by rw [h1] at ht; exact of_decide_eq_false ht.symm
    show ((-1 : Int), p) = _
    rw [idx_none fun a ha => ?_]
    obtain ⟨j, hj'⟩ := mem_get ha
    exact hj j a (by have := lt_of_get hj'; omega) hj'
def findR (l : List Md) (p : Pk) : Md × Bool := match at1 (isM p) l with | some m => (m, true) | none => (⟨[], 0, []⟩, false)
theorem s31 (l : List Md) (p : Pk) (hl : l.length ≤ 1000000) : sp31 l p (findR l p) := by
  refine ok31 _ _ _ ?_
  unfold w31
  refine ⟨_, s45 l p hl, fun h => ?_, fun h => ?_⟩
  · rcases at1_cases (isM p) l with ⟨k, a, h1, _⟩ | ⟨_, h2, _⟩
    · dsimp only at h; omega
    · simp only [findR, h2]
  · rcases at1_cases (isM p) l with ⟨k, a, h1, h2, h3, h4⟩ | ⟨h1, _, _⟩
    · dsimp only
      have hlt := lt_of_get h2
      rw [h1]
      refine ⟨by omega, fun b hb => ?_⟩
      have hb' : l[k]? = some b := by simpa using hb
      rw [h2] at hb'; injection hb' with hb'; subst hb'
      simp only [findR, h4]
    · dsimp only at h; omega
theorem s33 (a b : Pk) : sp33 a b (cmpS a.Name b.Name) := ok33 _ _ _ ⟨_, s25 _ _, rfl⟩
theorem s32 (l : List Pk) (hl : l.length ≤ 1000) (hN : ∀ p ∈ l, p.Name ∈ Nm5) (hA : Asc l) : sp32_33 l true := by
  refine ok32_33 _ _ ?_
  unfold w32_33
  refine ⟨by simp only [R64]; omega, ?_⟩
  rintro _ rfl
  refine ⟨fun v => v < l.length ∧ -1 ≤ v, fun v => v.toNat, by omega, ?_⟩
  rintro v ⟨h1, h2⟩
  refine ⟨fun h3 => ⟨by omega, fun a ha => ⟨by simp only [R64]; omega, ?_⟩⟩, fun _ => rfl⟩
  rintro _ rfl
  refine ⟨by omega, fun b hb => ?_⟩
  have hord : rk b.Name < rk a.Name := by
    obtain ⟨h4, rfl⟩ := List.getElem?_eq_some_iff.1 ha
    obtain ⟨h5, rfl⟩ := List.getElem?_eq_some_iff.1 hb
    exact List.pairwise_iff_getElem.1 hA _ _ h5 h4 (by omega)
  refine ⟨_, s33 a b, fun h => ?_, fun h => ⟨by simp only [R64]; omega, ?_⟩⟩
  · have := (rk_facts _ (hN a (List.mem_of_getElem? ha)) _ (hN b (List.mem_of_getElem? hb))).1.1 h
    omega
  · rintro _ rfl
    exact ⟨by omega, by dsimp only; omega⟩


def nmQ (u : Us) : Pk → Bool := fun a => decide (a.Name = u.Name)
def bfs (reg : List Md) (p : List Pk) : Nat → List Us → List (List UInt8) → Option (List (List UInt8))
  | 0, _, _ => none
  | _ + 1, [], seen => some seen
  | k + 1, u :: way, seen => match at1 (nmQ u) p with
    | none => none
    | some q => if q.Version < u.Low ∨ u.High < q.Version then none else if u.Name ∈ seen then bfs reg p k way seen else
      match at1 (isM q) reg with
      | none => none
      | some m => bfs reg p k (way ++ m.Uses) (u.Name :: seen)
def unseen (seen : List (List UInt8)) : Nat := (Nm5.filter fun n => decide (n ∉ seen)).length
theorem unseen_lt {seen : List (List UInt8)} {n : List UInt8} (hn : n ∈ Nm5) (hs : n ∉ seen) : unseen (n :: seen) < unseen seen :=
  filter_lt _ _ (fun a ha => by
    simp only [decide_eq_true_eq, List.mem_cons, not_or] at ha ⊢
    exact ha.2) Nm5 n hn (by simpa using hs) (by simp)
def rightB (reg : List Md) (root : List Us) (p : List Pk) : Bool := match bfs reg p 60 root [] with | some fin => decide (fin.length = p.length) | none => false
theorem s16 {reg : List Md} {root : List Us} {p : List Pk} (hA : RegAt 20 reg) (hl : root.length ≤ 3) (hu : ∀ u ∈ root, UOk u) (hp : p.length ≤ 1000) (hN : ∀ q ∈ p, q.Name ∈ Nm5) (hs : Asc p) : sp16 reg root p (rightB reg root p) := by
  refine ok16 _ _ _ _ ?_
  unfold w16
  have hrl := hA.len
  refine ⟨0, hA.check, fun h => absurd rfl h, fun _ => ⟨0, s20 root (by omega) hu, fun h => absurd rfl h, fun _ => ⟨root, s21m root (by omega), ?_⟩⟩⟩
  refine ⟨fun v7 v8 v9 v10 => ∃ (seen : List (List UInt8)) (k : Nat), v7 = (seen.length : Int) ∧ (∀ n, (v10.get n).getD false = decide (n ∈ seen)) ∧ bfs reg p 60 root [] = bfs reg p k v8 seen ∧ v8.length + 6 * unseen seen < k ∧ (∀ u ∈ v8, UOk u) ∧ v8.length + 6 * unseen seen ≤ 40 ∧ seen.length + unseen seen ≤ 5,
    fun _ v8 _ v10 => v8.length + 6 * (Nm5.filter fun n => !(v10.get n).getD false).length, ⟨[], 60, rfl, fun n => by rw [GM.get_nil]; simp, rfl, ?_, hu, ?_, ?_⟩, ?_⟩
  · have : unseen [] = 5 := rfl
    omega
  · have : unseen [] = 5 := rfl
    omega
  · have : unseen [] = 5 := rfl
    simp only [List.length_nil]; omega
  rintro _ way off mp ⟨seen, k, rfl, hmp, hbfs, hk, hw, hw40, hs5⟩
  have hun : ∀ (mp : GM (List UInt8) Bool) (seen : List (List UInt8)), (∀ n, (mp.get n).getD false = decide (n ∈ seen)) → (Nm5.filter fun n => !(mp.get n).getD false).length = unseen seen := by
    intro mp seen hmp
    unfold unseen
    congr 1
    apply List.filter_congr
    intro n _
    rw [hmp n]
    by_cases hn : n ∈ seen <;> simp [hn]
  obtain ⟨k', rfl⟩ : ∃ k', k = k' + 1 := ⟨k - 1, by omega⟩
  unfold rightB
  refine ⟨fun h0 => ?_, fun h0 => ?_⟩
  · have h0' : 0 < way.length := by omega
    cases way with
    | nil => exact absurd h0' (Nat.lt_irrefl 0)
    | cons u way =>
      simp only [List.length_cons] at hk hw40
      refine ⟨by simp, fun u' hu' => ?_⟩
      obtain rfl : u = u' := by simpa using hu'
      refine ⟨⟨by decide, by simp only [List.length_cons]; omega⟩, fun v25 hv25 => ?_⟩
      obtain rfl : way = v25 := hv25.symm
      have hU := hw u (by simp)
      have hway : ∀ u ∈ way, UOk u := fun x hx => hw x (by simp [hx])
      refine ⟨_, s29_30 p u (by omega), fun h1 => ?_, fun h1 => ?_⟩
      · rcases at1_cases (nmQ u) p with ⟨j, q, e1, _⟩ | ⟨_, e2, _⟩
        · have : idxF (nmQ u) p < 0 := h1
          omega
        · have hb : bfs reg p (k' + 1) (u :: way) seen = none := by rw [bfs, e2]
          rw [hbfs, hb]
      · rcases at1_cases (nmQ u) p with ⟨j, q, e1, e2, e3, e4⟩ | ⟨e1, _, _⟩
        · have e1' : idxF (fun a : Pk => decide (a.Name = u.Name)) p = j := e1
          rw [e1']
          have hjlt := lt_of_get e2
          have hq : ∀ a : Pk, p[((j : Int)).toNat]? = some a → a = q := fun a ha => by
            have : p[j]? = some a := by simpa using ha
            rw [e2] at this; injection this with this; exact this.symm
          refine ⟨by omega, fun a ha => ?_⟩
          obtain rfl := hq a ha
          refine ⟨fun hlo => ?_, fun hlo => ⟨by omega, fun b hb => ?_⟩⟩
          · have hb : bfs reg p (k' + 1) (u :: way) seen = none := by rw [bfs, e4]; dsimp only; rw [if_pos (.inl hlo)]
            rw [hbfs, hb]
          obtain rfl := hq b hb
          refine ⟨fun hhi => ?_, fun hhi => ?_⟩
          · have hb' : bfs reg p (k' + 1) (u :: way) seen = none := by rw [bfs, e4]; dsimp only; rw [if_pos (.inr hhi)]
            rw [hbfs, hb']
          have hnr : ¬ (b.Version < u.Low ∨ u.High < b.Version) := by dsimp only at hlo hhi; omega
          rintro _ rfl
          dsimp only
          rw [hmp]
          refine ⟨fun hse => ?_, fun hse => ?_⟩
          · have hse' : u.Name ∈ seen := of_decide_eq_true hse
            have hb' : bfs reg p (k' + 1) (u :: way) seen = bfs reg p k' way seen := by rw [bfs, e4]; dsimp only; rw [if_neg hnr, if_pos hse']
            refine ⟨⟨seen, k', rfl, hmp, by rw [hbfs, hb'], by omega, hway, by omega, hs5⟩, ?_⟩
            rw [hun mp seen hmp]
            simp only [List.length_cons]; omega
          · have hse' : u.Name ∉ seen := of_decide_eq_false hse
            refine ⟨by omega, fun c hc => ?_⟩
            obtain rfl := hq c hc
            refine ⟨_, s31 reg c (by omega), fun hf => ?_, fun hf => ?_⟩
            · have hn : at1 (isM c) reg = none := by
                cases hx : at1 (isM c) reg with
                | none => rfl
                | some m => simp [findR, hx] at hf
              have hb' : bfs reg p (k' + 1) (u :: way) seen = none := by rw [bfs, e4]; dsimp only; rw [if_neg hnr, if_neg hse', hn]
              rw [hbfs, hb']
            · cases hx : at1 (isM c) reg with
              | none => simp [findR, hx] at hf
              | some m =>
                have hb' : bfs reg p (k' + 1) (u :: way) seen = bfs reg p k' (way ++ m.Uses) (u.Name :: seen) := by rw [bfs, e4]; dsimp only; rw [if_neg hnr, if_neg hse', hx]
                have hfr : (findR reg c).1 = m := by simp [findR, hx]
                rw [hfr]
                obtain ⟨hmr, _⟩ := at1_some hx
                obtain ⟨i, _, hat⟩ := hA.at_ m hmr
                have hml := hat.len
                have hlt := unseen_lt hU.mem hse'
                rintro _ rfl
                have hmp' : ∀ n, (((mp.put u.Name true).get n).getD false) = decide (n ∈ u.Name :: seen) := fun n => by
                  rw [GM.get_put]
                  by_cases hn : n = u.Name
                  · rw [if_pos hn]; simp [hn]
                  · rw [if_neg hn, hmp n]; simp [hn]
                refine ⟨by simp only [R64]; omega, ?_⟩
                rintro _ rfl
                refine ⟨by omega, ?_⟩
                rintro _ rfl
                refine ⟨⟨u.Name :: seen, k', by simp, hmp', by rw [hbfs, hb'], by simp only [List.length_append]; omega, fun x hx' => ?_, by simp only [List.length_append]; omega, by simp only [List.length_cons]; omega⟩, ?_⟩
                · rcases List.mem_append.1 hx' with hx' | hx'
                  · exact hway x hx'
                  · exact hat.use x hx'
                · rw [hun mp seen hmp, hun _ _ hmp']
                  simp only [List.length_append, List.length_cons]; omega
        · have : idxF (nmQ u) p ≥ 0 := h1
          omega
  · cases way with
    | cons u way => simp only [List.length_cons] at h0; omega
    | nil =>
      have hb' : bfs reg p (k' + 1) [] seen = some seen := rfl
      rw [hbfs, hb']
      dsimp only
      refine ⟨fun h => ⟨true, s32 p hp hN hs, ?_⟩, fun h => ?_⟩
      · have : seen.length = p.length := by omega
        simp [this]
      · have : ¬ seen.length = p.length := by omega
        simp [this]


def OkU (p : List Pk) (fin : List (List UInt8)) (u : Us) : Prop := ∃ q, at1 (nmQ u) p = some q ∧ u.Low ≤ q.Version ∧ q.Version ≤ u.High ∧ u.Name ∈ fin
theorem bfs_sound {reg : List Md} {p : List Pk} : ∀ (k : Nat) (way : List Us) (seen fin : List (List UInt8)), bfs reg p k way seen = some fin →
    (∀ n ∈ seen, n ∈ fin) ∧ (∀ u ∈ way, OkU p fin u) ∧ (∀ n ∈ fin, n ∈ seen ∨ ∃ q m, q ∈ p ∧ q.Name = n ∧ at1 (isM q) reg = some m ∧ ∀ u ∈ m.Uses, OkU p fin u) ∧ (seen.Nodup → fin.Nodup)
  | 0, way, seen, fin, h => by simp [bfs] at h
  | k + 1, [], seen, fin, h => by
    simp only [bfs, Option.some.injEq] at h
    subst h
    exact ⟨fun n h => h, nofun, fun n h => .inl h, fun h => h⟩
  | k + 1, u :: way, seen, fin, h => by
    rw [bfs] at h
    cases hq : at1 (nmQ u) p with
    | none => rw [hq] at h; cases h
    | some q =>
      rw [hq] at h
      dsimp only at h
      split at h
      · cases h
      rename_i hnr
      split at h
      · rename_i hse
        obtain ⟨h1, h2, h3, h4⟩ := bfs_sound k way seen fin h
        refine ⟨h1, fun v hv => ?_, h3, h4⟩
        rcases List.mem_cons.1 hv with rfl | hv
        · exact ⟨q, hq, by omega, by omega, h1 _ hse⟩
        · exact h2 v hv
      · rename_i hse
        cases hm : at1 (isM q) reg with
        | none => rw [hm] at h; cases h
        | some m =>
          rw [hm] at h
          obtain ⟨h1, h2, h3, h4⟩ := bfs_sound k (way ++ m.Uses) (u.Name :: seen) fin h
          have hqn : q.Name = u.Name := by have := (at1_some hq).2; simpa [nmQ] using this
          refine ⟨fun n hn => h1 n (by simp [hn]), fun v hv => ?_, fun n hn => ?_, fun hnd => h4 (List.nodup_cons.2 ⟨hse, hnd⟩)⟩
          · rcases List.mem_cons.1 hv with rfl | hv
            · exact ⟨q, hq, by omega, by omega, h1 _ (by simp)⟩
            · exact h2 v (by simp [hv])
          · rcases h3 n hn with h5 | h5
            · rcases List.mem_cons.1 h5 with rfl | h5
              · exact .inr ⟨q, m, (at1_some hq).1, hqn, hm, fun v hv => h2 v (by simp [hv])⟩
              · exact .inl h5
            · exact .inr h5
theorem isM_mt {reg : List Md} {q : Pk} {m : Md} (h : at1 (isM q) reg = some m) : Mt reg q m := by
  obtain ⟨h1, h2⟩ := at1_some h
  simp only [isM, Bool.and_eq_true, decide_eq_true_eq] at h2
  exact ⟨h1, h2.1, h2.2⟩
theorem right_sel {reg : List Md} {root : List Us} {p : List Pk} (hu : Uq p) (h : rightB reg root p = true) : ∃ S, Sel reg root S := by
  unfold rightB at h
  cases hb : bfs reg p 60 root [] with
  | none => rw [hb] at h; cases h
  | some fin =>
    obtain ⟨_, h2, h3, _⟩ := bfs_sound 60 root [] fin hb
    have huq := uq_eq hu
    have hsat : ∀ u, OkU p fin u → Sat (p.filter fun q => decide (q.Name ∈ fin)) u := fun u ⟨q, hq, h5, h6, h7⟩ => by
      obtain ⟨g1, g2⟩ := at1_some hq
      have g3 : q.Name = u.Name := by simpa [nmQ] using g2
      exact ⟨q, by simp [g1, g3, h7], g3, h5, h6⟩
    refine ⟨p.filter fun q => decide (q.Name ∈ fin), fun a ha b hb' he => huq a (List.mem_filter.1 ha).1 b (List.mem_filter.1 hb').1 he, fun u hu' => hsat u (h2 u hu'), fun q hq => ?_⟩
    simp only [List.mem_filter, decide_eq_true_eq] at hq
    rcases h3 _ hq.2 with h8 | ⟨q', m, h8, h9, h10, h11⟩
    · simp at h8
    · have := huq q' h8 q hq.1 h9
      subst this
      exact ⟨m, isM_mt h10, fun u hu' => hsat u (h11 u hu')⟩
end Go.Hw.VE

