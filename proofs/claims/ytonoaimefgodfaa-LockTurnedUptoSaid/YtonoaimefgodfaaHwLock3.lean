/- LockTurned: it answers true. -/
import Derived.Test.YtonoaimefgodfaaHwLock2
set_option linter.unusedVariables false
set_option linter.unusedSimpArgs false
namespace Go.Hw.G4
open Go Go.Proofs

theorem equal_ok (l : List GLock_Turn) (hl : l.length ≤ 100) : sp19 l l true := by
  refine ok19 _ _ _ ?_
  unfold w19
  refine ⟨fun h => absurd rfl h, fun _ => ⟨fun a b => a = (l.length : Int) ∧ ∃ k : Nat, b = k ∧ k ≤ l.length, fun a b => (a - b).toNat, ⟨rfl, 0, rfl, by omega⟩, ?_⟩⟩
  rintro a b ⟨rfl, k, rfl, hk⟩ t rfl
  refine ⟨fun h1 => ?_, fun _ => rfl⟩
  have hkl : k < l.length := by simp at h1; omega
  refine ⟨by omega, fun p hp => ⟨by omega, fun q hq => ?_⟩⟩
  rw [hp] at hq
  injection hq with hq
  refine ⟨fun h => absurd hq h, fun _ => ⟨by omega, ?_⟩⟩
  rintro _ rfl
  exact ⟨⟨rfl, k + 1, by omega, by omega⟩, by dsimp only; omega⟩

def putAll (L : List (List UInt8 × Int)) (m : GM (List UInt8) Int) : GM (List UInt8) Int := L.foldl (fun m p => m.put p.1 p.2) m
def delAll (L : List (List UInt8)) (m : GM (List UInt8) Int) : GM (List UInt8) Int := L.foldl (fun m p => m.del p) m
theorem putAll_wf : ∀ (L : List (List UInt8 × Int)) {m : GM (List UInt8) Int}, m.wf → (putAll L m).wf
  | [], m, h => h
  | p :: L, m, h => putAll_wf L (GM.put_wf h p.1 p.2)
theorem putAll_not : ∀ (L : List (List UInt8 × Int)) (m : GM (List UInt8) Int) (q : List UInt8), (∀ p ∈ L, p.1 ≠ q) → (putAll L m).get q = m.get q
  | [], m, q, h => rfl
  | p :: L, m, q, h => by
    have := putAll_not L (m.put p.1 p.2) q fun u hu => h u (by simp [hu])
    rw [GM.get_put, if_neg (fun e => h p (by simp) e.symm)] at this
    exact this
theorem putAll_mem : ∀ (L : List (List UInt8 × Int)) (m : GM (List UInt8) Int), (L.map (·.1)).Nodup → ∀ p ∈ L, (putAll L m).get p.1 = some p.2
  | u :: L, m, h, p, hp => by
    simp only [List.map_cons, List.nodup_cons] at h
    rcases List.mem_cons.1 hp with rfl | hp
    · have := putAll_not L (m.put p.1 p.2) p.1 fun u hu e => h.1 (List.mem_map.2 ⟨u, hu, e⟩)
      rw [GM.get_put, if_pos rfl] at this
      exact this
    · exact putAll_mem L (m.put u.1 u.2) h.2 p hp
theorem delAll_wf : ∀ (L : List (List UInt8)) {m : GM (List UInt8) Int}, m.wf → (delAll L m).wf
  | [], m, h => h
  | p :: L, m, h => delAll_wf L (GM.del_wf h p)
theorem delAll_not : ∀ (L : List (List UInt8)) {m : GM (List UInt8) Int} (q : List UInt8), m.wf → (∀ p ∈ L, p ≠ q) → (delAll L m).get q = m.get q
  | [], m, q, h, _ => rfl
  | p :: L, m, q, h, hq => by
    have := delAll_not L q (GM.del_wf h p) fun u hu => hq u (by simp [hu])
    rw [GM.get_del h p q (fun e => hq p (by simp) e.symm)] at this
    exact this
theorem delAll_mem : ∀ (L : List (List UInt8)) {m : GM (List UInt8) Int}, m.wf → ∀ p ∈ (delAll L m).es, p ∈ m.es ∧ p.2.1 ∉ L
  | [], m, h, p, hp => ⟨hp, by simp⟩
  | q :: L, m, h, p, hp => by
    obtain ⟨h1, h2⟩ := delAll_mem L (GM.del_wf h q) p hp
    obtain ⟨h3, h4⟩ := GM.del_mem h h1
    exact ⟨h3, by simp [h2, h4]⟩
theorem foldl_take {A B : Type} (f : B → A → B) (L : List A) (m : B) (k : Nat) (a : A) (h : L[k]? = some a) : (L.take (k + 1)).foldl f m = f ((L.take k).foldl f m) a := by
  rw [List.take_add_one, h, Option.toList_some, List.foldl_append]
  rfl
theorem pk_in (f : Nat → Int) : ∀ (n i j : Nat), i ≤ j → j < i + n → f j ≠ 0 → (⟨nm j, f j⟩ : GSolve_Pick) ∈ pk f i n
  | 0, i, j, h1, h2, _ => by omega
  | n + 1, i, j, h1, h2, h3 => by
    unfold pk
    by_cases hij : i = j
    · subst hij; simp [h3]
    · have := pk_in f n (i + 1) j (by omega) (by omega) h3
      split
      · exact this
      · exact List.mem_cons_of_mem _ this
theorem tn_in (f g : Nat → Int) : ∀ (n i j : Nat), i ≤ j → j < i + n → f j ≠ g j → (⟨nm j, f j, g j⟩ : GLock_Turn) ∈ tn f g i n
  | 0, i, j, h1, h2, _ => by omega
  | n + 1, i, j, h1, h2, h3 => by
    unfold tn
    by_cases hij : i = j
    · subst hij; simp [h3]
    · have := tn_in f g n (i + 1) j (by omega) (by omega) h3
      split
      · exact this
      · exact List.mem_cons_of_mem _ this
theorem pk_nodup (f : Nat → Int) : ∀ (n i : Nat), i + n ≤ 8 → ((pk f i n).map (·.Name)).Nodup
  | 0, i, _ => by simp [pk]
  | n + 1, i, h => by
    have ih := pk_nodup f n (i + 1) (by omega)
    unfold pk
    split
    · exact ih
    · refine List.nodup_cons.2 ⟨fun hm => ?_, ih⟩
      obtain ⟨p, hp, he⟩ := List.mem_map.1 hm
      obtain ⟨j, h1, h2, _, rfl⟩ := pk_mem f n (i + 1) p hp
      have := nm_inj j (by omega) i (by omega) he
      omega
theorem tn_nodup (f g : Nat → Int) : ∀ (n i : Nat), i + n ≤ 8 → ((tn f g i n).map (·.Name)).Nodup
  | 0, i, _ => by simp [tn]
  | n + 1, i, h => by
    have ih := tn_nodup f g n (i + 1) (by omega)
    unfold tn
    split
    · exact ih
    · refine List.nodup_cons.2 ⟨fun hm => ?_, ih⟩
      obtain ⟨p, hp, he⟩ := List.mem_map.1 hm
      obtain ⟨j, h1, h2, _, rfl⟩ := tn_mem f g n (i + 1) p hp
      have := nm_inj j (by omega) i (by omega) he
      omega
theorem tn_self (f : Nat → Int) : ∀ (n i : Nat), tn f f i n = []
  | 0, i => rfl
  | n + 1, i => by rw [tn, if_pos rfl, tn_self f n (i + 1)]
theorem pk_snoc (f : Nat → Int) : ∀ (n i : Nat), pk f i (n + 1) = pk f i n ++ (if f (i + n) = 0 then [] else [⟨nm (i + n), f (i + n)⟩])
  | 0, i => by simp [pk]
  | n + 1, i => by
    have ih := pk_snoc f n (i + 1)
    rw [show i + 1 + n = i + (n + 1) by omega] at ih
    rw [pk, ih]
    conv => rhs; rw [pk]
    split <;> simp
/-- In a list of distinct names, none stands twice. -/
theorem not_before {A B : Type} {g : A → B} {L : List A} (h : (L.map g).Nodup) {k : Nat} {a : A} (ha : L[k]? = some a) : ∀ p ∈ L.take k, g p ≠ g a := by
  intro p hp he
  obtain ⟨i, hi⟩ := List.getElem?_of_mem hp
  have hik : i < k := by have := lt_of_get hi; rw [List.length_take] at this; omega
  rw [List.getElem?_take_of_lt hik] at hi
  have := nodup_inj' h i k (g a) (by simp [hi, he]) (by simp [ha])
  omega
def fOf (l : List Int) (i : Nat) : Int :=
  match l[i]? with
  | some x => if x.tmod 3 = 0 then 0 else 1 + (restN x 4 : Int)
  | none => 0
theorem fOf_le (l : List Int) (i : Nat) : 0 ≤ fOf l i ∧ fOf l i ≤ 9999 := by
  unfold fOf
  split
  · rename_i x _
    have : restN x 4 < 4 := Nat.mod_lt _ (by decide)
    split <;> omega
  · omega
theorem turned (l m : List Int) (hl : ∀ x ∈ l, -9223372036854775808 ≤ x ∧ x ≤ 9223372036854775807) (hm : ∀ x ∈ m, -9223372036854775808 ≤ x ∧ x ≤ 9223372036854775807) : w4 l m (fun r' => r' = true) := by
  have hf := fOf_le l
  have hg := fOf_le m
  have rl : ∀ x ∈ l, sp17 x 4 (restN x 4 : Int) := fun x hx => rest_call x 4 (by decide) (hl x hx)
  have rm : ∀ x ∈ m, sp17 x 4 (restN x 4 : Int) := fun x hx => rest_call x 4 (by decide) (hm x hx)
  have fl : ∀ (i : Nat) x, l[i]? = some x → fOf l i = if x.tmod 3 = 0 then 0 else 1 + (restN x 4 : Int) := fun i x h => by simp only [fOf, h]
  have fm : ∀ (i : Nat) x, m[i]? = some x → fOf m i = if x.tmod 3 = 0 then 0 else 1 + (restN x 4 : Int) := fun i x h => by simp only [fOf, h]
  have fl0 : ∀ i : Nat, l.length ≤ i → fOf l i = 0 := fun i h => by simp only [fOf, List.getElem?_eq_none h]
  have fm0 : ∀ i : Nat, m.length ≤ i → fOf m i = 0 := fun i h => by simp only [fOf, List.getElem?_eq_none h]
  have r4 : ∀ x : Int, restN x 4 < 4 := fun x => Nat.mod_lt _ (by decide)
  generalize fOf l = f at hf fl fl0
  generalize fOf m = g at hg fm fm0
  unfold w4
  refine ⟨fun a c i => ∃ k : Nat, i = k ∧ k ≤ 8 ∧ a = pk f 0 k ∧ c = pk g 0 k, fun _ _ i => (8 - i).toNat, ⟨0, rfl, by omega, rfl, rfl⟩, ?_⟩
  rintro a c i ⟨k, rfl, hk, rfl, rfl⟩ t rfl
  have la := pk_len f k 0
  have lc := pk_len g k 0
  refine ⟨fun h => ?_, fun h => ?_⟩
  · have hk8 : k < 8 := by simp at h; omega
    obtain ⟨nb1, nb2, nb3⟩ := nm_byte k hk8
    have sf := pk_snoc f k 0
    have sg := pk_snoc g k 0
    simp only [Nat.zero_add] at sf sg
    refine ⟨by omega, ?_⟩
    rintro _ rfl _ rfl
    refine ⟨by simpa using ⟨nb2, nb3⟩, fun a' i' j' => a' = pk f 0 (k + 1) ∧ i' = k ∧ j' = k, ⟨fun h1 => ⟨by omega, fun x hx => ⟨by decide, ?_⟩⟩, fun h1 => ⟨?_, rfl, rfl⟩⟩, ?_⟩
    · have hx' : l[k]? = some x := by simpa using hx
      have fk := fl k x hx'
      rintro _ rfl
      refine ⟨fun h2 => ⟨by omega, fun y hy => ?_⟩, fun h2 => ⟨?_, rfl, rfl⟩⟩
      · rw [hx] at hy
        injection hy with hy
        subst hy
        have := r4 x
        refine ⟨_, rl x (List.mem_of_getElem? hx'), by omega, ?_⟩
        rintro _ rfl
        refine ⟨by simp; omega, ?_⟩
        rintro _ rfl
        refine ⟨?_, rfl, rfl⟩
        rw [if_neg h2] at fk
        rw [sf, if_neg (by omega), ← nb1, ← fk]
      · rw [if_pos h2] at fk
        rw [sf, if_pos fk, List.append_nil]
    · rw [sf, if_pos (fl0 k (by omega)), List.append_nil]
    · rintro _ _ _ ⟨rfl, rfl, rfl⟩
      refine ⟨fun h1 => ⟨by omega, fun x hx => ⟨by decide, ?_⟩⟩, fun h1 => ⟨by omega, ?_⟩⟩
      · have hx' : m[k]? = some x := by simpa using hx
        have gk := fm k x hx'
        rintro _ rfl
        refine ⟨fun h2 => ⟨by omega, fun y hy => ?_⟩, fun h2 => ⟨by omega, ?_⟩⟩
        · rw [hx] at hy
          injection hy with hy
          subst hy
          have := r4 x
          refine ⟨_, rm x (List.mem_of_getElem? hx'), by omega, ?_⟩
          rintro _ rfl
          refine ⟨by simp; omega, ?_⟩
          rintro _ rfl
          refine ⟨by omega, ?_⟩
          rintro _ rfl
          rw [if_neg h2] at gk
          refine ⟨⟨k + 1, by omega, by omega, rfl, ?_⟩, by dsimp only; omega⟩
          rw [sg, if_neg (by omega), ← nb1, ← gk]
        · rintro _ rfl
          rw [if_pos h2] at gk
          refine ⟨⟨k + 1, by omega, by omega, rfl, ?_⟩, by dsimp only; omega⟩
          rw [sg, if_pos gk, List.append_nil]
      · rintro _ rfl
        refine ⟨⟨k + 1, by omega, by omega, rfl, ?_⟩, by dsimp only; omega⟩
        rw [sg, if_pos (fm0 k (by omega)), List.append_nil]
  · have hk8 : k = 8 := by simp at h; omega
    subst hk8
    clear fl fm fl0 fm0 rl rm hl hm h la lc hk
    have t1 := turns_ok f g hf hg
    have t2 := turns_ok f f hf hf
    rw [tn_self] at t2
    have t3 : sp18 [] [⟨[97], 2⟩] ([⟨[97], 0, 2⟩], 0) := turns_ok (fun _ => 0) (fun i => if i = 0 then 2 else 0) (fun _ => by omega) (fun j => by (try dsimp only); split <;> omega)
    have nf := pk_nodup f 8 0 (by omega)
    have ng := pk_nodup g 8 0 (by omega)
    have nt := tn_nodup f g 8 0 (by omega)
    have mf := pk_mem f 8 0
    have mg := pk_mem g 8 0
    have mt := tn_mem f g 8 0
    have inf := fun j h => pk_in f 8 0 j (by omega) h
    have ing := fun j h => pk_in g 8 0 j (by omega) h
    have int := fun j h => tn_in f g 8 0 j (by omega) h
    have lf := pk_len f 8 0
    have lg := pk_len g 8 0
    have lt := tn_len f g 8 0
    refine ⟨_, t1, _, t2, _, t3, fun h => absurd rfl h, fun _ => ⟨fun h => absurd rfl h, fun _ => ⟨fun h => absurd rfl h, fun _ => ⟨fun h => absurd rfl h, fun _ => ⟨true, equal_ok _ (by decide), fun h => by simp at h, fun _ => ?_⟩⟩⟩⟩⟩
    clear t1 t2 t3
    simp only
    generalize pk f 0 8 = A at nf mf inf lf
    generalize pk g 0 8 = C at ng mg ing lg
    generalize tn f g 0 8 = T at nt mt int lt
    -- the maps
    have hA : ∀ j, j < 8 → ∀ k : Nat, True := fun _ _ _ => trivial
    refine ⟨fun mp n i => n = (A.length : Int) ∧ ∃ k : Nat, i = k ∧ k ≤ A.length ∧ mp = (A.take k).foldl (fun m p => m.put p.Name p.Version) GM.nil, fun _ n i => (n - i).toNat, ⟨rfl, 0, rfl, by omega, rfl⟩, ?_⟩
    rintro mp n i ⟨rfl, k, rfl, hk, rfl⟩ t rfl
    refine ⟨fun h => ?_, fun h => ?_⟩
    · have hkl : k < A.length := by simp at h; omega
      refine ⟨by omega, fun p hp => ?_⟩
      have hp' : A[k]? = some p := by simpa using hp
      rintro _ rfl
      refine ⟨by omega, ?_⟩
      rintro _ rfl
      exact ⟨⟨rfl, k + 1, by omega, by omega, (foldl_take (fun (m : GM (List UInt8) Int) (p : GSolve_Pick) => m.put p.Name p.Version) A GM.nil k p hp').symm⟩, by dsimp only; omega⟩
    have hkA : k = A.length := by simp at h; omega
    subst hkA
    rw [List.take_length]
    clear h hk
    have eA : A.foldl (fun (m : GM (List UInt8) Int) p => m.put p.Name p.Version) GM.nil = putAll (A.map fun p => (p.Name, p.Version)) GM.nil := by rw [putAll, List.foldl_map]
    have wA : (A.foldl (fun (m : GM (List UInt8) Int) p => m.put p.Name p.Version) GM.nil).wf := by rw [eA]; exact putAll_wf _ GM.nil_wf
    have gA : ∀ j, j < 8 → ((A.foldl (fun (m : GM (List UInt8) Int) p => m.put p.Name p.Version) GM.nil).get (nm j)).getD 0 = f j := by
      intro j hj
      rw [eA]
      by_cases hfj : f j = 0
      · rw [putAll_not _ _ _ (fun p hp he => ?_)]
        · simp [GM.get_nil, hfj]
        · obtain ⟨q, hq, rfl⟩ := List.mem_map.1 hp
          obtain ⟨u, _, h2, h3, rfl⟩ := mf q hq
          have := nm_inj u (by omega) j hj he
          subst this
          exact h3 hfj
      · have := putAll_mem (A.map fun p => (p.Name, p.Version)) GM.nil (by rw [List.map_map]; exact nf) (nm j, f j) (List.mem_map.2 ⟨_, inf j (by omega) hfj, rfl⟩)
        simp only at this
        rw [this]
        rfl
    have kA : ∀ q, (∀ j, j < 8 → nm j ≠ q) → (A.foldl (fun (m : GM (List UInt8) Int) p => m.put p.Name p.Version) GM.nil).get q = none := by
      intro q hq
      rw [eA, putAll_not _ _ _ (fun p hp he => ?_)]
      · rfl
      · obtain ⟨u, hu, rfl⟩ := List.mem_map.1 hp
        obtain ⟨j, _, h2, _, rfl⟩ := mf u hu
        exact hq j (by omega) he
    generalize A.foldl (fun (m : GM (List UInt8) Int) p => m.put p.Name p.Version) GM.nil = mA at wA gA kA
    refine ⟨fun mp i => ∃ k : Nat, i = k ∧ k ≤ T.length ∧ mp = (T.take k).foldl (fun m p => m.put p.Name p.New) mA, fun _ i => (T.length - i).toNat, ⟨0, rfl, by omega, rfl⟩, ?_⟩
    rintro mp i ⟨k, rfl, hk, rfl⟩ t rfl
    refine ⟨fun h => ?_, fun h => ?_⟩
    · have hkl : k < T.length := by simp at h; omega
      refine ⟨by omega, fun p hp => ?_⟩
      have hp' : T[k]? = some p := by simpa using hp
      obtain ⟨j, _, hj, hfg, rfl⟩ := mt p (List.mem_of_getElem? hp')
      have hnb := not_before nt hp'
      have hget : (((T.take k).foldl (fun (m : GM (List UInt8) Int) p => m.put p.Name p.New) mA).get (nm j)).getD 0 = f j := by
        have e : (T.take k).foldl (fun (m : GM (List UInt8) Int) p => m.put p.Name p.New) mA = putAll ((T.take k).map fun p => (p.Name, p.New)) mA := by rw [putAll, List.foldl_map]
        rw [e, putAll_not _ _ _ (fun u hu he => ?_)]
        · exact gA j (by omega)
        · obtain ⟨q, hq, rfl⟩ := List.mem_map.1 hu
          exact hnb q hq he
      rintro _ rfl
      refine ⟨fun h => absurd hget h, fun _ => ⟨fun h => absurd h hfg, fun _ => ?_⟩⟩
      rintro _ rfl
      refine ⟨by omega, ?_⟩
      rintro _ rfl
      exact ⟨⟨k + 1, by omega, by omega, (foldl_take (fun (m : GM (List UInt8) Int) (p : GLock_Turn) => m.put p.Name p.New) T mA k _ hp').symm⟩, by dsimp only; omega⟩
    have hkT : k = T.length := by simp at h; omega
    subst hkT
    rw [List.take_length]
    clear h hk
    have eT : T.foldl (fun (m : GM (List UInt8) Int) p => m.put p.Name p.New) mA = putAll (T.map fun p => (p.Name, p.New)) mA := by rw [putAll, List.foldl_map]
    have wT : (T.foldl (fun (m : GM (List UInt8) Int) p => m.put p.Name p.New) mA).wf := by rw [eT]; exact putAll_wf _ wA
    have gT : ∀ j, j < 8 → ((T.foldl (fun (m : GM (List UInt8) Int) p => m.put p.Name p.New) mA).get (nm j)).getD 0 = g j := by
      intro j hj
      rw [eT]
      by_cases hfj : f j = g j
      · rw [putAll_not _ _ _ (fun p hp he => ?_)]
        · rw [gA j hj, hfj]
        · obtain ⟨q, hq, rfl⟩ := List.mem_map.1 hp
          obtain ⟨u, _, h2, h3, rfl⟩ := mt q hq
          have := nm_inj u (by omega) j hj he
          subst this
          exact h3 hfj
      · have := putAll_mem (T.map fun p => (p.Name, p.New)) mA (by rw [List.map_map]; exact nt) (nm j, g j) (List.mem_map.2 ⟨_, int j (by omega) hfj, rfl⟩)
        simp only at this
        rw [this]
        rfl
    have kT : ∀ q, (∀ j, j < 8 → nm j ≠ q) → (T.foldl (fun (m : GM (List UInt8) Int) p => m.put p.Name p.New) mA).get q = none := by
      intro q hq
      rw [eT, putAll_not _ _ _ (fun p hp he => ?_)]
      · exact kA q hq
      · obtain ⟨u, hu, rfl⟩ := List.mem_map.1 hp
        obtain ⟨j, _, h2, _, rfl⟩ := mt u hu
        exact hq j (by omega) he
    generalize T.foldl (fun (m : GM (List UInt8) Int) p => m.put p.Name p.New) mA = mT at wT gT kT
    refine ⟨fun mp i => ∃ k : Nat, i = k ∧ k ≤ C.length ∧ mp = (C.take k).foldl (fun m p => m.del p.Name) mT, fun _ i => (C.length - i).toNat, ⟨0, rfl, by omega, rfl⟩, ?_⟩
    rintro mp i ⟨k, rfl, hk, rfl⟩ t rfl
    refine ⟨fun h => ?_, fun h => ?_⟩
    · have hkl : k < C.length := by simp at h; omega
      refine ⟨by omega, fun p hp => ?_⟩
      have hp' : C[k]? = some p := by simpa using hp
      obtain ⟨j, _, hj, hgj, rfl⟩ := mg p (List.mem_of_getElem? hp')
      have hnb := not_before ng hp'
      have hget : (((C.take k).foldl (fun (m : GM (List UInt8) Int) p => m.del p.Name) mT).get (nm j)).getD 0 = g j := by
        have e : (C.take k).foldl (fun (m : GM (List UInt8) Int) p => m.del p.Name) mT = delAll ((C.take k).map fun p => p.Name) mT := by rw [delAll, List.foldl_map]
        rw [e, delAll_not _ _ wT (fun u hu he => ?_)]
        · exact gT j (by omega)
        · obtain ⟨q, hq, rfl⟩ := List.mem_map.1 hu
          exact hnb q hq he
      rintro _ rfl
      refine ⟨fun h => absurd hget h, fun _ => ?_⟩
      rintro _ rfl
      refine ⟨by omega, ?_⟩
      rintro _ rfl
      exact ⟨⟨k + 1, by omega, by omega, (foldl_take (fun (m : GM (List UInt8) Int) (p : GSolve_Pick) => m.del p.Name) C mT k _ hp').symm⟩, by dsimp only; omega⟩
    have hkC : k = C.length := by simp at h; omega
    subst hkC
    rw [List.take_length]
    clear h hk
    have eC : C.foldl (fun (m : GM (List UInt8) Int) p => m.del p.Name) mT = delAll (C.map fun p => p.Name) mT := by rw [delAll, List.foldl_map]
    have wC : (C.foldl (fun (m : GM (List UInt8) Int) p => m.del p.Name) mT).wf := by rw [eC]; exact delAll_wf _ wT
    have zC : ∀ p ∈ (C.foldl (fun (m : GM (List UInt8) Int) p => m.del p.Name) mT).es, p.2.2 = 0 := by
      intro p hp
      rw [eC] at hp
      obtain ⟨h1, h2⟩ := delAll_mem _ wT p hp
      have h3 := GM.mem_get wT h1
      have : ∃ j, j < 8 ∧ nm j = p.2.1 := by
        refine Classical.byContradiction fun hn => ?_
        have := kT p.2.1 (fun j hj he => hn ⟨j, hj, he⟩)
        rw [h3] at this
        cases this
      obtain ⟨j, hj, he⟩ := this
      have h4 := gT j hj
      rw [he, h3] at h4
      simp only [Option.getD_some] at h4
      refine Classical.byContradiction fun hn => h2 ?_
      exact List.mem_map.2 ⟨_, ing j (by omega) (by rw [← h4]; exact hn), he⟩
    generalize C.foldl (fun (m : GM (List UInt8) Int) p => m.del p.Name) mT = mC at wC zC
    refine ⟨fun _ => True, fun s => (mC.es.filter fun p => decide (p.1 ∉ s)).length, trivial, ?_⟩
    rintro s -
    refine ⟨fun s' t => t = true → ∃ n, s' = s ++ [n] ∧ n ∉ s ∧ ∃ p ∈ mC.es, p.1 = n, ⟨?_, ?_, ?_⟩, ?_⟩
    · cases hes : mC.es with
      | nil => exact .inr (.inl rfl)
      | cons p r => exact .inr (.inr ⟨p, by simp, wC.births p (by simp [hes])⟩)
    · intro n q v hin hns _
      exact ⟨n, rfl, hns, _, hin, rfl⟩
    · intro _ h
      cases h
    · intro s' t hJ
      refine ⟨fun ht => ?_, fun _ => trivial⟩
      obtain ⟨n, rfl, hns, p, hp, hpn⟩ := hJ ht
      refine ⟨n, by simp, trivial, ?_, ?_⟩
      · have : (mC.es.find? fun p => p.1 == n).isSome := by
          rw [List.find?_isSome]
          exact ⟨p, hp, by simp [hpn]⟩
        exact Option.isSome_iff_exists.1 this
      · intro n' q v hf
        have hv := zC _ (List.mem_of_find?_eq_some hf)
        refine ⟨fun h => absurd hv h, fun _ => ⟨trivial, ?_⟩⟩
        have hsub : ∀ L : List (Nat × List UInt8 × Int), (L.filter fun p => decide (p.1 ∉ s ++ [n])).length ≤ (L.filter fun p => decide (p.1 ∉ s)).length ∧ ((∃ p ∈ L, p.1 = n) → (L.filter fun p => decide (p.1 ∉ s ++ [n])).length < (L.filter fun p => decide (p.1 ∉ s)).length) := by
          intro L
          induction L with
          | nil => simp
          | cons u L ih =>
            obtain ⟨i1, i2⟩ := ih
            simp only [List.filter_cons]
            by_cases hu : u.1 = n
            · have a1 : decide (u.1 ∉ s ++ [n]) = false := by simp [hu]
              have a2 : decide (u.1 ∉ s) = true := by simp [hu, hns]
              simp only [a1, a2, Bool.false_eq_true, if_false, if_true, List.length_cons]
              exact ⟨by omega, fun _ => by omega⟩
            · have a3 : decide (u.1 ∉ s ++ [n]) = decide (u.1 ∉ s) := by simp [hu]
              rw [a3]
              cases decide (u.1 ∉ s) with
              | true =>
                simp only [if_true, List.length_cons]
                refine ⟨by omega, fun ⟨p, hp, hpn⟩ => ?_⟩
                rcases List.mem_cons.1 hp with rfl | hp
                · exact absurd hpn hu
                · have := i2 ⟨p, hp, hpn⟩; omega
              | false =>
                simp only [Bool.false_eq_true, if_false]
                refine ⟨by omega, fun ⟨p, hp, hpn⟩ => ?_⟩
                rcases List.mem_cons.1 hp with rfl | hp
                · exact absurd hpn hu
                · exact i2 ⟨p, hp, hpn⟩
        exact (hsub mC.es).2 ⟨p, hp, hpn⟩
theorem turned_call (l m : List Int) (hl : ∀ x ∈ l, -9223372036854775808 ≤ x ∧ x ≤ 9223372036854775807) (hm : ∀ x ∈ m, -9223372036854775808 ≤ x ∧ x ≤ 9223372036854775807) : PCall Try.prog 4 [.list (l.map (eInt .i64)) .none, .list (m.map (eInt .i64)) .none] (.bool true) := ok4 l m true (turned l m hl hm)
end Go.Hw.G4
