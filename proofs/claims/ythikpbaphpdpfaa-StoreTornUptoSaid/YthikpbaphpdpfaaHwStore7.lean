import Derived.Test.YthikpbaphpdpfaaHwStore6
import Derived.Test.YthikpbaphpdpfaaHwGrow
set_option linter.unusedVariables false
set_option linter.unusedSimpArgs false
namespace Go.Hw.VB
open Go Go.Proofs

theorem fl_snoc {A : Type} {l : List (List A)} {k : Nat} {a : List A} (h : l[k]? = some a) : (l.take (k + 1)).flatten = (l.take k).flatten ++ a := by
  rw [List.take_add_one, h, Option.toList_some, List.flatten_append]
  simp
theorem fl_le {A : Type} (l : List (List A)) (k : Nat) : (l.take k).flatten.length ≤ l.flatten.length := by
  conv => rhs; rw [← List.take_append_drop k l]
  rw [List.flatten_append, List.length_append]
  omega
theorem concat_call (l : List (List UInt8)) (h : l.flatten.length ≤ B) (hl : l.length ≤ B) : sp75m l l.flatten := by
  unfold B at hl
  have hB := h
  unfold B at hB
  refine ok75m _ _ ?_
  unfold w75m
  refine ⟨fun t i => ∃ k : Nat, i = k ∧ k ≤ l.length ∧ t = ((l.take k).flatten.length : Int), fun _ i => l.length - i.toNat, ⟨0, rfl, by omega, rfl⟩, ?_⟩
  rintro _ _ ⟨k, rfl, hk, rfl⟩ t rfl
  refine ⟨fun h => ?_, fun h => ?_⟩
  · have hkl : k < l.length := by simp at h; omega
    refine ⟨by omega, fun a ha => ?_⟩
    have ha' : l[k]? = some a := by simpa using ha
    have hle := fl_le l (k + 1)
    rw [fl_snoc ha', List.length_append] at hle
    refine ⟨by omega, ?_⟩
    rintro _ rfl
    refine ⟨fun hn => by omega, fun _ => ⟨by omega, ?_⟩⟩
    rintro _ rfl
    refine ⟨⟨k + 1, by omega, by omega, ?_⟩, by (try dsimp only); omega⟩
    rw [fl_snoc ha', List.length_append]; omega
  · have hkl : k = l.length := by simp at h; omega
    subst hkl
    rw [List.take_length]
    refine ⟨_, grow_call _ ‹_›, ?_⟩
    refine ⟨fun v i => ∃ k : Nat, i = k ∧ k ≤ l.length ∧ v = (l.take k).flatten, fun _ i => l.length - i.toNat, ⟨0, rfl, by omega, rfl⟩, ?_⟩
    rintro _ _ ⟨k, rfl, hk, rfl⟩ t rfl
    refine ⟨fun h => ?_, fun h => ?_⟩
    · have hkl : k < l.length := by simp at h; omega
      refine ⟨by omega, fun a ha => ?_⟩
      have ha' : l[k]? = some a := by simpa using ha
      have hle := fl_le l (k + 1)
      rw [fl_snoc ha', List.length_append] at hle
      refine ⟨by omega, ?_⟩
      rintro _ rfl
      refine ⟨by omega, ?_⟩
      rintro _ rfl
      exact ⟨⟨k + 1, by omega, by omega, (fl_snoc ha').symm⟩, by (try dsimp only); omega⟩
    · have hkl : k = l.length := by simp at h; omega
      subst hkl
      rw [List.take_length]
theorem SGood.bytes {s : Sn} (hg : SGood s) : bytesSn s = (encSn s, 0) := by
  unfold bytesSn
  rw [if_neg (by simp [hg.check]), if_pos fun w hw => (hg.w w hw).1]
theorem add_call (log : List UInt8) {s : Sn} (hg : SGood s) (hB : log.length + (encSn s).length + 4 ≤ B) : sp31 log s (log ++ pt (encSn s), 0) := by
  refine ok31 _ _ _ ?_
  unfold w31
  rw [sneta]
  have hb := bytesSn_call s hg.ok
  rw [hg.bytes] at hb
  refine ⟨_, hb, fun h => absurd rfl h, fun _ => ⟨_, parte_call _ (by dsimp only; omega), _, concat_call _ ?_ (by simp [B]), ?_⟩⟩
  · have := pt_len (encSn s)
    unfold pt at this
    simp only [List.flatten_cons, List.flatten_nil, List.append_nil, List.length_append] at this ⊢
    omega
  · simp [pt]
def Lk (S : List Sn) (k : Nat) : List UInt8 := catL (fun s => pt (encSn s)) (S.take k)
theorem Lk_snoc {S : List Sn} {k : Nat} {s : Sn} (h : S[k]? = some s) : Lk S (k + 1) = Lk S k ++ pt (encSn s) := catL_snoc _ S k s h
theorem Lk_len {S : List Sn} {k : Nat} {s : Sn} (h : S[k]? = some s) : (Lk S (k + 1)).length = (Lk S k).length + (encSn s).length + 4 := by
  rw [Lk_snoc h, List.length_append, pt_len]; omega
theorem Lk_mono (S : List Sn) : ∀ {j k : Nat}, j ≤ k → (Lk S j).length ≤ (Lk S k).length := by
  intro j k h
  have e : S.take j = (S.take k).take j := by rw [List.take_take, Nat.min_eq_left h]
  unfold Lk
  rw [e]
  exact catL_le _ _ _
theorem Lk_rest {S : List Sn} {k : Nat} {s : Sn} (h : S[k]? = some s) : ∃ r, Lk S S.length = Lk S k ++ (pt (encSn s) ++ r) := by
  refine ⟨catL (fun s => pt (encSn s)) (S.drop (k + 1)), ?_⟩
  unfold Lk
  rw [List.take_length]
  have hl := lt_of_get h
  have e : S = S.take k ++ s :: S.drop (k + 1) := by
    obtain ⟨h1, h2⟩ := List.getElem?_eq_some_iff.1 h
    rw [← h2]
    simp
  conv => lhs; rw [e]
  simp [catL]
def lastS (S : List Sn) (k : Nat) : Sn := if k = 0 then zeroSn else S.getD (k - 1) zeroSn
def lastR (S : List Sn) (w : Nat) : Sn × Int × Int × Int := if w = 0 then (zeroSn, 0, 0, 4) else (lastS S w, (w : Int), ((Lk S w).length : Int), 0)
theorem last_call (S : List Sn) (hS : ∀ s ∈ S, SGood s ∧ (encSn s).length < 4294967296) (n w : Nat) (hn : n ≤ (Lk S S.length).length) (hB : (Lk S S.length).length ≤ B) (hSn : S.length ≤ 1000) (hw : w ≤ S.length) (h1 : (Lk S w).length ≤ n) (h2 : w < S.length → n < (Lk S (w + 1)).length) : sp32 ((Lk S S.length).take n) (lastR S w) := by
  refine ok32 _ _ ?_
  unfold w32
  unfold B at hB
  have hpl : ((Lk S S.length).take n).length = n := by rw [List.length_take]; omega
  rw [hpl]
  refine ⟨fun t p ws c a => c = (w : Int) ∧ a = ((Lk S w).length : Int) ∧ (⟨t, p, ws⟩ : Sn) = lastS S w, ⟨fun t p ws c a => ∃ k : Nat, c = (k : Int) ∧ k ≤ w ∧ a = ((Lk S k).length : Int) ∧ (⟨t, p, ws⟩ : Sn) = lastS S k, fun _ _ _ _ a => n - a.toNat, ⟨0, rfl, by omega, rfl, rfl⟩, ?_⟩, ?_⟩
  · rintro t p ws _ _ ⟨k, rfl, hk, rfl, hl⟩
    have hkn := Lk_mono S hk
    refine ⟨by omega, ?_⟩
    rintro _ rfl
    refine ⟨fun h4 => ⟨by omega, ?_⟩, fun h4 => ?_⟩
    · rintro _ rfl
      have hkS : k < S.length := by
        rcases Nat.lt_or_ge k S.length with h | h
        · exact h
        · have : k = S.length := by omega
          subst this
          omega
      obtain ⟨s, hs⟩ := get_of_lt hkS
      obtain ⟨hg, h32⟩ := hS s (List.mem_of_getElem? hs)
      obtain ⟨r, hr⟩ := Lk_rest hs
      have hlen := Lk_len hs
      have eb : (((Lk S S.length).take n).take ((n : Int) : Int).toNat).drop ((Lk S k).length : Int).toNat = (pt (encSn s) ++ r).take (n - (Lk S k).length) := by
        rw [Int.toNat_natCast, Int.toNat_natCast, List.take_take, Nat.min_self, hr, List.take_append, List.drop_append, List.length_take]
        rw [List.drop_of_length_le (by rw [List.length_take]; omega), List.nil_append, show (Lk S k).length - min n (Lk S k).length = 0 by omega, List.drop_zero]
      rw [eb]
      generalize hx : encSn s = x at *
      have e0 : pt x ++ r = UInt8.ofNat (x.length / 256 ^ 3 % 256) :: UInt8.ofNat (x.length / 256 ^ 2 % 256) :: UInt8.ofNat (x.length / 256 ^ 1 % 256) :: UInt8.ofNat (x.length / 256 ^ 0 % 256) :: (x ++ r) := by
        simp [pt, be]
      have hq := be4_q4 h32
      have hrl : (Lk S S.length).length = (Lk S k).length + (x.length + 4 + r.length) := by rw [hr, List.length_append, List.length_append, pt_len]
      obtain ⟨m, hm⟩ : ∃ m, n - (Lk S k).length = m + 4 := ⟨n - (Lk S k).length - 4, by omega⟩
      rw [e0, hm]
      generalize UInt8.ofNat (x.length / 256 ^ 3 % 256) = b0 at *
      generalize UInt8.ofNat (x.length / 256 ^ 2 % 256) = b1 at *
      generalize UInt8.ofNat (x.length / 256 ^ 1 % 256) = b2 at *
      generalize UInt8.ofNat (x.length / 256 ^ 0 % 256) = b3 at *
      have et : (b0 :: b1 :: b2 :: b3 :: (x ++ r)).take (m + 4) = b0 :: b1 :: b2 :: b3 :: ((x ++ r).take m) := rfl
      rw [et]
      have hml : ((x ++ r).take m).length = m := by rw [List.length_take, List.length_append]; omega
      generalize hy : (x ++ r).take m = y at *
      simp only [List.length_cons]
      refine ⟨by omega, fun a ha => ?_⟩
      have e1 : a = b0 := by simpa using ha.symm
      subst e1
      refine ⟨by simp [ibinOk], ?_⟩
      rintro _ rfl
      refine ⟨by omega, fun b hb => ?_⟩
      have e2 : b = b1 := by simpa using hb.symm
      subst e2
      refine ⟨by simp [ibinOk], ?_⟩
      rintro _ rfl
      refine ⟨by simp [ibinOk], ?_⟩
      rintro _ rfl
      refine ⟨by omega, fun c hc => ?_⟩
      have e3 : c = b2 := by simpa using hc.symm
      subst e3
      refine ⟨by simp [ibinOk], ?_⟩
      rintro _ rfl
      refine ⟨by simp [ibinOk], ?_⟩
      rintro _ rfl
      refine ⟨by omega, fun d hd => ?_⟩
      have e4 : d = b3 := by simpa using hd.symm
      subst e4
      refine ⟨by simp [ibinOk], ?_⟩
      rw [q4_int, hq]
      rintro _ rfl
      refine ⟨by omega, ?_⟩
      rintro _ rfl
      refine ⟨fun h5 => ?_, fun h5 => ?_⟩
      · have : k = w := by
          rcases Nat.lt_or_eq_of_le hk with h | h
          · have := Lk_mono S (show k + 1 ≤ w from h)
            omega
          · exact h
        subst this
        exact ⟨rfl, rfl, hl⟩
      · have hkw : k < w := by
          rcases Nat.lt_or_eq_of_le hk with h | h
          · exact h
          · subst h
            have := h2 hkS
            omega
        refine ⟨by omega, ?_⟩
        rintro _ rfl
        refine ⟨by omega, ?_⟩
        rintro _ rfl
        have e5 : ((a :: b :: c :: d :: y).take ((4 : Int) + (x.length : Int)).toNat).drop ((4 : Int) : Int).toNat = x := by
          rw [show ((4 : Int) + (x.length : Int)).toNat = x.length + 4 by omega]
          have : (a :: b :: c :: d :: y).take (x.length + 4) = a :: b :: c :: d :: (y.take x.length) := rfl
          rw [this]
          have : y.take x.length = x := by rw [← hy, List.take_take, Nat.min_eq_left (by omega), List.take_left]
          rw [this]
          rfl
        rw [e5]
        have hrd : readSn x = (s, 0) := by rw [← hx]; exact readSn_enc hg
        refine ⟨_, readSn_call x (by unfold B; omega), ?_⟩
        rw [hrd]
        refine ⟨fun h => absurd rfl h, fun _ => ⟨by omega, ?_⟩⟩
        rintro _ rfl
        refine ⟨by omega, ?_⟩
        rintro _ rfl
        refine ⟨by omega, ?_⟩
        rintro _ rfl
        refine ⟨⟨k + 1, by omega, by omega, by omega, ?_⟩, by (try dsimp only); omega⟩
        unfold lastS
        rw [if_neg (by omega), List.getD_eq_getElem?_getD, show k + 1 - 1 = k by omega, hs]
        rfl
    · have : k = w := by
        rcases Nat.lt_or_eq_of_le hk with h | h
        · obtain ⟨s, hs⟩ := get_of_lt (l := S) (j := k) (by omega)
          have := Lk_len hs
          have := Lk_mono S (show k + 1 ≤ w from h)
          omega
        · exact h
      subst this
      exact ⟨rfl, rfl, hl⟩
  · rintro t p ws _ _ ⟨rfl, rfl, hl⟩
    refine ⟨fun h => ?_, fun h => ?_⟩
    · unfold lastR
      rw [if_pos (by omega)]
      rfl
    · unfold lastR
      rw [if_neg (by omega), hl]
theorem parOf_small {n : Int} {k : Nat} {p : Pc} (h : PG n k p) (hk : k ≤ 8) (hg : PGood p) : (encP p).length ≤ 50000000 := by
  obtain ⟨a1, a2, a3, a4, a5, a6, a7, a8, a9, a10, a11, a12, a13⟩ := h
  have r1 := hg.ok.ref
  have e1 := leb_10 (n := p.Ref.toNat) (by omega)
  have e3 := leb_10 (n := p.Box.length) (by omega)
  have e4 : (catL encL p.Box).length ≤ 8 * 1616441 := Nat.le_trans (catL_len fun a ha => encL_len (a7 a ha).ok (a7 a ha).check) (Nat.mul_le_mul_right _ (by omega))
  have e5 := leb_10 (zig_lt hg.ok.ticks)
  have e6 := leb_10 (n := p.Watches.length) (by omega)
  have e7 := leb_10 (n := p.Links.length) (by omega)
  have nl : ∀ n : Int, n ≤ 9223372036854775807 → (lebI n).length ≤ 10 := fun n hn => leb_10 (n := n.toNat) (by omega)
  have e8 : (catL lebI p.Watches).length ≤ 8 * 10 := Nat.le_trans (catL_len fun a ha => nl a (hg.ok.wa a ha)) (Nat.mul_le_mul_right _ (by omega))
  have e9 : (catL lebI p.Links).length ≤ 8 * 10 := Nat.le_trans (catL_len fun a ha => nl a (hg.ok.li a ha)) (Nat.mul_le_mul_right _ (by omega))
  have s1 := leb_10 (n := p.Saved.Actor.length) (by rw [a2]; simp)
  have s2 := leb_10 (n := p.Saved.State.length) (by omega)
  have s3 := leb_10 (n := p.Saved.Inputs.length) (by omega)
  have s4 : (encs p.Saved.State).length ≤ 6 * 1612400 := by
    rw [encs_catL]
    exact Nat.le_trans (catL_len fun a ha => (check_len (a3 a ha).ok (a3 a ha).check).1) (Nat.mul_le_mul_right _ a4)
  have s5 : (catL encI p.Saved.Inputs).length ≤ 16 * 1612401 := Nat.le_trans (catL_len fun a ha => encI_len (a5 a ha).ok (a5 a ha).check) (Nat.mul_le_mul_right _ (by omega))
  have s6 : p.Saved.Actor.length = 1 := by rw [a2]; rfl
  unfold encP encS
  simp only [List.length_append]
  omega
theorem snOf_len (n : Int) {l : List Rw} (hn : I64 n) (hl : RwsOk l) : (encSn (snOf n l)).length ≤ 200000000 := by
  have r3 := restN_lt n (m := 3) (by omega)
  have r7 := restN_lt (n.tdiv 7) (m := 3) (by omega)
  have hg := snOf_good n hn hl
  obtain ⟨h1, h2, h3, h4, h5⟩ := snE_zero hg.check
  have hp : (catL (fun p => pt (encP p)) (snOf n l).Parcels).length ≤ (snOf n l).Parcels.length * 50000004 := catL_len fun p hp => by
    have hgp := (hg.p p hp).1
    obtain ⟨i, hi, rfl⟩ := List.mem_map.1 hp
    have h1 := pst_good (1001 + (i : Int)) (rws_drop hl i) (min (l.drop i).length 8)
    change PG _ _ (parOf _ (l.drop i)) at h1
    have := parOf_small h1 (by omega) hgp
    rw [pt_len]; omega
  have hw : (catL (fun w => pt (encW w)) (snOf n l).Ways).length ≤ (snOf n l).Ways.length * 6553706 := catL_len fun w hw => by
    have := encW_len (h5 w hw).2.2.2.2.1 (hg.w w hw).1
    rw [pt_len]; omega
  have n1 : (snOf n l).Parcels.length ≤ 3 := by unfold snOf; simp; omega
  have n2 : (snOf n l).Ways.length ≤ 2 := by unfold snOf; simp; omega
  unfold encSn
  simp only [List.length_append, be_len, List.length_cons, List.length_nil]
  omega
theorem tornSn_call (l : List Rw) (many n : Int) (hl : RwsOk l) (hm : I64 many) (hn : I64 n) : sp9 l many n true := by
  have hl2 := hl.2
  unfold B at hl2
  refine ok9 _ _ _ _ ?_
  unfold w9
  have r4 := restN_lt many (m := 4) (by omega)
  refine ⟨_, rest_call many 4 (by omega) hm, by omega, ?_⟩
  rintro _ rfl
  generalize hM : 1 + restN many 4 = M at *
  have hMi : (1 : Int) + (restN many 4 : Int) = (M : Int) := by omega
  rw [hMi]
  -- the snapshots
  let f : Nat → Sn := fun i => snOf ((i : Int) * 13) (l.drop i)
  have hf : ∀ i, i < 5 → SGood (f i) ∧ (encSn (f i)).length ≤ 200000000 := fun i hi =>
    ⟨snOf_good _ (by unfold I64; omega) (rws_drop hl i), snOf_len _ (by unfold I64; omega) (rws_drop hl i)⟩
  have hget : ∀ k i : Nat, i < k → ((List.range k).map f)[i]? = some (f i) := fun k i hi => by simp [hi]
  have hLe : ∀ k j : Nat, j ≤ k → Lk ((List.range k).map f) j = Lk ((List.range j).map f) j := fun k j hj => by
    unfold Lk
    congr 1
    rw [← List.map_take, ← List.map_take, List.take_range, List.take_range, Nat.min_eq_left hj, Nat.min_self]
  have hLn : ∀ k : Nat, k ≤ 5 → (Lk ((List.range k).map f) k).length ≤ k * 200000004 := by
    intro k
    induction k with
    | zero => intro _; simp [Lk, catL]
    | succ k ih =>
      intro hk
      have := ih (by omega)
      rw [Lk_len (hget (k + 1) k (by omega)), hLe (k + 1) k (by omega)]
      have := (hf k (by omega)).2
      omega
  refine ⟨fun log ends all i => ∃ k : Nat, i = k ∧ k ≤ M ∧ log = Lk ((List.range k).map f) k ∧ ends = (List.range (k + 1)).map (fun j => ((Lk ((List.range j).map f) j).length : Int)) ∧ all = (List.range k).map f, fun _ _ _ i => M - i.toNat, ⟨0, rfl, by omega, rfl, by simp [Lk, catL], rfl⟩, ?_⟩
  rintro _ _ _ _ ⟨k, rfl, hk, rfl, rfl, rfl⟩ t rfl
  have hk5 := hLn k (by omega)
  refine ⟨fun h => ?_, fun h => ?_⟩
  · have hkM : k < M := by simp at h; omega
    refine ⟨by omega, ?_⟩
    rintro _ rfl
    rintro _ rfl
    refine ⟨by omega, ?_⟩
    rintro _ rfl
    have e1 : (l.take ((l.length : Int) : Int).toNat).drop (min (l.length : Int) (k : Int)).toNat = l.drop k := by
      rw [Int.toNat_natCast, List.take_length]
      by_cases hc : k ≤ l.length
      · rw [show (min (l.length : Int) (k : Int)).toNat = k by omega]
      · rw [List.drop_of_length_le (by omega), List.drop_of_length_le (by omega)]
    rw [e1]
    obtain ⟨hg, hlen⟩ := hf k (by omega)
    refine ⟨_, snapOf_call ((k : Int) * 13) (by unfold I64; omega) (rws_drop hl k), ?_⟩
    change ∃ r26, sp31 _ (f k) r26 ∧ _
    have hL := Lk_snoc (hget (k + 1) k (by omega))
    rw [hLe (k + 1) k (by omega)] at hL
    refine ⟨_, add_call _ hg (by unfold B; omega), fun h => absurd rfl h, fun _ => ⟨fun h => ?_, fun h => ?_⟩⟩
    · dsimp only at h
      rw [List.length_append, pt_len] at h
      omega
    · refine ⟨by simp; omega, ?_⟩
      rintro _ rfl
      refine ⟨by simp; omega, ?_⟩
      rintro _ rfl
      refine ⟨by omega, ?_⟩
      rintro _ rfl
      refine ⟨⟨k + 1, by omega, by omega, hL.symm, ?_, ?_⟩, by (try dsimp only); omega⟩
      · rw [snoc_range (fun j => ((Lk ((List.range j).map f) j).length : Int)) (k + 1), hL]
      · rw [snoc_range f k]
  · have hkM : k = M := by simp at h; omega
    subst hkM
    refine ⟨by omega, ?_⟩
    rintro _ rfl
    generalize hS : (List.range k).map f = S at *
    have hSl : S.length = k := by rw [← hS]; simp
    have hr := restN_lt n (m := (Lk S k).length + 1) (by omega)
    have hrc := rest_call n ((Lk S k).length + 1) (by omega) hn
    rw [Int.natCast_add, Int.natCast_one] at hrc
    refine ⟨_, hrc, ?_⟩
    generalize restN n ((Lk S k).length + 1) = r at *
    have hends : ∀ j : Nat, j ≤ k → ((List.range (k + 1)).map (fun j => ((Lk ((List.range j).map f) j).length : Int)))[j]? = some ((Lk S j).length : Int) := fun j hj => by
      have e := hLe k j hj
      rw [hS] at e
      rw [e]
      simp [show j < k + 1 by omega]
    have hSg : ∀ s ∈ S, SGood s ∧ (encSn s).length < 4294967296 := by
      intro s hs
      rw [← hS] at hs
      obtain ⟨i, hi, rfl⟩ := List.mem_map.1 hs
      have := hf i (by simp at hi; omega)
      exact ⟨this.1, by omega⟩
    refine ⟨fun w => ∃ j : Nat, w = j ∧ j ≤ k ∧ (Lk S j).length ≤ r ∧ (j < k → r < (Lk S (j + 1)).length), ⟨fun w => ∃ j : Nat, w = j ∧ j ≤ k ∧ (Lk S j).length ≤ r, fun w => k - w.toNat, ⟨0, rfl, by omega, by simp [Lk, catL]⟩, ?_⟩, ?_⟩
    · rintro _ ⟨j, rfl, hj, hjr⟩
      refine ⟨fun h => ⟨by omega, ?_⟩, fun h => ⟨j, rfl, hj, hjr, fun h' => by omega⟩⟩
      rintro _ rfl
      refine ⟨by simp; omega, fun a ha => ?_⟩
      have ha' := hends (j + 1) (by omega)
      rw [show ((j : Int) + 1).toNat = j + 1 by omega, ha'] at ha
      injection ha with ha
      subst ha
      refine ⟨fun h6 => ⟨by omega, ?_⟩, fun h6 => ⟨j, rfl, hj, hjr, fun _ => by omega⟩⟩
      rintro _ rfl
      exact ⟨⟨j + 1, by omega, by omega, by omega⟩, by (try dsimp only); omega⟩
    · rintro _ ⟨w, rfl, hw, hwr, hwn⟩
      refine ⟨by omega, ?_⟩
      rintro _ rfl
      have e0 : ((Lk S k).take ((r : Int) : Int).toNat).drop ((0 : Int) : Int).toNat = (Lk S S.length).take r := by rw [hSl]; simp
      rw [e0]
      refine ⟨_, last_call S hSg r w (by rw [hSl]; omega) (by rw [hSl]; unfold B; omega) (by omega) (by omega) hwr (by rw [hSl]; exact hwn), ?_⟩
      unfold lastR
      refine ⟨fun h0 => ?_, fun h0 => ?_⟩
      · rw [if_pos (by omega)]
        refine ⟨fun _ => ?_, fun h => absurd rfl h⟩
        rintro _ rfl
        rfl
      · rw [if_neg (by omega)]
        refine ⟨fun _ => ⟨fun _ => ⟨by simp; omega, fun a ha => ?_⟩, fun h => absurd rfl h⟩, fun h => absurd rfl h⟩
        rw [Int.toNat_natCast, hends w hw] at ha
        injection ha with ha
        subst ha
        refine ⟨fun _ => ⟨by omega, ?_⟩, fun h => absurd rfl h⟩
        rintro _ rfl
        refine ⟨by omega, fun a ha => ?_⟩
        rw [show ((w : Int) - 1).toNat = w - 1 by omega] at ha
        have e1 : lastS S w = a := by
          unfold lastS
          rw [if_neg (by omega), List.getD_eq_getElem?_getD, ha]
          rfl
        dsimp only
        rw [e1, sneta]
        exact ⟨_, sameSn_self (hSg a (List.mem_of_getElem? ha)).1, rfl⟩
end Go.Hw.VB

