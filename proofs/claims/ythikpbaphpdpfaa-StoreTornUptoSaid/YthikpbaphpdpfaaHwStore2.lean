import Derived.Test.YthikpbaphpdpfaaHwStore1
set_option linter.unusedVariables false
set_option linter.unusedSimpArgs false
namespace Go.Hw.VB
open Go Go.Proofs
abbrev Sn := GsSnap
abbrev Wy := GsWay
theorem peta (p : Pc) : GaParcel.mk p.Ref (GaSaved.mk p.Saved.Actor p.Saved.State p.Saved.Inputs) p.Box p.Ticks p.Watches p.Links = p := rfl
theorem weta (w : Wy) : GsWay.mk w.From w.To w.Letters = w := rfl
theorem sneta (s : Sn) : GsSnap.mk s.Time s.Parcels s.Ways = s := rfl


def partsO : Nat → List UInt8 → Option (List (List UInt8) × List UInt8)
  | 0, b => some ([], b)
  | k + 1, a :: b :: c :: d :: r => if r.length < q4 a b c d then none else (partsO k (r.drop (q4 a b c d))).map fun p => (r.take (q4 a b c d) :: p.1, p.2)
  | _ + 1, _ => none
def partsR (k : Nat) (b : List UInt8) : List (List UInt8) × Bool :=
  match partsO k b with
  | some (l, r) => (l, r.length == 0)
  | none => ([], false)
theorem q4_int (a b c d : UInt8) : iop .or .i64 (iop .or .i64 (iop .or .i64 (iop .shl .i64 (a.toNat : Int) 24) (iop .shl .i64 (b.toNat : Int) 16)) (iop .shl .i64 (c.toNat : Int) 8)) (d.toNat : Int) = (q4 a b c d : Int) := by
  have h1 := u8_lt a
  have h2 := u8_lt b
  have h3 := u8_lt c
  have h4 := u8_lt d
  have e1 : iop .shl .i64 (a.toNat : Int) 24 = _ := shl_i64 a.toNat 24 (by omega) (by omega)
  have e2 : iop .shl .i64 (b.toNat : Int) 16 = _ := shl_i64 b.toNat 16 (by omega) (by omega)
  have e3 : iop .shl .i64 (c.toNat : Int) 8 = _ := shl_i64 c.toNat 8 (by omega) (by omega)
  rw [e1, e2, e3]
  have o1 : a.toNat * 2 ^ 24 ||| b.toNat * 2 ^ 16 = (a.toNat * 256 + b.toNat) * 2 ^ 16 := by
    rw [Nat.or_comm, or_add' (by omega)]; omega
  have o2 : (a.toNat * 256 + b.toNat) * 2 ^ 16 ||| c.toNat * 2 ^ 8 = ((a.toNat * 256 + b.toNat) * 256 + c.toNat) * 2 ^ 8 := by
    rw [Nat.or_comm, show (a.toNat * 256 + b.toNat) * 2 ^ 16 = (a.toNat * 256 + b.toNat) * 2 ^ 16 from rfl, or_add' (by omega)]; omega
  have o3 : ((a.toNat * 256 + b.toNat) * 256 + c.toNat) * 2 ^ 8 ||| d.toNat = q4 a b c d := by
    rw [Nat.or_comm, or_add' (by omega)]; unfold q4; omega
  rw [or_i64 _ _ (by omega) (by omega), o1, or_i64 _ _ (by omega) (by omega), o2, or_i64 _ _ (by omega) (by omega), o3]
theorem q4_lt (a b c d : UInt8) : q4 a b c d < 4294967296 := by
  have h1 := u8_lt a
  have h2 := u8_lt b
  have h3 := u8_lt c
  have h4 := u8_lt d
  unfold q4; omega
theorem be4_q4 {n : Nat} (h : n < 4294967296) : q4 (UInt8.ofNat (n / 256 ^ 3 % 256)) (UInt8.ofNat (n / 256 ^ 2 % 256)) (UInt8.ofNat (n / 256 ^ 1 % 256)) (UInt8.ofNat (n / 256 ^ 0 % 256)) = n := by
  unfold q4
  rw [u8_of, u8_of, u8_of, u8_of]
  omega
theorem parts_call (b : List UInt8) (k : Nat) (hk : k ≤ 600) (hb : b.length ≤ B) : sp69 b (k : Int) (partsR k b) := by
  refine ok69 _ _ _ ?_
  unfold w69
  unfold B at hb
  refine ⟨fun r acc i => ∃ j : Nat, i = j ∧ j ≤ k ∧ acc.length = j ∧ r.length ≤ b.length ∧ partsO k b = (partsO (k - j) r).map fun p => (acc ++ p.1, p.2), fun _ _ i => k - i.toNat, ⟨0, rfl, by omega, rfl, by omega, ?_⟩, ?_⟩
  · cases partsO k b <;> simp
  rintro r acc i ⟨j, rfl, hj, hacc, hr, he⟩ t rfl
  refine ⟨fun h => ?_, fun h => ?_⟩
  · have hjk : j < k := by simp at h; omega
    obtain ⟨m, hm⟩ : ∃ m, k - j = m + 1 := ⟨k - j - 1, by omega⟩
    rw [hm] at he
    refine ⟨fun h4 => ?_, fun h4 => ?_⟩
    · have : partsO (m + 1) r = none := by
        match r, h4 with
        | [], _ => rfl
        | [_], _ => rfl
        | [_, _], _ => rfl
        | [_, _, _], _ => rfl
        | _ :: _ :: _ :: _ :: _, h4 => simp at h4; omega
      rw [this] at he
      unfold partsR
      rw [he]
      rfl
    · match r, h4 with
      | a :: b1 :: c :: d :: r, h4 =>
        refine ⟨by omega, fun a' ha => ?_⟩
        have ea : a' = a := by simpa using ha.symm
        subst ea
        refine ⟨by simp [ibinOk], ?_⟩
        rintro _ rfl
        refine ⟨by omega, fun b' hb' => ?_⟩
        have eb : b' = b1 := by simpa using hb'.symm
        subst eb
        refine ⟨by simp [ibinOk], ?_⟩
        rintro _ rfl
        refine ⟨by simp [ibinOk], ?_⟩
        rintro _ rfl
        refine ⟨by omega, fun c' hc' => ?_⟩
        have ec : c' = c := by simpa using hc'.symm
        subst ec
        refine ⟨by simp [ibinOk], ?_⟩
        rintro _ rfl
        refine ⟨by simp [ibinOk], ?_⟩
        rintro _ rfl
        refine ⟨by omega, fun d' hd' => ?_⟩
        have ed : d' = d := by simpa using hd'.symm
        subst ed
        refine ⟨by simp [ibinOk], ?_⟩
        rw [q4_int]
        rintro _ rfl
        have hq := q4_lt a' b' c' d'
        simp only [List.length_cons] at hr h4 ⊢
        refine ⟨by omega, ?_⟩
        rintro _ rfl
        rw [partsO] at he
        refine ⟨fun h5 => ?_, fun h5 => ?_⟩
        · rw [if_pos (by omega)] at he
          unfold partsR
          rw [he]
          rfl
        · rw [if_neg (by omega)] at he
          generalize q4 a' b' c' d' = q at *
          refine ⟨by omega, ?_⟩
          rintro _ rfl
          refine ⟨by omega, ?_⟩
          rintro _ rfl
          have e1 : ((a' :: b' :: c' :: d' :: r).take ((4 : Int) + (q : Int)).toNat).drop ((4 : Int) : Int).toNat = r.take q := by
            rw [show ((4 : Int) + (q : Int)).toNat = q + 4 by omega]
            simp
          rw [e1]
          refine ⟨by simp; omega, ?_⟩
          rintro _ rfl
          refine ⟨by omega, ?_⟩
          rintro _ rfl
          refine ⟨by omega, ?_⟩
          rintro _ rfl
          refine ⟨by omega, ?_⟩
          rintro _ rfl
          refine ⟨⟨j + 1, by omega, by omega, by simp; omega, ?_, ?_⟩, by (try dsimp only); omega⟩
          · rw [List.length_drop, List.length_take]; simp only [List.length_cons]; omega
          · have e2 : ((a' :: b' :: c' :: d' :: r).take (((r.length + 1 + 1 + 1 + 1 : Nat) : Int)).toNat).drop ((4 : Int) + (q : Int)).toNat = r.drop q := by
              rw [show ((4 : Int) + (q : Int)).toNat = q + 4 by omega, List.take_of_length_le (by simp only [List.length_cons]; omega)]
              simp
            rw [e2, he, show k - (j + 1) = m by omega]
            cases partsO m (r.drop q) <;> simp
  · have hjk : j = k := by simp at h; omega
    subst hjk
    rintro _ rfl
    rw [Nat.sub_self, partsO] at he
    unfold partsR
    rw [he]
    simp only [Option.map_some, List.append_nil, Bool.false_eq_true, if_false, Prod.mk.injEq, true_and]
    rw [Bool.eq_iff_iff]
    simp
def pt (b : List UInt8) : List UInt8 := be 4 b.length ++ b
theorem pt_len (b : List UInt8) : (pt b).length = b.length + 4 := by rw [pt, List.length_append, be_len]; omega
theorem parts_pts : ∀ (l : List (List UInt8)) (s : List UInt8), (∀ x ∈ l, x.length < 4294967296) → partsO l.length (catL pt l ++ s) = some (l, s)
  | [], s, _ => rfl
  | x :: l, s, h => by
    have e : catL pt (x :: l) ++ s = UInt8.ofNat (x.length / 256 ^ 3 % 256) :: UInt8.ofNat (x.length / 256 ^ 2 % 256) :: UInt8.ofNat (x.length / 256 ^ 1 % 256) :: UInt8.ofNat (x.length / 256 ^ 0 % 256) :: (x ++ (catL pt l ++ s)) := by
      simp [catL, pt, be]
    rw [e, List.length_cons, partsO, be4_q4 (h x (by simp)), if_neg (by simp), List.take_left, List.drop_left, parts_pts l s (fun y hy => h y (by simp [hy]))]
    rfl


def firstI {A : Type} (g : Nat → A → Int) (l : List A) : Int := firstE (fun q : A × Nat => g q.2 q.1) l.zipIdx
theorem firstI_at {A : Type} {g : Nat → A → Int} {l : List A} {k : Nat} {a : A} (h : ∀ j < k, ∀ b, l[j]? = some b → g j b = 0) (ha : l[k]? = some a) (hn : g k a ≠ 0) : firstI g l = g k a := by
  unfold firstI
  refine firstE_at (k := k) (a := (a, k)) ?_ (by rw [List.getElem?_zipIdx, ha]; simp) hn
  rintro ⟨b, j⟩ hb
  obtain ⟨i, hi⟩ := List.getElem?_of_mem hb
  rw [List.getElem?_take] at hi
  split at hi
  · rename_i hik
    rw [List.getElem?_zipIdx] at hi
    cases hl : l[i]? with
    | none => rw [hl] at hi; simp at hi
    | some c =>
      rw [hl] at hi
      simp at hi
      obtain ⟨rfl, rfl⟩ := hi
      exact h i hik c hl
  · cases hi
theorem firstI_zero {A : Type} {g : Nat → A → Int} {l : List A} : firstI g l = 0 ↔ ∀ j b, l[j]? = some b → g j b = 0 := by
  unfold firstI
  rw [firstE_zero]
  constructor
  · intro h j b hb
    exact h (b, j) (List.mem_of_getElem? (i := j) (by rw [List.getElem?_zipIdx, hb]; simp))
  · rintro h ⟨b, j⟩ hb
    obtain ⟨i, hi⟩ := List.getElem?_of_mem hb
    rw [List.getElem?_zipIdx] at hi
    cases hl : l[i]? with
    | none => rw [hl] at hi; simp at hi
    | some c =>
      rw [hl] at hi
      simp at hi
      obtain ⟨rfl, rfl⟩ := hi
      exact h i c hl
def ordB (w : Wy) (ahead : List Wy) : Prop := ∃ a, ahead[ahead.length - 1]? = some a ∧ (w.From < a.From ∨ (a.From = w.From ∧ w.To ≤ a.To))
open Classical in
noncomputable def wayE (w : Wy) (ahead : List Wy) : Int :=
  if w.From < 1 ∨ 8 < w.From ∨ w.To < 1 ∨ 8 < w.To ∨ w.From = w.To then 1 else if 100 < w.Letters.length then 2 else if ordB w ahead then 21 else firstE checkLF w.Letters
structure WOk (w : Wy) : Prop where
  n : w.Letters.length ≤ B
  l : ∀ x ∈ w.Letters, LOk x
theorem way_call (w : Wy) (ahead : List Wy) (hw : WOk w) (ha : ahead.length ≤ B) : sp93 w ahead (wayE w ahead) := by
  have hn := hw.n
  unfold B at hn ha
  refine ok93 _ _ _ ?_
  unfold w93 wayE
  refine ⟨fun h => by rw [if_pos (.inl h)], fun h1 => ⟨fun h => by rw [if_pos (.inr (.inl h))], fun h2 => ⟨fun h => by rw [if_pos (.inr (.inr (.inl h)))], fun h3 => ⟨fun h => by rw [if_pos (.inr (.inr (.inr (.inl h))))], fun h4 => ⟨fun h => by rw [if_pos (.inr (.inr (.inr (.inr h))))], fun h5 => ⟨fun h => by rw [if_neg (by omega), if_pos (by omega)], fun h6 => ?_⟩⟩⟩⟩⟩⟩
  rw [if_neg (by omega), if_neg (by omega)]
  refine ⟨¬ ordB w ahead, ⟨fun h => ⟨by omega, ?_⟩, fun h => ?_⟩, fun hno => ?_⟩
  · rintro _ rfl
    refine ⟨by omega, fun a ha' => ?_⟩
    have ha2 : ahead[ahead.length - 1]? = some a := by rw [show ((ahead.length : Int) - 1).toNat = ahead.length - 1 by omega] at ha'; exact ha'
    refine ⟨fun h7 => by rw [if_pos ⟨a, ha2, .inl h7⟩], fun h7 => ⟨by omega, ?_⟩⟩
    rintro _ rfl
    refine ⟨by omega, fun b hb' => ?_⟩
    rw [ha'] at hb'; injection hb' with hb'; subst hb'
    refine ⟨fun h8 => ⟨by omega, ?_⟩, fun h8 => ?_⟩
    · rintro _ rfl
      refine ⟨by omega, fun b hb' => ?_⟩
      rw [ha'] at hb'; injection hb' with hb'; subst hb'
      refine ⟨fun h9 => by rw [if_pos ⟨a, ha2, .inr ⟨h8, h9⟩⟩], fun h9 => ?_⟩
      rintro ⟨c, hc, hc'⟩
      rw [ha2] at hc; injection hc with hc; subst hc
      omega
    · rintro ⟨c, hc, hc'⟩
      rw [ha2] at hc; injection hc with hc; subst hc
      omega
  · rintro ⟨c, hc, _⟩
    have : ahead = [] := List.eq_nil_of_length_eq_zero (by omega)
    subst this
    simp at hc
  · rw [if_neg hno]
    refine ⟨fun i => ∃ k : Nat, i = k ∧ k ≤ w.Letters.length ∧ ∀ b ∈ w.Letters.take k, checkLF b = 0, fun i => w.Letters.length - i.toNat, ⟨0, rfl, by omega, by simp⟩, ?_⟩
    rintro _ ⟨k, rfl, hk, hall⟩ t rfl
    refine ⟨fun h => ?_, fun h => ?_⟩
    · have hkl : k < w.Letters.length := by simp at h; omega
      refine ⟨by omega, fun a ha => ?_⟩
      have ha' : w.Letters[k]? = some a := by simpa using ha
      rw [leta]
      refine ⟨_, checkL_call a (hw.l a (List.mem_of_getElem? ha')).v, fun h => (firstE_at hall ha' h).symm, fun h => ⟨by omega, ?_⟩⟩
      rintro _ rfl
      exact ⟨⟨k + 1, by omega, by omega, take_snoc hall ha' h⟩, by dsimp only; omega⟩
    · have hkl : k = w.Letters.length := by simp at h; omega
      subst hkl
      rw [List.take_length] at hall
      exact (firstE_zero.2 hall).symm
open Classical in
noncomputable def parE (l : List Pc) (i : Nat) (p : Pc) : Int :=
  if checkPF p ≠ 0 then checkPF p else if 0 < i ∧ ∃ q, l[i - 1]? = some q ∧ p.Ref ≤ q.Ref then 21 else 0
noncomputable def snE (s : Sn) : Int :=
  if 100 < s.Parcels.length then 2 else if 60 < s.Ways.length then 2 else if s.Time < 0 then 1 else
  if firstI (parE s.Parcels) s.Parcels ≠ 0 then firstI (parE s.Parcels) s.Parcels else firstI (fun i w => wayE w (s.Ways.take i)) s.Ways
structure SnOk (s : Sn) : Prop where
  p : ∀ p ∈ s.Parcels, POk2 p
  w : ∀ w ∈ s.Ways, WOk w
  t : I64 s.Time
theorem checkSn_call (s : Sn) (hs : SnOk s) : sp64 s (snE s) := by
  refine ok64 _ _ ?_
  unfold w64 snE
  refine ⟨fun h => by rw [if_pos (by omega)], fun h1 => ⟨fun h => by rw [if_neg (by omega), if_pos (by omega)], fun h2 => ⟨fun h => by rw [if_neg (by omega), if_neg (by omega), if_pos (by omega)], fun h3 => ?_⟩⟩⟩
  rw [if_neg (by omega), if_neg (by omega), if_neg (by omega)]
  refine ⟨fun i => ∃ k : Nat, i = k ∧ k ≤ s.Parcels.length ∧ ∀ j < k, ∀ b, s.Parcels[j]? = some b → parE s.Parcels j b = 0, fun i => s.Parcels.length - i.toNat, ⟨0, rfl, by omega, by simp⟩, ?_⟩
  rintro _ ⟨k, rfl, hk, hall⟩ t rfl
  refine ⟨fun h => ?_, fun h => ?_⟩
  · have hkl : k < s.Parcels.length := by simp at h; omega
    refine ⟨by omega, fun a ha => ?_⟩
    have ha' : s.Parcels[k]? = some a := by simpa using ha
    rw [peta]
    have step : checkPF a = 0 → ¬ (0 < k ∧ ∃ q, s.Parcels[k - 1]? = some q ∧ a.Ref ≤ q.Ref) → ∀ j < k + 1, ∀ b, s.Parcels[j]? = some b → parE s.Parcels j b = 0 := by
      intro g1 g2 j hj b hb
      rcases Nat.lt_or_eq_of_le (Nat.le_of_lt_succ hj) with h5 | rfl
      · exact hall j h5 b hb
      · rw [ha'] at hb; injection hb with hb; subst hb
        unfold parE
        rw [if_neg (by simp [g1]), if_neg g2]
    refine ⟨_, checkP_call a (hs.p a (List.mem_of_getElem? ha')).toPOk, fun h => ?_, fun h => ⟨fun h4 => ⟨by omega, ?_⟩, fun h4 => ⟨by omega, ?_⟩⟩⟩
    · have e : parE s.Parcels k a = checkPF a := by unfold parE; rw [if_pos h]
      have := firstI_at hall ha' (by rw [e]; exact h)
      rw [if_pos (by rw [this, e]; exact h), this, e]
    · rintro _ rfl
      refine ⟨by omega, fun q hq => ?_⟩
      have hq' : s.Parcels[k - 1]? = some q := by rw [show ((k : Int) - 1).toNat = k - 1 by omega] at hq; exact hq
      refine ⟨fun h5 => ?_, fun h5 => ⟨by omega, ?_⟩⟩
      · have e : parE s.Parcels k a = 21 := by unfold parE; rw [if_neg (by simp [h]), if_pos ⟨by omega, q, hq', h5⟩]
        have := firstI_at hall ha' (by rw [e]; decide)
        rw [if_pos (by rw [this, e]; decide), this, e]
      · rintro _ rfl
        refine ⟨⟨k + 1, by omega, by omega, step h ?_⟩, by dsimp only; omega⟩
        rintro ⟨_, q2, h6, h7⟩
        rw [hq'] at h6; injection h6 with h6; subst h6
        omega
    · rintro _ rfl
      refine ⟨⟨k + 1, by omega, by omega, step h ?_⟩, by dsimp only; omega⟩
      rintro ⟨h6, _⟩
      omega
  · have hkl : k = s.Parcels.length := by simp at h; omega
    have hz : firstI (parE s.Parcels) s.Parcels = 0 := firstI_zero.2 fun j b hb => hall j (by rw [hkl]; exact lt_of_get hb) b hb
    rw [if_neg (by simp [hz])]
    clear hall hk h
    refine ⟨fun i => ∃ k : Nat, i = k ∧ k ≤ s.Ways.length ∧ ∀ j < k, ∀ b, s.Ways[j]? = some b → wayE b (s.Ways.take j) = 0, fun i => s.Ways.length - i.toNat, ⟨0, rfl, by omega, by simp⟩, ?_⟩
    rintro _ ⟨k, rfl, hk, hall⟩ t rfl
    refine ⟨fun h => ?_, fun h => ?_⟩
    · have hkl : k < s.Ways.length := by simp at h; omega
      refine ⟨by omega, fun a ha => ⟨by omega, ?_⟩⟩
      have ha' : s.Ways[k]? = some a := by simpa using ha
      rintro _ rfl
      have e0 : (s.Ways.take ((k : Nat) : Int).toNat).drop ((0 : Int) : Int).toNat = s.Ways.take k := by simp
      rw [e0, weta]
      refine ⟨_, way_call a _ (hs.w a (List.mem_of_getElem? ha')) (by rw [List.length_take]; unfold B; omega), fun h => (firstI_at (g := fun i w => wayE w (s.Ways.take i)) hall ha' h).symm, fun h => ⟨by omega, ?_⟩⟩
      rintro _ rfl
      refine ⟨⟨k + 1, by omega, by omega, ?_⟩, by dsimp only; omega⟩
      intro j hj b hb
      rcases Nat.lt_or_eq_of_le (Nat.le_of_lt_succ hj) with h5 | rfl
      · exact hall j h5 b hb
      · rw [ha'] at hb; injection hb with hb; subst hb; exact h
    · have hkl : k = s.Ways.length := by simp at h; omega
      exact (firstI_zero.2 fun j b hb => hall j (by rw [hkl]; exact lt_of_get hb) b hb).symm
end Go.Hw.VB

