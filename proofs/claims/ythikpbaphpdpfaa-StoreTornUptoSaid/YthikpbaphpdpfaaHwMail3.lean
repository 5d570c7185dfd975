import Derived.Test.YthikpbaphpdpfaaHwMail2
set_option linter.unusedVariables false
set_option linter.unusedSimpArgs false
namespace Go.Hw.VB
open Go Go.Proofs

structure VG (v : Vl) : Prop where
  ok : VOk v
  kind : AllV KindOk v
  check : checkE v = 0
def RwsOk (l : List Rw) : Prop := (∀ r ∈ l, RawOk r ∧ r.Text.length ≤ B) ∧ l.length ≤ B
theorem valOf_good {l : List Rw} (hl : RwsOk l) : VG (valOf l) := by
  obtain ⟨h1, h2, h3, h4⟩ := valOf_check hl.1
  exact ⟨⟨h2, h3⟩, h4, h1⟩
structure LG (x : Lt) : Prop where
  ok : LOk x
  kind : AllV KindOk x.Value
  check : checkLF x = 0
def letOf : List Rw → Lt
  | [] => ⟨3, 0, 0, 0, [], zeroV⟩
  | r :: rest =>
    let k : Int := 1 + restN r.Kind 5
    if k = 1 then ⟨k, restN r.A 3000, restN r.B 3000, 0, [], valOf rest⟩ else if k = 2 then ⟨k, restN r.A 3000, restN r.B 3000, restN r.A 3, r.Text.take 20, zeroV⟩
    else if k = 5 then ⟨k, restN r.A 3000, restN r.B 3000, 0, r.Text.take 20, zeroV⟩ else ⟨k, restN r.A 3000, restN r.B 3000, 0, [], zeroV⟩
theorem zeroB_zero : zeroB zeroV = true := (zeroB_iff _).2 rfl
theorem letOf_good {l : List Rw} (hl : RwsOk l) : LG (letOf l) := by
  obtain ⟨hl1, hl2⟩ := hl
  cases l with
  | nil => exact ⟨⟨zero_vrd.1, by decide, by decide⟩, zero_vrd.2, by unfold checkLF letOf; rw [if_neg (by decide), if_neg (by unfold badL; decide), if_neg (by decide), if_pos zeroB_zero]⟩
  | cons r rest =>
    have hk := restN_lt r.Kind (m := 5) (by omega)
    have ha := restN_lt r.A (m := 3000) (by omega)
    have hb := restN_lt r.B (m := 3000) (by omega)
    have hn := restN_lt r.A (m := 3) (by omega)
    have ht : (r.Text.take 20).length ≤ 20 := by rw [List.length_take]; omega
    have hv := valOf_good (l := rest) ⟨fun x hx => hl1 x (by simp [hx]), by simp at hl2; omega⟩
    unfold letOf
    dsimp only
    split
    · rename_i c
      refine ⟨⟨hv.ok, by dsimp only; omega, by dsimp only; omega⟩, hv.kind, ?_⟩
      unfold checkLF
      rw [if_neg (by simp), if_neg (by unfold badL; simp; omega), if_pos c]
      exact hv.check
    · split
      · rename_i c1 c
        refine ⟨⟨zero_vrd.1, by dsimp only; omega, by dsimp only; omega⟩, zero_vrd.2, ?_⟩
        unfold checkLF
        rw [if_neg (by dsimp only; omega), if_neg (by unfold badL; dsimp only; omega), if_neg c1, if_pos zeroB_zero]
      · split
        · rename_i c1 c2 c
          refine ⟨⟨zero_vrd.1, by dsimp only; omega, by dsimp only; omega⟩, zero_vrd.2, ?_⟩
          unfold checkLF
          rw [if_neg (by dsimp only; omega), if_neg (by unfold badL; dsimp only; omega), if_neg c1, if_pos zeroB_zero]
        · rename_i c1 c2 c
          refine ⟨⟨zero_vrd.1, by dsimp only; omega, by dsimp only; omega⟩, zero_vrd.2, ?_⟩
          unfold checkLF
          rw [if_neg (by simp), if_neg (by unfold badL; simp; omega), if_neg c1, if_pos zeroB_zero]
theorem letterOf_call {l : List Rw} (hl : RwsOk l) : sp17 l (letOf l) := by
  obtain ⟨hl1, hl2⟩ := hl
  refine ok17 _ _ ?_
  unfold w17
  unfold B at hl2
  cases l with
  | nil => exact ⟨fun _ => rfl, fun h => by simp at h⟩
  | cons r rest =>
    refine ⟨fun h => by simp at h; omega, fun _ => ⟨by simp, fun a ha => ?_⟩⟩
    simp at ha
    subst ha
    obtain ⟨⟨h1, h2, h3⟩, h4⟩ := hl1 r (by simp)
    have hk := restN_lt r.Kind (m := 5) (by omega)
    refine ⟨_, rest_call r.Kind 5 (by omega) h1, by omega, ?_⟩
    rintro _ rfl
    refine ⟨_, rest_call r.A 3000 (by omega) h2, _, rest_call r.B 3000 (by omega) h3, fun c => ⟨by simp; omega, ?_⟩, fun c1 => ⟨fun c => ?_, fun c2 => ⟨fun c => ?_, fun c3 => ?_⟩⟩⟩
    · rintro _ rfl
      have e : ((r :: rest).take (((r :: rest).length : Int)).toNat).drop (1 : Int).toNat = rest := by simp
      rw [e]
      refine ⟨_, valueOf_call (fun x hx => hl1 x (by simp [hx])) (by unfold B; simp at hl2; omega), ?_⟩
      rw [eta]
      unfold letOf
      dsimp only
      rw [if_pos c]
    · refine ⟨_, rest_call r.A 3 (by omega) h2, _, text_of r h4, ?_⟩
      unfold letOf
      dsimp only
      rw [if_neg c1, if_pos c]
      rfl
    · refine ⟨_, text_of r h4, ?_⟩
      unfold letOf
      dsimp only
      rw [if_neg c1, if_neg c2, if_pos c]
      rfl
    · unfold letOf
      dsimp only
      rw [if_neg c1, if_neg c2, if_neg c3]
      rfl
def sl (l : List Rw) (i : Nat) : List Rw := (l.take (min l.length (i + 6))).drop i
theorem sl_ok {l : List Rw} (hl : RwsOk l) (i : Nat) : RwsOk (sl l i) := by
  refine ⟨fun r hr => hl.1 r (List.mem_of_mem_take (List.mem_of_mem_drop hr)), ?_⟩
  have := hl.2
  unfold sl
  simp only [List.length_drop, List.length_take]
  omega
def pstep (l : List Rw) (p : Pc) (i : Nat) (r : Rw) : Pc :=
  if restN r.Kind 6 = 0 then (if p.Saved.State.length < 6 then ⟨p.Ref, ⟨p.Saved.Actor, p.Saved.State ++ [valOf (sl l i)], p.Saved.Inputs⟩, p.Box, p.Ticks, p.Watches, p.Links⟩ else p)
  else if restN r.Kind 6 = 1 then ⟨p.Ref, ⟨p.Saved.Actor, p.Saved.State, p.Saved.Inputs ++ [⟨2, valOf (sl l i)⟩, ⟨3, zeroV⟩]⟩, p.Box, p.Ticks, p.Watches, p.Links⟩
  else if restN r.Kind 6 = 2 then ⟨p.Ref, p.Saved, p.Box ++ [letOf (sl l i)], p.Ticks, p.Watches, p.Links⟩
  else if restN r.Kind 6 = 3 then ⟨p.Ref, p.Saved, p.Box, restN r.A 100, p.Watches, p.Links⟩
  else if restN r.Kind 6 = 4 then ⟨p.Ref, p.Saved, p.Box, p.Ticks, p.Watches ++ [1 + (restN r.A 5000 : Int)], p.Links⟩
  else ⟨p.Ref, p.Saved, p.Box, p.Ticks, p.Watches, p.Links ++ [1 + (restN r.A 5000 : Int)]⟩
def pst (n : Int) (l : List Rw) : Nat → Pc
  | 0 => ⟨n, ⟨[65], [], []⟩, [], -1, [], []⟩
  | k + 1 => match l[k]? with
    | some r => pstep l (pst n l k) k r
    | none => pst n l k
def parOf (n : Int) (l : List Rw) : Pc := pst n l (min l.length 8)
structure IG (i : Inp) : Prop where
  ok : VOk i.Value
  kind : AllV KindOk i.Value
  check : inpE i = 0
structure PG (n : Int) (k : Nat) (p : Pc) : Prop where
  ref : p.Ref = n
  act : p.Saved.Actor = [65]
  st : ∀ v ∈ p.Saved.State, VG v
  stn : p.Saved.State.length ≤ 6
  inp : ∀ i ∈ p.Saved.Inputs, IG i
  inn : p.Saved.Inputs.length ≤ 2 * k
  box : ∀ x ∈ p.Box, LG x
  boxn : p.Box.length ≤ k
  ticks : -1 ≤ p.Ticks ∧ p.Ticks ≤ 99
  wa : ∀ n ∈ p.Watches, 1 ≤ n ∧ n ≤ 5000
  wan : p.Watches.length ≤ k
  li : ∀ n ∈ p.Links, 1 ≤ n ∧ n ≤ 5000
  lin : p.Links.length ≤ k
theorem app1 {A : Type} {Pr : A → Prop} {l : List A} {a : A} (h : ∀ x ∈ l, Pr x) (ha : Pr a) : ∀ x ∈ l ++ [a], Pr x := by
  intro x hx
  rcases List.mem_append.1 hx with hx | hx
  · exact h x hx
  · simp at hx; subst hx; exact ha
theorem pst_good (n : Int) {l : List Rw} (hl : RwsOk l) : ∀ k, PG n k (pst n l k)
  | 0 => ⟨rfl, rfl, by simp [pst], by simp [pst], by simp [pst], by simp [pst], by simp [pst], by simp [pst], by simp [pst], by simp [pst], by simp [pst], by simp [pst], by simp [pst]⟩
  | k + 1 => by
    have ih := pst_good n hl k
    rw [pst]
    cases hr : l[k]? with
    | none =>
      obtain ⟨a1, a2, a3, a4, a5, a6, a7, a8, a9, a10, a11, a12, a13⟩ := ih
      exact ⟨a1, a2, a3, a4, a5, by dsimp only; omega, a7, by dsimp only; omega, a9, a10, by dsimp only; omega, a12, by dsimp only; omega⟩
    | some r =>
      have h5 := restN_lt r.A (m := 5000) (by omega)
      have h1 := restN_lt r.A (m := 100) (by omega)
      have hv := valOf_good (sl_ok hl k)
      have hlt := letOf_good (sl_ok hl k)
      dsimp only
      generalize pst n l k = p at *
      obtain ⟨a1, a2, a3, a4, a5, a6, a7, a8, a9, a10, a11, a12, a13⟩ := ih
      unfold pstep
      split
      · split
        · exact ⟨a1, a2, app1 a3 hv, by simp; omega, a5, by dsimp only; omega, a7, by dsimp only; omega, a9, a10, by dsimp only; omega, a12, by dsimp only; omega⟩
        · exact ⟨a1, a2, a3, a4, a5, by omega, a7, by omega, a9, a10, by omega, a12, by omega⟩
      split
      · refine ⟨a1, a2, a3, a4, ?_, by simp; omega, a7, by dsimp only; omega, a9, a10, by dsimp only; omega, a12, by dsimp only; omega⟩
        intro i hi
        rcases List.mem_append.1 hi with hi | hi
        · exact a5 i hi
        · simp at hi
          rcases hi with rfl | rfl
          · exact ⟨hv.ok, hv.kind, by unfold inpE; rw [if_neg (by dsimp only; omega), if_neg (by dsimp only; omega)]; exact hv.check⟩
          · exact ⟨zero_vrd.1, zero_vrd.2, by unfold inpE; rw [if_neg (by dsimp only; rw [zeroB_zero]; simp), if_pos rfl]⟩
      split
      · exact ⟨a1, a2, a3, a4, a5, by dsimp only; omega, app1 a7 hlt, by simp; omega, a9, a10, by dsimp only; omega, a12, by dsimp only; omega⟩
      split
      · exact ⟨a1, a2, a3, a4, a5, by dsimp only; omega, a7, by dsimp only; omega, by dsimp only; omega, a10, by dsimp only; omega, a12, by dsimp only; omega⟩
      split
      · exact ⟨a1, a2, a3, a4, a5, by dsimp only; omega, a7, by dsimp only; omega, a9, app1 a10 (by omega), by simp; omega, a12, by dsimp only; omega⟩
      · exact ⟨a1, a2, a3, a4, a5, by dsimp only; omega, a7, by dsimp only; omega, a9, a10, by dsimp only; omega, app1 a12 (by omega), by simp; omega⟩
structure PGood (p : Pc) : Prop where
  ok : POk2 p
  kind : PK p
  check : checkPF p = 0
theorem PG.good {n : Int} {k : Nat} {p : Pc} (h : PG n k p) (hk : k ≤ 8) (hn : 1 ≤ n ∧ n ≤ 9223372036854775807) : PGood p := by
  obtain ⟨a1, a2, a3, a4, a5, a6, a7, a8, a9, a10, a11, a12, a13⟩ := h
  have hs : checkSF p.Saved = 0 := by
    unfold checkSF
    rw [a2, if_neg (by simp), if_neg (by omega), if_neg (by simpa using firstE_zero.2 fun v hv => (a3 v hv).check)]
    exact firstE_zero.2 fun i hi => (a5 i hi).check
  refine ⟨⟨⟨⟨fun v hv => (a3 v hv).ok, fun i hi => (a5 i hi).ok, by unfold B; omega, by unfold B; omega⟩, fun x hx => (a7 x hx).ok.v⟩, by omega, by unfold I64; omega, fun x hx => (a7 x hx).ok, fun m hm => by have := a10 m hm; omega, fun m hm => by have := a12 m hm; omega⟩, ⟨⟨fun v hv => (a3 v hv).kind, fun i hi => (a5 i hi).kind⟩, fun x hx => (a7 x hx).kind⟩, ?_⟩
  exact checkP_of (by omega) (by omega) (by omega) (by omega) (by omega) hs (fun x hx => (a7 x hx).check) (fun m hm => (a10 m hm).1) (fun m hm => (a12 m hm).1)
theorem parcelOf_call (n : Int) {l : List Rw} (hl : RwsOk l) : sp18 n l (parOf n l) := by
  obtain ⟨hl1, hl2⟩ := hl
  refine ok18 _ _ _ ?_
  unfold w18
  have hl2' := hl2
  unfold B at hl2'
  have fin : ∀ k : Nat, k ≤ l.length → k ≤ 8 → (k = l.length ∨ k = 8) → parOf n l = pst n l k := by
    intro k h1 h2 h3
    unfold parOf
    congr 1
    omega
  refine ⟨fun st inp bx ti wa li i => ∃ k : Nat, i = k ∧ k ≤ l.length ∧ k ≤ 8 ∧ (⟨n, ⟨[65], st, inp⟩, bx, ti, wa, li⟩ : Pc) = pst n l k, fun _ _ _ _ _ _ i => l.length - i.toNat, ⟨0, rfl, by omega, by omega, rfl⟩, ?_⟩
  rintro st inp bx ti wa li _ ⟨k, rfl, hk, hk8, hp⟩ t rfl
  refine ⟨fun h => ⟨fun h8 => ?_, fun h8 => ⟨by simp at h; omega, fun r hr => ?_⟩⟩, fun h => ?_⟩
  · rw [hp, fin k hk hk8 (by omega)]
  · have hkl : k < l.length := by simp at h; omega
    have hr' : l[k]? = some r := by simpa using hr
    obtain ⟨⟨h1, h2, h3⟩, h4⟩ := hl1 r (List.mem_of_getElem? hr')
    have hg := pst_good n ⟨hl1, hl2⟩ k
    rw [← hp] at hg
    have g4 := hg.stn
    have g6 := hg.inn
    have g8 := hg.boxn
    have g11 := hg.wan
    have g13 := hg.lin
    dsimp only at g4 g6 g8 g11 g13
    have hstep : pst n l (k + 1) = pstep l ⟨n, ⟨[65], st, inp⟩, bx, ti, wa, li⟩ k r := by rw [pst, hr', hp]
    unfold pstep at hstep
    dsimp only at hstep
    have hk6 := restN_lt r.Kind (m := 6) (by omega)
    have h5 := restN_lt r.A (m := 5000) (by omega)
    have cut : ∀ {x y : Int}, x = (k : Int) + 6 → y = min (l.length : Int) x → (0 ≤ (k : Int) ∧ (k : Int) ≤ y ∧ y ≤ (l.length : Int)) ∧ (l.take y.toNat).drop (k : Int).toNat = sl l k := by
      rintro x y rfl rfl
      refine ⟨by omega, ?_⟩
      unfold sl
      rw [show (min (l.length : Int) ((k : Int) + 6)).toNat = min l.length (k + 6) by omega, Int.toNat_natCast]
    have hsl := sl_ok ⟨hl1, hl2⟩ k
    refine ⟨_, rest_call r.Kind 6 (by omega) h1, fun c => ⟨fun cs => ?_, fun cs => ?_⟩, fun c0 => ⟨fun c => ?_, fun c1 => ⟨fun c => ?_, fun c2 => ⟨fun c => ?_, fun c3 => ⟨fun c => ?_, fun c4 => ?_⟩⟩⟩⟩⟩
    · refine ⟨by omega, ?_⟩
      intro x hx y hy
      obtain ⟨e1, e2⟩ := cut hx hy
      refine ⟨e1, ?_⟩
      rintro _ rfl
      rw [e2]
      refine ⟨_, valueOf_call hsl.1 hsl.2, by simp; omega, ?_⟩
      rintro _ rfl
      refine ⟨by omega, ?_⟩
      rintro _ rfl
      refine ⟨⟨k + 1, by omega, by omega, by omega, ?_⟩, by dsimp only; omega⟩
      rw [hstep, if_pos (by omega), if_pos (by omega)]
    · refine ⟨by omega, ?_⟩
      rintro _ rfl
      refine ⟨⟨k + 1, by omega, by omega, by omega, ?_⟩, by dsimp only; omega⟩
      rw [hstep, if_pos (by omega), if_neg (by omega)]
    · refine ⟨by omega, ?_⟩
      intro x hx y hy
      obtain ⟨e1, e2⟩ := cut hx hy
      refine ⟨e1, ?_⟩
      rintro _ rfl
      rw [e2]
      refine ⟨_, valueOf_call hsl.1 hsl.2, by simp; omega, ?_⟩
      rintro _ rfl
      refine ⟨by omega, ?_⟩
      rintro _ rfl
      refine ⟨⟨k + 1, by omega, by omega, by omega, ?_⟩, by dsimp only; omega⟩
      rw [hstep, if_neg (by omega), if_pos (by omega), eta]
      rfl
    · refine ⟨by omega, ?_⟩
      intro x hx y hy
      obtain ⟨e1, e2⟩ := cut hx hy
      refine ⟨e1, ?_⟩
      rintro _ rfl
      rw [e2]
      refine ⟨_, letterOf_call hsl, by simp; omega, ?_⟩
      rintro _ rfl
      refine ⟨by omega, ?_⟩
      rintro _ rfl
      refine ⟨⟨k + 1, by omega, by omega, by omega, ?_⟩, by dsimp only; omega⟩
      rw [hstep, if_neg (by omega), if_neg (by omega), if_pos (by omega)]
    · refine ⟨by omega, fun a ha => ?_⟩
      obtain rfl : r = a := by rw [hr] at ha; injection ha
      refine ⟨_, rest_call r.A 100 (by omega) h2, by omega, ?_⟩
      rintro _ rfl
      refine ⟨⟨k + 1, by omega, by omega, by omega, ?_⟩, by dsimp only; omega⟩
      rw [hstep, if_neg (by omega), if_neg (by omega), if_neg (by omega), if_pos (by omega)]
    · refine ⟨by omega, fun a ha => ?_⟩
      obtain rfl : r = a := by rw [hr] at ha; injection ha
      refine ⟨_, rest_call r.A 5000 (by omega) h2, by omega, ?_⟩
      rintro _ rfl
      refine ⟨by simp; omega, ?_⟩
      rintro _ rfl
      refine ⟨by omega, ?_⟩
      rintro _ rfl
      refine ⟨⟨k + 1, by omega, by omega, by omega, ?_⟩, by dsimp only; omega⟩
      rw [hstep, if_neg (by omega), if_neg (by omega), if_neg (by omega), if_neg (by omega), if_pos (by omega)]
    · refine ⟨by omega, fun a ha => ?_⟩
      obtain rfl : r = a := by rw [hr] at ha; injection ha
      refine ⟨_, rest_call r.A 5000 (by omega) h2, by omega, ?_⟩
      rintro _ rfl
      refine ⟨by simp; omega, ?_⟩
      rintro _ rfl
      refine ⟨by omega, ?_⟩
      rintro _ rfl
      refine ⟨⟨k + 1, by omega, by omega, by omega, ?_⟩, by dsimp only; omega⟩
      rw [hstep, if_neg (by omega), if_neg (by omega), if_neg (by omega), if_neg (by omega), if_neg (by omega)]
  · have hkl : k = l.length := by simp at h; omega
    rw [hp, fin k hk hk8 (.inl hkl)]


open Classical in
theorem same_self (v : Vl) (hv : nodes v ≤ B) : sp13 v v true := by
  have := same_call v v hv
  simpa using this
theorem sameL_self (x : Lt) (hx : VOk x.Value) : sp25 x x true := by
  refine ok25 _ _ _ ?_
  unfold w25
  rw [eta]
  exact ⟨fun _ => ⟨fun _ => ⟨fun _ => ⟨fun _ => ⟨fun _ => ⟨_, same_self _ hx.1, rfl⟩, fun h => absurd rfl h⟩, fun h => absurd rfl h⟩, fun h => absurd rfl h⟩, fun h => absurd rfl h⟩, fun h => absurd rfl h⟩
theorem sameI_self (i : Inp) (hi : VOk i.Value) : sp61 i i true := by
  refine ok61 _ _ _ ?_
  unfold w61
  rw [eta]
  exact ⟨fun _ => ⟨_, same_self _ hi.1, rfl⟩, fun h => absurd rfl h⟩
theorem sameVs_self (l : List Vl) (hl : ∀ v ∈ l, VOk v) (hn : l.length ≤ B) : sp43_13 l l true := by
  refine ok43_13 _ _ _ ?_
  unfold w43_13
  unfold B at hn
  refine ⟨fun h => absurd rfl h, fun _ => ⟨fun i => ∃ k : Nat, i = k ∧ k ≤ l.length, fun i => l.length - i.toNat, ⟨0, rfl, by omega⟩, ?_⟩⟩
  rintro _ ⟨k, rfl, hk⟩ t rfl
  refine ⟨fun h => ?_, fun h => rfl⟩
  have hkl : k < l.length := by simp at h; omega
  refine ⟨by omega, fun a ha => ⟨by omega, fun b hb => ?_⟩⟩
  rw [ha] at hb
  injection hb with hb
  subst hb
  rw [eta]
  refine ⟨_, same_self a (hl a (List.mem_of_getElem? ha)).1, fun h => by simp at h, fun _ => ⟨by omega, ?_⟩⟩
  rintro _ rfl
  exact ⟨⟨k + 1, by omega, by omega⟩, by dsimp only; omega⟩
theorem sameIs_self (l : List Inp) (hl : ∀ i ∈ l, VOk i.Value) (hn : l.length ≤ B) : sp60_61 l l true := by
  refine ok60_61 _ _ _ ?_
  unfold w60_61
  unfold B at hn
  refine ⟨fun h => absurd rfl h, fun _ => ⟨fun i => ∃ k : Nat, i = k ∧ k ≤ l.length, fun i => l.length - i.toNat, ⟨0, rfl, by omega⟩, ?_⟩⟩
  rintro _ ⟨k, rfl, hk⟩ t rfl
  refine ⟨fun h => ?_, fun h => rfl⟩
  have hkl : k < l.length := by simp at h; omega
  refine ⟨by omega, fun a ha => ⟨by omega, fun b hb => ?_⟩⟩
  rw [ha] at hb
  injection hb with hb
  subst hb
  rw [ieta]
  refine ⟨_, sameI_self a (hl a (List.mem_of_getElem? ha)), fun h => by simp at h, fun _ => ⟨by omega, ?_⟩⟩
  rintro _ rfl
  exact ⟨⟨k + 1, by omega, by omega⟩, by dsimp only; omega⟩
theorem sameLs_self (l : List Lt) (hl : ∀ i ∈ l, VOk i.Value) (hn : l.length ≤ B) : sp62_25 l l true := by
  refine ok62_25 _ _ _ ?_
  unfold w62_25
  unfold B at hn
  refine ⟨fun h => absurd rfl h, fun _ => ⟨fun i => ∃ k : Nat, i = k ∧ k ≤ l.length, fun i => l.length - i.toNat, ⟨0, rfl, by omega⟩, ?_⟩⟩
  rintro _ ⟨k, rfl, hk⟩ t rfl
  refine ⟨fun h => ?_, fun h => rfl⟩
  have hkl : k < l.length := by simp at h; omega
  refine ⟨by omega, fun a ha => ⟨by omega, fun b hb => ?_⟩⟩
  rw [ha] at hb
  injection hb with hb
  subst hb
  rw [leta]
  refine ⟨_, sameL_self a (hl a (List.mem_of_getElem? ha)), fun h => by simp at h, fun _ => ⟨by omega, ?_⟩⟩
  rintro _ rfl
  exact ⟨⟨k + 1, by omega, by omega⟩, by dsimp only; omega⟩
theorem sameNs_self (l : List Int) (hn : l.length ≤ B) : sp63 l l true := by
  refine ok63 _ _ _ ?_
  unfold w63
  unfold B at hn
  refine ⟨fun h => absurd rfl h, fun _ => ⟨fun i => ∃ k : Nat, i = k ∧ k ≤ l.length, fun i => l.length - i.toNat, ⟨0, rfl, by omega⟩, ?_⟩⟩
  rintro _ ⟨k, rfl, hk⟩ t rfl
  refine ⟨fun h => ?_, fun h => rfl⟩
  have hkl : k < l.length := by simp at h; omega
  refine ⟨by omega, fun a ha => ⟨by omega, fun b hb => ?_⟩⟩
  rw [ha] at hb
  injection hb with hb
  subst hb
  refine ⟨fun h => absurd rfl h, fun _ => ⟨by omega, ?_⟩⟩
  rintro _ rfl
  exact ⟨⟨k + 1, by omega, by omega⟩, by dsimp only; omega⟩
theorem sameP_self (p : Pc) (hs : SOk p.Saved) (hb : ∀ x ∈ p.Box, VOk x.Value) (h1 : p.Box.length ≤ B) (h2 : p.Watches.length ≤ B) (h3 : p.Links.length ≤ B) : sp26 p p true := by
  refine ok26 _ _ _ ?_
  unfold w26
  refine ⟨fun _ => ⟨fun _ => ⟨fun _ => ⟨_, sameVs_self _ hs.st hs.n1, fun _ => ⟨_, sameIs_self _ hs.inp hs.n2, fun _ => ⟨_, sameLs_self _ hb h1, fun _ => ⟨_, sameNs_self _ h2, fun _ => ⟨_, sameNs_self _ h3, rfl⟩, fun h => by simp at h⟩, fun h => by simp at h⟩, fun h => by simp at h⟩, fun h => by simp at h⟩, fun h => absurd rfl h⟩, fun h => absurd rfl h⟩, fun h => absurd rfl h⟩
end Go.Hw.VB

