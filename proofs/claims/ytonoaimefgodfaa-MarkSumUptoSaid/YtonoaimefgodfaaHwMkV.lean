import Derived.Test.YtonoaimefgodfaaHwMkU
set_option linter.unusedVariables false
set_option linter.unusedSimpArgs false
namespace Go.Hw.VK
open Go Go.Proofs

def upd {A : Type} (f : Nat → A) (i : Nat) (v : A) : Nat → A := fun x => if x = i then v else f x
def upd2 {A : Type} (f : Nat → Nat → A) (i j : Nat) (v : A) : Nat → Nat → A := fun x y => if x = i ∧ y = j then v else f x y
structure M where
  co : Nat → Int
  wy : Nat → Nat → List Item
  bg : Nat → Bool
  st : Nat → Int
  ov : Nat → Nat → Bool
  rc : Nat → Nat → List Int
def others (n i : Nat) : List Nat := (List.range n).filter fun k => decide (k ≠ i)
def sideM (m : M) (n i : Nat) : Sd := ⟨peersF n i, m.bg i, m.st i, (others n i).map (m.rc i), (others n i).map (m.ov i)⟩
structure Sim (n : Nat) (t : Tw) (m : M) : Prop where
  coins : t.coins = (List.range n).map m.co
  sides : t.sides = (List.range n).map (sideM m n)
  ways : ∀ a b, a < n → b < n → (t.ways.get ((a : Int), (b : Int))).getD [] = m.wy a b
def mk : Item := ⟨0, true⟩
def sayM (n i : Nat) (wy : Nat → Nat → List Item) : Nat → Nat → List Item := fun a b => if a = i ∧ b < n ∧ b ≠ i then wy a b ++ [mk] else wy a b
def comeM (n : Nat) (m : M) (a b : Nat) : M :=
  match m.wy a b with
  | [] => m
  | x :: r =>
    if x.marker then
      if m.ov b a then { m with wy := upd2 m.wy a b r }
      else if m.bg b then { m with wy := upd2 m.wy a b r, ov := upd2 m.ov b a true }
      else { m with wy := sayM n b (upd2 m.wy a b r), bg := upd m.bg b true, st := upd m.st b (m.co b), ov := upd2 m.ov b a true }
    else if m.bg b = true ∧ m.ov b a = false ∧ (m.rc b a).length ≠ 200 then { m with wy := upd2 m.wy a b r, rc := upd2 m.rc b a (m.rc b a ++ [x.n]), co := upd m.co b (m.co b + x.n) }
      else { m with wy := upd2 m.wy a b r, co := upd m.co b (m.co b + x.n) }
def doM (n : Nat) (m : M) (kd : Int) (a b : Nat) (nn : Int) : M :=
  if kd ≠ 3 ∧ a = b then m
  else if kd = 1 then
    if nn ≤ m.co a ∧ (m.wy a b).length < 200 then { m with co := upd m.co a (m.co a - nn), wy := upd2 m.wy a b (m.wy a b ++ [⟨nn, false⟩]) } else m
  else if kd = 2 then comeM n m a b
  else if m.bg a then m else { m with bg := upd m.bg a true, st := upd m.st a (m.co a), wy := sayM n a m.wy }

theorem getD_range {A : Type} {n i : Nat} (h : i < n) (f : Nat → A) (d : A) : ((List.range n).map f).getD i d = f i := by
  simp [List.getD_eq_getElem?_getD, List.getElem?_range h]
theorem set_map {A B : Type} [DecidableEq A] {L : List A} (hn : L.Nodup) {p : Nat} {j : A} (h : L[p]? = some j) (f : A → B) (v : B) : (L.map f).set p v = L.map fun x => if x = j then v else f x := by
  refine List.ext_getElem? fun q => ?_
  rw [List.getElem?_set, List.getElem?_map, List.getElem?_map]
  split
  · rename_i hq
    subst hq
    rw [h, List.length_map, if_pos (lt_of_get h)]
    simp
  · rename_i hq
    cases hL : L[q]? with
    | none => rfl
    | some x =>
      have : x ≠ j := fun e => hq (nodup_inj' hn p q j h (e ▸ hL))
      simp [this]
theorem set_range {A : Type} {n i : Nat} (h : i < n) (f : Nat → A) (v : A) : ((List.range n).map f).set i v = (List.range n).map (upd f i v) :=
  set_map List.nodup_range (List.getElem?_range h) f v
theorem map_range_upd {A : Type} (n i : Nat) (f g : Nat → A) (h : ∀ x, x < n → f x = g x) : (List.range n).map f = (List.range n).map g :=
  List.map_congr_left fun x hx => h x (List.mem_range.1 hx)
theorem others_nodup (n i : Nat) : (others n i).Nodup := by
  unfold others
  exact List.nodup_range.filter _
theorem mem_others {n i j : Nat} : j ∈ others n i ↔ j < n ∧ j ≠ i := by simp [others]
theorem idx_others {n i j : Nat} (hj : j < n) (hne : j ≠ i) : ∃ p : Nat, idxI (peersF n i) (j : Int) = p ∧ (others n i)[p]? = some j := by
  obtain ⟨p, hp⟩ := List.getElem?_of_mem (mem_others.2 ⟨hj, hne⟩)
  refine ⟨p, idxI_at ?_ fun q hq hc => ?_, hp⟩
  · show ((others n i).map fun k : Nat => (k : Int))[p]? = _
    rw [List.getElem?_map, hp]; rfl
  · have hc : ((others n i).map fun k : Nat => (k : Int))[q]? = some (j : Int) := hc
    rw [List.getElem?_map, Option.map_eq_some_iff] at hc
    obtain ⟨x, hx, he⟩ := hc
    obtain rfl : x = j := by omega
    have := nodup_inj' (others_nodup n i) q p x hx hp
    omega
theorem getD_map {A B : Type} {L : List A} {p : Nat} {j : A} (h : L[p]? = some j) (f : A → B) (d : B) : (L.map f).getD p d = f j := by
  simp [List.getD_eq_getElem?_getD, h]

theorem key_ne {a b x y : Nat} : (((a : Int), (b : Int)) : Key) = ((x : Int), (y : Int)) ↔ a = x ∧ b = y := by
  constructor
  · intro h
    injection h with h1 h2
    exact ⟨by omega, by omega⟩
  · rintro ⟨rfl, rfl⟩; rfl
theorem put_ways {n : Nat} {g : GM Key (List Item)} {wy : Nat → Nat → List Item} (h : ∀ a b, a < n → b < n → (g.get ((a : Int), (b : Int))).getD [] = wy a b) (a b : Nat) (l : List Item) :
    ∀ x y, x < n → y < n → ((g.put ((a : Int), (b : Int)) l).get ((x : Int), (y : Int))).getD [] = upd2 wy a b l x y := by
  intro x y hx hy
  rw [GM.get_put]
  unfold upd2
  by_cases hc : x = a ∧ y = b
  · rw [if_pos hc, if_pos (key_ne.2 hc)]; rfl
  · rw [if_neg hc, if_neg (fun e => hc (key_ne.1 e))]
    exact h x y hx hy
theorem say_ways {n : Nat} {g : GM Key (List Item)} {wy : Nat → Nat → List Item} (h : ∀ a b, a < n → b < n → (g.get ((a : Int), (b : Int))).getD [] = wy a b) (i : Nat) (hi : i < n) :
    ∀ k, k ≤ n → ∀ x y, x < n → y < n → ((sayF k (i : Int) g).get ((x : Int), (y : Int))).getD [] = sayM k i wy x y
  | 0, _, x, y, hx, hy => by
    unfold sayM
    rw [if_neg (by omega)]
    exact h x y hx hy
  | k + 1, hk, x, y, hx, hy => by
    have ih := say_ways h i hi k (by omega)
    rw [sayF_succ]
    unfold sayStep
    by_cases hki : k = i
    · subst hki
      rw [if_pos rfl, ih x y hx hy]
      unfold sayM
      by_cases hc : x = k ∧ y < k ∧ y ≠ k
      · rw [if_pos hc, if_pos ⟨hc.1, by omega, hc.2.2⟩]
      · rw [if_neg hc, if_neg (by omega)]
    · rw [if_neg (by omega)]
      unfold wadd
      rw [put_ways ih i k _ x y hx hy, ih i k hi (by omega)]
      unfold upd2 sayM
      by_cases hc : x = i ∧ y = k
      · obtain ⟨rfl, rfl⟩ := hc
        rw [if_pos ⟨rfl, rfl⟩, if_neg (by omega), if_pos ⟨rfl, by omega, hki⟩]
        rfl
      · rw [if_neg hc]
        by_cases hd : x = i ∧ y < k ∧ y ≠ i
        · rw [if_pos hd, if_pos ⟨hd.1, by omega, hd.2.2⟩]
        · rw [if_neg hd, if_neg (by omega)]
theorem sides_upd {n b : Nat} {m m' : M} {s : Sd} (hb : b < n) (h1 : s = sideM m' n b) (h2 : ∀ x, x < n → x ≠ b → sideM m' n x = sideM m n x) : ((List.range n).map (sideM m n)).set b s = (List.range n).map (sideM m' n) := by
  rw [set_range hb]
  refine map_range_upd n b _ _ fun x hx => ?_
  unfold upd
  split
  · rename_i h; subst h; exact h1
  · rename_i h; exact (h2 x hx h).symm
theorem sim_come {n : Nat} {t : Tw} {m : M} (h : Sim n t m) {a b : Nat} (ha : a < n) (hb : b < n) (hab : a ≠ b) : Sim n (comeF t a b) (comeM n m a b) := by
  unfold comeF comeM
  rw [h.ways a b ha hb]
  cases hw : m.wy a b with
  | nil => exact h
  | cons x r =>
    simp only
    have hsd : t.sides.getD b sd0 = sideM m n b := by rw [h.sides, getD_range hb]
    have hco : t.coins.getD b 0 = m.co b := by rw [h.coins, getD_range hb]
    have hlen : t.coins.length = n := by rw [h.coins]; simp
    obtain ⟨p, hp, hpj⟩ := idx_others ha hab
    have hw2 := put_ways h.ways a b r
    unfold comeX
    simp only [hsd, hco, hlen]
    by_cases hm : x.marker = true
    · rw [if_pos hm, if_pos hm]
      have hF : markF (sideM m n b) (a : Int) (m.co b) = if m.ov b a then (sideM m n b, false, 5) else ({ sideM m n b with begun := true, state := if m.bg b then m.st b else m.co b, over := (others n b).map (upd (m.ov b) a true) }, !m.bg b, 0) := by
        unfold markF
        rw [show (sideM m n b).peers = peersF n b from rfl, hp, if_neg (by omega), Int.toNat_natCast, show (sideM m n b).over = (others n b).map (m.ov b) from rfl, getD_map hpj, set_map (others_nodup n b) hpj]
        rfl
      rw [hF]
      cases hov : m.ov b a with
      | true =>
        simp only [if_true]
        refine ⟨h.coins, ?_, hw2⟩
        show t.sides.set b _ = _
        rw [h.sides]
        exact sides_upd hb rfl fun _ _ _ => rfl
      | false =>
        simp only [Bool.false_eq_true, if_false]
        cases hbg : m.bg b with
        | true =>
          simp only [Bool.not_true, Bool.false_eq_true, if_false, if_true]
          refine ⟨h.coins, ?_, hw2⟩
          show t.sides.set b _ = _
          rw [h.sides]
          refine sides_upd hb ?_ fun x hx hne => ?_
          · simp only [sideM, hbg]
            congr 1
            refine List.map_congr_left fun y hy => ?_
            simp [upd, upd2]
          · simp only [sideM]
            congr 1
            refine List.map_congr_left fun y hy => ?_
            simp [upd2, hne]
        | false =>
          simp only [Bool.not_false, if_true, Bool.false_eq_true, if_false]
          refine ⟨h.coins, ?_, say_ways hw2 b hb n (Nat.le_refl n)⟩
          show t.sides.set b _ = _
          rw [h.sides]
          refine sides_upd hb ?_ fun x hx hne => ?_
          · simp only [sideM]
            congr 1
            · simp [upd]
            · simp [upd]
            · refine List.map_congr_left fun y hy => ?_
              simp [upd, upd2]
          · simp only [sideM]
            congr 1
            · simp [upd, hne]
            · simp [upd, hne]
            · refine List.map_congr_left fun y hy => ?_
              simp [upd2, hne]
    · rw [if_neg hm, if_neg hm]
      have hF : (msgF (sideM m n b) (a : Int) x.n).1 = if m.bg b = true ∧ m.ov b a = false ∧ (m.rc b a).length ≠ 200 then { sideM m n b with ways := (others n b).map (upd (m.rc b) a (m.rc b a ++ [x.n])) } else sideM m n b := by
        unfold msgF
        rw [show (sideM m n b).peers = peersF n b from rfl, hp, if_neg (by omega), Int.toNat_natCast, show (sideM m n b).over = (others n b).map (m.ov b) from rfl, show (sideM m n b).ways = (others n b).map (m.rc b) from rfl, show (sideM m n b).begun = m.bg b from rfl, getD_map hpj, getD_map hpj,
          set_map (others_nodup n b) hpj]
        cases hbg : m.bg b <;> cases hov : m.ov b a <;> simp
        split
        · rename_i h; simp [h]
        · rename_i h; simp [h]; exact ⟨rfl, hbg, fun _ _ => rfl, rfl⟩
      rw [hF]
      split
      · refine ⟨?_, ?_, hw2⟩
        · show t.coins.set b _ = _
          rw [h.coins, set_range hb]
        · show t.sides.set b _ = _
          rw [h.sides]
          refine sides_upd hb ?_ fun x hx hne => ?_
          · simp only [sideM]
            congr 1
            refine List.map_congr_left fun y hy => ?_
            simp [upd, upd2]
          · simp only [sideM]
            congr 1
            refine List.map_congr_left fun y hy => ?_
            simp [upd2, hne]
      · refine ⟨?_, ?_, hw2⟩
        · show t.coins.set b _ = _
          rw [h.coins, set_range hb]
        · show t.sides.set b _ = _
          rw [h.sides]
          exact sides_upd hb rfl fun _ _ _ => rfl
theorem sim_do {n : Nat} {t : Tw} {m : M} (h : Sim n t m) {a b : Nat} (ha : a < n) (hb : b < n) (kd nn : Int) : Sim n (doF t kd a b nn) (doM n m kd a b nn) := by
  unfold doF doM
  by_cases h0 : kd ≠ 3 ∧ a = b
  · rw [if_pos h0, if_pos h0]; exact h
  rw [if_neg h0, if_neg h0]
  have hsd : t.sides.getD a sd0 = sideM m n a := by rw [h.sides, getD_range ha]
  have hco : t.coins.getD a 0 = m.co a := by rw [h.coins, getD_range ha]
  have hlen : t.coins.length = n := by rw [h.coins]; simp
  by_cases h1 : kd = 1
  · rw [if_pos h1, if_pos h1, hco, h.ways a b ha hb]
    split
    · refine ⟨?_, h.sides, ?_⟩
      · show t.coins.set a _ = _
        rw [h.coins, set_range ha]
      · unfold wadd
        rw [h.ways a b ha hb]
        exact put_ways h.ways a b _
    · exact h
  rw [if_neg h1, if_neg h1]
  by_cases h2 : kd = 2
  · rw [if_pos h2, if_pos h2]
    exact sim_come h ha hb fun e => h0 ⟨by omega, e⟩
  rw [if_neg h2, if_neg h2, hsd, hco, hlen, show (sideM m n a).begun = m.bg a from rfl]
  split
  · exact h
  · refine ⟨h.coins, ?_, say_ways h.ways a ha n (Nat.le_refl n)⟩
    show t.sides.set a _ = _
    rw [h.sides]
    refine sides_upd ha ?_ fun x hx hne => ?_
    · simp only [sideM]
      congr 1
      · simp [upd]
      · simp [upd]
    · simp only [sideM]
      congr 1
      · simp [upd, hne]
      · simp [upd, hne]
end Go.Hw.VK

