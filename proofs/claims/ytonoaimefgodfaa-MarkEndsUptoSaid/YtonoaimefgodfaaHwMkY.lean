import Derived.Test.YtonoaimefgodfaaHwMkX
set_option linter.unusedVariables false
set_option linter.unusedSimpArgs false
namespace Go.Hw.VK
open Go Go.Proofs

def val (m : M) (i : Nat) : Int := if m.bg i then m.st i else m.co i
def chan (m : M) (i j : Nat) : Int := (m.rc i j).sum + if m.ov i j then 0 else pre (m.wy j i)
def chn (m : M) (i j : Nat) : Int := if i = j then 0 else chan m i j
theorem upd2_eq {A : Type} {f : Nat → Nat → A} {i j : Nat} {v : A} : upd2 f i j v i j = v := if_pos ⟨rfl, rfl⟩
theorem upd2_ne {A : Type} {f : Nat → Nat → A} {i j x y : Nat} {v : A} (h : ¬ (x = i ∧ y = j)) : upd2 f i j v x y = f x y := if_neg h
theorem nsw {a b c d : Nat} (h : ¬ (a = b ∧ c = d)) : ¬ (c = d ∧ a = b) := fun e => h ⟨e.2, e.1⟩
structure InvC (n k : Nat) (S : Int) (m : M) : Prop where
  rec0 : ∀ i j, i < n → j < n → m.bg i = false → m.rc i j = []
  cnt : ∀ a b, a < n → b < n → pays (m.wy a b) + (m.rc b a).length ≤ k
  stn : ∀ i, i < n → 0 ≤ m.st i ∧ m.st i ≤ 1000 + 12 * k
  rcn : ∀ i j, i < n → j < n → ∀ x ∈ m.rc i j, 0 ≤ x ∧ x ≤ 12
  cut : sumN n (val m) + sum2 n (chn m) = S
theorem cut_same {n : Nat} {S : Int} {m m' : M} (hS : sumN n (val m) + sum2 n (chn m) = S) (h1 : ∀ i, i < n → val m' i = val m i) (h2 : ∀ i j, i < n → j < n → i ≠ j → chan m' i j = chan m i j) : sumN n (val m') + sum2 n (chn m') = S := by
  rw [← hS, sumN_congr h1, sum2_congr (F := chn m') (G := chn m) fun a b ha hb => ?_]
  unfold chn
  split
  · rfl
  · rename_i h; exact h2 a b ha hb h
theorem cut_move {n i j k : Nat} {S : Int} {m m' : M} {x : Int} (hS : sumN n (val m) + sum2 n (chn m) = S) (hi : i < n) (hj : j < n) (hk : k < n) (hij : i ≠ j) (h1 : ∀ c, c < n → c ≠ k → val m' c = val m c) (h2 : val m' k = val m k + x)
    (h3 : ∀ c d, c < n → d < n → c ≠ d → ¬ (c = i ∧ d = j) → chan m' c d = chan m c d) (h4 : chan m' i j = chan m i j - x) : sumN n (val m') + sum2 n (chn m') = S := by
  rw [← hS, sumN_one hk h1, sum2_one (F := chn m') (G := chn m) hi hj fun c d hc hd hne => ?_]
  · have e1 : chn m' i j = chan m' i j := by unfold chn; rw [if_neg hij]
    have e2 : chn m i j = chan m i j := by unfold chn; rw [if_neg hij]
    rw [e1, e2, h2, h4]
    omega
  · unfold chn
    split
    · rfl
    · rename_i h; exact h3 c d hc hd h hne
theorem cut_come {n k : Nat} {S : Int} {m : M} (h : InvM n k m) (c : InvC n k S m) (hk : k < 200) {a b : Nat} (ha : a < n) (hb : b < n) (hab : a ≠ b) : InvC n (k + 1) S (comeM n m a b) := by
  have hstn : ∀ i, i < n → 0 ≤ m.st i ∧ m.st i ≤ 1000 + 12 * ((k + 1 : Nat) : Int) := fun i hi => by have := c.stn i hi; omega
  have hcnt : ∀ x y, x < n → y < n → pays (m.wy x y) + (m.rc y x).length ≤ k + 1 := fun x y hx hy => by have := c.cnt x y hx hy; omega
  unfold comeM
  cases hw : m.wy a b with
  | nil => exact ⟨c.rec0, hcnt, hstn, c.rcn, c.cut⟩
  | cons x r =>
    simp only
    have hmk := h.mkr a b ha hb hab
    rw [hw, marks_cons] at hmk
    have hc0 := c.cnt a b ha hb
    rw [hw, pays_cons] at hc0
    have hpr := pre_cons x r
    have hx := h.item a b ha hb x (by rw [hw]; simp)
    have hcb := h.cob b hb
    have hcnt2 : ∀ c d, c < n → d < n → pays (upd2 m.wy a b r c d) + (m.rc d c).length ≤ k + 1 := fun c d hc hd => by
      unfold upd2
      split
      · rename_i he
        rw [he.1, he.2]
        omega
      · exact hcnt c d hc hd
    by_cases hm : x.marker = true
    · rw [if_pos hm]
      rw [if_pos hm] at hmk hpr
      cases hov : m.ov b a with
      | true =>
        rw [hov] at hmk
        simp only [Bool.toNat_true] at hmk
        have : (m.bg a).toNat ≤ 1 := by cases m.bg a <;> decide
        omega
      | false =>
        simp only [Bool.false_eq_true, if_false]
        have hch : ∀ wy : Nat → Nat → List Item, (∀ c d, c < n → d < n → pre (wy c d) = pre (upd2 m.wy a b r c d)) → ∀ i j, i < n → j < n → i ≠ j →
            (m.rc i j).sum + (if upd2 m.ov b a true i j then 0 else pre (wy j i)) = chan m i j := fun wy hwy i j hi hj hij => by
          rw [hwy j i hj hi]
          unfold chan
          by_cases he : i = b ∧ j = a
          · obtain ⟨rfl, rfl⟩ := he
            rw [upd2_eq, upd2_eq, hov, hw, hpr]
            rfl
          · rw [upd2_ne he, upd2_ne (nsw he)]
        cases hbg : m.bg b with
        | true =>
          simp only [if_true]
          exact ⟨c.rec0, hcnt2, hstn, c.rcn, (cut_same c.cut (fun i _ => rfl) (hch _ fun _ _ _ _ => rfl))⟩
        | false =>
          simp only [Bool.false_eq_true, if_false]
          refine ⟨fun i j hi hj hb0 => ?_, fun c d hc hd => ?_, fun i hi => ?_, c.rcn, (cut_same c.cut (fun i _ => ?_) (hch _ fun _ _ _ _ => sayM_pre))⟩
          · simp only [upd] at hb0
            split at hb0
            · cases hb0
            · exact c.rec0 i j hi hj hb0
          · simp only [sayM_pays]
            exact hcnt2 c d hc hd
          · simp only [upd]
            split
            · omega
            · exact hstn i hi
          · simp only [val, upd]
            by_cases he : i = b
            · subst he
              simp [hbg]
            · simp [he]
    · rw [if_neg hm]
      rw [if_neg hm] at hpr hc0
      have hcnt3 : ∀ c d, c < n → d < n → ¬ (c = a ∧ d = b) → upd2 m.wy a b r c d = m.wy c d := fun c d _ _ he => by unfold upd2; rw [if_neg he]
      by_cases hcnd : m.bg b = true ∧ m.ov b a = false ∧ (m.rc b a).length ≠ 200
      · rw [if_pos hcnd]
        refine ⟨fun i j hi hj hb0 => ?_, fun c d hc hd => ?_, hstn, fun i j hi hj y hy => ?_, (cut_same c.cut (fun i _ => ?_) fun i j hi hj hij => ?_)⟩
        · simp only [upd2]
          split
          · rename_i he
            rw [show i = b from he.1, hcnd.1] at hb0
            cases hb0
          · exact c.rec0 i j hi hj hb0
        · simp only [upd2]
          by_cases he : c = a ∧ d = b
          · rw [if_pos he, if_pos ⟨he.2, he.1⟩, List.length_append, List.length_singleton]
            omega
          · rw [if_neg he, if_neg (show ¬ (d = b ∧ c = a) from fun e => he ⟨e.2, e.1⟩)]
            exact hcnt c d hc hd
        · simp only [upd2] at hy
          split at hy
          · rcases List.mem_append.1 hy with hy | hy
            · exact c.rcn b a hb ha y hy
            · rw [List.mem_singleton.1 hy]
              exact ⟨hx.1, hx.2.1⟩
          · exact c.rcn i j hi hj y hy
        · simp only [val, upd]
          by_cases he : i = b
          · subst he
            rw [hcnd.1]
            rfl
          · rw [if_neg he]
        · by_cases he : i = b ∧ j = a
          · obtain ⟨rfl, rfl⟩ := he
            simp only [chan, upd2_eq, hcnd.2.1, hw, hpr, List.sum_append]
            simp
            omega
          · simp only [chan, upd2_ne he, upd2_ne (nsw he)]
      · rw [if_neg hcnd]
        cases hbg : m.bg b with
        | true =>
          have hov : m.ov b a = true := by
            cases hov : m.ov b a with
            | true => rfl
            | false => exact absurd ⟨hbg, hov, by omega⟩ hcnd
          refine ⟨c.rec0, hcnt2, hstn, c.rcn, (cut_same c.cut (fun i _ => ?_) fun i j hi hj hij => ?_)⟩
          · simp only [val, upd]
            by_cases he : i = b
            · subst he
              rw [hbg]
              rfl
            · rw [if_neg he]
          · by_cases he : i = b ∧ j = a
            · obtain ⟨rfl, rfl⟩ := he
              simp only [chan, hov]
              rfl
            · simp only [chan, upd2_ne (nsw he)]
        | false =>
          have hov : m.ov b a = false := by
            cases hov : m.ov b a with
            | false => rfl
            | true => rw [h.obg a b ha hb hab hov] at hbg; cases hbg
          refine ⟨c.rec0, hcnt2, hstn, c.rcn, (cut_move c.cut (i := b) (j := a) (k := b) (x := x.n) hb ha hb (fun e => hab e.symm) (fun i hi hne => ?_) ?_ (fun i j hi hj hij he => ?_) ?_)⟩
          · simp only [val, upd, if_neg hne]
          · simp only [val, upd, hbg]
            simp
          · simp only [chan, upd2_ne (nsw he)]
          · simp only [chan, upd2_eq, hov, hw, hpr]
            simp
            omega
theorem cut_do {n k : Nat} {S : Int} {m : M} (h : InvM n k m) (c : InvC n k S m) (hk : k < 200) {a b : Nat} (ha : a < n) (hb : b < n) {kd nn : Int} (hn : kd = 1 → 1 ≤ nn ∧ nn ≤ 12) : InvC n (k + 1) S (doM n m kd a b nn) := by
  have hstn : ∀ i, i < n → 0 ≤ m.st i ∧ m.st i ≤ 1000 + 12 * ((k + 1 : Nat) : Int) := fun i hi => by have := c.stn i hi; omega
  have hcnt : ∀ x y, x < n → y < n → pays (m.wy x y) + (m.rc y x).length ≤ k + 1 := fun x y hx hy => by have := c.cnt x y hx hy; omega
  have same : InvC n (k + 1) S m := ⟨c.rec0, hcnt, hstn, c.rcn, c.cut⟩
  unfold doM
  by_cases h0 : kd ≠ 3 ∧ a = b
  · rw [if_pos h0]; exact same
  rw [if_neg h0]
  by_cases h1 : kd = 1
  · rw [if_pos h1]
    replace hn := hn h1
    split
    · have hab : a ≠ b := fun e => h0 ⟨by omega, e⟩
      have hmk := h.mkr a b ha hb hab
      refine ⟨c.rec0, fun x y hx hy => ?_, hstn, c.rcn, ?_⟩
      · simp only [upd2]
        split
        · rename_i he
          rw [pays_app, he.1, he.2]
          have := c.cnt a b ha hb
          simp
          omega
        · exact hcnt x y hx hy
      · have hpr := pre_app_pay (m.wy a b) ⟨nn, false⟩ rfl
        cases hbg : m.bg a with
        | true =>
          refine (cut_same c.cut (fun i _ => ?_) fun i j hi hj hij => ?_)
          · simp only [val, upd]
            by_cases he : i = a
            · subst he
              rw [hbg]
              rfl
            · rw [if_neg he]
          · by_cases he : j = a ∧ i = b
            · obtain ⟨rfl, rfl⟩ := he
              simp only [chan, upd2_eq, hpr]
              cases hov : m.ov i j with
              | true => rfl
              | false =>
                rw [hov, hbg] at hmk
                simp at hmk
                rw [hmk]
                simp
            · simp only [chan, upd2_ne he]
        | false =>
          rw [hbg] at hmk
          simp only [Bool.toNat_false] at hmk
          have hov : m.ov b a = false := by
            cases hov : m.ov b a with
            | false => rfl
            | true => rw [hov] at hmk; simp at hmk
          refine (cut_move c.cut (i := b) (j := a) (k := a) (x := -nn) hb ha ha (fun e => hab e.symm) (fun i hi hne => ?_) ?_ (fun i j hi hj hij he => ?_) ?_)
          · simp only [val, upd, if_neg hne]
          · simp only [val, upd, hbg]
            simp
            omega
          · simp only [chan, upd2_ne (nsw he)]
          · simp only [chan, upd2_eq, hov, hpr, if_pos (show marks (m.wy a b) = 0 by omega)]
            simp
            omega
    · exact same
  rw [if_neg h1]
  by_cases h2 : kd = 2
  · rw [if_pos h2]
    exact cut_come h c hk ha hb fun e => h0 ⟨by omega, e⟩
  rw [if_neg h2]
  have hca := h.cob a ha
  cases hbg : m.bg a with
  | true => simp only [if_true]; exact same
  | false =>
    simp only [Bool.false_eq_true, if_false]
    refine ⟨fun i j hi hj hb0 => ?_, fun c d hc hd => ?_, fun i hi => ?_, c.rcn, (cut_same c.cut (fun i _ => ?_) fun i j hi hj hij => ?_)⟩
    · simp only [upd] at hb0
      split at hb0
      · cases hb0
      · exact c.rec0 i j hi hj hb0
    · simp only [sayM_pays]
      exact hcnt c d hc hd
    · simp only [upd]
      split
      · omega
      · exact hstn i hi
    · simp only [val, upd]
      by_cases he : i = a
      · subst he
        simp [hbg]
      · simp [he]
    · unfold chan
      simp only [sayM_pre]
theorem cut_fold {n : Nat} {S T : Int} : ∀ (deeds : List GMark_Deed) (k : Nat) (t : Tw) (m : M), St n k T t m → InvC n k S m → k + deeds.length ≤ 200 → (∀ d ∈ deeds, D12 n d) → InvC n (k + deeds.length) S (deeds.foldl (deedM n) m)
  | [], k, t, m, h, c, _, _ => c
  | d :: ds, k, t, m, h, c, hk, hd => by
    have h12 := hd d (by simp)
    have ha : d.From.toNat < n := by have := h12.frm; omega
    have hb : d.To.toNat < n := by have := h12.to_; omega
    simp only [List.length_cons] at hk
    have := cut_fold ds (k + 1) _ _ (st_do h h12) (cut_do h.inv c (by omega) ha hb h12.num) (by omega) fun x hx => hd x (by simp [hx])
    simp only [List.foldl_cons, List.length_cons]
    rw [show k + (ds.length + 1) = k + 1 + ds.length by omega]
    exact this
theorem sumN_zero (n : Nat) : sumN n (fun _ => 0) = 0 := by
  induction n with
  | zero => rfl
  | succ n ih => rw [sumN_succ, ih]; rfl
theorem cut_zero {coins : List Int} (hc : ∀ c ∈ coins, 0 ≤ c ∧ c ≤ 1000) : InvC coins.length 0 coins.sum (m0 coins) := by
  refine ⟨fun _ _ _ _ _ => rfl, fun _ _ _ _ => Nat.zero_le _, fun _ _ => by simp [m0], fun _ _ _ _ x hx => by simp [m0] at hx, ?_⟩
  have e1 : sum2 coins.length (chn (m0 coins)) = 0 := by
    rw [sum2_congr (G := fun _ _ => 0) fun a b _ _ => ?_]
    · unfold sum2
      rw [sumN_congr (g := fun _ => 0) fun _ _ => sumN_zero _, sumN_zero]
    · unfold chn chan
      split
      · rfl
      · simp [m0, pre, sumI]
  have e2 : sumN coins.length (val (m0 coins)) = coins.sum := by
    unfold sumN
    congr 1
    refine List.ext_getElem? fun i => ?_
    rw [List.getElem?_map]
    rcases Nat.lt_or_ge i coins.length with hi | hi
    · rw [List.getElem?_range hi, List.getElem?_eq_getElem hi]
      simp [m0, val, List.getD_eq_getElem?_getD, List.getElem?_eq_getElem hi]
    · rw [List.getElem?_eq_none hi, List.getElem?_eq_none (by simpa using hi)]
      rfl
  rw [e1, e2]
  omega


theorem bsum {B : Int} : ∀ {l : List Int}, (∀ x ∈ l, 0 ≤ x ∧ x ≤ B) → ∀ k, 0 ≤ (l.take k).sum ∧ (l.take k).sum ≤ B * l.length
  | [], _, k => by simp
  | a :: l, h, 0 => by
    have := h a (by simp)
    have := bsum (l := l) (fun x hx => h x (by simp [hx])) 0
    simp only [List.take_zero, List.sum_nil, List.length_cons] at this ⊢
    rw [show B * ((l.length + 1 : Nat) : Int) = B * l.length + B by rw [Int.natCast_add, Int.mul_add]; simp]
    omega
  | a :: l, h, k + 1 => by
    have := h a (by simp)
    have := bsum (l := l) (fun x hx => h x (by simp [hx])) k
    simp only [List.take_succ_cons, List.sum_cons, List.length_cons]
    rw [show B * ((l.length + 1 : Nat) : Int) = B * l.length + B by rw [Int.natCast_add, Int.mul_add]; simp]
    omega
theorem bsum_all {B : Int} {l : List Int} (h : ∀ x ∈ l, 0 ≤ x ∧ x ≤ B) : 0 ≤ l.sum ∧ l.sum ≤ B * l.length := by
  have := bsum h l.length
  rwa [List.take_of_length_le (Nat.le_refl _)] at this
def ws2 (w : List (List Int)) : Int := (w.map List.sum).sum
structure ShotOk (S : Int) (n : Nat) (sh : GMark_Shot) : Prop where
  now : ∀ x ∈ sh.Now, 0 ≤ x ∧ x ≤ 3000
  len : sh.Now.length = n
  n5 : n ≤ 5
  s5 : 0 ≤ S ∧ S ≤ 5000
  tot : sh.Left + sh.Now.sum = S
  nd : sh.Done = false → sh.States = []
  sts : ∀ x ∈ sh.States, 0 ≤ x ∧ x ≤ 3000
  stl : sh.States.length ≤ 5
  wyl : sh.Ways.length ≤ 5
  wyy : ∀ w ∈ sh.Ways, w.length ≤ 5 ∧ ∀ y ∈ w, y.length ≤ 200 ∧ ∀ z ∈ y, 0 ≤ z ∧ z ≤ 12
  dn : sh.Done = true → sh.States.sum + (sh.Ways.map ws2).sum = S
theorem ShotOk.rows {S : Int} {n : Nat} {sh : GMark_Shot} (o : ShotOk S n sh) : ∀ w ∈ sh.Ways, (∀ x ∈ w.map List.sum, 0 ≤ x ∧ x ≤ 2400) ∧ 0 ≤ ws2 w ∧ ws2 w ≤ 12000 := by
  intro w hw
  obtain ⟨h1, h2⟩ := o.wyy w hw
  have h3 : ∀ x ∈ w.map List.sum, 0 ≤ x ∧ x ≤ 2400 := fun x hx => by
    obtain ⟨y, hy, rfl⟩ := List.mem_map.1 hx
    obtain ⟨h4, h5⟩ := h2 y hy
    have := bsum_all h5
    omega
  have := bsum_all h3
  rw [List.length_map] at this
  refine ⟨h3, this.1, ?_⟩
  unfold ws2
  omega
end Go.Hw.VK

