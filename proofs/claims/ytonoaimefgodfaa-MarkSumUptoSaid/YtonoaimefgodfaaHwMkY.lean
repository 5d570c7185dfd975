import Derived.Test.YtonoaimefgodfaaHwMkX
set_option linter.unusedVariables false
set_option linter.unusedSimpArgs false
namespace Go.Hw.VK
open Go Go.Proofs

def val (m : M) (i : Nat) : Int := if m.bg i then m.st i else m.co i
def chan (m : M) (i j : Nat) : Int := (m.rc i j).sum + if m.ov i j then 0 else pre (m.wy j i)
def chn (m : M) (i j : Nat) : Int := if i = j then 0 else chan m i j
theorem upd2_eq {A : Type} {f : Nat → Nat → A} {i j : Nat} {v : A} : upd2 f i j v i j = v := if_pos ⟨rfl, rfl⟩
theorem upd2_ne {A : Type} {f : Nat → Nat → A} {i j x y : Nat} {v : A} (h : ¬ (x = i ∧ y = j)) : upd2 f i j v x y = f x y := if_neg h
theorem nsw {a b c d : Nat} (h : ¬ (a = b ∧ c = d)) : ¬ (c = d ∧ a = b) := fun e => h ⟨e.2, e.1⟩
structure InvC (n k : Nat) (S : Int) (m : M) : Prop where
  rec0 : ∀ i j, i < n → j < n → m.bg i = false → m.rc i j = []
  cnt : ∀ a b, a < n → b < n → pays (m.wy a b) + (m.rc b a).length ≤ k
  stn : ∀ i, i < n → 0 ≤ m.st i ∧ m.st i ≤ 1000 + 12 * k
  rcn : ∀ i j, i < n → j < n → ∀ x ∈ m.rc i j, 0 ≤ x ∧ x ≤ 12
  cut : sumN n (val m) + sum2 n (chn m) = S
theorem cut_same {n : Nat} {S : Int} {m m' : M} (hS : sumN n (val m) + sum2 n (chn m) = S) (h1 : ∀ i, i < n → val m' i = val m i) (h2 : ∀ i j, i < n → j < n → i ≠ j → chan m' i j = chan m i j) : sumN n (val m') + sum2 n (chn m') = S := by
  rw [← hS, sumN_congr h1, sum2_congr (F := chn m') (G := chn m) fun a b ha hb => ?_]
  unfold chn
  split
  · rfl
  · rename_i h; exact h2 a b ha hb h
theorem cut_move {n i j k : Nat} {S : Int} {m m' : M} {x : Int} (hS : sumN n (val m) + sum2 n (chn m) = S) (hi : i < n) (hj : j < n) (hk : k < n) (hij : i ≠ j) (h1 : ∀ c, c < n → c ≠ k → val m' c = val m c) (h2 : val m' k = val m k + x)
    (h3 : ∀ c d, c < n → d < n → c ≠ d → ¬ (c = i ∧ d = j) → chan m' c d = chan m c d) (h4 : chan m' i j = chan m i j - x) : sumN n (val m') + sum2 n (chn m') = S := by
  rw [← hS, sumN_one hk h1, sum2_one (F := chn m') (G := chn m) hi hj fun c d hc hd hne => ?_]
  · have e1 : chn m' i j = chan m' i j := by unfold chn; rw [if_neg hij]
    have e2 : chn m i j = chan m i j := by unfold chn; rw [if_neg hij]
    rw [e1, e2, h2, h4]
    omega
  · unfold chn
    split
    · rfl
    · rename_i h; exact h3 c d hc hd h hne
theorem cut_come {n k : Nat} {S : Int} {m : M} (h : InvM n k m) (c : InvC n k S m) (hk : k < 200) {a b : Nat} (ha : a < n) (hb : b < n) (hab : a ≠ b) : InvC n (k + 1) S (comeM n m a b) := by
  have hstn : ∀ i, i < n → 0 ≤ m.st i ∧ m.st i ≤ 1000 + 12 * ((k + 1 : Nat) : Int) := fun i hi => by have := c.stn i hi; omega
  have hcnt : ∀ x y, x < n → y < n → pays (m.wy x y) + (m.rc y x).length ≤ k + 1 := fun x y hx hy => by have := c.cnt x y hx hy; omega
  unfold comeM
  cases hw : m.wy a b with
  | nil => exact ⟨c.rec0, hcnt, hstn, c.rcn, c.cut⟩
  | cons x r =>
    simp only
    have hmk := h.mkr a b ha hb hab
    rw [hw, marks_cons] at hmk
    have hc0 := c.cnt a b ha hb
    rw [hw, pays_cons] at hc0
    have hpr := pre_cons x r
    have hx := h.item a b ha hb x (by rw [hw]; simp)
    have hcb := h.cob b hb
    have hcnt2 : ∀ c d, c < n → d < n → pays (upd2 m.wy a b r c d) + (m.rc d c).length ≤ k + 1 := fun c d hc hd => by
      unfold upd2
      split
      · rename_i he
        rw [he.1, he.2]
        omega
      · exact hcnt c d hc hd
    by_cases hm : x.marker = true
    · rw [if_pos hm]
      rw [if_pos hm] at hmk hpr
      cases hov : m.ov b a with
      | true =>
        rw [hov] at hmk
        simp only [Bool.toNat_true] at hmk
        have : (m.bg a).toNat ≤ 1 := by cases m.bg a <;> decide
        omega
      | false =>
        simp only [Bool.false_eq_true, if_false]
        have hch : ∀ wy : Nat → Nat → List Item, (∀ c d, c < n → d < n → pre (wy c d) = pre (upd2 m.wy a b r c d)) → ∀ i j, i < n → j < n → i ≠ j →
            (m.rc i j).sum + (if upd2 m.ov b a true i j then 0 else pre (wy j i)) = chan m i j := fun wy hwy i j hi hj hij => by
          rw [hwy j i hj hi]
          unfold chan
          by_cases he : i = b ∧ j = a
          · obtain ⟨rfl, rfl⟩ := he
            rw [upd2_eq, upd2_eq, hov, hw, hpr]
            rfl
          · rw [upd2_ne he, upd2_ne (nsw he)]
        cases hbg : m.bg b with
        | true =>
          simp only [if_true]
          exact ⟨c.rec0, hcnt2, hstn, c.rcn, (cut_same c.cut (fun i _ => rfl) (hch _ fun _ _ _ _ => rfl))⟩
        | false =>
          simp only [Bool.false_eq_true, if_false]
          refine ⟨fun i j hi hj hb0 => ?_, fun c d hc hd => ?_, fun i hi => ?_, c.rcn, (cut_same c.cut (fun i _ => ?_) (hch _ fun _ _ _ _ => sayM_pre))⟩
          · simp only [upd] at hb0
            split at hb0
            · cases hb0
            · exact c.rec0 i j hi hj hb0
          · simp only [sayM_pays]
            exact hcnt2 c d hc hd
          · simp only [upd]
            split
            · omega
            · exact hstn i hi
          · simp only [val, upd]
            by_cases he : i = b
            · subst he
              simp [hbg]
            · simp [he]
    · rw [if_neg hm]
      rw [if_neg hm] at hpr hc0
      have hcnt3 : ∀ c d, c < n → d < n → ¬ (c = a ∧ d = b) → upd2 m.wy a b r c d = m.wy c d := fun c d _ _ he => by unfold upd2; rw [if_neg he]
      by_cases hcnd : m.bg b = true ∧ m.ov b a = false ∧ (m.rc b a).length ≠ 200
      · rw [if_pos hcnd]
        refine ⟨fun i j hi hj hb0 => ?_, fun c d hc hd => ?_, hstn, fun i j hi hj y hy => ?_, (cut_same c.cut (fun i _ => ?_) fun i j hi hj hij => ?_)⟩
        · simp only [upd2]
          split
          · rename_i he
            rw [show i = b from he.1, hcnd.1] at hb0
            cases hb0
          · exact c.rec0 i j hi hj hb0
        · simp only [upd2]
          by_cases he : c = a ∧ d = b
          · rw [if_pos he, if_pos ⟨he.2, he.1⟩, List.length_append, List.length_singleton]
            omega
          · rw [if_neg he, if_neg (show ¬ (d = b ∧ c = a) from fun e => he ⟨e.2, e.1⟩)]
            exact hcnt c d hc hd
        · simp only [upd2] at hy
          split at hy
          · rcases List.mem_append.1 hy with hy | hy
            · exact c.rcn b a hb ha y hy
            · rw [List.mem_singleton.1 hy]
              exact ⟨hx.1, hx.2.1⟩
          · exact c.rcn i j hi hj y hy
        · simp only [val, upd]
          by_cases he : i = b
          · subst he
            rw [hcnd.1]
            rfl
          · rw [if_neg he]
        · by_cases he : i = b ∧ j = a
          · obtain ⟨rfl, rfl⟩ := he
            simp only [chan, upd2_eq, hcnd.2.1, hw, hpr, List.sum_append]
            simp
            omega
          · simp only [chan, upd2_ne he, upd2_ne (nsw he)]
      · rw [if_neg hcnd]
        cases hbg : m.bg b with
        | true =>
          have hov : m.ov b a = true := by
            cases hov : m.ov b a with
            | true => rfl
            | false => exact absurd ⟨hbg, hov, by omega⟩ hcnd
          refine ⟨c.rec0, hcnt2, hstn, c.rcn, (cut_same c.cut (fun i _ => ?_) fun i j hi hj hij => ?_)⟩
          · simp only [val, upd]
            by_cases he : i = b
            · subst he
              rw [hbg]
              rfl
            · rw [if_neg he]
          · by_cases he : i = b ∧ j = a
            · obtain ⟨rfl, rfl⟩ := he
              simp only [chan, hov]
              rfl
            · simp only [chan, upd2_ne (nsw he)]
        | false =>
          have hov : m.ov b a = false := by
            cases hov : m.ov b a with
            | false => rfl
            | true => rw [h.obg a b ha hb hab hov] at hbg; cases hbg
          refine ⟨c.rec0, hcnt2, hstn, c.rcn, (cut_move c.cut (i := b) (j := a) (k := b) (x := x.n) hb ha hb (fun e => hab e.symm) (fun i hi hne => ?_) ?_ (fun i j hi hj hij he => ?_) ?_)⟩
          · simp only [val, upd, if_neg hne]
          · simp only [val, upd, hbg]
            simp
          · simp only [chan, upd2_ne (nsw he)]
          · simp only [chan, upd2_eq, hov, hw, hpr]
            simp
            omega
theorem cut_do {n k : Nat} {S : Int} {m : M} (h : InvM n k m) (c : InvC n k S m) (hk : k < 200) {a b : Nat} (ha : a < n) (hb : b < n) {kd nn : Int} (hn : kd = 1 → 1 ≤ nn ∧ nn ≤ 12) : InvC n (k + 1) S (doM n m kd a b nn) := by
  have hstn : ∀ i, i < n → 0 ≤ m.st i ∧ m.st i ≤ 1000 + 12 * ((k + 1 : Nat) : Int) := fun i hi => by have := c.stn i hi; omega
  have hcnt : ∀ x y, x < n → y < n → pays (m.wy x y) + (m.rc y x).length ≤ k + 1 := fun x y hx hy => by have := c.cnt x y hx hy; omega
  have same : InvC n (k + 1) S m := ⟨c.rec0, hcnt, hstn, c.rcn, c.cut⟩
  unfold doM
  by_cases h0 : kd ≠ 3 ∧ a = b
  · rw [if_pos h0]; exact same
  rw [if_neg h0]
  by_cases h1 : kd = 1
  · rw [if_pos h1]
    replace hn := hn h1
    split
    · have hab : a ≠ b := fun e => h0 ⟨by omega, e⟩
      have hmk := h.mkr a b ha hb hab
      refine ⟨c.rec0, fun x y hx hy => ?_, hstn, c.rcn, ?_⟩
      · simp only [upd2]
        split
        · rename_i he
          rw [pays_app, he.1, he.2]
          have := c.cnt a b ha hb
          simp
          omega
        · exact hcnt x y hx hy
      · have hpr := pre_app_pay (m.wy a b) ⟨nn, false⟩ rfl
        cases hbg : m.bg a with
        | true =>
          refine (cut_same c.cut (fun i _ => ?_) fun i j hi hj hij => ?_)
          · simp only [val, upd]
            by_cases he : i = a
            · subst he
              rw [hbg]
              rfl
            · rw [if_neg he]
          · by_cases he : j = a ∧ i = b
            · obtain ⟨rfl, rfl⟩ := he
              simp only [chan, upd2_eq, hpr]
              cases hov : m.ov i j with
              | true => rfl
              | false =>
                rw [hov, hbg] at hmk
                simp at hmk
                rw [hmk]
                simp
            · simp only [chan, upd2_ne he]
        | false =>
          rw [hbg] at hmk
          simp only [Bool.toNat_false] at hmk
          have hov : m.ov b a = false := by
            cases hov : m.ov b a with
            | false => rfl
            | true => rw [hov] at hmk; simp at hmk
          refine (cut_move c.cut (i := b) (j := a) (k := a) (x := -nn) hb ha ha (fun e => hab e.symm) (fun i hi hne => ?_) ?_ (fun i j hi hj hij he => ?_) ?_)
          · simp only [val, upd, if_neg hne]
          · simp only [val, upd, hbg]
            simp
            omega
          · simp only [chan, upd2_ne (nsw he)]
          · simp only [chan, upd2_eq, hov, hpr, if_pos (show marks (m.wy a b) = 0 by omega)]
            simp
            omega
    · exact same
  rw [if_neg h1]
  by_cases h2 : kd = 2
  · rw [if_pos h2]
    exact cut_come h c hk ha hb fun e => h0 ⟨by omega, e⟩
  rw [if_neg h2]
  have hca := h.cob a ha
  cases hbg : m.bg a with
  | true => simp only [if_true]; exact same
  | false =>
    simp only [Bool.false_eq_true, if_false]
    refine ⟨fun i j hi hj hb0 => ?_, fun c d hc hd => ?_, fun i hi => ?_, c.rcn, (cut_same c.cut (fun i _ => ?_) fun i j hi hj hij => ?_)⟩
    · simp only [upd] at hb0
      split at hb0
      · cases hb0
      · exact c.rec0 i j hi hj hb0
    · simp only [sayM_pays]
      exact hcnt c d hc hd
    · simp only [upd]
      split
      · omega
      · exact hstn i hi
    · simp only [val, upd]
      by_cases he : i = a
      · subst he
        simp [hbg]
      · simp [he]
    · unfold chan
      simp only [sayM_pre]
theorem cut_fold {n : Nat} {S T : Int} : ∀ (deeds : List GMark_Deed) (k : Nat) (t : Tw) (m : M), St n k T t m → InvC n k S m → k + deeds.length ≤ 200 → (∀ d ∈ deeds, D12 n d) → InvC n (k + deeds.length) S (deeds.foldl (deedM n) m)
  | [], k, t, m, h, c, _, _ => c
  | d :: ds, k, t, m, h, c, hk, hd => by
    have h12 := hd d (by simp)
    have ha : d.From.toNat < n := by have := h12.frm; omega
    have hb : d.To.toNat < n := by have := h12.to_; omega
    simp only [List.length_cons] at hk
    have := cut_fold ds (k + 1) _ _ (st_do h h12) (cut_do h.inv c (by omega) ha hb h12.num) (by omega) fun x hx => hd x (by simp [hx])
    simp only [List.foldl_cons, List.length_cons]
    rw [show k + (ds.length + 1) = k + 1 + ds.length by omega]
    exact this
theorem sumN_zero (n : Nat) : sumN n (fun _ => 0) = 0 := by
  induction n with
  | zero => rfl
  | succ n ih => rw [sumN_succ, ih]; rfl
theorem cut_zero {coins : List Int} (hc : ∀ c ∈ coins, 0 ≤ c ∧ c ≤ 1000) : InvC coins.length 0 coins.sum (m0 coins) := by
  refine ⟨fun _ _ _ _ _ => rfl, fun _ _ _ _ => Nat.zero_le _, fun _ _ => by simp [m0], fun _ _ _ _ x hx => by simp [m0] at hx, ?_⟩
  have e1 : sum2 coins.length (chn (m0 coins)) = 0 := by
    rw [sum2_congr (G := fun _ _ => 0) fun a b _ _ => ?_]
    · unfold sum2
      rw [sumN_congr (g := fun _ => 0) fun _ _ => sumN_zero _, sumN_zero]
    · unfold chn chan
      split
      · rfl
      · simp [m0, pre, sumI]
  have e2 : sumN coins.length (val (m0 coins)) = coins.sum := by
    unfold sumN
    congr 1
    refine List.ext_getElem? fun i => ?_
    rw [List.getElem?_map]
    rcases Nat.lt_or_ge i coins.length with hi | hi
    · rw [List.getElem?_range hi, List.getElem?_eq_getElem hi]
      simp [m0, val, List.getD_eq_getElem?_getD, List.getElem?_eq_getElem hi]
    · rw [List.getElem?_eq_none hi, List.getElem?_eq_none (by simpa using hi)]
      rfl
  rw [e1, e2]
  omega


theorem bsum {B : Int} : ∀ {l : List Int}, (∀ x ∈ l, 0 ≤ x ∧ x ≤ B) → ∀ k, 0 ≤ (l.take k).sum ∧ (l.take k).sum ≤ B * l.length
  | [], _, k => by simp
  | a :: l, h, 0 => by
    have := h a (by simp)
    have := bsum (l := l) (fun x hx => h x (by simp [hx])) 0
    simp only [List.take_zero, List.sum_nil, List.length_cons] at this ⊢
    rw [show B * ((l.length + 1 : Nat) : Int) = B * l.length + B by rw [Int.natCast_add, Int.mul_add]; simp]
    omega
  | a :: l, h, k + 1 => by
    have := h a (by simp)
    have := bsum (l := l) (fun x hx => h x (by simp [hx])) k
    simp only [List.take_succ_cons, List.sum_cons, List.length_cons]
    rw [show B * ((l.length + 1 : Nat) : Int) = B * l.length + B by rw [Int.natCast_add, Int.mul_add]; simp]
    omega
theorem take_step {l : List Int} {k : Nat} {a : Int} (h : l[k]? = some a) : (l.take (k + 1)).sum = (l.take k).sum + a := by
  rw [List.take_add_one, h, List.sum_append]
  simp
theorem bsum_all {B : Int} {l : List Int} (h : ∀ x ∈ l, 0 ≤ x ∧ x ≤ B) : 0 ≤ l.sum ∧ l.sum ≤ B * l.length := by
  have := bsum h l.length
  rwa [List.take_of_length_le (Nat.le_refl _)] at this
theorem sum_filter {f : Nat → Int} {p : Nat → Bool} : ∀ l : List Nat, ((l.filter p).map f).sum = (l.map fun j => if p j then f j else 0).sum
  | [] => rfl
  | a :: l => by
    rw [List.filter_cons]
    cases h : p a
    · simp [h, sum_filter l]
    · simp [h, sum_filter l]
theorem sum_others {n i : Nat} (f : Nat → Int) : ((others n i).map f).sum = sumN n fun j => if i = j then 0 else f j := by
  unfold others
  rw [sum_filter]
  refine sumN_congr fun j _ => ?_
  by_cases h : i = j
  · subst h; simp
  · rw [if_neg h, if_pos (by simpa using fun e => h e.symm)]
def ws2 (w : List (List Int)) : Int := (w.map List.sum).sum
structure ShotOk (S : Int) (n : Nat) (sh : GMark_Shot) : Prop where
  now : ∀ x ∈ sh.Now, 0 ≤ x ∧ x ≤ 3000
  len : sh.Now.length = n
  n5 : n ≤ 5
  s5 : 0 ≤ S ∧ S ≤ 5000
  tot : sh.Left + sh.Now.sum = S
  nd : sh.Done = false → sh.States = []
  sts : ∀ x ∈ sh.States, 0 ≤ x ∧ x ≤ 3000
  stl : sh.States.length ≤ 5
  wyl : sh.Ways.length ≤ 5
  wyy : ∀ w ∈ sh.Ways, w.length ≤ 5 ∧ ∀ y ∈ w, y.length ≤ 200 ∧ ∀ z ∈ y, 0 ≤ z ∧ z ≤ 12
  dn : sh.Done = true → sh.States.sum + (sh.Ways.map ws2).sum = S
theorem ShotOk.rows {S : Int} {n : Nat} {sh : GMark_Shot} (o : ShotOk S n sh) : ∀ w ∈ sh.Ways, (∀ x ∈ w.map List.sum, 0 ≤ x ∧ x ≤ 2400) ∧ 0 ≤ ws2 w ∧ ws2 w ≤ 12000 := by
  intro w hw
  obtain ⟨h1, h2⟩ := o.wyy w hw
  have h3 : ∀ x ∈ w.map List.sum, 0 ≤ x ∧ x ≤ 2400 := fun x hx => by
    obtain ⟨y, hy, rfl⟩ := List.mem_map.1 hx
    obtain ⟨h4, h5⟩ := h2 y hy
    have := bsum_all h5
    omega
  have := bsum_all h3
  rw [List.length_map] at this
  refine ⟨h3, this.1, ?_⟩
  unfold ws2
  omega
theorem w11_gen {coins : List Int} {l : List GMark_Deed} {C : List Int} {D : List GMark_Deed} {S : Int} {sh : GMark_Shot} (h37 : sp37 coins l (C, D, S)) (h38 : sp38 C D (sh, 0)) (o : ShotOk S C.length sh) : w11 coins l fun r => r = true := by
  refine ⟨_, h37, _, h38, true, s39, fun h => by simp at h, fun _ => ⟨fun h => absurd rfl h, fun _ => ?_⟩⟩
  have hN := bsum o.now
  have hS := o.s5
  have hL := bsum_all o.now
  have hT := o.tot
  have hlen := o.len
  have hn5 := o.n5
  dsimp only
  refine ⟨fun s i => ∃ k : Nat, i = k ∧ k ≤ sh.Now.length ∧ s = sh.Left + (sh.Now.take k).sum, fun _ i => (sh.Now.length - i).toNat, ⟨0, rfl, by omega, by simp⟩, ?_⟩
  rintro s i ⟨k, rfl, hk, rfl⟩ w rfl
  refine ⟨fun h => ⟨by have := of_decide_eq_true h; omega, fun a ha => ?_⟩, fun h => ?_⟩
  · have hlt : k < sh.Now.length := by have := of_decide_eq_true h; omega
    have ha' : sh.Now[k]? = some a := by simpa using ha
    have := hN k
    have := o.now a (List.mem_of_getElem? ha')
    refine ⟨by simp only [R64]; omega, ?_⟩
    rintro _ rfl
    refine ⟨by simp only [R64]; omega, ?_⟩
    rintro _ rfl
    refine ⟨⟨k + 1, by omega, by omega, ?_⟩, by first | omega | (dsimp only; omega)⟩
    rw [take_step ha']
    omega
  have hge : sh.Now.length ≤ k := by have := of_decide_eq_false h; omega
  rw [List.take_of_length_le hge]
  refine ⟨fun hne => absurd hT hne, fun _ => ⟨fun hne => absurd (by rw [hlen]) hne, fun _ => ⟨fun hd => ?_, fun hd => ?_⟩⟩⟩
  · rintro _ rfl
    rw [o.nd (by simpa using hd)]
    rfl
  have hd : sh.Done = true := by simpa using hd
  have hSt := bsum o.sts
  have hstl := o.stl
  have hwyl := o.wyl
  refine ⟨fun s i => ∃ k : Nat, i = k ∧ k ≤ sh.States.length ∧ s = (sh.States.take k).sum, fun _ i => (sh.States.length - i).toNat, ⟨0, rfl, by omega, by simp⟩, ?_⟩
  rintro s i ⟨k1, rfl, hk1, rfl⟩ w rfl
  refine ⟨fun h => ⟨by have := of_decide_eq_true h; omega, fun a ha => ?_⟩, fun h => ?_⟩
  · have hlt : k1 < sh.States.length := by have := of_decide_eq_true h; omega
    have ha' : sh.States[k1]? = some a := by simpa using ha
    have := hSt k1
    have := o.sts a (List.mem_of_getElem? ha')
    refine ⟨by simp only [R64]; omega, ?_⟩
    rintro _ rfl
    refine ⟨by simp only [R64]; omega, ?_⟩
    rintro _ rfl
    refine ⟨⟨k1 + 1, by omega, by omega, ?_⟩, by first | omega | (dsimp only; omega)⟩
    rw [take_step ha']
  have hge1 : sh.States.length ≤ k1 := by have := of_decide_eq_false h; omega
  rw [List.take_of_length_le hge1]
  have hA := bsum_all o.sts
  generalize hGA : sh.States.sum = A at hA
  have hWs : ∀ x ∈ sh.Ways.map ws2, 0 ≤ x ∧ x ≤ 12000 := fun x hx => by
    obtain ⟨w, hw, rfl⟩ := List.mem_map.1 hx
    exact (o.rows w hw).2
  have hW := bsum hWs
  rw [List.length_map] at hW
  refine ⟨fun s i => ∃ k : Nat, i = k ∧ k ≤ sh.Ways.length ∧ s = A + ((sh.Ways.map ws2).take k).sum, fun _ i => (sh.Ways.length - i).toNat, ⟨0, rfl, by omega, by simp⟩, ?_⟩
  rintro s i ⟨k2, rfl, hk2, rfl⟩ w rfl
  refine ⟨fun h => ⟨by have := of_decide_eq_true h; omega, fun a ha => ?_⟩, fun h => ?_⟩
  · have hlt : k2 < sh.Ways.length := by have := of_decide_eq_true h; omega
    have ha' : sh.Ways[k2]? = some a := by simpa using ha
    have ha2 : (sh.Ways.map ws2)[k2]? = some (ws2 a) := by rw [List.getElem?_map, ha']; rfl
    have hb2 := hW k2
    have ham := List.mem_of_getElem? ha'
    obtain ⟨r1, r2⟩ := o.rows a ham
    obtain ⟨y1, y2⟩ := o.wyy a ham
    have hR := bsum r1
    rw [List.length_map] at hR
    generalize hGB : A + ((sh.Ways.map ws2).take k2).sum = B
    refine ⟨fun s i => ∃ k : Nat, i = k ∧ k ≤ a.length ∧ s = B + ((a.map List.sum).take k).sum, fun _ i => (a.length - i).toNat, ⟨0, rfl, by omega, by simp⟩, ?_⟩
    rintro s i ⟨k3, rfl, hk3, rfl⟩ w rfl
    refine ⟨fun h => ⟨by have := of_decide_eq_true h; omega, fun c hc => ?_⟩, fun h => ?_⟩
    · have hlt3 : k3 < a.length := by have := of_decide_eq_true h; omega
      have hc' : a[k3]? = some c := by simpa using hc
      have hc2 : (a.map List.sum)[k3]? = some c.sum := by rw [List.getElem?_map, hc']; rfl
      have hb3 := hR k3
      obtain ⟨z1, z2⟩ := y2 c (List.mem_of_getElem? hc')
      have hZ := bsum z2
      generalize hGC : B + ((a.map List.sum).take k3).sum = E
      refine ⟨fun s i => ∃ k : Nat, i = k ∧ k ≤ c.length ∧ s = E + (c.take k).sum, fun _ i => (c.length - i).toNat, ⟨0, rfl, by omega, by simp⟩, ?_⟩
      rintro s i ⟨k4, rfl, hk4, rfl⟩ w rfl
      refine ⟨fun h => ⟨by have := of_decide_eq_true h; omega, fun d hd => ?_⟩, fun h => ?_⟩
      · have hlt4 : k4 < c.length := by have := of_decide_eq_true h; omega
        have hd' : c[k4]? = some d := by simpa using hd
        have := hZ k4
        have := z2 d (List.mem_of_getElem? hd')
        refine ⟨by simp only [R64]; omega, ?_⟩
        rintro _ rfl
        refine ⟨by simp only [R64]; omega, ?_⟩
        rintro _ rfl
        refine ⟨⟨k4 + 1, by omega, by omega, ?_⟩, by first | omega | (dsimp only; omega)⟩
        rw [take_step hd']
        omega
      · have hge4 : c.length ≤ k4 := by have := of_decide_eq_false h; omega
        rw [List.take_of_length_le hge4]
        refine ⟨by simp only [R64]; omega, ?_⟩
        rintro _ rfl
        refine ⟨⟨k3 + 1, by omega, by omega, ?_⟩, by first | omega | (dsimp only; omega)⟩
        rw [take_step hc2]
        omega
    · have hge3 : a.length ≤ k3 := by have := of_decide_eq_false h; omega
      rw [List.take_of_length_le (by rw [List.length_map]; exact hge3)]
      refine ⟨by simp only [R64]; omega, ?_⟩
      rintro _ rfl
      refine ⟨⟨k2 + 1, by omega, by omega, ?_⟩, by first | omega | (dsimp only; omega)⟩
      rw [take_step ha2]
      have : ws2 a = (a.map List.sum).sum := rfl
      omega
  · have hge2 : sh.Ways.length ≤ k2 := by have := of_decide_eq_false h; omega
    rw [List.take_of_length_le (by rw [List.length_map]; exact hge2)]
    rintro _ rfl
    have := o.dn hd
    rw [← hGA, this]
    simp
theorem s11 {coins : List Int} {l : List GMark_Deed} (hc : ∀ c ∈ coins, R64 c) (hl : ∀ d ∈ l, RD d) (hcl : coins.length ≤ 9223372036854775807) (hll : l.length ≤ 9223372036854775807) : sp11 coins l true := by
  obtain ⟨t1, t2, t3, t4, t5⟩ := towns_facts coins l
  have h37 := s37 hc hl hcl hll
  generalize hC : coinsF coins = C at t1 t2 t3 t4 t5 h37
  have hS5 : 0 ≤ C.sum ∧ C.sum ≤ 5000 := by have := bsum_all t3; omega
  generalize deedsF C.length l = D at h37 t4 t5
  have st := st_run t3 t5
  have ic := cut_fold D 0 _ _ (st_zero t3) (cut_zero t3) (by omega) t5
  rw [Nat.zero_add] at ic
  have ic : InvC C.length D.length C.sum (runM C D) := ic
  have hnow : (shotF (runF C D)).Now = (List.range C.length).map (runM C D).co := st.sim.coins
  refine ok11 _ _ _ (w11_gen h37 (run_sp38 t1 (by omega) t3 (by omega) t5) ⟨fun x hx => ?_, ?_, t2, hS5, ?_, fun hd => ?_, ?_, ?_, ?_, ?_, fun hd => ?_⟩)
  · rw [hnow] at hx
    obtain ⟨i, hi, rfl⟩ := List.mem_map.1 hx
    have := st.inv.cob i (List.mem_range.1 hi)
    omega
  · rw [hnow]; simp
  · have := st.tot
    show leftF _ + (runF C D).coins.sum = _
    omega
  · show (if (shotF (runF C D)).Done then _ else _) = _
    rw [hd]; rfl
  all_goals cases hdn : (shotF (runF C D)).Done
  · have : (shotF (runF C D)).States = [] := by
      show (if (shotF (runF C D)).Done then _ else _) = _
      rw [hdn]; rfl
    rw [this]; simp
  · obtain ⟨p1, p2⟩ := shot_parts st.sim ((done_iff st.sim).1 hdn)
    rw [p1]
    intro x hx
    obtain ⟨i, hi, rfl⟩ := List.mem_map.1 hx
    have := ic.stn i (List.mem_range.1 hi)
    omega
  · have : (shotF (runF C D)).States = [] := by
      show (if (shotF (runF C D)).Done then _ else _) = _
      rw [hdn]; rfl
    rw [this]; simp
  · obtain ⟨p1, p2⟩ := shot_parts st.sim ((done_iff st.sim).1 hdn)
    rw [p1]; simpa using t2
  · have : (shotF (runF C D)).Ways = [] := by
      show (if (shotF (runF C D)).Done then _ else _) = _
      rw [hdn]; rfl
    rw [this]; simp
  · obtain ⟨p1, p2⟩ := shot_parts st.sim ((done_iff st.sim).1 hdn)
    rw [p2]; simpa using t2
  · have : (shotF (runF C D)).Ways = [] := by
      show (if (shotF (runF C D)).Done then _ else _) = _
      rw [hdn]; rfl
    rw [this]; simp
  · obtain ⟨p1, p2⟩ := shot_parts st.sim ((done_iff st.sim).1 hdn)
    rw [p2]
    intro w hw
    obtain ⟨i, hi, rfl⟩ := List.mem_map.1 hw
    refine ⟨?_, fun y hy => ?_⟩
    · rw [List.length_map]
      have := List.length_filter_le (fun k => decide (k ≠ i)) (List.range C.length)
      rw [List.length_range] at this
      show (List.filter _ _).length ≤ _
      omega
    · obtain ⟨j, hj, rfl⟩ := List.mem_map.1 hy
      exact ⟨st.inv.rcl j i, ic.rcn i j (List.mem_range.1 hi) (mem_others.1 hj).1⟩
  · rw [hdn] at hd; cases hd
  · have had := (done_iff st.sim).1 hdn
    obtain ⟨p1, p2⟩ := shot_parts st.sim had
    rw [p1, p2, List.map_map, ← ic.cut]
    congr 1
    · refine sumN_congr fun i hi => ?_
      unfold val
      rw [if_pos (had i hi).1]
    · unfold sum2
      refine sumN_congr fun i hi => ?_
      simp only [Function.comp, ws2, List.map_map]
      rw [sum_others]
      refine sumN_congr fun j hj => ?_
      unfold chn chan
      split
      · rfl
      · rename_i hne
        rw [if_pos ((had i hi).2 j (mem_others.2 ⟨hj, fun e => hne e.symm⟩))]
        simp
end Go.Hw.VK

