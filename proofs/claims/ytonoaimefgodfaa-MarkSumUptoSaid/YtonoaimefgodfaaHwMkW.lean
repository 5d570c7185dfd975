import Derived.Test.YtonoaimefgodfaaHwMkV
set_option linter.unusedVariables false
set_option linter.unusedSimpArgs false
namespace Go.Hw.VK
open Go Go.Proofs


def sumN (n : Nat) (f : Nat → Int) : Int := ((List.range n).map f).sum
def sum2 (n : Nat) (F : Nat → Nat → Int) : Int := sumN n fun a => sumN n (F a)
theorem sumN_succ (n : Nat) (f : Nat → Int) : sumN (n + 1) f = sumN n f + f n := by
  unfold sumN
  rw [List.range_succ, List.map_append, List.sum_append]
  simp
theorem sumN_congr {n : Nat} {f g : Nat → Int} (h : ∀ i, i < n → f i = g i) : sumN n f = sumN n g := by
  unfold sumN
  rw [map_range_upd n 0 f g h]
theorem sumN_one {n a : Nat} {f g : Nat → Int} (ha : a < n) (h : ∀ i, i < n → i ≠ a → f i = g i) : sumN n f = sumN n g - g a + f a := by
  induction n with
  | zero => omega
  | succ n ih =>
    rw [sumN_succ, sumN_succ]
    by_cases hn : a = n
    · subst hn
      rw [sumN_congr (f := f) (g := g) fun i hi => h i (by omega) (by omega)]
      omega
    · have := ih (by omega) fun i hi => h i (by omega)
      have := h n (by omega) (by omega)
      omega
theorem sum2_congr {n : Nat} {F G : Nat → Nat → Int} (h : ∀ a b, a < n → b < n → F a b = G a b) : sum2 n F = sum2 n G :=
  sumN_congr fun a ha => sumN_congr fun b hb => h a b ha hb
theorem sum2_one {n a b : Nat} {F G : Nat → Nat → Int} (ha : a < n) (hb : b < n) (h : ∀ x y, x < n → y < n → ¬ (x = a ∧ y = b) → F x y = G x y) : sum2 n F = sum2 n G - G a b + F a b := by
  unfold sum2
  rw [sumN_one (g := fun x => sumN n (G x)) ha fun x hx hne => sumN_congr fun y hy => h x y hx hy fun e => hne e.1]
  rw [sumN_one (f := F a) (g := G a) hb fun y hy hne => h a y ha hy fun e => hne e.2]
  omega
theorem sum_set : ∀ {l : List Int} {j : Nat} {x : Int} (v : Int), l[j]? = some x → (l.set j v).sum = l.sum - x + v
  | [], j, x, v, h => by simp at h
  | a :: l, 0, x, v, h => by
    simp at h
    subst h
    simp only [List.set_cons_zero, List.sum_cons]
    omega
  | a :: l, j + 1, x, v, h => by
    have := sum_set (l := l) (j := j) v (by simpa using h)
    simp only [List.set_cons_succ, List.sum_cons, this]
    omega


structure WOk (n : Nat) (g : GM Key (List Item)) : Prop where
  wf : g.wf
  keys : ∀ p ∈ g.es, ∃ a b : Nat, a < n ∧ b < n ∧ p.2.1 = ((a : Int), (b : Int))
theorem put_key {g : GM Key (List Item)} {k : Key} {v : List Item} {q : Nat × Key × List Item} (h : q ∈ (g.put k v).es) : q ∈ g.es ∨ q.2.1 = k := by
  unfold GM.put at h
  cases hi : g.idx k with
  | none =>
    rw [hi] at h
    rcases List.mem_append.1 h with h | h
    · exact .inl h
    · right; rw [List.mem_singleton.1 h]
  | some j =>
    obtain ⟨p, hp, _⟩ := GM.idx_lt hi
    rw [hi] at h
    simp only [hp] at h
    rcases List.mem_or_eq_of_mem_set h with h | h
    · exact .inl h
    · right; rw [h]
theorem WOk.put {n : Nat} {g : GM Key (List Item)} (h : WOk n g) {a b : Nat} (ha : a < n) (hb : b < n) (v : List Item) : WOk n (g.put ((a : Int), (b : Int)) v) := by
  refine ⟨GM.put_wf h.wf _ _, fun p hp => ?_⟩
  rcases put_key hp with hp | hp
  · exact h.keys p hp
  · exact ⟨a, b, ha, hb, hp⟩
theorem WOk.say {n : Nat} {g : GM Key (List Item)} (h : WOk n g) {i : Nat} (hi : i < n) : ∀ k, k ≤ n → WOk n (sayF k (i : Int) g)
  | 0, _ => h
  | k + 1, hk => by
    rw [sayF_succ]
    unfold sayStep
    split
    · exact h.say hi k (by omega)
    · exact (h.say hi k (by omega)).put hi (by omega) _
theorem WOk.len {n : Nat} {g : GM Key (List Item)} (h : WOk n g) : g.es.length ≤ n * n := by
  have h1 := nodup_len (l := g.es.map (·.2.1)) (m := (List.range n).flatMap fun a : Nat => (List.range n).map fun b : Nat => (((a : Int), (b : Int)) : Key)) h.wf.keys fun k hk => by
    obtain ⟨p, hp, rfl⟩ := List.mem_map.1 hk
    obtain ⟨a, b, ha, hb, e⟩ := h.keys p hp
    rw [e]
    exact List.mem_flatMap.2 ⟨a, List.mem_range.2 ha, List.mem_map.2 ⟨b, List.mem_range.2 hb, rfl⟩⟩
  have h2 : ∀ L : List Nat, (L.flatMap fun a : Nat => (List.range n).map fun b : Nat => (((a : Int), (b : Int)) : Key)).length = L.length * n := by
    intro L
    induction L with
    | nil => simp
    | cons x L ih => rw [List.flatMap_cons, List.length_append, ih, List.length_map, List.length_range, List.length_cons, Nat.add_mul]; omega
  rw [h2, List.length_range, List.length_map] at h1
  exact h1
theorem leftF_put {g : GM Key (List Item)} (k : Key) (v : List Item) : leftF (g.put k v) = leftF g - sumI ((g.get k).getD []) + sumI v := by
  rw [GM.get_idx]
  unfold leftF GM.put
  cases hi : g.idx k with
  | none =>
    simp only [List.map_append, List.sum_append, List.map_cons, List.map_nil, List.sum_cons, List.sum_nil, Option.getD_none]
    simp [sumI]
  | some j =>
    obtain ⟨p, hp, _⟩ := GM.idx_lt hi
    simp only [hp, List.map_set, Option.map_some, Option.getD_some]
    rw [sum_set (x := sumI p.2.2) _ (by rw [List.getElem?_map, hp]; rfl)]
theorem sumI_app (l : List Item) (x : Item) : sumI (l ++ [x]) = sumI l + x.n := by simp [sumI]
theorem leftF_wadd (g : GM Key (List Item)) (k : Key) (x : Item) : leftF (wadd g k x) = leftF g + x.n := by
  unfold wadd
  rw [leftF_put, sumI_app]
  omega
theorem leftF_say (g : GM Key (List Item)) (i : Int) : ∀ n, leftF (sayF n i g) = leftF g
  | 0 => rfl
  | n + 1 => by
    rw [sayF_succ]
    unfold sayStep
    split
    · exact leftF_say g i n
    · rw [leftF_wadd, leftF_say g i n]
      simp


def pays (l : List Item) : Nat := l.countP fun x => !x.marker
def marks (l : List Item) : Nat := l.countP fun x => x.marker
def pre (l : List Item) : Int := sumI (l.takeWhile fun x => !x.marker)
theorem pays_app (l : List Item) (x : Item) : pays (l ++ [x]) = pays l + if x.marker then 0 else 1 := by
  unfold pays
  rw [List.countP_append]
  cases h : x.marker <;> simp [h]
theorem marks_app (l : List Item) (x : Item) : marks (l ++ [x]) = marks l + if x.marker then 1 else 0 := by
  unfold marks
  rw [List.countP_append]
  cases h : x.marker <;> simp [h]
theorem pays_cons (x : Item) (l : List Item) : pays (x :: l) = pays l + if x.marker then 0 else 1 := by
  unfold pays
  rw [List.countP_cons]
  cases h : x.marker <;> simp
theorem marks_cons (x : Item) (l : List Item) : marks (x :: l) = marks l + if x.marker then 1 else 0 := by
  unfold marks
  rw [List.countP_cons]
theorem pre_cons (x : Item) (l : List Item) : pre (x :: l) = if x.marker then 0 else x.n + pre l := by
  unfold pre
  rw [List.takeWhile_cons]
  cases h : x.marker
  · simp [sumI]
  · simp [sumI]
theorem pre_app_mark : ∀ (l : List Item) (x : Item), x.marker = true → pre (l ++ [x]) = pre l
  | [], x, h => by rw [List.nil_append, pre_cons, if_pos h]; simp [pre, sumI]
  | a :: l, x, h => by
    rw [List.cons_append, pre_cons, pre_cons, pre_app_mark l x h]
theorem pre_app_pay : ∀ (l : List Item) (x : Item), x.marker = false → pre (l ++ [x]) = if marks l = 0 then pre l + x.n else pre l
  | [], x, h => by
    rw [List.nil_append, pre_cons, h]
    simp [marks, pre, sumI]
  | a :: l, x, h => by
    rw [List.cons_append, pre_cons, pre_cons, pre_app_pay l x h, marks_cons]
    cases ha : a.marker
    · simp only [Bool.false_eq_true, if_false, Nat.add_zero]
      split <;> omega
    · simp


structure InvM (n k : Nat) (m : M) : Prop where
  cob : ∀ a, a < n → 0 ≤ m.co a ∧ m.co a ≤ 1000 + 12 * k
  item : ∀ a b, a < n → b < n → ∀ x ∈ m.wy a b, 0 ≤ x.n ∧ x.n ≤ 12 ∧ (x.marker = true → x.n = 0)
  mkr : ∀ a b, a < n → b < n → a ≠ b → marks (m.wy a b) + (m.ov b a).toNat = (m.bg a).toNat
  obg : ∀ a b, a < n → b < n → a ≠ b → m.ov b a = true → m.bg b = true
  rcl : ∀ a b, (m.rc b a).length ≤ 200
theorem sayM_mk {n i a b : Nat} {wy : Nat → Nat → List Item} (hb : b < n) (hab : a ≠ b) : marks (sayM n i wy a b) = marks (wy a b) + if a = i then 1 else 0 := by
  unfold sayM
  by_cases h : a = i
  · subst h
    rw [if_pos ⟨rfl, hb, fun e => hab e.symm⟩, marks_app]
    simp [mk]
  · rw [if_neg (by omega), if_neg h]
    rfl
theorem sayM_sub {n i a b : Nat} {wy : Nat → Nat → List Item} {x : Item} (h : x ∈ sayM n i wy a b) : x ∈ wy a b ∨ x = mk := by
  unfold sayM at h
  split at h
  · rcases List.mem_append.1 h with h | h
    · exact .inl h
    · exact .inr (List.mem_singleton.1 h)
  · exact .inl h
theorem sayM_pays {n i a b : Nat} {wy : Nat → Nat → List Item} : pays (sayM n i wy a b) = pays (wy a b) := by
  unfold sayM
  split
  · rw [pays_app]; rfl
  · rfl
theorem sayM_pre {n i a b : Nat} {wy : Nat → Nat → List Item} : pre (sayM n i wy a b) = pre (wy a b) := by
  unfold sayM
  split
  · rw [pre_app_mark _ _ rfl]
  · rfl
theorem mk_item : 0 ≤ mk.n ∧ mk.n ≤ 12 ∧ (mk.marker = true → mk.n = 0) := ⟨by decide, by decide, fun _ => rfl⟩
theorem inv_come {n k : Nat} {m : M} (h : InvM n k m) {a b : Nat} (ha : a < n) (hb : b < n) (hab : a ≠ b) : InvM n (k + 1) (comeM n m a b) := by
  have hk : ∀ c, c < n → 0 ≤ m.co c ∧ m.co c ≤ 1000 + 12 * ((k + 1 : Nat) : Int) := fun c hc => by have := h.cob c hc; omega
  unfold comeM
  cases hw : m.wy a b with
  | nil => exact ⟨hk, h.item, h.mkr, h.obg, h.rcl⟩
  | cons x r =>
    simp only
    have hmk := h.mkr a b ha hb hab
    rw [hw, marks_cons] at hmk
    have hitem : ∀ c d, c < n → d < n → ∀ y ∈ upd2 m.wy a b r c d, 0 ≤ y.n ∧ y.n ≤ 12 ∧ (y.marker = true → y.n = 0) := fun c d hc hd y hy => by
      unfold upd2 at hy
      split at hy
      · exact h.item a b ha hb y (by rw [hw]; exact List.mem_cons_of_mem _ hy)
      · exact h.item c d hc hd y hy
    have hx := h.item a b ha hb x (by rw [hw]; simp)
    have hcb := h.cob b hb
    by_cases hm : x.marker = true
    · rw [if_pos hm]
      rw [if_pos hm] at hmk
      cases hov : m.ov b a with
      | true =>
        rw [hov] at hmk
        simp only [Bool.toNat_true] at hmk
        have : (m.bg a).toNat ≤ 1 := by cases m.bg a <;> decide
        omega
      | false =>
        simp only [Bool.false_eq_true, if_false]
        rw [hov] at hmk
        simp only [Bool.toNat_false, Nat.add_zero] at hmk
        have hmr : marks r = 0 ∧ m.bg a = true := by
          cases hbga : m.bg a with
          | true => rw [hbga] at hmk; simp only [Bool.toNat_true] at hmk; exact ⟨by omega, rfl⟩
          | false => rw [hbga] at hmk; simp at hmk
        cases hbg : m.bg b with
        | true =>
          simp only [if_true]
          refine ⟨hk, hitem, fun c d hc hd hcd => ?_, fun c d hc hd hcd ho => ?_, h.rcl⟩
          · simp only [upd2]
            by_cases he : c = a ∧ d = b
            · obtain ⟨rfl, rfl⟩ := he
              simp [hmr.1, hmr.2]
            · rw [if_neg he, if_neg (fun e => he ⟨e.2, e.1⟩)]
              exact h.mkr c d hc hd hcd
          · simp only [upd2] at ho
            by_cases he : d = b ∧ c = a
            · rw [he.1]; exact hbg
            · rw [if_neg he] at ho
              exact h.obg c d hc hd hcd ho
        | false =>
          simp only [Bool.false_eq_true, if_false]
          refine ⟨hk, fun c d hc hd y hy => ?_, fun c d hc hd hcd => ?_, fun c d hc hd hcd ho => ?_, h.rcl⟩
          · rcases sayM_sub hy with hy | rfl
            · exact hitem c d hc hd y hy
            · exact mk_item
          · rw [sayM_mk hd hcd]
            simp only [upd2, upd]
            by_cases he : c = a ∧ d = b
            · obtain ⟨rfl, rfl⟩ := he
              rw [if_pos ⟨rfl, rfl⟩, if_neg hab, if_pos ⟨rfl, rfl⟩, if_neg hab]
              simp [hmr.1, hmr.2]
            · rw [if_neg he, if_neg (show ¬ (d = b ∧ c = a) from fun e => he ⟨e.2, e.1⟩)]
              have := h.mkr c d hc hd hcd
              by_cases hcb : c = b
              · subst hcb
                rw [hbg] at this
                simp only [Bool.toNat_false] at this
                simp only [if_true, Bool.toNat_true]
                omega
              · rw [if_neg hcb, if_neg hcb]
                omega
          · simp only [upd2, upd] at ho ⊢
            by_cases he : d = b ∧ c = a
            · rw [if_pos he.1]
            · rw [if_neg he] at ho
              split
              · rfl
              · exact h.obg c d hc hd hcd ho
    · rw [if_neg hm]
      rw [if_neg hm, Nat.add_zero] at hmk
      have hco : ∀ c, c < n → 0 ≤ upd m.co b (m.co b + x.n) c ∧ upd m.co b (m.co b + x.n) c ≤ 1000 + 12 * ((k + 1 : Nat) : Int) := fun c hc => by
        unfold upd
        split
        · omega
        · exact hk c hc
      have hmk2 : ∀ c d, c < n → d < n → c ≠ d → marks (upd2 m.wy a b r c d) + (m.ov d c).toNat = (m.bg c).toNat := fun c d hc hd hcd => by
        unfold upd2
        by_cases he : c = a ∧ d = b
        · obtain ⟨rfl, rfl⟩ := he
          rw [if_pos ⟨rfl, rfl⟩]
          exact hmk
        · rw [if_neg he]
          exact h.mkr c d hc hd hcd
      split
      · exact ⟨hco, hitem, hmk2, h.obg, fun c d => by
          rename_i hcnd
          simp only [upd2]
          split
          · have := h.rcl a b
            have := hcnd.2.2
            rw [List.length_append, List.length_singleton]
            omega
          · exact h.rcl c d⟩
      · exact ⟨hco, hitem, hmk2, h.obg, h.rcl⟩
theorem inv_do {n k : Nat} {m : M} (h : InvM n k m) {a b : Nat} (ha : a < n) (hb : b < n) {kd nn : Int} (hn : kd = 1 → 1 ≤ nn ∧ nn ≤ 12) : InvM n (k + 1) (doM n m kd a b nn) := by
  have hk : ∀ c, c < n → 0 ≤ m.co c ∧ m.co c ≤ 1000 + 12 * ((k + 1 : Nat) : Int) := fun c hc => by have := h.cob c hc; omega
  unfold doM
  by_cases h0 : kd ≠ 3 ∧ a = b
  · rw [if_pos h0]; exact ⟨hk, h.item, h.mkr, h.obg, h.rcl⟩
  rw [if_neg h0]
  by_cases h1 : kd = 1
  · rw [if_pos h1]
    replace hn := hn h1
    split
    · rename_i hpay
      have hca := h.cob a ha
      have hab : a ≠ b := fun e => h0 ⟨by omega, e⟩
      refine ⟨fun c hc => ?_, fun c d hc hd y hy => ?_, fun c d hc hd hcd => ?_, h.obg, h.rcl⟩
      · simp only [upd]
        split
        · omega
        · exact hk c hc
      · simp only [upd2] at hy
        split at hy
        · rcases List.mem_append.1 hy with hy | hy
          · exact h.item a b ha hb y hy
          · rw [List.mem_singleton.1 hy]
            exact ⟨by show 0 ≤ nn; omega, hn.2, nofun⟩
        · exact h.item c d hc hd y hy
      · simp only [upd2]
        by_cases he : c = a ∧ d = b
        · obtain ⟨rfl, rfl⟩ := he
          rw [if_pos ⟨rfl, rfl⟩, marks_app]
          simpa using h.mkr c d hc hd hcd
        · rw [if_neg he]
          exact h.mkr c d hc hd hcd
    · exact ⟨hk, h.item, h.mkr, h.obg, h.rcl⟩
  rw [if_neg h1]
  by_cases h2 : kd = 2
  · rw [if_pos h2]
    exact inv_come h ha hb fun e => h0 ⟨by omega, e⟩
  rw [if_neg h2]
  cases hbg : m.bg a with
  | true => simp only [if_true]; exact ⟨hk, h.item, h.mkr, h.obg, h.rcl⟩
  | false =>
    simp only [Bool.false_eq_true, if_false]
    refine ⟨hk, fun c d hc hd y hy => ?_, fun c d hc hd hcd => ?_, fun c d hc hd hcd ho => ?_, h.rcl⟩
    · rcases sayM_sub hy with hy | rfl
      · exact h.item c d hc hd y hy
      · exact mk_item
    · rw [sayM_mk hd hcd]
      simp only [upd]
      have := h.mkr c d hc hd hcd
      by_cases hca : c = a
      · subst hca
        rw [hbg] at this
        simp only [Bool.toNat_false] at this
        simp only [if_true, Bool.toNat_true]
        omega
      · rw [if_neg hca, if_neg hca]
        omega
    · simp only [upd]
      split
      · rfl
      · exact h.obg c d hc hd hcd ho
end Go.Hw.VK

