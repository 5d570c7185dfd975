import Derived.Test.YtonoaimefgodfaaHwMoH
set_option linter.unusedVariables false
set_option linter.unusedSimpArgs false
namespace Go.Hw.VM
open Go Go.Proofs


section
variable {u : RW It → Int}
def seenS (u : RW It → Int) (es : List (Nat × Key × RW It)) (seen : List Nat) : Int := ((es.filter fun p => decide (p.1 ∈ seen)).map fun p => u p.2.2).sum
theorem seenS_nil (es : List (Nat × Key × RW It)) : seenS u es [] = 0 := by
  unfold seenS
  rw [List.filter_eq_nil_iff.2 (by simp)]
  rfl
theorem seenS_all {es : List (Nat × Key × RW It)} {seen : List Nat} (h : ∀ p ∈ es, p.1 ∈ seen) : seenS u es seen = (es.map fun p => u p.2.2).sum := by
  unfold seenS
  rw [List.filter_eq_self.2 fun p hp => by simpa using h p hp]
theorem seenS_add : ∀ {es : List (Nat × Key × RW It)} {seen : List Nat} {p : Nat × Key × RW It}, (es.map Prod.fst).Nodup → p ∈ es → p.1 ∉ seen → seenS u es (seen ++ [p.1]) = seenS u es seen + u p.2.2
  | [], seen, p, _, hp, _ => by simp at hp
  | q :: es, seen, p, hnd, hp, hs => by
    simp only [List.map_cons, List.nodup_cons] at hnd
    unfold seenS
    simp only [List.filter_cons]
    rcases List.mem_cons.1 hp with rfl | hp
    · have hrest : es.filter (fun q => decide (q.1 ∈ seen ++ [p.1])) = es.filter fun q => decide (q.1 ∈ seen) := by
        refine List.filter_congr fun q hq => ?_
        have : q.1 ≠ p.1 := fun e => hnd.1 (e ▸ List.mem_map.2 ⟨q, hq, rfl⟩)
        simp [this]
      rw [if_pos (by simp), if_neg (by simpa using hs), hrest]
      simp only [List.map_cons, List.sum_cons]
      omega
    · have hne : q.1 ≠ p.1 := fun e => hnd.1 (e ▸ List.mem_map.2 ⟨p, hp, rfl⟩)
      have ih := seenS_add hnd.2 hp hs
      unfold seenS at ih
      by_cases hq : q.1 ∈ seen
      · rw [if_pos (by simp [hq]), if_pos (by simp [hq])]
        simp only [List.map_cons, List.sum_cons]
        omega
      · rw [if_neg (by simp [hq, hne]), if_neg (by simp [hq])]
        exact ih
theorem seenS_bound {es : List (Nat × Key × RW It)} {B : Nat} (h : ∀ p ∈ es, 0 ≤ u p.2.2 ∧ u p.2.2 ≤ B) (seen : List Nat) : 0 ≤ seenS u es seen ∧ seenS u es seen ≤ (B : Int) * (es.length : Int) := by
  induction es with
  | nil => simp [seenS]
  | cons q es ih =>
    have ih := ih fun p hp => h p (by simp [hp])
    have h1 := h q (by simp)
    have e : (B : Int) * ((q :: es).length : Int) = (B : Int) * (es.length : Int) + (B : Int) := by
      simp only [List.length_cons, Int.natCast_add, Int.natCast_one, Int.mul_add, Int.mul_one]
    rw [e]
    generalize (B : Int) * (es.length : Int) = Z at ih ⊢
    unfold seenS at *
    simp only [List.filter_cons]
    split
    · simp only [List.map_cons, List.sum_cons]
      omega
    · omega
end
theorem nodup_len {A : Type} [DecidableEq A] : ∀ {l m : List A}, l.Nodup → (∀ x ∈ l, x ∈ m) → l.length ≤ m.length
  | [], m, _, _ => Nat.zero_le _
  | a :: l, m, hnd, hs => by
    obtain ⟨h1, h2⟩ := List.nodup_cons.1 hnd
    have hm := hs a (by simp)
    have := nodup_len (l := l) (m := m.erase a) h2 fun x hx => (List.mem_erase_of_ne (by rintro rfl; exact h1 hx)).2 (hs x (by simp [hx]))
    rw [List.length_erase_of_mem hm] at this
    have := List.length_pos_of_mem hm
    simp only [List.length_cons]
    omega
def sumUp (n : Nat) (f : Nat → Int) : Int := ((List.range n).map f).sum
theorem sumUp_succ (n : Nat) (f : Nat → Int) : sumUp (n + 1) f = sumUp n f + f n := by
  unfold sumUp
  rw [List.range_succ, List.map_append, List.sum_append]
  simp
theorem sumUp_bound {n : Nat} {f : Nat → Int} {B : Int} (h : ∀ i, i < n → 0 ≤ f i ∧ f i ≤ B) : 0 ≤ sumUp n f ∧ sumUp n f ≤ B * n := by
  induction n with
  | zero => simp [sumUp]
  | succ n ih =>
    have := ih fun i hi => h i (by omega)
    have := h n (by omega)
    rw [sumUp_succ, show B * ((n + 1 : Nat) : Int) = B * n + B by rw [Int.natCast_add, Int.mul_add]; simp]
    omega

def bodW (t : Nw) (w : Nat) : Int := ((t.early w).es.length : Int)
def hereW (t : Nw) (i w : Nat) : Int := if t.here i w then bodW t w else 0
def nodeW (t : Nw) (m i : Nat) : Int := ((t.waits i).length : Int) + sumUp m (hereW t i)
def itW (t : Nw) (x : It) : Int := if x.kind = 2 then bodW t x.who else 0
def rowW (t : Nw) (l : List It) : Int := (l.map (itW t)).sum
def waysS (t : Nw) : Int := (t.ways.es.map fun p => (p.2.2.length : Int)).sum
def waitsS (t : Nw) (K m : Nat) : Int := sumUp K (nodeW t m) + (t.ways.es.map fun p => rowW t p.2.2).sum
def toldF (t : Nw) (K m : Nat) (pl : Nat → Nat) : GMove_Told := ⟨(List.range m).map t.got, (List.range m).map fun w => (pl w : Int), waysS t, waitsS t K m⟩
theorem rowW_take {t : Nw} {l : List It} {k : Nat} {x : It} (h : l[k]? = some x) : rowW t (l.take (k + 1)) = rowW t (l.take k) + itW t x := by
  rw [List.take_add_one, h]
  unfold rowW
  simp
theorem rowW_bound {t : Nw} {l : List It} {B : Nat} (h : ∀ x ∈ l, bodW t x.who ≤ B) : 0 ≤ rowW t l ∧ rowW t l ≤ (B : Int) * (l.length : Int) := by
  induction l with
  | nil => simp [rowW]
  | cons a l ih =>
    have := ih fun x hx => h x (by simp [hx])
    have ha := h a (by simp)
    have hp : 0 ≤ bodW t a.who := Int.natCast_nonneg _
    have e : (B : Int) * ((a :: l).length : Int) = (B : Int) * (l.length : Int) + (B : Int) := by
      simp only [List.length_cons, Int.natCast_add, Int.natCast_one, Int.mul_add, Int.mul_one]
    rw [e]
    generalize (B : Int) * (l.length : Int) = Z at this ⊢
    unfold rowW at *
    simp only [List.map_cons, List.sum_cons]
    have : 0 ≤ itW t a ∧ itW t a ≤ B := by
      unfold itW
      split <;> omega
    omega
structure Pl (K m : Nat) (t : Nw) (pl : Nat → Nat) : Prop where
  node : ∀ i w, i < K → w < m → t.here i w = true → pl w = i
  way : ∀ q ∈ t.ways.es, ∀ x ∈ q.2.2, x.kind = 2 → pl x.who = 0
  some_ : ∀ w, w < m → (∃ i, i < K ∧ t.here i w = true) ∨ ∃ q ∈ t.ways.es, ∃ x ∈ q.2.2, x.kind = 2 ∧ x.who = w
def GS (t : Nw) (S : Nat → Bool) (w : Nat) : List GMove_Got := if S w then t.got w else []
def AS (pl : Nat → Nat) (S : Nat → Bool) (w : Nat) : Nat := if S w then pl w else 0
theorem GS_upd (t : Nw) (S : Nat → Bool) (w : Nat) : fupd (GS t S) w (t.got w) = GS t (fupd S w true) := by
  funext x
  by_cases h : x = w
  · subst h; simp [fupd, GS]
  · simp [fupd, GS, h]
theorem AS_upd (pl : Nat → Nat) (S : Nat → Bool) (w : Nat) : fupd (AS pl S) w (pl w) = AS pl (fupd S w true) := by
  funext x
  by_cases h : x = w
  · subst h; simp [fupd, AS]
  · simp [fupd, AS, h]
abbrev told0 : HObj := .cells [.list [] .full, .list [] .full, ii 0, ii 0]
theorem rep_range {A : Type} (n : Nat) (v : A) : List.replicate n v = (List.range n).map fun _ => v := by
  rw [List.map_const', List.length_range]
theorem flat1 {A : Type} {f : A → HV} {l : List A} (h : ∀ a, (f a).cells = [f a]) : flat (l.map f) = l.map f := by
  induction l with
  | nil => rfl
  | cons a l ih =>
    have : flat ((a :: l).map f) = (f a).cells ++ flat (l.map f) := by simp [flat]
    rw [this, ih, h]
    rfl
theorem told_end {h : Heap} {R : Lay} {m gid aid o : Nat} {G : Nat → List GMove_Got} {A : Nat → Nat} {wy wt : Int} {Q : HV → Heap → Prop} (hs : Sep h ((o, outO m gid aid wy wt) :: (gid, gotO m G) :: (aid, atO m A) :: R))
    (kk : ∀ h', Sep h' R → Q (eGMove_Told ⟨(List.range m).map G, (List.range m).map fun w => (A w : Int), wy, wt⟩) h') : SC Try.prog Try.f58.ntmps o .ret (RetS2 [.c 4 (some 4)] o Q) [(4, .ptr o 0)] h := by
  have hnd := hs.nd
  simp only [List.map_cons, List.nodup_cons, List.mem_cons, not_or] at hnd
  have go : h[o]? = some (outO m gid aid wy wt) := hs.get (by simp)
  have gg : h[gid]? = some (GA (eLst eGMove_Got) ((List.range m).map G)) := by
    rw [show GA (eLst eGMove_Got) ((List.range m).map G) = gotO m G by unfold GA; rw [flat1 (fun _ => rfl), List.map_map]; rfl]
    exact hs.get (by simp)
  refine SC.weak (w_freeze_cell (f := eLst eGMove_Got) (l := (List.range m).map G) (sz := 1) (n := m) o 0 gid (enc_lst enc_GMove_Got) hnd.1.1 gg go rfl (by simp) rfl) ?_
  have s1 := Sep.set (A := []) (Sep.set (A := [(o, outO m gid aid wy wt)]) hs .dead) (.cells [ln (eLst eGMove_Got) ((List.range m).map G), .arr aid 0 m 1, ii wy, ii wt])
  change SC _ _ _ _ _ _ ((h.set gid .dead).set o (.cells [ln (eLst eGMove_Got) ((List.range m).map G), .arr aid 0 m 1, ii wy, ii wt]))
  generalize (h.set gid HObj.dead).set o _ = h1 at s1 ⊢
  have s1 : Sep h1 ((o, .cells [ln (eLst eGMove_Got) ((List.range m).map G), .arr aid 0 m 1, ii wy, ii wt]) :: (aid, atO m A) :: R) := s1.sub ((List.sublist_cons_self _ _).cons_cons _)
  have go : h1[o]? = some (.cells [ln (eLst eGMove_Got) ((List.range m).map G), .arr aid 0 m 1, ii wy, ii wt]) := s1.get (by simp)
  have ga : h1[aid]? = some (GA (eInt .i64) ((List.range m).map fun w => (A w : Int))) := by
    rw [show GA (eInt .i64) ((List.range m).map fun w => (A w : Int)) = atO m A by unfold GA; rw [flat1 (fun _ => rfl), List.map_map]; rfl]
    exact s1.get (by simp)
  refine SC.weak (w_freeze_cell (f := eInt .i64) (l := (List.range m).map fun w => (A w : Int)) (sz := 1) (n := m) o 1 aid (enc_int .i64) hnd.1.2.1 ga go rfl (by simp) rfl) ?_
  have s2 := Sep.set (A := []) (Sep.set (A := [(o, .cells [ln (eLst eGMove_Got) ((List.range m).map G), .arr aid 0 m 1, ii wy, ii wt])]) s1 .dead) (.cells [ln (eLst eGMove_Got) ((List.range m).map G), ln (eInt .i64) ((List.range m).map fun w => (A w : Int)), ii wy, ii wt])
  change SC _ _ _ _ _ _ ((h1.set aid .dead).set o (.cells [ln (eLst eGMove_Got) ((List.range m).map G), ln (eInt .i64) ((List.range m).map fun w => (A w : Int)), ii wy, ii wt]))
  generalize (h1.set aid HObj.dead).set o _ = h2 at s2 ⊢
  have s2 : Sep h2 ((o, .cells [ln (eLst eGMove_Got) ((List.range m).map G), ln (eInt .i64) ((List.range m).map fun w => (A w : Int)), ii wy, ii wt]) :: R) := s2.sub ((List.sublist_cons_self _ _).cons_cons _)
  have g2 : h2[o]? = some (.cells [ln (eLst eGMove_Got) ((List.range m).map G), ln (eInt .i64) ((List.range m).map fun w => (A w : Int)), ii wy, ii wt]) := s2.get (by simp)
  refine sc_ret (x_ret [eGMove_Told ⟨(List.range m).map G, (List.range m).map fun w => (A w : Int), wy, wt⟩] ?_ (kk h2 (s2.sub (List.sublist_cons_self _ _))))
  simp [resVals2, resVal, Env.get, Heap.cells, g2, atCells]
  rfl
end Go.Hw.VM

