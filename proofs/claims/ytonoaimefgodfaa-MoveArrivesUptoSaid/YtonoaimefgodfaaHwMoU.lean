import Derived.Test.YtonoaimefgodfaaHwMoT
set_option linter.unusedVariables false
set_option linter.unusedSimpArgs false
namespace Go.Hw.VM
open Go Go.Proofs


def WL (t : Nw) (a b : Nat) : List It := (t.ways.get ((a : Int), (b : Int))).getD []
theorem key_eq {a b c d : Nat} : (((a : Int), (b : Int)) : Key) = ((c : Int), (d : Int)) ↔ a = c ∧ b = d := by
  constructor
  · intro h; injection h with h1 h2; exact ⟨by omega, by omega⟩
  · rintro ⟨rfl, rfl⟩; rfl
theorem WL_way (t : Nw) (a b : Nat) (r : List It) (c d : Nat) : WL (wayF t a b r) c d = if c = a ∧ d = b then r else WL t c d := by
  unfold WL wayF
  simp only [GM.get_put]
  by_cases h : c = a ∧ d = b
  · rw [if_pos (key_eq.2 h), if_pos h]; rfl
  · rw [if_neg (fun e => h (key_eq.1 e)), if_neg h]
theorem WL_add {t t' : Nw} {a b : Nat} {y : It} (h : t'.ways = wadd t.ways ((a : Int), (b : Int)) y) (c d : Nat) : WL t' c d = if c = a ∧ d = b then WL t c d ++ [y] else WL t c d := by
  unfold WL
  rw [h]
  unfold wadd
  simp only [GM.get_put]
  by_cases h : c = a ∧ d = b
  · rw [if_pos (key_eq.2 h), if_pos h]
    obtain ⟨rfl, rfl⟩ := h
    rfl
  · rw [if_neg (fun e => h (key_eq.1 e)), if_neg h]
theorem WL_same {t t' : Nw} (h : t'.ways = t.ways) (c d : Nat) : WL t' c d = WL t c d := by
  unfold WL; rw [h]
def mk : List It → List (Bool × It)
  | [] => []
  | x :: r => (r.any (isA x.who), x) :: mk r
theorem mk_app (y : It) : ∀ l : List It, mk (l ++ [y]) = (mk l).map (fun p => (p.1 || isA p.2.who y, p.2)) ++ [(false, y)]
  | [] => rfl
  | x :: r => by simp [mk, mk_app y r, List.any_append]
theorem mk_app' {y : It} (hy : y.kind ≠ 2) (l : List It) : mk (l ++ [y]) = mk l ++ [(false, y)] := by
  rw [mk_app]
  congr 1
  have : ∀ w, isA w y = false := fun w => by simp [isA, hy]
  simp [this]
theorem mk_mem {x : It} : ∀ {l : List It}, x ∈ l → ∃ e, (e, x) ∈ mk l
  | [], h => by simp at h
  | y :: r, h => by
    rcases List.mem_cons.1 h with rfl | h
    · exact ⟨_, by simp [mk]; left; rfl⟩
    · obtain ⟨e, he⟩ := mk_mem h
      exact ⟨e, by simp [mk, he]⟩
theorem mk_mem' {p : Bool × It} : ∀ {l : List It}, p ∈ mk l → p.2 ∈ l
  | [], h => by simp [mk] at h
  | y :: r, h => by
    rcases List.mem_cons.1 h with rfl | h
    · simp
    · simp [mk_mem' h]
theorem mk_len : ∀ l : List It, (mk l).length = l.length
  | [] => rfl
  | x :: r => by simp [mk, mk_len r]

structure Sv (t t' : Nw) : Prop where
  here : t'.here = t.here
  sn : t'.sn = t.sn
  st : t'.st = t.st
  ways : t'.ways = t.ways
theorem fold_sv {a : Nat} : ∀ (l : List It) (t : Nw), (∀ y ∈ l, t.here a y.who = true ∨ t.sn a y.who = a) →
    Sv t (l.foldl (fun t y => letterF t a y) t) ∧ (l.foldl (fun t y => letterF t a y) t).waits = fupd t.waits a (t.waits a ++ l.filter fun y => !t.here a y.who)
  | [], t, _ => ⟨⟨rfl, rfl, rfl, rfl⟩, by simp [fupd_self]⟩
  | y :: l, t, h => by
    have h0 := h y (by simp)
    rw [List.foldl_cons]
    cases hh : t.here a y.who with
    | true =>
      have e : letterF t a y = setB t y.who (takeF ⟨t.got y.who, t.next y.who, t.early y.who⟩ y) := by unfold letterF; rw [hh]; rfl
      rw [e]
      obtain ⟨s, w⟩ := fold_sv l (setB t y.who (takeF ⟨t.got y.who, t.next y.who, t.early y.who⟩ y)) fun z hz => h z (by simp [hz])
      refine ⟨⟨s.here, s.sn, s.st, s.ways⟩, ?_⟩
      rw [w, List.filter_cons]
      simp only [hh, Bool.not_true, Bool.false_eq_true, if_false]
      rfl
    | false =>
      have hs : t.sn a y.who = a := by
        rcases h0 with h0 | h0
        · rw [hh] at h0; simp at h0
        · exact h0
      have e : letterF t a y = waitF t a y := by unfold letterF; rw [hh, if_neg (by simp), if_pos hs]
      rw [e]
      obtain ⟨s, w⟩ := fold_sv l (waitF t a y) fun z hz => h z (by simp [hz])
      refine ⟨⟨s.here, s.sn, s.st, s.ways⟩, ?_⟩
      rw [w, List.filter_cons]
      simp only [hh, Bool.not_false, if_true]
      show fupd (fupd t.waits a (t.waits a ++ [y])) a (fupd t.waits a (t.waits a ++ [y]) a ++ _) = _
      rw [fupd_eq, List.append_assoc]
      funext i
      by_cases hi : i = a
      · subst hi; rw [fupd_eq, fupd_eq]; rfl
      · rw [fupd_ne hi, fupd_ne hi, fupd_ne hi]
theorem all_sv {a : Nat} {t : Nw} (h : ∀ y ∈ t.waits a, t.here a y.who = true ∨ t.sn a y.who = a) :
    Sv t (allF t a) ∧ (allF t a).waits = fupd t.waits a ((t.waits a).filter fun y => !t.here a y.who) := by
  obtain ⟨s, w⟩ := fold_sv (t.waits a) (emptyF t a) h
  refine ⟨⟨s.here, s.sn, s.st, s.ways⟩, ?_⟩
  unfold allF
  rw [w]
  show fupd (fupd t.waits a []) a (fupd t.waits a [] a ++ _) = _
  rw [fupd_eq, List.nil_append]
  funext i
  by_cases hi : i = a
  · subst hi; rw [fupd_eq, fupd_eq]; rfl
  · rw [fupd_ne hi, fupd_ne hi, fupd_ne hi]

structure ItV (m : Nat) (V : Nat → List Nat) (t : Nw) (a b : Nat) (e : Bool) (x : It) : Prop where
  who : x.who < m
  kind : x.kind = 1 ∨ x.kind = 2 ∨ x.kind = 3
  k1 : x.kind = 1 → ∃ s : Nat, (V x.who)[s]? = some b ∧ (e = true → 1 ≤ t.st b x.who)
  k2 : x.kind = 2 → x.turn + 1 = (V x.who).length ∧ x.node = b ∧ (V x.who)[x.turn]? = some b ∧ 1 ≤ x.turn ∧ (V x.who)[x.turn - 1]? = some a ∧ t.st a x.who = x.turn
  k3 : x.kind = 3 → (V x.who)[x.turn]? = some x.node
structure InvV (m : Nat) (V : Nat → List Nat) (t : Nw) : Prop where
  ne : ∀ w, w < m → 1 ≤ (V w).length
  sn : ∀ i w : Nat, w < m → (V w)[t.st i w]? = some (t.sn i w)
  up : ∀ w s v : Nat, w < m → (V w)[s]? = some v → s + 1 < (V w).length → s < t.st v w
  hr : ∀ i w, w < m → t.here i w = true → t.sn i w = i ∧ t.st i w + 1 = (V w).length
  it : ∀ a b, ∀ p ∈ mk (WL t a b), ItV m V t a b p.1 p.2
  wt : ∀ i, ∀ y ∈ t.waits i, y.who < m ∧ y.kind = 1 ∧ t.st i y.who + 1 = (V y.who).length ∧ t.sn i y.who = i ∧ t.here i y.who = false
  loop : ∀ a, WL t a a = []
variable {m : Nat} {V : Nat → List Nat}
theorem InvV.stl {t : Nw} (h : InvV m V t) {w : Nat} (hw : w < m) (i : Nat) : t.st i w < (V w).length := lt_of_get (h.sn i w hw)
theorem ItV.mono {t t' : Nw} {a b : Nat} {e : Bool} {x : It} (h : ItV m V t a b e x) (h1 : ∀ i w, w < m → t.st i w ≤ t'.st i w) (h2 : ∀ i w, w < m → t'.st i w < (V w).length) : ItV m V t' a b e x := by
  refine ⟨h.who, h.kind, fun hk => ?_, fun hk => ?_, h.k3⟩
  · obtain ⟨s, hs, he⟩ := h.k1 hk
    exact ⟨s, hs, fun e => Nat.le_trans (he e) (h1 b _ h.who)⟩
  · obtain ⟨p1, p2, p3, p4, p5, p6⟩ := h.k2 hk
    refine ⟨p1, p2, p3, p4, p5, ?_⟩
    have := h1 a x.who h.who
    have := h2 a x.who h.who
    omega
theorem ItV.cg {t t' : Nw} {a b : Nat} {e : Bool} {x : It} (hs : t'.st = t.st) (h : ItV m V t a b e x) : ItV m V t' a b e x :=
  ⟨h.who, h.kind, by rw [hs]; exact h.k1, by rw [hs]; exact h.k2, h.k3⟩
theorem InvV.top {t : Nw} (h : InvV m V t) {w i : Nat} (hw : w < m) (hi : t.st i w + 1 = (V w).length) : (V w)[(V w).length - 1]? = some (t.sn i w) := by
  rw [← hi]
  exact h.sn i w hw
theorem InvV.next {t : Nw} (h : InvV m V t) {w i : Nat} (hw : w < m) (hi : t.st i w + 1 < (V w).length) : t.st i w < t.st (t.sn i w) w := h.up w _ _ hw (h.sn i w hw) hi
theorem InvV.self {t : Nw} (h : InvV m V t) {w i : Nat} (hw : w < m) (hi : t.sn i w = i) : t.st i w + 1 = (V w).length := by
  have h1 := h.stl hw i
  by_cases h2 : t.st i w + 1 < (V w).length
  · have := h.next hw h2
    rw [hi] at this
    omega
  · omega
theorem v_letter {t : Nw} (h : InvV m V t) {a : Nat} {x : It} (hk : x.kind = 1) (hx : x.who < m) (hf : x.frm = a ∨ x.frm ≠ a) : InvV m V (letterF t a x) := by
  have stl := fun i w hw => h.stl (w := w) hw i
  unfold letterF
  split
  · exact ⟨h.ne, h.sn, h.up, h.hr, fun c d p hp => (h.it c d p hp).cg (by rfl), h.wt, h.loop⟩
  rename_i hh
  split
  · rename_i hs
    refine ⟨h.ne, h.sn, h.up, h.hr, fun c d p hp => (h.it c d p hp).cg (by rfl), fun i y hy => ?_, h.loop⟩
    have hy : y ∈ fupd t.waits a (t.waits a ++ [x]) i := hy
    unfold fupd at hy
    split at hy
    · rename_i hi
      subst hi
      rcases List.mem_append.1 hy with hy | hy
      · exact h.wt _ y hy
      · rw [List.mem_singleton.1 hy]
        exact ⟨hx, hk, h.self hx hs, hs, Bool.eq_false_iff.2 hh⟩
    · exact h.wt i y hy
  · rename_i hs
    -- on its way again
    have e1 : ∀ (t1 : Nw) (b : Nat) (y : It), (∀ c d, ∀ p ∈ mk (WL t1 c d), ItV m V t c d p.1 p.2) → y.kind ≠ 2 → ItV m V t a b false y → ∀ (t2 : Nw), t2.ways = wadd t1.ways ((a : Int), (b : Int)) y → ∀ c d, ∀ p ∈ mk (WL t2 c d), ItV m V t c d p.1 p.2 := by
      intro t1 b y h1 hy hi t2 e c d p hp
      rw [WL_add e] at hp
      split at hp
      · rename_i hcd
        rw [mk_app' hy] at hp
        rcases List.mem_append.1 hp with hp | hp
        · exact h1 c d p hp
        · rw [List.mem_singleton.1 hp]
          obtain ⟨rfl, rfl⟩ := hcd
          exact hi
      · exact h1 c d p hp
    have hlet : ItV m V t a (t.sn a x.who) false x := ⟨hx, .inl hk, fun _ => ⟨_, h.sn a _ hx, fun e => by simp at e⟩, fun e => by rw [hk] at e; simp at e, fun e => by rw [hk] at e; simp at e⟩
    have hnote : ItV m V t a x.frm false (noteF t a x) := ⟨hx, .inr (.inr rfl), fun e => by simp [noteF] at e, fun e => by simp [noteF] at e, fun _ => h.sn a _ hx⟩
    by_cases hfr : x.frm ≠ a
    · have l1 := e1 t x.frm (noteF t a x) h.it (by simp [noteF]) hnote { t with ways := wadd t.ways ((a : Int), (x.frm : Int)) (noteF t a x) } rfl
      have l2 := e1 { t with ways := wadd t.ways ((a : Int), (x.frm : Int)) (noteF t a x) } (t.sn a x.who) x l1 (by rw [hk]; decide) hlet (forwF t a x) (by unfold forwF; simp only [if_pos hfr])
      refine ⟨h.ne, h.sn, h.up, h.hr, fun c d p hp => (l2 c d p hp).cg (by rfl), h.wt, fun c => ?_⟩
      rw [WL_add (t := { t with ways := wadd t.ways ((a : Int), (x.frm : Int)) (noteF t a x) }) (t' := forwF t a x) (a := a) (b := t.sn a x.who) (y := x) (by unfold forwF; simp only [if_pos hfr]), if_neg (by omega), WL_add (t := t) (a := a) (b := x.frm) (y := noteF t a x) rfl, if_neg (by omega)]
      exact h.loop c
    · have l2 := e1 t (t.sn a x.who) x h.it (by rw [hk]; decide) hlet (forwF t a x) (by unfold forwF; simp only [if_neg hfr])
      refine ⟨h.ne, h.sn, h.up, h.hr, fun c d p hp => (l2 c d p hp).cg (by rfl), h.wt, fun c => ?_⟩
      rw [WL_add (t := t) (t' := forwF t a x) (a := a) (b := t.sn a x.who) (y := x) (by unfold forwF; simp only [if_neg hfr]), if_neg (by omega)]
      exact h.loop c
end Go.Hw.VM

