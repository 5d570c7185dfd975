import Derived.Test.YtonoaimefgodfaaHwMoQ
set_option linter.unusedVariables false
set_option linter.unusedSimpArgs false
namespace Go.Hw.VM
open Go Go.Proofs


def isA (w : Nat) (x : It) : Bool := decide (x.kind = 2 ∧ x.who = w)
def pc (K : Nat) (t : Nw) (w : Nat) : Int := sumUp K (fun i => if t.here i w then 1 else 0) + cw (isA w) t.ways
theorem pc_letter {K : Nat} {t : Nw} {a : Nat} {x : It} (hk : x.kind = 1) (w : Nat) : pc K (letterF t a x) w = pc K t w := by
  have h1 : isA w x = false := by simp [isA, hk]
  have h2 : isA w (noteF t a x) = false := by simp [isA, noteF]
  unfold letterF
  split
  · rfl
  split
  · rfl
  · show _ + cw (isA w) (wadd _ _ _) = _
    rw [cw_wadd, h1]
    split
    · rw [cw_wadd, h2]
      simp [pc, forwF]
    · simp [pc, forwF]
theorem pc_fold {K a : Nat} (w : Nat) : ∀ (l : List It) (t : Nw), (∀ y ∈ l, y.kind = 1) → pc K (l.foldl (fun t y => letterF t a y) t) w = pc K t w
  | [], t, _ => rfl
  | y :: l, t, h => by
    rw [List.foldl_cons, pc_fold w l _ fun z hz => h z (by simp [hz]), pc_letter (h y (by simp))]
theorem pc_all {K a : Nat} {t : Nw} (h : ∀ y ∈ t.waits a, y.kind = 1) (w : Nat) : pc K (allF t a) w = pc K t w := by
  unfold allF
  rw [pc_fold w _ _ h]
  rfl
theorem pc_learn {K a : Nat} {t : Nw} {x : It} (h : ∀ y ∈ t.waits a, y.kind = 1) (w : Nat) : pc K (learnF t a x) w = pc K t w := by
  unfold learnF
  split
  · rfl
  · rw [pc_all (t := knowF t a x) h]
    rfl
theorem pc_here {K a w0 : Nat} {t : Nw} (ha : a < K) (v0 v : Bool) (h : t.here a w0 = v0) (w : Nat) : sumUp K (fun i => if (fupd t.here a (fupd (t.here a) w0 v)) i w then 1 else 0) = sumUp K (fun i => if t.here i w then 1 else 0) + (if w = w0 then (if v then 1 else 0) - (if v0 then 1 else 0) else 0) := by
  have h1 := sumUp_one (f := fun i => if (fupd t.here a (fupd (t.here a) w0 v)) i w then 1 else 0) (g := fun i => if t.here i w then 1 else 0) ha fun i _ hi => by simp only [fupd_ne hi]
  rw [h1, fupd_eq]
  by_cases hw : w = w0
  · subst hw
    rw [fupd_eq, h, if_pos rfl]
    omega
  · rw [fupd_ne hw, if_neg hw]
    omega
theorem waits_letter {K m k : Nat} {c : Int} {t : Nw} (h : InvA K m k c t) (a : Nat) : ∀ y ∈ t.waits a, y.kind = 1 := fun y hy => (h.itw a y hy).2
theorem pc_come {K m k : Nat} {c : Int} {t : Nw} (h : InvA K m k c t) {a : Nat} (ha : a < K) {x : It} (hx : ItA K m k x) (hh : x.kind = 2 → t.here a x.who = false) (w : Nat) : pc K (comeF t a x) w = pc K t w + if isA w x then 1 else 0 := by
  unfold comeF
  by_cases h1 : x.kind = 1
  · rw [if_pos h1, pc_letter h1, show isA w x = false by simp [isA, h1]]
    simp
  rw [if_neg h1]
  by_cases h3 : x.kind = 3
  · rw [if_pos h3, pc_learn (waits_letter h a), show isA w x = false by simp [isA, h3]]
    simp
  rw [if_neg h3]
  by_cases h2 : x.kind = 2
  · rw [if_pos h2]
    have i1 : InvA K m k c (hereF t a x.who true) := ⟨h.sq, h.st, h.sn, h.wk, h.itg, h.itw, h.cnt, h.wout⟩
    rw [pc_all (waits_letter (inv_learn i1 ha hx) a), pc_learn (waits_letter i1 a)]
    unfold pc
    rw [show (hereF t a x.who true).here = fupd t.here a (fupd (t.here a) x.who true) from rfl, pc_here ha false true (hh h2) w]
    have : isA w x = decide (w = x.who) := by
      unfold isA
      rw [h2]
      by_cases e : w = x.who
      · subst e; simp
      · simp [e, Ne.symm e]
    rw [this]
    show _ + cw (isA w) t.ways = _
    by_cases e : w = x.who
    · subst e
      simp
      omega
    · simp [e]
  · rcases hx.kind with h | h | h
    · exact absurd h h1
    · exact absurd h h2
    · exact absurd h h3
theorem pc_do {K m k : Nat} {c : Int} {t : Nw} (h : InvA K m k c t) (hp : ∀ w, w < m → pc K t w = 1) {kd : Int} {a b w : Nat} {nn : Int} (hK : 0 < K) (ha : kd = 1 → a < K) (ha3 : kd ≠ 1 → kd ≠ 2 → a < K) (hb : b < K) (hw : w < m) : ∀ v, v < m → pc K (doF K t kd a b w nn) v = 1 := by
  intro v hv
  unfold doF
  split
  · unfold putF
    rw [pc_letter rfl]
    exact hp v hv
  split
  · unfold goF
    split
    · exact hp v hv
    · rename_i i hf
      have hiK : i < K := List.mem_range.1 (List.mem_of_find?_eq_some hf)
      have hh : (decide (i ≠ b) && t.here i w) = true := List.find?_some (p := fun i => decide (i ≠ b) && t.here i w) hf
      have hhi : t.here i w = true := by
        rw [Bool.and_eq_true] at hh
        exact hh.2
      rw [← hp v hv]
      unfold pc
      show sumUp K (fun j => if (fupd t.here i (fupd (t.here i) w false)) j v then 1 else 0) + cw (isA v) (wadd _ _ _) = _
      rw [pc_here hiK true false hhi v, cw_wadd]
      have : isA v ⟨2, w, 0, 0, 0, b, t.st i w + 1⟩ = decide (v = w) := by
        unfold isA
        by_cases e : v = w
        · subst e; simp
        · simp [e, Ne.symm e]
      rw [this]
      by_cases e : v = w
      · subst e
        simp
        omega
      · simp [e]
  · rename_i h1 h2
    have hak := ha3 h1 h2
    cases hg : (t.ways.get ((a : Int), (b : Int))).getD [] with
    | nil => rw [nextF_nil hg]; exact hp v hv
    | cons x r =>
      rw [nextF_cons hg]
      have hmem : ∀ y ∈ x :: r, ItA K m k y := fun y hy => by
        rw [← hg] at hy
        cases hg2 : t.ways.get ((a : Int), (b : Int)) with
        | none => rw [hg2] at hy; simp at hy
        | some l =>
          rw [hg2] at hy
          obtain ⟨n, hn⟩ := GM.get_mem hg2
          exact h.itg _ hn y hy
      have hx := hmem x (by simp)
      have hw1 : ∀ v, pc K (wayF t a b r) v = pc K t v - if isA v x then 1 else 0 := fun v => by
        unfold pc
        show _ + cw (isA v) (t.ways.put _ r) = _
        rw [cw_tail hg]
        show sumUp K (fun i => if t.here i v then 1 else 0) + _ = _
        omega
      have iw : InvA K m k c (wayF t a b r) := by
        refine ⟨h.sq, h.st, h.sn, h.wk.put hak hb _, fun q hq y hy => ?_, h.itw, fun w => ?_, h.wout⟩
        · rcases put_mem hq with hq | hq
          · exact h.itg q hq y hy
          · rw [hq] at hy
            exact hmem y (by simp [hy])
        · show cw isL (t.ways.put _ r) + sumUp K (fun i => ((t.waits i).length : Int)) + bsz t w ≤ _
          rw [cw_tail hg]
          have := h.cnt w
          split <;> omega
      rw [pc_come iw hb hx (fun hk2 => ?_) v, hw1 v, hp v hv]
      · split <;> omega
      · have h0 := hw1 x.who
        rw [hp _ hx.who, show isA x.who x = true by simp [isA, hk2], if_pos rfl] at h0
        have hcn := cw_nonneg (isA x.who) (wayF t a b r).ways
        unfold pc at h0
        have hge := (sumUp_ge (n := K) (f := fun i => if (wayF t a b r).here i x.who then 1 else 0) fun i _ => by split <;> decide).2 b hb
        cases hbb : (wayF t a b r).here b x.who with
        | false => rfl
        | true =>
          simp only [hbb, if_true] at hge
          omega
def plOf (K : Nat) (t : Nw) (w : Nat) : Nat := ((List.range K).find? fun i => t.here i w).getD 0
theorem pl_of {K m k : Nat} {c : Int} {t : Nw} (h : InvA K m k c t) (hp : ∀ w, w < m → pc K t w = 1) : Pl K m t (plOf K t) := by
  have hnn : ∀ w, ∀ i, i < K → 0 ≤ (fun i => if t.here i w then (1 : Int) else 0) i := fun w i _ => by
    show (0 : Int) ≤ if t.here i w then 1 else 0
    split <;> decide
  refine ⟨fun i w hi hw hh => ?_, fun q hq x hx hk => ?_, fun w hw => ?_⟩
  · unfold plOf
    cases hf : (List.range K).find? fun i => t.here i w with
    | none =>
      rw [List.find?_eq_none] at hf
      exact absurd hh (hf i (List.mem_range.2 hi))
    | some j =>
      have hj : t.here j w = true := List.find?_some (p := fun i => t.here i w) hf
      have hjK : j < K := List.mem_range.1 (List.mem_of_find?_eq_some hf)
      by_cases e : j = i
      · exact e
      · have h2 := sumUp_two (hnn w) hjK hi e
        have h1 := hp w hw
        have hc := cw_nonneg (isA w) t.ways
        unfold pc at h1
        simp only [hj, hh, if_true] at h2
        omega
  · have hwm := (h.itg q hq x hx).who
    have h1 := hp _ hwm
    have h2 := cw_pos (p := isA x.who) hq hx (by simp [isA, hk])
    unfold plOf
    cases hf : (List.range K).find? fun i => t.here i x.who with
    | none => rfl
    | some j =>
      have hj : t.here j x.who = true := List.find?_some (p := fun i => t.here i x.who) hf
      have hjK : j < K := List.mem_range.1 (List.mem_of_find?_eq_some hf)
      have hge := (sumUp_ge (hnn x.who)).2 j hjK
      unfold pc at h1
      simp only [hj, if_true] at hge
      omega
  · have h1 := hp w hw
    unfold pc at h1
    by_cases hs : 1 ≤ sumUp K (fun i => if t.here i w then 1 else 0)
    · obtain ⟨i, hi, e⟩ := sumUp_pos (fun i _ => by
        cases t.here i w
        · left; rfl
        · right; rfl) hs
      refine .inl ⟨i, hi, ?_⟩
      cases hb : t.here i w with
      | true => rfl
      | false => simp only [hb, Bool.false_eq_true, if_false] at e; omega
    · obtain ⟨q, hq, x, hx, hp2⟩ := cw_some (p := isA w) (g := t.ways) (by omega)
      have := of_decide_eq_true hp2
      exact .inr ⟨q, hq, x, hx, this.1, this.2⟩

structure DdR (K m : Nat) (d : GMove_Deed) : Prop extends DdOk K m d where
  frl : d.From < K
def whF (at_ : List Int) (w : Nat) : Nat := (at_.getD w 0).toNat
def startF (at_ : List Int) : Nw := (ct0 (whF at_) at_.length).abs
structure AtOk (n : Nat) (at_ : List Int) : Prop where
  len : at_.length ≤ 5
  rng : ∀ a ∈ at_, 1 ≤ a ∧ a ≤ n
theorem at_get {n : Nat} {at_ : List Int} (h : AtOk n at_) {w : Nat} (hw : w < at_.length) : at_[w]? = some (whF at_ w : Int) ∧ 1 ≤ whF at_ w ∧ whF at_ w < n + 1 := by
  have h1 := h.rng _ (List.getElem_mem hw)
  have h2 : whF at_ w = at_[w].toNat := by unfold whF; rw [List.getD_eq_getElem?_getD, List.getElem?_eq_getElem hw]; rfl
  rw [List.getElem?_eq_getElem hw, h2]
  exact ⟨by congr 1; omega, by omega, by omega⟩
theorem start_inv {n : Nat} {at_ : List Int} (h : AtOk n at_) : InvA (n + 1) at_.length 0 0 (startF at_) ∧ ∀ w, w < at_.length → pc (n + 1) (startF at_) w = 1 := by
  have hz : sumUp (n + 1) (fun _ => 0) = 0 := by
    have := sumUp_bound (n := n + 1) (f := fun _ => (0 : Int)) (B := 0) fun _ _ => ⟨Int.le_refl _, Int.le_refl _⟩
    omega
  refine ⟨⟨fun _ _ => Nat.le_refl _, fun _ _ => Nat.le_refl _, fun i w => ?_, ⟨GM.nil_wf, fun p hp => by simp [startF, ct0, Ct.abs, gmap, GM.nil] at hp⟩, fun q hq => by simp [startF, ct0, Ct.abs, gmap, GM.nil] at hq, fun i x hx => by simp [startF, ct0, Ct.abs, RW.nil] at hx, fun w => ?_, fun _ _ => rfl⟩, fun w hw => ?_⟩
  · show (if w < at_.length then whF at_ w else 0) < n + 1
    split
    · rename_i hw
      exact (at_get h hw).2.2
    · omega
  · show (0 : Int) + sumUp (n + 1) (fun _ => 0) + 0 ≤ 0
    omega
  · have hwh := (at_get h hw).2.2
    have h1 := sumUp_one (n := n + 1) (f := fun i => if (startF at_).here i w then 1 else 0) (g := fun _ => 0) hwh fun i _ hi => by
      have : (startF at_).here i w = false := by
        show (decide (w < at_.length) && decide (whF at_ w = i)) = false
        simp [Ne.symm hi]
      rw [this]; rfl
    have h2 : (startF at_).here (whF at_ w) w = true := by
      show (decide (w < at_.length) && decide (whF at_ w = whF at_ w)) = true
      simp [hw]
    rw [h2] at h1
    unfold pc
    show _ + (0 : Int) = 1
    simp only [if_true] at h1
    omega
theorem run_inv {n m : Nat} : ∀ (deeds : List GMove_Deed) (k : Nat) (t : Nw), InvA (n + 1) m k k t → (∀ w, w < m → pc (n + 1) t w = 1) → (∀ d ∈ deeds, DdR (n + 1) m d) → InvA (n + 1) m (k + deeds.length) ((k + deeds.length : Nat) : Int) (runN (n + 1) t deeds) ∧ ∀ w, w < m → pc (n + 1) (runN (n + 1) t deeds) w = 1
  | [], k, t, h, hp, _ => ⟨h, hp⟩
  | d :: ds, k, t, h, hp, hd => by
    have hd1 := hd d (by simp)
    have c1 : d.Kind = 1 → d.From.toNat < n + 1 := fun _ => by have := hd1.frl; omega
    have c2 : d.Kind ≠ 1 → d.Kind ≠ 2 → d.From.toNat < n + 1 := fun _ _ => by have := hd1.frl; omega
    have c3 : d.To.toNat < n + 1 := by have := hd1.to_; omega
    have c4 : d.Who.toNat < m := by have := hd1.who; omega
    have i1 := inv_do h (kd := d.Kind) (nn := d.N) (by omega) c1 c2 c3 c4
    have p1 := pc_do h hp (kd := d.Kind) (nn := d.N) (by omega) c1 c2 c3 c4
    have := run_inv ds (k + 1) (deedF (n + 1) t d) (i1.le (Nat.le_refl _) (by omega)) p1 fun x hx => hd x (by simp [hx])
    rw [show k + (d :: ds).length = k + 1 + ds.length by simp only [List.length_cons]; omega]
    exact this
theorem r33w {n : Nat} {at_ : List Int} {deeds : List GMove_Deed} (h1 : 1 ≤ n) (h8 : n ≤ 8) (ha : AtOk n at_) (hd : deeds.length ≤ 400) (hok : ∀ d ∈ deeds, DdR (n + 1) at_.length d) :
    sp33 (n : Int) at_ deeds (toldF (runN (n + 1) (startF at_) deeds) (n + 1) at_.length (plOf (n + 1) (runN (n + 1) (startF at_) deeds)), 0) := by
  obtain ⟨i0, p0⟩ := start_inv ha
  have hrun := fun k => run_inv (deeds.take k) 0 (startF at_) i0 p0 fun d hd => hok d (List.mem_of_mem_take hd)
  have hall := run_inv deeds 0 (startF at_) i0 p0 hok
  refine r33 h1 h8 ha.len (fun w hw => at_get ha hw) hd (fun d hd => (hok d hd).toDdOk) (fun k hk => ?_) (pl_of hall.1 hall.2)
  exact good_of (hrun k).1 (by omega) (by rw [List.length_take]; omega) (by rw [List.length_take]; omega)
theorem got_len {n : Nat} {at_ : List Int} {deeds : List GMove_Deed} (ha : AtOk n at_) (hok : ∀ d ∈ deeds, DdR (n + 1) at_.length d) (w : Nat) : ((runN (n + 1) (startF at_) deeds).got w).length ≤ deeds.length := by
  obtain ⟨i0, p0⟩ := start_inv ha
  have h := (run_inv deeds 0 (startF at_) i0 p0 hok).1.cnt w
  have h1 := cw_nonneg isL (runN (n + 1) (startF at_) deeds).ways
  have h2 := (sumUp_ge (n := n + 1) (f := fun i => (((runN (n + 1) (startF at_) deeds).waits i).length : Int)) fun j _ => Int.natCast_nonneg _).1
  unfold bsz at h
  omega

def GotLe (t t' : Nw) : Prop := ∀ w, ∃ l, t'.got w = t.got w ++ l
theorem GotLe.refl (t : Nw) : GotLe t t := fun w => ⟨[], by simp⟩
theorem GotLe.trans {t u v : Nw} (h1 : GotLe t u) (h2 : GotLe u v) : GotLe t v := fun w => by
  obtain ⟨l1, e1⟩ := h1 w
  obtain ⟨l2, e2⟩ := h2 w
  exact ⟨l1 ++ l2, by rw [e2, e1, List.append_assoc]⟩
theorem where_ok {x : Int} {at_ : List Int} : AtOk (nodesF x).toNat (whereF x at_) ∧ 1 ≤ (nodesF x).toNat ∧ (nodesF x).toNat ≤ 3 ∧ 1 ≤ (whereF x at_).length ∧ (whereF x at_).length ≤ 3 := by
  have hr := restF_bound x 3 (by decide)
  have hN : 1 ≤ nodesF x ∧ nodesF x ≤ 3 := by unfold nodesF; omega
  have hl : (whereF x at_).length ≤ 3 := by simp only [whereF, List.length_cons, List.length_map, List.length_take]; omega
  refine ⟨⟨by omega, fun a ha => ?_⟩, by omega, by omega, by simp [whereF], hl⟩
  rcases List.mem_cons.1 ha with rfl | ha
  · omega
  · obtain ⟨y, _, rfl⟩ := List.mem_map.1 ha
    have := restF_bound y (nodesF x) (by omega)
    omega
theorem deeds_ok {x : Int} {m : Nat} {l : List GMove_Deed} {many : Nat} (hm : 1 ≤ m) : ∀ d ∈ deedsF x m l many, DdR ((nodesF x).toNat + 1) m d := by
  intro d hd
  obtain ⟨i, _, rfl⟩ := List.mem_map.1 hd
  have hr := restF_bound x 3 (by decide)
  have hN : 1 ≤ nodesF x ∧ nodesF x ≤ 3 := by unfold nodesF; omega
  have b1 := restF_bound (l.getD i d0).Kind 3 (by decide)
  have b2 := restF_bound (l.getD i d0).From (nodesF x) (by omega)
  have b3 := restF_bound (l.getD i d0).To (nodesF x) (by omega)
  have b4 := restF_bound (l.getD i d0).Who m (by omega)
  refine ⟨⟨?_, ?_, ?_, ?_, fun _ => ?_, fun _ => ?_⟩, ?_⟩
  · show 1 + restF (l.getD i d0).Kind 3 = 1 ∨ 1 + restF (l.getD i d0).Kind 3 = 2 ∨ 1 + restF (l.getD i d0).Kind 3 = 3
    omega
  · show 0 ≤ 1 + restF (l.getD i d0).From (nodesF x)
    omega
  · show 0 ≤ 1 + restF (l.getD i d0).To (nodesF x) ∧ 1 + restF (l.getD i d0).To (nodesF x) < _
    omega
  · show 0 ≤ restF (l.getD i d0).Who m ∧ restF (l.getD i d0).Who m < _
    omega
  · show 1 ≤ 1 + restF (l.getD i d0).From (nodesF x) ∧ 1 + restF (l.getD i d0).From (nodesF x) < _
    omega
  · show 1 ≤ 1 + restF (l.getD i d0).To (nodesF x)
    omega
  · show 1 + restF (l.getD i d0).From (nodesF x) < _
    omega
theorem deeds_len {x : Int} {m : Nat} {l : List GMove_Deed} {many : Nat} : (deedsF x m l many).length ≤ many := by
  unfold deedsF
  rw [List.length_map, List.length_range]
  omega
theorem s34 : sp34 true := by
  have hrun := r33w (n := 2) (at_ := [1]) (deeds := [⟨1, 2, 0, 0, 7⟩, ⟨2, 0, 2, 0, 0⟩, ⟨3, 2, 1, 0, 0⟩, ⟨3, 1, 2, 0, 0⟩, ⟨3, 1, 2, 0, 0⟩, ⟨3, 1, 2, 0, 0⟩]) (by decide) (by decide) ⟨by decide, by decide⟩ (by decide) (fun d hd => by
    simp only [List.mem_cons, List.not_mem_nil, or_false] at hd
    rcases hd with rfl | rfl | rfl | rfl | rfl | rfl
    all_goals exact ⟨⟨by decide, by decide, by decide, by decide, by decide, by decide⟩, by decide⟩)
  have hG : (toldF (runN (2 + 1) (startF [1]) [⟨1, 2, 0, 0, 7⟩, ⟨2, 0, 2, 0, 0⟩, ⟨3, 2, 1, 0, 0⟩, ⟨3, 1, 2, 0, 0⟩, ⟨3, 1, 2, 0, 0⟩, ⟨3, 1, 2, 0, 0⟩]) (2 + 1) [(1 : Int)].length (plOf (2 + 1) (runN (2 + 1) (startF [1]) [⟨1, 2, 0, 0, 7⟩, ⟨2, 0, 2, 0, 0⟩, ⟨3, 2, 1, 0, 0⟩, ⟨3, 1, 2, 0, 0⟩, ⟨3, 1, 2, 0, 0⟩, ⟨3, 1, 2, 0, 0⟩]))) = ⟨[[⟨2, 7⟩]], [2], 0, 0⟩ := by decide +kernel
  rw [hG] at hrun
  refine ok34 _ ⟨_, hrun, fun _ => ⟨fun _ => ⟨by decide, fun a ha => ?_⟩, fun h => absurd rfl h⟩, fun h => absurd rfl h⟩
  have ha : some [(⟨2, 7⟩ : GMove_Got)] = some a := ha
  injection ha with ha
  subst ha
  refine ⟨_, s36 _ _ (by decide), fun _ => ⟨by decide, fun c hc => ?_⟩, fun h => by simp at h⟩
  have hc : some (2 : Int) = some c := hc
  injection hc with hc
  subst hc
  rintro _ rfl
  rfl
theorem runN_app (K : Nat) (t : Nw) (a b : List GMove_Deed) : runN K t (a ++ b) = runN K (runN K t a) b := by
  unfold runN
  rw [List.foldl_append]
end Go.Hw.VM

