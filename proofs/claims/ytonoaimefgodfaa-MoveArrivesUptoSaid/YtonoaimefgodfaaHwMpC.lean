import Derived.Test.YtonoaimefgodfaaHwMpB
set_option linter.unusedVariables false
set_option linter.unusedSimpArgs false
namespace Go.Hw.VM
open Go Go.Proofs
variable {K m k : Nat} {t : Nw} {V : Nat → List Nat} {S : Nat → Nat → List Int}

theorem no_waits (h : Bun K m k V t) (he : ∀ a b, WL t a b = []) (i : Nat) : t.waits i = [] := by
  cases hw : t.waits i with
  | nil => rfl
  | cons y l =>
    obtain ⟨p1, p2, p3, p4, p5⟩ := h.I.wt i y (by rw [hw]; simp)
    rcases transit h p1 with ⟨j, hj, hh⟩ | ⟨u, d, z, hz, _⟩
    · obtain ⟨g1, g2⟩ := h.I.hr j _ p1 hh
      have e1 := h.I.top p1 g2
      have e2 := h.I.top p1 p3
      rw [e1, g1, p4] at e2
      injection e2 with e2
      rw [e2, p5] at hh
      simp at hh
    · rw [he] at hz
      simp at hz
theorem all_next (h : Bun K m k V t) (hn : NL [] t) (ho : InvO S t) (he : ∀ a b, WL t a b = []) (w f : Nat) : t.next w f = (S w f).length := by
  have h1 := (ho.bod w).nxt f
  have h2 := ho.sq f w
  simp only at h1
  by_cases hlt : t.next w f < t.sq f w
  · rcases hn.has w f _ hlt with (hh | ⟨a, b, x, hx, _⟩ | ⟨i, x, hx, _⟩) | ⟨y, hy, _⟩
    · rcases hh with hh | ⟨n, hh⟩
      · simp only at hh
        omega
      · obtain ⟨n2, hm⟩ := GM.get_mem hh
        obtain ⟨f', s, e1, e2⟩ := (hn.bod w).ear _ hm
        obtain ⟨e3, e4⟩ := key_eq.1 e1
        simp only at e2 e4
        rw [← e3, ← e4] at e2
        omega
    · rw [he] at hx; simp at hx
    · rw [no_waits h he] at hx; simp at hx
    · simp at hy
  · omega
theorem no_early (h : Bun K m k V t) (hn : NL [] t) (ho : InvO S t) (he : ∀ a b, WL t a b = []) (w : Nat) : (t.early w).es = [] := by
  cases hq : (t.early w).es with
  | nil => rfl
  | cons q l =>
    have hm : q ∈ (t.early w).es := by rw [hq]; simp
    obtain ⟨f, s, e1, e2⟩ := (hn.bod w).ear q hm
    have e3 := GM.mem_get (hn.bod w).wf hm
    rw [e1] at e3
    have e4 := (ho.bod w).ear f s _ e3
    have := lt_of_get e4
    have := all_next h hn ho he w f
    simp only at e2
    omega
theorem sumUp_zero {n : Nat} {f : Nat → Int} (h : ∀ i, i < n → f i = 0) : sumUp n f = 0 := by
  induction n with
  | zero => rfl
  | succ n ih => rw [sumUp_succ, ih fun i hi => h i (by omega), h n (by omega)]; rfl
theorem ways_0 (h : Bun K m k V t) (he : ∀ a b, WL t a b = []) : ∀ q ∈ t.ways.es, q.2.2 = [] := fun q hq => by
  obtain ⟨a, b, _, _, _, e⟩ := es_WL h.A hq
  rw [← e, he]
theorem told_0 (h : Bun K m k V t) (hn : NL [] t) (ho : InvO S t) (he : ∀ a b, WL t a b = []) : waysS t = 0 ∧ waitsS t K m = 0 := by
  have h0 := ways_0 h he
  have z : ∀ (l : List (Nat × Key × List It)) (f : Nat × Key × List It → Int), (∀ q ∈ l, f q = 0) → (l.map f).sum = 0 := fun l f hl => by
    induction l with
    | nil => rfl
    | cons q l ih => rw [List.map_cons, List.sum_cons, hl q (by simp), ih fun p hp => hl p (by simp [hp])]; rfl
  refine ⟨z _ _ fun q hq => by rw [h0 q hq]; rfl, ?_⟩
  unfold waitsS
  rw [z _ _ fun q hq => by rw [h0 q hq]; rfl]
  rw [sumUp_zero fun i hi => ?_]
  · rfl
  · unfold nodeW
    rw [no_waits h he, sumUp_zero fun w hw => ?_]
    · rfl
    · unfold hereW bodW
      rw [no_early h hn ho he]
      split <;> rfl
theorem pl_in {n : Nat} (h : Bun (n + 1) m k V t) (he : ∀ a b, WL t a b = []) {w : Nat} (hw : w < m) : 1 ≤ plOf (n + 1) t w ∧ plOf (n + 1) t w ≤ n := by
  rcases transit h hw with ⟨i, hi, hh⟩ | ⟨u, d, z, hz, _⟩
  · have e := (pl_of h.A h.P).node i w hi hw hh
    rw [e]
    obtain ⟨g1, g2⟩ := h.I.hr i w hw hh
    have := h.Q1 w hw i (by
      have := List.mem_of_getElem? (h.I.sn i w hw)
      rwa [g1] at this)
    omega
  · rw [he] at hz
    simp at hz

theorem sum_part {A : Type} {K : Nat} (key : A → Nat) : ∀ (l : List A), (∀ x ∈ l, key x < K) → sumUp K (fun f => (l.countP fun x => decide (key x = f) : Int)) = l.length
  | [], _ => by
    have : sumUp K (fun f => ((([] : List A).countP fun x => decide (key x = f) : Nat) : Int)) = 0 := sumUp_zero fun i _ => rfl
    exact this
  | x :: l, h => by
    have ih := sum_part key l fun y hy => h y (by simp [hy])
    have := sumUp_one (n := K) (a := key x) (f := fun f => ((x :: l).countP fun x => decide (key x = f) : Int)) (g := fun f => (l.countP fun x => decide (key x = f) : Int)) (h x (by simp)) fun i _ hi => by
      simp only [List.countP_cons, Ne.symm hi, decide_false, Bool.false_eq_true, if_false, Nat.add_zero]
    rw [this, ih]
    simp only [List.countP_cons, decide_true, if_true, List.length_cons]
    omega
def pP (w f : Nat) (d : GMove_Deed) : Bool := decide (d.Kind = 1 ∧ d.Who = (w : Int) ∧ d.From = (f : Int))
theorem sum_sent {K m : Nat} : ∀ (D : List GMove_Deed), (∀ d ∈ D, DdR K m d) → sumUp m (fun w => sumUp K fun f => (D.countP (pP w f) : Int)) = (D.countP fun d => decide (d.Kind = 1) : Int)
  | [], _ => by
    have : sumUp m (fun w => sumUp K fun f => ((([] : List GMove_Deed).countP (pP w f) : Nat) : Int)) = 0 := sumUp_zero fun i _ => sumUp_zero fun j _ => rfl
    exact this
  | d :: D, h => by
    have ih := sum_sent D fun y hy => h y (by simp [hy])
    have hd := h d (by simp)
    by_cases hk : d.Kind = 1
    · have hw := hd.who
      have hf := hd.frl
      have hf0 := hd.frm
      have hp : ∀ w f, pP w f d = decide (w = d.Who.toNat ∧ f = d.From.toNat) := fun w f => by
        unfold pP
        by_cases e : w = d.Who.toNat ∧ f = d.From.toNat
        · rw [decide_eq_true e, decide_eq_true ⟨hk, by omega, by omega⟩]
        · rw [decide_eq_false e, decide_eq_false (fun e2 => e ⟨by omega, by omega⟩)]
      have e1 := sumUp_one (n := m) (a := d.Who.toNat) (f := fun w => sumUp K fun f => ((d :: D).countP (pP w f) : Int)) (g := fun w => sumUp K fun f => (D.countP (pP w f) : Int)) (by omega) fun w _ hww => sumUp_congr fun f _ => by
        rw [List.countP_cons, hp, decide_eq_false (fun e => hww e.1)]; simp
      have e2 := sumUp_one (n := K) (a := d.From.toNat) (f := fun f => ((d :: D).countP (pP d.Who.toNat f) : Int)) (g := fun f => (D.countP (pP d.Who.toNat f) : Int)) (by omega) fun f _ hff => by
        rw [List.countP_cons, hp, decide_eq_false (fun e => hff e.2)]; simp
      have e3 : ((d :: D).countP (pP d.Who.toNat d.From.toNat) : Int) = D.countP (pP d.Who.toNat d.From.toNat) + 1 := by
        rw [List.countP_cons, hp, decide_eq_true ⟨rfl, rfl⟩]; simp
      have e4 : ((d :: D).countP (fun d => decide (d.Kind = 1)) : Int) = D.countP (fun d => decide (d.Kind = 1)) + 1 := by
        rw [List.countP_cons, decide_eq_true hk]; simp
      rw [e1, e2, e4, ih]
      omega
    · have hp : ∀ w f, pP w f d = false := fun w f => decide_eq_false fun e => hk e.1
      have e4 : ((d :: D).countP (fun d => decide (d.Kind = 1)) : Int) = D.countP (fun d => decide (d.Kind = 1)) := by
        rw [List.countP_cons, decide_eq_false hk]; simp
      rw [e4, ← ih]
      refine sumUp_congr fun w _ => sumUp_congr fun f _ => ?_
      rw [List.countP_cons, hp]; simp
theorem got_sum {K : Nat} {T : Nw} {D : List GMove_Deed} (hn : NL [] T) (ho : InvO (sentD D) T) (hD : ∀ d ∈ D, DdR K m d) (hnx : ∀ w f, T.next w f = (sentD D w f).length) (w : Nat) : ((T.got w).length : Int) = sumUp K fun f => (D.countP (pP w f) : Int) := by
  have hcnt : ∀ f : Nat, ((T.got w).countP fun g => decide (g.From = (f : Int))) = D.countP (pP w f) := fun f => by
    have h1 := (ho.bod w).got f
    simp only at h1
    rw [hnx, List.take_length] at h1
    have h2 := congrArg List.length h1
    unfold sentD at h2
    rw [List.length_map, List.length_map, ← List.countP_eq_length_filter, ← List.countP_eq_length_filter] at h2
    exact h2
  have hk : ∀ g ∈ T.got w, g.From.toNat < K := fun g hg => by
    have h0 := (hn.bod w).frm g hg
    have h1 : 0 < (T.got w).countP fun g' => decide (g'.From = (g.From.toNat : Int)) := List.countP_pos_iff.2 ⟨g, hg, by simp only [decide_eq_true_eq]; omega⟩
    rw [hcnt] at h1
    obtain ⟨d, hd, hp⟩ := List.countP_pos_iff.1 h1
    have hp := of_decide_eq_true hp
    have := (hD d hd).frl
    omega
  rw [← sum_part (fun g : GMove_Got => g.From.toNat) _ hk]
  refine sumUp_congr fun f _ => ?_
  rw [← hcnt f]
  congr 1
  refine List.countP_congr fun g hg => ?_
  have h0 := (hn.bod w).frm g hg
  simp only [decide_eq_true_eq]
  omega
theorem drain_ok {n : Nat} (hn : n ≤ 3) : ∀ d ∈ drainD n, DdR (n + 1) (m + 1) d := fun d hd => by
  unfold drainD at hd
  obtain ⟨_, _, hd⟩ := List.mem_flatMap.1 hd
  rw [round_pairs] at hd
  obtain ⟨p, hp, hd⟩ := List.mem_flatMap.1 hd
  rw [List.eq_of_mem_replicate hd]
  unfold pairs at hp
  obtain ⟨a, ha, hp⟩ := List.mem_flatMap.1 hp
  obtain ⟨b, hb, hp⟩ := List.mem_flatMap.1 hp
  split at hp
  · simp at hp
  · rw [List.mem_singleton.1 hp]
    have ha := List.mem_range.1 ha
    have hb := List.mem_range.1 hb
    refine ⟨⟨.inr (.inr rfl), ?_, ?_, ?_, fun e => ?_, fun e => ?_⟩, ?_⟩
    · show (0 : Int) ≤ ((a + 1 : Nat) : Int); omega
    · show (0 : Int) ≤ ((b + 1 : Nat) : Int) ∧ ((b + 1 : Nat) : Int) < ((n + 1 : Nat) : Int); omega
    · show (0 : Int) ≤ 0 ∧ (0 : Int) < ((m + 1 : Nat) : Int); omega
    · simp [cmD] at e
    · simp [cmD] at e
    · show ((a + 1 : Nat) : Int) < ((n + 1 : Nat) : Int); omega
theorem drain_kind {n : Nat} : (drainD n).countP (fun d => decide (d.Kind = 1)) = 0 := by
  rw [List.countP_eq_zero]
  intro d hd
  unfold drainD at hd
  obtain ⟨_, _, hd⟩ := List.mem_flatMap.1 hd
  rw [round_pairs] at hd
  obtain ⟨p, hp, hd⟩ := List.mem_flatMap.1 hd
  rw [List.eq_of_mem_replicate hd]
  simp [cmD]
theorem drain_len {n : Nat} (hn : n ≤ 3) : (drainD n).length ≤ 360 := by
  have := rounds_len hn 12
  unfold drainD
  omega
theorem s9 {x : Int} {at_ : List Int} {l : List GMove_Deed} (hx : R64 x) (hc : ∀ c ∈ at_, R64 c) (hl : ∀ d ∈ l, RD d) (hcl : at_.length ≤ 9223372036854775807) (hll : l.length ≤ 9223372036854775807) : sp9 x at_ l true := by
  have h32 := s32 (many := 8) hx hc hl hcl hll (by decide)
  obtain ⟨w1, w2, w3, w4, w5⟩ := where_ok (x := x) (at_ := at_)
  have hD := deeds_ok (x := x) (l := l) (many := 8) w4
  have hDl := deeds_len (x := x) (m := (whereF x at_).length) (l := l) (many := 8)
  have hn : nodesF x = ((nodesF x).toNat : Int) := by omega
  generalize hNN : nodesF x = NN at *
  generalize NN.toNat = n at *
  subst hn
  generalize whereF x at_ = W at *
  generalize deedsF x W.length l 8 = D at *
  have hdl := drain_len w3
  have hE : ∀ d ∈ D ++ drainD n, DdR (n + 1) W.length d := fun d hd => by
    rcases List.mem_append.1 hd with hd | hd
    · exact hD d hd
    · have := drain_ok (m := W.length - 1) w3 d hd
      rwa [show W.length - 1 + 1 = W.length by omega] at this
  have r2 := r33w (deeds := D ++ drainD n) w2 (by omega) w1 (by rw [List.length_append]; omega) hE
  have hor := order (n := n) (at_ := W) hE
  have hnl := n_run (K := n + 1) (D ++ drainD n) _ (n_start W)
  obtain ⟨V, hbun⟩ := bun_run D 0 _ _ (bun_start (n := n) w1) hD
  have hcost := hbun.C
  obtain ⟨k', hb, he⟩ := drain hbun (by omega) w3 (by omega)
  have hrun : runN (n + 1) (startF W) (D ++ drainD n) = runR n 12 (runN (n + 1) (startF W) D) := by
    rw [runN_app]
    exact run_rounds _ _ _ _
  rw [hrun] at r2 hor hnl
  generalize runR n 12 (runN (n + 1) (startF W) D) = T at *
  have hnx := all_next hb hnl hor he
  obtain ⟨t1, t2⟩ := told_0 hb hnl hor he
  have hgs := got_sum (K := n + 1) hnl hor hE hnx
  have hpl := fun w (hw : w < W.length) => pl_in hb he hw
  have htot : sumUp W.length (fun w => ((T.got w).length : Int)) = (D.countP fun d => decide (d.Kind = 1) : Int) := by
    rw [sumUp_congr fun w _ => hgs w, sum_sent _ hE, List.countP_append, drain_kind]
    simp
  have hcD : ∀ j, ((D.take j).countP fun d => decide (d.Kind = 1)) ≤ 8 := fun j => by
    have := List.countP_le_length (p := fun d : GMove_Deed => decide (d.Kind = 1)) (l := D.take j)
    rw [List.length_take] at this
    omega
  have hgl : ∀ w, w < W.length → ((T.got w).length : Int) ≤ 8 := fun w hw => by
    have h1 := (sumUp_ge (n := W.length) (f := fun w => ((T.got w).length : Int)) fun i _ => Int.natCast_nonneg _).2 w hw
    have h2 := hcD D.length
    rw [List.take_length] at h2
    omega
  refine ok9 _ _ _ _ ⟨_, h32, _, s35 w2 w3 hDl, _, r2, true, s34, fun h => by simp at h, fun _ => ⟨fun h => absurd rfl h, fun _ => ⟨fun h => absurd t1 h, fun _ => ⟨fun h => absurd t2 h, fun _ => ⟨fun h => absurd (by simp [toldF]) h, fun _ => ?_⟩⟩⟩⟩⟩
  have g2 : (toldF T (n + 1) W.length (plOf (n + 1) T)).Got = (List.range W.length).map T.got := rfl
  have g3 : (toldF T (n + 1) W.length (plOf (n + 1) T)).At = (List.range W.length).map fun w => (plOf (n + 1) T w : Int) := rfl
  simp only [g2, g3, List.length_map, List.length_range]
  refine ⟨fun v i => ∃ j : Nat, i = j ∧ j ≤ D.length ∧ v = ((D.take j).countP fun d => decide (d.Kind = 1) : Int), fun _ i => (D.length - i).toNat, ⟨0, rfl, by omega, by simp⟩, ?_⟩
  rintro v i ⟨j, rfl, hj, rfl⟩ w rfl
  refine ⟨fun h => ⟨by have := of_decide_eq_true h; omega, fun a ha => ?_⟩, fun h => ?_⟩
  · have hlt : j < D.length := by have := of_decide_eq_true h; omega
    have ha' : D[j]? = some a := by simpa using ha
    have hc8 := hcD j
    refine ⟨fun h1 => ?_, fun h1 => ?_⟩
    · refine ⟨by simp only [R64]; omega, ?_⟩
      rintro _ rfl
      refine ⟨by simp only [R64]; omega, ?_⟩
      rintro _ rfl
      refine ⟨⟨j + 1, by omega, by omega, ?_⟩, by first | omega | (dsimp only; omega)⟩
      rw [List.take_add_one, ha', List.countP_append]
      simp [h1]
    · refine ⟨by simp only [R64]; omega, ?_⟩
      rintro _ rfl
      refine ⟨⟨j + 1, by omega, by omega, ?_⟩, by first | omega | (dsimp only; omega)⟩
      rw [List.take_add_one, ha', List.countP_append]
      simp [h1]
  · have hge : D.length ≤ j := by have := of_decide_eq_false h; omega
    rw [List.take_of_length_le hge, ← htot]
    refine ⟨fun v i => ∃ j : Nat, i = j ∧ j ≤ W.length ∧ v = sumUp j (fun w => ((T.got w).length : Int)), fun _ i => (W.length - i).toNat, ⟨0, rfl, by omega, rfl⟩, ?_⟩
    rintro v i ⟨j, rfl, hj, rfl⟩ w rfl
    refine ⟨fun h => ⟨by have := of_decide_eq_true h; omega, fun a ha => ?_⟩, fun h => ?_⟩
    · have hlt : j < W.length := by have := of_decide_eq_true h; omega
      have ha' : a = T.got j := by
        simp only [Int.toNat_natCast, List.getElem?_map, List.getElem?_range hlt, Option.map_some] at ha
        injection ha with ha
        exact ha.symm
      subst ha'
      have hb8 := sumUp_bound (n := j) (f := fun w => ((T.got w).length : Int)) (B := 8) fun w hw => ⟨Int.natCast_nonneg _, hgl w (by omega)⟩
      have hg8 := hgl j hlt
      have hpj := hpl j hlt
      refine ⟨by simp only [R64]; omega, ?_⟩
      rintro _ rfl
      refine ⟨by omega, fun c hc2 => ?_⟩
      have hc' : c = (plOf (n + 1) T j : Int) := by
        simp only [Int.toNat_natCast, List.getElem?_map, List.getElem?_range hlt, Option.map_some] at hc2
        injection hc2 with hc2
        exact hc2.symm
      subst hc'
      refine ⟨fun h => by omega, fun _ => ⟨by omega, fun c hc3 => ?_⟩⟩
      have hc' : c = (plOf (n + 1) T j : Int) := by
        simp only [Int.toNat_natCast, List.getElem?_map, List.getElem?_range hlt, Option.map_some] at hc3
        injection hc3 with hc3
        exact hc3.symm
      subst hc'
      refine ⟨fun h => by omega, fun _ => ⟨by simp only [R64]; omega, ?_⟩⟩
      rintro _ rfl
      refine ⟨⟨j + 1, by omega, by omega, ?_⟩, by first | omega | (dsimp only; omega)⟩
      rw [sumUp_succ]
    · have hge2 : W.length ≤ j := by have := of_decide_eq_false h; omega
      have : j = W.length := by omega
      subst this
      rintro _ rfl
      simp
end Go.Hw.VM

