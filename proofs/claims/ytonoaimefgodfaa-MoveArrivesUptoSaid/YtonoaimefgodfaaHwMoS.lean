import Derived.Test.YtonoaimefgodfaaHwMoR
set_option linter.unusedVariables false
set_option linter.unusedSimpArgs false
namespace Go.Hw.VM
open Go Go.Proofs

structure BOk (S : Nat → List Int) (b : Bd) : Prop where
  wf : b.early.wf
  ear : ∀ (f s : Nat) (n : Int), b.early.get ((f : Int), (s : Int)) = some n → (S f)[s]? = some n
  got : ∀ f : Nat, (b.got.filter fun g => decide (g.From = (f : Int))).map (·.N) = (S f).take (b.next f)
  nxt : ∀ f, b.next f ≤ (S f).length
theorem del_get {A B : Type} [DecidableEq A] {g : GM A B} (hw : g.wf) {k q : A} {v : B} (h : (g.del k).get q = some v) : g.get q = some v := by
  obtain ⟨n, hn⟩ := GM.get_mem h
  have := GM.mem_get hw (GM.del_mem hw hn).1
  exact this
theorem runB_ok {S : Nat → List Int} : ∀ (k : Nat) (b : Bd) (f : Nat), BOk S b → BOk S (runB k b f)
  | 0, b, f, h => h
  | k + 1, b, f, h => by
    unfold runB
    split
    · exact h
    · rename_i n hg
      have hs := h.ear f (b.next f) n hg
      have hlt := lt_of_get hs
      refine runB_ok k _ f ⟨GM.del_wf h.wf _, fun f' s v hv => h.ear f' s v (del_get h.wf hv), fun f' => ?_, fun f' => ?_⟩
      · simp only
        rw [List.filter_append, List.map_append, h.got f']
        by_cases hf : f' = f
        · subst hf
          rw [fupd_eq, List.take_add_one, hs]
          simp
        · rw [fupd_ne hf]
          have : ¬ ((f : Int) = (f' : Int)) := by omega
          simp [this]
      · simp only
        by_cases hf : f' = f
        · subst hf; rw [fupd_eq]; omega
        · rw [fupd_ne hf]; exact h.nxt f'
theorem takeF_ok {S : Nat → List Int} {b : Bd} (h : BOk S b) {x : It} (hx : (S x.frm)[x.seq]? = some x.n) : BOk S (takeF b x) := by
  unfold takeF
  split
  · exact h
  · refine runB_ok _ _ _ ⟨GM.put_wf h.wf _ _, fun f s n hn => ?_, h.got, h.nxt⟩
    simp only at hn
    rw [GM.get_put] at hn
    split at hn
    · rename_i he
      injection he with h1 h2
      injection hn with hn
      rw [show f = x.frm by omega, show s = x.seq by omega, hx, hn]
    · exact h.ear f s n hn
def LOk (S : Nat → Nat → List Int) (x : It) : Prop := x.kind = 1 → (S x.who x.frm)[x.seq]? = some x.n
structure InvO (S : Nat → Nat → List Int) (t : Nw) : Prop where
  sq : ∀ f w, t.sq f w = (S w f).length
  itg : ∀ q ∈ t.ways.es, ∀ x ∈ q.2.2, LOk S x
  itw : ∀ i, ∀ x ∈ t.waits i, x.kind = 1 ∧ LOk S x
  bod : ∀ w, BOk (S w) ⟨t.got w, t.next w, t.early w⟩
variable {S : Nat → Nat → List Int}
theorem ord_letter {t : Nw} (h : InvO S t) {a : Nat} {x : It} (hk : x.kind = 1) (hx : LOk S x) : InvO S (letterF t a x) := by
  have hx1 := hx hk
  unfold letterF
  split
  · refine ⟨h.sq, h.itg, h.itw, fun w => ?_⟩
    show BOk (S w) ⟨fupd t.got x.who _ w, fupd t.next x.who _ w, fupd t.early x.who _ w⟩
    by_cases hw : w = x.who
    · subst hw
      rw [fupd_eq, fupd_eq, fupd_eq]
      exact takeF_ok (h.bod x.who) hx1
    · rw [fupd_ne hw, fupd_ne hw, fupd_ne hw]
      exact h.bod w
  split
  · refine ⟨h.sq, h.itg, fun i y hy => ?_, h.bod⟩
    have hy : y ∈ fupd t.waits a (t.waits a ++ [x]) i := hy
    unfold fupd at hy
    split at hy
    · rcases List.mem_append.1 hy with hy | hy
      · exact h.itw a y hy
      · rw [List.mem_singleton.1 hy]; exact ⟨hk, hx⟩
    · exact h.itw i y hy
  · refine ⟨h.sq, wadd_its ?_ hx, h.itw, h.bod⟩
    split
    · exact wadd_its h.itg (fun hc => by simp [noteF] at hc)
    · exact h.itg
theorem ord_fold (a : Nat) : ∀ (l : List It) (t : Nw), InvO S t → (∀ y ∈ l, y.kind = 1 ∧ LOk S y) → InvO S (l.foldl (fun t y => letterF t a y) t)
  | [], t, h, _ => h
  | y :: l, t, h, hl => by
    rw [List.foldl_cons]
    exact ord_fold a l _ (ord_letter h (hl y (by simp)).1 (hl y (by simp)).2) fun z hz => hl z (by simp [hz])
theorem ord_all {t : Nw} (h : InvO S t) (a : Nat) : InvO S (allF t a) := by
  refine ord_fold a _ _ ⟨h.sq, h.itg, fun i y hy => ?_, h.bod⟩ (h.itw a)
  have hy : y ∈ fupd t.waits a [] i := hy
  unfold fupd at hy
  split at hy
  · simp at hy
  · exact h.itw i y hy
theorem ord_learn {t : Nw} (h : InvO S t) (a : Nat) (x : It) : InvO S (learnF t a x) := by
  unfold learnF
  split
  · exact h
  · exact ord_all (t := knowF t a x) ⟨h.sq, h.itg, h.itw, h.bod⟩ a
theorem ord_come {t : Nw} (h : InvO S t) (a : Nat) {x : It} (hx : LOk S x) : InvO S (comeF t a x) := by
  unfold comeF
  split
  · rename_i hk
    exact ord_letter h hk hx
  split
  · exact ord_learn h a x
  split
  · exact ord_all (ord_learn (t := hereF t a x.who true) ⟨h.sq, h.itg, h.itw, h.bod⟩ a x) a
  · exact h
def sentD (ds : List GMove_Deed) (w f : Nat) : List Int := (ds.filter fun d => decide (d.Kind = 1 ∧ d.Who = (w : Int) ∧ d.From = (f : Int))).map (·.N)
theorem BOk.ext {S1 S2 : Nat → List Int} (he : ∀ f, ∃ l, S2 f = S1 f ++ l) {b : Bd} (h : BOk S1 b) : BOk S2 b := by
  refine ⟨h.wf, fun f s n hn => ?_, fun f => ?_, fun f => ?_⟩
  · obtain ⟨l, hl⟩ := he f
    have := h.ear f s n hn
    rw [hl, List.getElem?_append_left (lt_of_get this)]
    exact this
  · obtain ⟨l, hl⟩ := he f
    rw [h.got f, hl, List.take_append_of_le_length (h.nxt f)]
  · obtain ⟨l, hl⟩ := he f
    have := h.nxt f
    rw [hl, List.length_append]
    omega
theorem LOk.ext {S1 S2 : Nat → Nat → List Int} (he : ∀ w f, ∃ l, S2 w f = S1 w f ++ l) {x : It} (h : LOk S1 x) : LOk S2 x := fun hk => by
  obtain ⟨l, hl⟩ := he x.who x.frm
  have := h hk
  rw [hl, List.getElem?_append_left (lt_of_get this)]
  exact this
theorem ord_do {K m : Nat} {t : Nw} (h : InvO S t) {d : GMove_Deed} (hd : DdR K m d) : InvO (fun w f => S w f ++ sentD [d] w f) (deedF K t d) := by
  have he : ∀ w f, ∃ l, (fun w f => S w f ++ sentD [d] w f) w f = S w f ++ l := fun w f => ⟨_, rfl⟩
  unfold deedF doF
  by_cases h1 : d.Kind = 1
  · rw [if_pos h1]
    have hw := hd.who
    have hf := hd.frm
    have hs : ∀ w f, sentD [d] w f = if w = d.Who.toNat ∧ f = d.From.toNat then [d.N] else [] := fun w f => by
      unfold sentD
      by_cases hc : w = d.Who.toNat ∧ f = d.From.toNat
      · rw [if_pos hc]
        have : d.Kind = 1 ∧ d.Who = (w : Int) ∧ d.From = (f : Int) := ⟨h1, by omega, by omega⟩
        simp [this]
      · rw [if_neg hc]
        have : ¬ (d.Kind = 1 ∧ d.Who = (w : Int) ∧ d.From = (f : Int)) := fun e => hc ⟨by omega, by omega⟩
        simp only [List.filter_cons, this, decide_false, Bool.false_eq_true, if_false]
        rfl
    unfold putF
    refine ord_letter (t := seqF t d.From.toNat d.Who.toNat) (x := ⟨1, d.Who.toNat, d.From.toNat, t.sq d.From.toNat d.Who.toNat, d.N, 0, 0⟩) ⟨fun f w => ?_, fun q hq x hx => (h.itg q hq x hx).ext he, fun i x hx => ⟨(h.itw i x hx).1, (h.itw i x hx).2.ext he⟩, fun w => (h.bod w).ext fun f => ⟨_, rfl⟩⟩ rfl fun _ => ?_
    · show fupd t.sq d.From.toNat (fupd (t.sq d.From.toNat) d.Who.toNat (t.sq d.From.toNat d.Who.toNat + 1)) f w = _
      rw [List.length_append, hs]
      by_cases hf2 : f = d.From.toNat
      · subst hf2
        rw [fupd_eq]
        by_cases hw2 : w = d.Who.toNat
        · subst hw2
          rw [fupd_eq, h.sq, if_pos ⟨rfl, rfl⟩]
          rfl
        · rw [fupd_ne hw2, h.sq, if_neg (fun e => hw2 e.1)]
          rfl
      · rw [fupd_ne hf2, h.sq, if_neg (fun e => hf2 e.2)]
        rfl
    · show (S d.Who.toNat d.From.toNat ++ sentD [d] d.Who.toNat d.From.toNat)[t.sq d.From.toNat d.Who.toNat]? = some d.N
      rw [hs, if_pos ⟨rfl, rfl⟩, h.sq]
      simp
  · rw [if_neg h1]
    have hs : (fun w f => S w f ++ sentD [d] w f) = S := by
      funext w f
      have : ¬ (d.Kind = 1 ∧ d.Who = (w : Int) ∧ d.From = (f : Int)) := fun e => h1 e.1
      simp [sentD, this]
    rw [hs]
    split
    · unfold goF
      split
      · exact h
      · exact ⟨h.sq, wadd_its h.itg (fun hc => by simp at hc), h.itw, h.bod⟩
    · cases hg : (t.ways.get ((d.From.toNat : Int), (d.To.toNat : Int))).getD [] with
      | nil => rw [nextF_nil hg]; exact h
      | cons x r =>
        rw [nextF_cons hg]
        have hmem : ∀ y ∈ x :: r, LOk S y := fun y hy => by
          rw [← hg] at hy
          cases hg2 : t.ways.get ((d.From.toNat : Int), (d.To.toNat : Int)) with
          | none => rw [hg2] at hy; simp at hy
          | some l =>
            rw [hg2] at hy
            obtain ⟨n, hn⟩ := GM.get_mem hg2
            exact h.itg _ hn y hy
        refine ord_come (t := wayF t d.From.toNat d.To.toNat r) ⟨h.sq, fun q hq y hy => ?_, h.itw, h.bod⟩ _ (hmem x (by simp))
        rcases put_mem hq with hq | hq
        · exact h.itg q hq y hy
        · rw [hq] at hy
          exact hmem y (by simp [hy])
theorem ord_run {K m : Nat} : ∀ (ds : List GMove_Deed) (S : Nat → Nat → List Int) (t : Nw), InvO S t → (∀ d ∈ ds, DdR K m d) → InvO (fun w f => S w f ++ sentD ds w f) (runN K t ds)
  | [], S, t, h, _ => by
    have : (fun w f => S w f ++ sentD [] w f) = S := by funext w f; simp [sentD]
    rw [this]
    exact h
  | d :: ds, S, t, h, hd => by
    have h1 := ord_run ds _ _ (ord_do h (hd d (by simp))) fun x hx => hd x (by simp [hx])
    have : (fun w f => S w f ++ sentD (d :: ds) w f) = fun w f => (S w f ++ sentD [d] w f) ++ sentD ds w f := by
      funext w f
      rw [List.append_assoc]
      congr 1
      unfold sentD
      rw [← List.map_append, ← List.filter_append]
      rfl
    rw [this]
    exact h1
theorem ord_start (at_ : List Int) : InvO (fun _ _ => []) (startF at_) :=
  ⟨fun _ _ => rfl, fun q hq => by simp [startF, ct0, Ct.abs, gmap, GM.nil] at hq, fun i x hx => by simp [startF, ct0, Ct.abs, RW.nil] at hx,
    fun w => ⟨GM.nil_wf, fun f s n hn => by simp [startF, ct0, Ct.abs, GM.get_nil] at hn, fun f => by simp [startF, ct0, Ct.abs, RW.nil], fun f => Nat.le_refl _⟩⟩
theorem order {n : Nat} {at_ : List Int} {D : List GMove_Deed} (hok : ∀ d ∈ D, DdR (n + 1) at_.length d) : InvO (sentD D) (runN (n + 1) (startF at_) D) := by
  have := ord_run D _ _ (ord_start at_) hok
  simpa using this
theorem filter_take {A : Type} {p : A → Bool} {l : List A} {k : Nat} {a : A} (h : l[k]? = some a) : (l.take (k + 1)).filter p = (l.take k).filter p ++ if p a then [a] else [] := by
  rw [List.take_add_one, h, List.filter_append]
  cases hp : p a <;> simp [hp]
theorem s8 {x : Int} {at_ : List Int} {l : List GMove_Deed} (hx : R64 x) (hc : ∀ c ∈ at_, R64 c) (hl : ∀ d ∈ l, RD d) (hcl : at_.length ≤ 9223372036854775807) (hll : l.length ≤ 9223372036854775807) : sp8 x at_ l true := by
  have h32 := s32 (many := 150) hx hc hl hcl hll (by decide)
  obtain ⟨w1, w2, w3, w4, w5⟩ := where_ok (x := x) (at_ := at_)
  have hD := deeds_ok (x := x) (l := l) (many := 150) w4
  have hDl := deeds_len (x := x) (m := (whereF x at_).length) (l := l) (many := 150)
  have hn : nodesF x = ((nodesF x).toNat : Int) := by omega
  generalize hNN : nodesF x = NN at *
  generalize NN.toNat = n at *
  subst hn
  generalize whereF x at_ = W at *
  generalize deedsF x W.length l 150 = D at *
  have r2 := r33w (deeds := D) w2 (by omega) w1 (by omega) hD
  have hgl := fun k => got_len w1 (deeds := D) hD k
  have hor := order (n := n) (at_ := W) hD
  generalize runN (n + 1) (startF W) D = T at *
  refine ok8 _ _ _ _ ⟨_, h32, _, r2, true, s34, fun h => by simp at h, fun _ => ⟨fun h => absurd rfl h, fun _ => ⟨fun h => absurd (by simp [toldF]) h, fun _ => ?_⟩⟩⟩
  have g2 : (toldF T (n + 1) W.length (plOf (n + 1) T)).Got = (List.range W.length).map T.got := rfl
  simp only [g2, List.length_map, List.length_range]
  refine ⟨fun i => ∃ k : Nat, i = k ∧ k ≤ W.length, fun i => (W.length - i).toNat, ⟨0, rfl, by omega⟩, ?_⟩
  rintro i ⟨k, rfl, hk⟩ w rfl
  refine ⟨fun h => ⟨by have := of_decide_eq_true h; omega, fun a ha => ?_⟩, fun h => trivial⟩
  have hlt : k < W.length := by have := of_decide_eq_true h; omega
  have ha' : a = T.got k := by
    simp only [Int.toNat_natCast, List.getElem?_map, List.getElem?_range hlt, Option.map_some] at ha
    injection ha with ha
    exact ha.symm
  subst ha'
  have hgk := hgl k
  refine ⟨fun i => ∃ v : Nat, i = v ∧ 1 ≤ v ∧ v ≤ n + 1, fun i => (n + 1 - i).toNat, ⟨1, rfl, by omega, by omega⟩, ?_⟩
  rintro i ⟨v, rfl, hv1, hv2⟩
  refine ⟨fun hvn => ?_, fun hvn => ⟨by simp only [R64]; omega, ?_⟩⟩
  · refine ⟨fun u i => ∃ j : Nat, i = j ∧ j ≤ D.length ∧ u = sentD (D.take j) k v, fun _ i => (D.length - i).toNat, ⟨0, rfl, by omega, rfl⟩, ?_⟩
    rintro u i ⟨j, rfl, hj, rfl⟩ w rfl
    have hsl : (sentD (D.take j) k v).length ≤ 150 := by
      unfold sentD
      rw [List.length_map]
      have := List.length_filter_le (fun d => decide (d.Kind = 1 ∧ d.Who = (k : Int) ∧ d.From = (v : Int))) (D.take j)
      rw [List.length_take] at this
      omega
    have step : ∀ (a : GMove_Deed), D[j]? = some a → sentD (D.take (j + 1)) k v = sentD (D.take j) k v ++ if a.Kind = 1 ∧ a.Who = (k : Int) ∧ a.From = (v : Int) then [a.N] else [] := fun a ha => by
      unfold sentD
      rw [filter_take ha, List.map_append]
      by_cases hc : a.Kind = 1 ∧ a.Who = (k : Int) ∧ a.From = (v : Int)
      · rw [if_pos hc, if_pos (by simpa using hc)]; rfl
      · rw [if_neg hc, if_neg (by simpa using hc)]; rfl
    refine ⟨fun h => ⟨by have := of_decide_eq_true h; omega, fun a ha => ?_⟩, fun h => ?_⟩
    · have hlt2 : j < D.length := by have := of_decide_eq_true h; omega
      have ha' : D[j]? = some a := by simpa using ha
      have st := step a ha'
      refine ⟨fun c1 => ⟨fun c2 => ⟨fun c3 => ?_, fun c3 => ?_⟩, fun c2 => ?_⟩, fun c1 => ?_⟩
      · refine ⟨by simp only [List.length_cons, List.length_nil]; omega, ?_⟩
        rintro _ rfl
        refine ⟨by simp only [R64]; omega, ?_⟩
        rintro _ rfl
        refine ⟨⟨j + 1, by omega, by omega, ?_⟩, by first | omega | (dsimp only; omega)⟩
        rw [st, if_pos ⟨c1, c2, c3⟩]
      · refine ⟨by simp only [R64]; omega, ?_⟩
        rintro _ rfl
        refine ⟨⟨j + 1, by omega, by omega, ?_⟩, by first | omega | (dsimp only; omega)⟩
        rw [st, if_neg (fun e => c3 e.2.2), List.append_nil]
      · refine ⟨by simp only [R64]; omega, ?_⟩
        rintro _ rfl
        refine ⟨⟨j + 1, by omega, by omega, ?_⟩, by first | omega | (dsimp only; omega)⟩
        rw [st, if_neg (fun e => c2 e.2.1), List.append_nil]
      · refine ⟨by simp only [R64]; omega, ?_⟩
        rintro _ rfl
        refine ⟨⟨j + 1, by omega, by omega, ?_⟩, by first | omega | (dsimp only; omega)⟩
        rw [st, if_neg (fun e => c1 e.1), List.append_nil]
    · have hge : D.length ≤ j := by have := of_decide_eq_false h; omega
      rw [List.take_of_length_le hge] at hsl ⊢
      refine ⟨fun u i => ∃ p : Nat, i = p ∧ p ≤ (T.got k).length ∧ u = (((T.got k).take p).filter fun g => decide (g.From = (v : Int))).map (·.N), fun _ i => ((T.got k).length - i).toNat, ⟨0, rfl, by omega, rfl⟩, ?_⟩
      rintro u i ⟨p, rfl, hp, rfl⟩ w rfl
      have hul : ((((T.got k).take p).filter fun g => decide (g.From = (v : Int))).map (·.N)).length ≤ 150 := by
        rw [List.length_map]
        have := List.length_filter_le (fun g : GMove_Got => decide (g.From = (v : Int))) ((T.got k).take p)
        rw [List.length_take] at this
        omega
      refine ⟨fun h => ⟨by have := of_decide_eq_true h; omega, fun g hg => ?_⟩, fun h => ?_⟩
      · have hlt3 : p < (T.got k).length := by have := of_decide_eq_true h; omega
        have hg' : (T.got k)[p]? = some g := by simpa using hg
        refine ⟨fun c1 => ?_, fun c1 => ?_⟩
        · refine ⟨by simp only [List.length_cons, List.length_nil]; omega, ?_⟩
          rintro _ rfl
          refine ⟨by simp only [R64]; omega, ?_⟩
          rintro _ rfl
          refine ⟨⟨p + 1, by omega, by omega, ?_⟩, by first | omega | (dsimp only; omega)⟩
          rw [filter_take hg', if_pos (by simpa using c1), List.map_append]
          rfl
        · refine ⟨by simp only [R64]; omega, ?_⟩
          rintro _ rfl
          refine ⟨⟨p + 1, by omega, by omega, ?_⟩, by first | omega | (dsimp only; omega)⟩
          rw [filter_take hg', if_neg (by simpa using c1), List.append_nil]
      · have hge3 : (T.got k).length ≤ p := by have := of_decide_eq_false h; omega
        rw [List.take_of_length_le hge3] at hul ⊢
        have hgot := (hor.bod k).got v
        have hnx := (hor.bod k).nxt v
        simp only at hgot hnx
        rw [hgot] at hul ⊢
        have hlen : ((sentD D k v).take (T.next k v)).length = T.next k v := by rw [List.length_take]; omega
        rw [hlen]
        refine ⟨fun h => by omega, fun _ => ⟨by omega, ?_⟩⟩
        rintro _ rfl
        refine ⟨_, s24 _ _ (by omega), fun h => ?_, fun _ => ⟨by simp only [R64]; omega, ?_⟩⟩
        · simp at h
        · rintro _ rfl
          exact ⟨⟨v + 1, by omega, by omega, by omega⟩, by first | omega | (dsimp only; omega)⟩
  · rintro _ rfl
    exact ⟨⟨k + 1, by omega, by omega⟩, by first | omega | (dsimp only; omega)⟩
end Go.Hw.VM

