import Derived.Test.YtonoaimefgodfaaHwMpA
set_option linter.unusedVariables false
set_option linter.unusedSimpArgs false
namespace Go.Hw.VM
open Go Go.Proofs
variable {K m k : Nat} {t : Nw} {a b : Nat} {x : It} {r : List It}


def BH (b : Bd) (f s : Nat) : Prop := s < b.next f ∨ ∃ n, b.early.get ((f : Int), (s : Int)) = some n
structure BN (b : Bd) : Prop where
  wf : b.early.wf
  ear : ∀ q ∈ b.early.es, ∃ f s : Nat, q.2.1 = ((f : Int), (s : Int)) ∧ b.next f < s
  frm : ∀ g ∈ b.got, 0 ≤ g.From
theorem runB_has {f' s : Nat} : ∀ (k : Nat) (b : Bd) (f : Nat), b.early.wf → BH b f' s → BH (runB k b f) f' s
  | 0, b, f, _, h => h
  | k + 1, b, f, hw, h => by
    unfold runB
    split
    · exact h
    · rename_i n hg
      refine runB_has k _ f (GM.del_wf hw _) ?_
      rcases h with h | ⟨n2, h⟩
      · left
        show s < fupd b.next f (b.next f + 1) f'
        unfold fupd
        split
        · rename_i e; subst e; omega
        · exact h
      · by_cases e : f' = f ∧ s = b.next f
        · left
          show s < fupd b.next f (b.next f + 1) f'
          rw [e.1, fupd_eq]
          omega
        · right
          refine ⟨n2, ?_⟩
          show (b.early.del _).get _ = _
          rw [GM.get_del hw _ _ (fun e2 => e (key_eq.1 e2))]
          exact h
theorem runB_bn : ∀ (k : Nat) (b : Bd) (f : Nat), b.early.wf → (∀ g ∈ b.got, 0 ≤ g.From) → b.early.es.length ≤ k → (∀ q ∈ b.early.es, ∃ f' s : Nat, q.2.1 = ((f' : Int), (s : Int)) ∧ (b.next f' < s ∨ (f' = f ∧ b.next f' ≤ s))) → BN (runB k b f)
  | 0, b, f, hw, hg, hl, he => ⟨hw, fun q hq => by
      have : b.early.es = [] := List.eq_nil_of_length_eq_zero (Nat.le_zero.1 hl)
      have hq : q ∈ b.early.es := hq
      rw [this] at hq
      simp at hq, hg⟩
  | k + 1, b, f, hw, hg, hl, he => by
    unfold runB
    split
    · rename_i hn
      refine ⟨hw, fun q hq => ?_, hg⟩
      obtain ⟨f', s, h1, h2⟩ := he q hq
      refine ⟨f', s, h1, ?_⟩
      rcases h2 with h2 | ⟨rfl, h2⟩
      · exact h2
      · have := GM.mem_get hw hq
        rw [h1] at this
        by_cases e : s = b.next f'
        · rw [e, hn] at this; simp at this
        · omega
    · rename_i n hn
      have hdl := del_len (g := b.early) (k := ((f : Int), (b.next f : Int))) (by rw [hn]; rfl)
      refine runB_bn k _ f (GM.del_wf hw _) (fun g hgm => ?_) (by simp only; omega) fun q hq => ?_
      · rcases List.mem_append.1 hgm with hgm | hgm
        · exact hg g hgm
        · rw [List.mem_singleton.1 hgm]; exact Int.natCast_nonneg _
      · obtain ⟨h1, h2⟩ := GM.del_mem hw hq
        obtain ⟨f', s, h3, h4⟩ := he q h1
        refine ⟨f', s, h3, ?_⟩
        show fupd b.next f (b.next f + 1) f' < s ∨ (f' = f ∧ fupd b.next f (b.next f + 1) f' ≤ s)
        by_cases e : f' = f
        · subst e
          rw [fupd_eq]
          have : s ≠ b.next f' := fun e => h2 (by rw [h3, e])
          right
          refine ⟨rfl, ?_⟩
          rcases h4 with h4 | ⟨_, h4⟩ <;> omega
        · rw [fupd_ne e]
          rcases h4 with h4 | ⟨h4, _⟩
          · exact .inl h4
          · exact absurd h4 e
theorem takeF_bn {b : Bd} (h : BN b) (x : It) : BN (takeF b x) := by
  unfold takeF
  split
  · exact h
  · rename_i hn
    refine runB_bn _ _ _ (GM.put_wf h.wf _ _) h.frm (Nat.le_refl _) fun q hq => ?_
    rcases put_key hq with hq | hq
    · obtain ⟨f, s, h1, h2⟩ := h.ear q hq
      exact ⟨f, s, h1, .inl h2⟩
    · exact ⟨x.frm, x.seq, hq, .inr ⟨rfl, by simp only; omega⟩⟩
theorem takeF_has {b : Bd} (h : BN b) (x : It) {f s : Nat} (hh : BH b f s ∨ (x.frm = f ∧ x.seq = s)) : BH (takeF b x) f s := by
  unfold takeF
  split
  · rename_i hn
    rcases hh with hh | ⟨rfl, rfl⟩
    · exact hh
    · exact .inl hn
  · refine runB_has _ _ _ (GM.put_wf h.wf _ _) ?_
    rcases hh with (hh | ⟨n, hh⟩) | ⟨rfl, rfl⟩
    · exact .inl hh
    · right
      show ∃ n, (b.early.put _ _).get _ = some n
      rw [GM.get_put]
      split
      · exact ⟨_, rfl⟩
      · exact ⟨n, hh⟩
    · right
      show ∃ n, (b.early.put _ _).get _ = some n
      rw [GM.get_put, if_pos rfl]
      exact ⟨_, rfl⟩

def IsL (w f s : Nat) (x : It) : Prop := x.kind = 1 ∧ x.who = w ∧ x.frm = f ∧ x.seq = s
def Has (t : Nw) (w f s : Nat) : Prop := BH ⟨t.got w, t.next w, t.early w⟩ f s ∨ (∃ a b, ∃ x ∈ WL t a b, IsL w f s x) ∨ ∃ i, ∃ x ∈ t.waits i, IsL w f s x
structure NL (l : List It) (t : Nw) : Prop where
  has : ∀ w f s, s < t.sq f w → Has t w f s ∨ ∃ y ∈ l, IsL w f s y
  bod : ∀ w, BN ⟨t.got w, t.next w, t.early w⟩
theorem n_letter {l : List It} (h : NL (x :: l) t) (a : Nat) : NL l (letterF t a x) := by
  unfold letterF
  split
  · -- it has come
    refine ⟨fun w f s hs => ?_, fun w => ?_⟩
    · have key : ∀ (hh : BH ⟨t.got w, t.next w, t.early w⟩ f s ∨ IsL w f s x), BH ⟨(setB t x.who (takeF ⟨t.got x.who, t.next x.who, t.early x.who⟩ x)).got w, (setB t x.who (takeF ⟨t.got x.who, t.next x.who, t.early x.who⟩ x)).next w, (setB t x.who (takeF ⟨t.got x.who, t.next x.who, t.early x.who⟩ x)).early w⟩ f s := fun hh => by
        show BH ⟨fupd t.got x.who _ w, fupd t.next x.who _ w, fupd t.early x.who _ w⟩ f s
        by_cases hw : w = x.who
        · subst hw
          rw [fupd_eq, fupd_eq, fupd_eq]
          refine takeF_has (h.bod x.who) x ?_
          rcases hh with hh | ⟨_, _, h3, h4⟩
          · exact .inl hh
          · exact .inr ⟨h3, h4⟩
        · rw [fupd_ne hw, fupd_ne hw, fupd_ne hw]
          rcases hh with hh | ⟨_, h2, _⟩
          · exact hh
          · exact absurd h2.symm hw
      rcases h.has w f s hs with (hh | hh) | ⟨y, hy, hL⟩
      · exact .inl (.inl (key (.inl hh)))
      · exact .inl (.inr hh)
      · rcases List.mem_cons.1 hy with rfl | hy
        · exact .inl (.inl (key (.inr hL)))
        · exact .inr ⟨y, hy, hL⟩
    · show BN ⟨fupd t.got x.who _ w, fupd t.next x.who _ w, fupd t.early x.who _ w⟩
      by_cases hw : w = x.who
      · subst hw
        rw [fupd_eq, fupd_eq, fupd_eq]
        exact takeF_bn (h.bod x.who) x
      · rw [fupd_ne hw, fupd_ne hw, fupd_ne hw]
        exact h.bod w
  split
  · -- it waits
    refine ⟨fun w f s hs => ?_, h.bod⟩
    have mem : ∀ i, ∀ y, y ∈ t.waits i ∨ (i = a ∧ y = x) → y ∈ (waitF t a x).waits i := fun i y hy => by
      show y ∈ fupd t.waits a (t.waits a ++ [x]) i
      by_cases hi : i = a
      · subst hi
        rw [fupd_eq]
        rcases hy with hy | ⟨_, rfl⟩ <;> simp [*]
      · rw [fupd_ne hi]
        rcases hy with hy | ⟨e, _⟩
        · exact hy
        · exact absurd e hi
    rcases h.has w f s hs with (hh | hh | ⟨i, y, hy, hL⟩) | ⟨y, hy, hL⟩
    · exact .inl (.inl hh)
    · exact .inl (.inr (.inl hh))
    · exact .inl (.inr (.inr ⟨i, y, mem i y (.inl hy), hL⟩))
    · rcases List.mem_cons.1 hy with rfl | hy
      · exact .inl (.inr (.inr ⟨a, y, mem a y (.inr ⟨rfl, rfl⟩), hL⟩))
      · exact .inr ⟨y, hy, hL⟩
  · -- it goes on
    refine ⟨fun w f s hs => ?_, h.bod⟩
    have e1 : ∀ {t1 t2 : Nw} {b : Nat} {z : It}, t2.ways = wadd t1.ways ((a : Int), (b : Int)) z → (∀ c d, ∀ y ∈ WL t1 c d, y ∈ WL t2 c d) ∧ z ∈ WL t2 a b := fun {t1 t2 b z} e => by
      refine ⟨fun c d y hy => ?_, ?_⟩
      · rw [WL_add e]
        split
        · simp [hy]
        · exact hy
      · rw [WL_add e, if_pos ⟨rfl, rfl⟩]; simp
    have mem : (∀ c d, ∀ y ∈ WL t c d, y ∈ WL (forwF t a x) c d) ∧ x ∈ WL (forwF t a x) a (t.sn a x.who) := by
      by_cases hf : x.frm ≠ a
      · obtain ⟨p1, _⟩ := e1 (t1 := t) (t2 := { t with ways := wadd t.ways ((a : Int), (x.frm : Int)) (noteF t a x) }) rfl
        obtain ⟨p2, p3⟩ := e1 (t1 := { t with ways := wadd t.ways ((a : Int), (x.frm : Int)) (noteF t a x) }) (t2 := forwF t a x) (b := t.sn a x.who) (z := x) (by unfold forwF; simp only [if_pos hf])
        exact ⟨fun c d y hy => p2 c d y (p1 c d y hy), p3⟩
      · exact e1 (by unfold forwF; simp only [if_neg hf])
    rcases h.has w f s hs with (hh | ⟨c, d, y, hy, hL⟩ | hh) | ⟨y, hy, hL⟩
    · exact .inl (.inl hh)
    · exact .inl (.inr (.inl ⟨c, d, y, mem.1 c d y hy, hL⟩))
    · exact .inl (.inr (.inr hh))
    · rcases List.mem_cons.1 hy with rfl | hy
      · exact .inl (.inr (.inl ⟨a, _, y, mem.2, hL⟩))
      · exact .inr ⟨y, hy, hL⟩
theorem n_fold (a : Nat) : ∀ (l : List It) (t : Nw), NL l t → NL [] (l.foldl (fun t y => letterF t a y) t)
  | [], t, h => h
  | y :: l, t, h => n_fold a l _ (n_letter h a)
theorem n_all (h : NL [] t) (a : Nat) : NL [] (allF t a) := by
  refine n_fold a _ _ ⟨fun w f s hs => ?_, h.bod⟩
  rcases h.has w f s hs with (hh | hh | ⟨i, y, hy, hL⟩) | ⟨y, hy, hL⟩
  · exact .inl (.inl hh)
  · exact .inl (.inr (.inl hh))
  · by_cases hi : i = a
    · subst hi; exact .inr ⟨y, hy, hL⟩
    · refine .inl (.inr (.inr ⟨i, y, ?_, hL⟩))
      show y ∈ fupd t.waits a [] i
      rw [fupd_ne hi]; exact hy
  · simp at hy
theorem n_learn (h : NL [] t) (a : Nat) (x : It) : NL [] (learnF t a x) := by
  unfold learnF
  split
  · exact h
  · exact n_all (t := knowF t a x) ⟨h.has, h.bod⟩ a
theorem n_come (h : NL [x] t) (a : Nat) : NL [] (comeF t a x) := by
  unfold comeF
  split
  · exact n_letter h a
  rename_i hk
  have h0 : NL [] t := ⟨fun w f s hs => by
    rcases h.has w f s hs with hh | ⟨y, hy, hL⟩
    · exact .inl hh
    · rw [List.mem_singleton.1 hy] at hL
      exact absurd hL.1 hk, h.bod⟩
  split
  · exact n_learn h0 a x
  split
  · exact n_all (n_learn (t := hereF t a x.who true) ⟨h0.has, h0.bod⟩ a x) a
  · exact h0
theorem n_do (h : NL [] t) (d : GMove_Deed) : NL [] (deedF K t d) := by
  unfold deedF doF
  split
  · refine n_letter (t := seqF t d.From.toNat d.Who.toNat) ⟨fun w f s hs => ?_, h.bod⟩ _
    have hs : s < fupd t.sq d.From.toNat (fupd (t.sq d.From.toNat) d.Who.toNat (t.sq d.From.toNat d.Who.toNat + 1)) f w := hs
    rw [eq_st] at hs
    by_cases e : f = d.From.toNat ∧ w = d.Who.toNat
    · rw [if_pos e] at hs
      obtain ⟨rfl, rfl⟩ := e
      by_cases e2 : s = t.sq d.From.toNat d.Who.toNat
      · exact .inr ⟨_, List.mem_singleton.2 rfl, rfl, rfl, rfl, e2.symm⟩
      · rcases h.has d.Who.toNat d.From.toNat s (by omega) with hh | ⟨y, hy, _⟩
        · exact .inl hh
        · simp at hy
    · rw [if_neg e] at hs
      rcases h.has _ _ s hs with hh | ⟨y, hy, _⟩
      · exact .inl hh
      · simp at hy
  split
  · unfold goF
    split
    · exact h
    · rename_i i hf
      refine ⟨fun w f s hs => ?_, h.bod⟩
      rcases h.has w f s hs with (hh | ⟨c, e, y, hy, hL⟩ | hh) | ⟨y, hy, hL⟩
      · exact .inl (.inl hh)
      · refine .inl (.inr (.inl ⟨c, e, y, ?_, hL⟩))
        rw [WL_add (t := t) (t' := moveF t i d.Who.toNat d.To.toNat) rfl]
        split
        · simp [hy]
        · exact hy
      · exact .inl (.inr (.inr hh))
      · simp at hy
  · cases hg : (t.ways.get ((d.From.toNat : Int), (d.To.toNat : Int))).getD [] with
    | nil => rw [nextF_nil hg]; exact h
    | cons x r =>
      rw [nextF_cons hg]
      have hg' : WL t d.From.toNat d.To.toNat = x :: r := hg
      refine n_come (t := wayF t d.From.toNat d.To.toNat r) ⟨fun w f s hs => ?_, h.bod⟩ _
      rcases h.has w f s hs with (hh | ⟨c, e, y, hy, hL⟩ | hh) | ⟨y, hy, hL⟩
      · exact .inl (.inl hh)
      · by_cases hce : c = d.From.toNat ∧ e = d.To.toNat
        · obtain ⟨rfl, rfl⟩ := hce
          rw [hg'] at hy
          rcases List.mem_cons.1 hy with rfl | hy
          · exact .inr ⟨y, by simp, hL⟩
          · refine .inl (.inr (.inl ⟨d.From.toNat, d.To.toNat, y, ?_, hL⟩))
            rw [WL_way, if_pos ⟨rfl, rfl⟩]; exact hy
        · refine .inl (.inr (.inl ⟨c, e, y, ?_, hL⟩))
          rw [WL_way, if_neg hce]; exact hy
      · exact .inl (.inr (.inr hh))
      · simp at hy
theorem n_run : ∀ (ds : List GMove_Deed) (t : Nw), NL [] t → NL [] (runN K t ds)
  | [], t, h => h
  | d :: ds, t, h => n_run ds _ (n_do h d)
theorem n_start (at_ : List Int) : NL [] (startF at_) :=
  ⟨fun w f s hs => by simp [startF, ct0, Ct.abs] at hs, fun w => ⟨GM.nil_wf, fun q hq => by simp [startF, ct0, Ct.abs, GM.nil] at hq, fun g hg => by simp [startF, ct0, Ct.abs, RW.nil] at hg⟩⟩
end Go.Hw.VM

