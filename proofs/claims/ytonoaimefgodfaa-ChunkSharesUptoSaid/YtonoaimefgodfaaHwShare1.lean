import Derived.Test.YtonoaimefgodfaaHwChunkK
import Derived.Test.YtonoaimefgodfaaHwF2
set_option linter.unusedVariables false
set_option linter.unusedSimpArgs false
namespace Go.Hw.VC
open Go Go.Proofs
abbrev By := List UInt8
abbrev Pc := GChunk_piece
abbrev Sh := GChunk_Shelf

structure Inv (s : Sh) (H : By → Nat) (N M : Nat) : Prop where
  wf : s.f_where.wf
  idx : ∀ c (n : Int), s.f_where.get c = some n ↔ (1 ≤ n ∧ ∃ p, s.pieces[(n - 1).toNat]? = some p ∧ p.f_b = c ∧ p.holds ≠ 0)
  cnt : ∀ p ∈ s.pieces, p.holds ≠ 0 → p.holds = H p.f_b
  zero : ∀ p ∈ s.pieces, p.holds = 0 → p.f_b = []
  mem : ∀ c, H c ≠ 0 → ∃ n, s.f_where.get c = some n
  small : ∀ p ∈ s.pieces, p.f_b.length ≤ 32
  len : s.pieces.length ≤ N
  many : s.f_where.es.length ≤ N
  few : ∀ c, H c ≤ M
  big : N ≤ 490
  big2 : M ≤ 1000
theorem Inv.held {s : Sh} {H : By → Nat} {N M : Nat} (h : Inv s H N M) {c : By} {n : Int} (hg : s.f_where.get c = some n) : ∃ p, s.pieces[(n - 1).toNat]? = some p ∧ p.f_b = c ∧ p.holds = H c ∧ H c ≠ 0 ∧ 1 ≤ n ∧ n ≤ s.pieces.length := by
  obtain ⟨h1, p, h2, h3, h4⟩ := (h.idx c n).1 hg
  have := h.cnt p (List.mem_of_getElem? h2) h4
  rw [h3] at this
  have hlt := (List.getElem?_eq_some_iff.1 h2).1
  exact ⟨p, h2, h3, this, by omega, h1, by omega⟩
theorem set_get {l : List Pc} {i j : Nat} {p : Pc} (hi : i < l.length) : (l.set i p)[j]? = if i = j then some p else l[j]? := by
  by_cases h : i = j
  · subst h; simp [hi]
  · rw [List.getElem?_set_ne h, if_neg h]
theorem mem_set {l : List Pc} {i : Nat} {p q : Pc} (hi : i < l.length) (h : q ∈ l.set i p) : q = p ∨ ∃ j, j ≠ i ∧ l[j]? = some q := by
  obtain ⟨j, hj⟩ := List.getElem?_of_mem h
  rw [set_get hi] at hj
  split at hj
  · injection hj with hj; exact .inl hj.symm
  · rename_i hne; exact .inr ⟨j, fun e => hne e.symm, hj⟩
def addH (H : By → Nat) (c : By) : By → Nat := fun d => if d = c then H d + 1 else H d
def subH (H : By → Nat) (c : By) : By → Nat := fun d => if d = c then H d - 1 else H d

theorem s56 {s : Sh} {n : Int} {p : Pc} (hl : s.pieces.length ≤ 1000) (h1 : 1 ≤ n) (hp : s.pieces[(n - 1).toNat]? = some p) (hh : p.holds ≠ 0) : sp56 s n (some (n - 1), s) := by
  have hlt := (List.getElem?_eq_some_iff.1 hp).1
  refine ok56 s n _ ⟨fun h => by omega, fun _ => ⟨fun h => by omega, fun _ => ⟨by unfold R64; omega, ?_⟩⟩⟩
  rintro _ rfl
  refine ⟨by omega, hlt, fun a ha => ?_⟩
  rw [hp] at ha; injection ha with ha; subst ha
  refine ⟨fun h => absurd h hh, fun _ => ⟨by unfold R64; omega, ?_⟩⟩
  rintro _ rfl
  exact ⟨by omega, rfl⟩
theorem s56_no {s : Sh} {n : Int} (hl : s.pieces.length ≤ 1000) (h1 : 1 ≤ n) (h : ∀ p, s.pieces[(n - 1).toNat]? = some p → p.holds = 0) : sp56 s n (none, s) := by
  refine ok56 s n _ ⟨fun h => by omega, fun _ => ⟨fun _ => rfl, fun h2 => ⟨by unfold R64; omega, ?_⟩⟩⟩
  rintro _ rfl
  refine ⟨by omega, by omega, fun a ha => ?_⟩
  exact ⟨fun _ => rfl, fun hne => absurd (h a ha) hne⟩
theorem s82 (p : Pc) : sp82 p (p.holds == 0) := ok82 p _ (by rintro v rfl; simp)

theorem at_nat {α : Type} {l : List α} {i : Int} {a : α} (h0 : 0 ≤ i) (h : l[i.toNat]? = some a) : i < (l.length : Int) ∧ l.take (i + 1).toNat = l.take i.toNat ++ [a] ∧ a ∈ l := by
  have h1 := (List.getElem?_eq_some_iff.1 h).1
  refine ⟨by omega, ?_, List.mem_of_getElem? h⟩
  rw [show (i + 1).toNat = i.toNat + 1 by omega, List.take_add_one, h]
  rfl
def fidx {α : Type} (p : α → Bool) (l : List α) : Int := match l.findIdx? p with | some i => i | none => -1
theorem fidx_loop {α : Type} (p : α → Bool) (l : List α) : (∀ i : Nat, ∀ a, l[i]? = some a → p a = true → (∀ j < i, ∀ b, l[j]? = some b → p b = false) → fidx p l = i) ∧ ((∀ a ∈ l, p a = false) → fidx p l = -1) := by
  refine ⟨fun i a hi hp hj => ?_, fun h => ?_⟩
  · have hlt := (List.getElem?_eq_some_iff.1 hi).1
    have : l.findIdx? p = some i := by
      rw [List.findIdx?_eq_some_iff_getElem]
      refine ⟨hlt, ?_, fun j hji => ?_⟩
      · rw [(List.getElem?_eq_some_iff.1 hi).2]; exact hp
      · have hjl : j < l.length := by omega
        rw [hj j hji _ (List.getElem?_eq_getElem hjl)]; simp
    unfold fidx; rw [this]
  · have : l.findIdx? p = none := by rw [List.findIdx?_eq_none_iff]; exact h
    unfold fidx; rw [this]
theorem fidx_cases {α : Type} (p : α → Bool) (l : List α) : (fidx p l = -1 ∧ ∀ a ∈ l, p a = false) ∨ ∃ i : Nat, fidx p l = i ∧ ∃ a, l[i]? = some a ∧ p a = true := by
  unfold fidx
  cases h : l.findIdx? p with
  | none => exact .inl ⟨rfl, List.findIdx?_eq_none_iff.1 h⟩
  | some i =>
    obtain ⟨hi, hp, _⟩ := List.findIdx?_eq_some_iff_getElem.1 h
    exact .inr ⟨i, rfl, _, List.getElem?_eq_getElem hi, hp⟩
theorem s81 {l : List Pc} (hl : l.length ≤ 1000) : sp81_82 l (fidx (fun p => p.holds == 0) l, l) := by
  obtain ⟨f1, f2⟩ := fidx_loop (fun p : Pc => p.holds == 0) l
  refine ok81_82 l _ ⟨fun i => 0 ≤ i ∧ i ≤ l.length ∧ ∀ j : Nat, (j : Int) < i → ∀ b, l[j]? = some b → (b.holds == 0) = false, fun i => ((l.length : Int) - i).toNat, ⟨by omega, by omega, fun j hj => by omega⟩, ?_⟩
  rintro i ⟨h0, h1, h2⟩ v rfl
  refine ⟨fun hi => ?_, fun hi => ?_⟩
  · simp at hi
    refine ⟨⟨h0, hi⟩, by omega, fun a ha => ⟨_, s82 a, fun he => ?_, fun hne => ?_⟩⟩
    · have := f1 i.toNat a ha he (fun j hj b hb => h2 j (by omega) b hb)
      show (i, l) = _
      rw [this]; congr 1; omega
    · refine ⟨by unfold R64; omega, ?_⟩
      rintro _ rfl
      refine ⟨⟨by omega, by omega, fun j hj b hb => ?_⟩, by simp only; omega⟩
      by_cases hji : (j : Int) < i
      · exact h2 j hji b hb
      · have : j = i.toNat := by omega
        subst this
        rw [ha] at hb; injection hb with hb; subst hb
        exact hne
  · simp at hi
    show ((-1 : Int), l) = _
    rw [f2]
    intro a ha
    obtain ⟨j, hj⟩ := List.getElem?_of_mem ha
    exact h2 j (by have := (List.getElem?_eq_some_iff.1 hj).1; omega) a hj
theorem s66 {s : Sh} (hl : s.pieces.length ≤ 900) : ∃ (i : Nat) (P : List Pc), sp66m s ((i : Int) + 1, ⟨P, s.f_where⟩) ∧ (∃ p, P[i]? = some p ∧ p.holds = 0) ∧ (P = s.pieces ∨ (P = s.pieces ++ [⟨[], 0⟩] ∧ i = s.pieces.length)) := by
  rcases fidx_cases (fun p : Pc => p.holds == 0) s.pieces with ⟨h1, h2⟩ | ⟨i, h1, p, h2, h3⟩
  · refine ⟨s.pieces.length, s.pieces ++ [⟨[], 0⟩], ok66m s _ ⟨_, s81 (by omega), fun P k n => P = s.pieces ++ [⟨[], 0⟩] ∧ k = P.length ∧ n = s.pieces.length, ⟨fun _ => ⟨by simp, by simp; omega, fun v hv => ?_⟩, fun h => by rw [h1] at h; omega⟩, ?_⟩, ⟨⟨[], 0⟩, by simp, rfl⟩, .inr ⟨rfl, rfl⟩⟩
    · simp only [List.take_length] at hv
      subst hv
      refine ⟨by simp; unfold R64; omega, ?_⟩
      rintro _ rfl
      exact ⟨rfl, rfl, by simp⟩
    · rintro P k n ⟨rfl, rfl, rfl⟩
      refine ⟨by unfold R64; omega, ?_⟩
      rintro _ rfl
      exact ⟨rfl, rfl⟩
  · have hlt := (List.getElem?_eq_some_iff.1 h2).1
    refine ⟨i, s.pieces, ok66m s _ ⟨_, s81 (by omega), fun P k n => P = s.pieces ∧ k = P.length ∧ n = i, ⟨fun h => by rw [h1] at h; omega, fun _ => ⟨rfl, rfl, h1⟩⟩, ?_⟩, ⟨p, h2, by simpa using h3⟩, .inl rfl⟩
    rintro P k n ⟨rfl, rfl, rfl⟩
    refine ⟨by unfold R64; omega, ?_⟩
    rintro _ rfl
    exact ⟨rfl, rfl⟩

theorem es_put (m : GM By Int) (k : By) (v : Int) : (m.put k v).es.length ≤ m.es.length + 1 := by
  unfold GM.put
  split
  · split <;> simp
  · simp
theorem put_ok {s : Sh} {H : By → Nat} {N M : Nat} (h : Inv s H N M) {c : By} (hc : c.length ≤ 32) (hN : N < 490 ∨ H c ≠ 0) (hM : M < 1000) : ∃ (n : Int) (s' : Sh) (N' : Nat), sp53 s c (n, 0, s') ∧ Inv s' (addH H c) N' (M + 1) ∧ N' ≤ N + 1 ∧ (H c ≠ 0 → N' = N) ∧ s'.f_where.get c = some n ∧ (∀ d m, s.f_where.get d = some m → s'.f_where.get d = some m) ∧
    (H c ≠ 0 → s'.f_where = s.f_where ∧ s'.pieces.map (·.f_b) = s.pieces.map (·.f_b)) := by
  have hlen := h.len
  have hmany := h.many
  have hbig := h.big
  have hbig2 := h.big2
  cases hg : s.f_where.get c with
  | some n =>
    obtain ⟨p, hp, hpc, hph, hH, hn1, hn2⟩ := h.held hg
    have hlt := (List.getElem?_eq_some_iff.1 hp).1
    have hfew := h.few c
    refine ⟨n, ⟨s.pieces.set (n - 1).toNat { p with holds := p.holds + 1 }, s.f_where⟩, N, ok53 s c _ ⟨fun h => by omega, fun _ => ?_⟩, ?_, by omega, fun _ => rfl, hg, fun d m hd => hd, fun _ => ⟨rfl, ?_⟩⟩
    · rintro v b hv hb
      rw [hg] at hv hb
      simp at hv hb
      subst hv; subst hb
      refine ⟨fun _ => ⟨by unfold R64; omega, ?_⟩, fun h => by cases h⟩
      rintro _ rfl
      refine ⟨by omega, hlt, fun a ha => ?_⟩
      rw [hp] at ha; injection ha with ha; subst ha
      refine ⟨fun h => by omega, fun _ => ⟨by unfold R64; omega, ?_⟩⟩
      rintro _ rfl
      refine ⟨by omega, hlt, fun a ha => ?_⟩
      rw [hp] at ha; injection ha with ha; subst ha
      refine ⟨by unfold R64; omega, ?_⟩
      rintro _ rfl
      refine ⟨by omega, hlt, fun a ha => ?_⟩
      rw [hp] at ha; injection ha with ha; subst ha
      rintro _ rfl
      exact ⟨by simp, rfl⟩
    · have huniq : ∀ (j : Nat) (q : Pc), j ≠ (n - 1).toNat → s.pieces[j]? = some q → q.holds ≠ 0 → q.f_b ≠ c := by
        intro j q hj hq hqh e
        have := (h.idx c ((j : Int) + 1)).2 ⟨by omega, q, by rw [show ((j : Int) + 1 - 1).toNat = j by omega]; exact hq, e, hqh⟩
        rw [hg] at this; injection this with this
        omega
      refine ⟨h.wf, fun d m => ?_, fun q hq hqh => ?_, fun q hq hqh => ?_, fun d hd => ?_, fun q hq => ?_, by simp; omega, by simp only; omega, fun d => ?_, by omega, by omega⟩
      · rw [h.idx d m]
        refine and_congr_right fun hm => ?_
        simp only [set_get hlt]
        constructor
        · rintro ⟨q, h1, h2, h3⟩
          by_cases e : (n - 1).toNat = (m - 1).toNat
          · rw [← e, hp] at h1; injection h1 with h1; subst h1
            exact ⟨_, if_pos e, h2, by simp only; omega⟩
          · exact ⟨q, by rw [if_neg e]; exact h1, h2, h3⟩
        · rintro ⟨q, h1, h2, h3⟩
          by_cases e : (n - 1).toNat = (m - 1).toNat
          · rw [if_pos e] at h1; injection h1 with h1; subst h1
            exact ⟨p, by rw [← e]; exact hp, h2, by omega⟩
          · rw [if_neg e] at h1; exact ⟨q, h1, h2, h3⟩
      · rcases mem_set hlt hq with rfl | ⟨j, hj, hq2⟩
        · simp only [addH, hpc, if_true]; omega
        · rw [h.cnt q (List.mem_of_getElem? hq2) hqh]
          unfold addH
          rw [if_neg (huniq j q hj hq2 hqh)]
      · rcases mem_set hlt hq with rfl | ⟨j, hj, hq2⟩
        · simp only at hqh; omega
        · exact h.zero q (List.mem_of_getElem? hq2) hqh
      · unfold addH at hd
        by_cases e : d = c
        · exact ⟨n, by rw [e]; exact hg⟩
        · rw [if_neg e] at hd; exact h.mem d hd
      · rcases mem_set hlt hq with rfl | ⟨j, hj, hq2⟩
        · simp only [hpc]; exact hc
        · exact h.small q (List.mem_of_getElem? hq2)
      · have := h.few d
        unfold addH; split <;> omega
    · refine List.ext_getElem? fun j => ?_
      rw [List.getElem?_map, List.getElem?_map, set_get hlt]
      split
      · rename_i e; rw [← e, hp]; rfl
      · rfl
  | none =>
    have hH : H c = 0 := by
      refine Classical.byContradiction fun hne => ?_
      obtain ⟨n, hn⟩ := h.mem c hne
      rw [hg] at hn; cases hn
    have hnone : ∀ (j : Nat) (q : Pc), s.pieces[j]? = some q → q.holds ≠ 0 → q.f_b ≠ c := by
      intro j q hq hqh e
      have := (h.idx c ((j : Int) + 1)).2 ⟨by omega, q, by rw [show ((j : Int) + 1 - 1).toNat = j by omega]; exact hq, e, hqh⟩
      rw [hg] at this; cases this
    obtain ⟨i, P, h66, ⟨p, hp, hp0⟩, hP⟩ := s66 (s := s) (by omega)
    have hlt := (List.getElem?_eq_some_iff.1 hp).1
    -- what is in P is on the shelf, or is free
    have hold : ∀ (j : Nat) (q : Pc), P[j]? = some q → q.holds ≠ 0 → s.pieces[j]? = some q := by
      intro j q hq hqh
      rcases hP with rfl | ⟨rfl, -⟩
      · exact hq
      · rw [List.getElem?_append] at hq
        split at hq
        · exact hq
        · rename_i hj
          cases hk : j - s.pieces.length with
          | zero => rw [hk] at hq; simp at hq; subst hq; exact absurd rfl hqh
          | succ k => rw [hk] at hq; simp at hq
    have hnew : ∀ (j : Nat) (q : Pc), s.pieces[j]? = some q → P[j]? = some q := by
      intro j q hq
      rcases hP with rfl | ⟨rfl, -⟩
      · exact hq
      · rw [List.getElem?_append_left (List.getElem?_eq_some_iff.1 hq).1]; exact hq
    have hany : ∀ q ∈ P, q ∈ s.pieces ∨ q = ⟨[], 0⟩ := by
      intro q hq
      rcases hP with rfl | ⟨rfl, -⟩
      · exact .inl hq
      · rcases List.mem_append.1 hq with hq | hq
        · exact .inl hq
        · exact .inr (by simpa using hq)
    have hPl : P.length ≤ N + 1 := by
      rcases hP with rfl | ⟨rfl, -⟩
      · omega
      · simp; omega
    refine ⟨(i : Int) + 1, ⟨P.set i ⟨c, 1⟩, s.f_where.put c ((i : Int) + 1)⟩, N + 1, ok53 s c _ ⟨fun h => by omega, fun _ => ?_⟩, ?_, Nat.le_refl _, fun hne => absurd hH hne, by rw [GM.get_put]; simp, fun d m hd => ?_, fun hne => absurd hH hne⟩
    · rintro v b hv hb
      rw [hg] at hb
      simp at hb
      subst hb
      refine ⟨fun h => (by cases h), fun _ => ⟨fun h => by omega, fun _ => ⟨_, h66, by unfold R64; omega, ?_⟩⟩⟩
      rintro _ rfl
      refine ⟨c, s44 c (by omega), by simp only; omega, by simp only; omega, fun a ha => ?_⟩
      rintro _ rfl _ rfl
      refine ⟨by simp, ?_⟩
      simp only [Int.add_sub_cancel, Int.toNat_natCast]
    · refine ⟨GM.put_wf h.wf c _, fun d m => ?_, fun q hq hqh => ?_, fun q hq hqh => ?_, fun d hd => ?_, fun q hq => ?_, by simp; omega, ?_, fun d => ?_, by omega, by omega⟩
      · rw [GM.get_put]
        simp only [set_get hlt]
        by_cases e : d = c
        · subst e
          rw [if_pos rfl]
          constructor
          · intro he; injection he with he; subst he
            exact ⟨by omega, ⟨d, 1⟩, by rw [show ((i : Int) + 1 - 1).toNat = i by omega]; simp, rfl, by simp⟩
          · rintro ⟨hm, q, h1, h2, h3⟩
            by_cases e : i = (m - 1).toNat
            · congr 1; omega
            · rw [if_neg e] at h1
              exact absurd h2 (hnone _ q (hold _ q h1 h3) h3)
        · rw [if_neg e, h.idx d m]
          refine and_congr_right fun hm => ?_
          constructor
          · rintro ⟨q, h1, h2, h3⟩
            by_cases e2 : i = (m - 1).toNat
            · have := hnew _ q h1
              rw [← e2, hp] at this; injection this with this; subst this
              exact absurd hp0 h3
            · exact ⟨q, by rw [if_neg e2]; exact hnew _ q h1, h2, h3⟩
          · rintro ⟨q, h1, h2, h3⟩
            by_cases e2 : i = (m - 1).toNat
            · rw [if_pos e2] at h1; injection h1 with h1; subst h1
              exact absurd h2.symm e
            · rw [if_neg e2] at h1; exact ⟨q, hold _ q h1 h3, h2, h3⟩
      · rcases mem_set hlt hq with rfl | ⟨j, hj, hq2⟩
        · simp only [addH, if_true, hH]; rfl
        · have hq3 := hold j q hq2 hqh
          rw [h.cnt q (List.mem_of_getElem? hq3) hqh]
          unfold addH
          rw [if_neg (hnone j q hq3 hqh)]
      · rcases mem_set hlt hq with rfl | ⟨j, hj, hq2⟩
        · simp at hqh
        · rcases hany q (List.mem_of_getElem? hq2) with hq3 | rfl
          · exact h.zero q hq3 hqh
          · rfl
      · rw [GM.get_put]
        by_cases e : d = c
        · exact ⟨_, if_pos e⟩
        · rw [if_neg e]
          unfold addH at hd
          rw [if_neg e] at hd
          exact h.mem d hd
      · rcases mem_set hlt hq with rfl | ⟨j, hj, hq2⟩
        · exact hc
        · rcases hany q (List.mem_of_getElem? hq2) with hq3 | rfl
          · exact h.small q hq3
          · simp
      · have := es_put s.f_where c ((i : Int) + 1)
        simp only
        omega
      · have := h.few d
        unfold addH; split <;> omega
    · rw [GM.get_put]
      have : d ≠ c := fun e => by rw [e, hg] at hd; cases hd
      rw [if_neg this]; exact hd
end Go.Hw.VC

