import Derived.Test.YtonoaimefgodfaaHwShare1
set_option linter.unusedVariables false
set_option linter.unusedSimpArgs false
namespace Go.Hw.VC
open Go Go.Proofs

theorem es_del (m : GM By Int) (k : By) : (m.del k).es.length ≤ m.es.length := by
  unfold GM.del
  split
  · simp only; rw [List.length_eraseIdx]; split <;> omega
  · exact Nat.le_refl _
theorem get_del_self {m : GM By Int} (hm : m.wf) (k : By) : (m.del k).get k = none := by
  cases h : (m.del k).get k with
  | none => rfl
  | some v =>
    obtain ⟨n, hn⟩ := GM.get_mem h
    exact absurd rfl (GM.del_mem hm hn).2
theorem drop_ok {s : Sh} {H : By → Nat} {N M : Nat} (h : Inv s H N M) {c : By} {n : Int} (hg : s.f_where.get c = some n) : ∃ s' : Sh, sp55 s n (0, s') ∧ Inv s' (subH H c) N M ∧ (∀ d m, subH H c d ≠ 0 → s.f_where.get d = some m → s'.f_where.get d = some m) := by
  have hlen := h.len
  have hmany := h.many
  have hbig := h.big
  have hbig2 := h.big2
  obtain ⟨p, hp, hpc, hph, hH, hn1, hn2⟩ := h.held hg
  have hlt := (List.getElem?_eq_some_iff.1 hp).1
  have hfew := h.few c
  have h56 := s56 (s := s) (n := n) (by omega) hn1 hp (by omega)
  have huniq : ∀ (j : Nat) (q : Pc), j ≠ (n - 1).toNat → s.pieces[j]? = some q → q.holds ≠ 0 → q.f_b ≠ c := by
    intro j q hj hq hqh e
    have := (h.idx c ((j : Int) + 1)).2 ⟨by omega, q, by rw [show ((j : Int) + 1 - 1).toNat = j by omega]; exact hq, e, hqh⟩
    rw [hg] at this; injection this with this
    omega
  have hsub : ∀ d, subH H c d ≤ M := fun d => by have := h.few d; unfold subH; split <;> omega
  by_cases h1 : H c = 1
  · refine ⟨⟨(s.pieces.set (n - 1).toNat { p with holds := p.holds - 1 }).set (n - 1).toNat { f_b := [], holds := p.holds - 1 }, s.f_where.del c⟩, ok55 s n _ ⟨_, h56, fun h => (by cases h), fun i hi => ?_⟩, ?_, fun d m hd hdm => ?_⟩
    · injection hi with hi; subst hi
      refine ⟨hlt, fun a ha => ?_⟩
      simp only at ha
      rw [hp] at ha; injection ha with ha; subst ha
      refine ⟨by unfold R64; omega, ?_⟩
      rintro _ rfl
      refine ⟨hlt, fun a ha => ?_⟩
      simp only at ha
      rw [hp] at ha; injection ha with ha; subst ha
      rintro _ rfl
      refine ⟨by simpa using hlt, fun a9 ha9 => ?_⟩
      rw [set_get hlt, if_pos rfl] at ha9; injection ha9 with ha9; subst ha9
      refine ⟨fun _ => ⟨by simpa using hlt, fun a11 ha11 => ?_⟩, fun hne => absurd (by simp only; omega) hne⟩
      rw [set_get hlt, if_pos rfl] at ha11; injection ha11 with ha11; subst ha11
      rintro _ rfl
      refine ⟨by simpa using hlt, fun a15 ha15 => ⟨ha15, ?_, ?_⟩⟩
      · simp
      · rw [set_get hlt, if_pos rfl] at ha15; injection ha15 with ha15; subst ha15
        simp only [hpc]
    · have hset : (s.pieces.set (n - 1).toNat { p with holds := p.holds - 1 }).set (n - 1).toNat { f_b := [], holds := p.holds - 1 } = s.pieces.set (n - 1).toNat ⟨[], 0⟩ := by
        rw [List.set_set, show p.holds - 1 = 0 by omega]
      rw [hset]
      refine ⟨GM.del_wf h.wf c, fun d m => ?_, fun q hq hqh => ?_, fun q hq hqh => ?_, fun d hd => ?_, fun q hq => ?_, by simp; omega, ?_, hsub, hbig, hbig2⟩
      · simp only [set_get hlt]
        by_cases e : d = c
        · subst e
          rw [get_del_self h.wf]
          constructor
          · intro he; cases he
          · rintro ⟨hm, q, g1, g2, g3⟩
            by_cases e2 : (n - 1).toNat = (m - 1).toNat
            · rw [if_pos e2] at g1; injection g1 with g1; subst g1; exact absurd rfl g3
            · rw [if_neg e2] at g1
              exact absurd g2 (huniq _ q (fun e => e2 e.symm) g1 g3)
        · rw [GM.get_del h.wf c d e, h.idx d m]
          refine and_congr_right fun hm => ?_
          constructor
          · rintro ⟨q, g1, g2, g3⟩
            by_cases e2 : (n - 1).toNat = (m - 1).toNat
            · rw [← e2, hp] at g1; injection g1 with g1; subst g1
              exact absurd (g2.symm.trans hpc) e
            · exact ⟨q, by rw [if_neg e2]; exact g1, g2, g3⟩
          · rintro ⟨q, g1, g2, g3⟩
            by_cases e2 : (n - 1).toNat = (m - 1).toNat
            · rw [if_pos e2] at g1; injection g1 with g1; subst g1; exact absurd rfl g3
            · rw [if_neg e2] at g1; exact ⟨q, g1, g2, g3⟩
      · rcases mem_set hlt hq with rfl | ⟨j, hj, hq2⟩
        · exact absurd rfl hqh
        · rw [h.cnt q (List.mem_of_getElem? hq2) hqh]
          unfold subH
          rw [if_neg (huniq j q hj hq2 hqh)]
      · rcases mem_set hlt hq with rfl | ⟨j, hj, hq2⟩
        · rfl
        · exact h.zero q (List.mem_of_getElem? hq2) hqh
      · unfold subH at hd
        by_cases e : d = c
        · subst e; rw [if_pos rfl] at hd; omega
        · rw [if_neg e] at hd
          simp only
          rw [GM.get_del h.wf c d e]
          exact h.mem d hd
      · rcases mem_set hlt hq with rfl | ⟨j, hj, hq2⟩
        · simp
        · exact h.small q (List.mem_of_getElem? hq2)
      · have := es_del s.f_where c
        simp only; omega
    · have e : d ≠ c := by
        intro e; subst e
        unfold subH at hd; rw [if_pos rfl] at hd; omega
      simp only
      rw [GM.get_del h.wf c d e]; exact hdm
  · refine ⟨⟨s.pieces.set (n - 1).toNat { p with holds := p.holds - 1 }, s.f_where⟩, ok55 s n _ ⟨_, h56, fun h => (by cases h), fun i hi => ?_⟩, ?_, fun d m hd hdm => hdm⟩
    · injection hi with hi; subst hi
      refine ⟨hlt, fun a ha => ?_⟩
      simp only at ha
      rw [hp] at ha; injection ha with ha; subst ha
      refine ⟨by unfold R64; omega, ?_⟩
      rintro _ rfl
      refine ⟨hlt, fun a ha => ?_⟩
      simp only at ha
      rw [hp] at ha; injection ha with ha; subst ha
      rintro _ rfl
      refine ⟨by simpa using hlt, fun a9 ha9 => ?_⟩
      rw [set_get hlt, if_pos rfl] at ha9; injection ha9 with ha9; subst ha9
      refine ⟨fun hz => ?_, fun _ => ⟨by simp, rfl⟩⟩
      simp only at hz; omega
    · refine ⟨h.wf, fun d m => ?_, fun q hq hqh => ?_, fun q hq hqh => ?_, fun d hd => ?_, fun q hq => ?_, by simp; omega, hmany, hsub, hbig, hbig2⟩
      · rw [h.idx d m]
        refine and_congr_right fun hm => ?_
        simp only [set_get hlt]
        constructor
        · rintro ⟨q, g1, g2, g3⟩
          by_cases e : (n - 1).toNat = (m - 1).toNat
          · rw [← e, hp] at g1; injection g1 with g1; subst g1
            exact ⟨_, if_pos e, g2, by simp only; omega⟩
          · exact ⟨q, by rw [if_neg e]; exact g1, g2, g3⟩
        · rintro ⟨q, g1, g2, g3⟩
          by_cases e : (n - 1).toNat = (m - 1).toNat
          · rw [if_pos e] at g1; injection g1 with g1; subst g1
            exact ⟨p, by rw [← e]; exact hp, g2, by omega⟩
          · rw [if_neg e] at g1; exact ⟨q, g1, g2, g3⟩
      · rcases mem_set hlt hq with rfl | ⟨j, hj, hq2⟩
        · simp only [subH, hpc, if_true]; omega
        · rw [h.cnt q (List.mem_of_getElem? hq2) hqh]
          unfold subH
          rw [if_neg (huniq j q hj hq2 hqh)]
      · rcases mem_set hlt hq with rfl | ⟨j, hj, hq2⟩
        · simp only at hqh; omega
        · exact h.zero q (List.mem_of_getElem? hq2) hqh
      · unfold subH at hd
        by_cases e : d = c
        · exact ⟨n, by rw [e]; exact hg⟩
        · rw [if_neg e] at hd; exact h.mem d hd
      · rcases mem_set hlt hq with rfl | ⟨j, hj, hq2⟩
        · simp only [hpc]
          have := h.small p (List.mem_of_getElem? hp)
          rw [hpc] at this; exact this
        · exact h.small q (List.mem_of_getElem? hq2)
end Go.Hw.VC

