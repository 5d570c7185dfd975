import Derived.Test.YthogcmalebekkaaHwSame2
set_option linter.unusedVariables false
set_option linter.unusedSimpArgs false
namespace Go.Hw.VR
open Go Go.Proofs

def newsE (N : List Nm) (A : Al) : List Nm := (A.map (·.1)).filter (fun n => look A n == some false && !N.contains n)
def outE (od nd : List Da) (a b : Ty) : Nat → List Nm → Option Bool
  | 0, _ => none
  | f + 1, N => match sameN od nd 20 (N.map fun n => (n, false)) a b [] [] with
    | none => none
    | some (t, A') => if newsE N A' = [] then some t else outE od nd a b f (newsE N A' ++ N)

theorem look_map (N : List Nm) (s : Nm) : look (N.map fun n => (n, false)) s = if s ∈ N then some false else none := by
  induction N with
  | nil => rfl
  | cons n N ih =>
    rw [List.map_cons, look_cons, ih]
    by_cases h : s = n
    · subst h; simp
    · by_cases h2 : s ∈ N <;> simp [h, h2]
theorem look_mem {A : Al} {s : Nm} {v : Bool} (h : look A s = some v) : s ∈ A.map (·.1) := by
  unfold look at h
  obtain ⟨p, hp, -⟩ := Option.map_eq_some_iff.1 h
  have h1 := List.mem_of_find?_eq_some hp
  have h2 := List.find?_some hp
  have h3 : s = p.1 := by simpa using h2
  exact List.mem_map.2 ⟨p, h1, h3.symm⟩
theorem news_mem {N : List Nm} {A : Al} {s : Nm} : s ∈ newsE N A ↔ look A s = some false ∧ s ∉ N := by
  unfold newsE
  rw [List.mem_filter]
  simp only [Bool.and_eq_true, beq_iff_eq, Bool.not_eq_true', List.contains_eq_mem, decide_eq_false_iff_not]
  exact ⟨fun h => h.2, fun h => ⟨look_mem h.1, h⟩⟩
theorem least {P : Nat → Prop} (h : ∃ f, P f) : ∃ f, P f ∧ ∀ g, P g → f ≤ g := by
  obtain ⟨f, hf⟩ := h
  induction f using Nat.strongRecOn with
  | ind f ih =>
    by_cases h : ∃ g, g < f ∧ P g
    · obtain ⟨g, h1, h2⟩ := h
      exact ih g h1 h2
    · exact ⟨f, hf, fun g hg => Nat.le_of_not_lt fun hlt => h ⟨g, hlt, hg⟩⟩
theorem filt_lt {α : Type} (V : List Nat) (n : Nat) (hn : n ∉ V) : ∀ (l : List (Nat × α)), (∃ p ∈ l, p.1 = n) → (l.filter fun p => decide (p.1 ∉ V ++ [n])).length < (l.filter fun p => decide (p.1 ∉ V)).length := by
  have hle : ∀ l : List (Nat × α), (l.filter fun p => decide (p.1 ∉ V ++ [n])).length ≤ (l.filter fun p => decide (p.1 ∉ V)).length := by
    intro l
    induction l with
    | nil => simp
    | cons q l ih =>
      simp only [List.filter_cons]
      by_cases h1 : q.1 ∈ V
      · have h2 : q.1 ∈ V ++ [n] := by simp [h1]
        simp only [h1, h2, not_true_eq_false, decide_false, Bool.false_eq_true, if_false]
        exact ih
      · by_cases h2 : q.1 ∈ V ++ [n]
        · simp only [h1, h2, not_true_eq_false, not_false_eq_true, decide_false, decide_true, Bool.false_eq_true, if_false, if_true, List.length_cons]
          omega
        · simp only [h1, h2, not_false_eq_true, decide_true, if_true, List.length_cons]
          omega
  intro l
  induction l with
  | nil => rintro ⟨p, hp, _⟩; simp at hp
  | cons q l ih =>
    rintro ⟨p, hp, hpn⟩
    simp only [List.filter_cons]
    by_cases hq : q.1 = n
    · have h1 : q.1 ∉ V := by rw [hq]; exact hn
      have h2 : q.1 ∈ V ++ [n] := by simp [hq]
      have := hle l
      simp only [h1, h2, not_true_eq_false, not_false_eq_true, decide_false, decide_true, Bool.false_eq_true, if_false, if_true, List.length_cons]
      omega
    · have hp' : p ∈ l := by
        rcases List.mem_cons.1 hp with rfl | h
        · exact absurd hpn hq
        · exact h
      have := ih ⟨p, hp', hpn⟩
      by_cases h1 : q.1 ∈ V
      · have h2 : q.1 ∈ V ++ [n] := by simp [h1]
        simp only [h1, h2, not_true_eq_false, decide_false, Bool.false_eq_true, if_false]
        exact this
      · have h2 : q.1 ∉ V ++ [n] := by simp [h1, hq]
        simp only [h1, h2, not_false_eq_true, decide_true, if_true, List.length_cons]
        omega
theorem once_eq {m : AM} (h : Bw m) {n : Nat} {k k' : Nm} {v v' : Bool} (h1 : (n, k, v) ∈ m.es) (h2 : (n, k', v') ∈ m.es) : k = k' ∧ v = v' := by
  have ho := h.once
  generalize m.es = l at h1 h2 ho
  induction l with
  | nil => simp at h1
  | cons q l ih =>
    simp only [List.map_cons, List.nodup_cons, List.mem_map] at ho
    rcases List.mem_cons.1 h1 with h1 | h1 <;> rcases List.mem_cons.1 h2 with h2 | h2
    · rw [← h2] at h1
      simp at h1
      exact h1
    · exact absurd ⟨_, h2, by rw [← h1]⟩ ho.1
    · exact absurd ⟨_, h1, by rw [← h2]⟩ ho.1
    · exact ih h1 h2 ho.2
theorem get_iff {m : AM} (h : Bw m) (s : Nm) (v : Bool) : m.get s = some v ↔ ∃ n, (n, s, v) ∈ m.es :=
  ⟨GM.get_mem, fun ⟨n, hn⟩ => GM.mem_get h.wf hn⟩
def Rn (m : AM) (N : List Nm) : Prop := Bw m ∧ ∀ s, m.get s = if s ∈ N then some true else none
theorem first_ok {m : AM} (h : Bw m) (V : List Nat) : V = [] ∨ m.es = [] ∨ ∃ p ∈ m.es, p.1 < m.c := by
  cases hes : m.es with
  | nil => exact .inr (.inl rfl)
  | cons p r => exact .inr (.inr ⟨p, by simp, h.wf.births p (by simp [hes])⟩)
theorem find_ok {m : AM} {n : Nat} (h : ∃ k v, (n, k, v) ∈ m.es) : (∃ p : Nat × Nm × Bool, m.es.find? (fun p => p.1 == n) = some p) ∧ ∀ (n' : Nat) (k : Nm) (v : Bool), m.es.find? (fun p => p.1 == n) = some (n', k, v) → n' = n ∧ (n, k, v) ∈ m.es := by
  refine ⟨?_, fun n' k v hf => ?_⟩
  · obtain ⟨k, v, hm⟩ := h
    cases hf : m.es.find? (fun p => p.1 == n) with
    | some p => exact ⟨p, rfl⟩
    | none =>
      have := List.find?_eq_none.1 hf _ hm
      simp at this
  · have h1 := List.mem_of_find?_eq_some hf
    have h2 := List.find?_some hf
    have h3 : n' = n := by simpa using h2
    subst h3
    exact ⟨rfl, h1⟩

def Fuel (od nd : List Da) (a b : Ty) (t : Bool) (no : AM) (f : Nat) : Prop := ∃ N, Rn no N ∧ outE od nd a b f N = some t
open Classical in
noncomputable def lf (od nd : List Da) (a b : Ty) (t : Bool) (no : AM) : Nat := if h : ∃ f, Fuel od nd a b t no f then Classical.choose (least h) else 0
theorem lf_spec {od nd : List Da} {a b : Ty} {t : Bool} {no : AM} (h : ∃ f, Fuel od nd a b t no f) : Fuel od nd a b t no (lf od nd a b t no) ∧ ∀ g, Fuel od nd a b t no g → lf od nd a b t no ≤ g := by
  unfold lf
  rw [dif_pos h]
  exact Classical.choose_spec (least h)

open Classical in
theorem s13 {p q : Pr} (hp : p.Datas.length ≤ 1000) (hq : q.Datas.length ≤ 1000) {a b : Ty} {t : Bool} {f : Nat} (h : outE p.Datas q.Datas a b f [] = some t) : sp13 p q a b t := by
  refine ok13 p q a b t ⟨fun no => ∃ f, Fuel p.Datas q.Datas a b t no f, fun no => lf p.Datas q.Datas a b t no, ⟨f, [], ⟨nil_bw, fun s => by simp [GM.get_nil]⟩, h⟩, ?_⟩
  intro no hno
  obtain ⟨⟨N, hN, hout⟩, hlf⟩ := lf_spec hno
  generalize hf0 : lf p.Datas q.Datas a b t no = f0 at hout hlf
  refine ⟨fun al V => Bw al ∧ ∀ s, al.get s = if (∃ n v, (n, s, v) ∈ no.es ∧ n ∈ V) then some false else none, fun _ V => (no.es.filter fun p => decide (p.1 ∉ V)).length, ⟨nil_bw, fun s => by simp [GM.get_nil]⟩, ?_⟩
  rintro al V ⟨hal, hget⟩
  refine ⟨fun V' tt => (tt = true → ∃ n, V' = V ++ [n] ∧ n ∉ V ∧ ∃ k v, (n, k, v) ∈ no.es) ∧ (tt = false → V' = V ∧ ∀ p ∈ no.es, p.1 ∈ V), ⟨first_ok hN.1 V, fun n k v hm hn => ⟨fun _ => ⟨n, rfl, hn, k, v, hm⟩, fun h => by simp at h⟩, fun hall => ⟨fun h => by simp at h, fun _ => ⟨rfl, fun p hp => ?_⟩⟩⟩, ?_⟩
  · refine Classical.byContradiction fun hnm => ?_
    have := hall p hp hnm
    have := hN.1.wf.births p hp
    omega
  rintro V' tt ⟨j1, j2⟩
  refine ⟨fun htt => ?_, fun htt => ?_⟩
  · obtain ⟨n, rfl, hn, hex⟩ := j1 htt
    obtain ⟨f1, f2⟩ := find_ok hex
    refine ⟨n, by simp, rfl, f1, fun n' k v hfd => ?_⟩
    obtain ⟨rfl, hmem⟩ := f2 n' k v hfd
    rintro _ rfl
    refine ⟨⟨put_bw hal k false, fun s => ?_⟩, filt_lt V n' hn no.es ⟨_, hmem, rfl⟩⟩
    rw [GM.get_put, hget s]
    by_cases hs : s = k
    · subst hs
      rw [if_pos rfl, if_pos ⟨n', v, hmem, by simp⟩]
    · rw [if_neg hs]
      have : (∃ n v, (n, s, v) ∈ no.es ∧ n ∈ V ++ [n']) ↔ (∃ n v, (n, s, v) ∈ no.es ∧ n ∈ V) := by
        constructor
        · rintro ⟨n2, v2, g1, g2⟩
          rcases List.mem_append.1 g2 with g2 | g2
          · exact ⟨n2, v2, g1, g2⟩
          · simp at g2; subst g2
            exact absurd (once_eq hN.1 g1 hmem).1 hs
        · rintro ⟨n2, v2, g1, g2⟩
          exact ⟨n2, v2, g1, by simp [g2]⟩
      simp only [this]
  · obtain ⟨rfl, hall⟩ := j2 htt
    have hrm : Rm al (N.map fun n => (n, false)) := by
      refine ⟨hal, fun s => ?_⟩
      rw [hget s, look_map]
      have : (∃ n v, (n, s, v) ∈ no.es ∧ n ∈ V') ↔ s ∈ N := by
        constructor
        · rintro ⟨n, v, g1, -⟩
          have := (get_iff hN.1 s v).2 ⟨n, g1⟩
          rw [hN.2 s] at this
          by_cases hs : s ∈ N
          · exact hs
          · rw [if_neg hs] at this; cases this
        · intro hs
          have := hN.2 s
          rw [if_pos hs] at this
          obtain ⟨n, hn⟩ := GM.get_mem this
          exact ⟨n, true, hn, hall _ hn⟩
      simp only [this]
    cases f0 with
    | zero => simp [outE] at hout
    | succ f0 =>
      rw [outE] at hout
      cases hsm : sameN p.Datas q.Datas 20 (N.map fun n => (n, false)) a b [] [] with
      | none => rw [hsm] at hout; cases hout
      | some r =>
        obtain ⟨t1, A'⟩ := r
        rw [hsm] at hout
        simp only at hout
        obtain ⟨m', hm', h28⟩ := same28 hp hq 20 _ a b [] [] t1 A' al hsm hrm
        refine ⟨(t1, ⟨p, q, m'⟩), by rw [ty_eta, ty_eta]; exact h28, ?_⟩
        refine ⟨fun no' more V => Bw no' ∧ (∀ s, no'.get s = if s ∈ N ∨ (∃ n, (n, s, false) ∈ m'.es ∧ n ∈ V) then some true else none) ∧ (more = true ↔ ∃ n s, (n, s, false) ∈ m'.es ∧ n ∈ V ∧ s ∉ N), fun _ _ V => (m'.es.filter fun p => decide (p.1 ∉ V)).length, ⟨hN.1, fun s => by rw [hN.2 s]; simp, by simp⟩, ?_⟩
        rintro no' more V ⟨b1, b2, b3⟩
        refine ⟨fun V' tt => (tt = true → ∃ n, V' = V ++ [n] ∧ n ∉ V ∧ ∃ k v, (n, k, v) ∈ m'.es) ∧ (tt = false → V' = V ∧ ∀ p ∈ m'.es, p.1 ∈ V), ⟨first_ok hm'.1 V, fun n k v hm hn => ⟨fun _ => ⟨n, rfl, hn, k, v, hm⟩, fun h => by simp at h⟩, fun hall => ⟨fun h => by simp at h, fun _ => ⟨rfl, fun p hp => ?_⟩⟩⟩, ?_⟩
        · refine Classical.byContradiction fun hnm => ?_
          have h1 := hall p hp hnm
          have h2 := hm'.1.wf.births p hp
          simp only at h1
          omega
        rintro V' tt ⟨j1, j2⟩
        refine ⟨fun htt => ?_, fun htt => ?_⟩
        · obtain ⟨n, rfl, hn, hex⟩ := j1 htt
          obtain ⟨f1, f2⟩ := find_ok hex
          refine ⟨n, by simp, rfl, f1, fun n' k v hfd => ?_⟩
          obtain ⟨rfl, hmem⟩ := f2 n' k v hfd
          refine ⟨fun x => x = (!v && !((no'.get k).getD false)), ⟨fun hv => ?_, fun hv => ?_⟩, ?_⟩
          · rintro _ rfl
            simp only [hv, Bool.true_and]
          · simp only [hv, Bool.false_and]
          rintro _ rfl
          have hsplit : ∀ s, (∃ n, (n, s, false) ∈ m'.es ∧ n ∈ V ++ [n']) ↔ (∃ n, (n, s, false) ∈ m'.es ∧ n ∈ V) ∨ (s = k ∧ v = false) := by
            intro s
            constructor
            · rintro ⟨n2, g1, g2⟩
              rcases List.mem_append.1 g2 with g2 | g2
              · exact .inl ⟨n2, g1, g2⟩
              · simp at g2; subst g2
                have := once_eq hm'.1 g1 hmem
                exact .inr ⟨this.1, this.2.symm⟩
            · rintro (⟨n2, g1, g2⟩ | ⟨rfl, rfl⟩)
              · exact ⟨n2, g1, by simp [g2]⟩
              · exact ⟨n', hmem, by simp⟩
          have hmore : (∃ n s, (n, s, false) ∈ m'.es ∧ n ∈ V ++ [n'] ∧ s ∉ N) ↔ (∃ n s, (n, s, false) ∈ m'.es ∧ n ∈ V ∧ s ∉ N) ∨ (v = false ∧ k ∉ N) := by
            constructor
            · rintro ⟨n2, s, g1, g2, g3⟩
              rcases (hsplit s).1 ⟨n2, g1, g2⟩ with ⟨n3, g4, g5⟩ | ⟨rfl, g4⟩
              · exact .inl ⟨n3, s, g4, g5, g3⟩
              · exact .inr ⟨g4, g3⟩
            · rintro (⟨n2, s, g1, g2, g3⟩ | ⟨g1, g2⟩)
              · exact ⟨n2, s, g1, by simp [g2], g3⟩
              · subst g1; exact ⟨n', k, hmem, by simp, g2⟩
          have hb2 := b2 k
          refine ⟨fun hx => ?_, fun hx => ?_⟩
          · simp only [Bool.and_eq_true, Bool.not_eq_true'] at hx
            obtain ⟨hv, hk⟩ := hx
            have hkn : ¬ (k ∈ N ∨ ∃ n, (n, k, false) ∈ m'.es ∧ n ∈ V) := by
              intro hc
              rw [if_pos hc] at hb2
              rw [hb2] at hk; cases hk
            rintro _ rfl
            refine ⟨⟨put_bw b1 k true, fun s => ?_, ?_⟩, filt_lt V n' hn m'.es ⟨_, hmem, rfl⟩⟩
            · rw [GM.get_put, b2 s]
              by_cases hs : s = k
              · subst hs
                rw [if_pos rfl, if_pos (.inr ((hsplit s).2 (.inr ⟨rfl, hv⟩)))]
              · rw [if_neg hs]
                have : (∃ n, (n, s, false) ∈ m'.es ∧ n ∈ V ++ [n']) ↔ (∃ n, (n, s, false) ∈ m'.es ∧ n ∈ V) :=
                  ⟨fun g => ((hsplit s).1 g).elim id (fun g => absurd g.1 hs), fun g => (hsplit s).2 (.inl g)⟩
                simp only [this]
            · refine ⟨fun _ => hmore.2 (.inr ⟨hv, fun hc => hkn (.inl hc)⟩), fun _ => rfl⟩
          · refine ⟨⟨b1, fun s => ?_, ?_⟩, filt_lt V n' hn m'.es ⟨_, hmem, rfl⟩⟩
            · rw [b2 s]
              have : (s ∈ N ∨ ∃ n, (n, s, false) ∈ m'.es ∧ n ∈ V ++ [n']) ↔ (s ∈ N ∨ ∃ n, (n, s, false) ∈ m'.es ∧ n ∈ V) := by
                constructor
                · rintro (g | g)
                  · exact .inl g
                  · rcases (hsplit s).1 g with g | ⟨rfl, hv⟩
                    · exact .inr g
                    · refine Classical.byContradiction fun hc => ?_
                      rw [if_neg hc] at hb2
                      rw [hb2, hv] at hx
                      simp at hx
                · rintro (g | g)
                  · exact .inl g
                  · exact .inr ((hsplit s).2 (.inl g))
              simp only [this]
            · rw [hmore, b3]
              refine ⟨fun g => .inl g, fun g => g.elim id fun ⟨hv, hkN⟩ => ?_⟩
              refine Classical.byContradiction fun hc => ?_
              have : ¬ (k ∈ N ∨ ∃ n, (n, k, false) ∈ m'.es ∧ n ∈ V) := by
                rintro (g | ⟨n2, g1, g2⟩)
                · exact hkN g
                · exact hc ⟨n2, k, g1, g2, hkN⟩
              rw [if_neg this] at hb2
              rw [hb2, hv] at hx
              simp at hx
        · obtain ⟨rfl, hall2⟩ := j2 htt
          have hfalse : ∀ s, (∃ n, (n, s, false) ∈ m'.es ∧ n ∈ V') ↔ look A' s = some false := by
            intro s
            rw [← hm'.2 s, get_iff hm'.1]
            exact ⟨fun ⟨n, g, _⟩ => ⟨n, g⟩, fun ⟨n, g⟩ => ⟨n, g, hall2 _ g⟩⟩
          refine ⟨fun hmo => ?_, fun hmo => ?_⟩
          · have hmf : more = false := by simpa using hmo
            have hnil : newsE N A' = [] := by
              refine List.eq_nil_iff_forall_not_mem.2 fun s hs => ?_
              rw [news_mem] at hs
              obtain ⟨n, g1, g2⟩ := (hfalse s).2 hs.1
              have := b3.2 ⟨n, s, g1, g2, hs.2⟩
              rw [hmf] at this; cases this
            rw [if_pos hnil] at hout
            injection hout
          · have hmt : more = true := by simpa using hmo
            obtain ⟨n, s, g1, g2, g3⟩ := b3.1 hmt
            have hs : s ∈ newsE N A' := news_mem.2 ⟨(hfalse s).1 ⟨n, g1, g2⟩, g3⟩
            rw [if_neg (fun h => by rw [h] at hs; simp at hs)] at hout
            have hfu : Fuel p.Datas q.Datas a b t no' f0 := by
              refine ⟨_, ⟨b1, fun u => ?_⟩, hout⟩
              rw [b2 u]
              have : (u ∈ N ∨ ∃ n, (n, u, false) ∈ m'.es ∧ n ∈ V') ↔ u ∈ newsE N A' ++ N := by
                rw [hfalse, List.mem_append, news_mem]
                constructor
                · rintro (g | g)
                  · exact .inr g
                  · by_cases hu : u ∈ N
                    · exact .inr hu
                    · exact .inl ⟨g, hu⟩
                · rintro (g | g)
                  · exact .inr g.1
                  · exact .inl g
              simp only [this]
            refine ⟨⟨f0, hfu⟩, ?_⟩
            have := (lf_spec ⟨f0, hfu⟩).2 f0 hfu
            show lf p.Datas q.Datas a b t no' < lf p.Datas q.Datas a b t no
            rw [hf0]
            omega
end Go.Hw.VR

