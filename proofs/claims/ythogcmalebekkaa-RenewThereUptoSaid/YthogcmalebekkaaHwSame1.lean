import Derived.Test.YthogcmalebekkaaHwShape15
import Derived.Test.YthogcmalebekkaaHwR2
import Derived.Test.YthogcmalebekkaaHwF2
set_option linter.unusedVariables false
set_option linter.unusedSimpArgs false
namespace Go.Hw.VR
open Go Go.Proofs
abbrev Nm := List UInt8
abbrev Al := List (Nm × Bool)
abbrev AM := GM Nm Bool

def look (A : Al) (s : Nm) : Option Bool := (A.find? (fun p => s == p.1)).map (·.2)
theorem look_cons (A : Al) (k s : Nm) (v : Bool) : look ((k, v) :: A) s = if s = k then some v else look A s := by
  unfold look
  rw [List.find?_cons]
  by_cases h : s = k
  · subst h; simp
  · have : (s == k) = false := by simpa using h
    simp [this, h]
structure Bw (m : AM) : Prop where
  wf : m.wf
  once : (m.es.map (·.1)).Nodup
theorem nil_bw : Bw (GM.nil : AM) := ⟨GM.nil_wf, by simp [GM.nil]⟩
theorem put_bw {m : AM} (h : Bw m) (k : Nm) (v : Bool) : Bw (m.put k v) := by
  refine ⟨GM.put_wf h.wf k v, ?_⟩
  unfold GM.put
  cases hi : m.idx k with
  | none =>
    simp only [List.map_append, List.map_cons, List.map_nil]
    refine List.nodup_append.2 ⟨h.once, by simp, ?_⟩
    intro a ha c hc
    simp at hc; subst hc
    obtain ⟨p, hp, rfl⟩ := List.mem_map.1 ha
    have := h.wf.births p hp
    omega
  | some j =>
    obtain ⟨p, hp, hk⟩ := GM.idx_lt hi
    simp only [hp]
    have : (m.es.set j (p.1, k, v)).map (·.1) = m.es.map (·.1) := by
      rw [List.map_set]
      refine List.ext_getElem? fun i => ?_
      rw [List.getElem?_set]
      split
      · rename_i hij; subst hij
        split
        · simp [hp]
        · rename_i h'; rw [List.getElem?_eq_none (by omega)]
      · rfl
    simp only [this]
    exact h.once
def Rm (m : AM) (A : Al) : Prop := Bw m ∧ ∀ s, m.get s = look A s
theorem rm_put {m : AM} {A : Al} (h : Rm m A) (k : Nm) (v : Bool) : Rm (m.put k v) ((k, v) :: A) :=
  ⟨put_bw h.1 k v, fun s => by rw [GM.get_put, look_cons, h.2 s]⟩

def findD (od : List Da) (s : Nm) : Da × Bool := match od.find? (fun d => d.Name == s) with | some d => (d, true) | none => (⟨[], [], []⟩, false)
def typesL (f : Al → Ty → Ty → Option (Bool × Al)) : Al → List Ty → List Ty → Option (Bool × Al)
  | A, [], [] => some (true, A)
  | A, a :: l, b :: l' => match f A a b with
    | none => none
    | some (false, A') => some (false, A')
    | some (true, A') => typesL f A' l l'
  | _, _, _ => none
def typesE (f : Al → Ty → Ty → Option (Bool × Al)) (A : Al) (l l' : List Ty) : Option (Bool × Al) :=
  if l.length ≠ l'.length then some (false, A) else if l.length ≤ 1000 then typesL f A l l' else none
def makesL (g : Al → List Ty → List Ty → Option (Bool × Al)) : Al → List Mk → List Mk → Option (Bool × Al)
  | A, [], [] => some (true, A)
  | A, a :: l, b :: l' => if a.Name = b.Name then (match g A a.Args b.Args with
    | none => none
    | some (false, A') => some (false, A')
    | some (true, A') => makesL g A' l l') else some (false, A)
  | _, _, _ => none
def makesE (g : Al → List Ty → List Ty → Option (Bool × Al)) (A : Al) (l l' : List Mk) : Option (Bool × Al) :=
  if l.length ≠ l'.length then some (false, A) else if l.length ≤ 1000 then makesL g A l l' else none
def putE (s : Nm) : Option (Bool × Al) → Option (Bool × Al)
  | none => none
  | some (v, A) => some (v, (s, v) :: A)
def datasE (f : Al → Ty → Ty → List Nm → List Nm → Option (Bool × Al)) (od nd : List Da) (A : Al) (s : Nm) : Option (Bool × Al) :=
  match look A s with
  | some v => some (v, A)
  | none =>
    putE s (if (findD od s).2 = true ∧ (findD nd s).2 = true ∧ (findD od s).1.Params.length = (findD nd s).1.Params.length then
        makesE (fun A l l' => typesE (fun A a b => f A a b (findD od s).1.Params (findD nd s).1.Params) A l l') ((s, true) :: A) (findD od s).1.Makes (findD nd s).1.Makes
      else some (false, (s, true) :: A))
def sameN (od nd : List Da) : Nat → Al → Ty → Ty → List Nm → List Nm → Option (Bool × Al)
  | 0, _, _, _, _, _ => none
  | n + 1, A, a, b, x, y =>
    if x.length ≤ 1000 ∧ y.length ≤ 1000 then
    if a.Kind ≠ b.Kind then some (false, A) else if a.Kind = 7 then some (false, A) else
      match typesE (fun A a b => sameN od nd n A a b x y) A a.Args b.Args with
      | none => none
      | some (false, A') => some (false, A')
      | some (true, A') =>
        if a.Kind = 5 then (if 0 ≤ fidx (fun s => a.Name == s) x then some (fidx (fun s => a.Name == s) x == fidx (fun s => b.Name == s) y, A') else some (false, A'))
        else if a.Kind = 6 then (if a.Name = b.Name then datasE (fun A a b x y => sameN od nd n A a b x y) od nd A' a.Name else some (false, A'))
        else if a.Name = [] then some (b.Name == [], A') else some (false, A')
    else none

theorem fidx_find {α : Type} (p : α → Bool) (l : List α) : (fidx p l < 0 ∧ l.find? p = none) ∨ (0 ≤ fidx p l ∧ fidx p l < l.length ∧ l.find? p = l[(fidx p l).toNat]?) := by
  unfold fidx
  cases h : l.findIdx? p with
  | none =>
    refine .inl ⟨by simp, ?_⟩
    rw [List.find?_eq_none]
    intro x hx
    have := List.findIdx?_eq_none_iff.1 h x hx
    simp [this]
  | some i =>
    refine .inr ⟨by simp, ?_, ?_⟩
    · have := (List.findIdx?_eq_some_iff_getElem.1 h).1
      simp only; omega
    · simp only [Int.toNat_natCast]
      obtain ⟨hi, hp, hb⟩ := List.findIdx?_eq_some_iff_getElem.1 h
      rw [List.getElem?_eq_getElem hi, List.find?_eq_some_iff_getElem]
      refine ⟨hp, i, hi, rfl, fun j hj => ?_⟩
      simpa using hb j hj
theorem s49g {p : Pr} (h3 : p.Datas.length ≤ 1000) (s : Nm) : sp49 p s (findD p.Datas s) := by
  refine ok49 p s _ ⟨_, s67 p.Datas s (by omega), ?_⟩
  unfold findD
  rcases fidx_find (fun x : Da => x.Name == s) p.Datas with ⟨h1, h2⟩ | ⟨h1, h2, h4⟩
  · rw [h2]
    exact ⟨fun _ => rfl, fun h => by simp only at h; omega⟩
  · refine ⟨fun h => by simp only at h; omega, fun _ => ⟨⟨h1, h2⟩, fun a ha => ?_⟩⟩
    rw [h4]
    simp only at ha
    rw [ha]


inductive Run (p q : Pr) (x y : List Nm) : AM → List Ty → List Ty → Bool → AM → Prop
  | nil (m) : Run p q x y m [] [] true m
  | stop {m a b l l' m'} (h : sp28 ⟨p, q, m⟩ a b x y (false, ⟨p, q, m'⟩)) : Run p q x y m (a :: l) (b :: l') false m'
  | step {m a b l l' m1 t m'} (h : sp28 ⟨p, q, m⟩ a b x y (true, ⟨p, q, m1⟩)) (r : Run p q x y m1 l l' t m') : Run p q x y m (a :: l) (b :: l') t m'
theorem drop_of_get {α : Type} {l : List α} {i : Nat} {a : α} (h : l[i]? = some a) : l.drop i = a :: l.drop (i + 1) := by
  obtain ⟨hi, rfl⟩ := List.getElem?_eq_some_iff.1 h
  exact List.drop_eq_getElem_cons hi
theorem s57 {p q : Pr} {m m' : AM} {a b : Ty} {x y : List Nm} {t : Bool} (h : sp28 ⟨p, q, m⟩ a b x y (t, ⟨p, q, m'⟩)) : sp57 a b ⟨p, q, m⟩ x y (t, ⟨p, q, m'⟩, x, y) :=
  ok57 a b ⟨p, q, m⟩ x y _ ⟨_, by rw [ty_eta, ty_eta]; exact h, rfl⟩
theorem s56 {p q : Pr} {m m' : AM} {l l' : List Ty} {x y : List Nm} {t : Bool} (hlen : l.length = l'.length) (h1 : l.length ≤ 1000) (hr : Run p q x y m l l' t m') : sp56_57 l l' ⟨p, q, m⟩ x y (t, ⟨p, q, m'⟩, x, y) := by
  refine ok56_57 l l' ⟨p, q, m⟩ x y _ ⟨fun h => by omega, fun _ => ?_⟩
  refine ⟨fun a b c d e f g h a' b' c' d' e' f' g' h' mm xx yy i => GPr.mk a b c d e f g h = p ∧ GPr.mk a' b' c' d' e' f' g' h' = q ∧ xx = x ∧ yy = y ∧ 0 ≤ i ∧ i ≤ l.length ∧ Run p q x y mm (l.drop i.toNat) (l'.drop i.toNat) t m',
    fun _ _ _ _ _ _ _ _ _ _ _ _ _ _ _ _ _ _ _ i => ((l.length : Int) - i).toNat, ⟨rfl, rfl, rfl, rfl, by omega, by omega, hr⟩, ?_⟩
  rintro a b c d e f g h a' b' c' d' e' f' g' h' mm _ _ i ⟨rfl, rfl, rfl, rfl, i0, i1, hrun⟩ w rfl
  refine ⟨fun hi => ?_, fun hi => ?_⟩
  · simp at hi
    refine ⟨⟨i0, hi⟩, fun u hu => ⟨⟨i0, by omega⟩, fun v hv => ?_⟩⟩
    rw [drop_of_get hu, drop_of_get hv] at hrun
    cases hrun with
    | stop hs => exact ⟨_, by rw [ty_eta, ty_eta]; exact s57 hs, fun _ => rfl, fun h => by simp at h⟩
    | step hs hrun =>
      refine ⟨_, by rw [ty_eta, ty_eta]; exact s57 hs, fun h => by simp at h, fun _ => ⟨by unfold R64; omega, ?_⟩⟩
      rintro _ rfl
      refine ⟨⟨rfl, rfl, rfl, rfl, by omega, by omega, ?_⟩, by simp only; omega⟩
      rw [show (i + 1).toNat = i.toNat + 1 by omega]
      exact hrun
  · simp at hi
    rw [List.drop_of_length_le (by omega), List.drop_of_length_le (by omega)] at hrun
    cases hrun
    rfl
theorem s37 {p q : Pr} {m m' : AM} {l l' : List Ty} {x y : List Nm} {t : Bool} (h : sp56_57 l l' ⟨p, q, m⟩ x y (t, ⟨p, q, m'⟩, x, y)) : sp37 ⟨p, q, m⟩ l l' x y (t, ⟨p, q, m'⟩) :=
  ok37 ⟨p, q, m⟩ l l' x y _ ⟨_, h, rfl⟩
theorem s56_ne {p q : Pr} {m : AM} {l l' : List Ty} {x y : List Nm} (hlen : l.length ≠ l'.length) : sp56_57 l l' ⟨p, q, m⟩ x y (false, ⟨p, q, m⟩, x, y) :=
  ok56_57 l l' ⟨p, q, m⟩ x y _ ⟨fun _ => rfl, fun h => by omega⟩

inductive RunM (p q : Pr) (d e : Da) : AM → List Mk → List Mk → Bool → AM → Prop
  | nil (m) : RunM p q d e m [] [] true m
  | ne {m a b l l'} (h : a.Name ≠ b.Name) : RunM p q d e m (a :: l) (b :: l') false m
  | stop {m a b l l' m'} (hn : a.Name = b.Name) (h : sp37 ⟨p, q, m⟩ a.Args b.Args d.Params e.Params (false, ⟨p, q, m'⟩)) : RunM p q d e m (a :: l) (b :: l') false m'
  | step {m a b l l' m1 t m'} (hn : a.Name = b.Name) (h : sp37 ⟨p, q, m⟩ a.Args b.Args d.Params e.Params (true, ⟨p, q, m1⟩)) (r : RunM p q d e m1 l l' t m') : RunM p q d e m (a :: l) (b :: l') t m'
theorem s59 {p q : Pr} {m m' : AM} {a b : Mk} {d e : Da} {t : Bool} (hn : a.Name = b.Name) (h : sp37 ⟨p, q, m⟩ a.Args b.Args d.Params e.Params (t, ⟨p, q, m'⟩)) : sp59 a b ⟨p, q, m⟩ d e (t, ⟨p, q, m'⟩, d, e) :=
  ok59 a b ⟨p, q, m⟩ d e _ ⟨fun _ => ⟨_, h, rfl⟩, fun h => absurd hn h⟩
theorem s59_ne {p q : Pr} {m : AM} {a b : Mk} {d e : Da} (hn : a.Name ≠ b.Name) : sp59 a b ⟨p, q, m⟩ d e (false, ⟨p, q, m⟩, d, e) :=
  ok59 a b ⟨p, q, m⟩ d e _ ⟨fun h => absurd h hn, fun _ => rfl⟩
theorem s58_ne {p q : Pr} {m : AM} {l l' : List Mk} {d e : Da} (hlen : l.length ≠ l'.length) : sp58_59 l l' ⟨p, q, m⟩ d e (false, ⟨p, q, m⟩, d, e) :=
  ok58_59 l l' ⟨p, q, m⟩ d e _ ⟨fun _ => rfl, fun h => by omega⟩
theorem s58 {p q : Pr} {m m' : AM} {l l' : List Mk} {d e : Da} {t : Bool} (hlen : l.length = l'.length) (h1 : l.length ≤ 1000) (hr : RunM p q d e m l l' t m') : sp58_59 l l' ⟨p, q, m⟩ d e (t, ⟨p, q, m'⟩, d, e) := by
  refine ok58_59 l l' ⟨p, q, m⟩ d e _ ⟨fun h => by omega, fun _ => ?_⟩
  refine ⟨fun a b c d1 e1 f g h a' b' c' d' e' f' g' h' mm dn dp dm en ep em i => GPr.mk a b c d1 e1 f g h = p ∧ GPr.mk a' b' c' d' e' f' g' h' = q ∧ GDa.mk dn dp dm = d ∧ GDa.mk en ep em = e ∧ 0 ≤ i ∧ i ≤ l.length ∧ RunM p q d e mm (l.drop i.toNat) (l'.drop i.toNat) t m',
    fun _ _ _ _ _ _ _ _ _ _ _ _ _ _ _ _ _ _ _ _ _ _ _ i => ((l.length : Int) - i).toNat, ⟨rfl, rfl, rfl, rfl, by omega, by omega, hr⟩, ?_⟩
  rintro a b c d1 e1 f g h a' b' c' d' e' f' g' h' mm dn dp dm en ep em i ⟨rfl, rfl, rfl, rfl, i0, i1, hrun⟩ w rfl
  refine ⟨fun hi => ?_, fun hi => ?_⟩
  · simp at hi
    refine ⟨⟨i0, hi⟩, fun u hu => ⟨⟨i0, by omega⟩, fun v hv => ?_⟩⟩
    rw [drop_of_get hu, drop_of_get hv] at hrun
    cases hrun with
    | ne hn => exact ⟨_, s59_ne hn, fun _ => rfl, fun h => by simp at h⟩
    | stop hn hs => exact ⟨_, s59 hn hs, fun _ => rfl, fun h => by simp at h⟩
    | step hn hs hrun =>
      refine ⟨_, s59 hn hs, fun h => by simp at h, fun _ => ⟨by unfold R64; omega, ?_⟩⟩
      rintro _ rfl
      refine ⟨⟨rfl, rfl, rfl, rfl, by omega, by omega, ?_⟩, by simp only; omega⟩
      rw [show (i + 1).toNat = i.toNat + 1 by omega]
      exact hrun
  · simp at hi
    rw [List.drop_of_length_le (by omega), List.drop_of_length_le (by omega)] at hrun
    cases hrun
    rfl
end Go.Hw.VR

