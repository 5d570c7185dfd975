import Derived.Test.YtonoaimefgodfaaHwSep
import Derived.Test.YtonoaimefgodfaaHwBor
set_option linter.unusedVariables false
set_option linter.unusedSimpArgs false
namespace Go.Hw
open Go

section
variable {A B C : Type} [DecidableEq A]
def gmap (f : B → C) (g : GM A B) : GM A C := ⟨g.es.map fun p => (p.1, p.2.1, f p.2.2), g.c⟩
theorem gmap_idx (f : B → C) (g : GM A B) (k : A) : (gmap f g).idx k = g.idx k := by
  unfold GM.idx gmap
  simp only [List.findIdx?_map]
  rfl
theorem gmap_get (f : B → C) (g : GM A B) (k : A) : (gmap f g).get k = (g.get k).map f := by
  unfold GM.get gmap
  simp only [List.find?_map, Option.map_map]
  rfl
theorem gmap_put (f : B → C) (g : GM A B) (k : A) (v : B) : gmap f (g.put k v) = (gmap f g).put k (f v) := by
  unfold GM.put
  rw [gmap_idx]
  cases hi : g.idx k with
  | none => simp [gmap]
  | some j =>
    obtain ⟨p, hp, _⟩ := GM.idx_lt hi
    have : (gmap f g).es[j]? = some (p.1, p.2.1, f p.2.2) := by simp [gmap, hp]
    simp only [hp, this]
    simp [gmap, List.map_set]
theorem put_mem {g : GM A B} {k : A} {v : B} {q : Nat × A × B} (h : q ∈ (g.put k v).es) : q ∈ g.es ∨ q.2.2 = v := by
  unfold GM.put at h
  cases hi : g.idx k with
  | none =>
    rw [hi] at h
    rcases List.mem_append.1 h with h | h
    · exact .inl h
    · right; rw [List.mem_singleton.1 h]
  | some j =>
    obtain ⟨p, hp, _⟩ := GM.idx_lt hi
    rw [hi] at h
    simp only [hp] at h
    rcases List.mem_or_eq_of_mem_set h with h | h
    · exact .inl h
    · right; rw [h]
def GM.stamps (g : GM A B) : Prop := (g.es.map Prod.fst).Nodup
theorem put_stamps {g : GM A B} (hw : g.wf) (hs : g.stamps) (k : A) (v : B) : (g.put k v).stamps := by
  unfold GM.stamps GM.put at *
  cases hi : g.idx k with
  | none =>
    simp only [List.map_append, List.map_cons, List.map_nil]
    refine List.nodup_append.2 ⟨hs, by simp, ?_⟩
    intro a ha c hc
    simp at hc
    subst hc
    obtain ⟨p, hp, rfl⟩ := List.mem_map.1 ha
    have := hw.births p hp
    omega
  | some j =>
    obtain ⟨p, hp, _⟩ := GM.idx_lt hi
    simp only [hp, List.map_set]
    have : (g.es.map Prod.fst).set j p.1 = g.es.map Prod.fst := by
      refine List.ext_getElem? fun i => ?_
      rw [List.getElem?_set]
      split
      · rename_i h; subst h
        split
        · simp [hp]
        · rename_i h; rw [List.getElem?_eq_none (by omega)]
      · rfl
    rw [this]; exact hs
def mlay {I : Type} (g : GM A (RW I)) : Lay := g.es.flatMap fun q => q.2.2.lay
theorem mlay_at {I : Type} (g : GM A (RW I)) (k : A) : ∃ L1 L2, mlay g = L1 ++ (((g.get k).getD RW.nil).lay ++ L2) ∧ ∀ r' : RW I, mlay (g.put k r') = L1 ++ (r'.lay ++ L2) := by
  rw [GM.get_idx]
  unfold GM.put
  cases hi : g.idx k with
  | none =>
    refine ⟨mlay g, [], by simp [RW.nil, RW.lay], fun r' => ?_⟩
    simp [mlay]
  | some j =>
    obtain ⟨p, hp, _⟩ := GM.idx_lt hi
    refine ⟨(g.es.take j).flatMap fun q => q.2.2.lay, (g.es.drop (j + 1)).flatMap fun q => q.2.2.lay, ?_, fun r' => ?_⟩
    · simp only [hp, Option.map_some, Option.getD_some]
      exact fm_split hp
    · simp only [hp]
      exact fm_set (s := (p.1, k, r')) (lt_of_get hp)
end
section
variable {P : Program} {N m : Nat} {S D : CallP} {b : Nat} {r : List Op} {e e' : Env} {h h' : Heap} {Q : Env → Heap → Prop} {QQ : Ex → Env → Heap → Prop} {d : Nat} {x y z : X}
theorem a_lookup {A B : Type} [DecidableEq A] {fk : A → HV} {fv : B → HV} {kd : EqK} {g : GM A B} {id : Nat} {q : A} {z0 : B} {zv : HV} (hk : EncK fk kd) (hx : x.ev e = some (.map id)) (hy : y.ev e = some (fk q)) (hm : h[id]? = some (g.obj fk fv)) (hz : zv = fv z0) (k : HO S b r ((d, fv ((g.get q).getD z0)) :: e) h Q) : HO S b (⟨some d, .op (.lookup kd zv false x y), none⟩ :: r) e h Q :=
  g_lookup (K := fun t => t = (g.get q).getD z0) hk hx hy hm hz (fun _ h => h) (fun t ht => by subst ht; exact k)
theorem a_lookupE {A B : Type} [DecidableEq A] {fk : A → HV} {fv : B → HV} {kd : EqK} {g : GM A B} {id : Nat} {q : A} {z0 v : B} {zv : HV} (hk : EncK fk kd) (hx : x.ev e = some (.map id)) (hy : y.ev e = some (fk q)) (hm : h[id]? = some (g.obj fk fv)) (hz : zv = fv z0) (hv : (g.get q).getD z0 = v) (k : HO S b r ((d, fv v) :: e) h Q) : HO S b (⟨some d, .op (.lookup kd zv false x y), none⟩ :: r) e h Q :=
  a_lookup hk hx hy hm hz (by rw [hv]; exact k)
theorem a_mapset {A B : Type} [DecidableEq A] {fk : A → HV} {fv : B → HV} {kd : EqK} {g : GM A B} {id : Nat} {q : A} {v : B} (hk : EncK fk kd) (hx : x.ev e = some (.map id)) (hy : y.ev e = some (fk q)) (hz : z.ev e = some (fv v)) (ht : isTuple (fv v) = false) (hm : h[id]? = some (g.obj fk fv)) (k : HO S b r e (h.set id ((g.put q v).obj fk fv)) Q) : HO S b (⟨none, .op (.mapset kd x y z), none⟩ :: r) e h Q :=
  g_mapset (K := fun t => t = g.put q v) hk hx hy hz ht hm (fun _ h => h) (fun t => h.set id (t.obj fk fv)) (fun _ => rfl) (fun t ht => by subst ht; exact k)
end

section
variable {A B : Type} [DecidableEq A]
def entset (g : GM A B) (n : Nat) (v : B) : Option (GM A B) := (g.es.findIdx? fun p => (p.1 : Int) == (n : Int)).bind fun j => (g.es[j]?).map fun p => ⟨g.es.set j (p.1, p.2.1, v), g.c⟩
theorem ent_at {g : GM A B} (hw : g.wf) (hs : g.stamps) {k : A} {v0 : B} : ∃ n : Nat, (match g.idx k with | some j => ∃ p, g.es[j]? = some p ∧ p.1 = n | none => n = g.c) ∧ ∀ v, entset (g.put k v0) n v = some (g.put k v) := by
  unfold GM.put
  cases hi : g.idx k with
  | none =>
    refine ⟨g.c, rfl, fun v => ?_⟩
    have h1 : (g.es ++ [(g.c, k, v0)]).findIdx? (fun p => (p.1 : Int) == (g.c : Int)) = some g.es.length := by
      rw [List.findIdx?_append]
      have : g.es.findIdx? (fun p => (p.1 : Int) == (g.c : Int)) = none := by
        rw [List.findIdx?_eq_none_iff]
        intro p hp
        have := hw.births p hp
        simp
        omega
      rw [this]
      simp
    simp only [entset, h1, Option.bind_some]
    simp [List.set_append]
  | some j =>
    obtain ⟨p, hp, hk⟩ := GM.idx_lt hi
    have hj := lt_of_get hp
    refine ⟨p.1, ⟨p, hp, rfl⟩, fun v => ?_⟩
    simp only [hp]
    have h1 : (g.es.set j (p.1, k, v0)).findIdx? (fun q => (q.1 : Int) == (p.1 : Int)) = some j := by
      rw [List.findIdx?_eq_some_iff_getElem]
      refine ⟨by simpa using hj, by simp, fun i hi => ?_⟩
      rw [List.getElem_set_ne (by omega)]
      have hne : (g.es[i]'(by omega)).1 ≠ p.1 := by
        intro hc
        have hs' : (g.es.map Prod.fst).Nodup := hs
        have := nodup_inj' hs' i j p.1 (by rw [List.getElem?_map, List.getElem?_eq_getElem (by omega)]; simp [hc]) (by rw [List.getElem?_map, hp]; rfl)
        omega
      simp
      omega
    simp only [entset, h1, Option.bind_some, List.getElem?_set_self hj, Option.map_some]
    simp
end
section
variable {P : Program} {N m : Nat} {S D : CallP} {b : Nat} {r : List Op} {e e' : Env} {h h' : Heap} {Q : Env → Heap → Prop} {QQ : Ex → Env → Heap → Prop} {d : Nat} {x y z : X}
theorem a_mapentry {A B : Type} [DecidableEq A] {fk : A → HV} {fv : B → HV} {kd : EqK} {g : GM A B} {id : Nat} {q : A} {z0 v0 : B} {zv : HV} (hk : EncK fk kd) (hw : g.wf) (hs : g.stamps) (hx : x.ev e = some (.map id)) (hy : y.ev e = some (fk q)) (hm : h[id]? = some (g.obj fk fv)) (hz : zv = fv z0) (hv0 : (g.get q).getD z0 = v0)
    (k : ∀ n : Nat, (∀ v, entset (g.put q v0) n v = some (g.put q v)) → HO S b r ((d, .tuple [fv v0, .int .i64 n]) :: e) (h.set id ((g.put q v0).obj fk fv)) Q) : HO S b (⟨some d, .op (.mapentry kd zv x y), none⟩ :: r) e h Q := by
  obtain ⟨n, hn, hent⟩ := ent_at hw hs (k := q) (v0 := v0)
  have kk := (k n hent).out
  refine ⟨?_⟩
  subst hz
  simp only [hops, hcall, hstep, hx, hy, mapAt_obj hm, mfind_enc hk]
  refine ⟨by rw [hk q q]; simp, ?_⟩
  have hg := g.get_idx q
  unfold GM.put at kk
  cases hi : g.idx q with
  | none =>
    have hi' := hi
    unfold GM.idx at hi'
    rw [hi']
    rw [hi] at kk hn hg
    rw [hg] at hv0
    simp only [Option.getD_none] at hv0
    subst hv0
    have hn : n = g.c := hn
    subst hn
    simp only [GM.obj, List.map_append, List.map_cons, List.map_nil] at kk ⊢
    exact kk
  | some j =>
    have hi' := hi
    unfold GM.idx at hi'
    rw [hi']
    obtain ⟨p, hp, hpq⟩ := GM.idx_lt hi
    rw [hi] at kk hn hg
    simp only [hp, Option.map_some] at hg
    obtain ⟨p', hp', rfl⟩ := hn
    rw [hp] at hp'
    injection hp' with hp'
    subst hp'
    rw [hg] at hv0
    simp only [Option.getD_some] at hv0
    subst hv0
    simp only [hp, GM.obj, List.map_set, List.getElem?_map, Option.map_some] at kk ⊢
    exact kk
theorem a_entryset {A B : Type} [DecidableEq A] {fk : A → HV} {fv : B → HV} {g g' : GM A B} {id n : Nat} {v : B} (hx : x.ev e = some (.map id)) (hy : y.ev e = some (.int .i64 n)) (hz : z.ev e = some (fv v)) (ht : isTuple (fv v) = false) (hm : h[id]? = some (g.obj fk fv)) (hg : entset g n v = some g') (k : HO S b r e (h.set id (g'.obj fk fv)) Q) : HO S b (⟨none, .op (.entryset x y z), none⟩ :: r) e h Q := by
  refine ⟨?_⟩
  simp only [hops, hcall, hstep, hx, hy, hz, mapAt_obj hm]
  refine ⟨ht, ?_⟩
  unfold entset at hg
  rw [Option.bind_eq_some_iff] at hg
  obtain ⟨j, hj, hg⟩ := hg
  rw [Option.map_eq_some_iff] at hg
  obtain ⟨p, hp, rfl⟩ := hg
  have : (g.es.map fun p => (p.1, fk p.2.1, fv p.2.2)).findIdx? (fun p => (p.1 : Int) == (n : Int)) = some j := by
    rw [List.findIdx?_map]
    exact hj
  simp only [this, List.getElem?_map, hp, Option.map_some]
  have kk := k.out
  simp only [GM.obj, List.map_set] at kk
  exact kk
theorem a_callv {f : FuncId} {xs : List X} {vs caps : List HV} (hf : x.ev e = some (.func f caps)) (hx : evs e xs = some vs) (k : HCalls P f (vs.map HV.strip1 ++ caps) h fun v h' => HO (HCalls P) b r ((d, v) :: e) h' Q) : HO (HCalls P) b (⟨some d, .callv x xs, none⟩ :: r) e h Q := by
  refine ⟨?_⟩
  simp only [hops, hcall, hf, hx]
  exact k.mono fun v h' hk => hk.out
end
section
variable {P : Program} {N m : Nat} {S D : CallP} {b : Nat} {r : List Op} {e e' : Env} {h h' : Heap} {Q : Env → Heap → Prop} {QQ : Ex → Env → Heap → Prop} {d : Nat} {x y z : X}
theorem a_mksl {zs : List HV} {sz by_ j id n : Nat} (hid : b + j = id) (hr : h[id]? = some .res) (hx : x.ev e = some (.int .i64 (n : Int))) (hy : y.ev e = some (.int .i64 (n : Int))) (hz : zs.length = sz) (hn : n ≤ 1000000 ∧ by_ ≤ 1000)
    (k : HO S b r ((d, .arr id 0 n sz) :: e) (h.set id (.cells (List.replicate n zs).flatten)) Q) : HO S b (⟨some d, .op (.mkslice (some j) sz by_ zs x y), none⟩ :: r) e h Q := by
  subst hid
  refine ⟨?_⟩
  simp only [hops, hcall, hstep, hx, hy, hnew, Int.toNat_natCast]
  refine ⟨⟨trivial, by omega, by omega, ?_, hz⟩, hr, k.out⟩
  have : n * by_ ≤ 1000000 * 1000 := Nat.mul_le_mul hn.1 hn.2
  have h2 : ((n * by_ : Nat) : Int) = (n : Int) * (by_ : Int) := by simp
  omega
theorem a_boxr {v : HV} {w j id : Nat} (hx : x.ev e = some v) (h1 : v.cells.length = w) (h2 : isTuple v = false) (hid : b + j = id) (hr : h[id]? = some .res) (k : HO S b r ((d, .ptr id 0) :: e) (h.set id (.cells v.cells)) Q) : HO S b (⟨some d, .op (.box (some j) w x), none⟩ :: r) e h Q := g_box_r hx h1 h2 hid hr rfl k
theorem flat_rep (n : Nat) (v : HV) : (List.replicate n [v]).flatten = List.replicate n v := by
  induction n with
  | zero => rfl
  | succ n ih => simp [List.replicate_succ, ih]
end

theorem perm_c {L M : Lay} (h : ∀ (c : Lay → Nat) (e : Nat × HObj → Nat), (∀ A B, c (A ++ B) = c A + c B) → (∀ q A, c (q :: A) = e q + c A) → c [] = 0 → (∀ A B, A.Perm B → c A = c B) → c L = c M) : L.Perm M := by
  classical
  rw [List.perm_iff_count]
  intro a
  exact h (fun A => A.count a) (fun q => if q == a then 1 else 0) (fun A B => List.count_append) (fun q A => by simp only [List.count_cons]; omega) rfl (fun A B p => p.count_eq a)
theorem Sep.upd {h : Heap} {L L' M : Lay} {i : Nat} {o o' : HObj} (s : Sep h L) (p : L.Perm ((i, o) :: M)) (p' : L'.Perm ((i, o') :: M)) : Sep (h.set i o') L' := (Sep.set (A := []) (s.perm p) o').perm p'.symm
def fupd {A : Type} (f : Nat → A) (i : Nat) (v : A) : Nat → A := fun x => if x = i then v else f x
theorem fupd_eq {A : Type} {f : Nat → A} {i : Nat} {v : A} : fupd f i v i = v := if_pos rfl
theorem fupd_ne {A : Type} {f : Nat → A} {i j : Nat} {v : A} (h : j ≠ i) : fupd f i v j = f j := if_neg h
theorem fupd_self {A : Type} (f : Nat → A) (i : Nat) : fupd f i (f i) = f := by
  funext x
  unfold fupd
  split
  · rename_i h; rw [h]
  · rfl
theorem fm_congr {A B : Type} {f g : A → List B} : ∀ {l : List A}, (∀ x ∈ l, f x = g x) → l.flatMap f = l.flatMap g
  | [], _ => rfl
  | a :: l, h => by rw [List.flatMap_cons, List.flatMap_cons, h a (by simp), fm_congr fun x hx => h x (by simp [hx])]
theorem fm_at {A : Type} (K : Nat) (f : Nat → List A) {i : Nat} (hi : i < K) : ∃ M, ((List.range K).flatMap f).Perm (f i ++ M) ∧ ∀ f' : Nat → List A, (∀ j, j ≠ i → f' j = f j) → ((List.range K).flatMap f').Perm (f' i ++ M) := by
  have hp : (List.range K).Perm (i :: (List.range K).erase i) := List.perm_cons_erase (List.mem_range.2 hi)
  refine ⟨((List.range K).erase i).flatMap f, ?_, fun f' hf => ?_⟩
  · have := hp.flatMap_right f
    rwa [List.flatMap_cons] at this
  · have := hp.flatMap_right f'
    rw [List.flatMap_cons] at this
    rw [fm_congr (f := f) (g := f') fun x hx => ?_]
    · exact this
    · exact (hf x ((List.nodup_range.mem_erase_iff).1 hx).1).symm
theorem fm_splitG {A B : Type} {f : A → List B} {l : List A} {i : Nat} {s : A} (h : l[i]? = some s) : l.flatMap f = (l.take i).flatMap f ++ (f s ++ (l.drop (i + 1)).flatMap f) := by
  have hlt := lt_of_get h
  have e : l = l.take i ++ s :: l.drop (i + 1) := by
    have := List.getElem_eq_iff hlt |>.2 h
    rw [← this]; simp
  conv => lhs; rw [e]
  rw [List.flatMap_append, List.flatMap_cons]
theorem fm_cut {A : Type} {K : Nat} (f : Nat → List A) {i : Nat} (hi : i < K) : (List.range K).flatMap f = (List.range i).flatMap f ++ (f i ++ ((List.range K).drop (i + 1)).flatMap f) := by
  have := fm_splitG (f := f) (List.getElem?_range hi)
  rwa [List.take_range, Nat.min_eq_left (by omega)] at this
theorem fm_len {A : Type} {K w : Nat} {f : Nat → List A} (hw : ∀ k, (f k).length = w) : ((List.range K).flatMap f).length = K * w := by
  induction K with
  | zero => simp
  | succ n ih => rw [List.range_succ, List.flatMap_append, List.length_append, ih]; simp [hw, Nat.add_mul]
theorem drop_range_ne {K i x : Nat} (h : x ∈ (List.range K).drop (i + 1)) : x ≠ i := by
  obtain ⟨j, hj, he⟩ := List.getElem_of_mem h
  rw [List.getElem_drop, List.getElem_range] at he
  omega
theorem fm_fupd {A : Type} {K : Nat} (f : Nat → List A) {i : Nat} (hi : i < K) (v : List A) : (List.range K).flatMap (fupd f i v) = (List.range i).flatMap f ++ (v ++ ((List.range K).drop (i + 1)).flatMap f) := by
  rw [fm_cut _ hi, fupd_eq, fm_congr (f := fupd f i v) (g := f) (l := List.range i) fun x hx => fupd_ne (by have := List.mem_range.1 hx; omega),
    fm_congr (f := fupd f i v) (g := f) (l := (List.range K).drop (i + 1)) fun x hx => fupd_ne (drop_range_ne hx)]
theorem fm_get {A : Type} {K w : Nat} {f : Nat → List A} (hw : ∀ k, (f k).length = w) {i j : Nat} (hi : i < K) (hj : j < w) : ((List.range K).flatMap f)[i * w + j]? = (f i)[j]? := by
  rw [fm_cut f hi, List.getElem?_append_right (by rw [fm_len hw]; omega), fm_len hw, show i * w + j - i * w = j by omega, List.getElem?_append_left (by rw [hw]; exact hj)]
theorem fm_put {K w : Nat} {f : Nat → List HV} (hw : ∀ k, (f k).length = w) {i j : Nat} {vs : List HV} (hi : i < K) (hj : j + vs.length ≤ w) : putAt ((List.range K).flatMap f) (i * w + j) vs = (List.range K).flatMap (fupd f i (putAt (f i) j vs)) := by
  rw [fm_fupd f hi, fm_cut f hi]
  have hl := fm_len (K := i) hw
  have hfi := hw i
  generalize (List.range i).flatMap f = A at hl
  generalize ((List.range K).drop (i + 1)).flatMap f = C
  generalize f i = B at hfi
  unfold putAt
  rw [List.take_append, List.take_of_length_le (l := A) (by omega), hl, show i * w + j - i * w = j by omega, List.drop_append, List.drop_of_length_le (l := A) (by omega), hl, show i * w + j + vs.length - i * w = j + vs.length by omega,
    List.take_append, List.drop_append, hfi, show j - w = 0 by omega, show j + vs.length - w = 0 by omega]
  simp [List.append_assoc]
theorem fm_drop {A : Type} {K w : Nat} {f : Nat → List A} (hw : ∀ k, (f k).length = w) {i : Nat} (hi : i < K) : ∃ r, ((List.range K).flatMap f).drop (i * w) = f i ++ r := by
  have hl := fm_len (K := i) hw
  rw [fm_cut f hi]
  refine ⟨((List.range K).drop (i + 1)).flatMap f, ?_⟩
  rw [List.drop_append, List.drop_of_length_le (by omega), hl, show i * w - i * w = 0 by omega, List.drop_zero, List.nil_append]
theorem rg_set {A : Type} {n i : Nat} (h : i < n) (f : Nat → A) (v : A) : ((List.range n).map f).set i v = (List.range n).map (fupd f i v) := by
  refine List.ext_getElem? fun q => ?_
  rw [List.getElem?_set, List.getElem?_map, List.getElem?_map, List.length_map, List.length_range]
  unfold fupd
  by_cases hq : i = q
  · subst hq
    rw [if_pos rfl, if_pos h, List.getElem?_range h]
    simp
  · rw [if_neg hq]
    rcases Nat.lt_or_ge q n with hn | hn
    · rw [List.getElem?_range hn]
      simp [Ne.symm hq]
    · rw [List.getElem?_eq_none (by simpa using hn)]
      rfl
section
variable {P : Program} {N m : Nat} {S D : CallP} {b : Nat} {r : List Op} {e e' : Env} {h h' : Heap} {Q : Env → Heap → Prop} {QQ : Ex → Env → Heap → Prop} {d : Nat} {x y z : X}
theorem a_iaddr_n {id n i sz : Nat} {ik : IntKind} (hx : x.ev e = some (.arr id 0 n sz)) (hy : y.ev e = some (.int ik (i : Int))) (hi : i < n) (k : HO S b r ((d, .ptr id (i * sz)) :: e) h Q) : HO S b (⟨some d, .op (.iaddr sz x y), none⟩ :: r) e h Q := by
  refine ⟨?_⟩
  simp only [hops, hcall, hstep, hx, hy, Int.toNat_natCast, Nat.zero_add]
  exact ⟨⟨by omega, by omega, trivial⟩, k.out⟩
theorem a_load_rg {F : Nat → HV} {K i id : Nat} {v : HV} (hx : x.ev e = some (.ptr id i)) (hc : h[id]? = some (.cells ((List.range K).map F))) (hi : i < K) (hv : F i = v) (k : HO S b r ((d, v) :: e) h Q) : HO S b (⟨some d, .op (.load none x), none⟩ :: r) e h Q := by
  refine g_load_p hx hc ?_ k
  simp only [atCells, List.head?_drop, List.getElem?_map, List.getElem?_range hi, Option.map_some, hv]
theorem a_load_fm {F : Nat → List HV} {K w i j id : Nat} {v : HV} (hx : x.ev e = some (.ptr id (i * w + j))) (hc : h[id]? = some (.cells ((List.range K).flatMap F))) (hw : ∀ k, (F k).length = w) (hi : i < K) (hj : j < w) (hv : (F i)[j]? = some v) (k : HO S b r ((d, v) :: e) h Q) : HO S b (⟨some d, .op (.load none x), none⟩ :: r) e h Q := by
  refine g_load_p hx hc ?_ k
  simp only [atCells, List.head?_drop, fm_get hw hi hj, hv]
theorem a_load_fmn {F : Nat → List HV} {K w i id : Nat} {vs : List HV} (hx : x.ev e = some (.ptr id (i * w))) (hc : h[id]? = some (.cells ((List.range K).flatMap F))) (hw : ∀ k, (F k).length = w) (hi : i < K) (hv : F i = vs) (k : HO S b r ((d, .agg vs) :: e) h Q) : HO S b (⟨some d, .op (.load (some w) x), none⟩ :: r) e h Q := by
  refine g_load_p hx hc ?_ k
  obtain ⟨rr, hr⟩ := fm_drop hw hi
  have := hw i
  simp only [atCells, hr, List.length_append]
  rw [if_pos (by omega), List.take_append_of_le_length (by omega), List.take_of_length_le (by omega), hv]
theorem a_store_rg {F : Nat → HV} {K i id : Nat} {v : HV} (hx : x.ev e = some (.ptr id i)) (hy : y.ev e = some v) (hc : h[id]? = some (.cells ((List.range K).map F))) (hf : v.cells = [v]) (ht : isTuple v = false) (hi : i < K) (k : HO S b r e (h.set id (.cells ((List.range K).map (fupd F i v)))) Q) : HO S b (⟨none, .op (.store 1 x y), none⟩ :: r) e h Q := by
  refine g_store_p hx hy hc ⟨by rw [hf]; rfl, by rw [List.length_map, List.length_range]; exact hi, ht⟩ ?_ k
  rw [hf, ← rg_set hi]
  simp only [putAt, List.append_assoc, List.length_cons, List.length_nil]
  congr 2
  rw [List.set_eq_take_append_cons_drop, if_pos (by simpa using hi)]
  rfl
theorem a_store_fm {F : Nat → List HV} {K w n i j id : Nat} {v : HV} (hx : x.ev e = some (.ptr id (i * w + j))) (hy : y.ev e = some v) (hc : h[id]? = some (.cells ((List.range K).flatMap F))) (hw : ∀ k, (F k).length = w) (hi : i < K) (hl : v.cells.length = n) (hj : j + n ≤ w) (ht : isTuple v = false)
    (k : HO S b r e (h.set id (.cells ((List.range K).flatMap (fupd F i (putAt (F i) j v.cells))))) Q) : HO S b (⟨none, .op (.store n x y), none⟩ :: r) e h Q := by
  refine g_store_p hx hy hc ⟨hl, ?_, ht⟩ ?_ k
  · rw [fm_len hw]
    have : (i + 1) * w ≤ K * w := Nat.mul_le_mul_right w hi
    rw [Nat.add_mul] at this
    omega
  · rw [fm_put hw hi (by omega)]
theorem a_eqp0 {neg : Bool} (hx : x.ev e = some .nilptr) (hy : y.ev e = some .nilptr) (k : HO S b r ((d, .bool (!neg)) :: e) h Q) : HO S b (⟨some d, .op (.eqv neg .ptr x y), none⟩ :: r) e h Q :=
  st_eqv hx hy (by simp) trivial fun t ht => by
    have ht : t = true := ht
    subst ht
    cases neg <;> exact k
theorem a_eqp1 {neg : Bool} {id off : Nat} (hx : x.ev e = some (.ptr id off)) (hy : y.ev e = some .nilptr) (k : HO S b r ((d, .bool neg) :: e) h Q) : HO S b (⟨some d, .op (.eqv neg .ptr x y), none⟩ :: r) e h Q :=
  st_eqv hx hy (by simp) trivial fun t ht => by
    have ht : t = false := ht
    subst ht
    cases neg <;> exact k
theorem a_lookok {A B : Type} [DecidableEq A] {fk : A → HV} {fv : B → HV} {kd : EqK} {g : GM A B} {id : Nat} {q : A} {z0 : B} {zv : HV} (hk : EncK fk kd) (hx : x.ev e = some (.map id)) (hy : y.ev e = some (fk q)) (hm : h[id]? = some (g.obj fk fv)) (hz : zv = fv z0) (k : HO S b r ((d, .tuple [fv ((g.get q).getD z0), .bool (g.get q).isSome]) :: e) h Q) : HO S b (⟨some d, .op (.lookup kd zv true x y), none⟩ :: r) e h Q :=
  g_lookup_ok (K := fun t c => t = (g.get q).getD z0 ∧ c = (g.get q).isSome) hk hx hy hm hz (fun _ _ h1 h2 => ⟨h1, h2⟩) (fun t c ht => by obtain ⟨rfl, rfl⟩ := ht; exact k)
theorem a_mapdel {A B : Type} [DecidableEq A] {fk : A → HV} {fv : B → HV} {kd : EqK} {g : GM A B} {id : Nat} {q : A} (hk : EncK fk kd) (hx : x.ev e = some (.map id)) (hy : y.ev e = some (fk q)) (hm : h[id]? = some (g.obj fk fv)) (k : HO S b r e (h.set id ((g.del q).obj fk fv)) Q) : HO S b (⟨none, .op (.mapdel kd x y), none⟩ :: r) e h Q :=
  g_mapdel (K := fun t => t = g.del q) hk hx hy hm (fun _ h => h) (fun t => h.set id (t.obj fk fv)) (fun _ => rfl) (fun t ht => by subst ht; exact k)
theorem a_callvm {acts : List FuncId} {f : FuncId} {xs : List X} {vs caps : List HV} (hf : x.ev e = some (.func f caps)) (hm : acts.contains f = true) (hx : evs e xs = some vs) (k : HCalls P f (vs.map HV.strip1 ++ caps) h fun v h' => HO (MCalls P acts) b r ((d, v) :: e) h' Q) : HO (MCalls P acts) b (⟨some d, .callv x xs, none⟩ :: r) e h Q := by
  refine ⟨?_⟩
  simp only [hops, hcall, hf, hx, MCalls, hm, if_true]
  exact k.mono fun v h' hk => hk.out
end
end Go.Hw

