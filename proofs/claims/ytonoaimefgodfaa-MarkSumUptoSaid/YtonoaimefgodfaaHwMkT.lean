import Derived.Test.YtonoaimefgodfaaHwMkR3
set_option linter.unusedVariables false
set_option linter.unusedSimpArgs false
namespace Go.Hw
open Go

section
variable {A B C : Type} [DecidableEq A]
def gmap (f : B → C) (g : GM A B) : GM A C := ⟨g.es.map fun p => (p.1, p.2.1, f p.2.2), g.c⟩
theorem gmap_idx (f : B → C) (g : GM A B) (k : A) : (gmap f g).idx k = g.idx k := by
  unfold GM.idx gmap
  simp only [List.findIdx?_map]
  rfl
theorem gmap_get (f : B → C) (g : GM A B) (k : A) : (gmap f g).get k = (g.get k).map f := by
  unfold GM.get gmap
  simp only [List.find?_map, Option.map_map]
  rfl
theorem gmap_put (f : B → C) (g : GM A B) (k : A) (v : B) : gmap f (g.put k v) = (gmap f g).put k (f v) := by
  unfold GM.put
  rw [gmap_idx]
  cases hi : g.idx k with
  | none => simp [gmap]
  | some j =>
    obtain ⟨p, hp, _⟩ := GM.idx_lt hi
    have : (gmap f g).es[j]? = some (p.1, p.2.1, f p.2.2) := by simp [gmap, hp]
    simp only [hp, this]
    simp [gmap, List.map_set]
theorem put_mem {g : GM A B} {k : A} {v : B} {q : Nat × A × B} (h : q ∈ (g.put k v).es) : q ∈ g.es ∨ q.2.2 = v := by
  unfold GM.put at h
  cases hi : g.idx k with
  | none =>
    rw [hi] at h
    rcases List.mem_append.1 h with h | h
    · exact .inl h
    · right; rw [List.mem_singleton.1 h]
  | some j =>
    obtain ⟨p, hp, _⟩ := GM.idx_lt hi
    rw [hi] at h
    simp only [hp] at h
    rcases List.mem_or_eq_of_mem_set h with h | h
    · exact .inl h
    · right; rw [h]
def GM.stamps (g : GM A B) : Prop := (g.es.map Prod.fst).Nodup
theorem put_stamps {g : GM A B} (hw : g.wf) (hs : g.stamps) (k : A) (v : B) : (g.put k v).stamps := by
  unfold GM.stamps GM.put at *
  cases hi : g.idx k with
  | none =>
    simp only [List.map_append, List.map_cons, List.map_nil]
    refine List.nodup_append.2 ⟨hs, by simp, ?_⟩
    intro a ha c hc
    simp at hc
    subst hc
    obtain ⟨p, hp, rfl⟩ := List.mem_map.1 ha
    have := hw.births p hp
    omega
  | some j =>
    obtain ⟨p, hp, _⟩ := GM.idx_lt hi
    simp only [hp, List.map_set]
    have : (g.es.map Prod.fst).set j p.1 = g.es.map Prod.fst := by
      refine List.ext_getElem? fun i => ?_
      rw [List.getElem?_set]
      split
      · rename_i h; subst h
        split
        · simp [hp]
        · rename_i h; rw [List.getElem?_eq_none (by omega)]
      · rfl
    rw [this]; exact hs
def mlay {I : Type} (g : GM A (RW I)) : Lay := g.es.flatMap fun q => q.2.2.lay
theorem mlay_at {I : Type} (g : GM A (RW I)) (k : A) : ∃ L1 L2, mlay g = L1 ++ (((g.get k).getD RW.nil).lay ++ L2) ∧ ∀ r' : RW I, mlay (g.put k r') = L1 ++ (r'.lay ++ L2) := by
  rw [GM.get_idx]
  unfold GM.put
  cases hi : g.idx k with
  | none =>
    refine ⟨mlay g, [], by simp [RW.nil, RW.lay], fun r' => ?_⟩
    simp [mlay]
  | some j =>
    obtain ⟨p, hp, _⟩ := GM.idx_lt hi
    refine ⟨(g.es.take j).flatMap fun q => q.2.2.lay, (g.es.drop (j + 1)).flatMap fun q => q.2.2.lay, ?_, fun r' => ?_⟩
    · simp only [hp, Option.map_some, Option.getD_some]
      exact fm_split hp
    · simp only [hp]
      exact fm_set (s := (p.1, k, r')) (lt_of_get hp)
end
section
variable {P : Program} {N m : Nat} {S D : CallP} {b : Nat} {r : List Op} {e e' : Env} {h h' : Heap} {Q : Env → Heap → Prop} {QQ : Ex → Env → Heap → Prop} {d : Nat} {x y z : X}
theorem a_lookup {A B : Type} [DecidableEq A] {fk : A → HV} {fv : B → HV} {kd : EqK} {g : GM A B} {id : Nat} {q : A} {z0 : B} {zv : HV} (hk : EncK fk kd) (hx : x.ev e = some (.map id)) (hy : y.ev e = some (fk q)) (hm : h[id]? = some (g.obj fk fv)) (hz : zv = fv z0) (k : HO S b r ((d, fv ((g.get q).getD z0)) :: e) h Q) : HO S b (⟨some d, .op (.lookup kd zv false x y), none⟩ :: r) e h Q :=
  g_lookup (K := fun t => t = (g.get q).getD z0) hk hx hy hm hz (fun _ h => h) (fun t ht => by subst ht; exact k)
theorem a_lookupE {A B : Type} [DecidableEq A] {fk : A → HV} {fv : B → HV} {kd : EqK} {g : GM A B} {id : Nat} {q : A} {z0 v : B} {zv : HV} (hk : EncK fk kd) (hx : x.ev e = some (.map id)) (hy : y.ev e = some (fk q)) (hm : h[id]? = some (g.obj fk fv)) (hz : zv = fv z0) (hv : (g.get q).getD z0 = v) (k : HO S b r ((d, fv v) :: e) h Q) : HO S b (⟨some d, .op (.lookup kd zv false x y), none⟩ :: r) e h Q :=
  a_lookup hk hx hy hm hz (by rw [hv]; exact k)
theorem a_mapset {A B : Type} [DecidableEq A] {fk : A → HV} {fv : B → HV} {kd : EqK} {g : GM A B} {id : Nat} {q : A} {v : B} (hk : EncK fk kd) (hx : x.ev e = some (.map id)) (hy : y.ev e = some (fk q)) (hz : z.ev e = some (fv v)) (ht : isTuple (fv v) = false) (hm : h[id]? = some (g.obj fk fv)) (k : HO S b r e (h.set id ((g.put q v).obj fk fv)) Q) : HO S b (⟨none, .op (.mapset kd x y z), none⟩ :: r) e h Q :=
  g_mapset (K := fun t => t = g.put q v) hk hx hy hz ht hm (fun _ h => h) (fun t => h.set id (t.obj fk fv)) (fun _ => rfl) (fun t ht => by subst ht; exact k)
end
end Go.Hw
namespace Go.Hw.VK
open Go Go.Proofs
structure Item where
  n : Int
  marker : Bool
  deriving DecidableEq
def eItem (a : Item) : HV := .agg [ii a.n, .bool a.marker]
theorem enc_item : Enc eItem 2 := ⟨fun a => (pvc (.int _ _) (pvc (.bool _) pvn)), fun _ => rfl, fun _ => rfl, fun _ => rfl⟩
abbrev Key := Int × Int
def eKey (k : Key) : HV := .agg [ii k.1, ii k.2]
theorem enck_key : EncK eKey (.agg [.i, .i]) := fun a c => by
  obtain ⟨a0, a1⟩ := a
  obtain ⟨c0, c1⟩ := c
  simp [keq, eqCells, Sc.eq, eKey, Bool.beq_eq_decide_eq]
abbrev sp_ (s : PS) : HV := .ptr s.id 0
structure PT where
  p : Nat
  c : Nat
  m : Nat
  coins : List Int
  g : GM Key (RW Item)
  sides : RW PS
abbrev PT.obj (T : PT) : HObj := .cells [.arr T.c 0 T.coins.length 1, .map T.m, T.sides.hv sp_]
abbrev coinO (l : List Int) : HObj := .cells (l.map ii)
def PT.lay (T : PT) : Lay := [(T.p, T.obj), (T.c, coinO T.coins), (T.m, T.g.obj eKey (RW.hv eItem))] ++ (mlay T.g ++ (T.sides.lay ++ T.sides.l.flatMap PS.lay))
structure PT.ok (T : PT) (B : Nat) : Prop where
  rows : ∀ q ∈ T.g.es, q.2.2.ok 2 ∧ q.2.2.l.length ≤ B
  wf : T.g.wf
  stamps : T.g.stamps
  sides : ∀ s ∈ T.sides.l, s.ok
  nc : T.coins.length ≤ 8
theorem PT.ok.row {T : PT} {B : Nat} (ok : T.ok B) (k : Key) : ((T.g.get k).getD RW.nil).ok 2 ∧ ((T.g.get k).getD RW.nil).l.length ≤ B := by
  cases hg : T.g.get k with
  | none => exact ⟨trivial, Nat.zero_le _⟩
  | some r =>
    obtain ⟨n, hn⟩ := GM.get_mem hg
    exact ok.rows _ hn
theorem PT.ok.put {T : PT} {B B' : Nat} (ok : T.ok B) (k : Key) {r : RW Item} (h1 : r.ok 2) (h2 : r.l.length ≤ B') (hB : B ≤ B') : ({ T with g := T.g.put k r } : PT).ok B' := by
  refine ⟨fun q hq => ?_, GM.put_wf ok.wf k r, put_stamps ok.wf ok.stamps k r, ok.sides, ok.nc⟩
  rcases put_mem hq with hq | hq
  · exact ⟨(ok.rows q hq).1, Nat.le_trans (ok.rows q hq).2 hB⟩
  · rw [hq]; exact ⟨h1, h2⟩
theorem PT.ok.le {T : PT} {B B' : Nat} (ok : T.ok B) (hB : B ≤ B') : T.ok B' := ⟨fun q hq => ⟨(ok.rows q hq).1, Nat.le_trans (ok.rows q hq).2 hB⟩, ok.wf, ok.stamps, ok.sides, ok.nc⟩

structure Tw where
  coins : List Int
  ways : GM Key (List Item)
  sides : List Sd
def PT.abs (T : PT) : Tw := ⟨T.coins, gmap RW.l T.g, T.sides.l.map PS.abs⟩
def wadd (g : GM Key (List Item)) (k : Key) (x : Item) : GM Key (List Item) := g.put k ((g.get k).getD [] ++ [x])
def sayStep (i : Int) (g : GM Key (List Item)) (k : Nat) : GM Key (List Item) := if (k : Int) = i then g else wadd g (i, k) ⟨0, true⟩
def sayF (n : Nat) (i : Int) (g : GM Key (List Item)) : GM Key (List Item) := (List.range n).foldl (sayStep i) g
theorem sayF_succ (n : Nat) (i : Int) (g : GM Key (List Item)) : sayF (n + 1) i g = sayStep i (sayF n i g) n := by
  unfold sayF
  rw [List.range_succ, List.foldl_append]
  rfl
theorem wadd_abs {g : GM Key (RW Item)} {k : Key} {x : Item} {r' : RW Item} (h : r'.l = ((g.get k).getD RW.nil).l ++ [x]) : gmap RW.l (g.put k r') = wadd (gmap RW.l g) k x := by
  rw [gmap_put, h]
  unfold wadd
  rw [gmap_get]
  cases g.get k <;> rfl
theorem PT.lay_at (T : PT) (k : Key) (R : Lay) : ∃ L1 L2, T.lay ++ R = ([(T.p, T.obj), (T.c, coinO T.coins), (T.m, T.g.obj eKey (RW.hv eItem))] ++ L1) ++ (((T.g.get k).getD RW.nil).lay ++ L2) ∧
    ∀ (h : Heap) (r' : RW Item), Sep h (([(T.p, T.obj), (T.c, coinO T.coins), (T.m, T.g.obj eKey (RW.hv eItem))] ++ L1) ++ (r'.lay ++ L2)) → Sep (h.set T.m ((T.g.put k r').obj eKey (RW.hv eItem))) (({ T with g := T.g.put k r' } : PT).lay ++ R) := by
  obtain ⟨L1, L2, h1, h2⟩ := mlay_at T.g k
  refine ⟨L1, L2 ++ (T.sides.lay ++ (T.sides.l.flatMap PS.lay ++ R)), by unfold PT.lay; rw [h1]; simp [List.append_assoc], fun h r' hs => ?_⟩
  have := Sep.set (A := [(T.p, T.obj), (T.c, coinO T.coins)]) (B := L1 ++ (r'.lay ++ (L2 ++ (T.sides.lay ++ (T.sides.l.flatMap PS.lay ++ R))))) (i := T.m) (o := T.g.obj eKey (RW.hv eItem)) (by simpa using hs) ((T.g.put k r').obj eKey (RW.hv eItem))
  unfold PT.lay
  rw [h2]
  simpa [List.append_assoc] using this
theorem r76 {h : Heap} {R : Lay} {T : PT} {B : Nat} (ok : T.ok B) (hB : B ≤ 100000) {i : Int} (hs : Sep h (T.lay ++ R)) {Q : HV → Heap → Prop}
    (kk : ∀ h' g', ({ T with g := g' } : PT).ok (B + 8) → gmap RW.l g' = sayF T.coins.length i (gmap RW.l T.g) → Sep h' (({ T with g := g' } : PT).lay ++ R) → Q (.tuple []) h') : HCalls Try.prog 76 [.ptr T.p 0, ii i] h Q := by
  refine sc_func2 (rs := []) Try.func76 rfl (by decide) (by kernel_rfl) (lb rfl) hk76 ?_
  have h1 : h[T.p]? = some T.obj := hs.get (by simp [PT.lay])
  show SC Try.prog Try.f76.ntmps _ hc76 _ [(0, .ptr T.p 0), (1, ii i)] h
  unfold hc76
  refine q_reg ?_
  repeat (first | refine a_op (fun _ => rfl) ?_ | refine a_load rfl (by assumption) rfl ?_ | refine a_load_at rfl (by assumption) (by assumption) ?_ | refine a_iaddr_at rfl rfl (by assumption) ?_ | refine a_iaddr_l rfl rfl (by assumption) rfl ?_ | refine st_load_r rfl rfl ?_ | refine a_cmp rfl rfl rfl ?_ | refine a_eqi rfl rfl ?_ | refine st_not rfl ?_ | refine st_pick_t rfl rfl rfl ?_ | refine st_pick_f rfl rfl rfl ?_ | refine st_g rfl ?_ | refine a_gtf rfl ?_ | refine a_gft rfl ?_ | refine a_gu rfl ?_ | refine a_mklist (ec rfl en) (mz mkn) ?_ | refine a_mid ?_)
  first | refine a_endq (by repeat (first | exact pr_nil | (apply pr_cons; rfl))) ?_ | refine a_end (by repeat (first | exact pr_nil | (apply pr_cons; rfl))) ?_
  refine sc_block (sc_loop (X := { x : Nat × GM Key (RW Item) × Heap // x.1 ≤ T.coins.length ∧ ({ T with g := x.2.1 } : PT).ok (B + x.1) ∧ gmap RW.l x.2.1 = sayF x.1 i (gmap RW.l T.g) ∧ Sep x.2.2 (({ T with g := x.2.1 } : PT).lay ++ R) })
    (fun x => ([(0, .ptr T.p 0), (1, ii i), (9, ii T.coins.length), (10, ii x.1.1)], x.1.2.2)) (fun x => T.coins.length - x.1.1)
    ⟨(0, T.g, h), Nat.zero_le _, ok, rfl, hs⟩ (WeakF.refl _ _) ?_)
  rintro ⟨⟨k, g, h'⟩, hk, hok, hl, hs'⟩
  simp only at hk hok hl hs'
  have hnc := ok.nc
  refine q_reg ?_
  repeat (first | refine a_op (fun _ => rfl) ?_ | refine a_load rfl (by assumption) rfl ?_ | refine a_load_at rfl (by assumption) (by assumption) ?_ | refine a_iaddr_at rfl rfl (by assumption) ?_ | refine a_iaddr_l rfl rfl (by assumption) rfl ?_ | refine st_load_r rfl rfl ?_ | refine a_cmp rfl rfl rfl ?_ | refine a_eqi rfl rfl ?_ | refine st_not rfl ?_ | refine st_pick_t rfl rfl rfl ?_ | refine st_pick_f rfl rfl rfl ?_ | refine st_g rfl ?_ | refine a_gtf rfl ?_ | refine a_gft rfl ?_ | refine a_gu rfl ?_ | refine a_mklist (ec rfl en) (mz mkn) ?_ | refine a_mid ?_)
  first | refine a_endq (by repeat (first | exact pr_nil | (apply pr_cons; rfl))) ?_ | refine a_end (by repeat (first | exact pr_nil | (apply pr_cons; rfl))) ?_
  refine sc_seq (sc_cond rfl (fun hc => ?_) (fun hc => ?_))
  · have hc : k < T.coins.length := by have := of_decide_eq_true hc; dsimp only at this; omega
    refine sc_skip (sq_n (sc_seq (sc_block (q_reg ?_))))
    repeat (first | refine a_op (fun _ => rfl) ?_ | refine a_load rfl (by assumption) rfl ?_ | refine a_load_at rfl (by assumption) (by assumption) ?_ | refine a_iaddr_at rfl rfl (by assumption) ?_ | refine a_iaddr_l rfl rfl (by assumption) rfl ?_ | refine st_load_r rfl rfl ?_ | refine a_cmp rfl rfl rfl ?_ | refine a_eqi rfl rfl ?_ | refine st_not rfl ?_ | refine st_pick_t rfl rfl rfl ?_ | refine st_pick_f rfl rfl rfl ?_ | refine st_g rfl ?_ | refine a_gtf rfl ?_ | refine a_gft rfl ?_ | refine a_gu rfl ?_ | refine a_mklist (ec rfl en) (mz mkn) ?_ | refine a_mid ?_)
    first | refine a_endq (by repeat (first | exact pr_nil | (apply pr_cons; rfl))) ?_ | refine a_end (by repeat (first | exact pr_nil | (apply pr_cons; rfl))) ?_
    refine q_reg ?_
    repeat (first | refine a_op (fun _ => rfl) ?_ | refine a_load rfl (by assumption) rfl ?_ | refine a_load_at rfl (by assumption) (by assumption) ?_ | refine a_iaddr_at rfl rfl (by assumption) ?_ | refine a_iaddr_l rfl rfl (by assumption) rfl ?_ | refine st_load_r rfl rfl ?_ | refine a_cmp rfl rfl rfl ?_ | refine a_eqi rfl rfl ?_ | refine st_not rfl ?_ | refine st_pick_t rfl rfl rfl ?_ | refine st_pick_f rfl rfl rfl ?_ | refine st_g rfl ?_ | refine a_gtf rfl ?_ | refine a_gft rfl ?_ | refine a_gu rfl ?_ | refine a_mklist (ec rfl en) (mz mkn) ?_ | refine a_mid ?_)
    first | refine a_endq (by repeat (first | exact pr_nil | (apply pr_cons; rfl))) ?_ | refine a_end (by repeat (first | exact pr_nil | (apply pr_cons; rfl))) ?_
    have e1 : (if true = true then !((k : Int) == i) else (k : Int) == i) = !decide ((k : Int) = i) := by rw [if_pos rfl]; rfl
    simp only [e1]
    refine sc_cond (t := !decide ((k : Int) = i)) rfl (fun hne => ?_) (fun hne => ?_)
    · have hne : ¬ (k : Int) = i := by simpa using hne
      refine a_dregl0 Try.mixed ?_
      have g1 : h'[T.p]? = some (PT.obj { T with g := g }) := hs'.get (by simp [PT.lay])
      have gm : h'[T.m]? = some (g.obj eKey (RW.hv eItem)) := hs'.get (by simp [PT.lay])
      repeat (first | refine a_op (fun _ => rfl) ?_ | refine a_load rfl (by assumption) rfl ?_ | refine a_load_at rfl (by assumption) (by assumption) ?_ | refine a_iaddr_at rfl rfl (by assumption) ?_ | refine a_iaddr_l rfl rfl (by assumption) rfl ?_ | refine st_load_r rfl rfl ?_ | refine a_cmp rfl rfl rfl ?_ | refine a_eqi rfl rfl ?_ | refine st_not rfl ?_ | refine st_pick_t rfl rfl rfl ?_ | refine st_pick_f rfl rfl rfl ?_ | refine st_g rfl ?_ | refine a_gtf rfl ?_ | refine a_gft rfl ?_ | refine a_gu rfl ?_ | refine a_mklist (ec rfl en) (mz mkn) ?_ | refine a_mid ?_)
      refine a_lookup (fk := eKey) (fv := RW.hv eItem) (z0 := RW.nil) (q := (i, (k : Int))) (g := g) enck_key rfl rfl gm rfl ?_
      repeat (first | refine a_op (fun _ => rfl) ?_ | refine a_load rfl (by assumption) rfl ?_ | refine a_load_at rfl (by assumption) (by assumption) ?_ | refine a_iaddr_at rfl rfl (by assumption) ?_ | refine a_iaddr_l rfl rfl (by assumption) rfl ?_ | refine st_load_r rfl rfl ?_ | refine a_cmp rfl rfl rfl ?_ | refine a_eqi rfl rfl ?_ | refine st_not rfl ?_ | refine st_pick_t rfl rfl rfl ?_ | refine st_pick_f rfl rfl rfl ?_ | refine st_g rfl ?_ | refine a_gtf rfl ?_ | refine a_gft rfl ?_ | refine a_gu rfl ?_ | refine a_mklist (ec rfl en) (mz mkn) ?_ | refine a_mid ?_)
      obtain ⟨L1, L2, e2, back⟩ := PT.lay_at { T with g := g } (i, (k : Int)) R
      rw [e2] at hs'
      obtain ⟨hro, hrl⟩ := hok.row (i, (k : Int))
      replace hrl : ((g.get (i, (k : Int))).getD RW.nil).l.length ≤ B + k := hrl
      refine a_app (f := eItem) (rw_ := (g.get (i, (k : Int))).getD RW.nil) (ys := [⟨0, true⟩]) enc_item.w rfl rfl hro hs' (by simp; omega) (fun r' h2 hl' hr' hs2 => ?_)
      have gm2 : h2[T.m]? = some (g.obj eKey (RW.hv eItem)) := hs2.get (by simp)
      refine a_mapset (fk := eKey) (fv := RW.hv eItem) (q := (i, (k : Int))) (g := g) (v := r') enck_key rfl rfl rfl rfl gm2 ?_
      repeat (first | refine a_op (fun _ => rfl) ?_ | refine a_load rfl (by assumption) rfl ?_ | refine a_load_at rfl (by assumption) (by assumption) ?_ | refine a_iaddr_at rfl rfl (by assumption) ?_ | refine a_iaddr_l rfl rfl (by assumption) rfl ?_ | refine st_load_r rfl rfl ?_ | refine a_cmp rfl rfl rfl ?_ | refine a_eqi rfl rfl ?_ | refine st_not rfl ?_ | refine st_pick_t rfl rfl rfl ?_ | refine st_pick_f rfl rfl rfl ?_ | refine st_g rfl ?_ | refine a_gtf rfl ?_ | refine a_gft rfl ?_ | refine a_gu rfl ?_ | refine a_mklist (ec rfl en) (mz mkn) ?_ | refine a_mid ?_)
      first | refine a_endq (by repeat (first | exact pr_nil | (apply pr_cons; rfl))) ?_ | refine a_end (by repeat (first | exact pr_nil | (apply pr_cons; rfl))) ?_
      refine s_reg ?_
      repeat (first | refine a_op (fun _ => rfl) ?_ | refine a_load rfl (by assumption) rfl ?_ | refine a_load_at rfl (by assumption) (by assumption) ?_ | refine a_iaddr_at rfl rfl (by assumption) ?_ | refine a_iaddr_l rfl rfl (by assumption) rfl ?_ | refine st_load_r rfl rfl ?_ | refine a_cmp rfl rfl rfl ?_ | refine a_eqi rfl rfl ?_ | refine st_not rfl ?_ | refine st_pick_t rfl rfl rfl ?_ | refine st_pick_f rfl rfl rfl ?_ | refine st_g rfl ?_ | refine a_gtf rfl ?_ | refine a_gft rfl ?_ | refine a_gu rfl ?_ | refine a_mklist (ec rfl en) (mz mkn) ?_ | refine a_mid ?_)
      refine a_add rfl rfl (by first | omega | (dsimp only; omega)) ?_
      repeat (first | refine a_op (fun _ => rfl) ?_ | refine a_load rfl (by assumption) rfl ?_ | refine a_load_at rfl (by assumption) (by assumption) ?_ | refine a_iaddr_at rfl rfl (by assumption) ?_ | refine a_iaddr_l rfl rfl (by assumption) rfl ?_ | refine st_load_r rfl rfl ?_ | refine a_cmp rfl rfl rfl ?_ | refine a_eqi rfl rfl ?_ | refine st_not rfl ?_ | refine st_pick_t rfl rfl rfl ?_ | refine st_pick_f rfl rfl rfl ?_ | refine st_g rfl ?_ | refine a_gtf rfl ?_ | refine a_gft rfl ?_ | refine a_gu rfl ?_ | refine a_mklist (ec rfl en) (mz mkn) ?_ | refine a_mid ?_)
      first | refine a_endq (by repeat (first | exact pr_nil | (apply pr_cons; rfl))) ?_ | refine a_end (by repeat (first | exact pr_nil | (apply pr_cons; rfl))) ?_
      refine lo_n ⟨(k + 1, g.put (i, (k : Int)) r', _), hc, ?_, ?_, back h2 r' hs2⟩ (by show T.coins.length - (k + 1) < T.coins.length - k; omega) (WeakF.refl _ _)
      · refine PT.ok.put (T := { T with g := g }) hok (i, (k : Int)) hr' ?_ (by omega)
        rw [hl', List.length_append, List.length_singleton]
        omega
      · show gmap RW.l (g.put _ r') = sayF (k + 1) i _
        rw [sayF_succ, wadd_abs hl', ← hl]
        unfold sayStep
        rw [if_neg hne]
    · have hne : (k : Int) = i := by simpa using hne
      refine sc_skip ?_
      refine bl_n (sq_n (s_reg ?_))
      repeat (first | refine a_op (fun _ => rfl) ?_ | refine a_load rfl (by assumption) rfl ?_ | refine a_load_at rfl (by assumption) (by assumption) ?_ | refine a_iaddr_at rfl rfl (by assumption) ?_ | refine a_iaddr_l rfl rfl (by assumption) rfl ?_ | refine st_load_r rfl rfl ?_ | refine a_cmp rfl rfl rfl ?_ | refine a_eqi rfl rfl ?_ | refine st_not rfl ?_ | refine st_pick_t rfl rfl rfl ?_ | refine st_pick_f rfl rfl rfl ?_ | refine st_g rfl ?_ | refine a_gtf rfl ?_ | refine a_gft rfl ?_ | refine a_gu rfl ?_ | refine a_mklist (ec rfl en) (mz mkn) ?_ | refine a_mid ?_)
      refine a_add rfl rfl (by first | omega | (dsimp only; omega)) ?_
      repeat (first | refine a_op (fun _ => rfl) ?_ | refine a_load rfl (by assumption) rfl ?_ | refine a_load_at rfl (by assumption) (by assumption) ?_ | refine a_iaddr_at rfl rfl (by assumption) ?_ | refine a_iaddr_l rfl rfl (by assumption) rfl ?_ | refine st_load_r rfl rfl ?_ | refine a_cmp rfl rfl rfl ?_ | refine a_eqi rfl rfl ?_ | refine st_not rfl ?_ | refine st_pick_t rfl rfl rfl ?_ | refine st_pick_f rfl rfl rfl ?_ | refine st_g rfl ?_ | refine a_gtf rfl ?_ | refine a_gft rfl ?_ | refine a_gu rfl ?_ | refine a_mklist (ec rfl en) (mz mkn) ?_ | refine a_mid ?_)
      first | refine a_endq (by repeat (first | exact pr_nil | (apply pr_cons; rfl))) ?_ | refine a_end (by repeat (first | exact pr_nil | (apply pr_cons; rfl))) ?_
      refine lo_n ⟨(k + 1, g, h'), hc, hok.le (by omega), ?_, hs'⟩ (by show T.coins.length - (k + 1) < T.coins.length - k; omega) (WeakF.refl _ _)
      show gmap RW.l g = sayF (k + 1) i _
      rw [sayF_succ, ← hl]
      unfold sayStep
      rw [if_pos hne]
  · have hc : ¬ k < T.coins.length := by have := of_decide_eq_false hc; dsimp only at this; omega
    have hkn : k = T.coins.length := by omega
    subst hkn
    refine sc_exit (sq_x (lo_x (bl_x (x_ret _ rfl (kk h' g (hok.le (by omega)) hl hs')))))
end Go.Hw.VK

