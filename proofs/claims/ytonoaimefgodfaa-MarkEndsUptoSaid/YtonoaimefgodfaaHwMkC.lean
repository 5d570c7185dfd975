import Derived.Test.YtonoaimefgodfaaHwMkT
set_option linter.unusedVariables false
set_option linter.unusedSimpArgs false
namespace Go.Hw.VK
open Go Go.Proofs

def markF (s : Sd) (from_ st : Int) : Sd × Bool × Int :=
  if idxI s.peers from_ < 0 then (s, false, 4) else if s.over.getD (idxI s.peers from_).toNat false then (s, false, 5)
  else ({ s with begun := true, state := if s.begun then s.state else st, over := s.over.set (idxI s.peers from_).toNat true }, !s.begun, 0)
theorem markP_abs (s : PS) (f st : Int) : (markP s f st).1.abs = (markF s.abs f st).1 ∧ (markP s f st).2 = (markF s.abs f st).2 := by
  unfold markP markF
  simp only [show s.abs.peers = s.peers from rfl, show s.abs.over = s.over from rfl, show s.abs.begun = s.begun from rfl, show s.abs.state = s.state from rfl]
  split
  · exact ⟨rfl, rfl⟩
  · split
    · exact ⟨rfl, rfl⟩
    · exact ⟨rfl, rfl⟩
theorem markP_ok {s : PS} (ok : s.ok) (f st : Int) : (markP s f st).1.ok ∧ (markP s f st).1.id = s.id := by
  unfold markP
  split
  · exact ⟨ok, rfl⟩
  · split
    · exact ⟨ok, rfl⟩
    · exact ⟨⟨ok.rows, ok.nw, by simpa using ok.no, ok.np, ok.lens⟩, rfl⟩
def sd0 : Sd := ⟨[], false, 0, [], []⟩
def comeX (t : Tw) (a b : Nat) (x : Item) : Tw :=
  if x.marker then
    { t with sides := t.sides.set b (markF (t.sides.getD b sd0) a (t.coins.getD b 0)).1, ways := if (markF (t.sides.getD b sd0) a (t.coins.getD b 0)).2.1 then sayF t.coins.length b t.ways else t.ways }
  else { t with sides := t.sides.set b (msgF (t.sides.getD b sd0) a x.n).1, coins := t.coins.set b (t.coins.getD b 0 + x.n) }
def comeF (t : Tw) (a b : Nat) : Tw :=
  match (t.ways.get ((a : Int), (b : Int))).getD [] with
  | [] => t
  | x :: r => comeX { t with ways := t.ways.put ((a : Int), (b : Int)) r } a b x
theorem PT.side_at (T : PT) {b : Nat} {s : PS} (hb : T.sides.l[b]? = some s) (R : Lay) : ∃ R', (T.lay ++ R).Perm (s.lay ++ R') ∧ (∀ q ∈ [(T.p, T.obj), (T.c, coinO T.coins), (T.m, T.g.obj eKey (RW.hv eItem))], q ∈ R') ∧
    ∀ s' : PS, s'.id = s.id → (s'.lay ++ R').Perm (({ T with sides := ⟨T.sides.l.set b s', T.sides.tok⟩ } : PT).lay ++ R) := by
  have hlt := lt_of_get hb
  refine ⟨([(T.p, T.obj), (T.c, coinO T.coins), (T.m, T.g.obj eKey (RW.hv eItem))] ++ (mlay T.g ++ (T.sides.lay ++ (T.sides.l.take b).flatMap PS.lay))) ++ ((T.sides.l.drop (b + 1)).flatMap PS.lay ++ R), ?_, fun q hq => ?_, fun s' hid => ?_⟩
  · unfold PT.lay
    rw [fm_split hb]
    simp only [List.append_assoc]
    have : ∀ A B C D E F G : Lay, (A ++ (B ++ (C ++ (D ++ (E ++ (F ++ G)))))).Perm (E ++ (A ++ (B ++ (C ++ (D ++ (F ++ G)))))) := by
      intro A B C D E F G
      have := List.perm_append_comm_assoc (A ++ B ++ C ++ D) E (F ++ G)
      simpa [List.append_assoc] using this
    exact this ..
  · exact List.mem_append_left _ (List.mem_append_left _ hq)
  · have e1 : (T.sides.l.set b s').map sp_ = T.sides.l.map sp_ := by
      rw [List.map_set]
      refine List.ext_getElem? fun i => ?_
      rw [List.getElem?_set]
      split
      · rename_i h; subst h
        rw [if_pos (by simpa using hlt), List.getElem?_map, hb]
        simp [sp_, hid]
      · rfl
    have e2 : (⟨T.sides.l.set b s', T.sides.tok⟩ : RW PS).hv sp_ = T.sides.hv sp_ := by simp only [RW.hv, e1]
    have e3 : (⟨T.sides.l.set b s', T.sides.tok⟩ : RW PS).lay = T.sides.lay := by simp only [RW.lay, List.length_set]
    unfold PT.lay
    simp only [PT.obj, e2, e3]
    rw [fm_set hlt]
    simp only [List.append_assoc]
    have : ∀ A B C D E F G : Lay, (E ++ (A ++ (B ++ (C ++ (D ++ (F ++ G)))))).Perm (A ++ (B ++ (C ++ (D ++ (E ++ (F ++ G)))))) := by
      intro A B C D E F G
      have := List.perm_append_comm_assoc E (A ++ B ++ C ++ D) (F ++ G)
      simpa [List.append_assoc] using this
    exact this ..
theorem PT.ok.side {T : PT} {B : Nat} (ok : T.ok B) {b : Nat} {s' : PS} (h : s'.ok) : ({ T with sides := ⟨T.sides.l.set b s', T.sides.tok⟩ } : PT).ok B :=
  ⟨ok.rows, ok.wf, ok.stamps, fun s hs => (List.mem_or_eq_of_mem_set hs).elim (ok.sides s) (fun e => e ▸ h), ok.nc⟩
theorem r75 {h : Heap} {R : Lay} {T : PT} {B : Nat} (ok : T.ok B) (hB : B ≤ 90000) (hn : T.sides.l.length = T.coins.length) {a b : Nat} (ha : a < T.coins.length) (hb : b < T.coins.length) {kd nn : Int}
    (hco : ∀ c ∈ T.coins, -1000000000 ≤ c ∧ c ≤ 1000000000) (hit : ∀ q ∈ T.g.es, ∀ x ∈ q.2.2.l, -1000000000 ≤ x.n ∧ x.n ≤ 1000000000) (hs : Sep h (T.lay ++ R)) {Q : HV → Heap → Prop}
    (kk : ∀ (h' : Heap) (T' : PT), T'.p = T.p → T'.ok (B + 8) → T'.abs = comeF T.abs a b → Sep h' (T'.lay ++ R) → Q (.tuple []) h') : HCalls Try.prog 75 [.ptr T.p 0, .agg [ii kd, ii (a : Int), ii (b : Int), ii nn]] h Q := by
  refine sc_func2 (rs := []) Try.func75 rfl (by decide) (by kernel_rfl) (lb rfl) hk75 ?_
  show SC Try.prog Try.f75.ntmps _ hc75 _ [(0, .ptr T.p 0), (1, .agg [ii kd, ii (a : Int), ii (b : Int), ii nn])] h
  unfold hc75
  refine q_reg (a_box rfl rfl rfl ?_)
  repeat (first | refine a_op (fun _ => rfl) ?_ | refine a_load rfl (by assumption) rfl ?_ | refine a_load_at rfl (by assumption) (by assumption) ?_ | refine a_iaddr_at rfl rfl (by assumption) ?_ | refine a_iaddr_l rfl rfl (by assumption) rfl ?_ | refine st_load_r rfl rfl ?_ | refine a_cmp rfl rfl rfl ?_ | refine a_eqi rfl rfl ?_ | refine st_not rfl ?_ | refine st_pick_t rfl rfl rfl ?_ | refine st_pick_f rfl rfl rfl ?_ | refine st_g rfl ?_ | refine a_gtf rfl ?_ | refine a_gft rfl ?_ | refine a_gu rfl ?_ | refine a_mklist (ec rfl en) (mz mkn) ?_ | refine a_mid ?_)
  first | refine a_endq (by repeat (first | exact pr_nil | (apply pr_cons; rfl))) ?_ | refine a_end (by repeat (first | exact pr_nil | (apply pr_cons; rfl))) ?_
  have s1 := hs.new (.cells [ii kd, ii (a : Int), ii (b : Int), ii nn])
  change SC _ _ _ _ _ [(0, HV.ptr T.p 0), (3, .ptr h.length 0)] (h ++ [HObj.cells [ii kd, ii (a : Int), ii (b : Int), ii nn]])
  generalize h.length = d at s1 ⊢
  generalize h ++ [HObj.cells [ii kd, ii (a : Int), ii (b : Int), ii nn]] = h1 at s1 ⊢
  clear hs h
  have gd : h1[d]? = some (.cells [ii kd, ii (a : Int), ii (b : Int), ii nn]) := s1.get (by simp)
  refine q_reg ?_
  repeat (first | refine a_op (fun _ => rfl) ?_ | refine a_load rfl (by assumption) rfl ?_ | refine a_load_at rfl (by assumption) (by assumption) ?_ | refine a_iaddr_at rfl rfl (by assumption) ?_ | refine a_iaddr_l rfl rfl (by assumption) rfl ?_ | refine st_load_r rfl rfl ?_ | refine a_cmp rfl rfl rfl ?_ | refine a_eqi rfl rfl ?_ | refine st_not rfl ?_ | refine st_pick_t rfl rfl rfl ?_ | refine st_pick_f rfl rfl rfl ?_ | refine st_g rfl ?_ | refine a_gtf rfl ?_ | refine a_gft rfl ?_ | refine a_gu rfl ?_ | refine a_mklist (ec rfl en) (mz mkn) ?_ | refine a_mid ?_)
  refine a_alloc ?_
  refine a_store rfl rfl (List.getElem?_concat_length) ⟨rfl, lb rfl, rfl⟩ ?_
  repeat (first | refine a_op (fun _ => rfl) ?_ | refine a_load rfl (by assumption) rfl ?_ | refine a_load_at rfl (by assumption) (by assumption) ?_ | refine a_iaddr_at rfl rfl (by assumption) ?_ | refine a_iaddr_l rfl rfl (by assumption) rfl ?_ | refine st_load_r rfl rfl ?_ | refine a_cmp rfl rfl rfl ?_ | refine a_eqi rfl rfl ?_ | refine st_not rfl ?_ | refine st_pick_t rfl rfl rfl ?_ | refine st_pick_f rfl rfl rfl ?_ | refine st_g rfl ?_ | refine a_gtf rfl ?_ | refine a_gft rfl ?_ | refine a_gu rfl ?_ | refine a_mklist (ec rfl en) (mz mkn) ?_ | refine a_mid ?_)
  first | refine a_endq (by repeat (first | exact pr_nil | (apply pr_cons; rfl))) ?_ | refine a_end (by repeat (first | exact pr_nil | (apply pr_cons; rfl))) ?_
  have s2 := Sep.set (A := []) (s1.new (.cells [ii 0, ii 0])) (.cells [ii (a : Int), ii (b : Int)])
  change SC _ _ _ _ _ [(0, HV.ptr T.p 0), (3, .ptr d 0), (4, .ptr h1.length 0)] ((h1 ++ [HObj.cells [ii 0, ii 0]]).set h1.length (.cells [ii (a : Int), ii (b : Int)]))
  generalize h1.length = w at s2 ⊢
  generalize (h1 ++ [HObj.cells [ii 0, ii 0]]).set w (.cells [ii (a : Int), ii (b : Int)]) = h2 at s2 ⊢
  clear s1 gd h1
  simp only [List.nil_append] at s2
  have gd : h2[d]? = some (.cells [ii kd, ii (a : Int), ii (b : Int), ii nn]) := s2.get (by simp)
  have gw : h2[w]? = some (.cells [ii (a : Int), ii (b : Int)]) := s2.get (by simp)
  have gp : h2[T.p]? = some T.obj := s2.get (by simp [PT.lay])
  have gm : h2[T.m]? = some (T.g.obj eKey (RW.hv eItem)) := s2.get (by simp [PT.lay])
  refine sc_seq (a_dreg0 Try.mixed ?_)
  repeat (first | refine a_op (fun _ => rfl) ?_ | refine a_load rfl (by assumption) rfl ?_ | refine a_load_at rfl (by assumption) (by assumption) ?_ | refine a_iaddr_at rfl rfl (by assumption) ?_ | refine a_iaddr_l rfl rfl (by assumption) rfl ?_ | refine st_load_r rfl rfl ?_ | refine a_cmp rfl rfl rfl ?_ | refine a_eqi rfl rfl ?_ | refine st_not rfl ?_ | refine st_pick_t rfl rfl rfl ?_ | refine st_pick_f rfl rfl rfl ?_ | refine st_g rfl ?_ | refine a_gtf rfl ?_ | refine a_gft rfl ?_ | refine a_gu rfl ?_ | refine a_mklist (ec rfl en) (mz mkn) ?_ | refine a_mid ?_)
  refine a_lookup (fk := eKey) (fv := RW.hv eItem) (z0 := RW.nil) (q := ((a : Int), (b : Int))) (g := T.g) enck_key rfl rfl gm rfl ?_
  repeat (first | refine a_op (fun _ => rfl) ?_ | refine a_load rfl (by assumption) rfl ?_ | refine a_load_at rfl (by assumption) (by assumption) ?_ | refine a_iaddr_at rfl rfl (by assumption) ?_ | refine a_iaddr_l rfl rfl (by assumption) rfl ?_ | refine st_load_r rfl rfl ?_ | refine a_cmp rfl rfl rfl ?_ | refine a_eqi rfl rfl ?_ | refine st_not rfl ?_ | refine st_pick_t rfl rfl rfl ?_ | refine st_pick_f rfl rfl rfl ?_ | refine st_g rfl ?_ | refine a_gtf rfl ?_ | refine a_gft rfl ?_ | refine a_gu rfl ?_ | refine a_mklist (ec rfl en) (mz mkn) ?_ | refine a_mid ?_)
  first | refine a_endq (by repeat (first | exact pr_nil | (apply pr_cons; rfl))) ?_ | refine a_end (by repeat (first | exact pr_nil | (apply pr_cons; rfl))) ?_
  obtain ⟨hro, hrl⟩ := ok.row ((a : Int), (b : Int))
  have hget : (T.abs.ways.get ((a : Int), (b : Int))).getD [] = ((T.g.get ((a : Int), (b : Int))).getD RW.nil).l := by
    show ((gmap RW.l T.g).get _).getD [] = _
    rw [gmap_get]
    cases T.g.get ((a : Int), (b : Int)) <;> rfl
  have hmem : ∀ x ∈ ((T.g.get ((a : Int), (b : Int))).getD RW.nil).l, -1000000000 ≤ x.n ∧ x.n ≤ 1000000000 := by
    cases hg : T.g.get ((a : Int), (b : Int)) with
    | none => simp [RW.nil]
    | some r =>
      obtain ⟨n, hn⟩ := GM.get_mem hg
      exact hit _ hn
  have hF : comeF T.abs a b = match (T.abs.ways.get ((a : Int), (b : Int))).getD [] with
    | [] => T.abs
    | x :: r => comeX { T.abs with ways := T.abs.ways.put ((a : Int), (b : Int)) r } a b x := rfl
  rw [hget] at hF
  obtain ⟨⟨l0, tok⟩, hr0⟩ : ∃ r0, (T.g.get ((a : Int), (b : Int))).getD RW.nil = r0 := ⟨_, rfl⟩
  rw [hr0] at hro hrl hget hmem hF
  simp only [hr0]
  cases l0 with
  | nil =>
    refine s_cond_t rfl (sc_ret (sq_r (x_ret _ rfl ?_)))
    exact kk h2 T rfl (ok.le (by omega)) hF.symm (s2.sub ((List.sublist_cons_self _ _).trans (List.sublist_cons_self _ _)))
  | cons x r' =>
    simp only at hF
    refine s_cond_f rfl (sc_skip (sq_n (a_dreg Try.mixed ?_)))
    have s3 := s2.new .res
    change HO _ h2.length _ _ (h2 ++ [.res]) _
    generalize h2.length = v at s3 ⊢
    generalize h2 ++ [HObj.res] = h3 at s3 ⊢
    clear s2 gd gw gp gm h2
    have gw : h3[w]? = some (.cells [ii (a : Int), ii (b : Int)]) := s3.get (by simp)
    have gp : h3[T.p]? = some T.obj := s3.get (by simp [PT.lay])
    have gm : h3[T.m]? = some (T.g.obj eKey (RW.hv eItem)) := s3.get (by simp [PT.lay])
    repeat (first | refine a_op (fun _ => rfl) ?_ | refine a_load rfl (by assumption) rfl ?_ | refine a_load_at rfl (by assumption) (by assumption) ?_ | refine a_iaddr_at rfl rfl (by assumption) ?_ | refine a_iaddr_l rfl rfl (by assumption) rfl ?_ | refine st_load_r rfl rfl ?_ | refine a_cmp rfl rfl rfl ?_ | refine a_eqi rfl rfl ?_ | refine st_not rfl ?_ | refine st_pick_t rfl rfl rfl ?_ | refine st_pick_f rfl rfl rfl ?_ | refine st_g rfl ?_ | refine a_gtf rfl ?_ | refine a_gft rfl ?_ | refine a_gu rfl ?_ | refine a_mklist (ec rfl en) (mz mkn) ?_ | refine a_mid ?_)
    refine a_lookupE (fk := eKey) (fv := RW.hv eItem) (z0 := RW.nil) (q := ((a : Int), (b : Int))) (g := T.g) enck_key rfl rfl gm rfl hr0 ?_
    refine a_iaddr_l (i := 0) (l := x :: r') (a := x) (f := eItem) rfl rfl rfl rfl ?_
    repeat (first | refine a_op (fun _ => rfl) ?_ | refine a_load rfl (by assumption) rfl ?_ | refine a_load_at rfl (by assumption) (by assumption) ?_ | refine a_iaddr_at rfl rfl (by assumption) ?_ | refine a_iaddr_l rfl rfl (by assumption) rfl ?_ | refine st_load_r rfl rfl ?_ | refine a_cmp rfl rfl rfl ?_ | refine a_eqi rfl rfl ?_ | refine st_not rfl ?_ | refine st_pick_t rfl rfl rfl ?_ | refine st_pick_f rfl rfl rfl ?_ | refine st_g rfl ?_ | refine a_gtf rfl ?_ | refine a_gft rfl ?_ | refine a_gu rfl ?_ | refine a_mklist (ec rfl en) (mz mkn) ?_ | refine a_mid ?_)
    have gv : h3[v]? = some .res := s3.get (by simp)
    refine a_allocr (id := v) rfl gv ?_
    refine a_store rfl rfl (List.getElem?_set_self (lt_of_get gv)) ⟨rfl, lb rfl, rfl⟩ ?_
    repeat (first | refine a_op (fun _ => rfl) ?_ | refine a_load rfl (by assumption) rfl ?_ | refine a_load_at rfl (by assumption) (by assumption) ?_ | refine a_iaddr_at rfl rfl (by assumption) ?_ | refine a_iaddr_l rfl rfl (by assumption) rfl ?_ | refine st_load_r rfl rfl ?_ | refine a_cmp rfl rfl rfl ?_ | refine a_eqi rfl rfl ?_ | refine st_not rfl ?_ | refine st_pick_t rfl rfl rfl ?_ | refine st_pick_f rfl rfl rfl ?_ | refine st_g rfl ?_ | refine a_gtf rfl ?_ | refine a_gft rfl ?_ | refine a_gu rfl ?_ | refine a_mklist (ec rfl en) (mz mkn) ?_ | refine a_mid ?_)
    first | refine a_endq (by repeat (first | exact pr_nil | (apply pr_cons; rfl))) ?_ | refine a_end (by repeat (first | exact pr_nil | (apply pr_cons; rfl))) ?_
    have s4 := Sep.set (A := []) (Sep.set (A := []) s3 (.cells [ii 0, .bool false])) (.cells [ii x.n, .bool x.marker])
    change SC _ _ _ _ _ [(0, HV.ptr T.p 0), (3, .ptr d 0), (4, .ptr w 0), (5, .ptr v 0)] ((h3.set v (HObj.cells [ii 0, .bool false])).set v (.cells [ii x.n, .bool x.marker]))
    generalize (h3.set v (HObj.cells [ii 0, .bool false])).set v (.cells [ii x.n, .bool x.marker]) = h4 at s4 ⊢
    clear s3 gw gp gm gv h3
    have gw : h4[w]? = some (.cells [ii (a : Int), ii (b : Int)]) := s4.get (by simp)
    have gp : h4[T.p]? = some T.obj := s4.get (by simp [PT.lay])
    have gm : h4[T.m]? = some (T.g.obj eKey (RW.hv eItem)) := s4.get (by simp [PT.lay])
    refine a_dreg0 Try.mixed ?_
    repeat (first | refine a_op (fun _ => rfl) ?_ | refine a_load rfl (by assumption) rfl ?_ | refine a_load_at rfl (by assumption) (by assumption) ?_ | refine a_iaddr_at rfl rfl (by assumption) ?_ | refine a_iaddr_l rfl rfl (by assumption) rfl ?_ | refine st_load_r rfl rfl ?_ | refine a_cmp rfl rfl rfl ?_ | refine a_eqi rfl rfl ?_ | refine st_not rfl ?_ | refine st_pick_t rfl rfl rfl ?_ | refine st_pick_f rfl rfl rfl ?_ | refine st_g rfl ?_ | refine a_gtf rfl ?_ | refine a_gft rfl ?_ | refine a_gu rfl ?_ | refine a_mklist (ec rfl en) (mz mkn) ?_ | refine a_mid ?_)
    refine a_lookupE (fk := eKey) (fv := RW.hv eItem) (z0 := RW.nil) (q := ((a : Int), (b : Int))) (g := T.g) enck_key rfl rfl gm rfl hr0 ?_
    refine a_cut (q := 1) (f := eItem) (w := ⟨x :: r', tok⟩) enc_item.w rfl rfl (by simp) ?_
    refine a_mapset (fk := eKey) (fv := RW.hv eItem) (q := ((a : Int), (b : Int))) (g := T.g) (v := ⟨r', cutTok true 1 tok⟩) enck_key rfl rfl rfl rfl gm ?_
    repeat (first | refine a_op (fun _ => rfl) ?_ | refine a_load rfl (by assumption) rfl ?_ | refine a_load_at rfl (by assumption) (by assumption) ?_ | refine a_iaddr_at rfl rfl (by assumption) ?_ | refine a_iaddr_l rfl rfl (by assumption) rfl ?_ | refine st_load_r rfl rfl ?_ | refine a_cmp rfl rfl rfl ?_ | refine a_eqi rfl rfl ?_ | refine st_not rfl ?_ | refine st_pick_t rfl rfl rfl ?_ | refine st_pick_f rfl rfl rfl ?_ | refine st_g rfl ?_ | refine a_gtf rfl ?_ | refine a_gft rfl ?_ | refine a_gu rfl ?_ | refine a_mklist (ec rfl en) (mz mkn) ?_ | refine a_mid ?_)
    first | refine a_endq (by repeat (first | exact pr_nil | (apply pr_cons; rfl))) ?_ | refine a_end (by repeat (first | exact pr_nil | (apply pr_cons; rfl))) ?_
    have hX : ∃ X : Lay, X = [(v, HObj.cells [ii x.n, .bool x.marker]), (w, HObj.cells [ii (a : Int), ii (b : Int)]), (d, HObj.cells [ii kd, ii (a : Int), ii (b : Int), ii nn])] := ⟨_, rfl⟩
    obtain ⟨X, hX⟩ := hX
    have s5 : Sep h4 (T.lay ++ (X ++ R)) := Sep.front (A := X) (B := T.lay) (C := R) (by rw [hX]; simpa using s4)
    obtain ⟨L1, L2, e2, back⟩ := PT.lay_at T ((a : Int), (b : Int)) (X ++ R)
    rw [e2, hr0] at s5
    have s6 := back h4 ⟨r', cutTok true 1 tok⟩ (by
      have := RW.cut_lay (w := (⟨x :: r', tok⟩ : RW Item)) (q := 1) (by simp)
      rw [← this] at s5
      exact s5)
    have ok1 := ok.put ((a : Int), (b : Int)) (r := ⟨r', cutTok true 1 tok⟩) (RW.cut_ok (w := (⟨x :: r', tok⟩ : RW Item)) (q := 1) hro) (by simp at hrl; show r'.length ≤ B; omega) (Nat.le_refl B)
    change SC _ _ _ _ _ [(0, HV.ptr T.p 0), (3, .ptr d 0), (5, .ptr v 0)] _
    generalize h4.set T.m _ = h5 at s6 ⊢
    have hab : ({ T with g := T.g.put ((a : Int), (b : Int)) ⟨r', cutTok true 1 tok⟩ } : PT).abs = { T.abs with ways := T.abs.ways.put ((a : Int), (b : Int)) r' } := by
      simp only [PT.abs, gmap_put]
    rw [← hab] at hF
    rw [hF] at kk
    have hx := hmem x (by simp)
    have epp : T.p = ({ T with g := T.g.put ((a : Int), (b : Int)) ⟨r', cutTok true 1 tok⟩ } : PT).p := rfl
    have hnc : T.sides.l.length = T.coins.length := hn
    have hcoins : T.coins = ({ T with g := T.g.put ((a : Int), (b : Int)) ⟨r', cutTok true 1 tok⟩ } : PT).coins := rfl
    have hsides : T.sides = ({ T with g := T.g.put ((a : Int), (b : Int)) ⟨r', cutTok true 1 tok⟩ } : PT).sides := rfl
    rw [epp] at kk ⊢
    rw [hsides, hcoins] at hnc
    rw [hcoins] at hb hco
    clear e2 back gw gp gm s4 s5 hab epp hF hr0 hget hcoins hsides hit hmem hrl hro hn ha ok
    generalize ({ T with g := T.g.put ((a : Int), (b : Int)) ⟨r', cutTok true 1 tok⟩ } : PT) = T1 at *
    have hbs : b < T1.sides.l.length := by omega
    obtain ⟨sd, hsd⟩ : ∃ s, T1.sides.l[b]? = some s := ⟨_, List.getElem?_eq_getElem hbs⟩
    obtain ⟨cb, hcb⟩ : ∃ c, T1.coins[b]? = some c := ⟨_, List.getElem?_eq_getElem hb⟩
    have hcb2 := hco cb (List.mem_of_getElem? hcb)
    have oks := ok1.sides sd (List.mem_of_getElem? hsd)
    have gv : h5[v]? = some (.cells [ii x.n, .bool x.marker]) := s6.get (by simp [hX])
    have gd : h5[d]? = some (.cells [ii kd, ii (a : Int), ii (b : Int), ii nn]) := s6.get (by simp [hX])
    have gp : h5[T1.p]? = some T1.obj := s6.get (by simp [PT.lay])
    have gc : h5[T1.c]? = some (coinO T1.coins) := s6.get (by simp [PT.lay])
    obtain ⟨R', pin, hR', pout⟩ := PT.side_at T1 hsd (X ++ R)
    have hsG : T1.abs.sides.getD b sd0 = sd.abs := by
      show (T1.sides.l.map PS.abs).getD b sd0 = _
      simp [List.getD_eq_getElem?_getD, hsd]
    have hcG : T1.abs.coins.getD b 0 = cb := by
      show T1.coins.getD b 0 = _
      simp [List.getD_eq_getElem?_getD, hcb]
    have hsub : (R : Lay).Sublist (X ++ R) := List.sublist_append_right _ _
    refine sc_seq (q_reg ?_)
    repeat (first | refine a_op (fun _ => rfl) ?_ | refine a_load rfl (by assumption) rfl ?_ | refine a_load_at rfl (by assumption) (by assumption) ?_ | refine a_iaddr_at rfl rfl (by assumption) ?_ | refine a_iaddr_l rfl rfl (by assumption) rfl ?_ | refine st_load_r rfl rfl ?_ | refine a_cmp rfl rfl rfl ?_ | refine a_eqi rfl rfl ?_ | refine st_not rfl ?_ | refine st_pick_t rfl rfl rfl ?_ | refine st_pick_f rfl rfl rfl ?_ | refine st_g rfl ?_ | refine a_gtf rfl ?_ | refine a_gft rfl ?_ | refine a_gu rfl ?_ | refine a_mklist (ec rfl en) (mz mkn) ?_ | refine a_mid ?_)
    first | refine a_endq (by repeat (first | exact pr_nil | (apply pr_cons; rfl))) ?_ | refine a_end (by repeat (first | exact pr_nil | (apply pr_cons; rfl))) ?_
    refine sc_cond (t := x.marker) rfl (fun hm => ?_) (fun hm => ?_)
    · refine sc_seq (a_dord1 Try.mixed ?_)
      repeat (first | refine a_op (fun _ => rfl) ?_ | refine a_load rfl (by assumption) rfl ?_ | refine a_load_at rfl (by assumption) (by assumption) ?_ | refine a_iaddr_at rfl rfl (by assumption) ?_ | refine a_iaddr_l rfl rfl (by assumption) rfl ?_ | refine st_load_r rfl rfl ?_ | refine a_cmp rfl rfl rfl ?_ | refine a_eqi rfl rfl ?_ | refine st_not rfl ?_ | refine st_pick_t rfl rfl rfl ?_ | refine st_pick_f rfl rfl rfl ?_ | refine st_g rfl ?_ | refine a_gtf rfl ?_ | refine a_gft rfl ?_ | refine a_gu rfl ?_ | refine a_mklist (ec rfl en) (mz mkn) ?_ | refine a_mid ?_)
      refine a_callm rfl (ec rfl (ec rfl (ec rfl en))) (r22 oks (s6.perm pin) (fun h6 s7 => ?_))
      repeat (first | refine a_op (fun _ => rfl) ?_ | refine a_load rfl (by assumption) rfl ?_ | refine a_load_at rfl (by assumption) (by assumption) ?_ | refine a_iaddr_at rfl rfl (by assumption) ?_ | refine a_iaddr_l rfl rfl (by assumption) rfl ?_ | refine st_load_r rfl rfl ?_ | refine a_cmp rfl rfl rfl ?_ | refine a_eqi rfl rfl ?_ | refine st_not rfl ?_ | refine st_pick_t rfl rfl rfl ?_ | refine st_pick_f rfl rfl rfl ?_ | refine st_g rfl ?_ | refine a_gtf rfl ?_ | refine a_gft rfl ?_ | refine a_gu rfl ?_ | refine a_mklist (ec rfl en) (mz mkn) ?_ | refine a_mid ?_)
      first | refine a_endq (by repeat (first | exact pr_nil | (apply pr_cons; rfl))) ?_ | refine a_end (by repeat (first | exact pr_nil | (apply pr_cons; rfl))) ?_
      obtain ⟨mo1, mo2⟩ := markP_ok oks (a : Int) cb
      obtain ⟨ma1, ma2⟩ := markP_abs sd (a : Int) cb
      have s8 := s7.perm (pout _ mo2)
      have ok2 := ok1.side (b := b) mo1
      unfold comeX at kk
      rw [if_pos hm, hsG, hcG] at kk
      have gd : h6[d]? = some (.cells [ii kd, ii (a : Int), ii (b : Int), ii nn]) := s8.get (by simp [hX])
      have gp : h6[T1.p]? = some (PT.obj { T1 with sides := ⟨T1.sides.l.set b (markP sd (a : Int) cb).1, T1.sides.tok⟩ }) := s8.get (by simp [PT.lay])
      refine q_reg ?_
      repeat (first | refine a_op (fun _ => rfl) ?_ | refine a_load rfl (by assumption) rfl ?_ | refine a_load_at rfl (by assumption) (by assumption) ?_ | refine a_iaddr_at rfl rfl (by assumption) ?_ | refine a_iaddr_l rfl rfl (by assumption) rfl ?_ | refine st_load_r rfl rfl ?_ | refine a_cmp rfl rfl rfl ?_ | refine a_eqi rfl rfl ?_ | refine st_not rfl ?_ | refine st_pick_t rfl rfl rfl ?_ | refine st_pick_f rfl rfl rfl ?_ | refine st_g rfl ?_ | refine a_gtf rfl ?_ | refine a_gft rfl ?_ | refine a_gu rfl ?_ | refine a_mklist (ec rfl en) (mz mkn) ?_ | refine a_mid ?_)
      first | refine a_endq (by repeat (first | exact pr_nil | (apply pr_cons; rfl))) ?_ | refine a_end (by repeat (first | exact pr_nil | (apply pr_cons; rfl))) ?_
      refine sc_cond (t := (markP sd (a : Int) cb).2.1) rfl (fun hf => ?_) (fun hf => ?_)
      · refine s_reg ?_
        repeat (first | refine a_op (fun _ => rfl) ?_ | refine a_load rfl (by assumption) rfl ?_ | refine a_load_at rfl (by assumption) (by assumption) ?_ | refine a_iaddr_at rfl rfl (by assumption) ?_ | refine a_iaddr_l rfl rfl (by assumption) rfl ?_ | refine st_load_r rfl rfl ?_ | refine a_cmp rfl rfl rfl ?_ | refine a_eqi rfl rfl ?_ | refine st_not rfl ?_ | refine st_pick_t rfl rfl rfl ?_ | refine st_pick_f rfl rfl rfl ?_ | refine st_g rfl ?_ | refine a_gtf rfl ?_ | refine a_gft rfl ?_ | refine a_gu rfl ?_ | refine a_mklist (ec rfl en) (mz mkn) ?_ | refine a_mid ?_)
        refine a_call (ec rfl (ec rfl en)) (r76 (T := { T1 with sides := ⟨T1.sides.l.set b (markP sd (a : Int) cb).1, T1.sides.tok⟩ }) ok2 (by omega) s8 (fun h8 g' ok' hg' s9 => ?_))
        repeat (first | refine a_op (fun _ => rfl) ?_ | refine a_load rfl (by assumption) rfl ?_ | refine a_load_at rfl (by assumption) (by assumption) ?_ | refine a_iaddr_at rfl rfl (by assumption) ?_ | refine a_iaddr_l rfl rfl (by assumption) rfl ?_ | refine st_load_r rfl rfl ?_ | refine a_cmp rfl rfl rfl ?_ | refine a_eqi rfl rfl ?_ | refine st_not rfl ?_ | refine st_pick_t rfl rfl rfl ?_ | refine st_pick_f rfl rfl rfl ?_ | refine st_g rfl ?_ | refine a_gtf rfl ?_ | refine a_gft rfl ?_ | refine a_gu rfl ?_ | refine a_mklist (ec rfl en) (mz mkn) ?_ | refine a_mid ?_)
        first | refine a_endq (by repeat (first | exact pr_nil | (apply pr_cons; rfl))) ?_ | refine a_end (by repeat (first | exact pr_nil | (apply pr_cons; rfl))) ?_
        refine sc_ret (sq_r (x_ret _ rfl (kk h8 { T1 with g := g', sides := ⟨T1.sides.l.set b (markP sd (a : Int) cb).1, T1.sides.tok⟩ } rfl ok' ?_ (s9.sub (hsub.append_left _)))))
        simp only [PT.abs, List.map_set, ma1, hg']
        rw [← ma2, hf]
        rfl
      · refine sc_skip (sq_n (sc_ret (sq_r (x_ret _ rfl (kk h6 { T1 with sides := ⟨T1.sides.l.set b (markP sd (a : Int) cb).1, T1.sides.tok⟩ } rfl (ok2.le (by omega)) ?_ (s8.sub (hsub.append_left _)))))))
        simp only [PT.abs, List.map_set, ma1]
        rw [← ma2, hf]
        rfl
    · refine sc_skip (sq_n (a_dreg0 Try.mixed ?_))
      repeat (first | refine a_op (fun _ => rfl) ?_ | refine a_load rfl (by assumption) rfl ?_ | refine a_load_at rfl (by assumption) (by assumption) ?_ | refine a_iaddr_at rfl rfl (by assumption) ?_ | refine a_iaddr_l rfl rfl (by assumption) rfl ?_ | refine st_load_r rfl rfl ?_ | refine a_cmp rfl rfl rfl ?_ | refine a_eqi rfl rfl ?_ | refine st_not rfl ?_ | refine st_pick_t rfl rfl rfl ?_ | refine st_pick_f rfl rfl rfl ?_ | refine st_g rfl ?_ | refine a_gtf rfl ?_ | refine a_gft rfl ?_ | refine a_gu rfl ?_ | refine a_mklist (ec rfl en) (mz mkn) ?_ | refine a_mid ?_)
      refine a_call (ec rfl (ec rfl (ec rfl en))) (r21 oks (s6.perm pin) (fun h6 s' ok' hsame hab' s7 => ?_))
      repeat (first | refine a_op (fun _ => rfl) ?_ | refine a_load rfl (by assumption) rfl ?_ | refine a_load_at rfl (by assumption) (by assumption) ?_ | refine a_iaddr_at rfl rfl (by assumption) ?_ | refine a_iaddr_l rfl rfl (by assumption) rfl ?_ | refine st_load_r rfl rfl ?_ | refine a_cmp rfl rfl rfl ?_ | refine a_eqi rfl rfl ?_ | refine st_not rfl ?_ | refine st_pick_t rfl rfl rfl ?_ | refine st_pick_f rfl rfl rfl ?_ | refine st_g rfl ?_ | refine a_gtf rfl ?_ | refine a_gft rfl ?_ | refine a_gu rfl ?_ | refine a_mklist (ec rfl en) (mz mkn) ?_ | refine a_mid ?_)
      first | refine a_endq (by repeat (first | exact pr_nil | (apply pr_cons; rfl))) ?_ | refine a_end (by repeat (first | exact pr_nil | (apply pr_cons; rfl))) ?_
      have s8 := s7.perm (pout _ hsame.id)
      have ok2 := ok1.side (b := b) ok'
      unfold comeX at kk
      rw [if_neg (by rw [hm]; decide), hsG, hcG] at kk
      have gd : h6[d]? = some (.cells [ii kd, ii (a : Int), ii (b : Int), ii nn]) := s8.get (by simp [hX])
      have gv : h6[v]? = some (.cells [ii x.n, .bool x.marker]) := s8.get (by simp [hX])
      have gp : h6[T1.p]? = some (PT.obj { T1 with sides := ⟨T1.sides.l.set b s', T1.sides.tok⟩ }) := s8.get (by simp [PT.lay])
      have gc : h6[T1.c]? = some (coinO T1.coins) := s8.get (by simp [PT.lay])
      refine a_dregl0 Try.mixed ?_
      repeat (first | refine a_op (fun _ => rfl) ?_ | refine a_load rfl (by assumption) rfl ?_ | refine a_load_at rfl (by assumption) (by assumption) ?_ | refine a_iaddr_at rfl rfl (by assumption) ?_ | refine a_iaddr_l rfl rfl (by assumption) rfl ?_ | refine st_load_r rfl rfl ?_ | refine a_cmp rfl rfl rfl ?_ | refine a_eqi rfl rfl ?_ | refine st_not rfl ?_ | refine st_pick_t rfl rfl rfl ?_ | refine st_pick_f rfl rfl rfl ?_ | refine st_g rfl ?_ | refine a_gtf rfl ?_ | refine a_gft rfl ?_ | refine a_gu rfl ?_ | refine a_mklist (ec rfl en) (mz mkn) ?_ | refine a_mid ?_)
      refine a_add rfl rfl (by omega) ?_
      repeat (first | refine a_op (fun _ => rfl) ?_ | refine a_load rfl (by assumption) rfl ?_ | refine a_load_at rfl (by assumption) (by assumption) ?_ | refine a_iaddr_at rfl rfl (by assumption) ?_ | refine a_iaddr_l rfl rfl (by assumption) rfl ?_ | refine st_load_r rfl rfl ?_ | refine a_cmp rfl rfl rfl ?_ | refine a_eqi rfl rfl ?_ | refine st_not rfl ?_ | refine st_pick_t rfl rfl rfl ?_ | refine st_pick_f rfl rfl rfl ?_ | refine st_g rfl ?_ | refine a_gtf rfl ?_ | refine a_gft rfl ?_ | refine a_gu rfl ?_ | refine a_mklist (ec rfl en) (mz mkn) ?_ | refine a_mid ?_)
      refine a_store_at (f := ii) (l := T1.coins) (a := cb + x.n) rfl rfl gc rfl rfl hb ?_
      repeat (first | refine a_op (fun _ => rfl) ?_ | refine a_load rfl (by assumption) rfl ?_ | refine a_load_at rfl (by assumption) (by assumption) ?_ | refine a_iaddr_at rfl rfl (by assumption) ?_ | refine a_iaddr_l rfl rfl (by assumption) rfl ?_ | refine st_load_r rfl rfl ?_ | refine a_cmp rfl rfl rfl ?_ | refine a_eqi rfl rfl ?_ | refine st_not rfl ?_ | refine st_pick_t rfl rfl rfl ?_ | refine st_pick_f rfl rfl rfl ?_ | refine st_g rfl ?_ | refine a_gtf rfl ?_ | refine a_gft rfl ?_ | refine a_gu rfl ?_ | refine a_mklist (ec rfl en) (mz mkn) ?_ | refine a_mid ?_)
      first | refine a_endq (by repeat (first | exact pr_nil | (apply pr_cons; rfl))) ?_ | refine a_end (by repeat (first | exact pr_nil | (apply pr_cons; rfl))) ?_
      refine x_ret _ rfl (kk _ { T1 with coins := T1.coins.set b (cb + x.n), sides := ⟨T1.sides.l.set b s', T1.sides.tok⟩ } rfl ⟨fun q hq => ?_, ok2.wf, ok2.stamps, ok2.sides, by simpa using ok2.nc⟩ ?_ ?_)
      · exact ⟨(ok2.rows q hq).1, Nat.le_trans (ok2.rows q hq).2 (by omega)⟩
      · simp only [PT.abs, List.map_set, hab']
      · have := Sep.set (A := [(T1.p, PT.obj { T1 with sides := ⟨T1.sides.l.set b s', T1.sides.tok⟩ })]) (i := T1.c) (o := coinO T1.coins) (B := (T1.m, T1.g.obj eKey (RW.hv eItem)) :: (mlay T1.g ++ (RW.lay ⟨T1.sides.l.set b s', T1.sides.tok⟩ ++ ((T1.sides.l.set b s').flatMap PS.lay ++ (X ++ R))))) (by simpa [PT.lay] using s8) (coinO (T1.coins.set b (cb + x.n)))
        refine Sep.sub (L := _ ++ (X ++ R)) ?_ (hsub.append_left _)
        simpa [PT.lay, PT.obj, coinO] using this
end Go.Hw.VK

