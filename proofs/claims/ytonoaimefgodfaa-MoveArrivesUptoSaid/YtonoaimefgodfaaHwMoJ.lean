import Derived.Test.YtonoaimefgodfaaHwMoI
set_option linter.unusedVariables false
set_option linter.unusedSimpArgs false
namespace Go.Hw.VM
open Go Go.Proofs

abbrev outL (I : Ids) (t : Nw) (pl : Nat → Nat) (gid aid o5 : Nat) (S : Nat → Bool) (wy wt : Int) : Lay := [(o5, outO I.m gid aid wy wt), (gid, gotO I.m (GS t S)), (aid, atO I.m (AS pl S))]
theorem tell_at {h : Heap} {R : Lay} {I : Ids} {t : Ct} {B gid aid o5 w a : Nat} {pl : Nat → Nat} {S : Nat → Bool} {wy wt : Int} (ok : t.ok I B) (hB : B ≤ 2000000) (hw : w < I.m) (hpl : pl w = a) (hwt : 0 ≤ wt ∧ wt ≤ 1000000000000000000) (hs : Sep h (outL I t.abs pl gid aid o5 S wy wt ++ (lay I t ++ R))) {Q : HV → Heap → Prop}
    (kk : ∀ h', Sep h' (outL I t.abs pl gid aid o5 (fupd S w true) wy (wt + bodW t.abs w) ++ (lay I t ++ R)) → Q (.tuple []) h') : HCalls Try.prog 72 [ii (w : Int), ii (a : Int), .ptr (I.bid w) 0, .ptr o5 0] h Q := by
  obtain ⟨M, pin, pout⟩ := body_at I t hw R
  have s1 : Sep h ((o5, outO I.m gid aid wy wt) :: (gid, gotO I.m (GS t.abs S)) :: (aid, atO I.m (AS pl S)) :: ((body I t w).lay I.K ++ M)) := by
    refine hs.perm (perm_c fun c e ca cc c0 cp => ?_)
    have := cp _ _ pin
    simp only [ca] at this
    simp only [ca, cc, c0]
    omega
  refine r72 (b := body I t w) (ok.bod w) (by omega) hw ok.hm hwt s1 (fun h' s2 => kk h' ?_)
  have e1 : fupd (GS t.abs S) w (body I t w).got.l = GS t.abs (fupd S w true) := GS_upd t.abs S w
  have e2 : fupd (AS pl S) w a = AS pl (fupd S w true) := by rw [← hpl]; exact AS_upd pl S w
  rw [e1, e2] at s2
  refine s2.perm (perm_c fun c e ca cc c0 cp => ?_)
  have := cp _ _ pin
  simp only [ca] at this
  simp only [ca, cc, c0]
  have e3 : e (o5, outO I.m gid aid wy (wt + ((body I t w).early.es.length : Int))) = e (o5, outO I.m gid aid wy (wt + bodW t.abs w)) := rfl
  omega
def hc58b : C := (.seq (.seq (.reg [mo 55 0, oo 56 (.nilck 55), oo 57 (.faddr 1 1 56), oo 58 (.load none 57), oo 59 (.range false 58)] [4, 5, 6, 59]) (.block 4 (.loop (.seq (.reg [oo 60 (.next false 59), oo 61 (.extract 60 0)] [4, 5, 6, 59, 61]) (.seq (.cond 61 .skip (.exit 4)) (.block 5 (.seq (.reg [oo 62 (.entry 59), oo 63 (.extract 62 1), mo 12 63] [4, 5, 6, 12, 59]) (.seq (.reg [oo 64 (.faddr 2 1 5), oo 65 (.load none 64), mo 66 12, oo 67 (.len false 66), oo 68 (.bin .add 65 67), oo 69 (.faddr 2 1 5), os (.store 1 69 68)] [4, 5, 6, 12, 59]) (.seq (.reg [mo 70 12, oo 71 (.len false 70), oo 72 (.mv (.c (.int .i64 0)))] [4, 5, 6, 59, 70, 71, 72]) (.block 6 (.loop (.seq (.reg [oo 73 (.bin .lss 72 71)] [4, 5, 6, 59, 70, 71, 72, 73]) (.seq (.cond 73 .skip (.exit 6)) (.seq (.block 7 (.seq (.reg [oo 74 (.iaddr 8 70 72), oo 75 (.load (some 8) 74), oo 14 (.alloc none [(.int .i64 0), (.int .i64 0), (.int .i64 0), (.int .i64 0), (.int .i64 0), (.int .i64 0), (.int .i64 0), .nilptr]), os (.store 8 14 75)] [4, 5, 6, 14, 59, 70, 71, 72]) (.seq (.reg [oo 76 (.faddr 0 1 14), oo 77 (.load none 76), oo 78 (.eqv false .int 77 (.c (.int .i64 2)))] [4, 5, 6, 14, 59, 70, 71, 72, 78]) (.cond 78 (.reg [mo 79 6, oo 80 (.faddr 1 1 14), oo 81 (.load none 80), oo 82 (.faddr 7 1 14), oo 83 (.load none 82), co 84 (.callv 79 [81, (.c (.int .i64 0)), 83])] [4, 5, 6, 59, 70, 71, 72]) .skip)))) (.reg [oo 85 (.bin .add 72 (.c (.int .i64 1))), mo 72 85] [4, 5, 6, 59, 70, 71, 72]))))))))))))))) (.seq (.reg [oo 86 (.load (some 4) 5), os (.store 4 4 86)] [4]) .ret))
theorem r58b {h : Heap} {R : Lay} {I : Ids} {t : Ct} {B gid aid o4 o5 : Nat} {pl : Nat → Nat} {S : Nat → Bool} {W1 : Int} (ok : t.ok I B) (hB : B ≤ 2000000) (hE : t.g.es.length ≤ 1000) (hP : Pl I.K I.m t.abs pl) (hS : ∀ i w, i < I.K → w < I.m → t.here i w = true → S w = true) (hW : W1 = sumUp I.K (nodeW t.abs I.m)) (hW2 : 0 ≤ W1 ∧ W1 ≤ 100000000000000000)
    (hs : Sep h (outL I t.abs pl gid aid o5 S 0 W1 ++ (lay I t ++ ((o4, told0) :: R)))) {Q : HV → Heap → Prop}
    (kk : ∀ h', Sep h' R → Q (eGMove_Told (toldF t.abs I.K I.m pl)) h') : SC Try.prog Try.f58.ntmps o4 hc58b (RetS2 [.c 4 (some 4)] o4 Q) [(0, .ptr I.w 0), (4, .ptr o4 0), (5, .ptr o5 0), (6, .func 72 [.ptr o5 0])] h := by
  unfold hc58b
  have gw : h[I.w]? = some (netO I) := hs.get (List.mem_append_right _ (mem_w _))
  have gm : h[I.mid]? = some (wayO I.bid t.g) := hs.get (List.mem_append_right _ (mem_m _))
  have hwf := ok.g.wf
  have hstp : (t.g.es.map Prod.fst).Nodup := ok.g.stamps
  have hbw : ∀ w, bodW t.abs w ≤ (B : Int) := fun w => by
    have := (ok.bod w).len
    have : (t.early w).es.length ≤ B := by
      have h1 : (body I t w).got.l.length + (t.early w).es.length ≤ B := this
      omega
    show ((t.early w).es.length : Int) ≤ B
    omega
  have hr1 : ∀ p ∈ t.g.es, 0 ≤ (fun r : RW It => (r.l.length : Int)) p.2.2 ∧ (fun r : RW It => (r.l.length : Int)) p.2.2 ≤ (B : Int) := fun p hp => ⟨Int.natCast_nonneg _, by have := (ok.g.rows p hp).2; show (p.2.2.l.length : Int) ≤ B; omega⟩
  have hr2 : ∀ p ∈ t.g.es, 0 ≤ (fun r : RW It => rowW t.abs r.l) p.2.2 ∧ (fun r : RW It => rowW t.abs r.l) p.2.2 ≤ ((B * B : Nat) : Int) := fun p hp => by
    have h1 := rowW_bound (t := t.abs) (l := p.2.2.l) (B := B) fun x _ => hbw x.who
    have h2 := (ok.g.rows p hp).2
    refine ⟨h1.1, Int.le_trans h1.2 ?_⟩
    rw [Int.natCast_mul]
    exact Int.mul_le_mul_of_nonneg_left (by omega) (by omega)
  have hBB : B * B ≤ 4000000000000 := Nat.mul_le_mul hB hB
  have hb1 : ∀ seen, 0 ≤ seenS (fun r : RW It => (r.l.length : Int)) t.g.es seen ∧ seenS (fun r : RW It => (r.l.length : Int)) t.g.es seen ≤ 2000000000 := fun seen => by
    have := seenS_bound (u := fun r : RW It => (r.l.length : Int)) hr1 seen
    refine ⟨this.1, Int.le_trans this.2 ?_⟩
    rw [← Int.natCast_mul]
    have : B * t.g.es.length ≤ 2000000 * 1000 := Nat.mul_le_mul hB hE
    omega
  have hb2 : ∀ seen, 0 ≤ seenS (fun r : RW It => rowW t.abs r.l) t.g.es seen ∧ seenS (fun r : RW It => rowW t.abs r.l) t.g.es seen ≤ 4000000000000000 := fun seen => by
    have := seenS_bound (u := fun r : RW It => rowW t.abs r.l) hr2 seen
    refine ⟨this.1, Int.le_trans this.2 ?_⟩
    rw [← Int.natCast_mul]
    have : B * B * t.g.es.length ≤ 4000000000000 * 1000 := Nat.mul_le_mul hBB hE
    omega
  refine sc_seq (q_reg ?_)
  repeat (first | refine a_op (fun _ => rfl) ?_ | refine a_load rfl (by assumption) rfl ?_ | refine a_load_at rfl (by assumption) (by assumption) ?_ | refine a_iaddr_at rfl rfl (by assumption) ?_ | refine a_iaddr_l rfl rfl (by assumption) rfl ?_ | refine st_load_r rfl rfl ?_ | refine a_cmp rfl rfl rfl ?_ | refine a_eqi rfl rfl ?_ | refine st_not rfl ?_ | refine st_pick_t rfl rfl rfl ?_ | refine st_pick_f rfl rfl rfl ?_ | refine st_g rfl ?_ | refine a_gtf rfl ?_ | refine a_gft rfl ?_ | refine a_gu rfl ?_ | refine a_mklist (ec rfl en) (mz mkn) ?_ | refine a_mid ?_)
  refine g_range (mm := t.g) (n := h.length) rfl gm rfl rfl ?_
  repeat (first | refine a_op (fun _ => rfl) ?_ | refine a_load rfl (by assumption) rfl ?_ | refine a_load_at rfl (by assumption) (by assumption) ?_ | refine a_iaddr_at rfl rfl (by assumption) ?_ | refine a_iaddr_l rfl rfl (by assumption) rfl ?_ | refine st_load_r rfl rfl ?_ | refine a_cmp rfl rfl rfl ?_ | refine a_eqi rfl rfl ?_ | refine st_not rfl ?_ | refine st_pick_t rfl rfl rfl ?_ | refine st_pick_f rfl rfl rfl ?_ | refine st_g rfl ?_ | refine a_gtf rfl ?_ | refine a_gft rfl ?_ | refine a_gu rfl ?_ | refine a_mklist (ec rfl en) (mz mkn) ?_ | refine a_mid ?_)
  first | refine a_endq (by repeat (first | exact pr_nil | (apply pr_cons; rfl))) ?_ | refine a_end (by repeat (first | exact pr_nil | (apply pr_cons; rfl))) ?_
  have s1 := hs.new (.iter (some I.mid) t.g.c [] t.g.c)
  change SC _ _ _ _ _ [(4, HV.ptr o4 0), (5, .ptr o5 0), (6, .func 72 [.ptr o5 0]), (59, .ptr h.length 0)] (h ++ [HObj.iter (some I.mid) t.g.c [] t.g.c])
  generalize h.length = o6 at s1 ⊢
  generalize h ++ [HObj.iter (some I.mid) t.g.c [] t.g.c] = h1 at s1 ⊢
  clear gw gm hs h
  obtain ⟨RR, hRR⟩ : ∃ RR : Lay, RR = lay I t ++ ((o4, told0) :: R) := ⟨_, rfl⟩
  rw [← hRR] at s1
  have gmm : (I.mid, wayO I.bid t.g) ∈ RR := by rw [hRR]; exact mem_m _
  refine sc_block (sc_loop (X := { x : List Nat × (Nat → Bool) × Heap // x.1.Nodup ∧ (∀ n ∈ x.1, n ∈ t.g.es.map Prod.fst) ∧ (∀ w, S w = true → x.2.1 w = true) ∧ (∀ p ∈ t.g.es, p.1 ∈ x.1 → ∀ y ∈ p.2.2.l, y.kind = 2 → x.2.1 y.who = true) ∧
        Sep x.2.2 ((o6, .iter (some I.mid) t.g.c x.1 t.g.c) :: (outL I t.abs pl gid aid o5 x.2.1 (seenS (fun r : RW It => (r.l.length : Int)) t.g.es x.1) (W1 + seenS (fun r : RW It => rowW t.abs r.l) t.g.es x.1) ++ RR)) })
      (fun x => ([(4, .ptr o4 0), (5, .ptr o5 0), (6, .func 72 [.ptr o5 0]), (59, .ptr o6 0)], x.1.2.2)) (fun x => t.g.es.length - x.1.1.length) ⟨([], S, h1), by simp, by simp, fun _ h => h, by simp, by rw [seenS_nil, seenS_nil, Int.add_zero]; exact s1⟩ (WeakF.refl _ _) ?_)
  clear s1
  rintro ⟨⟨seen, S1, h2⟩, hnd, hsub, hSS, htold, s2⟩
  simp only at hnd hsub hSS htold s2
  have gi : h2[o6]? = some (.iter (some I.mid) t.g.c seen t.g.c) := s2.get (by simp)
  have gm : h2[I.mid]? = some (wayO I.bid t.g) := s2.get (by simp [gmm])
  refine q_reg ?_
  refine g_next (mm := t.g) (F := fun n q v => (n, q, v) ∈ t.g.es ∧ n ∉ seen) (G := ∀ p ∈ t.g.es, p.1 ∈ seen) rfl gi gm ⟨?_, fun n q v h1 h2 => ⟨h1, h2⟩, fun hall p hp => ?_⟩ (fun n => h2.set o6 (.iter (some I.mid) t.g.c (seen ++ [n]) t.g.c)) (fun _ => rfl) (fun n q v hF => ?_) (fun hG => ?_)
  · cases hes : t.g.es with
    | nil => exact .inr (.inl rfl)
    | cons p es => exact .inr (.inr ⟨p, by simp, hwf.births p (by rw [hes]; simp)⟩)
  · by_cases hps : p.1 ∈ seen
    · exact hps
    · have h1 := hall p hp hps
      have h2 := hwf.births p hp
      omega
  · -- another way
    obtain ⟨hmem, hns⟩ := hF
    have hadd1 := seenS_add (u := fun r : RW It => (r.l.length : Int)) hstp hmem hns
    have hadd2 := seenS_add (u := fun r : RW It => rowW t.abs r.l) hstp hmem hns
    simp only at hadd1 hadd2
    have hq1 := hb1 seen
    have hq2 := hb2 seen
    have hvl := (ok.g.rows _ hmem).2
    simp only at hvl
    have hits := ok.itg _ hmem
    simp only at hits
    have s3 := Sep.set (A := []) s2 (.iter (some I.mid) t.g.c (seen ++ [n]) t.g.c)
    simp only [List.nil_append] at s3
    repeat (first | refine a_op (fun _ => rfl) ?_ | refine a_load rfl (by assumption) rfl ?_ | refine a_load_at rfl (by assumption) (by assumption) ?_ | refine a_iaddr_at rfl rfl (by assumption) ?_ | refine a_iaddr_l rfl rfl (by assumption) rfl ?_ | refine st_load_r rfl rfl ?_ | refine a_cmp rfl rfl rfl ?_ | refine a_eqi rfl rfl ?_ | refine st_not rfl ?_ | refine st_pick_t rfl rfl rfl ?_ | refine st_pick_f rfl rfl rfl ?_ | refine st_g rfl ?_ | refine a_gtf rfl ?_ | refine a_gft rfl ?_ | refine a_gu rfl ?_ | refine a_mklist (ec rfl en) (mz mkn) ?_ | refine a_mid ?_)
    first | refine a_endq (by repeat (first | exact pr_nil | (apply pr_cons; rfl))) ?_ | refine a_end (by repeat (first | exact pr_nil | (apply pr_cons; rfl))) ?_
    generalize h2.set o6 (.iter (some I.mid) t.g.c (seen ++ [n]) t.g.c) = h3 at s3 ⊢
    have gi : h3[o6]? = some (.iter (some I.mid) t.g.c (seen ++ [n]) t.g.c) := s3.get (by simp)
    have gm : h3[I.mid]? = some (wayO I.bid t.g) := s3.get (by simp [gmm])
    have hfind : t.g.es.find? (fun p => p.1 == n) = some (n, q, v) := by
      rw [List.find?_eq_some_iff_getElem]
      obtain ⟨i, hi, he⟩ := List.getElem_of_mem hmem
      refine ⟨by simp, i, hi, he, fun j hj => ?_⟩
      simp only [Bool.not_eq_true', beq_eq_false_iff_ne, ne_eq]
      intro hc
      have := nodup_inj' hstp j i n (by rw [List.getElem?_map, List.getElem?_eq_getElem (by omega)]; simp [hc]) (by rw [List.getElem?_map, List.getElem?_eq_getElem hi, he]; rfl)
      omega
    have hnd2 : (seen ++ [n]).Nodup := by
      rw [List.nodup_append]
      exact ⟨hnd, by simp, fun a ha c hc => by simp at hc; subst hc; rintro rfl; exact hns ha⟩
    have hsub2 : ∀ x ∈ seen ++ [n], x ∈ t.g.es.map Prod.fst := fun x hx => by
      rcases List.mem_append.1 hx with hx | hx
      · exact hsub x hx
      · rw [List.mem_singleton.1 hx]
        exact List.mem_map.2 ⟨_, hmem, rfl⟩
    have hlen2 := nodup_len hnd2 hsub2
    rw [List.length_append, List.length_map, List.length_singleton] at hlen2
    refine sc_seq (s_cond_t rfl (sc_skip (sq_n (sc_block (q_reg ?_)))))
    refine g_entry (mm := t.g) (K := fun _ u => u = v) rfl gi gm ⟨n, by simp, rfl, ⟨_, hfind⟩, fun n' q' u hu => by rw [hfind] at hu; injection hu with hu; injection hu with _ hu; injection hu with _ hu; exact hu.symm⟩ (fun q' u hu => ?_)
    subst hu
    repeat (first | refine a_op (fun _ => rfl) ?_ | refine a_load rfl (by assumption) rfl ?_ | refine a_load_at rfl (by assumption) (by assumption) ?_ | refine a_iaddr_at rfl rfl (by assumption) ?_ | refine a_iaddr_l rfl rfl (by assumption) rfl ?_ | refine st_load_r rfl rfl ?_ | refine a_cmp rfl rfl rfl ?_ | refine a_eqi rfl rfl ?_ | refine st_not rfl ?_ | refine st_pick_t rfl rfl rfl ?_ | refine st_pick_f rfl rfl rfl ?_ | refine st_g rfl ?_ | refine a_gtf rfl ?_ | refine a_gft rfl ?_ | refine a_gu rfl ?_ | refine a_mklist (ec rfl en) (mz mkn) ?_ | refine a_mid ?_)
    first | refine a_endq (by repeat (first | exact pr_nil | (apply pr_cons; rfl))) ?_ | refine a_end (by repeat (first | exact pr_nil | (apply pr_cons; rfl))) ?_
    obtain ⟨Y0, hY0⟩ : ∃ Y0, seenS (fun r : RW It => (r.l.length : Int)) t.g.es seen = Y0 := ⟨_, rfl⟩
    obtain ⟨Z0, hZ0⟩ : ∃ Z0, seenS (fun r : RW It => rowW t.abs r.l) t.g.es seen = Z0 := ⟨_, rfl⟩
    rw [hY0] at s3 hadd1 hq1
    rw [hZ0] at s3 hadd2 hq2
    have go : h3[o5]? = some (outO I.m gid aid Y0 (W1 + Z0)) := s3.get (by simp)
    refine q_reg ?_
    repeat (first | refine a_op (fun _ => rfl) ?_ | refine a_load rfl (by assumption) rfl ?_ | refine a_load_at rfl (by assumption) (by assumption) ?_ | refine a_iaddr_at rfl rfl (by assumption) ?_ | refine a_iaddr_l rfl rfl (by assumption) rfl ?_ | refine st_load_r rfl rfl ?_ | refine a_cmp rfl rfl rfl ?_ | refine a_eqi rfl rfl ?_ | refine st_not rfl ?_ | refine st_pick_t rfl rfl rfl ?_ | refine st_pick_f rfl rfl rfl ?_ | refine st_g rfl ?_ | refine a_gtf rfl ?_ | refine a_gft rfl ?_ | refine a_gu rfl ?_ | refine a_mklist (ec rfl en) (mz mkn) ?_ | refine a_mid ?_)
    refine a_add (n := (u.l.length : Int)) rfl (by show some (ii ((u.l.map (eIt I.bid)).length : Int)) = _; rw [List.length_map]) (by omega) ?_
    repeat (first | refine a_op (fun _ => rfl) ?_ | refine a_load rfl (by assumption) rfl ?_ | refine a_load_at rfl (by assumption) (by assumption) ?_ | refine a_iaddr_at rfl rfl (by assumption) ?_ | refine a_iaddr_l rfl rfl (by assumption) rfl ?_ | refine st_load_r rfl rfl ?_ | refine a_cmp rfl rfl rfl ?_ | refine a_eqi rfl rfl ?_ | refine st_not rfl ?_ | refine st_pick_t rfl rfl rfl ?_ | refine st_pick_f rfl rfl rfl ?_ | refine st_g rfl ?_ | refine a_gtf rfl ?_ | refine a_gft rfl ?_ | refine a_gu rfl ?_ | refine a_mklist (ec rfl en) (mz mkn) ?_ | refine a_mid ?_)
    refine a_store rfl rfl go ⟨rfl, lb rfl, rfl⟩ ?_
    repeat (first | refine a_op (fun _ => rfl) ?_ | refine a_load rfl (by assumption) rfl ?_ | refine a_load_at rfl (by assumption) (by assumption) ?_ | refine a_iaddr_at rfl rfl (by assumption) ?_ | refine a_iaddr_l rfl rfl (by assumption) rfl ?_ | refine st_load_r rfl rfl ?_ | refine a_cmp rfl rfl rfl ?_ | refine a_eqi rfl rfl ?_ | refine st_not rfl ?_ | refine st_pick_t rfl rfl rfl ?_ | refine st_pick_f rfl rfl rfl ?_ | refine st_g rfl ?_ | refine a_gtf rfl ?_ | refine a_gft rfl ?_ | refine a_gu rfl ?_ | refine a_mklist (ec rfl en) (mz mkn) ?_ | refine a_mid ?_)
    first | refine a_endq (by repeat (first | exact pr_nil | (apply pr_cons; rfl))) ?_ | refine a_end (by repeat (first | exact pr_nil | (apply pr_cons; rfl))) ?_
    have s4 := Sep.set (A := [(o6, .iter (some I.mid) t.g.c (seen ++ [n]) t.g.c)]) s3 (outO I.m gid aid (Y0 + u.l.length) (W1 + Z0))
    change SC _ _ _ _ _ _ (h3.set o5 (outO I.m gid aid (Y0 + u.l.length) (W1 + Z0)))
    generalize h3.set o5 _ = h4 at s4 ⊢
    refine q_reg ?_
    repeat (first | refine a_op (fun _ => rfl) ?_ | refine a_load rfl (by assumption) rfl ?_ | refine a_load_at rfl (by assumption) (by assumption) ?_ | refine a_iaddr_at rfl rfl (by assumption) ?_ | refine a_iaddr_l rfl rfl (by assumption) rfl ?_ | refine st_load_r rfl rfl ?_ | refine a_cmp rfl rfl rfl ?_ | refine a_eqi rfl rfl ?_ | refine st_not rfl ?_ | refine st_pick_t rfl rfl rfl ?_ | refine st_pick_f rfl rfl rfl ?_ | refine st_g rfl ?_ | refine a_gtf rfl ?_ | refine a_gft rfl ?_ | refine a_gu rfl ?_ | refine a_mklist (ec rfl en) (mz mkn) ?_ | refine a_mid ?_)
    first | refine a_endq (by repeat (first | exact pr_nil | (apply pr_cons; rfl))) ?_ | refine a_end (by repeat (first | exact pr_nil | (apply pr_cons; rfl))) ?_
    refine sc_block (sc_loop (X := { x : Nat × (Nat → Bool) × Heap // x.1 ≤ u.l.length ∧ (∀ w, S1 w = true → x.2.1 w = true) ∧ (∀ y ∈ u.l.take x.1, y.kind = 2 → x.2.1 y.who = true) ∧
          Sep x.2.2 ((o6, .iter (some I.mid) t.g.c (seen ++ [n]) t.g.c) :: (outL I t.abs pl gid aid o5 x.2.1 (Y0 + u.l.length) (W1 + Z0 + rowW t.abs (u.l.take x.1)) ++ RR)) })
      (fun x => ([(4, .ptr o4 0), (5, .ptr o5 0), (6, .func 72 [.ptr o5 0]), (59, .ptr o6 0), (70, u.hv (eIt I.bid)), (71, ii (u.l.map (eIt I.bid)).length), (72, ii x.1.1)], x.1.2.2)) (fun x => u.l.length - x.1.1)
      ⟨(0, S1, h4), Nat.zero_le _, fun _ h => h, by simp, by
        have : W1 + Z0 + rowW t.abs (u.l.take 0) = W1 + Z0 := by simp [rowW]
        rw [this]; exact s4⟩ (WeakF.refl _ _) ?_)
    rintro ⟨⟨j, S2, h5⟩, hj, hSS2, hin, s5⟩
    simp only at hj hSS2 hin s5
    refine q_reg ?_
    repeat (first | refine a_op (fun _ => rfl) ?_ | refine a_load rfl (by assumption) rfl ?_ | refine a_load_at rfl (by assumption) (by assumption) ?_ | refine a_iaddr_at rfl rfl (by assumption) ?_ | refine a_iaddr_l rfl rfl (by assumption) rfl ?_ | refine st_load_r rfl rfl ?_ | refine a_cmp rfl rfl rfl ?_ | refine a_eqi rfl rfl ?_ | refine st_not rfl ?_ | refine st_pick_t rfl rfl rfl ?_ | refine st_pick_f rfl rfl rfl ?_ | refine st_g rfl ?_ | refine a_gtf rfl ?_ | refine a_gft rfl ?_ | refine a_gu rfl ?_ | refine a_mklist (ec rfl en) (mz mkn) ?_ | refine a_mid ?_)
    first | refine a_endq (by repeat (first | exact pr_nil | (apply pr_cons; rfl))) ?_ | refine a_end (by repeat (first | exact pr_nil | (apply pr_cons; rfl))) ?_
    refine sc_seq (sc_cond rfl (fun hc0 => ?_) (fun hc0 => ?_))
    · have hc : j < u.l.length := by have := of_decide_eq_true hc0; dsimp only at this; rw [List.length_map] at this; omega
      obtain ⟨x, hx⟩ : ∃ x, u.l[j]? = some x := ⟨_, List.getElem?_eq_getElem hc⟩
      have hxo := hits x (List.mem_of_getElem? hx)
      have htk := rowW_take (t := t.abs) hx
      have hrb := rowW_bound (t := t.abs) (l := u.l.take j) (B := B) fun y _ => hbw y.who
      have hrb2 : (B : Int) * ((u.l.take j).length : Int) ≤ 4000000000000 := by
        rw [← Int.natCast_mul]
        have h1 : (u.l.take j).length ≤ B := by rw [List.length_take]; omega
        have := Nat.mul_le_mul_left B h1
        omega
      refine sc_skip (sq_n (sc_seq (sc_block (q_reg ?_))))
      repeat (first | refine a_op (fun _ => rfl) ?_ | refine a_load rfl (by assumption) rfl ?_ | refine a_load_at rfl (by assumption) (by assumption) ?_ | refine a_iaddr_at rfl rfl (by assumption) ?_ | refine a_iaddr_l rfl rfl (by assumption) rfl ?_ | refine st_load_r rfl rfl ?_ | refine a_cmp rfl rfl rfl ?_ | refine a_eqi rfl rfl ?_ | refine st_not rfl ?_ | refine st_pick_t rfl rfl rfl ?_ | refine st_pick_f rfl rfl rfl ?_ | refine st_g rfl ?_ | refine a_gtf rfl ?_ | refine a_gft rfl ?_ | refine a_gu rfl ?_ | refine a_mklist (ec rfl en) (mz mkn) ?_ | refine a_mid ?_)
      refine a_alloc ?_
      refine a_store rfl rfl (List.getElem?_concat_length) ⟨rfl, lb rfl, rfl⟩ ?_
      repeat (first | refine a_op (fun _ => rfl) ?_ | refine a_load rfl (by assumption) rfl ?_ | refine a_load_at rfl (by assumption) (by assumption) ?_ | refine a_iaddr_at rfl rfl (by assumption) ?_ | refine a_iaddr_l rfl rfl (by assumption) rfl ?_ | refine st_load_r rfl rfl ?_ | refine a_cmp rfl rfl rfl ?_ | refine a_eqi rfl rfl ?_ | refine st_not rfl ?_ | refine st_pick_t rfl rfl rfl ?_ | refine st_pick_f rfl rfl rfl ?_ | refine st_g rfl ?_ | refine a_gtf rfl ?_ | refine a_gft rfl ?_ | refine a_gu rfl ?_ | refine a_mklist (ec rfl en) (mz mkn) ?_ | refine a_mid ?_)
      first | refine a_endq (by repeat (first | exact pr_nil | (apply pr_cons; rfl))) ?_ | refine a_end (by repeat (first | exact pr_nil | (apply pr_cons; rfl))) ?_
      have s6 := Sep.set (A := []) (s5.new (.cells (itC ⟨0, 0, 0, 0, 0, 0, 0⟩ .nilptr))) (.cells (itC x (itP I.bid x)))
      change SC _ _ _ _ _ [(4, HV.ptr o4 0), (5, .ptr o5 0), (6, .func 72 [.ptr o5 0]), (14, .ptr h5.length 0), (59, .ptr o6 0), (70, u.hv (eIt I.bid)), (71, ii (u.l.map (eIt I.bid)).length), (72, ii (j : Int))] ((h5 ++ [HObj.cells (itC ⟨0, 0, 0, 0, 0, 0, 0⟩ .nilptr)]).set h5.length (.cells (itC x (itP I.bid x))))
      generalize h5.length = v5 at s6 ⊢
      generalize (h5 ++ [HObj.cells (itC ⟨0, 0, 0, 0, 0, 0, 0⟩ .nilptr)]).set v5 (.cells (itC x (itP I.bid x))) = h6 at s6 ⊢
      simp only [List.nil_append] at s6
      have gv : h6[v5]? = some (.cells (itC x (itP I.bid x))) := s6.get (by simp)
      refine q_reg ?_
      repeat (first | refine a_op (fun _ => rfl) ?_ | refine a_load rfl (by assumption) rfl ?_ | refine a_load_at rfl (by assumption) (by assumption) ?_ | refine a_iaddr_at rfl rfl (by assumption) ?_ | refine a_iaddr_l rfl rfl (by assumption) rfl ?_ | refine st_load_r rfl rfl ?_ | refine a_cmp rfl rfl rfl ?_ | refine a_eqi rfl rfl ?_ | refine st_not rfl ?_ | refine st_pick_t rfl rfl rfl ?_ | refine st_pick_f rfl rfl rfl ?_ | refine st_g rfl ?_ | refine a_gtf rfl ?_ | refine a_gft rfl ?_ | refine a_gu rfl ?_ | refine a_mklist (ec rfl en) (mz mkn) ?_ | refine a_mid ?_)
      first | refine a_endq (by repeat (first | exact pr_nil | (apply pr_cons; rfl))) ?_ | refine a_end (by repeat (first | exact pr_nil | (apply pr_cons; rfl))) ?_
      have e1 : (if false = true then !(x.kind == 2) else x.kind == 2) = decide (x.kind = 2) := by
        rw [if_neg (by decide)]
        rfl
      rw [e1]
      refine sc_cond (t := decide (x.kind = 2)) rfl (fun hkd => ?_) (fun hkd => ?_)
      · have hkd : x.kind = 2 := of_decide_eq_true hkd
        have hpp : itP I.bid x = .ptr (I.bid x.who) 0 := if_pos hkd
        have hpl0 : pl x.who = 0 := hP.way (n, q, u.l) (List.mem_map.2 ⟨(n, q, u), hmem, rfl⟩) x (List.mem_of_getElem? hx) hkd
        rw [hpp] at gv s6
        refine s_reg ?_
        repeat (first | refine a_op (fun _ => rfl) ?_ | refine a_load rfl (by assumption) rfl ?_ | refine a_load_at rfl (by assumption) (by assumption) ?_ | refine a_iaddr_at rfl rfl (by assumption) ?_ | refine a_iaddr_l rfl rfl (by assumption) rfl ?_ | refine st_load_r rfl rfl ?_ | refine a_cmp rfl rfl rfl ?_ | refine a_eqi rfl rfl ?_ | refine st_not rfl ?_ | refine st_pick_t rfl rfl rfl ?_ | refine st_pick_f rfl rfl rfl ?_ | refine st_g rfl ?_ | refine a_gtf rfl ?_ | refine a_gft rfl ?_ | refine a_gu rfl ?_ | refine a_mklist (ec rfl en) (mz mkn) ?_ | refine a_mid ?_)
        have s7 : Sep h6 (outL I t.abs pl gid aid o5 S2 (Y0 + u.l.length) (W1 + Z0 + rowW t.abs (u.l.take j)) ++ (lay I t ++ ((o6, .iter (some I.mid) t.g.c (seen ++ [n]) t.g.c) :: (o4, told0) :: R))) := by
          rw [hRR] at s6
          refine (s6.sub (List.sublist_cons_self _ _)).perm (perm_c fun c e ca cc c0 cp => ?_)
          simp only [ca, cc, c0]
          omega
        refine a_callv rfl (ec rfl (ec rfl (ec rfl en))) (tell_at (a := 0) ok hB hxo.who hpl0 (by omega) s7 (fun h7 s8 => ?_))
        have s8 : Sep h7 ((o6, .iter (some I.mid) t.g.c (seen ++ [n]) t.g.c) :: (outL I t.abs pl gid aid o5 (fupd S2 x.who true) (Y0 + u.l.length) (W1 + Z0 + rowW t.abs (u.l.take j) + itW t.abs x) ++ RR)) := by
          rw [show itW t.abs x = bodW t.abs x.who from if_pos hkd, hRR]
          refine s8.perm (perm_c fun c e ca cc c0 cp => ?_)
          simp only [ca, cc, c0]
          omega
        repeat (first | refine a_op (fun _ => rfl) ?_ | refine a_load rfl (by assumption) rfl ?_ | refine a_load_at rfl (by assumption) (by assumption) ?_ | refine a_iaddr_at rfl rfl (by assumption) ?_ | refine a_iaddr_l rfl rfl (by assumption) rfl ?_ | refine st_load_r rfl rfl ?_ | refine a_cmp rfl rfl rfl ?_ | refine a_eqi rfl rfl ?_ | refine st_not rfl ?_ | refine st_pick_t rfl rfl rfl ?_ | refine st_pick_f rfl rfl rfl ?_ | refine st_g rfl ?_ | refine a_gtf rfl ?_ | refine a_gft rfl ?_ | refine a_gu rfl ?_ | refine a_mklist (ec rfl en) (mz mkn) ?_ | refine a_mid ?_)
        first | refine a_endq (by repeat (first | exact pr_nil | (apply pr_cons; rfl))) ?_ | refine a_end (by repeat (first | exact pr_nil | (apply pr_cons; rfl))) ?_
        refine bl_n (id := 7) (sq_n (s_reg ?_))
        repeat (first | refine a_op (fun _ => rfl) ?_ | refine a_load rfl (by assumption) rfl ?_ | refine a_load_at rfl (by assumption) (by assumption) ?_ | refine a_iaddr_at rfl rfl (by assumption) ?_ | refine a_iaddr_l rfl rfl (by assumption) rfl ?_ | refine st_load_r rfl rfl ?_ | refine a_cmp rfl rfl rfl ?_ | refine a_eqi rfl rfl ?_ | refine st_not rfl ?_ | refine st_pick_t rfl rfl rfl ?_ | refine st_pick_f rfl rfl rfl ?_ | refine st_g rfl ?_ | refine a_gtf rfl ?_ | refine a_gft rfl ?_ | refine a_gu rfl ?_ | refine a_mklist (ec rfl en) (mz mkn) ?_ | refine a_mid ?_)
        refine a_add rfl rfl (by first | omega | (dsimp only; omega)) ?_
        repeat (first | refine a_op (fun _ => rfl) ?_ | refine a_load rfl (by assumption) rfl ?_ | refine a_load_at rfl (by assumption) (by assumption) ?_ | refine a_iaddr_at rfl rfl (by assumption) ?_ | refine a_iaddr_l rfl rfl (by assumption) rfl ?_ | refine st_load_r rfl rfl ?_ | refine a_cmp rfl rfl rfl ?_ | refine a_eqi rfl rfl ?_ | refine st_not rfl ?_ | refine st_pick_t rfl rfl rfl ?_ | refine st_pick_f rfl rfl rfl ?_ | refine st_g rfl ?_ | refine a_gtf rfl ?_ | refine a_gft rfl ?_ | refine a_gu rfl ?_ | refine a_mklist (ec rfl en) (mz mkn) ?_ | refine a_mid ?_)
        first | refine a_endq (by repeat (first | exact pr_nil | (apply pr_cons; rfl))) ?_ | refine a_end (by repeat (first | exact pr_nil | (apply pr_cons; rfl))) ?_
        refine lo_n ⟨(j + 1, fupd S2 x.who true, h7), hc, fun w h => (by show fupd S2 x.who true w = true; unfold fupd; split; rfl; exact hSS2 w h), fun y hy hk => ?_, ?_⟩ (by show u.l.length - (j + 1) < u.l.length - j; omega) (WeakF.refl _ _)
        · have hy : y ∈ u.l.take (j + 1) := hy
          rw [List.take_add_one, hx, Option.toList_some] at hy
          rcases List.mem_append.1 hy with hy | hy
          · show fupd S2 x.who true y.who = true
            unfold fupd
            split
            · rfl
            · exact hin y hy hk
          · rw [List.mem_singleton.1 hy]
            show fupd S2 x.who true x.who = true
            exact fupd_eq
        · have e : W1 + Z0 + rowW t.abs (u.l.take (j + 1)) = W1 + Z0 + rowW t.abs (u.l.take j) + itW t.abs x := by rw [htk]; omega
          rw [e]
          exact s8
      · have hkd : ¬ x.kind = 2 := of_decide_eq_false hkd
        refine sc_skip ?_
        refine bl_n (id := 7) (sq_n (s_reg ?_))
        repeat (first | refine a_op (fun _ => rfl) ?_ | refine a_load rfl (by assumption) rfl ?_ | refine a_load_at rfl (by assumption) (by assumption) ?_ | refine a_iaddr_at rfl rfl (by assumption) ?_ | refine a_iaddr_l rfl rfl (by assumption) rfl ?_ | refine st_load_r rfl rfl ?_ | refine a_cmp rfl rfl rfl ?_ | refine a_eqi rfl rfl ?_ | refine st_not rfl ?_ | refine st_pick_t rfl rfl rfl ?_ | refine st_pick_f rfl rfl rfl ?_ | refine st_g rfl ?_ | refine a_gtf rfl ?_ | refine a_gft rfl ?_ | refine a_gu rfl ?_ | refine a_mklist (ec rfl en) (mz mkn) ?_ | refine a_mid ?_)
        refine a_add rfl rfl (by first | omega | (dsimp only; omega)) ?_
        repeat (first | refine a_op (fun _ => rfl) ?_ | refine a_load rfl (by assumption) rfl ?_ | refine a_load_at rfl (by assumption) (by assumption) ?_ | refine a_iaddr_at rfl rfl (by assumption) ?_ | refine a_iaddr_l rfl rfl (by assumption) rfl ?_ | refine st_load_r rfl rfl ?_ | refine a_cmp rfl rfl rfl ?_ | refine a_eqi rfl rfl ?_ | refine st_not rfl ?_ | refine st_pick_t rfl rfl rfl ?_ | refine st_pick_f rfl rfl rfl ?_ | refine st_g rfl ?_ | refine a_gtf rfl ?_ | refine a_gft rfl ?_ | refine a_gu rfl ?_ | refine a_mklist (ec rfl en) (mz mkn) ?_ | refine a_mid ?_)
        first | refine a_endq (by repeat (first | exact pr_nil | (apply pr_cons; rfl))) ?_ | refine a_end (by repeat (first | exact pr_nil | (apply pr_cons; rfl))) ?_
        refine lo_n ⟨(j + 1, S2, h6), hc, hSS2, fun y hy hk => ?_, ?_⟩ (by show u.l.length - (j + 1) < u.l.length - j; omega) (WeakF.refl _ _)
        · have hy : y ∈ u.l.take (j + 1) := hy
          rw [List.take_add_one, hx, Option.toList_some] at hy
          rcases List.mem_append.1 hy with hy | hy
          · exact hin y hy hk
          · rw [List.mem_singleton.1 hy]
            exact absurd (List.mem_singleton.1 hy ▸ hk) hkd
        · have e : W1 + Z0 + rowW t.abs (u.l.take (j + 1)) = W1 + Z0 + rowW t.abs (u.l.take j) + itW t.abs x := by rw [htk]; omega
          rw [e]
          rw [show itW t.abs x = 0 from if_neg hkd, Int.add_zero]
          exact s6.sub (List.sublist_cons_self _ _)
    · have hc : ¬ j < u.l.length := by have := of_decide_eq_false hc0; dsimp only at this; rw [List.length_map] at this; omega
      rw [List.take_of_length_le (by omega)] at hin s5
      refine sc_exit (sq_x (lo_x (bl_x (bl_n ?_))))
      refine lo_n ⟨(seen ++ [n], S2, h5), hnd2, hsub2, fun w h => hSS2 w (hSS w h), fun p hp hps y hy hk => ?_, ?_⟩ (by show t.g.es.length - (seen ++ [n]).length < t.g.es.length - seen.length; rw [List.length_append, List.length_singleton]; omega) ws
      · rcases List.mem_append.1 hps with hps | hps
        · exact hSS2 _ (htold p hp hps y hy hk)
        · have hpn : p.1 = n := List.mem_singleton.1 hps
          have hpe : p = (n, q, u) := by
            obtain ⟨i, hi, he⟩ := List.getElem_of_mem hp
            obtain ⟨i2, hi2, he2⟩ := List.getElem_of_mem hmem
            have := nodup_inj' hstp i i2 n (by rw [List.getElem?_map, List.getElem?_eq_getElem hi, he]; simp [hpn]) (by rw [List.getElem?_map, List.getElem?_eq_getElem hi2, he2]; rfl)
            subst this
            rw [← he, ← he2]
          rw [hpe] at hy
          exact hin y hy hk
      · rw [hadd1, hadd2, ← Int.add_assoc]
        exact s5
  · repeat (first | refine a_op (fun _ => rfl) ?_ | refine a_load rfl (by assumption) rfl ?_ | refine a_load_at rfl (by assumption) (by assumption) ?_ | refine a_iaddr_at rfl rfl (by assumption) ?_ | refine a_iaddr_l rfl rfl (by assumption) rfl ?_ | refine st_load_r rfl rfl ?_ | refine a_cmp rfl rfl rfl ?_ | refine a_eqi rfl rfl ?_ | refine st_not rfl ?_ | refine st_pick_t rfl rfl rfl ?_ | refine st_pick_f rfl rfl rfl ?_ | refine st_g rfl ?_ | refine a_gtf rfl ?_ | refine a_gft rfl ?_ | refine a_gu rfl ?_ | refine a_mklist (ec rfl en) (mz mkn) ?_ | refine a_mid ?_)
    first | refine a_endq (by repeat (first | exact pr_nil | (apply pr_cons; rfl))) ?_ | refine a_end (by repeat (first | exact pr_nil | (apply pr_cons; rfl))) ?_
    refine sc_seq (s_cond_f rfl (sc_exit (sq_x (lo_x (bl_x (sq_n (q_reg ?_)))))))
    rw [seenS_all hG, seenS_all hG] at s2
    have hall : ∀ w, w < I.m → S1 w = true := fun w hw => by
      rcases hP.some_ w hw with ⟨i, hi, hh⟩ | ⟨p, hp, x, hx, hk, hxw⟩
      · exact hSS w (hS i w hi hw hh)
      · obtain ⟨p0, hp0, rfl⟩ := List.mem_map.1 hp
        rw [← hxw]
        exact htold p0 hp0 (hG p0 hp0) x hx hk
    have go : h2[o5]? = some (outO I.m gid aid (t.g.es.map fun p => (p.2.2.l.length : Int)).sum (W1 + (t.g.es.map fun p => rowW t.abs p.2.2.l).sum)) := s2.get (by simp)
    have g4 : h2[o4]? = some told0 := s2.get (by simp [hRR])
    repeat (first | refine a_op (fun _ => rfl) ?_ | refine a_load rfl (by assumption) rfl ?_ | refine a_load_at rfl (by assumption) (by assumption) ?_ | refine a_iaddr_at rfl rfl (by assumption) ?_ | refine a_iaddr_l rfl rfl (by assumption) rfl ?_ | refine st_load_r rfl rfl ?_ | refine a_cmp rfl rfl rfl ?_ | refine a_eqi rfl rfl ?_ | refine st_not rfl ?_ | refine st_pick_t rfl rfl rfl ?_ | refine st_pick_f rfl rfl rfl ?_ | refine st_g rfl ?_ | refine a_gtf rfl ?_ | refine a_gft rfl ?_ | refine a_gu rfl ?_ | refine a_mklist (ec rfl en) (mz mkn) ?_ | refine a_mid ?_)
    refine a_store rfl rfl g4 ⟨rfl, lb rfl, rfl⟩ ?_
    repeat (first | refine a_op (fun _ => rfl) ?_ | refine a_load rfl (by assumption) rfl ?_ | refine a_load_at rfl (by assumption) (by assumption) ?_ | refine a_iaddr_at rfl rfl (by assumption) ?_ | refine a_iaddr_l rfl rfl (by assumption) rfl ?_ | refine st_load_r rfl rfl ?_ | refine a_cmp rfl rfl rfl ?_ | refine a_eqi rfl rfl ?_ | refine st_not rfl ?_ | refine st_pick_t rfl rfl rfl ?_ | refine st_pick_f rfl rfl rfl ?_ | refine st_g rfl ?_ | refine a_gtf rfl ?_ | refine a_gft rfl ?_ | refine a_gu rfl ?_ | refine a_mklist (ec rfl en) (mz mkn) ?_ | refine a_mid ?_)
    first | refine a_endq (by repeat (first | exact pr_nil | (apply pr_cons; rfl))) ?_ | refine a_end (by repeat (first | exact pr_nil | (apply pr_cons; rfl))) ?_
    have s3 : Sep (h2.set o4 (outO I.m gid aid (t.g.es.map fun p => (p.2.2.l.length : Int)).sum (W1 + (t.g.es.map fun p => rowW t.abs p.2.2.l).sum))) ((o4, outO I.m gid aid (t.g.es.map fun p => (p.2.2.l.length : Int)).sum (W1 + (t.g.es.map fun p => rowW t.abs p.2.2.l).sum)) :: (gid, gotO I.m (GS t.abs S1)) :: (aid, atO I.m (AS pl S1)) :: R) := by
      rw [hRR] at s2
      have := s2.upd (L' := (o4, outO I.m gid aid (t.g.es.map fun p => (p.2.2.l.length : Int)).sum (W1 + (t.g.es.map fun p => rowW t.abs p.2.2.l).sum)) :: (gid, gotO I.m (GS t.abs S1)) :: (aid, atO I.m (AS pl S1)) :: (R ++ ((o6, .iter (some I.mid) t.g.c seen t.g.c) :: (o5, outO I.m gid aid (t.g.es.map fun p => (p.2.2.l.length : Int)).sum (W1 + (t.g.es.map fun p => rowW t.abs p.2.2.l).sum)) :: lay I t)))
        (M := (gid, gotO I.m (GS t.abs S1)) :: (aid, atO I.m (AS pl S1)) :: (R ++ ((o6, .iter (some I.mid) t.g.c seen t.g.c) :: (o5, outO I.m gid aid (t.g.es.map fun p => (p.2.2.l.length : Int)).sum (W1 + (t.g.es.map fun p => rowW t.abs p.2.2.l).sum)) :: lay I t))) (i := o4) (o := told0)
        (o' := outO I.m gid aid (t.g.es.map fun p => (p.2.2.l.length : Int)).sum (W1 + (t.g.es.map fun p => rowW t.abs p.2.2.l).sum)) (perm_c fun c e ca cc c0 cp => by simp only [ca, cc, c0]; omega) (List.Perm.refl _)
      exact this.sub ((((List.sublist_append_left _ _).cons_cons _).cons_cons _).cons_cons _)
    refine SC.weak (WeakF.refl _ _) (told_end s3 (fun h' s4 => ?_))
    have e1 : (List.range I.m).map (GS t.abs S1) = (List.range I.m).map t.abs.got := List.map_congr_left fun w hw => by
      unfold GS
      rw [hall w (List.mem_range.1 hw)]
      rfl
    have e2 : ((List.range I.m).map fun w => (AS pl S1 w : Int)) = (List.range I.m).map fun w => (pl w : Int) := List.map_congr_left fun w hw => by
      unfold AS
      rw [hall w (List.mem_range.1 hw)]
      rfl
    have e3 : (t.g.es.map fun p => (p.2.2.l.length : Int)).sum = waysS t.abs := by
      show _ = ((t.g.es.map fun q => (q.1, q.2.1, q.2.2.l)).map fun p => (p.2.2.length : Int)).sum
      rw [List.map_map]
      rfl
    have e4 : W1 + (t.g.es.map fun p => rowW t.abs p.2.2.l).sum = waitsS t.abs I.K I.m := by
      unfold waitsS
      rw [hW]
      show _ = _ + ((t.g.es.map fun q => (q.1, q.2.1, q.2.2.l)).map fun p => rowW t.abs p.2.2).sum
      rw [List.map_map]
      rfl
    rw [e1, e2, e3, e4]
    exact kk h' s4
end Go.Hw.VM

