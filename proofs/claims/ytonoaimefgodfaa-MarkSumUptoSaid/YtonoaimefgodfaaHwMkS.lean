import Derived.Test.YtonoaimefgodfaaHwMkN
set_option linter.unusedVariables false
set_option linter.unusedSimpArgs false
namespace Go.Hw.VK
open Go Go.Proofs

abbrev e2 : List (List Int) → HV := eLst (eLst (eInt .i64))
theorem enc_e2 : Enc e2 1 := enc_lst (enc_lst (enc_int .i64))
def sumI (l : List Item) : Int := (l.map Item.n).sum
def leftF (g : GM Key (List Item)) : Int := (g.es.map fun p => sumI p.2.2).sum
def shotF (t : Tw) : GMark_Shot :=
  ⟨(t.sides.map tellF).all fun e => decide (e.2.2 = 0), if (t.sides.map tellF).all fun e => decide (e.2.2 = 0) then (t.sides.map tellF).map (·.1) else [],
   if (t.sides.map tellF).all fun e => decide (e.2.2 = 0) then (t.sides.map tellF).map (·.2.1) else [], t.coins, leftF t.ways⟩
abbrev shotO (dn : Bool) (st : RW Int) (wy : RW (List (List Int))) (now : List Int) (lf : Int) : HObj := .cells [.bool dn, st.hv (eInt .i64), wy.hv e2, ln (eInt .i64) now, ii lf]
abbrev shot0 : HObj := .cells [.bool false, .list [] .full, .list [] .full, .list [] .full, ii 0]
def seenSum (es : List (Nat × Key × RW Item)) (seen : List Nat) : Int := ((es.filter fun p => decide (p.1 ∈ seen)).map fun p => sumI p.2.2.l).sum
theorem seenSum_nil (es : List (Nat × Key × RW Item)) : seenSum es [] = 0 := by
  unfold seenSum
  rw [List.filter_eq_nil_iff.2 (by simp)]
  rfl
theorem seenSum_all {es : List (Nat × Key × RW Item)} {seen : List Nat} (h : ∀ p ∈ es, p.1 ∈ seen) : seenSum es seen = (es.map fun p => sumI p.2.2.l).sum := by
  unfold seenSum
  rw [List.filter_eq_self.2 fun p hp => by simpa using h p hp]
theorem seenSum_add : ∀ {es : List (Nat × Key × RW Item)} {seen : List Nat} {p : Nat × Key × RW Item}, (es.map Prod.fst).Nodup → p ∈ es → p.1 ∉ seen → seenSum es (seen ++ [p.1]) = seenSum es seen + sumI p.2.2.l
  | [], seen, p, _, hp, _ => by simp at hp
  | q :: es, seen, p, hnd, hp, hs => by
    simp only [List.map_cons, List.nodup_cons] at hnd
    unfold seenSum
    simp only [List.filter_cons]
    rcases List.mem_cons.1 hp with rfl | hp
    · have hrest : es.filter (fun q => decide (q.1 ∈ seen ++ [p.1])) = es.filter fun q => decide (q.1 ∈ seen) := by
        refine List.filter_congr fun q hq => ?_
        have : q.1 ≠ p.1 := fun e => hnd.1 (e ▸ List.mem_map.2 ⟨q, hq, rfl⟩)
        simp [this]
      rw [if_pos (by simp), if_neg (by simpa using hs), hrest]
      simp only [List.map_cons, List.sum_cons]
      omega
    · have hne : q.1 ≠ p.1 := fun e => hnd.1 (e ▸ List.mem_map.2 ⟨p, hp, rfl⟩)
      have ih := seenSum_add hnd.2 hp hs
      unfold seenSum at ih
      by_cases hq : q.1 ∈ seen
      · rw [if_pos (by simp [hq]), if_pos (by simp [hq])]
        simp only [List.map_cons, List.sum_cons]
        omega
      · rw [if_neg (by simp [hq, hne]), if_neg (by simp [hq])]
        exact ih
theorem sumI_bound {l : List Item} (h : ∀ x ∈ l, -1000000000 ≤ x.n ∧ x.n ≤ 1000000000) : -1000000000 * (l.length : Int) ≤ sumI l ∧ sumI l ≤ 1000000000 * (l.length : Int) := by
  induction l with
  | nil => simp [sumI]
  | cons a l ih =>
    have := ih fun x hx => h x (by simp [hx])
    have ha := h a (by simp)
    unfold sumI at *
    simp only [List.map_cons, List.sum_cons, List.length_cons]
    omega
theorem sumI_take {l : List Item} {k : Nat} {x : Item} (h : l[k]? = some x) : sumI (l.take (k + 1)) = sumI (l.take k) + x.n := by
  rw [List.take_add_one, h]
  unfold sumI
  simp
theorem nodup_len {A : Type} [DecidableEq A] : ∀ {l m : List A}, l.Nodup → (∀ x ∈ l, x ∈ m) → l.length ≤ m.length
  | [], m, _, _ => Nat.zero_le _
  | a :: l, m, hnd, hs => by
    obtain ⟨h1, h2⟩ := List.nodup_cons.1 hnd
    have hm := hs a (by simp)
    have := nodup_len (l := l) (m := m.erase a) h2 fun x hx => (List.mem_erase_of_ne (by rintro rfl; exact h1 hx)).2 (hs x (by simp [hx]))
    rw [List.length_erase_of_mem hm] at this
    have := List.length_pos_of_mem hm
    simp only [List.length_cons]
    omega
theorem rowSum_bound {es : List (Nat × Key × RW Item)} {B : Nat} (h : ∀ p ∈ es, p.2.2.l.length ≤ B ∧ ∀ x ∈ p.2.2.l, -1000000000 ≤ x.n ∧ x.n ≤ 1000000000) (seen : List Nat) :
    -(1000000000 * (B : Int) * (es.length : Int)) ≤ seenSum es seen ∧ seenSum es seen ≤ 1000000000 * (B : Int) * (es.length : Int) := by
  induction es with
  | nil => simp [seenSum]
  | cons q es ih =>
    have ih := ih fun p hp => h p (by simp [hp])
    obtain ⟨h1, h2⟩ := h q (by simp)
    have hb := sumI_bound h2
    have hm : (1000000000 : Int) * (q.2.2.l.length : Int) ≤ 1000000000 * (B : Int) := by omega
    have e : 1000000000 * (B : Int) * ((q :: es).length : Int) = 1000000000 * (B : Int) * (es.length : Int) + 1000000000 * (B : Int) := by
      simp only [List.length_cons, Int.natCast_add, Int.natCast_one, Int.mul_add, Int.mul_one]
    rw [e]
    generalize 1000000000 * (B : Int) * (es.length : Int) = Z at ih ⊢
    unfold seenSum at *
    simp only [List.filter_cons]
    split
    · simp only [List.map_cons, List.sum_cons]
      omega
    · omega
def hc61t : C := (.seq (.seq (.reg [mo 59 0, oo 60 (.nilck 59), oo 61 (.faddr 1 1 60), oo 62 (.load none 61), oo 63 (.range false 62)] [2, 3, 63]) (.block 2 (.loop (.seq (.reg [oo 64 (.next false 63), oo 65 (.extract 64 0)] [2, 3, 63, 65]) (.seq (.cond 65 .skip (.exit 2)) (.block 3 (.seq (.reg [oo 66 (.entry 63), oo 67 (.extract 66 1), mo 10 67] [2, 3, 10, 63]) (.seq (.reg [mo 68 10, oo 69 (.len false 68), oo 70 (.mv (.c (.int .i64 0)))] [2, 3, 63, 68, 69, 70]) (.block 4 (.loop (.seq (.reg [oo 71 (.bin .lss 70 69)] [2, 3, 63, 68, 69, 70, 71]) (.seq (.cond 71 .skip (.exit 4)) (.seq (.block 5 (.seq (.reg [oo 72 (.iaddr 2 68 70), oo 73 (.load (some 2) 72), oo 12 (.alloc none [(.int .i64 0), (.bool false)]), os (.store 2 12 73)] [2, 3, 12, 63, 68, 69, 70]) (.reg [oo 74 (.faddr 4 1 3), oo 75 (.load none 74), oo 76 (.faddr 0 1 12), oo 77 (.load none 76), oo 78 (.bin .add 75 77), oo 79 (.faddr 4 1 3), os (.store 1 79 78)] [2, 3, 63, 68, 69, 70]))) (.reg [oo 80 (.bin .add 70 (.c (.int .i64 1))), mo 70 80] [2, 3, 63, 68, 69, 70])))))))))))))) (.seq (.reg [oo 81 (.load (some 5) 3), os (.store 5 2 81)] [2]) .ret))
theorem r61b {h : Heap} {R : Lay} {T : PT} {B o2 o3 : Nat} {v0 v1 v2 v3 : HV} (ok : T.ok B) (hB : B ≤ 90000) (hE : T.g.es.length ≤ 1000) (hit : ∀ q ∈ T.g.es, ∀ x ∈ q.2.2.l, -1000000000 ≤ x.n ∧ x.n ≤ 1000000000)
    (hs : Sep h ((o3, .cells [v0, v1, v2, v3, ii 0]) :: (o2, shot0) :: (T.lay ++ R))) {Q : HV → Heap → Prop}
    (kk : ∀ (h' : Heap), Sep h' R → Q (.agg [v0, v1, v2, v3, ii (T.g.es.map fun p => sumI p.2.2.l).sum]) h') : SC Try.prog Try.f61.ntmps o2 hc61t (RetS2 [.c 2 (some 5)] o2 Q) [(0, .ptr T.p 0), (2, .ptr o2 0), (3, .ptr o3 0)] h := by
  unfold hc61t
  have gp : h[T.p]? = some T.obj := hs.get (by simp [PT.lay])
  have gm : h[T.m]? = some (T.g.obj eKey (RW.hv eItem)) := hs.get (by simp [PT.lay])
  have hwf := ok.wf
  have hstp : (T.g.es.map Prod.fst).Nodup := ok.stamps
  have hrows : ∀ p ∈ T.g.es, p.2.2.l.length ≤ B ∧ ∀ x ∈ p.2.2.l, -1000000000 ≤ x.n ∧ x.n ≤ 1000000000 := fun p hp => ⟨(ok.rows p hp).2, hit p hp⟩
  have hBE : 1000000000 * (B : Int) * (T.g.es.length : Int) ≤ 90000000000000000 := by
    have h1 : 1000000000 * (B : Int) ≤ 90000000000000 := by omega
    have h2 : (T.g.es.length : Int) ≤ 1000 := by omega
    calc 1000000000 * (B : Int) * (T.g.es.length : Int) ≤ 90000000000000 * (T.g.es.length : Int) := Int.mul_le_mul_of_nonneg_right h1 (by omega)
      _ ≤ 90000000000000000 := by omega
  refine sc_seq (q_reg ?_)
  repeat (first | refine a_op (fun _ => rfl) ?_ | refine a_load rfl (by assumption) rfl ?_ | refine a_load_at rfl (by assumption) (by assumption) ?_ | refine a_iaddr_at rfl rfl (by assumption) ?_ | refine a_iaddr_l rfl rfl (by assumption) rfl ?_ | refine st_load_r rfl rfl ?_ | refine a_cmp rfl rfl rfl ?_ | refine a_eqi rfl rfl ?_ | refine st_not rfl ?_ | refine st_pick_t rfl rfl rfl ?_ | refine st_pick_f rfl rfl rfl ?_ | refine st_g rfl ?_ | refine a_gtf rfl ?_ | refine a_gft rfl ?_ | refine a_gu rfl ?_ | refine a_mklist (ec rfl en) (mz mkn) ?_ | refine a_mid ?_)
  refine g_range (mm := T.g) (n := h.length) rfl gm rfl rfl ?_
  repeat (first | refine a_op (fun _ => rfl) ?_ | refine a_load rfl (by assumption) rfl ?_ | refine a_load_at rfl (by assumption) (by assumption) ?_ | refine a_iaddr_at rfl rfl (by assumption) ?_ | refine a_iaddr_l rfl rfl (by assumption) rfl ?_ | refine st_load_r rfl rfl ?_ | refine a_cmp rfl rfl rfl ?_ | refine a_eqi rfl rfl ?_ | refine st_not rfl ?_ | refine st_pick_t rfl rfl rfl ?_ | refine st_pick_f rfl rfl rfl ?_ | refine st_g rfl ?_ | refine a_gtf rfl ?_ | refine a_gft rfl ?_ | refine a_gu rfl ?_ | refine a_mklist (ec rfl en) (mz mkn) ?_ | refine a_mid ?_)
  first | refine a_endq (by repeat (first | exact pr_nil | (apply pr_cons; rfl))) ?_ | refine a_end (by repeat (first | exact pr_nil | (apply pr_cons; rfl))) ?_
  have s1 := hs.new (.iter (some T.m) T.g.c [] T.g.c)
  change SC _ _ _ _ _ [(2, HV.ptr o2 0), (3, .ptr o3 0), (63, .ptr h.length 0)] (h ++ [HObj.iter (some T.m) T.g.c [] T.g.c])
  generalize h.length = o4 at s1 ⊢
  generalize h ++ [HObj.iter (some T.m) T.g.c [] T.g.c] = h1 at s1 ⊢
  clear gp gm hs h
  refine sc_block (sc_loop (X := { x : List Nat × Heap // x.1.Nodup ∧ (∀ n ∈ x.1, n ∈ T.g.es.map Prod.fst) ∧ Sep x.2 ((o4, .iter (some T.m) T.g.c x.1 T.g.c) :: (o3, .cells [v0, v1, v2, v3, ii (seenSum T.g.es x.1)]) :: (o2, shot0) :: (T.lay ++ R)) })
      (fun x => ([(2, .ptr o2 0), (3, .ptr o3 0), (63, .ptr o4 0)], x.1.2)) (fun x => T.g.es.length - x.1.1.length) ⟨([], h1), by simp, by simp, by rw [seenSum_nil]; exact s1⟩ (WeakF.refl _ _) ?_)
  rintro ⟨⟨seen, h2⟩, hnd, hsub, s2⟩
  simp only at hnd hsub s2
  have gi : h2[o4]? = some (.iter (some T.m) T.g.c seen T.g.c) := s2.get (by simp)
  have gm : h2[T.m]? = some (T.g.obj eKey (RW.hv eItem)) := s2.get (by simp [PT.lay])
  refine q_reg ?_
  refine g_next (mm := T.g) (F := fun n q v => (n, q, v) ∈ T.g.es ∧ n ∉ seen) (G := ∀ p ∈ T.g.es, p.1 ∈ seen) rfl gi gm ⟨?_, fun n q v h1 h2 => ⟨h1, h2⟩, fun hall p hp => ?_⟩ (fun n => h2.set o4 (.iter (some T.m) T.g.c (seen ++ [n]) T.g.c)) (fun _ => rfl) (fun n q v hF => ?_) (fun hG => ?_)
  · cases hes : T.g.es with
    | nil => exact .inr (.inl rfl)
    | cons p es => exact .inr (.inr ⟨p, by simp, hwf.births p (by rw [hes]; simp)⟩)
  · by_cases hps : p.1 ∈ seen
    · exact hps
    · have h1 := hall p hp hps
      have h2 := hwf.births p hp
      omega
  · -- another entry
    obtain ⟨hmem, hns⟩ := hF
    obtain ⟨hvl, hvb⟩ := hrows _ hmem
    simp only at hvl hvb
    have hadd := seenSum_add hstp hmem hns
    simp only at hadd
    have hb1 := rowSum_bound hrows seen
    have hb2 := sumI_bound hvb
    have s3 := Sep.set (A := []) s2 (.iter (some T.m) T.g.c (seen ++ [n]) T.g.c)
    simp only [List.nil_append] at s3
    repeat (first | refine a_op (fun _ => rfl) ?_ | refine a_load rfl (by assumption) rfl ?_ | refine a_load_at rfl (by assumption) (by assumption) ?_ | refine a_iaddr_at rfl rfl (by assumption) ?_ | refine a_iaddr_l rfl rfl (by assumption) rfl ?_ | refine st_load_r rfl rfl ?_ | refine a_cmp rfl rfl rfl ?_ | refine a_eqi rfl rfl ?_ | refine st_not rfl ?_ | refine st_pick_t rfl rfl rfl ?_ | refine st_pick_f rfl rfl rfl ?_ | refine st_g rfl ?_ | refine a_gtf rfl ?_ | refine a_gft rfl ?_ | refine a_gu rfl ?_ | refine a_mklist (ec rfl en) (mz mkn) ?_ | refine a_mid ?_)
    first | refine a_endq (by repeat (first | exact pr_nil | (apply pr_cons; rfl))) ?_ | refine a_end (by repeat (first | exact pr_nil | (apply pr_cons; rfl))) ?_
    generalize h2.set o4 (.iter (some T.m) T.g.c (seen ++ [n]) T.g.c) = h3 at s3 ⊢
    have gi : h3[o4]? = some (.iter (some T.m) T.g.c (seen ++ [n]) T.g.c) := s3.get (by simp)
    have gm : h3[T.m]? = some (T.g.obj eKey (RW.hv eItem)) := s3.get (by simp [PT.lay])
    have hfind : T.g.es.find? (fun p => p.1 == n) = some (n, q, v) := by
      rw [List.find?_eq_some_iff_getElem]
      obtain ⟨i, hi, he⟩ := List.getElem_of_mem hmem
      refine ⟨by simp, i, hi, he, fun j hj => ?_⟩
      simp only [Bool.not_eq_true', beq_eq_false_iff_ne, ne_eq]
      intro hc
      have := nodup_inj' hstp j i n (by rw [List.getElem?_map, List.getElem?_eq_getElem (by omega)]; simp [hc]) (by rw [List.getElem?_map, List.getElem?_eq_getElem hi, he]; rfl)
      omega
    have hnd2 : (seen ++ [n]).Nodup := by
      rw [List.nodup_append]
      exact ⟨hnd, by simp, fun a ha c hc => by simp at hc; subst hc; rintro rfl; exact hns ha⟩
    have hsub2 : ∀ x ∈ seen ++ [n], x ∈ T.g.es.map Prod.fst := fun x hx => by
      rcases List.mem_append.1 hx with hx | hx
      · exact hsub x hx
      · rw [List.mem_singleton.1 hx]
        exact List.mem_map.2 ⟨_, hmem, rfl⟩
    have hlen2 := nodup_len hnd2 hsub2
    rw [List.length_append, List.length_map, List.length_singleton] at hlen2
    refine sc_seq (s_cond_t rfl (sc_skip (sq_n (sc_block (q_reg ?_)))))
    refine g_entry (mm := T.g) (K := fun _ u => u = v) rfl gi gm ⟨n, by simp, rfl, ⟨_, hfind⟩, fun n' q' u hu => by rw [hfind] at hu; injection hu with hu; injection hu with _ hu; injection hu with _ hu; exact hu.symm⟩ (fun q' u hu => ?_)
    subst hu
    repeat (first | refine a_op (fun _ => rfl) ?_ | refine a_load rfl (by assumption) rfl ?_ | refine a_load_at rfl (by assumption) (by assumption) ?_ | refine a_iaddr_at rfl rfl (by assumption) ?_ | refine a_iaddr_l rfl rfl (by assumption) rfl ?_ | refine st_load_r rfl rfl ?_ | refine a_cmp rfl rfl rfl ?_ | refine a_eqi rfl rfl ?_ | refine st_not rfl ?_ | refine st_pick_t rfl rfl rfl ?_ | refine st_pick_f rfl rfl rfl ?_ | refine st_g rfl ?_ | refine a_gtf rfl ?_ | refine a_gft rfl ?_ | refine a_gu rfl ?_ | refine a_mklist (ec rfl en) (mz mkn) ?_ | refine a_mid ?_)
    first | refine a_endq (by repeat (first | exact pr_nil | (apply pr_cons; rfl))) ?_ | refine a_end (by repeat (first | exact pr_nil | (apply pr_cons; rfl))) ?_
    refine q_reg ?_
    repeat (first | refine a_op (fun _ => rfl) ?_ | refine a_load rfl (by assumption) rfl ?_ | refine a_load_at rfl (by assumption) (by assumption) ?_ | refine a_iaddr_at rfl rfl (by assumption) ?_ | refine a_iaddr_l rfl rfl (by assumption) rfl ?_ | refine st_load_r rfl rfl ?_ | refine a_cmp rfl rfl rfl ?_ | refine a_eqi rfl rfl ?_ | refine st_not rfl ?_ | refine st_pick_t rfl rfl rfl ?_ | refine st_pick_f rfl rfl rfl ?_ | refine st_g rfl ?_ | refine a_gtf rfl ?_ | refine a_gft rfl ?_ | refine a_gu rfl ?_ | refine a_mklist (ec rfl en) (mz mkn) ?_ | refine a_mid ?_)
    first | refine a_endq (by repeat (first | exact pr_nil | (apply pr_cons; rfl))) ?_ | refine a_end (by repeat (first | exact pr_nil | (apply pr_cons; rfl))) ?_
    obtain ⟨S0, hS0⟩ : ∃ S0, seenSum T.g.es seen = S0 := ⟨_, rfl⟩
    rw [hS0] at s3 hb1 hadd
    refine sc_block (sc_loop (X := { x : Nat × Heap // x.1 ≤ u.l.length ∧ Sep x.2 ((o4, .iter (some T.m) T.g.c (seen ++ [n]) T.g.c) :: (o3, .cells [v0, v1, v2, v3, ii (S0 + sumI (u.l.take x.1))]) :: (o2, shot0) :: (T.lay ++ R)) })
      (fun x => ([(2, .ptr o2 0), (3, .ptr o3 0), (63, .ptr o4 0), (68, u.hv eItem), (69, ii (u.l.map eItem).length), (70, ii x.1.1)], x.1.2)) (fun x => u.l.length - x.1.1)
      ⟨(0, h3), Nat.zero_le _, by
        have : S0 + sumI (u.l.take 0) = S0 := by simp [sumI]
        rw [this]; exact s3⟩ (WeakF.refl _ _) ?_)
    rintro ⟨⟨j, h4⟩, hj, s4⟩
    simp only at hj s4
    refine q_reg ?_
    repeat (first | refine a_op (fun _ => rfl) ?_ | refine a_load rfl (by assumption) rfl ?_ | refine a_load_at rfl (by assumption) (by assumption) ?_ | refine a_iaddr_at rfl rfl (by assumption) ?_ | refine a_iaddr_l rfl rfl (by assumption) rfl ?_ | refine st_load_r rfl rfl ?_ | refine a_cmp rfl rfl rfl ?_ | refine a_eqi rfl rfl ?_ | refine st_not rfl ?_ | refine st_pick_t rfl rfl rfl ?_ | refine st_pick_f rfl rfl rfl ?_ | refine st_g rfl ?_ | refine a_gtf rfl ?_ | refine a_gft rfl ?_ | refine a_gu rfl ?_ | refine a_mklist (ec rfl en) (mz mkn) ?_ | refine a_mid ?_)
    first | refine a_endq (by repeat (first | exact pr_nil | (apply pr_cons; rfl))) ?_ | refine a_end (by repeat (first | exact pr_nil | (apply pr_cons; rfl))) ?_
    refine sc_seq (sc_cond rfl (fun hc0 => ?_) (fun hc0 => ?_))
    · have hc : j < u.l.length := by have := of_decide_eq_true hc0; dsimp only at this; rw [List.length_map] at this; omega
      obtain ⟨x, hx⟩ : ∃ x, u.l[j]? = some x := ⟨_, List.getElem?_eq_getElem hc⟩
      have hxb := hvb x (List.mem_of_getElem? hx)
      have htk := sumI_take hx
      have hb3 := sumI_bound (l := u.l.take j) (fun y hy => hvb y (List.mem_of_mem_take hy))
      have hb4 : (u.l.take j).length ≤ B := by rw [List.length_take]; omega
      refine sc_skip (sq_n (sc_seq (sc_block (q_reg ?_))))
      repeat (first | refine a_op (fun _ => rfl) ?_ | refine a_load rfl (by assumption) rfl ?_ | refine a_load_at rfl (by assumption) (by assumption) ?_ | refine a_iaddr_at rfl rfl (by assumption) ?_ | refine a_iaddr_l rfl rfl (by assumption) rfl ?_ | refine st_load_r rfl rfl ?_ | refine a_cmp rfl rfl rfl ?_ | refine a_eqi rfl rfl ?_ | refine st_not rfl ?_ | refine st_pick_t rfl rfl rfl ?_ | refine st_pick_f rfl rfl rfl ?_ | refine st_g rfl ?_ | refine a_gtf rfl ?_ | refine a_gft rfl ?_ | refine a_gu rfl ?_ | refine a_mklist (ec rfl en) (mz mkn) ?_ | refine a_mid ?_)
      refine a_alloc ?_
      refine a_store rfl rfl (List.getElem?_concat_length) ⟨rfl, lb rfl, rfl⟩ ?_
      repeat (first | refine a_op (fun _ => rfl) ?_ | refine a_load rfl (by assumption) rfl ?_ | refine a_load_at rfl (by assumption) (by assumption) ?_ | refine a_iaddr_at rfl rfl (by assumption) ?_ | refine a_iaddr_l rfl rfl (by assumption) rfl ?_ | refine st_load_r rfl rfl ?_ | refine a_cmp rfl rfl rfl ?_ | refine a_eqi rfl rfl ?_ | refine st_not rfl ?_ | refine st_pick_t rfl rfl rfl ?_ | refine st_pick_f rfl rfl rfl ?_ | refine st_g rfl ?_ | refine a_gtf rfl ?_ | refine a_gft rfl ?_ | refine a_gu rfl ?_ | refine a_mklist (ec rfl en) (mz mkn) ?_ | refine a_mid ?_)
      first | refine a_endq (by repeat (first | exact pr_nil | (apply pr_cons; rfl))) ?_ | refine a_end (by repeat (first | exact pr_nil | (apply pr_cons; rfl))) ?_
      have s5 := Sep.set (A := []) (s4.new (.cells [ii 0, .bool false])) (.cells [ii x.n, .bool x.marker])
      change SC _ _ _ _ _ [(2, HV.ptr o2 0), (3, .ptr o3 0), (12, .ptr h4.length 0), (63, .ptr o4 0), (68, u.hv eItem), (69, ii (u.l.map eItem).length), (70, ii (j : Int))] ((h4 ++ [HObj.cells [ii 0, .bool false]]).set h4.length (.cells [ii x.n, .bool x.marker]))
      generalize h4.length = o5 at s5 ⊢
      generalize (h4 ++ [HObj.cells [ii 0, .bool false]]).set o5 (.cells [ii x.n, .bool x.marker]) = h5 at s5 ⊢
      simp only [List.nil_append] at s5
      have go : h5[o3]? = some (.cells [v0, v1, v2, v3, ii (S0 + sumI (u.l.take j))]) := s5.get (by simp)
      have g5 : h5[o5]? = some (.cells [ii x.n, .bool x.marker]) := s5.get (by simp)
      refine s_reg ?_
      repeat (first | refine a_op (fun _ => rfl) ?_ | refine a_load rfl (by assumption) rfl ?_ | refine a_load_at rfl (by assumption) (by assumption) ?_ | refine a_iaddr_at rfl rfl (by assumption) ?_ | refine a_iaddr_l rfl rfl (by assumption) rfl ?_ | refine st_load_r rfl rfl ?_ | refine a_cmp rfl rfl rfl ?_ | refine a_eqi rfl rfl ?_ | refine st_not rfl ?_ | refine st_pick_t rfl rfl rfl ?_ | refine st_pick_f rfl rfl rfl ?_ | refine st_g rfl ?_ | refine a_gtf rfl ?_ | refine a_gft rfl ?_ | refine a_gu rfl ?_ | refine a_mklist (ec rfl en) (mz mkn) ?_ | refine a_mid ?_)
      refine a_add rfl rfl (by omega) ?_
      repeat (first | refine a_op (fun _ => rfl) ?_ | refine a_load rfl (by assumption) rfl ?_ | refine a_load_at rfl (by assumption) (by assumption) ?_ | refine a_iaddr_at rfl rfl (by assumption) ?_ | refine a_iaddr_l rfl rfl (by assumption) rfl ?_ | refine st_load_r rfl rfl ?_ | refine a_cmp rfl rfl rfl ?_ | refine a_eqi rfl rfl ?_ | refine st_not rfl ?_ | refine st_pick_t rfl rfl rfl ?_ | refine st_pick_f rfl rfl rfl ?_ | refine st_g rfl ?_ | refine a_gtf rfl ?_ | refine a_gft rfl ?_ | refine a_gu rfl ?_ | refine a_mklist (ec rfl en) (mz mkn) ?_ | refine a_mid ?_)
      refine a_store rfl rfl go ⟨rfl, lb rfl, rfl⟩ ?_
      repeat (first | refine a_op (fun _ => rfl) ?_ | refine a_load rfl (by assumption) rfl ?_ | refine a_load_at rfl (by assumption) (by assumption) ?_ | refine a_iaddr_at rfl rfl (by assumption) ?_ | refine a_iaddr_l rfl rfl (by assumption) rfl ?_ | refine st_load_r rfl rfl ?_ | refine a_cmp rfl rfl rfl ?_ | refine a_eqi rfl rfl ?_ | refine st_not rfl ?_ | refine st_pick_t rfl rfl rfl ?_ | refine st_pick_f rfl rfl rfl ?_ | refine st_g rfl ?_ | refine a_gtf rfl ?_ | refine a_gft rfl ?_ | refine a_gu rfl ?_ | refine a_mklist (ec rfl en) (mz mkn) ?_ | refine a_mid ?_)
      first | refine a_endq (by repeat (first | exact pr_nil | (apply pr_cons; rfl))) ?_ | refine a_end (by repeat (first | exact pr_nil | (apply pr_cons; rfl))) ?_
      refine s_reg ?_
      repeat (first | refine a_op (fun _ => rfl) ?_ | refine a_load rfl (by assumption) rfl ?_ | refine a_load_at rfl (by assumption) (by assumption) ?_ | refine a_iaddr_at rfl rfl (by assumption) ?_ | refine a_iaddr_l rfl rfl (by assumption) rfl ?_ | refine st_load_r rfl rfl ?_ | refine a_cmp rfl rfl rfl ?_ | refine a_eqi rfl rfl ?_ | refine st_not rfl ?_ | refine st_pick_t rfl rfl rfl ?_ | refine st_pick_f rfl rfl rfl ?_ | refine st_g rfl ?_ | refine a_gtf rfl ?_ | refine a_gft rfl ?_ | refine a_gu rfl ?_ | refine a_mklist (ec rfl en) (mz mkn) ?_ | refine a_mid ?_)
      refine a_add rfl rfl (by first | omega | (dsimp only; omega)) ?_
      repeat (first | refine a_op (fun _ => rfl) ?_ | refine a_load rfl (by assumption) rfl ?_ | refine a_load_at rfl (by assumption) (by assumption) ?_ | refine a_iaddr_at rfl rfl (by assumption) ?_ | refine a_iaddr_l rfl rfl (by assumption) rfl ?_ | refine st_load_r rfl rfl ?_ | refine a_cmp rfl rfl rfl ?_ | refine a_eqi rfl rfl ?_ | refine st_not rfl ?_ | refine st_pick_t rfl rfl rfl ?_ | refine st_pick_f rfl rfl rfl ?_ | refine st_g rfl ?_ | refine a_gtf rfl ?_ | refine a_gft rfl ?_ | refine a_gu rfl ?_ | refine a_mklist (ec rfl en) (mz mkn) ?_ | refine a_mid ?_)
      first | refine a_endq (by repeat (first | exact pr_nil | (apply pr_cons; rfl))) ?_ | refine a_end (by repeat (first | exact pr_nil | (apply pr_cons; rfl))) ?_
      refine lo_n ⟨(j + 1, _), hc, ?_⟩ (by show u.l.length - (j + 1) < u.l.length - j; omega) (WeakF.refl _ _)
      have s6 := Sep.set (A := [(o5, .cells [ii x.n, .bool x.marker]), (o4, .iter (some T.m) T.g.c (seen ++ [n]) T.g.c)]) s5 (.cells [v0, v1, v2, v3, ii (S0 + sumI (u.l.take j) + x.n)])
      have e : S0 + sumI (u.l.take (j + 1)) = S0 + sumI (u.l.take j) + x.n := by rw [htk]; omega
      rw [e]
      exact s6.sub (List.sublist_cons_self _ _)
    · have hc : ¬ j < u.l.length := by have := of_decide_eq_false hc0; dsimp only at this; rw [List.length_map] at this; omega
      refine sc_exit (sq_x (lo_x (bl_x (bl_n ?_))))
      refine lo_n ⟨(seen ++ [n], h4), hnd2, hsub2, ?_⟩ (by show T.g.es.length - (seen ++ [n]).length < T.g.es.length - seen.length; rw [List.length_append, List.length_singleton]; omega) ws
      rw [List.take_of_length_le (by omega), ← hadd] at s4
      exact s4
  · repeat (first | refine a_op (fun _ => rfl) ?_ | refine a_load rfl (by assumption) rfl ?_ | refine a_load_at rfl (by assumption) (by assumption) ?_ | refine a_iaddr_at rfl rfl (by assumption) ?_ | refine a_iaddr_l rfl rfl (by assumption) rfl ?_ | refine st_load_r rfl rfl ?_ | refine a_cmp rfl rfl rfl ?_ | refine a_eqi rfl rfl ?_ | refine st_not rfl ?_ | refine st_pick_t rfl rfl rfl ?_ | refine st_pick_f rfl rfl rfl ?_ | refine st_g rfl ?_ | refine a_gtf rfl ?_ | refine a_gft rfl ?_ | refine a_gu rfl ?_ | refine a_mklist (ec rfl en) (mz mkn) ?_ | refine a_mid ?_)
    first | refine a_endq (by repeat (first | exact pr_nil | (apply pr_cons; rfl))) ?_ | refine a_end (by repeat (first | exact pr_nil | (apply pr_cons; rfl))) ?_
    refine sc_seq (s_cond_f rfl (sc_exit (sq_x (lo_x (bl_x (sq_n (q_reg ?_)))))))
    rw [seenSum_all hG] at s2
    generalize (T.g.es.map fun p => sumI p.2.2.l).sum = LS at s2 kk
    have go : h2[o3]? = some (.cells [v0, v1, v2, v3, ii LS]) := s2.get (by simp)
    have g2 : h2[o2]? = some shot0 := s2.get (by simp)
    repeat (first | refine a_op (fun _ => rfl) ?_ | refine a_load rfl (by assumption) rfl ?_ | refine a_load_at rfl (by assumption) (by assumption) ?_ | refine a_iaddr_at rfl rfl (by assumption) ?_ | refine a_iaddr_l rfl rfl (by assumption) rfl ?_ | refine st_load_r rfl rfl ?_ | refine a_cmp rfl rfl rfl ?_ | refine a_eqi rfl rfl ?_ | refine st_not rfl ?_ | refine st_pick_t rfl rfl rfl ?_ | refine st_pick_f rfl rfl rfl ?_ | refine st_g rfl ?_ | refine a_gtf rfl ?_ | refine a_gft rfl ?_ | refine a_gu rfl ?_ | refine a_mklist (ec rfl en) (mz mkn) ?_ | refine a_mid ?_)
    refine a_store rfl rfl g2 ⟨rfl, lb rfl, rfl⟩ ?_
    repeat (first | refine a_op (fun _ => rfl) ?_ | refine a_load rfl (by assumption) rfl ?_ | refine a_load_at rfl (by assumption) (by assumption) ?_ | refine a_iaddr_at rfl rfl (by assumption) ?_ | refine a_iaddr_l rfl rfl (by assumption) rfl ?_ | refine st_load_r rfl rfl ?_ | refine a_cmp rfl rfl rfl ?_ | refine a_eqi rfl rfl ?_ | refine st_not rfl ?_ | refine st_pick_t rfl rfl rfl ?_ | refine st_pick_f rfl rfl rfl ?_ | refine st_g rfl ?_ | refine a_gtf rfl ?_ | refine a_gft rfl ?_ | refine a_gu rfl ?_ | refine a_mklist (ec rfl en) (mz mkn) ?_ | refine a_mid ?_)
    first | refine a_endq (by repeat (first | exact pr_nil | (apply pr_cons; rfl))) ?_ | refine a_end (by repeat (first | exact pr_nil | (apply pr_cons; rfl))) ?_
    have s3 := Sep.set (A := [(o4, .iter (some T.m) T.g.c seen T.g.c), (o3, .cells [v0, v1, v2, v3, ii LS])]) s2 (.cells [v0, v1, v2, v3, ii LS])
    change SC _ _ _ _ _ [(2, HV.ptr o2 0)] (h2.set o2 (.cells [v0, v1, v2, v3, ii LS]))
    generalize h2.set o2 _ = h3 at s3 ⊢
    have g3 : h3[o2]? = some (.cells [v0, v1, v2, v3, ii LS]) := s3.get (by simp)
    refine sc_ret (x_ret [.agg [v0, v1, v2, v3, ii LS]] ?_ (kk h3 (s3.sub ?_)))
    · simp [resVals2, resVal, Env.get, Heap.cells, g3, atCells]
    · exact ((List.sublist_append_right _ _).cons _).cons _ |>.cons _
theorem r61 {h : Heap} {R : Lay} {T : PT} {B : Nat} (ok : T.ok B) (hB : B ≤ 90000) (hne : T.coins ≠ []) (hE : T.g.es.length ≤ 1000) (hit : ∀ q ∈ T.g.es, ∀ x ∈ q.2.2.l, -1000000000 ≤ x.n ∧ x.n ≤ 1000000000) (hn : T.sides.l.length = T.coins.length)
    (hs : Sep h (T.lay ++ R)) {Q : HV → Heap → Prop}
    (kk : ∀ (h' : Heap) (t1 t2 : Tok), Sep h' R → Q (.agg [.bool (shotF T.abs).Done, .list ((shotF T.abs).States.map (eInt .i64)) t1, .list ((shotF T.abs).Ways.map e2) t2, ln (eInt .i64) (shotF T.abs).Now, ii (shotF T.abs).Left]) h') : HCalls Try.prog 61 [.ptr T.p 0] h Q := by
  refine sc_func2 (rs := [.c 2 (some 5)]) Try.func61 rfl (by decide) (by kernel_rfl) (lb rfl) hk61 ?_
  show SC Try.prog Try.f61.ntmps _ hc61 _ [(0, .ptr T.p 0)] h
  unfold hc61
  refine q_reg (a_alloc ?_)
  repeat (first | refine a_op (fun _ => rfl) ?_ | refine a_load rfl (by assumption) rfl ?_ | refine a_load_at rfl (by assumption) (by assumption) ?_ | refine a_iaddr_at rfl rfl (by assumption) ?_ | refine a_iaddr_l rfl rfl (by assumption) rfl ?_ | refine st_load_r rfl rfl ?_ | refine a_cmp rfl rfl rfl ?_ | refine a_eqi rfl rfl ?_ | refine st_not rfl ?_ | refine st_pick_t rfl rfl rfl ?_ | refine st_pick_f rfl rfl rfl ?_ | refine st_g rfl ?_ | refine a_gtf rfl ?_ | refine a_gft rfl ?_ | refine a_gu rfl ?_ | refine a_mklist (ec rfl en) (mz mkn) ?_ | refine a_mid ?_)
  first | refine a_endq (by repeat (first | exact pr_nil | (apply pr_cons; rfl))) ?_ | refine a_end (by repeat (first | exact pr_nil | (apply pr_cons; rfl))) ?_
  have s1 := hs.new shot0
  change SC _ _ _ _ _ [(0, HV.ptr T.p 0), (2, .ptr h.length 0)] (h ++ [shot0])
  generalize h.length = o2 at s1 ⊢
  generalize h ++ [shot0] = h1 at s1 ⊢
  clear hs h
  have gp : h1[T.p]? = some T.obj := s1.get (by simp [PT.lay])
  have gc : h1[T.c]? = some (coinO T.coins) := s1.get (by simp [PT.lay])
  have hnc := ok.nc
  refine q_reg ?_
  repeat (first | refine a_op (fun _ => rfl) ?_ | refine a_load rfl (by assumption) rfl ?_ | refine a_load_at rfl (by assumption) (by assumption) ?_ | refine a_iaddr_at rfl rfl (by assumption) ?_ | refine a_iaddr_l rfl rfl (by assumption) rfl ?_ | refine st_load_r rfl rfl ?_ | refine a_cmp rfl rfl rfl ?_ | refine a_eqi rfl rfl ?_ | refine st_not rfl ?_ | refine st_pick_t rfl rfl rfl ?_ | refine st_pick_f rfl rfl rfl ?_ | refine st_g rfl ?_ | refine a_gtf rfl ?_ | refine a_gft rfl ?_ | refine a_gu rfl ?_ | refine a_mklist (ec rfl en) (mz mkn) ?_ | refine a_mid ?_)
  refine a_call (ec rfl en) (r47a hne (by omega) gc s1 (fun h2 s2 => ?_))
  repeat (first | refine a_op (fun _ => rfl) ?_ | refine a_load rfl (by assumption) rfl ?_ | refine a_load_at rfl (by assumption) (by assumption) ?_ | refine a_iaddr_at rfl rfl (by assumption) ?_ | refine a_iaddr_l rfl rfl (by assumption) rfl ?_ | refine st_load_r rfl rfl ?_ | refine a_cmp rfl rfl rfl ?_ | refine a_eqi rfl rfl ?_ | refine st_not rfl ?_ | refine st_pick_t rfl rfl rfl ?_ | refine st_pick_f rfl rfl rfl ?_ | refine st_g rfl ?_ | refine a_gtf rfl ?_ | refine a_gft rfl ?_ | refine a_gu rfl ?_ | refine a_mklist (ec rfl en) (mz mkn) ?_ | refine a_mid ?_)
  refine a_alloc ?_
  refine a_store rfl rfl (List.getElem?_concat_length) ⟨rfl, lb rfl, rfl⟩ ?_
  repeat (first | refine a_op (fun _ => rfl) ?_ | refine a_load rfl (by assumption) rfl ?_ | refine a_load_at rfl (by assumption) (by assumption) ?_ | refine a_iaddr_at rfl rfl (by assumption) ?_ | refine a_iaddr_l rfl rfl (by assumption) rfl ?_ | refine st_load_r rfl rfl ?_ | refine a_cmp rfl rfl rfl ?_ | refine a_eqi rfl rfl ?_ | refine st_not rfl ?_ | refine st_pick_t rfl rfl rfl ?_ | refine st_pick_f rfl rfl rfl ?_ | refine st_g rfl ?_ | refine a_gtf rfl ?_ | refine a_gft rfl ?_ | refine a_gu rfl ?_ | refine a_mklist (ec rfl en) (mz mkn) ?_ | refine a_mid ?_)
  first | refine a_endq (by repeat (first | exact pr_nil | (apply pr_cons; rfl))) ?_ | refine a_end (by repeat (first | exact pr_nil | (apply pr_cons; rfl))) ?_
  have s3 := Sep.set (A := []) (s2.new shot0) (shotO true RW.nil RW.nil T.coins 0)
  change SC _ _ _ _ _ [(0, HV.ptr T.p 0), (2, .ptr o2 0), (3, .ptr h2.length 0)] ((h2 ++ [shot0]).set h2.length (shotO true RW.nil RW.nil T.coins 0))
  generalize h2.length = o3 at s3 ⊢
  generalize (h2 ++ [shot0]).set o3 (shotO true RW.nil RW.nil T.coins 0) = h3 at s3 ⊢
  clear s1 gp gc s2 h1 h2
  simp only [List.nil_append] at s3
  have gp : h3[T.p]? = some T.obj := s3.get (by simp [PT.lay])
  refine sc_seq (q_reg ?_)
  repeat (first | refine a_op (fun _ => rfl) ?_ | refine a_load rfl (by assumption) rfl ?_ | refine a_load_at rfl (by assumption) (by assumption) ?_ | refine a_iaddr_at rfl rfl (by assumption) ?_ | refine a_iaddr_l rfl rfl (by assumption) rfl ?_ | refine st_load_r rfl rfl ?_ | refine a_cmp rfl rfl rfl ?_ | refine a_eqi rfl rfl ?_ | refine st_not rfl ?_ | refine st_pick_t rfl rfl rfl ?_ | refine st_pick_f rfl rfl rfl ?_ | refine st_g rfl ?_ | refine a_gtf rfl ?_ | refine a_gft rfl ?_ | refine a_gu rfl ?_ | refine a_mklist (ec rfl en) (mz mkn) ?_ | refine a_mid ?_)
  first | refine a_endq (by repeat (first | exact pr_nil | (apply pr_cons; rfl))) ?_ | refine a_end (by repeat (first | exact pr_nil | (apply pr_cons; rfl))) ?_
  refine sc_block (sc_loop (X := { x : Nat × Bool × RW Int × RW (List (List Int)) × Heap // x.1 ≤ T.sides.l.length ∧ x.2.1 = (((T.sides.l.take x.1).map fun s => tellF s.abs).all fun e => decide (e.2.2 = 0)) ∧ x.2.2.1.ok 1 ∧ x.2.2.2.1.ok 1 ∧ x.2.2.1.l = (T.sides.l.take x.1).map (fun s => (tellF s.abs).1) ∧
        x.2.2.2.1.l = (T.sides.l.take x.1).map (fun s => (tellF s.abs).2.1) ∧ Sep x.2.2.2.2 ((o3, shotO x.2.1 x.2.2.1 x.2.2.2.1 T.coins 0) :: (x.2.2.1.lay ++ (x.2.2.2.1.lay ++ ((o2, shot0) :: (T.lay ++ R))))) })
      (fun x => ([(0, .ptr T.p 0), (2, .ptr o2 0), (3, .ptr o3 0), (22, T.sides.hv sp_), (23, ii (T.sides.l.map sp_).length), (24, ii x.1.1)], x.1.2.2.2.2)) (fun x => T.sides.l.length - x.1.1)
      ⟨(0, true, RW.nil, RW.nil, h3), Nat.zero_le _, rfl, trivial, trivial, rfl, rfl, s3⟩ (WeakF.refl _ _) ?_)
  rintro ⟨⟨k, dn, st, wy, h4⟩, hk, hdn, hst, hwy, hsl, hwl, s4⟩
  simp only at hk hdn hst hwy hsl hwl s4
  clear s3 gp h3
  refine q_reg ?_
  repeat (first | refine a_op (fun _ => rfl) ?_ | refine a_load rfl (by assumption) rfl ?_ | refine a_load_at rfl (by assumption) (by assumption) ?_ | refine a_iaddr_at rfl rfl (by assumption) ?_ | refine a_iaddr_l rfl rfl (by assumption) rfl ?_ | refine st_load_r rfl rfl ?_ | refine a_cmp rfl rfl rfl ?_ | refine a_eqi rfl rfl ?_ | refine st_not rfl ?_ | refine st_pick_t rfl rfl rfl ?_ | refine st_pick_f rfl rfl rfl ?_ | refine st_g rfl ?_ | refine a_gtf rfl ?_ | refine a_gft rfl ?_ | refine a_gu rfl ?_ | refine a_mklist (ec rfl en) (mz mkn) ?_ | refine a_mid ?_)
  first | refine a_endq (by repeat (first | exact pr_nil | (apply pr_cons; rfl))) ?_ | refine a_end (by repeat (first | exact pr_nil | (apply pr_cons; rfl))) ?_
  refine sc_seq (sc_cond rfl (fun hc0 => ?_) (fun hc0 => ?_))
  · have hc : k < T.sides.l.length := by have := of_decide_eq_true hc0; dsimp only at this; rw [List.length_map] at this; omega
    obtain ⟨sd, hsd⟩ : ∃ s, T.sides.l[k]? = some s := ⟨_, List.getElem?_eq_getElem hc⟩
    have oks := ok.sides sd (List.mem_of_getElem? hsd)
    refine sc_skip (sq_n (sc_seq (sc_block (q_reg ?_))))
    repeat (first | refine a_op (fun _ => rfl) ?_ | refine a_load rfl (by assumption) rfl ?_ | refine a_load_at rfl (by assumption) (by assumption) ?_ | refine a_iaddr_at rfl rfl (by assumption) ?_ | refine a_iaddr_l rfl rfl (by assumption) rfl ?_ | refine st_load_r rfl rfl ?_ | refine a_cmp rfl rfl rfl ?_ | refine a_eqi rfl rfl ?_ | refine st_not rfl ?_ | refine st_pick_t rfl rfl rfl ?_ | refine st_pick_f rfl rfl rfl ?_ | refine st_g rfl ?_ | refine a_gtf rfl ?_ | refine a_gft rfl ?_ | refine a_gu rfl ?_ | refine a_mklist (ec rfl en) (mz mkn) ?_ | refine a_mid ?_)
    first | refine a_endq (by repeat (first | exact pr_nil | (apply pr_cons; rfl))) ?_ | refine a_end (by repeat (first | exact pr_nil | (apply pr_cons; rfl))) ?_
    refine q_reg ?_
    repeat (first | refine a_op (fun _ => rfl) ?_ | refine a_load rfl (by assumption) rfl ?_ | refine a_load_at rfl (by assumption) (by assumption) ?_ | refine a_iaddr_at rfl rfl (by assumption) ?_ | refine a_iaddr_l rfl rfl (by assumption) rfl ?_ | refine st_load_r rfl rfl ?_ | refine a_cmp rfl rfl rfl ?_ | refine a_eqi rfl rfl ?_ | refine st_not rfl ?_ | refine st_pick_t rfl rfl rfl ?_ | refine st_pick_f rfl rfl rfl ?_ | refine st_g rfl ?_ | refine a_gtf rfl ?_ | refine a_gft rfl ?_ | refine a_gu rfl ?_ | refine a_mklist (ec rfl en) (mz mkn) ?_ | refine a_mid ?_)
    have s5 : Sep h4 (T.lay ++ (((o3, shotO dn st wy T.coins 0) :: (st.lay ++ (wy.lay ++ [(o2, shot0)]))) ++ R)) := Sep.front (A := (o3, shotO dn st wy T.coins 0) :: (st.lay ++ (wy.lay ++ [(o2, shot0)]))) (B := T.lay) (C := R) (by simpa using s4)
    obtain ⟨R', pin, hR', pout⟩ := PT.side_at T hsd (((o3, shotO dn st wy T.coins 0) :: (st.lay ++ (wy.lay ++ [(o2, shot0)]))) ++ R)
    refine a_call (ec rfl en) (r23 oks (s5.perm pin) (fun h5 tok s6 => ?_))
    repeat (first | refine a_op (fun _ => rfl) ?_ | refine a_load rfl (by assumption) rfl ?_ | refine a_load_at rfl (by assumption) (by assumption) ?_ | refine a_iaddr_at rfl rfl (by assumption) ?_ | refine a_iaddr_l rfl rfl (by assumption) rfl ?_ | refine st_load_r rfl rfl ?_ | refine a_cmp rfl rfl rfl ?_ | refine a_eqi rfl rfl ?_ | refine st_not rfl ?_ | refine st_pick_t rfl rfl rfl ?_ | refine st_pick_f rfl rfl rfl ?_ | refine st_g rfl ?_ | refine a_gtf rfl ?_ | refine a_gft rfl ?_ | refine a_gu rfl ?_ | refine a_mklist (ec rfl en) (mz mkn) ?_ | refine a_mid ?_)
    first | refine a_endq (by repeat (first | exact pr_nil | (apply pr_cons; rfl))) ?_ | refine a_end (by repeat (first | exact pr_nil | (apply pr_cons; rfl))) ?_
    have s7 : Sep h5 ((o3, shotO dn st wy T.coins 0) :: (st.lay ++ (wy.lay ++ ((o2, shot0) :: (T.lay ++ R))))) := by
      have := Sep.front (A := T.lay) (B := (o3, shotO dn st wy T.coins 0) :: (st.lay ++ (wy.lay ++ [(o2, shot0)]))) (C := R) (s6.perm pin.symm)
      simpa using this
    clear s5 s6 pin hR' pout
    have hal : (((T.sides.l.take (k + 1)).map fun s => tellF s.abs).all fun e => decide (e.2.2 = 0)) = (dn && decide ((tellF sd.abs).2.2 = 0)) := by
      rw [hdn, List.take_add_one, hsd]
      simp
    have hs1 : (T.sides.l.take (k + 1)).map (fun s => (tellF s.abs).1) = st.l ++ [(tellF sd.abs).1] := by
      rw [hsl, List.take_add_one, hsd]; simp
    have hw1 : (T.sides.l.take (k + 1)).map (fun s => (tellF s.abs).2.1) = wy.l ++ [(tellF sd.abs).2.1] := by
      rw [hwl, List.take_add_one, hsd]; simp
    have hstl : st.l.length ≤ 8 := by rw [hsl, List.length_map, List.length_take]; omega
    have hwyl : wy.l.length ≤ 8 := by rw [hwl, List.length_map, List.length_take]; omega
    have fin : ∀ (h6 : Heap) (dn' : Bool), dn' = (dn && decide ((tellF sd.abs).2.2 = 0)) → Sep h6 ((o3, shotO dn' st wy T.coins 0) :: (st.lay ++ (wy.lay ++ ((o2, shot0) :: (T.lay ++ R))))) →
        SC Try.prog Try.f61.ntmps o2 (C.dreg [oo 41 (O.faddr 1 1 3), oo 42 (O.load none 41), mo 43 6, oo 44 (O.mklist 1 [43]), oo 45 (O.append 1 8 42 44), oo 46 (O.faddr 2 1 3), oo 47 (O.load none 46), mo 48 7, oo 49 (O.mklist 1 [48]), oo 50 (O.append 1 24 47 49), oo 51 (O.faddr 1 1 3), os (O.store 1 51 45), oo 52 (O.faddr 2 1 3), os (O.store 1 52 50)] [] 0 [0, 2, 3, 22, 23, 24])
          (fun x e h => x = .normal ∧ ∃ st' wy' : RW _, st'.l = st.l ++ [(tellF sd.abs).1] ∧ wy'.l = wy.l ++ [(tellF sd.abs).2.1] ∧ st'.ok 1 ∧ wy'.ok 1 ∧ e = [(0, .ptr T.p 0), (2, .ptr o2 0), (3, .ptr o3 0), (22, T.sides.hv sp_), (23, ii (T.sides.l.map sp_).length), (24, ii k)] ∧
            Sep h ((o3, shotO dn' st' wy' T.coins 0) :: (st'.lay ++ (wy'.lay ++ ((o2, shot0) :: (T.lay ++ R))))))
          [(0, .ptr T.p 0), (2, .ptr o2 0), (3, .ptr o3 0), (6, ii (tellF sd.abs).1), (7, .list ((tellF sd.abs).2.1.map (eLst (eInt .i64))) tok), (22, T.sides.hv sp_), (23, ii (T.sides.l.map sp_).length), (24, ii k)] h6 := by
      intro h6 dn' hdn' s6
      have go : h6[o3]? = some (shotO dn' st wy T.coins 0) := s6.get (by simp)
      refine a_dregl0 Try.mixed ?_
      repeat (first | refine a_op (fun _ => rfl) ?_ | refine a_load rfl (by assumption) rfl ?_ | refine a_load_at rfl (by assumption) (by assumption) ?_ | refine a_iaddr_at rfl rfl (by assumption) ?_ | refine a_iaddr_l rfl rfl (by assumption) rfl ?_ | refine st_load_r rfl rfl ?_ | refine a_cmp rfl rfl rfl ?_ | refine a_eqi rfl rfl ?_ | refine st_not rfl ?_ | refine st_pick_t rfl rfl rfl ?_ | refine st_pick_f rfl rfl rfl ?_ | refine st_g rfl ?_ | refine a_gtf rfl ?_ | refine a_gft rfl ?_ | refine a_gu rfl ?_ | refine a_mklist (ec rfl en) (mz mkn) ?_ | refine a_mid ?_)
      refine a_app (f := eInt .i64) (rw_ := st) (ys := [(tellF sd.abs).1]) (L := [(o3, shotO dn' st wy T.coins 0)]) (enc_int .i64).w rfl rfl hst s6 (by simp; omega) (fun st' h7 hl1 hr1 s7 => ?_)
      have go : h7[o3]? = some (shotO dn' st wy T.coins 0) := s7.get (by simp)
      repeat (first | refine a_op (fun _ => rfl) ?_ | refine a_load rfl (by assumption) rfl ?_ | refine a_load_at rfl (by assumption) (by assumption) ?_ | refine a_iaddr_at rfl rfl (by assumption) ?_ | refine a_iaddr_l rfl rfl (by assumption) rfl ?_ | refine st_load_r rfl rfl ?_ | refine a_cmp rfl rfl rfl ?_ | refine a_eqi rfl rfl ?_ | refine st_not rfl ?_ | refine st_pick_t rfl rfl rfl ?_ | refine st_pick_f rfl rfl rfl ?_ | refine st_g rfl ?_ | refine a_gtf rfl ?_ | refine a_gft rfl ?_ | refine a_gu rfl ?_ | refine a_mklist (ec rfl en) (mz mkn) ?_ | refine a_mid ?_)
      refine a_app (f := e2) (rw_ := wy) (ys := [(tellF sd.abs).2.1]) (L := [(o3, shotO dn' st wy T.coins 0)] ++ st'.lay) enc_e2.w rfl rfl hwy (by simpa using s7) (by simp; omega) (fun wy' h8 hl2 hr2 s8 => ?_)
      have go : h8[o3]? = some (shotO dn' st wy T.coins 0) := s8.get (by simp)
      repeat (first | refine a_op (fun _ => rfl) ?_ | refine a_load rfl (by assumption) rfl ?_ | refine a_load_at rfl (by assumption) (by assumption) ?_ | refine a_iaddr_at rfl rfl (by assumption) ?_ | refine a_iaddr_l rfl rfl (by assumption) rfl ?_ | refine st_load_r rfl rfl ?_ | refine a_cmp rfl rfl rfl ?_ | refine a_eqi rfl rfl ?_ | refine st_not rfl ?_ | refine st_pick_t rfl rfl rfl ?_ | refine st_pick_f rfl rfl rfl ?_ | refine st_g rfl ?_ | refine a_gtf rfl ?_ | refine a_gft rfl ?_ | refine a_gu rfl ?_ | refine a_mklist (ec rfl en) (mz mkn) ?_ | refine a_mid ?_)
      refine a_store rfl rfl go ⟨rfl, lb rfl, rfl⟩ ?_
      have s9 := Sep.set (A := []) (i := o3) (o := shotO dn' st wy T.coins 0) (B := st'.lay ++ (wy'.lay ++ ((o2, shot0) :: (T.lay ++ R)))) (by simpa using s8) (.cells [.bool dn', st'.hv (eInt .i64), wy.hv e2, ln (eInt .i64) T.coins, ii 0])
      change HO _ _ _ _ (h8.set o3 (.cells [.bool dn', st'.hv (eInt .i64), wy.hv e2, ln (eInt .i64) T.coins, ii 0])) _
      generalize h8.set o3 _ = h9 at s9 ⊢
      have go : h9[o3]? = some (.cells [.bool dn', st'.hv (eInt .i64), wy.hv e2, ln (eInt .i64) T.coins, ii 0]) := s9.get (by simp)
      repeat (first | refine a_op (fun _ => rfl) ?_ | refine a_load rfl (by assumption) rfl ?_ | refine a_load_at rfl (by assumption) (by assumption) ?_ | refine a_iaddr_at rfl rfl (by assumption) ?_ | refine a_iaddr_l rfl rfl (by assumption) rfl ?_ | refine st_load_r rfl rfl ?_ | refine a_cmp rfl rfl rfl ?_ | refine a_eqi rfl rfl ?_ | refine st_not rfl ?_ | refine st_pick_t rfl rfl rfl ?_ | refine st_pick_f rfl rfl rfl ?_ | refine st_g rfl ?_ | refine a_gtf rfl ?_ | refine a_gft rfl ?_ | refine a_gu rfl ?_ | refine a_mklist (ec rfl en) (mz mkn) ?_ | refine a_mid ?_)
      refine a_store rfl rfl go ⟨rfl, lb rfl, rfl⟩ ?_
      repeat (first | refine a_op (fun _ => rfl) ?_ | refine a_load rfl (by assumption) rfl ?_ | refine a_load_at rfl (by assumption) (by assumption) ?_ | refine a_iaddr_at rfl rfl (by assumption) ?_ | refine a_iaddr_l rfl rfl (by assumption) rfl ?_ | refine st_load_r rfl rfl ?_ | refine a_cmp rfl rfl rfl ?_ | refine a_eqi rfl rfl ?_ | refine st_not rfl ?_ | refine st_pick_t rfl rfl rfl ?_ | refine st_pick_f rfl rfl rfl ?_ | refine st_g rfl ?_ | refine a_gtf rfl ?_ | refine a_gft rfl ?_ | refine a_gu rfl ?_ | refine a_mklist (ec rfl en) (mz mkn) ?_ | refine a_mid ?_)
      first | refine a_endq (by repeat (first | exact pr_nil | (apply pr_cons; rfl))) ?_ | refine a_end (by repeat (first | exact pr_nil | (apply pr_cons; rfl))) ?_
      refine ⟨rfl, st', wy', hl1, hl2, hr1, hr2, rfl, ?_⟩
      have s10 := Sep.set (A := []) s9 (shotO dn' st' wy' T.coins 0)
      exact s10
    have back : ∀ (h6 : Heap) (dn' : Bool), dn' = (dn && decide ((tellF sd.abs).2.2 = 0)) → Sep h6 ((o3, shotO dn' st wy T.coins 0) :: (st.lay ++ (wy.lay ++ ((o2, shot0) :: (T.lay ++ R))))) → True := fun _ _ _ _ => trivial
    refine q_reg ?_
    cases dn with
    | false =>
      have go : h5[o3]? = some (shotO false st wy T.coins 0) := s7.get (by simp)
      repeat (first | refine a_op (fun _ => rfl) ?_ | refine a_load rfl (by assumption) rfl ?_ | refine a_load_at rfl (by assumption) (by assumption) ?_ | refine a_iaddr_at rfl rfl (by assumption) ?_ | refine a_iaddr_l rfl rfl (by assumption) rfl ?_ | refine st_load_r rfl rfl ?_ | refine a_cmp rfl rfl rfl ?_ | refine a_eqi rfl rfl ?_ | refine st_not rfl ?_ | refine st_pick_t rfl rfl rfl ?_ | refine st_pick_f rfl rfl rfl ?_ | refine st_g rfl ?_ | refine a_gtf rfl ?_ | refine a_gft rfl ?_ | refine a_gu rfl ?_ | refine a_mklist (ec rfl en) (mz mkn) ?_ | refine a_mid ?_)
      refine a_store rfl rfl go ⟨rfl, lb rfl, rfl⟩ ?_
      repeat (first | refine a_op (fun _ => rfl) ?_ | refine a_load rfl (by assumption) rfl ?_ | refine a_load_at rfl (by assumption) (by assumption) ?_ | refine a_iaddr_at rfl rfl (by assumption) ?_ | refine a_iaddr_l rfl rfl (by assumption) rfl ?_ | refine st_load_r rfl rfl ?_ | refine a_cmp rfl rfl rfl ?_ | refine a_eqi rfl rfl ?_ | refine st_not rfl ?_ | refine st_pick_t rfl rfl rfl ?_ | refine st_pick_f rfl rfl rfl ?_ | refine st_g rfl ?_ | refine a_gtf rfl ?_ | refine a_gft rfl ?_ | refine a_gu rfl ?_ | refine a_mklist (ec rfl en) (mz mkn) ?_ | refine a_mid ?_)
      first | refine a_endq (by repeat (first | exact pr_nil | (apply pr_cons; rfl))) ?_ | refine a_end (by repeat (first | exact pr_nil | (apply pr_cons; rfl))) ?_
      refine SC.mono (fin _ false rfl (Sep.set (A := []) s7 _)) (fun x e h' hx => ?_)
      obtain ⟨rfl, st', wy', hl1, hl2, hr1, hr2, rfl, s8⟩ := hx
      refine bl_n (sq_n (s_reg ?_))
      repeat (first | refine a_op (fun _ => rfl) ?_ | refine a_load rfl (by assumption) rfl ?_ | refine a_load_at rfl (by assumption) (by assumption) ?_ | refine a_iaddr_at rfl rfl (by assumption) ?_ | refine a_iaddr_l rfl rfl (by assumption) rfl ?_ | refine st_load_r rfl rfl ?_ | refine a_cmp rfl rfl rfl ?_ | refine a_eqi rfl rfl ?_ | refine st_not rfl ?_ | refine st_pick_t rfl rfl rfl ?_ | refine st_pick_f rfl rfl rfl ?_ | refine st_g rfl ?_ | refine a_gtf rfl ?_ | refine a_gft rfl ?_ | refine a_gu rfl ?_ | refine a_mklist (ec rfl en) (mz mkn) ?_ | refine a_mid ?_)
      refine a_add rfl rfl (by first | omega | (dsimp only; omega)) ?_
      repeat (first | refine a_op (fun _ => rfl) ?_ | refine a_load rfl (by assumption) rfl ?_ | refine a_load_at rfl (by assumption) (by assumption) ?_ | refine a_iaddr_at rfl rfl (by assumption) ?_ | refine a_iaddr_l rfl rfl (by assumption) rfl ?_ | refine st_load_r rfl rfl ?_ | refine a_cmp rfl rfl rfl ?_ | refine a_eqi rfl rfl ?_ | refine st_not rfl ?_ | refine st_pick_t rfl rfl rfl ?_ | refine st_pick_f rfl rfl rfl ?_ | refine st_g rfl ?_ | refine a_gtf rfl ?_ | refine a_gft rfl ?_ | refine a_gu rfl ?_ | refine a_mklist (ec rfl en) (mz mkn) ?_ | refine a_mid ?_)
      first | refine a_endq (by repeat (first | exact pr_nil | (apply pr_cons; rfl))) ?_ | refine a_end (by repeat (first | exact pr_nil | (apply pr_cons; rfl))) ?_
      refine lo_n ⟨(k + 1, false, st', wy', h'), hc, by rw [hal]; rfl, hr1, hr2, hl1.trans hs1.symm, hl2.trans hw1.symm, s8⟩ (by show T.sides.l.length - (k + 1) < T.sides.l.length - k; omega) (WeakF.refl _ _)
    | true =>
      have go : h5[o3]? = some (shotO true st wy T.coins 0) := s7.get (by simp)
      repeat (first | refine a_op (fun _ => rfl) ?_ | refine a_load rfl (by assumption) rfl ?_ | refine a_load_at rfl (by assumption) (by assumption) ?_ | refine a_iaddr_at rfl rfl (by assumption) ?_ | refine a_iaddr_l rfl rfl (by assumption) rfl ?_ | refine st_load_r rfl rfl ?_ | refine a_cmp rfl rfl rfl ?_ | refine a_eqi rfl rfl ?_ | refine st_not rfl ?_ | refine st_pick_t rfl rfl rfl ?_ | refine st_pick_f rfl rfl rfl ?_ | refine st_g rfl ?_ | refine a_gtf rfl ?_ | refine a_gft rfl ?_ | refine a_gu rfl ?_ | refine a_mklist (ec rfl en) (mz mkn) ?_ | refine a_mid ?_)
      refine a_store rfl rfl go ⟨rfl, lb rfl, rfl⟩ ?_
      repeat (first | refine a_op (fun _ => rfl) ?_ | refine a_load rfl (by assumption) rfl ?_ | refine a_load_at rfl (by assumption) (by assumption) ?_ | refine a_iaddr_at rfl rfl (by assumption) ?_ | refine a_iaddr_l rfl rfl (by assumption) rfl ?_ | refine st_load_r rfl rfl ?_ | refine a_cmp rfl rfl rfl ?_ | refine a_eqi rfl rfl ?_ | refine st_not rfl ?_ | refine st_pick_t rfl rfl rfl ?_ | refine st_pick_f rfl rfl rfl ?_ | refine st_g rfl ?_ | refine a_gtf rfl ?_ | refine a_gft rfl ?_ | refine a_gu rfl ?_ | refine a_mklist (ec rfl en) (mz mkn) ?_ | refine a_mid ?_)
      first | refine a_endq (by repeat (first | exact pr_nil | (apply pr_cons; rfl))) ?_ | refine a_end (by repeat (first | exact pr_nil | (apply pr_cons; rfl))) ?_
      refine SC.mono (fin _ (decide ((tellF sd.abs).2.2 = 0)) (by simp) (Sep.set (A := []) s7 _)) (fun x e h' hx => ?_)
      obtain ⟨rfl, st', wy', hl1, hl2, hr1, hr2, rfl, s8⟩ := hx
      refine bl_n (sq_n (s_reg ?_))
      repeat (first | refine a_op (fun _ => rfl) ?_ | refine a_load rfl (by assumption) rfl ?_ | refine a_load_at rfl (by assumption) (by assumption) ?_ | refine a_iaddr_at rfl rfl (by assumption) ?_ | refine a_iaddr_l rfl rfl (by assumption) rfl ?_ | refine st_load_r rfl rfl ?_ | refine a_cmp rfl rfl rfl ?_ | refine a_eqi rfl rfl ?_ | refine st_not rfl ?_ | refine st_pick_t rfl rfl rfl ?_ | refine st_pick_f rfl rfl rfl ?_ | refine st_g rfl ?_ | refine a_gtf rfl ?_ | refine a_gft rfl ?_ | refine a_gu rfl ?_ | refine a_mklist (ec rfl en) (mz mkn) ?_ | refine a_mid ?_)
      refine a_add rfl rfl (by first | omega | (dsimp only; omega)) ?_
      repeat (first | refine a_op (fun _ => rfl) ?_ | refine a_load rfl (by assumption) rfl ?_ | refine a_load_at rfl (by assumption) (by assumption) ?_ | refine a_iaddr_at rfl rfl (by assumption) ?_ | refine a_iaddr_l rfl rfl (by assumption) rfl ?_ | refine st_load_r rfl rfl ?_ | refine a_cmp rfl rfl rfl ?_ | refine a_eqi rfl rfl ?_ | refine st_not rfl ?_ | refine st_pick_t rfl rfl rfl ?_ | refine st_pick_f rfl rfl rfl ?_ | refine st_g rfl ?_ | refine a_gtf rfl ?_ | refine a_gft rfl ?_ | refine a_gu rfl ?_ | refine a_mklist (ec rfl en) (mz mkn) ?_ | refine a_mid ?_)
      first | refine a_endq (by repeat (first | exact pr_nil | (apply pr_cons; rfl))) ?_ | refine a_end (by repeat (first | exact pr_nil | (apply pr_cons; rfl))) ?_
      refine lo_n ⟨(k + 1, decide ((tellF sd.abs).2.2 = 0), st', wy', h'), hc, by rw [hal]; simp, hr1, hr2, hl1.trans hs1.symm, hl2.trans hw1.symm, s8⟩ (by show T.sides.l.length - (k + 1) < T.sides.l.length - k; omega) (WeakF.refl _ _)
  · have hc : ¬ k < T.sides.l.length := by have := of_decide_eq_false hc0; dsimp only at this; rw [List.length_map] at this; omega
    rw [List.take_of_length_le (by omega)] at hdn hsl hwl
    have hD : (shotF T.abs).Done = dn := by
      rw [hdn]
      show ((T.sides.l.map PS.abs).map tellF).all _ = _
      rw [List.map_map]
      rfl
    have hS : (shotF T.abs).States = if dn then st.l else [] := by
      rw [← hD, hsl]
      show (if (shotF T.abs).Done then ((T.sides.l.map PS.abs).map tellF).map (·.1) else []) = _
      rw [List.map_map, List.map_map]
      rfl
    have hW : (shotF T.abs).Ways = if dn then wy.l else [] := by
      rw [← hD, hwl]
      show (if (shotF T.abs).Done then ((T.sides.l.map PS.abs).map tellF).map (·.2.1) else []) = _
      rw [List.map_map, List.map_map]
      rfl
    have hN : (shotF T.abs).Now = T.coins := rfl
    have hL : (shotF T.abs).Left = (T.g.es.map fun p => sumI p.2.2.l).sum := by
      show ((T.g.es.map fun p => (p.1, p.2.1, p.2.2.l)).map fun p => sumI p.2.2).sum = _
      rw [List.map_map]
      rfl
    refine sc_exit (sq_x (lo_x (bl_x (sq_n ?_))))
    have fin : ∀ (h5 : Heap) (t1 t2 : Tok), Sep h5 ((o3, .cells [.bool (shotF T.abs).Done, .list ((shotF T.abs).States.map (eInt .i64)) t1, .list ((shotF T.abs).Ways.map e2) t2, ln (eInt .i64) (shotF T.abs).Now, ii 0]) :: (o2, shot0) :: (T.lay ++ R)) → SC Try.prog Try.f61.ntmps o2 hc61t (RetS2 [.c 2 (some 5)] o2 Q) [(0, .ptr T.p 0), (2, .ptr o2 0), (3, .ptr o3 0)] h5 :=
      fun h5 t1 t2 s5 => r61b ok hB hE hit s5 (fun h' s' => by rw [← hL]; exact kk h' t1 t2 s')
    refine sc_seq (q_reg ?_)
    have go : h4[o3]? = some (shotO dn st wy T.coins 0) := s4.get (by simp)
    repeat (first | refine a_op (fun _ => rfl) ?_ | refine a_load rfl (by assumption) rfl ?_ | refine a_load_at rfl (by assumption) (by assumption) ?_ | refine a_iaddr_at rfl rfl (by assumption) ?_ | refine a_iaddr_l rfl rfl (by assumption) rfl ?_ | refine st_load_r rfl rfl ?_ | refine a_cmp rfl rfl rfl ?_ | refine a_eqi rfl rfl ?_ | refine st_not rfl ?_ | refine st_pick_t rfl rfl rfl ?_ | refine st_pick_f rfl rfl rfl ?_ | refine st_g rfl ?_ | refine a_gtf rfl ?_ | refine a_gft rfl ?_ | refine a_gu rfl ?_ | refine a_mklist (ec rfl en) (mz mkn) ?_ | refine a_mid ?_)
    first | refine a_endq (by repeat (first | exact pr_nil | (apply pr_cons; rfl))) ?_ | refine a_end (by repeat (first | exact pr_nil | (apply pr_cons; rfl))) ?_
    have s5 : Sep h4 ((o3, shotO dn st wy T.coins 0) :: ((o2, shot0) :: (T.lay ++ R))) := s4.sub ((List.sublist_append_right _ _).trans (List.sublist_append_right _ _) |>.cons_cons _)
    cases dn with
    | true =>
      refine s_cond_f rfl (sc_skip (sq_n ?_))
      refine SC.weak ws (fin h4 st.tok wy.tok ?_)
      rw [hD, hS, hW, hN]
      exact s5
    | false =>
      refine s_cond_t rfl (s_reg ?_)
      repeat (first | refine a_op (fun _ => rfl) ?_ | refine a_load rfl (by assumption) rfl ?_ | refine a_load_at rfl (by assumption) (by assumption) ?_ | refine a_iaddr_at rfl rfl (by assumption) ?_ | refine a_iaddr_l rfl rfl (by assumption) rfl ?_ | refine st_load_r rfl rfl ?_ | refine a_cmp rfl rfl rfl ?_ | refine a_eqi rfl rfl ?_ | refine st_not rfl ?_ | refine st_pick_t rfl rfl rfl ?_ | refine st_pick_f rfl rfl rfl ?_ | refine st_g rfl ?_ | refine a_gtf rfl ?_ | refine a_gft rfl ?_ | refine a_gu rfl ?_ | refine a_mklist (ec rfl en) (mz mkn) ?_ | refine a_mid ?_)
      refine a_store rfl rfl go ⟨rfl, lb rfl, rfl⟩ ?_
      have s6 := Sep.set (A := []) s5 (.cells [.bool false, .list [] .full, wy.hv e2, ln (eInt .i64) T.coins, ii 0])
      change HO _ _ _ _ (h4.set o3 (.cells [.bool false, .list [] .full, wy.hv e2, ln (eInt .i64) T.coins, ii 0])) _
      generalize h4.set o3 _ = h6 at s6 ⊢
      have go : h6[o3]? = some (.cells [.bool false, .list [] .full, wy.hv e2, ln (eInt .i64) T.coins, ii 0]) := s6.get (by simp)
      repeat (first | refine a_op (fun _ => rfl) ?_ | refine a_load rfl (by assumption) rfl ?_ | refine a_load_at rfl (by assumption) (by assumption) ?_ | refine a_iaddr_at rfl rfl (by assumption) ?_ | refine a_iaddr_l rfl rfl (by assumption) rfl ?_ | refine st_load_r rfl rfl ?_ | refine a_cmp rfl rfl rfl ?_ | refine a_eqi rfl rfl ?_ | refine st_not rfl ?_ | refine st_pick_t rfl rfl rfl ?_ | refine st_pick_f rfl rfl rfl ?_ | refine st_g rfl ?_ | refine a_gtf rfl ?_ | refine a_gft rfl ?_ | refine a_gu rfl ?_ | refine a_mklist (ec rfl en) (mz mkn) ?_ | refine a_mid ?_)
      refine a_store rfl rfl go ⟨rfl, lb rfl, rfl⟩ ?_
      repeat (first | refine a_op (fun _ => rfl) ?_ | refine a_load rfl (by assumption) rfl ?_ | refine a_load_at rfl (by assumption) (by assumption) ?_ | refine a_iaddr_at rfl rfl (by assumption) ?_ | refine a_iaddr_l rfl rfl (by assumption) rfl ?_ | refine st_load_r rfl rfl ?_ | refine a_cmp rfl rfl rfl ?_ | refine a_eqi rfl rfl ?_ | refine st_not rfl ?_ | refine st_pick_t rfl rfl rfl ?_ | refine st_pick_f rfl rfl rfl ?_ | refine st_g rfl ?_ | refine a_gtf rfl ?_ | refine a_gft rfl ?_ | refine a_gu rfl ?_ | refine a_mklist (ec rfl en) (mz mkn) ?_ | refine a_mid ?_)
      first | refine a_endq (by repeat (first | exact pr_nil | (apply pr_cons; rfl))) ?_ | refine a_end (by repeat (first | exact pr_nil | (apply pr_cons; rfl))) ?_
      refine fin _ .full .full ?_
      rw [hD, hS, hW, hN]
      exact Sep.set (A := []) s6 _
end Go.Hw.VK

