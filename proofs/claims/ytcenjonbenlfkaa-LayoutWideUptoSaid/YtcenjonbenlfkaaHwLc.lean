import Derived.Test.YtcenjonbenlfkaaHwLb
set_option linter.unusedVariables false
set_option linter.unusedSimpArgs false
namespace Go.Hw.VL
open Go Go.Proofs

section
variable {P : Program} {N m : Nat} {S D : CallP} {b : Nat} {r : List Op} {e e' : Env} {h h' : Heap} {Q : Env → Heap → Prop} {QQ : Ex → Env → Heap → Prop} {d : Nat} {x y z : X}
theorem a_callv {f : FuncId} {caps : List HV} {xs : List X} {vs ws : List HV} {v : HV} (hf : x.ev e = some (.func f caps)) (hx : evs e xs = some vs) (ha : vs.map HV.strip1 ++ caps = ws) (hp : PCall P f ws v) (k : HO (HCalls P) b r ((d, v) :: e) h Q) : HO (HCalls P) b (⟨some d, .callv x xs, none⟩ :: r) e h Q := by
  refine ⟨?_⟩
  subst ha
  simp only [hops, hcall, hf, hx]
  exact hp.use k.out
theorem flat_len {A : Type} {f : A → HV} {sz : Nat} (hf : Enc f sz) : ∀ u : List A, (flat (u.map f)).length = u.length * sz
  | [] => by simp [flat]
  | a :: u => by
    have := flat_len hf u
    simp only [List.map_cons, flat, List.flatMap_cons, List.length_append, List.length_cons] at this ⊢
    rw [this, hf.wid a, Nat.succ_mul]; omega
theorem a_stA {A : Type} {f : A → HV} {id i sz : Nat} {l : List A} {a : A} (hf : Enc f sz) (hx : x.ev e = some (.ptr id (i * sz))) (hy : y.ev e = some (f a)) (hc : h[id]? = some (GA f l)) (hi : i < l.length) (k : HO S b r e (h.set id (GA f (l.set i a))) Q) : HO S b (⟨none, .op (.store sz x y), none⟩ :: r) e h Q := by
  obtain ⟨a0, ha0⟩ : ∃ a0, l[i]? = some a0 := ⟨_, List.getElem?_eq_getElem hi⟩
  have hmul : (i + 1) * sz ≤ l.length * sz := Nat.mul_le_mul_right _ hi
  refine g_store_p hx hy hc ⟨hf.wid a, ?_, hf.tup a⟩ ?_ k
  · rw [flat_len hf]
    rw [Nat.succ_mul] at hmul
    exact hmul
  · have := put_flat (sub := 0) (vs := (f a).cells) (a' := a) hf ha0 (by rw [hf.wid]; omega) (by simp [putAt, hf.wid])
    rw [Nat.add_zero] at this
    rw [this]
theorem put_all {A : Type} {f : A → HV} {sz : Nat} (hf : Enc f sz) (a j ys : List A) (hj : ys.length = j.length) : putAt (flat ((a ++ j).map f)) (a.length * sz) (flat (ys.map f)) = flat ((a ++ ys).map f) := by
  have e : ∀ u v : List A, flat ((u ++ v).map f) = flat (u.map f) ++ flat (v.map f) := fun u v => by simp [flat]
  have h1 := flat_len hf a
  have h2 : (flat (ys.map f)).length = (flat (j.map f)).length := by rw [flat_len hf, flat_len hf, hj]
  unfold putAt
  rw [e, e, ← h1, List.take_left, h2, List.drop_append, List.drop_of_length_le (by omega), List.drop_of_length_le (by omega)]
  simp
theorem a_clear {A : Type} {f : A → HV} {id sz : Nat} {l j : List A} {z : List HV} {zp : A} (hf : Enc f sz) (hz : z = (f zp).cells) (hx : x.ev e = some (.arr id (l.length * sz) j.length sz)) (hc : h[id]? = some (GA f (l ++ j))) (k : HO S b r e (h.set id (GA f (l ++ List.replicate j.length zp))) Q) : HO S b (⟨none, .op (.clear sz z x), none⟩ :: r) e h Q := by
  have hcs : Heap.cells h id = some (flat ((l ++ j).map f)) := by simp [Heap.cells, hc, GA]
  refine ⟨?_⟩
  subst hz
  simp only [hops, hcall, hstep, hx, hcs]
  refine ⟨⟨trivial, hf.wid zp, ?_⟩, ?_⟩
  · rw [flat_len hf, List.length_append, Nat.add_mul]; exact Nat.le_refl _
  · rw [rep_flat, put_all hf l j _ (by simp)]
    exact k.out
theorem a_slA2 {id n sz : Nat} {i : IntKind} {q : Nat} (hx : x.ev e = some (.arr id 0 n sz)) (hb : y.ev e = some (.int i q)) (hq : q ≤ n) (kk : HO S b r ((d, .arr id (q * sz) (n - q) sz) :: e) h Q) : HO S b (⟨some d, .op (.slice sz x (some y) none none), none⟩ :: r) e h Q := by
  refine ⟨?_⟩
  simp only [hops, hcall, hstep, hx, bnd, hb]
  refine ⟨⟨trivial, by omega, by omega, by omega⟩, ?_⟩
  have e1 : ((n : Int) - (q : Int)).toNat = n - q := by omega
  simp only [Int.toNat_natCast, Nat.zero_add, e1]
  exact kk.out
end
def isH (p : Pc) : Bool := p.Kind == 4
theorem s17 (p : Pc) : sp17 p (isH p) := by
  refine ok17 _ _ ?_
  rintro _ rfl
  rfl
def fidx (l : List Pc) : Int := match l.findIdx? isH with
  | some j => j
  | none => -1
theorem fidx_cases (l : List Pc) : (fidx l = -1 ∧ ∀ p ∈ l, isH p = false) ∨ ∃ k : Nat, fidx l = k ∧ k < l.length ∧ (∃ p, l[k]? = some p ∧ isH p = true) ∧ ∀ p ∈ l.take k, isH p = false := by
  unfold fidx
  cases hf : l.findIdx? isH with
  | none =>
    left
    refine ⟨rfl, fun p hp => ?_⟩
    have := List.findIdx?_eq_none_iff.1 hf p hp
    simpa using this
  | some j =>
    right
    rw [List.findIdx?_eq_some_iff_getElem] at hf
    obtain ⟨h1, h2, h3⟩ := hf
    refine ⟨j, rfl, h1, ⟨_, List.getElem?_eq_getElem h1, h2⟩, fun p hp => ?_⟩
    obtain ⟨i, hi⟩ := List.getElem?_of_mem hp
    have hil := (List.getElem?_eq_some_iff.1 hi).1
    rw [List.length_take] at hil
    rw [List.getElem?_take, if_pos (by omega)] at hi
    obtain ⟨h4, h5⟩ := List.getElem?_eq_some_iff.1 hi
    have := h3 i (by omega)
    rw [h5] at this
    simpa using this
theorem fidx_at {l : List Pc} {k : Nat} {p : Pc} (hp : l[k]? = some p) (h1 : isH p = true) (h2 : ∀ q ∈ l.take k, isH q = false) : fidx l = k := by
  rcases fidx_cases l with ⟨_, h⟩ | ⟨j, h3, h4, ⟨q, h5, h6⟩, h7⟩
  · have := h p (List.mem_of_getElem? hp)
    rw [h1] at this; cases this
  · rw [h3]
    rcases Nat.lt_trichotomy j k with hlt | he | hgt
    · have : q ∈ l.take k := List.mem_of_getElem? (i := j) (by rw [List.getElem?_take, if_pos hlt]; exact h5)
      rw [h2 q this] at h6; cases h6
    · rw [he]
    · have : p ∈ l.take j := List.mem_of_getElem? (i := k) (by rw [List.getElem?_take, if_pos hgt]; exact hp)
      rw [h7 p this] at h1; cases h1
set_option maxHeartbeats 1000000 in
theorem r32 {h : Heap} {R : Lay} {id : Nat} {l : List Pc} (hl : l.length ≤ 100000) (hs : Sep h ((id, GA eGLayout_Piece l) :: R)) {Q : HV → Heap → Prop} (kk : ∀ h', Sep h' ((id, GA eGLayout_Piece l) :: R) → Q (ii (fidx l)) h') : HCalls Try.prog 32 [.arr id 0 l.length 3, .func 17 []] h Q := by
  refine sc_func2 (rs := [.t 4]) Try.func32 rfl (by decide) (by kernel_rfl) (lb rfl) hk32 ?_
  show SC Try.prog Try.f32.ntmps _ hc32 _ [(0, .arr id 0 l.length 3), (1, .func 17 [])] h
  unfold hc32
  refine q_reg ?_
  repeat (first | refine a_op (fun _ => rfl) ?_ | refine a_load rfl (by assumption) rfl ?_ | refine a_load_at rfl (by assumption) (by assumption) ?_ | refine a_iaddr_at rfl rfl (by assumption) ?_ | refine a_iaddr_l rfl rfl (by assumption) rfl ?_ | refine st_load_r rfl rfl ?_ | refine a_cmp rfl rfl rfl ?_ | refine a_eqi rfl rfl ?_ | refine st_not rfl ?_ | refine st_pick_t rfl rfl rfl ?_ | refine st_pick_f rfl rfl rfl ?_ | refine st_g rfl ?_ | refine a_gtf rfl ?_ | refine a_gft rfl ?_ | refine a_gu rfl ?_ | refine a_mklist (ec rfl en) (mz mkn) ?_ | refine a_mid ?_)
  first | refine a_endq (by repeat (first | exact pr_nil | (apply pr_cons; rfl))) ?_ | refine a_end (by repeat (first | exact pr_nil | (apply pr_cons; rfl))) ?_
  refine sc_seq (q_reg ?_)
  repeat (first | refine a_op (fun _ => rfl) ?_ | refine a_load rfl (by assumption) rfl ?_ | refine a_load_at rfl (by assumption) (by assumption) ?_ | refine a_iaddr_at rfl rfl (by assumption) ?_ | refine a_iaddr_l rfl rfl (by assumption) rfl ?_ | refine st_load_r rfl rfl ?_ | refine a_cmp rfl rfl rfl ?_ | refine a_eqi rfl rfl ?_ | refine st_not rfl ?_ | refine st_pick_t rfl rfl rfl ?_ | refine st_pick_f rfl rfl rfl ?_ | refine st_g rfl ?_ | refine a_gtf rfl ?_ | refine a_gft rfl ?_ | refine a_gu rfl ?_ | refine a_mklist (ec rfl en) (mz mkn) ?_ | refine a_mid ?_)
  first | refine a_endq (by repeat (first | exact pr_nil | (apply pr_cons; rfl))) ?_ | refine a_end (by repeat (first | exact pr_nil | (apply pr_cons; rfl))) ?_
  refine sc_block (sc_loop (X := { x : Nat × Heap // x.1 ≤ l.length ∧ (∀ q ∈ l.take x.1, isH q = false) ∧ Sep x.2 ((id, GA eGLayout_Piece l) :: R) })
    (fun x => ([(0, .arr id 0 l.length 3), (1, .func 17 []), (7, ii (l.length : Nat)), (8, ii (x.1.1 : Nat))], x.1.2)) (fun x => l.length - x.1.1)
    ⟨(0, h), Nat.zero_le _, by simp, hs⟩ (WeakF.refl _ _) ?_)
  rintro ⟨⟨k, h1⟩, hk, hno, s1⟩
  simp only at hk hno s1
  have gi : h1[id]? = some (GA eGLayout_Piece l) := s1.get (by simp)
  refine q_reg ?_
  repeat (first | refine a_op (fun _ => rfl) ?_ | refine a_load rfl (by assumption) rfl ?_ | refine a_load_at rfl (by assumption) (by assumption) ?_ | refine a_iaddr_at rfl rfl (by assumption) ?_ | refine a_iaddr_l rfl rfl (by assumption) rfl ?_ | refine st_load_r rfl rfl ?_ | refine a_cmp rfl rfl rfl ?_ | refine a_eqi rfl rfl ?_ | refine st_not rfl ?_ | refine st_pick_t rfl rfl rfl ?_ | refine st_pick_f rfl rfl rfl ?_ | refine st_g rfl ?_ | refine a_gtf rfl ?_ | refine a_gft rfl ?_ | refine a_gu rfl ?_ | refine a_mklist (ec rfl en) (mz mkn) ?_ | refine a_mid ?_)
  first | refine a_endq (by repeat (first | exact pr_nil | (apply pr_cons; rfl))) ?_ | refine a_end (by repeat (first | exact pr_nil | (apply pr_cons; rfl))) ?_
  refine sc_seq (sc_cond rfl (fun hz => ?_) (fun hz => ?_))
  · have hkl : k < l.length := by have := of_decide_eq_true hz; dsimp only at this; omega
    obtain ⟨p, hp⟩ : ∃ x, l[k]? = some x := ⟨_, List.getElem?_eq_getElem hkl⟩
    refine sc_skip (sq_n (sc_seq (sc_block (q_reg ?_))))
    repeat (first | refine a_op (fun _ => rfl) ?_ | refine a_load rfl (by assumption) rfl ?_ | refine a_load_at rfl (by assumption) (by assumption) ?_ | refine a_iaddr_at rfl rfl (by assumption) ?_ | refine a_iaddr_l rfl rfl (by assumption) rfl ?_ | refine st_load_r rfl rfl ?_ | refine a_cmp rfl rfl rfl ?_ | refine a_eqi rfl rfl ?_ | refine st_not rfl ?_ | refine st_pick_t rfl rfl rfl ?_ | refine st_pick_f rfl rfl rfl ?_ | refine st_g rfl ?_ | refine a_gtf rfl ?_ | refine a_gft rfl ?_ | refine a_gu rfl ?_ | refine a_mklist (ec rfl en) (mz mkn) ?_ | refine a_mid ?_)
    first | refine a_endq (by repeat (first | exact pr_nil | (apply pr_cons; rfl))) ?_ | refine a_end (by repeat (first | exact pr_nil | (apply pr_cons; rfl))) ?_
    refine q_reg ?_
    repeat (first | refine a_op (fun _ => rfl) ?_ | refine a_load rfl (by assumption) rfl ?_ | refine a_load_at rfl (by assumption) (by assumption) ?_ | refine a_iaddr_at rfl rfl (by assumption) ?_ | refine a_iaddr_l rfl rfl (by assumption) rfl ?_ | refine st_load_r rfl rfl ?_ | refine a_cmp rfl rfl rfl ?_ | refine a_eqi rfl rfl ?_ | refine st_not rfl ?_ | refine st_pick_t rfl rfl rfl ?_ | refine st_pick_f rfl rfl rfl ?_ | refine st_g rfl ?_ | refine a_gtf rfl ?_ | refine a_gft rfl ?_ | refine a_gu rfl ?_ | refine a_mklist (ec rfl en) (mz mkn) ?_ | refine a_mid ?_)
    refine a_iaA (i := k) rfl rfl hkl ?_
    refine a_ldA enc_GLayout_Piece rfl gi hp ⟨_, rfl, rfl⟩ ?_
    refine a_callv rfl (ec rfl en) rfl (s17 p) ?_
    repeat (first | refine a_op (fun _ => rfl) ?_ | refine a_load rfl (by assumption) rfl ?_ | refine a_load_at rfl (by assumption) (by assumption) ?_ | refine a_iaddr_at rfl rfl (by assumption) ?_ | refine a_iaddr_l rfl rfl (by assumption) rfl ?_ | refine st_load_r rfl rfl ?_ | refine a_cmp rfl rfl rfl ?_ | refine a_eqi rfl rfl ?_ | refine st_not rfl ?_ | refine st_pick_t rfl rfl rfl ?_ | refine st_pick_f rfl rfl rfl ?_ | refine st_g rfl ?_ | refine a_gtf rfl ?_ | refine a_gft rfl ?_ | refine a_gu rfl ?_ | refine a_mklist (ec rfl en) (mz mkn) ?_ | refine a_mid ?_)
    first | refine a_endq (by repeat (first | exact pr_nil | (apply pr_cons; rfl))) ?_ | refine a_end (by repeat (first | exact pr_nil | (apply pr_cons; rfl))) ?_
    refine sc_cond (t := isH p) rfl (fun hh => ?_) (fun hh => ?_)
    · refine q_reg ?_
      repeat (first | refine a_op (fun _ => rfl) ?_ | refine a_load rfl (by assumption) rfl ?_ | refine a_load_at rfl (by assumption) (by assumption) ?_ | refine a_iaddr_at rfl rfl (by assumption) ?_ | refine a_iaddr_l rfl rfl (by assumption) rfl ?_ | refine st_load_r rfl rfl ?_ | refine a_cmp rfl rfl rfl ?_ | refine a_eqi rfl rfl ?_ | refine st_not rfl ?_ | refine st_pick_t rfl rfl rfl ?_ | refine st_pick_f rfl rfl rfl ?_ | refine st_g rfl ?_ | refine a_gtf rfl ?_ | refine a_gft rfl ?_ | refine a_gu rfl ?_ | refine a_mklist (ec rfl en) (mz mkn) ?_ | refine a_mid ?_)
      first | refine a_endq (by repeat (first | exact pr_nil | (apply pr_cons; rfl))) ?_ | refine a_end (by repeat (first | exact pr_nil | (apply pr_cons; rfl))) ?_
      refine sc_ret (bl_r (x_ret _ rfl ?_))
      rw [← fidx_at hp hh hno]
      exact kk h1 s1
    · refine sc_skip ?_
      refine s_reg ?_
      repeat (first | refine a_op (fun _ => rfl) ?_ | refine a_load rfl (by assumption) rfl ?_ | refine a_load_at rfl (by assumption) (by assumption) ?_ | refine a_iaddr_at rfl rfl (by assumption) ?_ | refine a_iaddr_l rfl rfl (by assumption) rfl ?_ | refine st_load_r rfl rfl ?_ | refine a_cmp rfl rfl rfl ?_ | refine a_eqi rfl rfl ?_ | refine st_not rfl ?_ | refine st_pick_t rfl rfl rfl ?_ | refine st_pick_f rfl rfl rfl ?_ | refine st_g rfl ?_ | refine a_gtf rfl ?_ | refine a_gft rfl ?_ | refine a_gu rfl ?_ | refine a_mklist (ec rfl en) (mz mkn) ?_ | refine a_mid ?_)
      refine a_add rfl rfl (by first | omega | (dsimp only; omega)) ?_
      repeat (first | refine a_op (fun _ => rfl) ?_ | refine a_load rfl (by assumption) rfl ?_ | refine a_load_at rfl (by assumption) (by assumption) ?_ | refine a_iaddr_at rfl rfl (by assumption) ?_ | refine a_iaddr_l rfl rfl (by assumption) rfl ?_ | refine st_load_r rfl rfl ?_ | refine a_cmp rfl rfl rfl ?_ | refine a_eqi rfl rfl ?_ | refine st_not rfl ?_ | refine st_pick_t rfl rfl rfl ?_ | refine st_pick_f rfl rfl rfl ?_ | refine st_g rfl ?_ | refine a_gtf rfl ?_ | refine a_gft rfl ?_ | refine a_gu rfl ?_ | refine a_mklist (ec rfl en) (mz mkn) ?_ | refine a_mid ?_)
      first | refine a_endq (by repeat (first | exact pr_nil | (apply pr_cons; rfl))) ?_ | refine a_end (by repeat (first | exact pr_nil | (apply pr_cons; rfl))) ?_
      refine lo_n ⟨(k + 1, h1), hkl, fun q hq => ?_, s1⟩ (by show l.length - (k + 1) < l.length - k; omega) (WeakF.refl _ _)
      rw [take_snoc hp] at hq
      rcases List.mem_append.1 hq with hq | hq
      · exact hno q hq
      · rw [List.mem_singleton.1 hq]; exact hh
  · have hkl : ¬ k < l.length := by have := of_decide_eq_false hz; dsimp only at this; omega
    have hkn : k = l.length := by omega
    subst hkn
    rw [List.take_length] at hno
    refine sc_exit (sq_x (lo_x (bl_x (sq_n (q_reg ?_)))))
    repeat (first | refine a_op (fun _ => rfl) ?_ | refine a_load rfl (by assumption) rfl ?_ | refine a_load_at rfl (by assumption) (by assumption) ?_ | refine a_iaddr_at rfl rfl (by assumption) ?_ | refine a_iaddr_l rfl rfl (by assumption) rfl ?_ | refine st_load_r rfl rfl ?_ | refine a_cmp rfl rfl rfl ?_ | refine a_eqi rfl rfl ?_ | refine st_not rfl ?_ | refine st_pick_t rfl rfl rfl ?_ | refine st_pick_f rfl rfl rfl ?_ | refine st_g rfl ?_ | refine a_gtf rfl ?_ | refine a_gft rfl ?_ | refine a_gu rfl ?_ | refine a_mklist (ec rfl en) (mz mkn) ?_ | refine a_mid ?_)
    first | refine a_endq (by repeat (first | exact pr_nil | (apply pr_cons; rfl))) ?_ | refine a_end (by repeat (first | exact pr_nil | (apply pr_cons; rfl))) ?_
    refine sc_ret (x_ret _ rfl ?_)
    have : fidx l = -1 := by
      rcases fidx_cases l with ⟨h, _⟩ | ⟨j, _, _, ⟨p, h1, h2⟩, _⟩
      · exact h
      · have := hno p (List.mem_of_getElem? h1)
        rw [h2] at this; cases this
    rw [this] at kk
    exact kk h1 s1
def keepF (l : List Pc) : List Pc := l.filter fun p => !isH p
set_option maxRecDepth 4000 in
set_option maxHeartbeats 2000000 in
theorem r15 {h : Heap} {R : Lay} {id : Nat} {l : List Pc} (hl : l.length ≤ 100000) (hs : Sep h ((id, GA eGLayout_Piece l) :: R)) {Q : HV → Heap → Prop}
    (kk : ∀ (h' : Heap) (junk : List Pc), Sep h' ((id, GA eGLayout_Piece (keepF l ++ junk)) :: R) → Q (.arr id 0 (keepF l).length 3) h') : HCalls Try.prog 15 [.arr id 0 l.length 3, .func 17 []] h Q := by
  refine sc_func2 (rs := [.t 4]) Try.func15 rfl (by decide) (by kernel_rfl) (lb rfl) hk15 ?_
  show SC Try.prog Try.f15.ntmps _ hc15 _ [(0, .arr id 0 l.length 3), (1, .func 17 [])] h
  unfold hc15
  refine q_reg ?_
  repeat (first | refine a_op (fun _ => rfl) ?_ | refine a_load rfl (by assumption) rfl ?_ | refine a_load_at rfl (by assumption) (by assumption) ?_ | refine a_iaddr_at rfl rfl (by assumption) ?_ | refine a_iaddr_l rfl rfl (by assumption) rfl ?_ | refine st_load_r rfl rfl ?_ | refine a_cmp rfl rfl rfl ?_ | refine a_eqi rfl rfl ?_ | refine st_not rfl ?_ | refine st_pick_t rfl rfl rfl ?_ | refine st_pick_f rfl rfl rfl ?_ | refine st_g rfl ?_ | refine a_gtf rfl ?_ | refine a_gft rfl ?_ | refine a_gu rfl ?_ | refine a_mklist (ec rfl en) (mz mkn) ?_ | refine a_mid ?_)
  first | refine a_endq (by repeat (first | exact pr_nil | (apply pr_cons; rfl))) ?_ | refine a_end (by repeat (first | exact pr_nil | (apply pr_cons; rfl))) ?_
  refine q_reg ?_
  repeat (first | refine a_op (fun _ => rfl) ?_ | refine a_load rfl (by assumption) rfl ?_ | refine a_load_at rfl (by assumption) (by assumption) ?_ | refine a_iaddr_at rfl rfl (by assumption) ?_ | refine a_iaddr_l rfl rfl (by assumption) rfl ?_ | refine st_load_r rfl rfl ?_ | refine a_cmp rfl rfl rfl ?_ | refine a_eqi rfl rfl ?_ | refine st_not rfl ?_ | refine st_pick_t rfl rfl rfl ?_ | refine st_pick_f rfl rfl rfl ?_ | refine st_g rfl ?_ | refine a_gtf rfl ?_ | refine a_gft rfl ?_ | refine a_gu rfl ?_ | refine a_mklist (ec rfl en) (mz mkn) ?_ | refine a_mid ?_)
  refine a_call (ec rfl (ec rfl en)) (r32 hl hs (fun h1 s1 => ?_))
  repeat (first | refine a_op (fun _ => rfl) ?_ | refine a_load rfl (by assumption) rfl ?_ | refine a_load_at rfl (by assumption) (by assumption) ?_ | refine a_iaddr_at rfl rfl (by assumption) ?_ | refine a_iaddr_l rfl rfl (by assumption) rfl ?_ | refine st_load_r rfl rfl ?_ | refine a_cmp rfl rfl rfl ?_ | refine a_eqi rfl rfl ?_ | refine st_not rfl ?_ | refine st_pick_t rfl rfl rfl ?_ | refine st_pick_f rfl rfl rfl ?_ | refine st_g rfl ?_ | refine a_gtf rfl ?_ | refine a_gft rfl ?_ | refine a_gu rfl ?_ | refine a_mklist (ec rfl en) (mz mkn) ?_ | refine a_mid ?_)
  first | refine a_endq (by repeat (first | exact pr_nil | (apply pr_cons; rfl))) ?_ | refine a_end (by repeat (first | exact pr_nil | (apply pr_cons; rfl))) ?_
  rcases fidx_cases l with ⟨he, hno⟩ | ⟨k0, he, hk0, ⟨p0, hp0, hh0⟩, hno⟩
  · rw [he]
    refine sc_seq (q_reg ?_)
    repeat (first | refine a_op (fun _ => rfl) ?_ | refine a_load rfl (by assumption) rfl ?_ | refine a_load_at rfl (by assumption) (by assumption) ?_ | refine a_iaddr_at rfl rfl (by assumption) ?_ | refine a_iaddr_l rfl rfl (by assumption) rfl ?_ | refine st_load_r rfl rfl ?_ | refine a_cmp rfl rfl rfl ?_ | refine a_eqi rfl rfl ?_ | refine st_not rfl ?_ | refine st_pick_t rfl rfl rfl ?_ | refine st_pick_f rfl rfl rfl ?_ | refine st_g rfl ?_ | refine a_gtf rfl ?_ | refine a_gft rfl ?_ | refine a_gu rfl ?_ | refine a_mklist (ec rfl en) (mz mkn) ?_ | refine a_mid ?_)
    first | refine a_endq (by repeat (first | exact pr_nil | (apply pr_cons; rfl))) ?_ | refine a_end (by repeat (first | exact pr_nil | (apply pr_cons; rfl))) ?_
    refine s_cond_t rfl (q_reg ?_)
    repeat (first | refine a_op (fun _ => rfl) ?_ | refine a_load rfl (by assumption) rfl ?_ | refine a_load_at rfl (by assumption) (by assumption) ?_ | refine a_iaddr_at rfl rfl (by assumption) ?_ | refine a_iaddr_l rfl rfl (by assumption) rfl ?_ | refine st_load_r rfl rfl ?_ | refine a_cmp rfl rfl rfl ?_ | refine a_eqi rfl rfl ?_ | refine st_not rfl ?_ | refine st_pick_t rfl rfl rfl ?_ | refine st_pick_f rfl rfl rfl ?_ | refine st_g rfl ?_ | refine a_gtf rfl ?_ | refine a_gft rfl ?_ | refine a_gu rfl ?_ | refine a_mklist (ec rfl en) (mz mkn) ?_ | refine a_mid ?_)
    first | refine a_endq (by repeat (first | exact pr_nil | (apply pr_cons; rfl))) ?_ | refine a_end (by repeat (first | exact pr_nil | (apply pr_cons; rfl))) ?_
    refine sc_ret (sq_r (x_ret _ rfl ?_))
    have e1 : keepF l = l := List.filter_eq_self.2 fun p hp => by simp [hno p hp]
    rw [e1] at kk
    exact kk h1 [] (by rw [List.append_nil]; exact s1)
  rw [he]
  refine sc_seq (q_reg ?_)
  repeat (first | refine a_op (fun _ => rfl) ?_ | refine a_load rfl (by assumption) rfl ?_ | refine a_load_at rfl (by assumption) (by assumption) ?_ | refine a_iaddr_at rfl rfl (by assumption) ?_ | refine a_iaddr_l rfl rfl (by assumption) rfl ?_ | refine st_load_r rfl rfl ?_ | refine a_cmp rfl rfl rfl ?_ | refine a_eqi rfl rfl ?_ | refine st_not rfl ?_ | refine st_pick_t rfl rfl rfl ?_ | refine st_pick_f rfl rfl rfl ?_ | refine st_g rfl ?_ | refine a_gtf rfl ?_ | refine a_gft rfl ?_ | refine a_gu rfl ?_ | refine a_mklist (ec rfl en) (mz mkn) ?_ | refine a_mid ?_)
  first | refine a_endq (by repeat (first | exact pr_nil | (apply pr_cons; rfl))) ?_ | refine a_end (by repeat (first | exact pr_nil | (apply pr_cons; rfl))) ?_
  have e0 : (if false = true then !((k0 : Int) == -1) else (k0 : Int) == -1) = false := by
    have : ¬ (k0 : Int) = -1 := by omega
    simp [this]
  rw [e0]
  refine s_cond_f rfl (sc_skip (sq_n (sc_seq ?_)))
  refine q_reg ?_
  repeat (first | refine a_op (fun _ => rfl) ?_ | refine a_load rfl (by assumption) rfl ?_ | refine a_load_at rfl (by assumption) (by assumption) ?_ | refine a_iaddr_at rfl rfl (by assumption) ?_ | refine a_iaddr_l rfl rfl (by assumption) rfl ?_ | refine st_load_r rfl rfl ?_ | refine a_cmp rfl rfl rfl ?_ | refine a_eqi rfl rfl ?_ | refine st_not rfl ?_ | refine st_pick_t rfl rfl rfl ?_ | refine st_pick_f rfl rfl rfl ?_ | refine st_g rfl ?_ | refine a_gtf rfl ?_ | refine a_gft rfl ?_ | refine a_gu rfl ?_ | refine a_mklist (ec rfl en) (mz mkn) ?_ | refine a_mid ?_)
  refine a_add rfl rfl (by first | omega | (dsimp only; omega)) ?_
  repeat (first | refine a_op (fun _ => rfl) ?_ | refine a_load rfl (by assumption) rfl ?_ | refine a_load_at rfl (by assumption) (by assumption) ?_ | refine a_iaddr_at rfl rfl (by assumption) ?_ | refine a_iaddr_l rfl rfl (by assumption) rfl ?_ | refine st_load_r rfl rfl ?_ | refine a_cmp rfl rfl rfl ?_ | refine a_eqi rfl rfl ?_ | refine st_not rfl ?_ | refine st_pick_t rfl rfl rfl ?_ | refine st_pick_f rfl rfl rfl ?_ | refine st_g rfl ?_ | refine a_gtf rfl ?_ | refine a_gft rfl ?_ | refine a_gu rfl ?_ | refine a_mklist (ec rfl en) (mz mkn) ?_ | refine a_mid ?_)
  first | refine a_endq (by repeat (first | exact pr_nil | (apply pr_cons; rfl))) ?_ | refine a_end (by repeat (first | exact pr_nil | (apply pr_cons; rfl))) ?_
  refine sc_block (sc_loop (X := { x : Nat × Nat × List Pc × Heap // x.1 < x.2.1 ∧ x.2.1 ≤ l.length ∧ x.2.2.1.length = l.length ∧ x.2.2.1.take x.1 = keepF (l.take x.2.1) ∧ x.2.2.1.drop x.2.1 = l.drop x.2.1 ∧ Sep x.2.2.2 ((id, GA eGLayout_Piece x.2.2.1) :: R) })
    (fun x => ([(0, .arr id 0 l.length 3), (1, .func 17 []), (5, ii (x.1.1 : Nat)), (6, ii (x.1.2.1 : Nat))], x.1.2.2.2)) (fun x => l.length - x.1.2.1)
    ⟨(k0, k0 + 1, l, h1), Nat.lt_succ_self _, hk0, rfl, ?_, rfl, s1⟩ (WeakF.refl _ _) ?_)
  · dsimp only
    rw [take_snoc hp0, keepF, List.filter_append]
    have : (l.take k0).filter (fun p => !isH p) = l.take k0 := List.filter_eq_self.2 fun p hp => by simp [hno p hp]
    rw [this]
    simp [hh0]
  rintro ⟨⟨i, j, c, h2⟩, hij, hjl, hcl, hti, hdj, s2⟩
  simp only at hij hjl hcl hti hdj s2
  have gi : h2[id]? = some (GA eGLayout_Piece c) := s2.get (by simp)
  refine sc_seq (q_reg ?_)
  repeat (first | refine a_op (fun _ => rfl) ?_ | refine a_load rfl (by assumption) rfl ?_ | refine a_load_at rfl (by assumption) (by assumption) ?_ | refine a_iaddr_at rfl rfl (by assumption) ?_ | refine a_iaddr_l rfl rfl (by assumption) rfl ?_ | refine st_load_r rfl rfl ?_ | refine a_cmp rfl rfl rfl ?_ | refine a_eqi rfl rfl ?_ | refine st_not rfl ?_ | refine st_pick_t rfl rfl rfl ?_ | refine st_pick_f rfl rfl rfl ?_ | refine st_g rfl ?_ | refine a_gtf rfl ?_ | refine a_gft rfl ?_ | refine a_gu rfl ?_ | refine a_mklist (ec rfl en) (mz mkn) ?_ | refine a_mid ?_)
  first | refine a_endq (by repeat (first | exact pr_nil | (apply pr_cons; rfl))) ?_ | refine a_end (by repeat (first | exact pr_nil | (apply pr_cons; rfl))) ?_
  refine sc_cond rfl (fun hz => ?_) (fun hz => ?_)
  · have hjlt : j < l.length := by have := of_decide_eq_true hz; dsimp only at this; omega
    obtain ⟨p, hp⟩ : ∃ x, l[j]? = some x := ⟨_, List.getElem?_eq_getElem hjlt⟩
    have hcj : c[j]? = some p := by
      have h3 : (c.drop j)[0]? = (l.drop j)[0]? := by rw [hdj]
      rw [List.getElem?_drop, List.getElem?_drop, Nat.add_zero] at h3
      rw [h3]; exact hp
    have hdj1 : c.drop (j + 1) = l.drop (j + 1) := by
      have := congrArg (List.drop 1) hdj
      rwa [List.drop_drop, List.drop_drop] at this
    refine sc_skip ?_
    refine sc_seq (sc_block (q_reg ?_))
    repeat (first | refine a_op (fun _ => rfl) ?_ | refine a_load rfl (by assumption) rfl ?_ | refine a_load_at rfl (by assumption) (by assumption) ?_ | refine a_iaddr_at rfl rfl (by assumption) ?_ | refine a_iaddr_l rfl rfl (by assumption) rfl ?_ | refine st_load_r rfl rfl ?_ | refine a_cmp rfl rfl rfl ?_ | refine a_eqi rfl rfl ?_ | refine st_not rfl ?_ | refine st_pick_t rfl rfl rfl ?_ | refine st_pick_f rfl rfl rfl ?_ | refine st_g rfl ?_ | refine a_gtf rfl ?_ | refine a_gft rfl ?_ | refine a_gu rfl ?_ | refine a_mklist (ec rfl en) (mz mkn) ?_ | refine a_mid ?_)
    refine a_iaA (i := j) rfl rfl hjlt ?_
    refine a_ldA enc_GLayout_Piece rfl gi hcj ⟨_, rfl, rfl⟩ ?_
    refine a_alloc ?_
    refine a_store rfl rfl (List.getElem?_concat_length) ⟨rfl, lb rfl, rfl⟩ ?_
    repeat (first | refine a_op (fun _ => rfl) ?_ | refine a_load rfl (by assumption) rfl ?_ | refine a_load_at rfl (by assumption) (by assumption) ?_ | refine a_iaddr_at rfl rfl (by assumption) ?_ | refine a_iaddr_l rfl rfl (by assumption) rfl ?_ | refine st_load_r rfl rfl ?_ | refine a_cmp rfl rfl rfl ?_ | refine a_eqi rfl rfl ?_ | refine st_not rfl ?_ | refine st_pick_t rfl rfl rfl ?_ | refine st_pick_f rfl rfl rfl ?_ | refine st_g rfl ?_ | refine a_gtf rfl ?_ | refine a_gft rfl ?_ | refine a_gu rfl ?_ | refine a_mklist (ec rfl en) (mz mkn) ?_ | refine a_mid ?_)
    first | refine a_endq (by repeat (first | exact pr_nil | (apply pr_cons; rfl))) ?_ | refine a_end (by repeat (first | exact pr_nil | (apply pr_cons; rfl))) ?_
    have s3 := Sep.set (A := []) (s2.new (.cells [ii 0, ii 0, .str []])) (.cells [ii p.Kind, ii p.N, .str p.S])
    change SC _ _ _ _ _ [(0, .arr id 0 l.length 3), (1, .func 17 []), (5, ii (i : Nat)), (6, ii (j : Nat)), (7, .ptr h2.length 0)] ((h2 ++ [HObj.cells [ii 0, ii 0, .str []]]).set h2.length (.cells [ii p.Kind, ii p.N, .str p.S]))
    generalize h2.length = o5 at s3 ⊢
    generalize (h2 ++ [HObj.cells [ii 0, ii 0, .str []]]).set o5 (.cells [ii p.Kind, ii p.N, .str p.S]) = h3 at s3 ⊢
    simp only [List.nil_append] at s3
    have gp : h3[o5]? = some (.cells [ii p.Kind, ii p.N, .str p.S]) := s3.get (by simp)
    have gi3 : h3[id]? = some (GA eGLayout_Piece c) := s3.get (by simp)
    refine q_reg ?_
    repeat (first | refine a_op (fun _ => rfl) ?_ | refine a_load rfl (by assumption) rfl ?_ | refine a_load_at rfl (by assumption) (by assumption) ?_ | refine a_iaddr_at rfl rfl (by assumption) ?_ | refine a_iaddr_l rfl rfl (by assumption) rfl ?_ | refine st_load_r rfl rfl ?_ | refine a_cmp rfl rfl rfl ?_ | refine a_eqi rfl rfl ?_ | refine st_not rfl ?_ | refine st_pick_t rfl rfl rfl ?_ | refine st_pick_f rfl rfl rfl ?_ | refine st_g rfl ?_ | refine a_gtf rfl ?_ | refine a_gft rfl ?_ | refine a_gu rfl ?_ | refine a_mklist (ec rfl en) (mz mkn) ?_ | refine a_mid ?_)
    refine a_callv rfl (ec rfl en) rfl (s17 p) ?_
    repeat (first | refine a_op (fun _ => rfl) ?_ | refine a_load rfl (by assumption) rfl ?_ | refine a_load_at rfl (by assumption) (by assumption) ?_ | refine a_iaddr_at rfl rfl (by assumption) ?_ | refine a_iaddr_l rfl rfl (by assumption) rfl ?_ | refine st_load_r rfl rfl ?_ | refine a_cmp rfl rfl rfl ?_ | refine a_eqi rfl rfl ?_ | refine st_not rfl ?_ | refine st_pick_t rfl rfl rfl ?_ | refine st_pick_f rfl rfl rfl ?_ | refine st_g rfl ?_ | refine a_gtf rfl ?_ | refine a_gft rfl ?_ | refine a_gu rfl ?_ | refine a_mklist (ec rfl en) (mz mkn) ?_ | refine a_mid ?_)
    first | refine a_endq (by repeat (first | exact pr_nil | (apply pr_cons; rfl))) ?_ | refine a_end (by repeat (first | exact pr_nil | (apply pr_cons; rfl))) ?_
    have hkt : keepF (l.take (j + 1)) = keepF (l.take j) ++ (if isH p then [] else [p]) := by
      rw [take_snoc hp, keepF, List.filter_append]
      cases hq : isH p <;> simp [keepF, hq]
    refine sc_cond (t := !isH p) rfl (fun hh => ?_) (fun hh => ?_)
    · have hh : isH p = false := by simpa using hh
      rw [hh] at hkt
      refine q_reg ?_
      repeat (first | refine a_op (fun _ => rfl) ?_ | refine a_load rfl (by assumption) rfl ?_ | refine a_load_at rfl (by assumption) (by assumption) ?_ | refine a_iaddr_at rfl rfl (by assumption) ?_ | refine a_iaddr_l rfl rfl (by assumption) rfl ?_ | refine st_load_r rfl rfl ?_ | refine a_cmp rfl rfl rfl ?_ | refine a_eqi rfl rfl ?_ | refine st_not rfl ?_ | refine st_pick_t rfl rfl rfl ?_ | refine st_pick_f rfl rfl rfl ?_ | refine st_g rfl ?_ | refine a_gtf rfl ?_ | refine a_gft rfl ?_ | refine a_gu rfl ?_ | refine a_mklist (ec rfl en) (mz mkn) ?_ | refine a_mid ?_)
      refine a_iaA (i := i) rfl rfl (by omega) ?_
      refine a_stA (a := p) enc_GLayout_Piece rfl rfl gi3 (by omega) ?_
      repeat (first | refine a_op (fun _ => rfl) ?_ | refine a_load rfl (by assumption) rfl ?_ | refine a_load_at rfl (by assumption) (by assumption) ?_ | refine a_iaddr_at rfl rfl (by assumption) ?_ | refine a_iaddr_l rfl rfl (by assumption) rfl ?_ | refine st_load_r rfl rfl ?_ | refine a_cmp rfl rfl rfl ?_ | refine a_eqi rfl rfl ?_ | refine st_not rfl ?_ | refine st_pick_t rfl rfl rfl ?_ | refine st_pick_f rfl rfl rfl ?_ | refine st_g rfl ?_ | refine a_gtf rfl ?_ | refine a_gft rfl ?_ | refine a_gu rfl ?_ | refine a_mklist (ec rfl en) (mz mkn) ?_ | refine a_mid ?_)
      first | refine a_endq (by repeat (first | exact pr_nil | (apply pr_cons; rfl))) ?_ | refine a_end (by repeat (first | exact pr_nil | (apply pr_cons; rfl))) ?_
      refine s_reg ?_
      repeat (first | refine a_op (fun _ => rfl) ?_ | refine a_load rfl (by assumption) rfl ?_ | refine a_load_at rfl (by assumption) (by assumption) ?_ | refine a_iaddr_at rfl rfl (by assumption) ?_ | refine a_iaddr_l rfl rfl (by assumption) rfl ?_ | refine st_load_r rfl rfl ?_ | refine a_cmp rfl rfl rfl ?_ | refine a_eqi rfl rfl ?_ | refine st_not rfl ?_ | refine st_pick_t rfl rfl rfl ?_ | refine st_pick_f rfl rfl rfl ?_ | refine st_g rfl ?_ | refine a_gtf rfl ?_ | refine a_gft rfl ?_ | refine a_gu rfl ?_ | refine a_mklist (ec rfl en) (mz mkn) ?_ | refine a_mid ?_)
      refine a_add rfl rfl (by first | omega | (dsimp only; omega)) ?_
      repeat (first | refine a_op (fun _ => rfl) ?_ | refine a_load rfl (by assumption) rfl ?_ | refine a_load_at rfl (by assumption) (by assumption) ?_ | refine a_iaddr_at rfl rfl (by assumption) ?_ | refine a_iaddr_l rfl rfl (by assumption) rfl ?_ | refine st_load_r rfl rfl ?_ | refine a_cmp rfl rfl rfl ?_ | refine a_eqi rfl rfl ?_ | refine st_not rfl ?_ | refine st_pick_t rfl rfl rfl ?_ | refine st_pick_f rfl rfl rfl ?_ | refine st_g rfl ?_ | refine a_gtf rfl ?_ | refine a_gft rfl ?_ | refine a_gu rfl ?_ | refine a_mklist (ec rfl en) (mz mkn) ?_ | refine a_mid ?_)
      first | refine a_endq (by repeat (first | exact pr_nil | (apply pr_cons; rfl))) ?_ | refine a_end (by repeat (first | exact pr_nil | (apply pr_cons; rfl))) ?_
      refine s_reg ?_
      repeat (first | refine a_op (fun _ => rfl) ?_ | refine a_load rfl (by assumption) rfl ?_ | refine a_load_at rfl (by assumption) (by assumption) ?_ | refine a_iaddr_at rfl rfl (by assumption) ?_ | refine a_iaddr_l rfl rfl (by assumption) rfl ?_ | refine st_load_r rfl rfl ?_ | refine a_cmp rfl rfl rfl ?_ | refine a_eqi rfl rfl ?_ | refine st_not rfl ?_ | refine st_pick_t rfl rfl rfl ?_ | refine st_pick_f rfl rfl rfl ?_ | refine st_g rfl ?_ | refine a_gtf rfl ?_ | refine a_gft rfl ?_ | refine a_gu rfl ?_ | refine a_mklist (ec rfl en) (mz mkn) ?_ | refine a_mid ?_)
      refine a_add rfl rfl (by first | omega | (dsimp only; omega)) ?_
      repeat (first | refine a_op (fun _ => rfl) ?_ | refine a_load rfl (by assumption) rfl ?_ | refine a_load_at rfl (by assumption) (by assumption) ?_ | refine a_iaddr_at rfl rfl (by assumption) ?_ | refine a_iaddr_l rfl rfl (by assumption) rfl ?_ | refine st_load_r rfl rfl ?_ | refine a_cmp rfl rfl rfl ?_ | refine a_eqi rfl rfl ?_ | refine st_not rfl ?_ | refine st_pick_t rfl rfl rfl ?_ | refine st_pick_f rfl rfl rfl ?_ | refine st_g rfl ?_ | refine a_gtf rfl ?_ | refine a_gft rfl ?_ | refine a_gu rfl ?_ | refine a_mklist (ec rfl en) (mz mkn) ?_ | refine a_mid ?_)
      first | refine a_endq (by repeat (first | exact pr_nil | (apply pr_cons; rfl))) ?_ | refine a_end (by repeat (first | exact pr_nil | (apply pr_cons; rfl))) ?_
      have s4 := Sep.set (A := [(o5, .cells [ii p.Kind, ii p.N, .str p.S])]) (B := R) s3 (GA eGLayout_Piece (c.set i p))
      refine lo_n ⟨(i + 1, j + 1, c.set i p, h3.set id (GA eGLayout_Piece (c.set i p))), by dsimp only; omega, hjlt, by simpa using hcl, ?_, ?_, s4.sub (List.sublist_cons_self _ _)⟩ (by show l.length - (j + 1) < l.length - j; omega) (WeakF.refl _ _)
      · dsimp only
        rw [hkt, ← hti]
        have : (c.set i p)[i]? = some p := List.getElem?_set_self (by omega)
        rw [take_snoc this, List.take_set_of_le (Nat.le_refl _)]
        rfl
      · dsimp only
        rw [List.drop_set_of_lt (by omega), hdj1]
    · have hh : isH p = true := by simpa using hh
      rw [hh] at hkt
      refine sc_skip ?_
      refine s_reg ?_
      repeat (first | refine a_op (fun _ => rfl) ?_ | refine a_load rfl (by assumption) rfl ?_ | refine a_load_at rfl (by assumption) (by assumption) ?_ | refine a_iaddr_at rfl rfl (by assumption) ?_ | refine a_iaddr_l rfl rfl (by assumption) rfl ?_ | refine st_load_r rfl rfl ?_ | refine a_cmp rfl rfl rfl ?_ | refine a_eqi rfl rfl ?_ | refine st_not rfl ?_ | refine st_pick_t rfl rfl rfl ?_ | refine st_pick_f rfl rfl rfl ?_ | refine st_g rfl ?_ | refine a_gtf rfl ?_ | refine a_gft rfl ?_ | refine a_gu rfl ?_ | refine a_mklist (ec rfl en) (mz mkn) ?_ | refine a_mid ?_)
      refine a_add rfl rfl (by first | omega | (dsimp only; omega)) ?_
      repeat (first | refine a_op (fun _ => rfl) ?_ | refine a_load rfl (by assumption) rfl ?_ | refine a_load_at rfl (by assumption) (by assumption) ?_ | refine a_iaddr_at rfl rfl (by assumption) ?_ | refine a_iaddr_l rfl rfl (by assumption) rfl ?_ | refine st_load_r rfl rfl ?_ | refine a_cmp rfl rfl rfl ?_ | refine a_eqi rfl rfl ?_ | refine st_not rfl ?_ | refine st_pick_t rfl rfl rfl ?_ | refine st_pick_f rfl rfl rfl ?_ | refine st_g rfl ?_ | refine a_gtf rfl ?_ | refine a_gft rfl ?_ | refine a_gu rfl ?_ | refine a_mklist (ec rfl en) (mz mkn) ?_ | refine a_mid ?_)
      first | refine a_endq (by repeat (first | exact pr_nil | (apply pr_cons; rfl))) ?_ | refine a_end (by repeat (first | exact pr_nil | (apply pr_cons; rfl))) ?_
      refine lo_n ⟨(i, j + 1, c, h3), by dsimp only; omega, hjlt, hcl, ?_, hdj1, s3.sub (List.sublist_cons_self _ _)⟩ (by show l.length - (j + 1) < l.length - j; omega) (WeakF.refl _ _)
      dsimp only
      rw [hkt, hti]; simp
  · have hjlt : ¬ j < l.length := by have := of_decide_eq_false hz; dsimp only at this; omega
    have hjn : j = l.length := by omega
    subst hjn
    rw [List.take_length] at hti
    have hci : c = keepF l ++ c.drop i := by rw [← hti, List.take_append_drop]
    have hil : (keepF l).length = i := by rw [← hti, List.length_take]; omega
    have hdl : (c.drop i).length = l.length - i := by rw [List.length_drop, hcl]
    refine sc_exit ?_
    refine q_reg ?_
    repeat (first | refine a_op (fun _ => rfl) ?_ | refine a_load rfl (by assumption) rfl ?_ | refine a_load_at rfl (by assumption) (by assumption) ?_ | refine a_iaddr_at rfl rfl (by assumption) ?_ | refine a_iaddr_l rfl rfl (by assumption) rfl ?_ | refine st_load_r rfl rfl ?_ | refine a_cmp rfl rfl rfl ?_ | refine a_eqi rfl rfl ?_ | refine st_not rfl ?_ | refine st_pick_t rfl rfl rfl ?_ | refine st_pick_f rfl rfl rfl ?_ | refine st_g rfl ?_ | refine a_gtf rfl ?_ | refine a_gft rfl ?_ | refine a_gu rfl ?_ | refine a_mklist (ec rfl en) (mz mkn) ?_ | refine a_mid ?_)
    refine a_slA2 (q := i) rfl rfl (by omega) ?_
    refine a_clear (l := keepF l) (j := c.drop i) (zp := ⟨0, 0, []⟩) enc_GLayout_Piece rfl (by rw [hil, hdl]; rfl) (by rw [← hci]; exact gi) ?_
    repeat (first | refine a_op (fun _ => rfl) ?_ | refine a_load rfl (by assumption) rfl ?_ | refine a_load_at rfl (by assumption) (by assumption) ?_ | refine a_iaddr_at rfl rfl (by assumption) ?_ | refine a_iaddr_l rfl rfl (by assumption) rfl ?_ | refine st_load_r rfl rfl ?_ | refine a_cmp rfl rfl rfl ?_ | refine a_eqi rfl rfl ?_ | refine st_not rfl ?_ | refine st_pick_t rfl rfl rfl ?_ | refine st_pick_f rfl rfl rfl ?_ | refine st_g rfl ?_ | refine a_gtf rfl ?_ | refine a_gft rfl ?_ | refine a_gu rfl ?_ | refine a_mklist (ec rfl en) (mz mkn) ?_ | refine a_mid ?_)
    first | refine a_endq (by repeat (first | exact pr_nil | (apply pr_cons; rfl))) ?_ | refine a_end (by repeat (first | exact pr_nil | (apply pr_cons; rfl))) ?_
    refine q_reg ?_
    repeat (first | refine a_op (fun _ => rfl) ?_ | refine a_load rfl (by assumption) rfl ?_ | refine a_load_at rfl (by assumption) (by assumption) ?_ | refine a_iaddr_at rfl rfl (by assumption) ?_ | refine a_iaddr_l rfl rfl (by assumption) rfl ?_ | refine st_load_r rfl rfl ?_ | refine a_cmp rfl rfl rfl ?_ | refine a_eqi rfl rfl ?_ | refine st_not rfl ?_ | refine st_pick_t rfl rfl rfl ?_ | refine st_pick_f rfl rfl rfl ?_ | refine st_g rfl ?_ | refine a_gtf rfl ?_ | refine a_gft rfl ?_ | refine a_gu rfl ?_ | refine a_mklist (ec rfl en) (mz mkn) ?_ | refine a_mid ?_)
    refine a_slA (q := i) rfl rfl (by omega) ?_
    repeat (first | refine a_op (fun _ => rfl) ?_ | refine a_load rfl (by assumption) rfl ?_ | refine a_load_at rfl (by assumption) (by assumption) ?_ | refine a_iaddr_at rfl rfl (by assumption) ?_ | refine a_iaddr_l rfl rfl (by assumption) rfl ?_ | refine st_load_r rfl rfl ?_ | refine a_cmp rfl rfl rfl ?_ | refine a_eqi rfl rfl ?_ | refine st_not rfl ?_ | refine st_pick_t rfl rfl rfl ?_ | refine st_pick_f rfl rfl rfl ?_ | refine st_g rfl ?_ | refine a_gtf rfl ?_ | refine a_gft rfl ?_ | refine a_gu rfl ?_ | refine a_mklist (ec rfl en) (mz mkn) ?_ | refine a_mid ?_)
    first | refine a_endq (by repeat (first | exact pr_nil | (apply pr_cons; rfl))) ?_ | refine a_end (by repeat (first | exact pr_nil | (apply pr_cons; rfl))) ?_
    refine sc_ret (x_ret _ rfl ?_)
    rw [hil] at kk
    rw [hci] at s2
    exact kk _ _ (Sep.set (A := []) (B := R) s2 _)
end Go.Hw.VL

