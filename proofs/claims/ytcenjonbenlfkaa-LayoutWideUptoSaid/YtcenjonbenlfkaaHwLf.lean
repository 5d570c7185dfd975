import Derived.Test.YtcenjonbenlfkaaHwLe
import Derived.Test.YtcenjonbenlfkaaHwL3
import Derived.Test.YtcenjonbenlfkaaHwGrow2
set_option linter.unusedVariables false
set_option linter.unusedSimpArgs false
namespace Go.Hw
open Go
theorem mc_new {P : Program} {f : FuncId} {args : List HV} {A : Type} {fe : A → HV} {l : List A} {sz : Nat} (hf : Enc fe sz) (hl : Leaf fe) (hc : MC P f args [] (.arr 0 0 l.length sz) [GA fe l]) (ha : RenA [] args args) {h : Heap} {R : HV → Heap → Prop} (k : R (.arr h.length 0 l.length sz) (h ++ [GA fe l])) : HCalls P f args h R := by
  have so : ∀ (i : Nat) (H X : Heap), SameOff [] i H (H ++ X) := by
    intro i H
    induction H generalizing i with
    | nil => intro X; exact trivial
    | cons o H ih => intro X; exact ⟨.inr rfl, ih (i + 1) X⟩
  exact mc_frame (A := Unit) (g := fun _ => .arr 0 0 l.length sz) (ho := fun _ => [GA fe l]) (g2 := fun _ => .arr h.length 0 l.length sz) (H2 := fun _ => h ++ [GA fe l]) (K := fun _ => True) [] [h.length] h.length 1 ⟨(), hc, trivial⟩ rfl rfl (by simp) (by simp)
    ro_nil (by simp) ha (fun _ => rfl) (fun _ => by simp) (fun _ => rn_arr rfl) (fun _ => so 0 h _) (fun _ => ou_arr hf hl (by simp) ou_nil) (fun _ _ => k)
theorem w_trunc {m : Nat} {e : Env} {h : Heap} {A : Type} {f : A → HV} {id : Nat} {l j : List A} (hc : h[id]? = some (GA f (l ++ j))) : WeakF m e h e (h.set id (GA f l)) := by
  refine WeakF.of fun N ds K w a hr => ⟨K, .refl K w, upd_cells hr.heap hc (fun b hb => ?_), hr.env, hr.size, hr.defers⟩
  obtain ⟨_, o, ho1, ho2, _⟩ := hr.heap.obj id b hb
  rw [hc] at ho1; injection ho1 with ho1; subst ho1
  obtain ⟨c, et, fr, hcb, hlen, hfr, hvs⟩ := ho2
  have e1 : flat ((l ++ j).map f) = flat (l.map f) ++ flat (j.map f) := by simp [flat]
  rw [e1] at hlen hvs
  rw [List.length_append] at hlen
  refine ⟨c, et, fr, hcb, by omega, hfr, fun i x hx => hvs i x ?_⟩
  rw [List.getElem?_append_left (lt_of_get hx)]
  exact hx
end Go.Hw
namespace Go.Hw.VL
open Go Go.Proofs
theorem leaf_Piece : Leaf eGLayout_Piece := fun a x hx => by
  simp [HV.cells, eGLayout_Piece] at hx
  rcases hx with rfl | rfl | rfl <;> rfl
section
variable {P : Program} {N m : Nat} {S D : CallP} {b : Nat} {r : List Op} {e e' : Env} {h h' : Heap} {Q : Env → Heap → Prop} {QQ : Ex → Env → Heap → Prop} {d : Nat} {x y z : X}
theorem a_eqst {s t : List UInt8} {neg : Bool} (hx : x.ev e = some (.str s)) (hy : y.ev e = some (.str t)) (k : HO S b r ((d, .bool (if neg then !(s == t) else s == t)) :: e) h Q) : HO S b (⟨some d, .op (.eqv neg .str x y), none⟩ :: r) e h Q := by
  refine ⟨?_⟩
  simp only [hops, hcall, hstep, hx, hy]
  refine ⟨trivial, ?_⟩
  rintro _ rfl
  exact k.out
end
def gρ : _root_.Go.Shelf.Ren := ⟨fun k => if k = 4 then 34 else k, fun k => if k = 25 then 40 else if k = 22 then 37 else k, fun k => k⟩
theorem gL : Lays8.n4 Try.prog gρ where
  mixed := by kernel_rfl
  f4 := ⟨"slices.Grow[[]roadstead/layout.Piece,roadstead/layout.Piece]", by decide, by kernel_rfl⟩
  t0 := by kernel_rfl
  a0 := fun w => by kernel_rfl
  z0 := fun w => by kernel_rfl
  v0 := fun w => by kernel_rfl
  t3 := by kernel_rfl
  a3 := fun w => by kernel_rfl
  z3 := fun w => by kernel_rfl
  v3 := fun w => by kernel_rfl
  t4 := by kernel_rfl
  a4 := fun w => by kernel_rfl
  z4 := fun w => by kernel_rfl
  v4 := fun w => by kernel_rfl
  t9 := by kernel_rfl
  a9 := fun w => by kernel_rfl
  z9 := fun w => by kernel_rfl
  v9 := fun w => by kernel_rfl
  t20 := by kernel_rfl
  a20 := fun w => by kernel_rfl
  z20 := fun w => by kernel_rfl
  v20 := fun w => by kernel_rfl
  t22 := by kernel_rfl
  a22 := fun w => by kernel_rfl
  z22 := fun w => by kernel_rfl
  v22 := fun w => by kernel_rfl
theorem s34 (n : Nat) (hn : n ≤ 1000000) : sp34_s (n : Int) [] := by
  obtain ⟨i0, h1, h2, h3, h4⟩ := info_of (P := Try.prog) (t := 40) (z := .agg #[.int .i64 0, .int .i64 0, .string ⟨#[]⟩]) (sz := 3) (by_ := 32) (by kernel_rfl) (by kernel_rfl) (by kernel_rfl) (by kernel_rfl)
  exact grow_nil gL ⟨Try.f34, Try.func34, rfl, by decide⟩ i0 _ h1 h2 3 h3 (by omega) rfl n (by rw [h4]; omega) (by omega) eGLayout_Piece
theorem s18 (ls : List (List Pc)) (h : ls.flatten.length ≤ 8000) (hl : ls.length ≤ 8) : sp18 ls ls.flatten := by
  have hpart : ∀ k a, ls[k]? = some a → (ls.take (k + 1)).flatten = (ls.take k).flatten ++ a ∧ (ls.take (k + 1)).flatten.length ≤ 8000 := fun k a ha => by
    have e : (ls.take (k + 1)).flatten = (ls.take k).flatten ++ a := by rw [take_snoc ha]; simp
    refine ⟨e, ?_⟩
    have : ls.flatten = (ls.take (k + 1)).flatten ++ (ls.drop (k + 1)).flatten := by rw [← List.flatten_append, List.take_append_drop]
    rw [this, List.length_append] at h
    omega
  refine ok18 ls _ ⟨fun n i => ∃ k : Nat, i = k ∧ k ≤ ls.length ∧ n = ((ls.take k).flatten.length : Int), fun _ i => (ls.length - i).toNat, ⟨0, rfl, by omega, by simp⟩, ?_⟩
  rintro _ _ ⟨k, rfl, hk, rfl⟩ v rfl
  refine ⟨fun hi => ?_, fun hi => ?_⟩
  · have hi := of_decide_eq_true hi
    refine ⟨⟨by omega, hi⟩, fun a ha => ?_⟩
    have ha : ls[k]? = some a := by simpa using ha
    obtain ⟨e1, e2⟩ := hpart k a ha
    rw [e1, List.length_append] at e2
    refine ⟨by simp only [R64]; omega, ?_⟩
    rintro _ rfl
    refine ⟨fun h => by omega, fun _ => ⟨by simp only [R64]; omega, ?_⟩⟩
    rintro _ rfl
    refine ⟨⟨k + 1, by omega, by omega, ?_⟩, by dsimp only; omega⟩
    rw [e1, List.length_append]; push_cast; rfl
  · have hi := of_decide_eq_false hi
    have hkl : k = ls.length := by omega
    subst hkl
    rw [List.take_length]
    refine ⟨[], s34 _ (by omega), ?_⟩
    refine ⟨fun o i => ∃ k : Nat, i = k ∧ k ≤ ls.length ∧ o = (ls.take k).flatten, fun _ i => (ls.length - i).toNat, ⟨0, rfl, by omega, by simp⟩, ?_⟩
    rintro _ _ ⟨k, rfl, hk, rfl⟩ v rfl
    refine ⟨fun hi => ?_, fun hi => ?_⟩
    · have hi := of_decide_eq_true hi
      refine ⟨⟨by omega, hi⟩, fun a ha => ?_⟩
      have ha : ls[k]? = some a := by simpa using ha
      obtain ⟨e1, e2⟩ := hpart k a ha
      rw [e1, List.length_append] at e2
      refine ⟨by omega, ?_⟩
      rintro _ rfl
      refine ⟨by simp only [R64]; omega, ?_⟩
      rintro _ rfl
      exact ⟨⟨k + 1, by omega, by omega, e1.symm⟩, by dsimp only; omega⟩
    · have hi := of_decide_eq_false hi
      rw [List.take_of_length_le (by omega)]
@[reducible] def zg6 (r : Bool) : HV := .bool r
abbrev sp6 (l : List Int) (r : Bool) : Prop := PCall Try.prog 6 [ln (eInt .i64) l] (zg6 r)
def d1 : List Pc := [oP, ⟨2, 0, []⟩, cP]
def d2 : List Pc := [⟨1, 0, [97]⟩, ⟨2, 0, []⟩, ⟨1, 0, [98]⟩]
theorem g1 : Good d1 200 := by
  refine ⟨by simp [d1], fun p hp => ?_, fun k hk => ?_, rfl⟩
  · simp only [d1, List.mem_cons, List.not_mem_nil, or_false] at hp
    rcases hp with rfl | rfl | rfl
    · exact okO
    · exact ⟨by simp, fun _ => rfl, fun _ => rfl, fun h => by simp at h, fun h => by simp at h⟩
    · exact okC
  · have : k = 0 ∨ k = 1 ∨ k = 2 ∨ k = 3 := by simp [d1] at hk; omega
    rcases this with rfl | rfl | rfl | rfl <;> simp [d1, dep, dlt]
theorem g2 : Good d2 200 := by
  refine ⟨by simp [d2], fun p hp => ?_, fun k hk => ?_, rfl⟩
  · simp only [d2, List.mem_cons, List.not_mem_nil, or_false] at hp
    rcases hp with rfl | rfl | rfl
    · exact ⟨by simp, fun h => absurd rfl h, fun _ => rfl, fun _ => by simp, fun h => by simp at h⟩
    · exact ⟨by simp, fun _ => rfl, fun _ => rfl, fun h => by simp at h, fun h => by simp at h⟩
    · exact ⟨by simp, fun h => absurd rfl h, fun _ => rfl, fun _ => by simp, fun h => by simp at h⟩
  · have : k = 0 ∨ k = 1 ∨ k = 2 ∨ k = 3 := by simp [d2] at hk; omega
    rcases this with rfl | rfl | rfl | rfl <;> simp [d2, dep, dlt]
theorem l1 : layF d1 9 = [32] := by decide +kernel
theorem l2 : layF d2 99 = [97, 10, 98] := by decide +kernel
set_option maxRecDepth 8000 in
set_option maxHeartbeats 2000000 in
theorem s6 (l : List Int) (hl : l.length ≤ 9223372036854775807) (hb : ∀ x ∈ l, R64 x) : sp6 l true := by
  obtain ⟨hg0, hl80, hps⟩ := piecesF_good l
  have hg := keep_good hg0
  have hkl : (keepF (piecesF l)).length ≤ 80 := Nat.le_trans (List.length_filter_le _ _) hl80
  have hsub : ∀ p ∈ keepF (piecesF l), p ∈ piecesF l := fun p hp => (List.mem_filter.1 hp).1
  have h4 : ∀ p ∈ keepF (piecesF l), p.Kind ≠ 4 := fun p hp h => by
    have := (List.mem_filter.1 hp).2
    simp [isH, h] at this
  have hS8 : ∀ p ∈ keepF (piecesF l), p.S.length ≤ 8 := fun p hp => (hps p (hsub p hp)).1
  have hwide := wide hg h4 (fun p hp => (hps p (hsub p hp)).2.1)
  have hwb := widF_bound _ hS8
  have hall : Good (oP :: (keepF (piecesF l) ++ [cP])) 200 := by
    have := wrap_good hg (by omega) (by omega)
    exact ⟨this.len, this.ps, fun k hk => by have := this.pre k hk; omega, this.zero⟩
  have h16 := s16m l hl hb
  refine zf (rs := [.t 2]) (g := zg6) Try.func6 hk6 ?_
  show SC Try.prog Try.f6.ntmps 0 hc6 _ [(0, ln (eInt .i64) l)] []
  unfold hc6
  refine q_reg ?_
  repeat (first | refine a_op (fun _ => rfl) ?_ | refine a_load rfl (by assumption) rfl ?_ | refine a_load_at rfl (by assumption) (by assumption) ?_ | refine a_iaddr_at rfl rfl (by assumption) ?_ | refine a_iaddr_l rfl rfl (by assumption) rfl ?_ | refine st_load_r rfl rfl ?_ | refine a_cmp rfl rfl rfl ?_ | refine a_eqi rfl rfl ?_ | refine st_not rfl ?_ | refine st_pick_t rfl rfl rfl ?_ | refine st_pick_f rfl rfl rfl ?_ | refine st_g rfl ?_ | refine a_gtf rfl ?_ | refine a_gft rfl ?_ | refine a_gu rfl ?_ | refine a_mklist (ec rfl en) (mz mkn) ?_ | refine a_mid ?_)
  first | refine a_endq (by repeat (first | exact pr_nil | (apply pr_cons; rfl))) ?_ | refine a_end (by repeat (first | exact pr_nil | (apply pr_cons; rfl))) ?_
  refine q_reg ?_
  repeat (first | refine a_op (fun _ => rfl) ?_ | refine a_load rfl (by assumption) rfl ?_ | refine a_load_at rfl (by assumption) (by assumption) ?_ | refine a_iaddr_at rfl rfl (by assumption) ?_ | refine a_iaddr_l rfl rfl (by assumption) rfl ?_ | refine st_load_r rfl rfl ?_ | refine a_cmp rfl rfl rfl ?_ | refine a_eqi rfl rfl ?_ | refine st_not rfl ?_ | refine st_pick_t rfl rfl rfl ?_ | refine st_pick_f rfl rfl rfl ?_ | refine st_g rfl ?_ | refine a_gtf rfl ?_ | refine a_gft rfl ?_ | refine a_gu rfl ?_ | refine a_mklist (ec rfl en) (mz mkn) ?_ | refine a_mid ?_)
  refine a_call (ec rfl en) (mc_new enc_GLayout_Piece leaf_Piece h16 (ra_cons rnI ra_nil) ?_)
  have s0 : Sep (([] : Heap) ++ [GA eGLayout_Piece (piecesF l)]) [(0, GA eGLayout_Piece (piecesF l))] := (Sep.nil (h := [])).new _
  refine a_call (ec rfl (ec rfl en)) (r15 (by omega) s0 (fun h1 junk s1 => ?_))
  repeat (first | refine a_op (fun _ => rfl) ?_ | refine a_load rfl (by assumption) rfl ?_ | refine a_load_at rfl (by assumption) (by assumption) ?_ | refine a_iaddr_at rfl rfl (by assumption) ?_ | refine a_iaddr_l rfl rfl (by assumption) rfl ?_ | refine st_load_r rfl rfl ?_ | refine a_cmp rfl rfl rfl ?_ | refine a_eqi rfl rfl ?_ | refine st_not rfl ?_ | refine st_pick_t rfl rfl rfl ?_ | refine st_pick_f rfl rfl rfl ?_ | refine st_g rfl ?_ | refine a_gtf rfl ?_ | refine a_gft rfl ?_ | refine a_gu rfl ?_ | refine a_mklist (ec rfl en) (mz mkn) ?_ | refine a_mid ?_)
  first | refine a_endq (by repeat (first | exact pr_nil | (apply pr_cons; rfl))) ?_ | refine a_end (by repeat (first | exact pr_nil | (apply pr_cons; rfl))) ?_
  have g0 : h1[0]? = some (GA eGLayout_Piece (keepF (piecesF l) ++ junk)) := s1.get (by simp)
  have g1' : (h1.set 0 (GA eGLayout_Piece (keepF (piecesF l))))[0]? = some (GA eGLayout_Piece (keepF (piecesF l))) := List.getElem?_set_self (lt_of_get g0)
  generalize keepF (piecesF l) = kd at *
  refine SC.weak ((w_trunc g0).trans (w_freeze 3 enc_GLayout_Piece rfl rfl g1' rfl)) ?_
  generalize (h1.set 0 (GA eGLayout_Piece kd)).set 0 .dead = h2
  refine q_reg ?_
  repeat (first | refine a_op (fun _ => rfl) ?_ | refine a_load rfl (by assumption) rfl ?_ | refine a_load_at rfl (by assumption) (by assumption) ?_ | refine a_iaddr_at rfl rfl (by assumption) ?_ | refine a_iaddr_l rfl rfl (by assumption) rfl ?_ | refine st_load_r rfl rfl ?_ | refine a_cmp rfl rfl rfl ?_ | refine a_eqi rfl rfl ?_ | refine st_not rfl ?_ | refine st_pick_t rfl rfl rfl ?_ | refine st_pick_f rfl rfl rfl ?_ | refine st_g rfl ?_ | refine a_gtf rfl ?_ | refine a_gft rfl ?_ | refine a_gu rfl ?_ | refine a_mklist (ec rfl en) (mz mkn) ?_ | refine a_mid ?_)
  have hcat : ([[oP], kd, [cP]] : List (List Pc)).flatten = oP :: (kd ++ [cP]) := by simp
  have h18 := s18 [[oP], kd, [cP]] (by rw [hcat]; simp; omega) (by simp)
  rw [hcat] at h18
  refine a_mklist (ec rfl (ec rfl (ec rfl en))) (mz (mz (mz mkn))) ?_
  refine a_call (ec rfl en) ?_
  refine mc_new (args := [ln (eLst eGLayout_Piece) [[oP], kd, [cP]]]) enc_GLayout_Piece leaf_Piece h18 (ra_cons rnI ra_nil) ?_
  repeat (first | refine a_op (fun _ => rfl) ?_ | refine a_load rfl (by assumption) rfl ?_ | refine a_load_at rfl (by assumption) (by assumption) ?_ | refine a_iaddr_at rfl rfl (by assumption) ?_ | refine a_iaddr_l rfl rfl (by assumption) rfl ?_ | refine st_load_r rfl rfl ?_ | refine a_cmp rfl rfl rfl ?_ | refine a_eqi rfl rfl ?_ | refine st_not rfl ?_ | refine st_pick_t rfl rfl rfl ?_ | refine st_pick_f rfl rfl rfl ?_ | refine st_g rfl ?_ | refine a_gtf rfl ?_ | refine a_gft rfl ?_ | refine a_gu rfl ?_ | refine a_mklist (ec rfl en) (mz mkn) ?_ | refine a_mid ?_)
  first | refine a_endq (by repeat (first | exact pr_nil | (apply pr_cons; rfl))) ?_ | refine a_end (by repeat (first | exact pr_nil | (apply pr_cons; rfl))) ?_
  have g2' : (h2 ++ [GA eGLayout_Piece (oP :: (kd ++ [cP]))])[h2.length]? = some (GA eGLayout_Piece (oP :: (kd ++ [cP]))) := by simp
  refine SC.weak (w_freeze 4 enc_GLayout_Piece rfl rfl g2' rfl) ?_
  generalize (h2 ++ [GA eGLayout_Piece (oP :: (kd ++ [cP]))]).set h2.length .dead = h3
  refine q_reg ?_
  repeat (first | refine a_op (fun _ => rfl) ?_ | refine a_load rfl (by assumption) rfl ?_ | refine a_load_at rfl (by assumption) (by assumption) ?_ | refine a_iaddr_at rfl rfl (by assumption) ?_ | refine a_iaddr_l rfl rfl (by assumption) rfl ?_ | refine st_load_r rfl rfl ?_ | refine a_cmp rfl rfl rfl ?_ | refine a_eqi rfl rfl ?_ | refine st_not rfl ?_ | refine st_pick_t rfl rfl rfl ?_ | refine st_pick_f rfl rfl rfl ?_ | refine st_g rfl ?_ | refine a_gtf rfl ?_ | refine a_gft rfl ?_ | refine a_gu rfl ?_ | refine a_mklist (ec rfl en) (mz mkn) ?_ | refine a_mid ?_)
  first | refine a_endq (by repeat (first | exact pr_nil | (apply pr_cons; rfl))) ?_ | refine a_end (by repeat (first | exact pr_nil | (apply pr_cons; rfl))) ?_
  refine sc_seq (q_reg ?_)
  repeat (first | refine a_op (fun _ => rfl) ?_ | refine a_load rfl (by assumption) rfl ?_ | refine a_load_at rfl (by assumption) (by assumption) ?_ | refine a_iaddr_at rfl rfl (by assumption) ?_ | refine a_iaddr_l rfl rfl (by assumption) rfl ?_ | refine st_load_r rfl rfl ?_ | refine a_cmp rfl rfl rfl ?_ | refine a_eqi rfl rfl ?_ | refine st_not rfl ?_ | refine st_pick_t rfl rfl rfl ?_ | refine st_pick_f rfl rfl rfl ?_ | refine st_g rfl ?_ | refine a_gtf rfl ?_ | refine a_gft rfl ?_ | refine a_gu rfl ?_ | refine a_mklist (ec rfl en) (mz mkn) ?_ | refine a_mid ?_)
  first | refine a_endq (by repeat (first | exact pr_nil | (apply pr_cons; rfl))) ?_ | refine a_end (by repeat (first | exact pr_nil | (apply pr_cons; rfl))) ?_
  refine sc_block (sc_loop (X := { x : Nat × Heap // x.1 ≤ kd.length })
    (fun x => ([(4, ln eGLayout_Piece (oP :: (kd ++ [cP]))), (5, ii (widF (kd.take x.1.1) 0)), (24, ln eGLayout_Piece kd), (25, ii (kd.map eGLayout_Piece).length), (26, ii x.1.1)], x.1.2)) (fun x => kd.length - x.1.1)
    ⟨(0, h3), Nat.zero_le _⟩ (WeakF.refl _ _) ?_)
  rintro ⟨⟨k, h4⟩, hk⟩
  simp only at hk
  refine q_reg ?_
  repeat (first | refine a_op (fun _ => rfl) ?_ | refine a_load rfl (by assumption) rfl ?_ | refine a_load_at rfl (by assumption) (by assumption) ?_ | refine a_iaddr_at rfl rfl (by assumption) ?_ | refine a_iaddr_l rfl rfl (by assumption) rfl ?_ | refine st_load_r rfl rfl ?_ | refine a_cmp rfl rfl rfl ?_ | refine a_eqi rfl rfl ?_ | refine st_not rfl ?_ | refine st_pick_t rfl rfl rfl ?_ | refine st_pick_f rfl rfl rfl ?_ | refine st_g rfl ?_ | refine a_gtf rfl ?_ | refine a_gft rfl ?_ | refine a_gu rfl ?_ | refine a_mklist (ec rfl en) (mz mkn) ?_ | refine a_mid ?_)
  first | refine a_endq (by repeat (first | exact pr_nil | (apply pr_cons; rfl))) ?_ | refine a_end (by repeat (first | exact pr_nil | (apply pr_cons; rfl))) ?_
  have hwk := widF_bound (kd.take k) fun p hp => hS8 p (List.mem_of_mem_take hp)
  rw [List.length_take] at hwk
  refine sc_seq (sc_cond rfl (fun hz => ?_) (fun hz => ?_))
  · have hkl : k < kd.length := by have := of_decide_eq_true hz; dsimp only at this; rw [List.length_map] at this; omega
    obtain ⟨p, hp⟩ : ∃ x, kd[k]? = some x := ⟨_, List.getElem?_eq_getElem hkl⟩
    have hw1 : widF (kd.take (k + 1)) 0 = widF (kd.take k) 0 + p.S.length + (if p.Kind = 2 then 1 else 0) := by rw [take_snoc hp, widF_snoc]
    have hp8 := hS8 p (List.mem_of_getElem? hp)
    refine sc_skip (sq_n (sc_seq (sc_block (q_reg ?_))))
    repeat (first | refine a_op (fun _ => rfl) ?_ | refine a_load rfl (by assumption) rfl ?_ | refine a_load_at rfl (by assumption) (by assumption) ?_ | refine a_iaddr_at rfl rfl (by assumption) ?_ | refine a_iaddr_l rfl rfl (by assumption) rfl ?_ | refine st_load_r rfl rfl ?_ | refine a_cmp rfl rfl rfl ?_ | refine a_eqi rfl rfl ?_ | refine st_not rfl ?_ | refine st_pick_t rfl rfl rfl ?_ | refine st_pick_f rfl rfl rfl ?_ | refine st_g rfl ?_ | refine a_gtf rfl ?_ | refine a_gft rfl ?_ | refine a_gu rfl ?_ | refine a_mklist (ec rfl en) (mz mkn) ?_ | refine a_mid ?_)
    refine a_alloc ?_
    refine a_store rfl rfl (List.getElem?_concat_length) ⟨rfl, lb rfl, rfl⟩ ?_
    repeat (first | refine a_op (fun _ => rfl) ?_ | refine a_load rfl (by assumption) rfl ?_ | refine a_load_at rfl (by assumption) (by assumption) ?_ | refine a_iaddr_at rfl rfl (by assumption) ?_ | refine a_iaddr_l rfl rfl (by assumption) rfl ?_ | refine st_load_r rfl rfl ?_ | refine a_cmp rfl rfl rfl ?_ | refine a_eqi rfl rfl ?_ | refine st_not rfl ?_ | refine st_pick_t rfl rfl rfl ?_ | refine st_pick_f rfl rfl rfl ?_ | refine st_g rfl ?_ | refine a_gtf rfl ?_ | refine a_gft rfl ?_ | refine a_gu rfl ?_ | refine a_mklist (ec rfl en) (mz mkn) ?_ | refine a_mid ?_)
    first | refine a_endq (by repeat (first | exact pr_nil | (apply pr_cons; rfl))) ?_ | refine a_end (by repeat (first | exact pr_nil | (apply pr_cons; rfl))) ?_
    have s3 := Sep.set (A := []) (B := []) ((Sep.nil (h := h4)).new (.cells [ii 0, ii 0, .str []])) (.cells [ii p.Kind, ii p.N, .str p.S])
    change SC _ _ _ _ _ [(4, ln eGLayout_Piece (oP :: (kd ++ [cP]))), (5, ii (widF (kd.take k) 0)), (7, .ptr h4.length 0), (24, ln eGLayout_Piece kd), (25, ii (kd.map eGLayout_Piece).length), (26, ii (k : Int))] ((h4 ++ [HObj.cells [ii 0, ii 0, .str []]]).set h4.length (.cells [ii p.Kind, ii p.N, .str p.S]))
    generalize h4.length = o5 at s3 ⊢
    generalize (h4 ++ [HObj.cells [ii 0, ii 0, .str []]]).set o5 (.cells [ii p.Kind, ii p.N, .str p.S]) = h5 at s3 ⊢
    have gp : h5[o5]? = some (.cells [ii p.Kind, ii p.N, .str p.S]) := s3.get (by simp)
    refine q_reg ?_
    repeat (first | refine a_op (fun _ => rfl) ?_ | refine a_load rfl (by assumption) rfl ?_ | refine a_load_at rfl (by assumption) (by assumption) ?_ | refine a_iaddr_at rfl rfl (by assumption) ?_ | refine a_iaddr_l rfl rfl (by assumption) rfl ?_ | refine st_load_r rfl rfl ?_ | refine a_cmp rfl rfl rfl ?_ | refine a_eqi rfl rfl ?_ | refine st_not rfl ?_ | refine st_pick_t rfl rfl rfl ?_ | refine st_pick_f rfl rfl rfl ?_ | refine st_g rfl ?_ | refine a_gtf rfl ?_ | refine a_gft rfl ?_ | refine a_gu rfl ?_ | refine a_mklist (ec rfl en) (mz mkn) ?_ | refine a_mid ?_)
    refine a_add rfl rfl (by first | omega | (dsimp only; omega)) ?_
    repeat (first | refine a_op (fun _ => rfl) ?_ | refine a_load rfl (by assumption) rfl ?_ | refine a_load_at rfl (by assumption) (by assumption) ?_ | refine a_iaddr_at rfl rfl (by assumption) ?_ | refine a_iaddr_l rfl rfl (by assumption) rfl ?_ | refine st_load_r rfl rfl ?_ | refine a_cmp rfl rfl rfl ?_ | refine a_eqi rfl rfl ?_ | refine st_not rfl ?_ | refine st_pick_t rfl rfl rfl ?_ | refine st_pick_f rfl rfl rfl ?_ | refine st_g rfl ?_ | refine a_gtf rfl ?_ | refine a_gft rfl ?_ | refine a_gu rfl ?_ | refine a_mklist (ec rfl en) (mz mkn) ?_ | refine a_mid ?_)
    first | refine a_endq (by repeat (first | exact pr_nil | (apply pr_cons; rfl))) ?_ | refine a_end (by repeat (first | exact pr_nil | (apply pr_cons; rfl))) ?_
    refine q_reg ?_
    repeat (first | refine a_op (fun _ => rfl) ?_ | refine a_load rfl (by assumption) rfl ?_ | refine a_load_at rfl (by assumption) (by assumption) ?_ | refine a_iaddr_at rfl rfl (by assumption) ?_ | refine a_iaddr_l rfl rfl (by assumption) rfl ?_ | refine st_load_r rfl rfl ?_ | refine a_cmp rfl rfl rfl ?_ | refine a_eqi rfl rfl ?_ | refine st_not rfl ?_ | refine st_pick_t rfl rfl rfl ?_ | refine st_pick_f rfl rfl rfl ?_ | refine st_g rfl ?_ | refine a_gtf rfl ?_ | refine a_gft rfl ?_ | refine a_gu rfl ?_ | refine a_mklist (ec rfl en) (mz mkn) ?_ | refine a_mid ?_)
    first | refine a_endq (by repeat (first | exact pr_nil | (apply pr_cons; rfl))) ?_ | refine a_end (by repeat (first | exact pr_nil | (apply pr_cons; rfl))) ?_
    have e1 : (if false = true then !(p.Kind == 2) else p.Kind == 2) = decide (p.Kind = 2) := by rw [if_neg (by simp)]; rfl
    rw [e1]
    refine sc_cond (t := decide (p.Kind = 2)) rfl (fun h2' => ?_) (fun h2' => ?_)
    · refine s_reg ?_
      repeat (first | refine a_op (fun _ => rfl) ?_ | refine a_load rfl (by assumption) rfl ?_ | refine a_load_at rfl (by assumption) (by assumption) ?_ | refine a_iaddr_at rfl rfl (by assumption) ?_ | refine a_iaddr_l rfl rfl (by assumption) rfl ?_ | refine st_load_r rfl rfl ?_ | refine a_cmp rfl rfl rfl ?_ | refine a_eqi rfl rfl ?_ | refine st_not rfl ?_ | refine st_pick_t rfl rfl rfl ?_ | refine st_pick_f rfl rfl rfl ?_ | refine st_g rfl ?_ | refine a_gtf rfl ?_ | refine a_gft rfl ?_ | refine a_gu rfl ?_ | refine a_mklist (ec rfl en) (mz mkn) ?_ | refine a_mid ?_)
      refine a_add rfl rfl (by first | omega | (dsimp only; omega)) ?_
      repeat (first | refine a_op (fun _ => rfl) ?_ | refine a_load rfl (by assumption) rfl ?_ | refine a_load_at rfl (by assumption) (by assumption) ?_ | refine a_iaddr_at rfl rfl (by assumption) ?_ | refine a_iaddr_l rfl rfl (by assumption) rfl ?_ | refine st_load_r rfl rfl ?_ | refine a_cmp rfl rfl rfl ?_ | refine a_eqi rfl rfl ?_ | refine st_not rfl ?_ | refine st_pick_t rfl rfl rfl ?_ | refine st_pick_f rfl rfl rfl ?_ | refine st_g rfl ?_ | refine a_gtf rfl ?_ | refine a_gft rfl ?_ | refine a_gu rfl ?_ | refine a_mklist (ec rfl en) (mz mkn) ?_ | refine a_mid ?_)
      first | refine a_endq (by repeat (first | exact pr_nil | (apply pr_cons; rfl))) ?_ | refine a_end (by repeat (first | exact pr_nil | (apply pr_cons; rfl))) ?_
      refine s_reg ?_
      repeat (first | refine a_op (fun _ => rfl) ?_ | refine a_load rfl (by assumption) rfl ?_ | refine a_load_at rfl (by assumption) (by assumption) ?_ | refine a_iaddr_at rfl rfl (by assumption) ?_ | refine a_iaddr_l rfl rfl (by assumption) rfl ?_ | refine st_load_r rfl rfl ?_ | refine a_cmp rfl rfl rfl ?_ | refine a_eqi rfl rfl ?_ | refine st_not rfl ?_ | refine st_pick_t rfl rfl rfl ?_ | refine st_pick_f rfl rfl rfl ?_ | refine st_g rfl ?_ | refine a_gtf rfl ?_ | refine a_gft rfl ?_ | refine a_gu rfl ?_ | refine a_mklist (ec rfl en) (mz mkn) ?_ | refine a_mid ?_)
      refine a_add rfl rfl (by first | omega | (dsimp only; omega)) ?_
      repeat (first | refine a_op (fun _ => rfl) ?_ | refine a_load rfl (by assumption) rfl ?_ | refine a_load_at rfl (by assumption) (by assumption) ?_ | refine a_iaddr_at rfl rfl (by assumption) ?_ | refine a_iaddr_l rfl rfl (by assumption) rfl ?_ | refine st_load_r rfl rfl ?_ | refine a_cmp rfl rfl rfl ?_ | refine a_eqi rfl rfl ?_ | refine st_not rfl ?_ | refine st_pick_t rfl rfl rfl ?_ | refine st_pick_f rfl rfl rfl ?_ | refine st_g rfl ?_ | refine a_gtf rfl ?_ | refine a_gft rfl ?_ | refine a_gu rfl ?_ | refine a_mklist (ec rfl en) (mz mkn) ?_ | refine a_mid ?_)
      first | refine a_endq (by repeat (first | exact pr_nil | (apply pr_cons; rfl))) ?_ | refine a_end (by repeat (first | exact pr_nil | (apply pr_cons; rfl))) ?_
      rw [if_pos (of_decide_eq_true h2')] at hw1
      refine lo_n ⟨(k + 1, h5), hkl⟩ (by show kd.length - (k + 1) < kd.length - k; omega) (by simp only [hw1]; exact WeakF.refl _ _)
    · refine sc_skip ?_
      refine s_reg ?_
      repeat (first | refine a_op (fun _ => rfl) ?_ | refine a_load rfl (by assumption) rfl ?_ | refine a_load_at rfl (by assumption) (by assumption) ?_ | refine a_iaddr_at rfl rfl (by assumption) ?_ | refine a_iaddr_l rfl rfl (by assumption) rfl ?_ | refine st_load_r rfl rfl ?_ | refine a_cmp rfl rfl rfl ?_ | refine a_eqi rfl rfl ?_ | refine st_not rfl ?_ | refine st_pick_t rfl rfl rfl ?_ | refine st_pick_f rfl rfl rfl ?_ | refine st_g rfl ?_ | refine a_gtf rfl ?_ | refine a_gft rfl ?_ | refine a_gu rfl ?_ | refine a_mklist (ec rfl en) (mz mkn) ?_ | refine a_mid ?_)
      refine a_add rfl rfl (by first | omega | (dsimp only; omega)) ?_
      repeat (first | refine a_op (fun _ => rfl) ?_ | refine a_load rfl (by assumption) rfl ?_ | refine a_load_at rfl (by assumption) (by assumption) ?_ | refine a_iaddr_at rfl rfl (by assumption) ?_ | refine a_iaddr_l rfl rfl (by assumption) rfl ?_ | refine st_load_r rfl rfl ?_ | refine a_cmp rfl rfl rfl ?_ | refine a_eqi rfl rfl ?_ | refine st_not rfl ?_ | refine st_pick_t rfl rfl rfl ?_ | refine st_pick_f rfl rfl rfl ?_ | refine st_g rfl ?_ | refine a_gtf rfl ?_ | refine a_gft rfl ?_ | refine a_gu rfl ?_ | refine a_mklist (ec rfl en) (mz mkn) ?_ | refine a_mid ?_)
      first | refine a_endq (by repeat (first | exact pr_nil | (apply pr_cons; rfl))) ?_ | refine a_end (by repeat (first | exact pr_nil | (apply pr_cons; rfl))) ?_
      rw [if_neg (of_decide_eq_false h2'), Int.add_zero] at hw1
      refine lo_n ⟨(k + 1, h5), hkl⟩ (by show kd.length - (k + 1) < kd.length - k; omega) (by simp only [hw1]; exact WeakF.refl _ _)
  have hkl : ¬ k < kd.length := by have := of_decide_eq_false hz; dsimp only at this; rw [List.length_map] at this; omega
  have hkn : k = kd.length := by omega
  subst hkn
  refine sc_exit (sq_x (lo_x (bl_x (sq_n ?_))))
  have htk : kd.take kd.length = kd := List.take_length
  change SC _ _ _ _ _ [(4, ln eGLayout_Piece (oP :: (kd ++ [cP]))), (5, ii (widF (kd.take kd.length) 0)), (24, ln eGLayout_Piece kd), (25, ii (kd.map eGLayout_Piece).length), (26, ii (kd.length : Int)), (27, _)] h4
  rw [htk]
  refine sc_seq (q_reg ?_)
  repeat (first | refine a_op (fun _ => rfl) ?_ | refine a_load rfl (by assumption) rfl ?_ | refine a_load_at rfl (by assumption) (by assumption) ?_ | refine a_iaddr_at rfl rfl (by assumption) ?_ | refine a_iaddr_l rfl rfl (by assumption) rfl ?_ | refine st_load_r rfl rfl ?_ | refine a_cmp rfl rfl rfl ?_ | refine a_eqi rfl rfl ?_ | refine st_not rfl ?_ | refine st_pick_t rfl rfl rfl ?_ | refine st_pick_f rfl rfl rfl ?_ | refine st_g rfl ?_ | refine a_gtf rfl ?_ | refine a_gft rfl ?_ | refine a_gu rfl ?_ | refine a_mklist (ec rfl en) (mz mkn) ?_ | refine a_mid ?_)
  refine a_mklist (ec rfl (ec rfl (ec rfl en))) (mz (mz (mz mkn))) ?_
  refine st_call (ec rfl (ec rfl en)) rfl (s19 d1 9 VL.g1 (by omega)) ?_
  repeat (first | refine a_op (fun _ => rfl) ?_ | refine a_load rfl (by assumption) rfl ?_ | refine a_load_at rfl (by assumption) (by assumption) ?_ | refine a_iaddr_at rfl rfl (by assumption) ?_ | refine a_iaddr_l rfl rfl (by assumption) rfl ?_ | refine st_load_r rfl rfl ?_ | refine a_cmp rfl rfl rfl ?_ | refine a_eqi rfl rfl ?_ | refine st_not rfl ?_ | refine st_pick_t rfl rfl rfl ?_ | refine st_pick_f rfl rfl rfl ?_ | refine st_g rfl ?_ | refine a_gtf rfl ?_ | refine a_gft rfl ?_ | refine a_gu rfl ?_ | refine a_mklist (ec rfl en) (mz mkn) ?_ | refine a_mid ?_)
  first | refine a_endq (by repeat (first | exact pr_nil | (apply pr_cons; rfl))) ?_ | refine a_end (by repeat (first | exact pr_nil | (apply pr_cons; rfl))) ?_
  rw [l1]
  refine q_reg ?_
  repeat (first | refine a_op (fun _ => rfl) ?_ | refine a_load rfl (by assumption) rfl ?_ | refine a_load_at rfl (by assumption) (by assumption) ?_ | refine a_iaddr_at rfl rfl (by assumption) ?_ | refine a_iaddr_l rfl rfl (by assumption) rfl ?_ | refine st_load_r rfl rfl ?_ | refine a_cmp rfl rfl rfl ?_ | refine a_eqi rfl rfl ?_ | refine st_not rfl ?_ | refine st_pick_t rfl rfl rfl ?_ | refine st_pick_f rfl rfl rfl ?_ | refine st_g rfl ?_ | refine a_gtf rfl ?_ | refine a_gft rfl ?_ | refine a_gu rfl ?_ | refine a_mklist (ec rfl en) (mz mkn) ?_ | refine a_mid ?_)
  refine a_eqst rfl rfl ?_
  repeat (first | refine a_op (fun _ => rfl) ?_ | refine a_load rfl (by assumption) rfl ?_ | refine a_load_at rfl (by assumption) (by assumption) ?_ | refine a_iaddr_at rfl rfl (by assumption) ?_ | refine a_iaddr_l rfl rfl (by assumption) rfl ?_ | refine st_load_r rfl rfl ?_ | refine a_cmp rfl rfl rfl ?_ | refine a_eqi rfl rfl ?_ | refine st_not rfl ?_ | refine st_pick_t rfl rfl rfl ?_ | refine st_pick_f rfl rfl rfl ?_ | refine st_g rfl ?_ | refine a_gtf rfl ?_ | refine a_gft rfl ?_ | refine a_gu rfl ?_ | refine a_mklist (ec rfl en) (mz mkn) ?_ | refine a_mid ?_)
  first | refine a_endq (by repeat (first | exact pr_nil | (apply pr_cons; rfl))) ?_ | refine a_end (by repeat (first | exact pr_nil | (apply pr_cons; rfl))) ?_
  refine s_cond_f rfl (sc_skip (sq_n ?_))
  refine sc_seq (q_reg ?_)
  refine a_op (fun _ => rfl) (st_lss rfl rfl (fun hx => ?_) (fun hx1 => ?_))
  · repeat (first | refine a_op (fun _ => rfl) ?_ | refine a_load rfl (by assumption) rfl ?_ | refine a_load_at rfl (by assumption) (by assumption) ?_ | refine a_iaddr_at rfl rfl (by assumption) ?_ | refine a_iaddr_l rfl rfl (by assumption) rfl ?_ | refine st_load_r rfl rfl ?_ | refine a_cmp rfl rfl rfl ?_ | refine a_eqi rfl rfl ?_ | refine st_not rfl ?_ | refine st_pick_t rfl rfl rfl ?_ | refine st_pick_f rfl rfl rfl ?_ | refine st_g rfl ?_ | refine a_gtf rfl ?_ | refine a_gft rfl ?_ | refine a_gu rfl ?_ | refine a_mklist (ec rfl en) (mz mkn) ?_ | refine a_mid ?_)
    first | refine a_endq (by repeat (first | exact pr_nil | (apply pr_cons; rfl))) ?_ | refine a_end (by repeat (first | exact pr_nil | (apply pr_cons; rfl))) ?_
    refine s_cond_t rfl (q_reg ?_)
    repeat (first | refine a_op (fun _ => rfl) ?_ | refine a_load rfl (by assumption) rfl ?_ | refine a_load_at rfl (by assumption) (by assumption) ?_ | refine a_iaddr_at rfl rfl (by assumption) ?_ | refine a_iaddr_l rfl rfl (by assumption) rfl ?_ | refine st_load_r rfl rfl ?_ | refine a_cmp rfl rfl rfl ?_ | refine a_eqi rfl rfl ?_ | refine st_not rfl ?_ | refine st_pick_t rfl rfl rfl ?_ | refine st_pick_f rfl rfl rfl ?_ | refine st_g rfl ?_ | refine a_gtf rfl ?_ | refine a_gft rfl ?_ | refine a_gu rfl ?_ | refine a_mklist (ec rfl en) (mz mkn) ?_ | refine a_mid ?_)
    first | refine a_endq (by repeat (first | exact pr_nil | (apply pr_cons; rfl))) ?_ | refine a_end (by repeat (first | exact pr_nil | (apply pr_cons; rfl))) ?_
    exact sc_ret (gr1 (g := zg6) (ho := fun _ => []) [.bool true] rfl (.inr rfl) (weak_ren [] (by simp) (by decide) ro_nil (re_cons1 rfl rnI re_nil)))
  refine a_op (fun _ => rfl) (st_g rfl (a_op (fun _ => rfl) (st_g rfl (st_gtr rfl rfl (fun hx => ?_) (fun hx2 => ?_)))))
  · repeat (first | refine a_op (fun _ => rfl) ?_ | refine a_load rfl (by assumption) rfl ?_ | refine a_load_at rfl (by assumption) (by assumption) ?_ | refine a_iaddr_at rfl rfl (by assumption) ?_ | refine a_iaddr_l rfl rfl (by assumption) rfl ?_ | refine st_load_r rfl rfl ?_ | refine a_cmp rfl rfl rfl ?_ | refine a_eqi rfl rfl ?_ | refine st_not rfl ?_ | refine st_pick_t rfl rfl rfl ?_ | refine st_pick_f rfl rfl rfl ?_ | refine st_g rfl ?_ | refine a_gtf rfl ?_ | refine a_gft rfl ?_ | refine a_gu rfl ?_ | refine a_mklist (ec rfl en) (mz mkn) ?_ | refine a_mid ?_)
    first | refine a_endq (by repeat (first | exact pr_nil | (apply pr_cons; rfl))) ?_ | refine a_end (by repeat (first | exact pr_nil | (apply pr_cons; rfl))) ?_
    refine s_cond_t rfl (q_reg ?_)
    repeat (first | refine a_op (fun _ => rfl) ?_ | refine a_load rfl (by assumption) rfl ?_ | refine a_load_at rfl (by assumption) (by assumption) ?_ | refine a_iaddr_at rfl rfl (by assumption) ?_ | refine a_iaddr_l rfl rfl (by assumption) rfl ?_ | refine st_load_r rfl rfl ?_ | refine a_cmp rfl rfl rfl ?_ | refine a_eqi rfl rfl ?_ | refine st_not rfl ?_ | refine st_pick_t rfl rfl rfl ?_ | refine st_pick_f rfl rfl rfl ?_ | refine st_g rfl ?_ | refine a_gtf rfl ?_ | refine a_gft rfl ?_ | refine a_gu rfl ?_ | refine a_mklist (ec rfl en) (mz mkn) ?_ | refine a_mid ?_)
    first | refine a_endq (by repeat (first | exact pr_nil | (apply pr_cons; rfl))) ?_ | refine a_end (by repeat (first | exact pr_nil | (apply pr_cons; rfl))) ?_
    exact sc_ret (gr1 (g := zg6) (ho := fun _ => []) [.bool true] rfl (.inr rfl) (weak_ren [] (by simp) (by decide) ro_nil (re_cons1 rfl rnI re_nil)))
  repeat (first | refine a_op (fun _ => rfl) ?_ | refine a_load rfl (by assumption) rfl ?_ | refine a_load_at rfl (by assumption) (by assumption) ?_ | refine a_iaddr_at rfl rfl (by assumption) ?_ | refine a_iaddr_l rfl rfl (by assumption) rfl ?_ | refine st_load_r rfl rfl ?_ | refine a_cmp rfl rfl rfl ?_ | refine a_eqi rfl rfl ?_ | refine st_not rfl ?_ | refine st_pick_t rfl rfl rfl ?_ | refine st_pick_f rfl rfl rfl ?_ | refine st_g rfl ?_ | refine a_gtf rfl ?_ | refine a_gft rfl ?_ | refine a_gu rfl ?_ | refine a_mklist (ec rfl en) (mz mkn) ?_ | refine a_mid ?_)
  first | refine a_endq (by repeat (first | exact pr_nil | (apply pr_cons; rfl))) ?_ | refine a_end (by repeat (first | exact pr_nil | (apply pr_cons; rfl))) ?_
  refine s_cond_f rfl (sc_skip (sq_n ?_))
  refine q_reg ?_
  repeat (first | refine a_op (fun _ => rfl) ?_ | refine a_load rfl (by assumption) rfl ?_ | refine a_load_at rfl (by assumption) (by assumption) ?_ | refine a_iaddr_at rfl rfl (by assumption) ?_ | refine a_iaddr_l rfl rfl (by assumption) rfl ?_ | refine st_load_r rfl rfl ?_ | refine a_cmp rfl rfl rfl ?_ | refine a_eqi rfl rfl ?_ | refine st_not rfl ?_ | refine st_pick_t rfl rfl rfl ?_ | refine st_pick_f rfl rfl rfl ?_ | refine st_g rfl ?_ | refine a_gtf rfl ?_ | refine a_gft rfl ?_ | refine a_gu rfl ?_ | refine a_mklist (ec rfl en) (mz mkn) ?_ | refine a_mid ?_)
  refine st_call (ec rfl (ec rfl en)) rfl (s19 (oP :: (kd ++ [cP])) (widF kd 0) hall ⟨hx1, hx2⟩) ?_
  repeat (first | refine a_op (fun _ => rfl) ?_ | refine a_load rfl (by assumption) rfl ?_ | refine a_load_at rfl (by assumption) (by assumption) ?_ | refine a_iaddr_at rfl rfl (by assumption) ?_ | refine a_iaddr_l rfl rfl (by assumption) rfl ?_ | refine st_load_r rfl rfl ?_ | refine a_cmp rfl rfl rfl ?_ | refine a_eqi rfl rfl ?_ | refine st_not rfl ?_ | refine st_pick_t rfl rfl rfl ?_ | refine st_pick_f rfl rfl rfl ?_ | refine st_g rfl ?_ | refine a_gtf rfl ?_ | refine a_gft rfl ?_ | refine a_gu rfl ?_ | refine a_mklist (ec rfl en) (mz mkn) ?_ | refine a_mid ?_)
  first | refine a_endq (by repeat (first | exact pr_nil | (apply pr_cons; rfl))) ?_ | refine a_end (by repeat (first | exact pr_nil | (apply pr_cons; rfl))) ?_
  have hno := hwide.1
  have hle := hwide.2
  generalize layF (oP :: (kd ++ [cP])) (widF kd 0) = out at hno hle ⊢
  have hct := s20 out
  rw [decide_eq_false hno] at hct
  refine sc_seq (q_reg ?_)
  repeat (first | refine a_op (fun _ => rfl) ?_ | refine a_load rfl (by assumption) rfl ?_ | refine a_load_at rfl (by assumption) (by assumption) ?_ | refine a_iaddr_at rfl rfl (by assumption) ?_ | refine a_iaddr_l rfl rfl (by assumption) rfl ?_ | refine st_load_r rfl rfl ?_ | refine a_cmp rfl rfl rfl ?_ | refine a_eqi rfl rfl ?_ | refine st_not rfl ?_ | refine st_pick_t rfl rfl rfl ?_ | refine st_pick_f rfl rfl rfl ?_ | refine st_g rfl ?_ | refine a_gtf rfl ?_ | refine a_gft rfl ?_ | refine a_gu rfl ?_ | refine a_mklist (ec rfl en) (mz mkn) ?_ | refine a_mid ?_)
  refine st_call (ec rfl (ec rfl en)) rfl hct ?_
  repeat (first | refine a_op (fun _ => rfl) ?_ | refine a_load rfl (by assumption) rfl ?_ | refine a_load_at rfl (by assumption) (by assumption) ?_ | refine a_iaddr_at rfl rfl (by assumption) ?_ | refine a_iaddr_l rfl rfl (by assumption) rfl ?_ | refine st_load_r rfl rfl ?_ | refine a_cmp rfl rfl rfl ?_ | refine a_eqi rfl rfl ?_ | refine st_not rfl ?_ | refine st_pick_t rfl rfl rfl ?_ | refine st_pick_f rfl rfl rfl ?_ | refine st_g rfl ?_ | refine a_gtf rfl ?_ | refine a_gft rfl ?_ | refine a_gu rfl ?_ | refine a_mklist (ec rfl en) (mz mkn) ?_ | refine a_mid ?_)
  first | refine a_endq (by repeat (first | exact pr_nil | (apply pr_cons; rfl))) ?_ | refine a_end (by repeat (first | exact pr_nil | (apply pr_cons; rfl))) ?_
  have e2 : (if true = true then !((out.length : Int) == widF kd 0) else (out.length : Int) == widF kd 0) = false := by rw [hle]; simp
  rw [e2]
  refine s_cond_f rfl (sc_skip (sq_n ?_))
  refine q_reg ?_
  repeat (first | refine a_op (fun _ => rfl) ?_ | refine a_load rfl (by assumption) rfl ?_ | refine a_load_at rfl (by assumption) (by assumption) ?_ | refine a_iaddr_at rfl rfl (by assumption) ?_ | refine a_iaddr_l rfl rfl (by assumption) rfl ?_ | refine st_load_r rfl rfl ?_ | refine a_cmp rfl rfl rfl ?_ | refine a_eqi rfl rfl ?_ | refine st_not rfl ?_ | refine st_pick_t rfl rfl rfl ?_ | refine st_pick_f rfl rfl rfl ?_ | refine st_g rfl ?_ | refine a_gtf rfl ?_ | refine a_gft rfl ?_ | refine a_gu rfl ?_ | refine a_mklist (ec rfl en) (mz mkn) ?_ | refine a_mid ?_)
  refine a_mklist (ec rfl (ec rfl (ec rfl en))) (mz (mz (mz mkn))) ?_
  refine st_call (ec rfl (ec rfl en)) rfl (s19 d2 99 VL.g2 (by omega)) ?_
  repeat (first | refine a_op (fun _ => rfl) ?_ | refine a_load rfl (by assumption) rfl ?_ | refine a_load_at rfl (by assumption) (by assumption) ?_ | refine a_iaddr_at rfl rfl (by assumption) ?_ | refine a_iaddr_l rfl rfl (by assumption) rfl ?_ | refine st_load_r rfl rfl ?_ | refine a_cmp rfl rfl rfl ?_ | refine a_eqi rfl rfl ?_ | refine st_not rfl ?_ | refine st_pick_t rfl rfl rfl ?_ | refine st_pick_f rfl rfl rfl ?_ | refine st_g rfl ?_ | refine a_gtf rfl ?_ | refine a_gft rfl ?_ | refine a_gu rfl ?_ | refine a_mklist (ec rfl en) (mz mkn) ?_ | refine a_mid ?_)
  first | refine a_endq (by repeat (first | exact pr_nil | (apply pr_cons; rfl))) ?_ | refine a_end (by repeat (first | exact pr_nil | (apply pr_cons; rfl))) ?_
  rw [l2]
  refine q_reg ?_
  repeat (first | refine a_op (fun _ => rfl) ?_ | refine a_load rfl (by assumption) rfl ?_ | refine a_load_at rfl (by assumption) (by assumption) ?_ | refine a_iaddr_at rfl rfl (by assumption) ?_ | refine a_iaddr_l rfl rfl (by assumption) rfl ?_ | refine st_load_r rfl rfl ?_ | refine a_cmp rfl rfl rfl ?_ | refine a_eqi rfl rfl ?_ | refine st_not rfl ?_ | refine st_pick_t rfl rfl rfl ?_ | refine st_pick_f rfl rfl rfl ?_ | refine st_g rfl ?_ | refine a_gtf rfl ?_ | refine a_gft rfl ?_ | refine a_gu rfl ?_ | refine a_mklist (ec rfl en) (mz mkn) ?_ | refine a_mid ?_)
  refine a_eqst rfl rfl ?_
  repeat (first | refine a_op (fun _ => rfl) ?_ | refine a_load rfl (by assumption) rfl ?_ | refine a_load_at rfl (by assumption) (by assumption) ?_ | refine a_iaddr_at rfl rfl (by assumption) ?_ | refine a_iaddr_l rfl rfl (by assumption) rfl ?_ | refine st_load_r rfl rfl ?_ | refine a_cmp rfl rfl rfl ?_ | refine a_eqi rfl rfl ?_ | refine st_not rfl ?_ | refine st_pick_t rfl rfl rfl ?_ | refine st_pick_f rfl rfl rfl ?_ | refine st_g rfl ?_ | refine a_gtf rfl ?_ | refine a_gft rfl ?_ | refine a_gu rfl ?_ | refine a_mklist (ec rfl en) (mz mkn) ?_ | refine a_mid ?_)
  first | refine a_endq (by repeat (first | exact pr_nil | (apply pr_cons; rfl))) ?_ | refine a_end (by repeat (first | exact pr_nil | (apply pr_cons; rfl))) ?_
  exact sc_ret (gr1 (g := zg6) (ho := fun _ => []) [.bool true] rfl (.inr rfl) (weak_ren [] (by simp) (by decide) ro_nil (re_cons1 rfl rnI re_nil)))
end Go.Hw.VL

