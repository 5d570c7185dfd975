import Derived.Test.YtonoaimefgodfaaHwMoK
set_option linter.unusedVariables false
set_option linter.unusedSimpArgs false
namespace Go.Hw
open Go
section
variable {P : Program} {N m : Nat} {S D : CallP} {b : Nat} {r : List Op} {e e' : Env} {h h' : Heap} {Q : Env → Heap → Prop} {QQ : Ex → Env → Heap → Prop} {d : Nat} {x y z : X}
theorem a_mksln {zs : List HV} {sz by_ n : Nat} (hx : x.ev e = some (.int .i64 (n : Int))) (hy : y.ev e = some (.int .i64 (n : Int))) (hz : zs.length = sz) (hn : n ≤ 1000000 ∧ by_ ≤ 1000)
    (k : HO S b r ((d, .arr h.length 0 n sz) :: e) (h ++ [.cells (List.replicate n zs).flatten]) Q) : HO S b (⟨some d, .op (.mkslice none sz by_ zs x y), none⟩ :: r) e h Q := by
  refine ⟨?_⟩
  simp only [hops, hcall, hstep, hx, hy, hnew, Int.toNat_natCast]
  refine ⟨⟨trivial, by omega, by omega, ?_, hz⟩, k.out⟩
  have : n * by_ ≤ 1000000 * 1000 := Nat.mul_le_mul hn.1 hn.2
  have h2 : ((n * by_ : Nat) : Int) = (n : Int) * (by_ : Int) := by simp
  omega
end
theorem rep_flm {A : Type} (n : Nat) (l : List A) : (List.replicate n l).flatten = (List.range n).flatMap fun _ => l := by
  rw [List.flatMap_def, List.map_const', List.length_range]
theorem map_fm {A B : Type} (f : A → B) : ∀ l : List A, l.map f = l.flatMap fun a => [f a]
  | [] => rfl
  | a :: l => by rw [List.map_cons, List.flatMap_cons, map_fm f l]; rfl
end Go.Hw
namespace Go.Hw.VM
open Go Go.Proofs

def layB (I : Ids) (t : Ct) : Lay := (I.w, netO I) :: (I.mid, wayO I.bid t.g) :: (mlay t.g ++ ((I.nid, nodesO I t.waits) :: (List.range I.K).flatMap (nodeL I t)))
theorem lay_B (I : Ids) (t : Ct) (R : Lay) : lay I t ++ R = layB I t ++ ((List.range I.m).flatMap (bodyL I t) ++ R) := by
  simp only [lay, layB, List.cons_append, List.append_assoc]
theorem sure_atB (I : Ids) (t : Ct) {i : Nat} (hi : i < I.K) (R : Lay) : ∃ M, (layB I t ++ R).Perm ((I.sid i, sureO I (t.sn i) (t.st i)) :: M) ∧ ∀ f g : Nat → Nat, (layB I { t with sn := fupd t.sn i f, st := fupd t.st i g } ++ R).Perm ((I.sid i, sureO I f g) :: M) := by
  obtain ⟨M0, p1, p2⟩ := fm_at I.K (nodeL I t) hi
  refine ⟨[(I.hid i, hereO I (t.here i)), (I.qid i, seqO I (t.sq i))] ++ ((t.waits i).lay ++ ((I.w, netO I) :: (I.mid, wayO I.bid t.g) :: (mlay t.g ++ ((I.nid, nodesO I t.waits) :: (M0 ++ R))))), perm_c fun c e ca cc c0 cp => ?_, fun f g => perm_c fun c e ca cc c0 cp => ?_⟩
  · have := cp _ _ p1
    simp only [nodeL, ca, cc, c0] at this
    simp only [layB, ca, cc, c0, nodeL, this]
    omega
  · have h4 := cp _ _ (p2 (nodeL I { t with sn := fupd t.sn i f, st := fupd t.st i g }) fun j hj => by simp only [nodeL, fupd_ne hj])
    have h5 : nodeL I { t with sn := fupd t.sn i f, st := fupd t.st i g } i = [(I.hid i, hereO I (t.here i)), (I.sid i, sureO I f g), (I.qid i, seqO I (t.sq i))] ++ (t.waits i).lay := by
      simp only [nodeL, fupd_eq]
    rw [h5] at h4
    simp only [ca, cc, c0] at h4
    simp only [layB, ca, cc, c0, h4]
    omega
theorem mem_nodeB {I : Ids} {t : Ct} {i : Nat} {q : Nat × HObj} (hi : i < I.K) (hq : q ∈ nodeL I t i) (R : Lay) : q ∈ layB I t ++ R := by
  have : q ∈ (List.range I.K).flatMap (nodeL I t) := List.mem_flatMap.2 ⟨i, List.mem_range.2 hi, hq⟩
  simp only [layB, List.mem_append, List.mem_cons]
  exact .inl (.inr (.inr (.inr (.inr this))))
theorem mem_wB {I : Ids} {t : Ct} (R : Lay) : (I.w, netO I) ∈ layB I t ++ R := by simp [layB]
theorem mem_nB {I : Ids} {t : Ct} (R : Lay) : (I.nid, nodesO I t.waits) ∈ layB I t ++ R := by simp [layB]
def ct0 (wh : Nat → Nat) (w : Nat) : Ct := ⟨fun i x => decide (x < w) && decide (wh x = i), fun _ x => if x < w then wh x else 0, fun _ _ => 0, fun _ _ => 0, fun _ => RW.nil, fun _ => RW.nil, fun _ _ => 0, fun _ => GM.nil, GM.nil⟩
def ct1 (wh : Nat → Nat) (w j : Nat) : Ct := ⟨fun i x => decide (x < w) && decide (wh x = i), fun i x => if x < w ∨ (x = w ∧ i < j) then wh x else 0, fun _ _ => 0, fun _ _ => 0, fun _ => RW.nil, fun _ => RW.nil, fun _ _ => 0, fun _ => GM.nil, GM.nil⟩
theorem ct1_0 (wh : Nat → Nat) (w : Nat) : ct1 wh w 0 = ct0 wh w := by
  unfold ct1 ct0
  congr 1
  funext i x
  simp
theorem ct1_step (wh : Nat → Nat) (w j : Nat) {t : Ct} (ht : t = ct1 wh w j) : { t with sn := fupd t.sn j (fupd (t.sn j) w (wh w)), st := fupd t.st j (fupd (t.st j) w 0) } = ct1 wh w (j + 1) := by
  subst ht
  unfold ct1
  congr 1
  · funext i x
    simp only [fupd]
    by_cases h1 : i = j
    · subst h1
      by_cases h2 : x = w
      · subst h2; simp [fupd]
      · simp [h2, fupd]
    · simp only [if_neg h1]
      by_cases h2 : x = w
      · subst h2
        simp only [Nat.lt_irrefl, true_and, false_or]
        by_cases h3 : i < j
        · rw [if_pos h3, if_pos (by omega)]
        · rw [if_neg h3, if_neg (by omega)]
      · simp [h2]
  · funext i x
    by_cases h1 : i = j
    · by_cases h2 : x = w
      · simp [fupd, h1, h2]
      · simp [fupd, h1, h2]
    · simp [fupd, h1]
theorem hereO_0 (I : Ids) (wh : Nat → Nat) (i : Nat) : hereO I ((ct0 wh 0).here i) = .cells (List.replicate I.m [HV.nilptr]).flatten := by
  rw [rep_flm, ← map_fm]
  unfold hereO
  congr 1
theorem sureO_0 (I : Ids) (wh : Nat → Nat) (i : Nat) : sureO I ((ct0 wh 0).sn i) ((ct0 wh 0).st i) = .cells (List.replicate I.m [ii 0, ii 0]).flatten := by
  rw [rep_flm]
  unfold sureO
  congr 1
theorem seqO_0 (I : Ids) (wh : Nat → Nat) (i : Nat) : seqO I ((ct0 wh 0).sq i) = .cells (List.replicate I.m [ii 0]).flatten := by
  rw [rep_flm, ← map_fm]
  rfl
theorem node_next {I : Ids} {wh : Nat → Nat} {w v0 v1 v2 i : Nat} (hi : i < I.K) (hw : w < I.m) : nodeL { I with bid := fupd I.bid w v2, xid := fupd I.xid w v0, eid := fupd I.eid w v1 } (ct0 wh (w + 1)) i =
    [(I.hid i, .cells ((List.range I.m).map (if wh w = i then fupd (hereC I.bid ((ct1 wh w I.K).here i)) w (.ptr v2 0) else hereC I.bid ((ct1 wh w I.K).here i)))), (I.sid i, sureO I ((ct1 wh w I.K).sn i) ((ct1 wh w I.K).st i)), (I.qid i, seqO I ((ct1 wh w I.K).sq i))] := by
  have e1 : hereO { I with bid := fupd I.bid w v2, xid := fupd I.xid w v0, eid := fupd I.eid w v1 } ((ct0 wh (w + 1)).here i) = .cells ((List.range I.m).map (if wh w = i then fupd (hereC I.bid ((ct1 wh w I.K).here i)) w (.ptr v2 0) else hereC I.bid ((ct1 wh w I.K).here i))) := by
    unfold hereO
    congr 1
    refine List.map_congr_left fun x hx => ?_
    by_cases hxw : x = w
    · subst hxw
      by_cases h : wh x = i
      · rw [if_pos h, fupd_eq]
        simp [hereC, ct0, h, fupd]
      · rw [if_neg h]
        simp [hereC, ct0, ct1, h]
    · have hlt : (x < w + 1) ↔ x < w := by omega
      by_cases h : wh w = i
      · rw [if_pos h, fupd_ne hxw]
        simp [hereC, ct0, ct1, hlt, fupd_ne hxw]
      · rw [if_neg h]
        simp [hereC, ct0, ct1, hlt, fupd_ne hxw]
  have e2 : sureO { I with bid := fupd I.bid w v2, xid := fupd I.xid w v0, eid := fupd I.eid w v1 } ((ct0 wh (w + 1)).sn i) ((ct0 wh (w + 1)).st i) = sureO I ((ct1 wh w I.K).sn i) ((ct1 wh w I.K).st i) := by
    unfold sureO
    congr 1
    refine fm_congr fun x _ => ?_
    have : (x < w + 1) ↔ (x < w ∨ (x = w ∧ i < I.K)) := by omega
    simp [sureC, ct0, ct1, this]
  unfold nodeL
  rw [e1, e2]
  rfl
end Go.Hw.VM

