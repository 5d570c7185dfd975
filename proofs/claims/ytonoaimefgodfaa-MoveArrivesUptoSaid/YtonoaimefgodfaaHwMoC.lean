import Derived.Test.YtonoaimefgodfaaHwMoB
set_option linter.unusedVariables false
set_option linter.unusedSimpArgs false
namespace Go.Hw.VM
open Go Go.Proofs

structure Ids where
  w : Nat
  nid : Nat
  mid : Nat
  K : Nat
  m : Nat
  hid : Nat → Nat
  sid : Nat → Nat
  qid : Nat → Nat
  bid : Nat → Nat
  xid : Nat → Nat
  eid : Nat → Nat
structure Ct where
  here : Nat → Nat → Bool
  sn : Nat → Nat → Nat
  st : Nat → Nat → Nat
  sq : Nat → Nat → Nat
  waits : Nat → RW It
  got : Nat → RW GMove_Got
  next : Nat → Nat → Nat
  early : Nat → GM Key Int
  g : GM Key (RW It)
def hereC (bid : Nat → Nat) (f : Nat → Bool) (w : Nat) : HV := if f w then .ptr (bid w) 0 else .nilptr
abbrev hereO (I : Ids) (f : Nat → Bool) : HObj := .cells ((List.range I.m).map (hereC I.bid f))
def sureC (sn st : Nat → Nat) (w : Nat) : List HV := [ii (sn w), ii (st w)]
abbrev sureO (I : Ids) (sn st : Nat → Nat) : HObj := .cells ((List.range I.m).flatMap (sureC sn st))
abbrev seqO (I : Ids) (sq : Nat → Nat) : HObj := .cells ((List.range I.m).map fun w => ii (sq w))
def nodeC (I : Ids) (waits : Nat → RW It) (i : Nat) : List HV := [.arr (I.hid i) 0 I.m 1, .arr (I.sid i) 0 I.m 2, .arr (I.qid i) 0 I.m 1, (waits i).hv (eIt I.bid)]
abbrev nodesO (I : Ids) (waits : Nat → RW It) : HObj := .cells ((List.range I.K).flatMap (nodeC I waits))
def nodeL (I : Ids) (t : Ct) (i : Nat) : Lay := [(I.hid i, hereO I (t.here i)), (I.sid i, sureO I (t.sn i) (t.st i)), (I.qid i, seqO I (t.sq i))] ++ (t.waits i).lay
def body (I : Ids) (t : Ct) (w : Nat) : PB := ⟨I.bid w, I.xid w, I.eid w, t.got w, t.next w, t.early w⟩
def bodyL (I : Ids) (t : Ct) (w : Nat) : Lay := (body I t w).lay I.K
abbrev netO (I : Ids) : HObj := .cells [.arr I.nid 0 I.K 4, .map I.mid]
def lay (I : Ids) (t : Ct) : Lay := (I.w, netO I) :: (I.mid, wayO I.bid t.g) :: (mlay t.g ++ ((I.nid, nodesO I t.waits) :: ((List.range I.K).flatMap (nodeL I t) ++ (List.range I.m).flatMap (bodyL I t))))
structure It.ok (I : Ids) (x : It) : Prop where
  who : x.who < I.m
  frm : x.frm < I.K
  seq : x.seq ≤ 1000000000
structure Ct.ok (I : Ids) (B : Nat) (t : Ct) : Prop where
  bod : ∀ w, (body I t w).ok B
  g : GOk B t.g
  waits : ∀ i, (t.waits i).ok 8 ∧ (t.waits i).l.length ≤ B
  itg : ∀ q ∈ t.g.es, ∀ x ∈ q.2.2.l, x.ok I
  itw : ∀ i, ∀ x ∈ (t.waits i).l, x.ok I
  hK : I.K ≤ 1000
  hm : I.m ≤ 1000
theorem PB.ok.le {b : PB} {B B' : Nat} (ok : b.ok B) (h : B ≤ B') : b.ok B' := ⟨ok.got, ok.wf, Nat.le_trans ok.len h, ok.keys⟩
theorem Ct.ok.le {I : Ids} {t : Ct} {B B' : Nat} (ok : t.ok I B) (h : B ≤ B') : t.ok I B' := ⟨fun w => (ok.bod w).le h, ok.g.le h, fun i => ⟨(ok.waits i).1, Nat.le_trans (ok.waits i).2 h⟩, ok.itg, ok.itw, ok.hK, ok.hm⟩

structure Nw where
  here : Nat → Nat → Bool
  sn : Nat → Nat → Nat
  st : Nat → Nat → Nat
  sq : Nat → Nat → Nat
  waits : Nat → List It
  got : Nat → List GMove_Got
  next : Nat → Nat → Nat
  early : Nat → GM Key Int
  ways : GM Key (List It)
def Ct.abs (t : Ct) : Nw := ⟨t.here, t.sn, t.st, t.sq, fun i => (t.waits i).l, fun w => (t.got w).l, t.next, t.early, gmap RW.l t.g⟩
def setB (t : Nw) (w : Nat) (b : Bd) : Nw := { t with got := fupd t.got w b.got, next := fupd t.next w b.next, early := fupd t.early w b.early }
def noteF (t : Nw) (at_ : Nat) (x : It) : It := ⟨3, x.who, 0, 0, 0, t.sn at_ x.who, t.st at_ x.who⟩
def waitF (t : Nw) (at_ : Nat) (x : It) : Nw := { t with waits := fupd t.waits at_ (t.waits at_ ++ [x]) }
def forwF (t : Nw) (at_ : Nat) (x : It) : Nw := { t with ways := wadd (if x.frm ≠ at_ then wadd t.ways ((at_ : Int), (x.frm : Int)) (noteF t at_ x) else t.ways) ((at_ : Int), (t.sn at_ x.who : Int)) x }
def letterF (t : Nw) (at_ : Nat) (x : It) : Nw :=
  if t.here at_ x.who then setB t x.who (takeF ⟨t.got x.who, t.next x.who, t.early x.who⟩ x)
  else if t.sn at_ x.who = at_ then waitF t at_ x else forwF t at_ x

theorem body_at (I : Ids) (t : Ct) {w : Nat} (hw : w < I.m) (R : Lay) : ∃ M, (lay I t ++ R).Perm ((body I t w).lay I.K ++ M) ∧
    ∀ b' : PB, b'.bid = I.bid w → b'.xid = I.xid w → b'.eid = I.eid w → (lay I { t with got := fupd t.got w b'.got, next := fupd t.next w b'.next, early := fupd t.early w b'.early } ++ R).Perm (b'.lay I.K ++ M) := by
  obtain ⟨M0, p1, p2⟩ := fm_at I.m (bodyL I t) hw
  refine ⟨(I.w, netO I) :: (I.mid, wayO I.bid t.g) :: (mlay t.g ++ ((I.nid, nodesO I t.waits) :: ((List.range I.K).flatMap (nodeL I t) ++ (M0 ++ R)))), perm_c fun c e ca cc c0 cp => ?_, fun b' h1 h2 h3 => perm_c fun c e ca cc c0 cp => ?_⟩
  · have := cp _ _ p1
    simp only [bodyL, ca] at this
    simp only [lay, ca, cc, bodyL, this]
    omega
  · have h4 := cp _ _ (p2 (bodyL I { t with got := fupd t.got w b'.got, next := fupd t.next w b'.next, early := fupd t.early w b'.early }) fun j hj => by
      simp only [bodyL, body, fupd_ne hj])
    have h5 : bodyL I { t with got := fupd t.got w b'.got, next := fupd t.next w b'.next, early := fupd t.early w b'.early } w = b'.lay I.K := by
      simp only [bodyL, body, fupd_eq, ← h1, ← h2, ← h3]
    have h6 : nodeL I { t with got := fupd t.got w b'.got, next := fupd t.next w b'.next, early := fupd t.early w b'.early } = nodeL I t := rfl
    rw [h5] at h4
    simp only [ca] at h4
    simp only [lay, ca, cc, h4, h6]
    omega
theorem wait_at (I : Ids) (t : Ct) {i : Nat} (hi : i < I.K) (R : Lay) : ∃ M, (lay I t ++ R).Perm ((I.nid, nodesO I t.waits) :: ((t.waits i).lay ++ M)) ∧ (∀ q ∈ (I.w, netO I) :: nodeL I t i, q ∈ (t.waits i).lay ++ M) ∧
    ∀ r' : RW It, (lay I { t with waits := fupd t.waits i r' } ++ R).Perm ((I.nid, nodesO I (fupd t.waits i r')) :: (r'.lay ++ M)) := by
  obtain ⟨M0, p1, p2⟩ := fm_at I.K (nodeL I t) hi
  refine ⟨[(I.hid i, hereO I (t.here i)), (I.sid i, sureO I (t.sn i) (t.st i)), (I.qid i, seqO I (t.sq i))] ++ ((I.w, netO I) :: (I.mid, wayO I.bid t.g) :: (mlay t.g ++ (M0 ++ ((List.range I.m).flatMap (bodyL I t) ++ R)))), perm_c fun c e ca cc c0 cp => ?_, fun q hq => ?_, fun r' => perm_c fun c e ca cc c0 cp => ?_⟩
  · have := cp _ _ p1
    simp only [nodeL, ca, cc, c0] at this
    simp only [lay, ca, cc, c0, nodeL, this]
    omega
  · simp only [nodeL, List.mem_cons, List.mem_append] at hq ⊢
    rcases hq with h | (h | h | h | h) | h
    · exact .inr (.inr (.inl h))
    · exact .inr (.inl (.inl h))
    · exact .inr (.inl (.inr (.inl h)))
    · exact .inr (.inl (.inr (.inr (.inl h))))
    · exact absurd h (by simp)
    · exact .inl h
  · have h4 := cp _ _ (p2 (nodeL I { t with waits := fupd t.waits i r' }) fun j hj => by simp only [nodeL, fupd_ne hj])
    have h5 : nodeL I { t with waits := fupd t.waits i r' } i = [(I.hid i, hereO I (t.here i)), (I.sid i, sureO I (t.sn i) (t.st i)), (I.qid i, seqO I (t.sq i))] ++ r'.lay := by
      simp only [nodeL, fupd_eq]
    have h6 : bodyL I { t with waits := fupd t.waits i r' } = bodyL I t := rfl
    rw [h5] at h4
    simp only [ca, cc, c0] at h4
    simp only [lay, ca, cc, c0, h4, h6]
    omega
theorem here_at (I : Ids) (t : Ct) {i : Nat} (hi : i < I.K) (R : Lay) : ∃ M, (lay I t ++ R).Perm ((I.hid i, hereO I (t.here i)) :: M) ∧ ∀ f : Nat → Bool, (lay I { t with here := fupd t.here i f } ++ R).Perm ((I.hid i, hereO I f) :: M) := by
  obtain ⟨M0, p1, p2⟩ := fm_at I.K (nodeL I t) hi
  refine ⟨[(I.sid i, sureO I (t.sn i) (t.st i)), (I.qid i, seqO I (t.sq i))] ++ ((t.waits i).lay ++ ((I.w, netO I) :: (I.mid, wayO I.bid t.g) :: (mlay t.g ++ ((I.nid, nodesO I t.waits) :: (M0 ++ ((List.range I.m).flatMap (bodyL I t) ++ R)))))), perm_c fun c e ca cc c0 cp => ?_, fun f => perm_c fun c e ca cc c0 cp => ?_⟩
  · have := cp _ _ p1
    simp only [nodeL, ca, cc, c0] at this
    simp only [lay, ca, cc, c0, nodeL, this]
    omega
  · have h4 := cp _ _ (p2 (nodeL I { t with here := fupd t.here i f }) fun j hj => by simp only [nodeL, fupd_ne hj])
    have h5 : nodeL I { t with here := fupd t.here i f } i = [(I.hid i, hereO I f), (I.sid i, sureO I (t.sn i) (t.st i)), (I.qid i, seqO I (t.sq i))] ++ (t.waits i).lay := by
      simp only [nodeL, fupd_eq]
    have h6 : bodyL I { t with here := fupd t.here i f } = bodyL I t := rfl
    rw [h5] at h4
    simp only [ca, cc, c0] at h4
    simp only [lay, ca, cc, c0, h4, h6]
    omega
theorem sure_at (I : Ids) (t : Ct) {i : Nat} (hi : i < I.K) (R : Lay) : ∃ M, (lay I t ++ R).Perm ((I.sid i, sureO I (t.sn i) (t.st i)) :: M) ∧ ∀ f g : Nat → Nat, (lay I { t with sn := fupd t.sn i f, st := fupd t.st i g } ++ R).Perm ((I.sid i, sureO I f g) :: M) := by
  obtain ⟨M0, p1, p2⟩ := fm_at I.K (nodeL I t) hi
  refine ⟨[(I.hid i, hereO I (t.here i)), (I.qid i, seqO I (t.sq i))] ++ ((t.waits i).lay ++ ((I.w, netO I) :: (I.mid, wayO I.bid t.g) :: (mlay t.g ++ ((I.nid, nodesO I t.waits) :: (M0 ++ ((List.range I.m).flatMap (bodyL I t) ++ R)))))), perm_c fun c e ca cc c0 cp => ?_, fun f g => perm_c fun c e ca cc c0 cp => ?_⟩
  · have := cp _ _ p1
    simp only [nodeL, ca, cc, c0] at this
    simp only [lay, ca, cc, c0, nodeL, this]
    omega
  · have h4 := cp _ _ (p2 (nodeL I { t with sn := fupd t.sn i f, st := fupd t.st i g }) fun j hj => by simp only [nodeL, fupd_ne hj])
    have h5 : nodeL I { t with sn := fupd t.sn i f, st := fupd t.st i g } i = [(I.hid i, hereO I (t.here i)), (I.sid i, sureO I f g), (I.qid i, seqO I (t.sq i))] ++ (t.waits i).lay := by
      simp only [nodeL, fupd_eq]
    have h6 : bodyL I { t with sn := fupd t.sn i f, st := fupd t.st i g } = bodyL I t := rfl
    rw [h5] at h4
    simp only [ca, cc, c0] at h4
    simp only [lay, ca, cc, c0, h4, h6]
    omega
theorem seq_at (I : Ids) (t : Ct) {i : Nat} (hi : i < I.K) (R : Lay) : ∃ M, (lay I t ++ R).Perm ((I.qid i, seqO I (t.sq i)) :: M) ∧ ∀ f : Nat → Nat, (lay I { t with sq := fupd t.sq i f } ++ R).Perm ((I.qid i, seqO I f) :: M) := by
  obtain ⟨M0, p1, p2⟩ := fm_at I.K (nodeL I t) hi
  refine ⟨[(I.hid i, hereO I (t.here i)), (I.sid i, sureO I (t.sn i) (t.st i))] ++ ((t.waits i).lay ++ ((I.w, netO I) :: (I.mid, wayO I.bid t.g) :: (mlay t.g ++ ((I.nid, nodesO I t.waits) :: (M0 ++ ((List.range I.m).flatMap (bodyL I t) ++ R)))))), perm_c fun c e ca cc c0 cp => ?_, fun f => perm_c fun c e ca cc c0 cp => ?_⟩
  · have := cp _ _ p1
    simp only [nodeL, ca, cc, c0] at this
    simp only [lay, ca, cc, c0, nodeL, this]
    omega
  · have h4 := cp _ _ (p2 (nodeL I { t with sq := fupd t.sq i f }) fun j hj => by simp only [nodeL, fupd_ne hj])
    have h5 : nodeL I { t with sq := fupd t.sq i f } i = [(I.hid i, hereO I (t.here i)), (I.sid i, sureO I (t.sn i) (t.st i)), (I.qid i, seqO I f)] ++ (t.waits i).lay := by
      simp only [nodeL, fupd_eq]
    have h6 : bodyL I { t with sq := fupd t.sq i f } = bodyL I t := rfl
    rw [h5] at h4
    simp only [ca, cc, c0] at h4
    simp only [lay, ca, cc, c0, h4, h6]
    omega
theorem mem_node {I : Ids} {t : Ct} {i : Nat} {q : Nat × HObj} (hi : i < I.K) (hq : q ∈ nodeL I t i) (R : Lay) : q ∈ lay I t ++ R := by
  have : q ∈ (List.range I.K).flatMap (nodeL I t) := List.mem_flatMap.2 ⟨i, List.mem_range.2 hi, hq⟩
  simp only [lay, List.mem_append, List.mem_cons]
  exact .inl (.inr (.inr (.inr (.inr (.inl this)))))
theorem mem_w {I : Ids} {t : Ct} (R : Lay) : (I.w, netO I) ∈ lay I t ++ R := by simp [lay]
theorem mem_n {I : Ids} {t : Ct} (R : Lay) : (I.nid, nodesO I t.waits) ∈ lay I t ++ R := by simp [lay]
theorem mem_m {I : Ids} {t : Ct} (R : Lay) : (I.mid, wayO I.bid t.g) ∈ lay I t ++ R := by simp [lay]
theorem nodeC_len (I : Ids) (waits : Nat → RW It) (k : Nat) : (nodeC I waits k).length = 4 := rfl
theorem sureC_len (sn st : Nat → Nat) (k : Nat) : (sureC sn st k).length = 2 := rfl
theorem nodeC_upd (I : Ids) (waits : Nat → RW It) (i : Nat) (r : RW It) : fupd (nodeC I waits) i (putAt (nodeC I waits i) 3 [r.hv (eIt I.bid)]) = nodeC I (fupd waits i r) := by
  funext k
  unfold fupd nodeC
  split
  · rename_i h; subst h; simp [putAt, fupd]
  · rename_i h; simp [fupd, h]
end Go.Hw.VM

