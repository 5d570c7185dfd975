import Derived.Test.YtonoaimefgodfaaHwMo3
import Derived.Test.YtonoaimefgodfaaHwRow
set_option linter.unusedVariables false
set_option linter.unusedSimpArgs false
namespace Go.Hw.VM
open Go Go.Proofs

abbrev Key := Int × Int
def eKey (k : Key) : HV := .agg [ii k.1, ii k.2]
theorem enck_key : EncK eKey (.agg [.i, .i]) := fun a c => by
  obtain ⟨a0, a1⟩ := a
  obtain ⟨c0, c1⟩ := c
  simp [keq, eqCells, Sc.eq, eKey, Bool.beq_eq_decide_eq]
structure It where
  kind : Int
  who : Nat
  frm : Nat
  seq : Nat
  n : Int
  node : Nat
  turn : Nat
  deriving DecidableEq
abbrev itC (x : It) (p : HV) : List HV := [ii x.kind, ii x.who, ii x.frm, ii x.seq, ii x.n, ii x.node, ii x.turn, p]
def itP (ids : Nat → Nat) (x : It) : HV := if x.kind = 2 then .ptr (ids x.who) 0 else .nilptr
def eIt (ids : Nat → Nat) (x : It) : HV := .agg (itC x (itP ids x))
structure PB where
  bid : Nat
  xid : Nat
  eid : Nat
  got : RW GMove_Got
  next : Nat → Nat
  early : GM Key Int
abbrev nxO (K : Nat) (next : Nat → Nat) : HObj := .cells ((List.range K).map fun i => ii (next i))
abbrev PB.obj (K : Nat) (b : PB) : HObj := .cells [b.got.hv eGMove_Got, .arr b.xid 0 K 1, .map b.eid]
def PB.lay (K : Nat) (b : PB) : Lay := [(b.bid, b.obj K), (b.xid, nxO K b.next), (b.eid, b.early.obj eKey ii)] ++ b.got.lay
structure PB.ok (B : Nat) (b : PB) : Prop where
  got : b.got.ok 2
  wf : b.early.wf
  len : b.got.l.length + b.early.es.length ≤ B
  keys : ∀ p ∈ b.early.es, p.2.1.2 ≤ 1000000000
structure Bd where
  got : List GMove_Got
  next : Nat → Nat
  early : GM Key Int
def PB.abs (b : PB) : Bd := ⟨b.got.l, b.next, b.early⟩
def runB : Nat → Bd → Nat → Bd
  | 0, b, _ => b
  | k + 1, b, f => match b.early.get ((f : Int), (b.next f : Int)) with
    | none => b
    | some n => runB k ⟨b.got ++ [⟨f, n⟩], fupd b.next f (b.next f + 1), b.early.del ((f : Int), (b.next f : Int))⟩ f
def takeF (b : Bd) (x : It) : Bd :=
  if x.seq < b.next x.frm then b else runB (b.early.put ((x.frm : Int), (x.seq : Int)) x.n).es.length ⟨b.got, b.next, b.early.put ((x.frm : Int), (x.seq : Int)) x.n⟩ x.frm
theorem put_len {A B : Type} [DecidableEq A] (g : GM A B) (k : A) (v : B) : (g.put k v).es.length ≤ g.es.length + 1 := by
  unfold GM.put
  cases hi : g.idx k with
  | none => simp
  | some j =>
    obtain ⟨p, hp, _⟩ := GM.idx_lt hi
    simp [hp]
theorem put_key {A B : Type} [DecidableEq A] {g : GM A B} {k : A} {v : B} {q : Nat × A × B} (h : q ∈ (g.put k v).es) : q ∈ g.es ∨ q.2.1 = k := by
  unfold GM.put at h
  cases hi : g.idx k with
  | none =>
    rw [hi] at h
    rcases List.mem_append.1 h with h | h
    · exact .inl h
    · right; rw [List.mem_singleton.1 h]
  | some j =>
    obtain ⟨p, hp, _⟩ := GM.idx_lt hi
    rw [hi] at h
    simp only [hp] at h
    rcases List.mem_or_eq_of_mem_set h with h | h
    · exact .inl h
    · right; rw [h]
theorem del_len {A B : Type} [DecidableEq A] {g : GM A B} {k : A} (h : (g.get k).isSome = true) : (g.del k).es.length + 1 = g.es.length := by
  rw [GM.get_idx] at h
  unfold GM.del
  cases hi : g.idx k with
  | none => rw [hi] at h; simp at h
  | some j =>
    obtain ⟨p, hp, _⟩ := GM.idx_lt hi
    have := lt_of_get hp
    simp only [List.length_eraseIdx, if_pos this]
    omega
section
variable {P : Program} {N m : Nat} {S D : CallP} {b : Nat} {r : List Op} {e e' : Env} {h h' : Heap} {Q : Env → Heap → Prop} {QQ : Ex → Env → Heap → Prop} {d : Nat} {x y z : X}
theorem a_lookokE {A B : Type} [DecidableEq A] {fk : A → HV} {fv : B → HV} {kd : EqK} {g : GM A B} {id : Nat} {q : A} {z0 v : B} {zv : HV} {t : Bool} (hk : EncK fk kd) (hx : x.ev e = some (.map id)) (hy : y.ev e = some (fk q)) (hm : h[id]? = some (g.obj fk fv)) (hz : zv = fv z0) (hv : (g.get q).getD z0 = v) (ht : (g.get q).isSome = t) (k : HO S b r ((d, .tuple [fv v, .bool t]) :: e) h Q) : HO S b (⟨some d, .op (.lookup kd zv true x y), none⟩ :: r) e h Q :=
  a_lookok hk hx hy hm hz (by rw [hv, ht]; exact k)
end
theorem r83 {h : Heap} {R : Lay} {K B : Nat} {b : PB} (ok : b.ok B) (hB : B ≤ 1000000000) {x : It} {p : HV} (hf : x.frm < K) (hK : K ≤ 1000) (hq : x.seq ≤ 1000000000) (hs : Sep h (b.lay K ++ R)) {Q : HV → Heap → Prop}
    (kk : ∀ (h' : Heap) (b' : PB), b'.bid = b.bid → b'.xid = b.xid → b'.eid = b.eid → b'.ok (B + 1) → b'.abs = takeF b.abs x → Sep h' (b'.lay K ++ R) → Q (.tuple []) h') : HCalls Try.prog 83 [.ptr b.bid 0, .agg (itC x p)] h Q := by
  refine sc_func2 (rs := []) Try.func83 rfl (by decide) (by kernel_rfl) (lb rfl) hk83 ?_
  show SC Try.prog Try.f83.ntmps _ hc83 _ [(0, .ptr b.bid 0), (1, .agg (itC x p))] h
  unfold hc83
  refine q_reg (a_box rfl rfl rfl ?_)
  repeat (first | refine a_op (fun _ => rfl) ?_ | refine a_load rfl (by assumption) rfl ?_ | refine a_load_at rfl (by assumption) (by assumption) ?_ | refine a_iaddr_at rfl rfl (by assumption) ?_ | refine a_iaddr_l rfl rfl (by assumption) rfl ?_ | refine st_load_r rfl rfl ?_ | refine a_cmp rfl rfl rfl ?_ | refine a_eqi rfl rfl ?_ | refine st_not rfl ?_ | refine st_pick_t rfl rfl rfl ?_ | refine st_pick_f rfl rfl rfl ?_ | refine st_g rfl ?_ | refine a_gtf rfl ?_ | refine a_gft rfl ?_ | refine a_gu rfl ?_ | refine a_mklist (ec rfl en) (mz mkn) ?_ | refine a_mid ?_)
  first | refine a_endq (by repeat (first | exact pr_nil | (apply pr_cons; rfl))) ?_ | refine a_end (by repeat (first | exact pr_nil | (apply pr_cons; rfl))) ?_
  have s1 := hs.new (.cells (itC x p))
  change SC _ _ _ _ _ [(0, HV.ptr b.bid 0), (3, .ptr h.length 0)] (h ++ [HObj.cells (itC x p)])
  generalize h.length = d at s1 ⊢
  generalize h ++ [HObj.cells (itC x p)] = h1 at s1 ⊢
  clear hs h
  have gd : h1[d]? = some (.cells (itC x p)) := s1.get (by simp)
  have gb : h1[b.bid]? = some (b.obj K) := s1.get (by simp [PB.lay])
  have gx : h1[b.xid]? = some (nxO K b.next) := s1.get (by simp [PB.lay])
  have ge : h1[b.eid]? = some (b.early.obj eKey ii) := s1.get (by simp [PB.lay])
  have hr : (List.range K)[x.frm]? = some x.frm := List.getElem?_range hf
  refine sc_seq (a_dreg0 Try.mixed ?_)
  repeat (first | refine a_op (fun _ => rfl) ?_ | refine a_load rfl (by assumption) rfl ?_ | refine a_load_at rfl (by assumption) (by assumption) ?_ | refine a_iaddr_at rfl rfl (by assumption) ?_ | refine a_iaddr_l rfl rfl (by assumption) rfl ?_ | refine st_load_r rfl rfl ?_ | refine a_cmp rfl rfl rfl ?_ | refine a_eqi rfl rfl ?_ | refine st_not rfl ?_ | refine st_pick_t rfl rfl rfl ?_ | refine st_pick_f rfl rfl rfl ?_ | refine st_g rfl ?_ | refine a_gtf rfl ?_ | refine a_gft rfl ?_ | refine a_gu rfl ?_ | refine a_mklist (ec rfl en) (mz mkn) ?_ | refine a_mid ?_)
  first | refine a_endq (by repeat (first | exact pr_nil | (apply pr_cons; rfl))) ?_ | refine a_end (by repeat (first | exact pr_nil | (apply pr_cons; rfl))) ?_
  refine sc_cond rfl (fun hc => ?_) (fun hc => ?_)
  · refine sc_ret (sq_r (x_ret _ rfl (kk h1 b rfl rfl rfl ⟨ok.got, ok.wf, by have := ok.len; omega, ok.keys⟩ ?_ (s1.sub (List.sublist_cons_self _ _)))))
    have hc : x.seq < b.next x.frm := by have := of_decide_eq_true hc; omega
    unfold takeF
    rw [if_pos (show x.seq < b.abs.next x.frm from hc)]
  · have hc : ¬ x.seq < b.next x.frm := by have := of_decide_eq_false hc; omega
    unfold takeF at kk
    rw [if_neg (show ¬ x.seq < b.abs.next x.frm from hc)] at kk
    refine sc_skip (sq_n (a_dreg0 Try.mixed ?_))
    repeat (first | refine a_op (fun _ => rfl) ?_ | refine a_load rfl (by assumption) rfl ?_ | refine a_load_at rfl (by assumption) (by assumption) ?_ | refine a_iaddr_at rfl rfl (by assumption) ?_ | refine a_iaddr_l rfl rfl (by assumption) rfl ?_ | refine st_load_r rfl rfl ?_ | refine a_cmp rfl rfl rfl ?_ | refine a_eqi rfl rfl ?_ | refine st_not rfl ?_ | refine st_pick_t rfl rfl rfl ?_ | refine st_pick_f rfl rfl rfl ?_ | refine st_g rfl ?_ | refine a_gtf rfl ?_ | refine a_gft rfl ?_ | refine a_gu rfl ?_ | refine a_mklist (ec rfl en) (mz mkn) ?_ | refine a_mid ?_)
    refine a_mapset (fk := eKey) (fv := ii) (q := ((x.frm : Int), (x.seq : Int))) (g := b.early) (v := x.n) enck_key rfl rfl rfl rfl ge ?_
    repeat (first | refine a_op (fun _ => rfl) ?_ | refine a_load rfl (by assumption) rfl ?_ | refine a_load_at rfl (by assumption) (by assumption) ?_ | refine a_iaddr_at rfl rfl (by assumption) ?_ | refine a_iaddr_l rfl rfl (by assumption) rfl ?_ | refine st_load_r rfl rfl ?_ | refine a_cmp rfl rfl rfl ?_ | refine a_eqi rfl rfl ?_ | refine st_not rfl ?_ | refine st_pick_t rfl rfl rfl ?_ | refine st_pick_f rfl rfl rfl ?_ | refine st_g rfl ?_ | refine a_gtf rfl ?_ | refine a_gft rfl ?_ | refine a_gu rfl ?_ | refine a_mklist (ec rfl en) (mz mkn) ?_ | refine a_mid ?_)
    first | refine a_endq (by repeat (first | exact pr_nil | (apply pr_cons; rfl))) ?_ | refine a_end (by repeat (first | exact pr_nil | (apply pr_cons; rfl))) ?_
    have s2 : Sep (h1.set b.eid ((b.early.put ((x.frm : Int), (x.seq : Int)) x.n).obj eKey ii)) ((d, .cells (itC x p)) :: (({ b with early := b.early.put ((x.frm : Int), (x.seq : Int)) x.n } : PB).lay K ++ R)) := by
      refine s1.upd (M := (d, .cells (itC x p)) :: ([(b.bid, b.obj K), (b.xid, nxO K b.next)] ++ b.got.lay ++ R)) (i := b.eid) (o := b.early.obj eKey ii) (perm_c fun c e ca cc c0 cp => ?_) (perm_c fun c e ca cc c0 cp => ?_)
      · simp only [PB.lay, PB.obj, ca, cc, c0]; omega
      · simp only [PB.lay, PB.obj, ca, cc, c0]; omega
    change SC _ _ _ _ _ [(0, HV.ptr b.bid 0), (3, .ptr d 0)] (h1.set b.eid ((b.early.put ((x.frm : Int), (x.seq : Int)) x.n).obj eKey ii))
    generalize h1.set b.eid _ = h2 at s2 ⊢
    clear s1 gd gb gx ge h1
    have ok2 : ({ b with early := b.early.put ((x.frm : Int), (x.seq : Int)) x.n } : PB).ok (B + 1) := by
      refine ⟨ok.got, GM.put_wf ok.wf _ _, ?_, fun q hq => ?_⟩
      · have := put_len b.early ((x.frm : Int), (x.seq : Int)) x.n
        have := ok.len
        show b.got.l.length + (b.early.put ((x.frm : Int), (x.seq : Int)) x.n).es.length ≤ B + 1
        omega
      · rcases put_key hq with hq | hq
        · exact ok.keys q hq
        · rw [hq]; show (x.seq : Int) ≤ _; omega
    have hF : runB (b.early.put ((x.frm : Int), (x.seq : Int)) x.n).es.length (({ b with early := b.early.put ((x.frm : Int), (x.seq : Int)) x.n } : PB).abs) x.frm = runB (b.abs.early.put ((x.frm : Int), (x.seq : Int)) x.n).es.length ⟨b.abs.got, b.abs.next, b.abs.early.put ((x.frm : Int), (x.seq : Int)) x.n⟩ x.frm := rfl
    rw [← hF] at kk
    clear hF
    refine sc_block (sc_loop (X := { y : RW GMove_Got × (Nat → Nat) × GM Key Int × Heap // (⟨b.bid, b.xid, b.eid, y.1, y.2.1, y.2.2.1⟩ : PB).ok (B + 1) ∧ runB y.2.2.1.es.length ⟨y.1.l, y.2.1, y.2.2.1⟩ x.frm = runB (b.early.put ((x.frm : Int), (x.seq : Int)) x.n).es.length ({ b with early := b.early.put ((x.frm : Int), (x.seq : Int)) x.n } : PB).abs x.frm ∧
        Sep y.2.2.2 ((d, .cells (itC x p)) :: ((⟨b.bid, b.xid, b.eid, y.1, y.2.1, y.2.2.1⟩ : PB).lay K ++ R)) })
      (fun y => ([(0, .ptr b.bid 0), (3, .ptr d 0)], y.1.2.2.2)) (fun y => y.1.2.2.1.es.length) ⟨(b.got, b.next, b.early.put ((x.frm : Int), (x.seq : Int)) x.n, h2), ok2, rfl, s2⟩ (WeakF.refl _ _) ?_)
    clear ok2 s2
    rintro ⟨⟨g3, n3, e3, h3⟩, ok3, hrun, s3⟩
    simp only at ok3 hrun s3
    generalize runB (b.early.put ((x.frm : Int), (x.seq : Int)) x.n).es.length _ x.frm = FIN at kk hrun
    obtain ⟨b3, hb3⟩ : ∃ b3 : PB, b3 = ⟨b.bid, b.xid, b.eid, g3, n3, e3⟩ := ⟨_, rfl⟩
    have i1 : b.bid = b3.bid := by rw [hb3]
    have i2 : b.xid = b3.xid := by rw [hb3]
    have i3 : b.eid = b3.eid := by rw [hb3]
    have i4 : g3 = b3.got := by rw [hb3]
    have i5 : n3 = b3.next := by rw [hb3]
    have i6 : e3 = b3.early := by rw [hb3]
    rw [← hb3] at ok3 s3
    have hrun : runB b3.early.es.length b3.abs x.frm = FIN := by rw [hb3]; exact hrun
    have kk : ∀ (h' : Heap) (b' : PB), b'.bid = b3.bid → b'.xid = b3.xid → b'.eid = b3.eid → b'.ok (B + 1) → b'.abs = FIN → Sep h' (b'.lay K ++ R) → Q (.tuple []) h' := by rw [hb3]; exact kk
    refine sc_block (a_dreg Try.mixed ?_)
    have s4 := s3.new .res
    change HO _ h3.length _ _ (h3 ++ [.res]) _
    generalize h3.length = v at s4 ⊢
    generalize h3 ++ [HObj.res] = h4 at s4 ⊢
    have gd : h4[d]? = some (.cells (itC x p)) := s4.get (by simp)
    have gb : h4[b.bid]? = some (b3.obj K) := s4.get (by simp [PB.lay, i1])
    have gx : h4[b3.xid]? = some (nxO K b3.next) := s4.get (by simp [PB.lay])
    have gv : h4[v]? = some .res := s4.get (by simp)
    repeat (first | refine a_op (fun _ => rfl) ?_ | refine a_load rfl (by assumption) rfl ?_ | refine a_load_at rfl (by assumption) (by assumption) ?_ | refine a_iaddr_at rfl rfl (by assumption) ?_ | refine a_iaddr_l rfl rfl (by assumption) rfl ?_ | refine st_load_r rfl rfl ?_ | refine a_cmp rfl rfl rfl ?_ | refine a_eqi rfl rfl ?_ | refine st_not rfl ?_ | refine st_pick_t rfl rfl rfl ?_ | refine st_pick_f rfl rfl rfl ?_ | refine st_g rfl ?_ | refine a_gtf rfl ?_ | refine a_gft rfl ?_ | refine a_gu rfl ?_ | refine a_mklist (ec rfl en) (mz mkn) ?_ | refine a_mid ?_)
    refine a_allocr (id := v) rfl gv ?_
    refine a_store rfl rfl (List.getElem?_set_self (lt_of_get gv)) ⟨rfl, lb rfl, rfl⟩ ?_
    repeat (first | refine a_op (fun _ => rfl) ?_ | refine a_load rfl (by assumption) rfl ?_ | refine a_load_at rfl (by assumption) (by assumption) ?_ | refine a_iaddr_at rfl rfl (by assumption) ?_ | refine a_iaddr_l rfl rfl (by assumption) rfl ?_ | refine st_load_r rfl rfl ?_ | refine a_cmp rfl rfl rfl ?_ | refine a_eqi rfl rfl ?_ | refine st_not rfl ?_ | refine st_pick_t rfl rfl rfl ?_ | refine st_pick_f rfl rfl rfl ?_ | refine st_g rfl ?_ | refine a_gtf rfl ?_ | refine a_gft rfl ?_ | refine a_gu rfl ?_ | refine a_mklist (ec rfl en) (mz mkn) ?_ | refine a_mid ?_)
    first | refine a_endq (by repeat (first | exact pr_nil | (apply pr_cons; rfl))) ?_ | refine a_end (by repeat (first | exact pr_nil | (apply pr_cons; rfl))) ?_
    have s5 := Sep.set (A := []) (Sep.set (A := []) s4 (.cells [ii 0, ii 0])) (.cells [ii x.frm, ii (b3.next x.frm)])
    change SC _ _ _ _ _ [(0, HV.ptr b.bid 0), (3, .ptr d 0), (4, .ptr v 0)] ((h4.set v (HObj.cells [ii 0, ii 0])).set v (.cells [ii x.frm, ii (b3.next x.frm)]))
    generalize (h4.set v (HObj.cells [ii 0, ii 0])).set v (.cells [ii x.frm, ii (b3.next x.frm)]) = h5 at s5 ⊢
    simp only [List.nil_append] at s5
    clear s4 gd gb gx gv h4
    have gd : h5[d]? = some (.cells (itC x p)) := s5.get (by simp)
    have gb : h5[b.bid]? = some (b3.obj K) := s5.get (by simp [PB.lay, i1])
    have gx : h5[b3.xid]? = some (nxO K b3.next) := s5.get (by simp [PB.lay])
    have ge : h5[b3.eid]? = some (b3.early.obj eKey ii) := s5.get (by simp [PB.lay])
    have gv : h5[v]? = some (.cells [ii x.frm, ii (b3.next x.frm)]) := s5.get (by simp)
    refine a_dreg0 Try.mixed ?_
    repeat (first | refine a_op (fun _ => rfl) ?_ | refine a_load rfl (by assumption) rfl ?_ | refine a_load_at rfl (by assumption) (by assumption) ?_ | refine a_iaddr_at rfl rfl (by assumption) ?_ | refine a_iaddr_l rfl rfl (by assumption) rfl ?_ | refine st_load_r rfl rfl ?_ | refine a_cmp rfl rfl rfl ?_ | refine a_eqi rfl rfl ?_ | refine st_not rfl ?_ | refine st_pick_t rfl rfl rfl ?_ | refine st_pick_f rfl rfl rfl ?_ | refine st_g rfl ?_ | refine a_gtf rfl ?_ | refine a_gft rfl ?_ | refine a_gu rfl ?_ | refine a_mklist (ec rfl en) (mz mkn) ?_ | refine a_mid ?_)
    cases hg : b3.early.get ((x.frm : Int), (b3.next x.frm : Int)) with
    | none =>
      refine a_lookokE (fk := eKey) (fv := ii) (q := ((x.frm : Int), (b3.next x.frm : Int))) (g := b3.early) (z0 := 0) (v := 0) (t := false) enck_key rfl rfl ge rfl (by rw [hg]; rfl) (by rw [hg]; rfl) ?_
      repeat (first | refine a_op (fun _ => rfl) ?_ | refine a_load rfl (by assumption) rfl ?_ | refine a_load_at rfl (by assumption) (by assumption) ?_ | refine a_iaddr_at rfl rfl (by assumption) ?_ | refine a_iaddr_l rfl rfl (by assumption) rfl ?_ | refine st_load_r rfl rfl ?_ | refine a_cmp rfl rfl rfl ?_ | refine a_eqi rfl rfl ?_ | refine st_not rfl ?_ | refine st_pick_t rfl rfl rfl ?_ | refine st_pick_f rfl rfl rfl ?_ | refine st_g rfl ?_ | refine a_gtf rfl ?_ | refine a_gft rfl ?_ | refine a_gu rfl ?_ | refine a_mklist (ec rfl en) (mz mkn) ?_ | refine a_mid ?_)
      first | refine a_endq (by repeat (first | exact pr_nil | (apply pr_cons; rfl))) ?_ | refine a_end (by repeat (first | exact pr_nil | (apply pr_cons; rfl))) ?_
      refine sc_seq (q_reg ?_)
      repeat (first | refine a_op (fun _ => rfl) ?_ | refine a_load rfl (by assumption) rfl ?_ | refine a_load_at rfl (by assumption) (by assumption) ?_ | refine a_iaddr_at rfl rfl (by assumption) ?_ | refine a_iaddr_l rfl rfl (by assumption) rfl ?_ | refine st_load_r rfl rfl ?_ | refine a_cmp rfl rfl rfl ?_ | refine a_eqi rfl rfl ?_ | refine st_not rfl ?_ | refine st_pick_t rfl rfl rfl ?_ | refine st_pick_f rfl rfl rfl ?_ | refine st_g rfl ?_ | refine a_gtf rfl ?_ | refine a_gft rfl ?_ | refine a_gu rfl ?_ | refine a_mklist (ec rfl en) (mz mkn) ?_ | refine a_mid ?_)
      first | refine a_endq (by repeat (first | exact pr_nil | (apply pr_cons; rfl))) ?_ | refine a_end (by repeat (first | exact pr_nil | (apply pr_cons; rfl))) ?_
      refine s_cond_t rfl (sc_ret (sq_r (bl_r (lo_r (bl_r (x_ret _ rfl (kk h5 b3 rfl rfl rfl ok3 ?_ ?_)))))))
      · rw [← hrun]
        cases hlen : b3.early.es.length with
        | zero => rfl
        | succ k =>
          unfold runB
          rw [show b3.abs.early.get ((x.frm : Int), (b3.abs.next x.frm : Int)) = none from hg]
      · exact s5.sub ((List.sublist_cons_self _ _).trans (List.sublist_cons_self _ _))
    | some n =>
      refine a_lookokE (fk := eKey) (fv := ii) (q := ((x.frm : Int), (b3.next x.frm : Int))) (g := b3.early) (z0 := 0) (v := n) (t := true) enck_key rfl rfl ge rfl (by rw [hg]; rfl) (by rw [hg]; rfl) ?_
      repeat (first | refine a_op (fun _ => rfl) ?_ | refine a_load rfl (by assumption) rfl ?_ | refine a_load_at rfl (by assumption) (by assumption) ?_ | refine a_iaddr_at rfl rfl (by assumption) ?_ | refine a_iaddr_l rfl rfl (by assumption) rfl ?_ | refine st_load_r rfl rfl ?_ | refine a_cmp rfl rfl rfl ?_ | refine a_eqi rfl rfl ?_ | refine st_not rfl ?_ | refine st_pick_t rfl rfl rfl ?_ | refine st_pick_f rfl rfl rfl ?_ | refine st_g rfl ?_ | refine a_gtf rfl ?_ | refine a_gft rfl ?_ | refine a_gu rfl ?_ | refine a_mklist (ec rfl en) (mz mkn) ?_ | refine a_mid ?_)
      first | refine a_endq (by repeat (first | exact pr_nil | (apply pr_cons; rfl))) ?_ | refine a_end (by repeat (first | exact pr_nil | (apply pr_cons; rfl))) ?_
      refine sc_seq (q_reg ?_)
      repeat (first | refine a_op (fun _ => rfl) ?_ | refine a_load rfl (by assumption) rfl ?_ | refine a_load_at rfl (by assumption) (by assumption) ?_ | refine a_iaddr_at rfl rfl (by assumption) ?_ | refine a_iaddr_l rfl rfl (by assumption) rfl ?_ | refine st_load_r rfl rfl ?_ | refine a_cmp rfl rfl rfl ?_ | refine a_eqi rfl rfl ?_ | refine st_not rfl ?_ | refine st_pick_t rfl rfl rfl ?_ | refine st_pick_f rfl rfl rfl ?_ | refine st_g rfl ?_ | refine a_gtf rfl ?_ | refine a_gft rfl ?_ | refine a_gu rfl ?_ | refine a_mklist (ec rfl en) (mz mkn) ?_ | refine a_mid ?_)
      first | refine a_endq (by repeat (first | exact pr_nil | (apply pr_cons; rfl))) ?_ | refine a_end (by repeat (first | exact pr_nil | (apply pr_cons; rfl))) ?_
      refine s_cond_f rfl (sc_skip (sq_n (a_dreg0 Try.mixed ?_)))
      repeat (first | refine a_op (fun _ => rfl) ?_ | refine a_load rfl (by assumption) rfl ?_ | refine a_load_at rfl (by assumption) (by assumption) ?_ | refine a_iaddr_at rfl rfl (by assumption) ?_ | refine a_iaddr_l rfl rfl (by assumption) rfl ?_ | refine st_load_r rfl rfl ?_ | refine a_cmp rfl rfl rfl ?_ | refine a_eqi rfl rfl ?_ | refine st_not rfl ?_ | refine st_pick_t rfl rfl rfl ?_ | refine st_pick_f rfl rfl rfl ?_ | refine st_g rfl ?_ | refine a_gtf rfl ?_ | refine a_gft rfl ?_ | refine a_gu rfl ?_ | refine a_mklist (ec rfl en) (mz mkn) ?_ | refine a_mid ?_)
      refine a_mapdel (fk := eKey) (fv := ii) (q := ((x.frm : Int), (b3.next x.frm : Int))) (g := b3.early) enck_key rfl rfl ge ?_
      repeat (first | refine a_op (fun _ => rfl) ?_ | refine a_load rfl (by assumption) rfl ?_ | refine a_load_at rfl (by assumption) (by assumption) ?_ | refine a_iaddr_at rfl rfl (by assumption) ?_ | refine a_iaddr_l rfl rfl (by assumption) rfl ?_ | refine st_load_r rfl rfl ?_ | refine a_cmp rfl rfl rfl ?_ | refine a_eqi rfl rfl ?_ | refine st_not rfl ?_ | refine st_pick_t rfl rfl rfl ?_ | refine st_pick_f rfl rfl rfl ?_ | refine st_g rfl ?_ | refine a_gtf rfl ?_ | refine a_gft rfl ?_ | refine a_gu rfl ?_ | refine a_mklist (ec rfl en) (mz mkn) ?_ | refine a_mid ?_)
      first | refine a_endq (by repeat (first | exact pr_nil | (apply pr_cons; rfl))) ?_ | refine a_end (by repeat (first | exact pr_nil | (apply pr_cons; rfl))) ?_
      obtain ⟨nk, hnk⟩ := GM.get_mem hg
      have hkey := ok3.keys _ hnk
      have hlen3 := ok3.len
      have hdl : (b3.early.del ((x.frm : Int), (b3.next x.frm : Int))).es.length + 1 = b3.early.es.length := del_len (by rw [hg]; rfl)
      simp only at hkey
      have s6 : Sep (h5.set b3.eid ((b3.early.del ((x.frm : Int), (b3.next x.frm : Int))).obj eKey ii)) (([(b3.bid, b3.obj K), (b3.xid, nxO K b3.next), (b3.eid, (b3.early.del ((x.frm : Int), (b3.next x.frm : Int))).obj eKey ii)]) ++ (b3.got.lay ++ ((d, .cells (itC x p)) :: R))) := by
        refine s5.sub (List.sublist_cons_self _ _) |>.upd (M := (d, .cells (itC x p)) :: ([(b3.bid, b3.obj K), (b3.xid, nxO K b3.next)] ++ b3.got.lay ++ R)) (i := b3.eid) (o := b3.early.obj eKey ii) (perm_c fun c e ca cc c0 cp => ?_) (perm_c fun c e ca cc c0 cp => ?_)
        · simp only [PB.lay, PB.obj, ca, cc, c0]; omega
        · simp only [PB.lay, PB.obj, ca, cc, c0]; omega
      change SC _ _ _ _ _ [(0, HV.ptr b.bid 0), (3, .ptr d 0), (5, ii n)] (h5.set b3.eid ((b3.early.del ((x.frm : Int), (b3.next x.frm : Int))).obj eKey ii))
      generalize h5.set b3.eid _ = h6 at s6 ⊢
      clear s5 gd gb gx ge gv h5
      have gd : h6[d]? = some (.cells (itC x p)) := s6.get (by simp)
      have gb : h6[b.bid]? = some (b3.obj K) := s6.get (by simp [i1])
      refine a_dreg0 Try.mixed ?_
      repeat (first | refine a_op (fun _ => rfl) ?_ | refine a_load rfl (by assumption) rfl ?_ | refine a_load_at rfl (by assumption) (by assumption) ?_ | refine a_iaddr_at rfl rfl (by assumption) ?_ | refine a_iaddr_l rfl rfl (by assumption) rfl ?_ | refine st_load_r rfl rfl ?_ | refine a_cmp rfl rfl rfl ?_ | refine a_eqi rfl rfl ?_ | refine st_not rfl ?_ | refine st_pick_t rfl rfl rfl ?_ | refine st_pick_f rfl rfl rfl ?_ | refine st_g rfl ?_ | refine a_gtf rfl ?_ | refine a_gft rfl ?_ | refine a_gu rfl ?_ | refine a_mklist (ec rfl en) (mz mkn) ?_ | refine a_mid ?_)
      refine a_app (f := eGMove_Got) (rw_ := b3.got) (ys := [⟨x.frm, n⟩]) enc_GMove_Got.w rfl rfl ok3.got s6 (by simp; omega) (fun r' h7 hl7 hr7 s7 => ?_)
      have gb : h7[b.bid]? = some (b3.obj K) := s7.get (by simp [i1])
      repeat (first | refine a_op (fun _ => rfl) ?_ | refine a_load rfl (by assumption) rfl ?_ | refine a_load_at rfl (by assumption) (by assumption) ?_ | refine a_iaddr_at rfl rfl (by assumption) ?_ | refine a_iaddr_l rfl rfl (by assumption) rfl ?_ | refine st_load_r rfl rfl ?_ | refine a_cmp rfl rfl rfl ?_ | refine a_eqi rfl rfl ?_ | refine st_not rfl ?_ | refine st_pick_t rfl rfl rfl ?_ | refine st_pick_f rfl rfl rfl ?_ | refine st_g rfl ?_ | refine a_gtf rfl ?_ | refine a_gft rfl ?_ | refine a_gu rfl ?_ | refine a_mklist (ec rfl en) (mz mkn) ?_ | refine a_mid ?_)
      refine a_store rfl rfl gb ⟨rfl, lb rfl, rfl⟩ ?_
      repeat (first | refine a_op (fun _ => rfl) ?_ | refine a_load rfl (by assumption) rfl ?_ | refine a_load_at rfl (by assumption) (by assumption) ?_ | refine a_iaddr_at rfl rfl (by assumption) ?_ | refine a_iaddr_l rfl rfl (by assumption) rfl ?_ | refine st_load_r rfl rfl ?_ | refine a_cmp rfl rfl rfl ?_ | refine a_eqi rfl rfl ?_ | refine st_not rfl ?_ | refine st_pick_t rfl rfl rfl ?_ | refine st_pick_f rfl rfl rfl ?_ | refine st_g rfl ?_ | refine a_gtf rfl ?_ | refine a_gft rfl ?_ | refine a_gu rfl ?_ | refine a_mklist (ec rfl en) (mz mkn) ?_ | refine a_mid ?_)
      first | refine a_endq (by repeat (first | exact pr_nil | (apply pr_cons; rfl))) ?_ | refine a_end (by repeat (first | exact pr_nil | (apply pr_cons; rfl))) ?_
      have s8 : Sep (h7.set b.bid (.cells [r'.hv eGMove_Got, .arr b3.xid 0 K 1, .map b3.eid])) (([(b3.bid, .cells [r'.hv eGMove_Got, .arr b3.xid 0 K 1, .map b3.eid]), (b3.xid, nxO K b3.next), (b3.eid, (b3.early.del ((x.frm : Int), (b3.next x.frm : Int))).obj eKey ii)]) ++ (r'.lay ++ ((d, .cells (itC x p)) :: R))) := by
        rw [i1]; exact Sep.set (A := []) s7 _
      change SC _ _ _ _ _ [(0, HV.ptr b.bid 0), (3, .ptr d 0)] (h7.set b.bid (.cells [r'.hv eGMove_Got, .arr b3.xid 0 K 1, .map b3.eid]))
      generalize h7.set b.bid _ = h8 at s8 ⊢
      have gd : h8[d]? = some (.cells (itC x p)) := s8.get (by simp)
      have gb : h8[b.bid]? = some (.cells [r'.hv eGMove_Got, .arr b3.xid 0 K 1, .map b3.eid]) := s8.get (by simp [i1])
      have gx : h8[b3.xid]? = some (nxO K b3.next) := s8.get (by simp)
      refine a_dregl0 Try.mixed ?_
      repeat (first | refine a_op (fun _ => rfl) ?_ | refine a_load rfl (by assumption) rfl ?_ | refine a_load_at rfl (by assumption) (by assumption) ?_ | refine a_iaddr_at rfl rfl (by assumption) ?_ | refine a_iaddr_l rfl rfl (by assumption) rfl ?_ | refine st_load_r rfl rfl ?_ | refine a_cmp rfl rfl rfl ?_ | refine a_eqi rfl rfl ?_ | refine st_not rfl ?_ | refine st_pick_t rfl rfl rfl ?_ | refine st_pick_f rfl rfl rfl ?_ | refine st_g rfl ?_ | refine a_gtf rfl ?_ | refine a_gft rfl ?_ | refine a_gu rfl ?_ | refine a_mklist (ec rfl en) (mz mkn) ?_ | refine a_mid ?_)
      refine a_add rfl rfl (by omega) ?_
      repeat (first | refine a_op (fun _ => rfl) ?_ | refine a_load rfl (by assumption) rfl ?_ | refine a_load_at rfl (by assumption) (by assumption) ?_ | refine a_iaddr_at rfl rfl (by assumption) ?_ | refine a_iaddr_l rfl rfl (by assumption) rfl ?_ | refine st_load_r rfl rfl ?_ | refine a_cmp rfl rfl rfl ?_ | refine a_eqi rfl rfl ?_ | refine st_not rfl ?_ | refine st_pick_t rfl rfl rfl ?_ | refine st_pick_f rfl rfl rfl ?_ | refine st_g rfl ?_ | refine a_gtf rfl ?_ | refine a_gft rfl ?_ | refine a_gu rfl ?_ | refine a_mklist (ec rfl en) (mz mkn) ?_ | refine a_mid ?_)
      refine a_store_rg (F := fun i => ii (b3.next i)) rfl rfl gx rfl rfl hf ?_
      repeat (first | refine a_op (fun _ => rfl) ?_ | refine a_load rfl (by assumption) rfl ?_ | refine a_load_at rfl (by assumption) (by assumption) ?_ | refine a_iaddr_at rfl rfl (by assumption) ?_ | refine a_iaddr_l rfl rfl (by assumption) rfl ?_ | refine st_load_r rfl rfl ?_ | refine a_cmp rfl rfl rfl ?_ | refine a_eqi rfl rfl ?_ | refine st_not rfl ?_ | refine st_pick_t rfl rfl rfl ?_ | refine st_pick_f rfl rfl rfl ?_ | refine st_g rfl ?_ | refine a_gtf rfl ?_ | refine a_gft rfl ?_ | refine a_gu rfl ?_ | refine a_mklist (ec rfl en) (mz mkn) ?_ | refine a_mid ?_)
      first | refine a_endq (by repeat (first | exact pr_nil | (apply pr_cons; rfl))) ?_ | refine a_end (by repeat (first | exact pr_nil | (apply pr_cons; rfl))) ?_
      have e1 : (fupd (fun i => ii (b3.next i : Int)) x.frm (ii ((b3.next x.frm : Int) + 1))) = fun i => ii ((fupd b3.next x.frm (b3.next x.frm + 1)) i : Int) := by
        funext i
        unfold fupd
        split <;> rfl
      rw [e1]
      have s9 := Sep.set (A := [(b3.bid, .cells [r'.hv eGMove_Got, .arr b3.xid 0 K 1, .map b3.eid])]) (B := (b3.eid, (b3.early.del ((x.frm : Int), (b3.next x.frm : Int))).obj eKey ii) :: (r'.lay ++ ((d, .cells (itC x p)) :: R))) s8 (nxO K (fupd b3.next x.frm (b3.next x.frm + 1)))
      have okb : (⟨b3.bid, b3.xid, b3.eid, r', fupd b3.next x.frm (b3.next x.frm + 1), b3.early.del ((x.frm : Int), (b3.next x.frm : Int))⟩ : PB).ok (B + 1) := by
        refine ⟨hr7, GM.del_wf ok3.wf _, ?_, fun q hq => ok3.keys q (GM.del_mem ok3.wf hq).1⟩
        show r'.l.length + (b3.early.del _).es.length ≤ _
        rw [hl7, List.length_append, List.length_singleton]
        omega
      have runb : runB (b3.early.del ((x.frm : Int), (b3.next x.frm : Int))).es.length ⟨r'.l, fupd b3.next x.frm (b3.next x.frm + 1), b3.early.del ((x.frm : Int), (b3.next x.frm : Int))⟩ x.frm = FIN := by
        rw [← hrun, ← hdl]
        conv => rhs; unfold runB
        rw [show b3.abs.early.get ((x.frm : Int), (b3.abs.next x.frm : Int)) = some n from hg, hl7]
        rfl
      refine bl_n (lo_n ⟨(r', fupd b3.next x.frm (b3.next x.frm + 1), b3.early.del ((x.frm : Int), (b3.next x.frm : Int)), _), ?_, runb, ?_⟩ ?_ (WeakF.refl _ _))
      · rw [i1, i2, i3]; exact okb
      · rw [i1, i2, i3]
        refine (s9.perm (M := (d, .cells (itC x p)) :: _) (perm_c fun c e ca cc c0 cp => ?_))
        simp only [PB.lay, PB.obj, ca, cc, c0]; omega
      · show (b3.early.del _).es.length < e3.es.length
        rw [i6]; omega
end Go.Hw.VM

