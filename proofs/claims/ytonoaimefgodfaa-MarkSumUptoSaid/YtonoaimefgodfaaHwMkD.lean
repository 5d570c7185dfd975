import Derived.Test.YtonoaimefgodfaaHwMkC
set_option linter.unusedVariables false
set_option linter.unusedSimpArgs false
namespace Go.Hw
open Go

section
variable {A B : Type} [DecidableEq A]
theorem put_put (g : GM A B) (k : A) (v w : B) : (g.put k v).put k w = g.put k w := by
  unfold GM.put
  cases hi : g.idx k with
  | none =>
    have h1 : GM.idx ⟨g.es ++ [(g.c, k, v)], g.c + 1⟩ k = some g.es.length := by
      unfold GM.idx at hi ⊢
      rw [List.findIdx?_append, hi]
      simp
    simp only [h1]
    simp [List.set_append]
  | some j =>
    obtain ⟨p, hp, hk⟩ := GM.idx_lt hi
    simp only [hp]
    have hj := lt_of_get hp
    have h1 : GM.idx ⟨g.es.set j (p.1, k, v), g.c⟩ k = some j := by
      unfold GM.idx at hi ⊢
      rw [List.findIdx?_eq_some_iff_getElem] at hi ⊢
      obtain ⟨q1, q2, q3⟩ := hi
      refine ⟨by simpa using q1, by simp, fun i hi => ?_⟩
      have := q3 i hi
      rw [List.getElem_set_ne (by omega)]
      exact this
    simp only [h1]
    rw [List.getElem?_set_self hj]
    simp
def entset (g : GM A B) (n : Nat) (v : B) : Option (GM A B) := (g.es.findIdx? fun p => (p.1 : Int) == (n : Int)).bind fun j => (g.es[j]?).map fun p => ⟨g.es.set j (p.1, p.2.1, v), g.c⟩
theorem ent_at {g : GM A B} (hw : g.wf) (hs : g.stamps) {k : A} {v0 : B} : ∃ n : Nat, (match g.idx k with | some j => ∃ p, g.es[j]? = some p ∧ p.1 = n | none => n = g.c) ∧ ∀ v, entset (g.put k v0) n v = some (g.put k v) := by
  unfold GM.put
  cases hi : g.idx k with
  | none =>
    refine ⟨g.c, rfl, fun v => ?_⟩
    have h1 : (g.es ++ [(g.c, k, v0)]).findIdx? (fun p => (p.1 : Int) == (g.c : Int)) = some g.es.length := by
      rw [List.findIdx?_append]
      have : g.es.findIdx? (fun p => (p.1 : Int) == (g.c : Int)) = none := by
        rw [List.findIdx?_eq_none_iff]
        intro p hp
        have := hw.births p hp
        simp
        omega
      rw [this]
      simp
    simp only [entset, h1, Option.bind_some]
    simp [List.set_append]
  | some j =>
    obtain ⟨p, hp, hk⟩ := GM.idx_lt hi
    have hj := lt_of_get hp
    refine ⟨p.1, ⟨p, hp, rfl⟩, fun v => ?_⟩
    simp only [hp]
    have h1 : (g.es.set j (p.1, k, v0)).findIdx? (fun q => (q.1 : Int) == (p.1 : Int)) = some j := by
      rw [List.findIdx?_eq_some_iff_getElem]
      refine ⟨by simpa using hj, by simp, fun i hi => ?_⟩
      rw [List.getElem_set_ne (by omega)]
      have hne : (g.es[i]'(by omega)).1 ≠ p.1 := by
        intro hc
        have hs' : (g.es.map Prod.fst).Nodup := hs
        have := nodup_inj' hs' i j p.1 (by rw [List.getElem?_map, List.getElem?_eq_getElem (by omega)]; simp [hc]) (by rw [List.getElem?_map, hp]; rfl)
        omega
      simp
      omega
    simp only [entset, h1, Option.bind_some, List.getElem?_set_self hj, Option.map_some]
    simp
end
section
variable {P : Program} {N m : Nat} {S D : CallP} {b : Nat} {r : List Op} {e e' : Env} {h h' : Heap} {Q : Env → Heap → Prop} {QQ : Ex → Env → Heap → Prop} {d : Nat} {x y z : X}
theorem a_mapentry {A B : Type} [DecidableEq A] {fk : A → HV} {fv : B → HV} {kd : EqK} {g : GM A B} {id : Nat} {q : A} {z0 v0 : B} {zv : HV} (hk : EncK fk kd) (hw : g.wf) (hs : g.stamps) (hx : x.ev e = some (.map id)) (hy : y.ev e = some (fk q)) (hm : h[id]? = some (g.obj fk fv)) (hz : zv = fv z0) (hv0 : (g.get q).getD z0 = v0)
    (k : ∀ n : Nat, (∀ v, entset (g.put q v0) n v = some (g.put q v)) → HO S b r ((d, .tuple [fv v0, .int .i64 n]) :: e) (h.set id ((g.put q v0).obj fk fv)) Q) : HO S b (⟨some d, .op (.mapentry kd zv x y), none⟩ :: r) e h Q := by
  obtain ⟨n, hn, hent⟩ := ent_at hw hs (k := q) (v0 := v0)
  have kk := (k n hent).out
  refine ⟨?_⟩
  subst hz
  simp only [hops, hcall, hstep, hx, hy, mapAt_obj hm, mfind_enc hk]
  refine ⟨by rw [hk q q]; simp, ?_⟩
  have hg := g.get_idx q
  unfold GM.put at kk
  cases hi : g.idx q with
  | none =>
    have hi' := hi
    unfold GM.idx at hi'
    rw [hi']
    rw [hi] at kk hn hg
    rw [hg] at hv0
    simp only [Option.getD_none] at hv0
    subst hv0
    have hn : n = g.c := hn
    subst hn
    simp only [GM.obj, List.map_append, List.map_cons, List.map_nil] at kk ⊢
    exact kk
  | some j =>
    have hi' := hi
    unfold GM.idx at hi'
    rw [hi']
    obtain ⟨p, hp, hpq⟩ := GM.idx_lt hi
    rw [hi] at kk hn hg
    simp only [hp, Option.map_some] at hg
    obtain ⟨p', hp', rfl⟩ := hn
    rw [hp] at hp'
    injection hp' with hp'
    subst hp'
    rw [hg] at hv0
    simp only [Option.getD_some] at hv0
    subst hv0
    simp only [hp, GM.obj, List.map_set, List.getElem?_map, Option.map_some] at kk ⊢
    exact kk
theorem a_entryset {A B : Type} [DecidableEq A] {fk : A → HV} {fv : B → HV} {g g' : GM A B} {id n : Nat} {v : B} (hx : x.ev e = some (.map id)) (hy : y.ev e = some (.int .i64 n)) (hz : z.ev e = some (fv v)) (ht : isTuple (fv v) = false) (hm : h[id]? = some (g.obj fk fv)) (hg : entset g n v = some g') (k : HO S b r e (h.set id (g'.obj fk fv)) Q) : HO S b (⟨none, .op (.entryset x y z), none⟩ :: r) e h Q := by
  refine ⟨?_⟩
  simp only [hops, hcall, hstep, hx, hy, hz, mapAt_obj hm]
  refine ⟨ht, ?_⟩
  unfold entset at hg
  rw [Option.bind_eq_some_iff] at hg
  obtain ⟨j, hj, hg⟩ := hg
  rw [Option.map_eq_some_iff] at hg
  obtain ⟨p, hp, rfl⟩ := hg
  have : (g.es.map fun p => (p.1, fk p.2.1, fv p.2.2)).findIdx? (fun p => (p.1 : Int) == (n : Int)) = some j := by
    rw [List.findIdx?_map]
    exact hj
  simp only [this, List.getElem?_map, hp, Option.map_some]
  have kk := k.out
  simp only [GM.obj, List.map_set] at kk
  exact kk
theorem a_callv {f : FuncId} {xs : List X} {vs caps : List HV} (hf : x.ev e = some (.func f caps)) (hx : evs e xs = some vs) (k : HCalls P f (vs.map HV.strip1 ++ caps) h fun v h' => HO (HCalls P) b r ((d, v) :: e) h' Q) : HO (HCalls P) b (⟨some d, .callv x xs, none⟩ :: r) e h Q := by
  refine ⟨?_⟩
  simp only [hops, hcall, hf, hx]
  exact k.mono fun v h' hk => hk.out
end
end Go.Hw
namespace Go.Hw.VK
open Go Go.Proofs
theorem nat_eq {a b : Nat} (h : ((a : Int) == (b : Int)) = true) : a = b := by
  have : (a : Int) = b := by simpa using h
  omega
theorem nat_ne {a b : Nat} (h : ((a : Int) == (b : Int)) = false) : a ≠ b := by
  rintro rfl
  simp at h
theorem r74 {h : Heap} {a n bx p c : Nat} {x y : HV} (ha : a < n) (gb : h[bx]? = some (.cells [.ptr p 0])) (gp : h[p]? = some (.cells [.arr c 0 n 1, x, y])) {Q : HV → Heap → Prop} (k : Q (.bool true) h) : HCalls Try.prog 74 [ii (a : Int), .ptr bx 0] h Q := by
  refine sc_func2 (rs := [.t 3]) Try.func74 rfl (by decide) (by kernel_rfl) (lb rfl) hk74 ?_
  show SC Try.prog Try.f74.ntmps _ hc74 _ [(0, ii (a : Int)), (1, .ptr bx 0)] h
  unfold hc74
  refine q_reg ?_
  repeat (first | refine a_op (fun _ => rfl) ?_ | refine a_load rfl (by assumption) rfl ?_ | refine a_load_at rfl (by assumption) (by assumption) ?_ | refine a_iaddr_at rfl rfl (by assumption) ?_ | refine a_iaddr_l rfl rfl (by assumption) rfl ?_ | refine st_load_r rfl rfl ?_ | refine a_cmp rfl rfl rfl ?_ | refine a_eqi rfl rfl ?_ | refine st_not rfl ?_ | refine st_pick_t rfl rfl rfl ?_ | refine st_pick_f rfl rfl rfl ?_ | refine st_g rfl ?_ | refine a_gtf rfl ?_ | refine a_gft rfl ?_ | refine a_gu rfl ?_ | refine a_mklist (ec rfl en) (mz mkn) ?_ | refine a_mid ?_)
  first | refine a_endq (by repeat (first | exact pr_nil | (apply pr_cons; rfl))) ?_ | refine a_end (by repeat (first | exact pr_nil | (apply pr_cons; rfl))) ?_
  refine q_reg (st_mv rfl (st_geq rfl rfl (fun _ => ?_) (fun hc => absurd hc (by omega))))
  repeat (first | refine a_op (fun _ => rfl) ?_ | refine a_load rfl (by assumption) rfl ?_ | refine a_load_at rfl (by assumption) (by assumption) ?_ | refine a_iaddr_at rfl rfl (by assumption) ?_ | refine a_iaddr_l rfl rfl (by assumption) rfl ?_ | refine st_load_r rfl rfl ?_ | refine a_cmp rfl rfl rfl ?_ | refine a_eqi rfl rfl ?_ | refine st_not rfl ?_ | refine st_pick_t rfl rfl rfl ?_ | refine st_pick_f rfl rfl rfl ?_ | refine st_g rfl ?_ | refine a_gtf rfl ?_ | refine a_gft rfl ?_ | refine a_gu rfl ?_ | refine a_mklist (ec rfl en) (mz mkn) ?_ | refine a_mid ?_)
  first | refine a_endq (by repeat (first | exact pr_nil | (apply pr_cons; rfl))) ?_ | refine a_end (by repeat (first | exact pr_nil | (apply pr_cons; rfl))) ?_
  refine sc_ret (x_ret _ rfl ?_)
  show Q (.bool (decide ((a : Int) < (n : Int)))) h
  rw [show decide ((a : Int) < (n : Int)) = true from decide_eq_true (by omega)]
  exact k
def hc60t : C := (.seq (.reg [oo 36 (.faddr 0 1 3), oo 37 (.load none 36)] [2, 3, 5, 37]) (.block 0 (.seq (.reg [oo 39 (.eqv false .int 37 (.c (.int .i64 1))), mo 38 39] [2, 3, 5, 37, 38]) (.cond 38 (.seq (.dreg [oo 40 (.faddr 3 1 3), oo 41 (.load none 40), oo 42 (.bin .geq 41 (.c (.int .i64 1))), mo 43 42, og 44 (.faddr 3 1 3) 43 true, og 45 (.load none 44) 43 true, og 46 (.load none 2) 43 true, og 47 (.nilck 46) 43 true, og 48 (.faddr 0 1 47) 43 true, og 49 (.load none 48) 43 true, og 50 (.faddr 1 1 3) 43 true, og 51 (.load none 50) 43 true, og 52 (.iaddr 1 49 51) 43 true, og 53 (.load none 52) 43 true, og 54 (.bin .leq 45 53) 43 true, oo 55 (.pick 43 54 (.c (.bool false))), mo 56 55, og 57 (.load none 2) 56 true, og 58 (.nilck 57) 56 true, og 59 (.faddr 1 1 58) 56 true, og 60 (.load none 59) 56 true, og 61 (.load (some 2) 5) 56 true, og 62 (.lookup (.agg [.i, .i]) (.list [] .full) false 60 61) 56 true, og 63 (.len false 62) 56 true, og 64 (.bin .lss 63 (.c (.int .i64 200))) 56 true, oo 65 (.pick 56 64 (.c (.bool false)))] [] 0 [2, 3, 5, 65]) (.cond 65 (.seq (.dreg [oo 66 (.load none 2), oo 67 (.nilck 66), oo 68 (.faddr 0 1 67), oo 69 (.load none 68), oo 70 (.faddr 1 1 3), oo 71 (.load none 70), oo 72 (.iaddr 1 69 71), oo 73 (.load none 72), oo 74 (.faddr 3 1 3), oo 75 (.load none 74), oo 76 (.bin .sub 73 75), oo 77 (.iaddr 1 69 71), os (.store 1 77 76)] [] 0 [2, 3, 5]) (.dreg [oo 78 (.load none 2), oo 79 (.nilck 78), oo 80 (.faddr 1 1 79), oo 81 (.load none 80), oo 82 (.load (some 2) 5), oo 84 (.faddr 3 1 3), oo 85 (.load none 84), oo 86 (.build [(.int .i64 0), (.bool false)] [(0, 1, 85)]), oo 87 (.mklist 2 [86]), oo 88 (.mapentry (.agg [.i, .i]) (.list [] .full) 81 82), oo 83 (.extract 88 0), oo 89 (.append 2 16 83 87), oo 90 (.extract 88 1), os (.entryset 81 90 89)] [] 0 [])) .skip)) (.seq (.reg [oo 92 (.eqv false .int 37 (.c (.int .i64 2))), mo 91 92] [2, 3, 37, 91]) (.cond 91 (.reg [oo 93 (.load none 2), oo 94 (.load (some 4) 3), co 95 (.call 75 [93, 94])] []) (.seq (.reg [oo 97 (.eqv false .int 37 (.c (.int .i64 3))), mo 96 97] [2, 3, 96]) (.cond 96 (.seq (.dreg [oo 98 (.load none 2), oo 99 (.nilck 98), oo 100 (.faddr 2 1 99), oo 101 (.load none 100), oo 102 (.faddr 1 1 3), oo 103 (.load none 102), oo 104 (.iaddr 1 101 103), oo 105 (.load none 104), oo 106 (.load none 2), oo 107 (.nilck 106), oo 108 (.faddr 0 1 107), oo 109 (.load none 108), oo 110 (.faddr 1 1 3), oo 111 (.load none 110), oo 112 (.iaddr 1 109 111), oo 113 (.load none 112)] [co 114 (.call 49 [105, 113]), oo 115 (.eqv false .int 114 (.c (.int .i64 0)))] 0 [2, 3, 115]) (.cond 115 (.reg [oo 116 (.load none 2), oo 117 (.faddr 1 1 3), oo 118 (.load none 117), co 119 (.call 76 [116, 118])] []) .skip)) .skip))))))))
theorem r60h {h : Heap} {R : Lay} {T : PT} {a b : Nat} {kd nn : Int} (hk : kd = 1 ∨ kd = 2 ∨ kd = 3) (ha : a < T.coins.length) (hb : b < T.coins.length) (hs : Sep h (T.lay ++ R)) {Q : HV → Heap → Prop}
    (k0 : kd ≠ 3 → a = b → ∀ h', Sep h' (T.lay ++ R) → Q (.tuple []) h')
    (k1 : (kd = 3 ∨ a ≠ b) → ∀ (h' : Heap) (m bx w : Nat), Sep h' (T.lay ++ ([(w, .cells [ii (a : Int), ii (b : Int)]), (m, .cells [ii kd, ii (a : Int), ii (b : Int), ii nn]), (bx, .cells [.ptr T.p 0])] ++ R)) →
      SC Try.prog Try.f60.ntmps bx hc60t (RetS2 [] bx Q) [(2, .ptr bx 0), (3, .ptr m 0), (5, .ptr w 0)] h') : HCalls Try.prog 60 [.ptr T.p 0, .agg [ii kd, ii (a : Int), ii (b : Int), ii nn]] h Q := by
  refine sc_func2 (rs := []) Try.func60 rfl (by decide) (by kernel_rfl) (lb rfl) hk60 ?_
  show SC Try.prog Try.f60.ntmps _ hc60 _ [(0, .ptr T.p 0), (1, .agg [ii kd, ii (a : Int), ii (b : Int), ii nn])] h
  unfold hc60
  refine q_reg (a_box rfl rfl rfl (a_box rfl rfl rfl ?_))
  repeat (first | refine a_op (fun _ => rfl) ?_ | refine a_load rfl (by assumption) rfl ?_ | refine a_load_at rfl (by assumption) (by assumption) ?_ | refine a_iaddr_at rfl rfl (by assumption) ?_ | refine a_iaddr_l rfl rfl (by assumption) rfl ?_ | refine st_load_r rfl rfl ?_ | refine a_cmp rfl rfl rfl ?_ | refine a_eqi rfl rfl ?_ | refine st_not rfl ?_ | refine st_pick_t rfl rfl rfl ?_ | refine st_pick_f rfl rfl rfl ?_ | refine st_g rfl ?_ | refine a_gtf rfl ?_ | refine a_gft rfl ?_ | refine a_gu rfl ?_ | refine a_mklist (ec rfl en) (mz mkn) ?_ | refine a_mid ?_)
  first | refine a_endq (by repeat (first | exact pr_nil | (apply pr_cons; rfl))) ?_ | refine a_end (by repeat (first | exact pr_nil | (apply pr_cons; rfl))) ?_
  have s1 := (hs.new (.cells [.ptr T.p 0])).new (.cells [ii kd, ii (a : Int), ii (b : Int), ii nn])
  change SC _ _ _ _ _ [(2, HV.ptr h.length 0), (3, .ptr (h ++ [HObj.cells [.ptr T.p 0]]).length 0)] ((h ++ [HObj.cells [.ptr T.p 0]]) ++ [HObj.cells [ii kd, ii (a : Int), ii (b : Int), ii nn]])
  generalize (h ++ [HObj.cells [.ptr T.p 0]]) ++ [HObj.cells [ii kd, ii (a : Int), ii (b : Int), ii nn]] = h1 at s1 ⊢
  generalize (h ++ [HObj.cells [.ptr T.p 0]]).length = m at s1 ⊢
  generalize h.length = bx at s1 ⊢
  clear hs h
  have gm : h1[m]? = some (.cells [ii kd, ii (a : Int), ii (b : Int), ii nn]) := s1.get (by simp)
  have gb : h1[bx]? = some (.cells [.ptr T.p 0]) := s1.get (by simp)
  have gp : h1[T.p]? = some T.obj := s1.get (by simp [PT.lay])
  refine q_reg ?_
  repeat (first | refine a_op (fun _ => rfl) ?_ | refine a_load rfl (by assumption) rfl ?_ | refine a_load_at rfl (by assumption) (by assumption) ?_ | refine a_iaddr_at rfl rfl (by assumption) ?_ | refine a_iaddr_l rfl rfl (by assumption) rfl ?_ | refine st_load_r rfl rfl ?_ | refine a_cmp rfl rfl rfl ?_ | refine a_eqi rfl rfl ?_ | refine st_not rfl ?_ | refine st_pick_t rfl rfl rfl ?_ | refine st_pick_f rfl rfl rfl ?_ | refine st_g rfl ?_ | refine a_gtf rfl ?_ | refine a_gft rfl ?_ | refine a_gu rfl ?_ | refine a_mklist (ec rfl en) (mz mkn) ?_ | refine a_mid ?_)
  first | refine a_endq (by repeat (first | exact pr_nil | (apply pr_cons; rfl))) ?_ | refine a_end (by repeat (first | exact pr_nil | (apply pr_cons; rfl))) ?_
  have tail : (kd = 3 ∨ a ≠ b) → SC Try.prog Try.f60.ntmps bx (.seq (.reg [oo 31 (.faddr 1 1 3), oo 32 (.load none 31), oo 33 (.faddr 2 1 3), oo 34 (.load none 33), oo 35 (.build [(.int .i64 0), (.int .i64 0)] [(0, 1, 32), (1, 1, 34)]), oo 5 (.alloc none [(.int .i64 0), (.int .i64 0)]), os (.store 2 5 35)] [2, 3, 5]) hc60t) (RetS2 [] bx Q) [(2, .ptr bx 0), (3, .ptr m 0)] h1 := by
    intro hor
    refine q_reg ?_
    repeat (first | refine a_op (fun _ => rfl) ?_ | refine a_load rfl (by assumption) rfl ?_ | refine a_load_at rfl (by assumption) (by assumption) ?_ | refine a_iaddr_at rfl rfl (by assumption) ?_ | refine a_iaddr_l rfl rfl (by assumption) rfl ?_ | refine st_load_r rfl rfl ?_ | refine a_cmp rfl rfl rfl ?_ | refine a_eqi rfl rfl ?_ | refine st_not rfl ?_ | refine st_pick_t rfl rfl rfl ?_ | refine st_pick_f rfl rfl rfl ?_ | refine st_g rfl ?_ | refine a_gtf rfl ?_ | refine a_gft rfl ?_ | refine a_gu rfl ?_ | refine a_mklist (ec rfl en) (mz mkn) ?_ | refine a_mid ?_)
    refine a_alloc ?_
    refine a_store rfl rfl (List.getElem?_concat_length) ⟨rfl, lb rfl, rfl⟩ ?_
    repeat (first | refine a_op (fun _ => rfl) ?_ | refine a_load rfl (by assumption) rfl ?_ | refine a_load_at rfl (by assumption) (by assumption) ?_ | refine a_iaddr_at rfl rfl (by assumption) ?_ | refine a_iaddr_l rfl rfl (by assumption) rfl ?_ | refine st_load_r rfl rfl ?_ | refine a_cmp rfl rfl rfl ?_ | refine a_eqi rfl rfl ?_ | refine st_not rfl ?_ | refine st_pick_t rfl rfl rfl ?_ | refine st_pick_f rfl rfl rfl ?_ | refine st_g rfl ?_ | refine a_gtf rfl ?_ | refine a_gft rfl ?_ | refine a_gu rfl ?_ | refine a_mklist (ec rfl en) (mz mkn) ?_ | refine a_mid ?_)
    first | refine a_endq (by repeat (first | exact pr_nil | (apply pr_cons; rfl))) ?_ | refine a_end (by repeat (first | exact pr_nil | (apply pr_cons; rfl))) ?_
    have s2 := Sep.set (A := []) (s1.new (.cells [ii 0, ii 0])) (.cells [ii (a : Int), ii (b : Int)])
    exact k1 hor _ m bx h1.length (Sep.front (A := [(h1.length, .cells [ii (a : Int), ii (b : Int)]), (m, .cells [ii kd, ii (a : Int), ii (b : Int), ii nn]), (bx, .cells [.ptr T.p 0])]) (B := T.lay) (C := R) s2)
  have stop : kd ≠ 3 → a = b → Q (.tuple []) h1 := fun h1 h2 => k0 h1 h2 _ (s1.sub ((List.sublist_cons_self _ _).trans (List.sublist_cons_self _ _)))
  refine sc_seq (q_reg ?_)
  repeat (first | refine a_op (fun _ => rfl) ?_ | refine a_load rfl (by assumption) rfl ?_ | refine a_load_at rfl (by assumption) (by assumption) ?_ | refine a_iaddr_at rfl rfl (by assumption) ?_ | refine a_iaddr_l rfl rfl (by assumption) rfl ?_ | refine st_load_r rfl rfl ?_ | refine a_cmp rfl rfl rfl ?_ | refine a_eqi rfl rfl ?_ | refine st_not rfl ?_ | refine st_pick_t rfl rfl rfl ?_ | refine st_pick_f rfl rfl rfl ?_ | refine st_g rfl ?_ | refine a_gtf rfl ?_ | refine a_gft rfl ?_ | refine a_gu rfl ?_ | refine a_mklist (ec rfl en) (mz mkn) ?_ | refine a_mid ?_)
  refine a_callv rfl (ec rfl en) (r74 ha gb gp ?_)
  rcases hk with rfl | rfl | rfl
  · repeat (first | refine a_op (fun _ => rfl) ?_ | refine a_load rfl (by assumption) rfl ?_ | refine a_load_at rfl (by assumption) (by assumption) ?_ | refine a_iaddr_at rfl rfl (by assumption) ?_ | refine a_iaddr_l rfl rfl (by assumption) rfl ?_ | refine st_load_r rfl rfl ?_ | refine a_cmp rfl rfl rfl ?_ | refine a_eqi rfl rfl ?_ | refine st_not rfl ?_ | refine st_pick_t rfl rfl rfl ?_ | refine st_pick_f rfl rfl rfl ?_ | refine st_g rfl ?_ | refine a_gtf rfl ?_ | refine a_gft rfl ?_ | refine a_gu rfl ?_ | refine a_mklist (ec rfl en) (mz mkn) ?_ | refine a_mid ?_)
    refine a_callv rfl (ec rfl en) (r74 hb gb gp ?_)
    repeat (first | refine a_op (fun _ => rfl) ?_ | refine a_load rfl (by assumption) rfl ?_ | refine a_load_at rfl (by assumption) (by assumption) ?_ | refine a_iaddr_at rfl rfl (by assumption) ?_ | refine a_iaddr_l rfl rfl (by assumption) rfl ?_ | refine st_load_r rfl rfl ?_ | refine a_cmp rfl rfl rfl ?_ | refine a_eqi rfl rfl ?_ | refine st_not rfl ?_ | refine st_pick_t rfl rfl rfl ?_ | refine st_pick_f rfl rfl rfl ?_ | refine st_g rfl ?_ | refine a_gtf rfl ?_ | refine a_gft rfl ?_ | refine a_gu rfl ?_ | refine a_mklist (ec rfl en) (mz mkn) ?_ | refine a_mid ?_)
    first | refine a_endq (by repeat (first | exact pr_nil | (apply pr_cons; rfl))) ?_ | refine a_end (by repeat (first | exact pr_nil | (apply pr_cons; rfl))) ?_
    refine sc_cond (t := (a : Int) == (b : Int)) rfl (fun hc => ?_) (fun hc => ?_)
    · exact sc_ret (sq_r (x_ret _ rfl (stop (by decide) (nat_eq hc))))
    · exact sc_skip (sq_n (SC.weak ws (tail (.inr (nat_ne hc)))))
  · repeat (first | refine a_op (fun _ => rfl) ?_ | refine a_load rfl (by assumption) rfl ?_ | refine a_load_at rfl (by assumption) (by assumption) ?_ | refine a_iaddr_at rfl rfl (by assumption) ?_ | refine a_iaddr_l rfl rfl (by assumption) rfl ?_ | refine st_load_r rfl rfl ?_ | refine a_cmp rfl rfl rfl ?_ | refine a_eqi rfl rfl ?_ | refine st_not rfl ?_ | refine st_pick_t rfl rfl rfl ?_ | refine st_pick_f rfl rfl rfl ?_ | refine st_g rfl ?_ | refine a_gtf rfl ?_ | refine a_gft rfl ?_ | refine a_gu rfl ?_ | refine a_mklist (ec rfl en) (mz mkn) ?_ | refine a_mid ?_)
    refine a_callv rfl (ec rfl en) (r74 hb gb gp ?_)
    repeat (first | refine a_op (fun _ => rfl) ?_ | refine a_load rfl (by assumption) rfl ?_ | refine a_load_at rfl (by assumption) (by assumption) ?_ | refine a_iaddr_at rfl rfl (by assumption) ?_ | refine a_iaddr_l rfl rfl (by assumption) rfl ?_ | refine st_load_r rfl rfl ?_ | refine a_cmp rfl rfl rfl ?_ | refine a_eqi rfl rfl ?_ | refine st_not rfl ?_ | refine st_pick_t rfl rfl rfl ?_ | refine st_pick_f rfl rfl rfl ?_ | refine st_g rfl ?_ | refine a_gtf rfl ?_ | refine a_gft rfl ?_ | refine a_gu rfl ?_ | refine a_mklist (ec rfl en) (mz mkn) ?_ | refine a_mid ?_)
    first | refine a_endq (by repeat (first | exact pr_nil | (apply pr_cons; rfl))) ?_ | refine a_end (by repeat (first | exact pr_nil | (apply pr_cons; rfl))) ?_
    refine sc_cond (t := (a : Int) == (b : Int)) rfl (fun hc => ?_) (fun hc => ?_)
    · exact sc_ret (sq_r (x_ret _ rfl (stop (by decide) (nat_eq hc))))
    · exact sc_skip (sq_n (SC.weak ws (tail (.inr (nat_ne hc)))))
  · repeat (first | refine a_op (fun _ => rfl) ?_ | refine a_load rfl (by assumption) rfl ?_ | refine a_load_at rfl (by assumption) (by assumption) ?_ | refine a_iaddr_at rfl rfl (by assumption) ?_ | refine a_iaddr_l rfl rfl (by assumption) rfl ?_ | refine st_load_r rfl rfl ?_ | refine a_cmp rfl rfl rfl ?_ | refine a_eqi rfl rfl ?_ | refine st_not rfl ?_ | refine st_pick_t rfl rfl rfl ?_ | refine st_pick_f rfl rfl rfl ?_ | refine st_g rfl ?_ | refine a_gtf rfl ?_ | refine a_gft rfl ?_ | refine a_gu rfl ?_ | refine a_mklist (ec rfl en) (mz mkn) ?_ | refine a_mid ?_)
    first | refine a_endq (by repeat (first | exact pr_nil | (apply pr_cons; rfl))) ?_ | refine a_end (by repeat (first | exact pr_nil | (apply pr_cons; rfl))) ?_
    exact s_cond_f rfl (sc_skip (sq_n (SC.weak ws (tail (.inl rfl)))))
end Go.Hw.VK

