import Derived.Test.YtonoaimefgodfaaHwMoE
set_option linter.unusedVariables false
set_option linter.unusedSimpArgs false
namespace Go.Hw.VM
open Go Go.Proofs

def seqF (t : Nw) (a w : Nat) : Nw := { t with sq := fupd t.sq a (fupd (t.sq a) w (t.sq a w + 1)) }
def putF (t : Nw) (a w : Nat) (nn : Int) : Nw := letterF (seqF t a w) a ⟨1, w, a, t.sq a w, nn, 0, 0⟩
def moveF (t : Nw) (i w b : Nat) : Nw := { t with here := fupd t.here i (fupd (t.here i) w false), sn := fupd t.sn i (fupd (t.sn i) w b), st := fupd t.st i (fupd (t.st i) w (t.st i w + 1)), ways := wadd t.ways ((i : Int), (b : Int)) ⟨2, w, 0, 0, 0, b, t.st i w + 1⟩ }
def wayF (t : Nw) (a b : Nat) (r : List It) : Nw := { t with ways := t.ways.put ((a : Int), (b : Int)) r }
def nextF (t : Nw) (a b : Nat) : Nw := match (t.ways.get ((a : Int), (b : Int))).getD [] with
  | [] => t
  | x :: r => comeF (wayF t a b r) b x
theorem nextF_nil {t : Nw} {a b : Nat} (h : (t.ways.get ((a : Int), (b : Int))).getD [] = []) : nextF t a b = t := by
  unfold nextF; rw [h]
theorem nextF_cons {t : Nw} {a b : Nat} {x : It} {r : List It} (h : (t.ways.get ((a : Int), (b : Int))).getD [] = x :: r) : nextF t a b = comeF (wayF t a b r) b x := by
  unfold nextF; rw [h]
def goF (K : Nat) (t : Nw) (b w : Nat) : Nw := match (List.range K).find? fun i => decide (i ≠ b) && t.here i w with
  | none => t
  | some i => moveF t i w b
def doF (K : Nat) (t : Nw) (kd : Int) (a b w : Nat) (nn : Int) : Nw := if kd = 1 then putF t a w nn else if kd = 2 then goF K t b w else nextF t a b
theorem r68 {h : Heap} {a bx p c K : Nat} {y : HV} (h1 : 1 ≤ a) (ha : a < K) (gb : h[bx]? = some (.cells [.ptr p 0])) (gp : h[p]? = some (.cells [.arr c 0 K 4, y])) {Q : HV → Heap → Prop} (k : Q (.bool true) h) : HCalls Try.prog 68 [ii (a : Int), .ptr bx 0] h Q := by
  refine sc_func2 (rs := [.t 3]) Try.func68 rfl (by decide) (by kernel_rfl) (lb rfl) hk68 ?_
  show SC Try.prog Try.f68.ntmps _ hc68 _ [(0, ii (a : Int)), (1, .ptr bx 0)] h
  unfold hc68
  refine q_reg ?_
  repeat (first | refine a_op (fun _ => rfl) ?_ | refine a_load rfl (by assumption) rfl ?_ | refine a_load_at rfl (by assumption) (by assumption) ?_ | refine a_iaddr_at rfl rfl (by assumption) ?_ | refine a_iaddr_l rfl rfl (by assumption) rfl ?_ | refine st_load_r rfl rfl ?_ | refine a_cmp rfl rfl rfl ?_ | refine a_eqi rfl rfl ?_ | refine st_not rfl ?_ | refine st_pick_t rfl rfl rfl ?_ | refine st_pick_f rfl rfl rfl ?_ | refine st_g rfl ?_ | refine a_gtf rfl ?_ | refine a_gft rfl ?_ | refine a_gu rfl ?_ | refine a_mklist (ec rfl en) (mz mkn) ?_ | refine a_mid ?_)
  first | refine a_endq (by repeat (first | exact pr_nil | (apply pr_cons; rfl))) ?_ | refine a_end (by repeat (first | exact pr_nil | (apply pr_cons; rfl))) ?_
  refine q_reg (st_mv rfl (st_geq rfl rfl (fun _ => ?_) (fun hc => absurd hc (by omega))))
  repeat (first | refine a_op (fun _ => rfl) ?_ | refine a_load rfl (by assumption) rfl ?_ | refine a_load_at rfl (by assumption) (by assumption) ?_ | refine a_iaddr_at rfl rfl (by assumption) ?_ | refine a_iaddr_l rfl rfl (by assumption) rfl ?_ | refine st_load_r rfl rfl ?_ | refine a_cmp rfl rfl rfl ?_ | refine a_eqi rfl rfl ?_ | refine st_not rfl ?_ | refine st_pick_t rfl rfl rfl ?_ | refine st_pick_f rfl rfl rfl ?_ | refine st_g rfl ?_ | refine a_gtf rfl ?_ | refine a_gft rfl ?_ | refine a_gu rfl ?_ | refine a_mklist (ec rfl en) (mz mkn) ?_ | refine a_mid ?_)
  first | refine a_endq (by repeat (first | exact pr_nil | (apply pr_cons; rfl))) ?_ | refine a_end (by repeat (first | exact pr_nil | (apply pr_cons; rfl))) ?_
  refine sc_ret (x_ret _ rfl ?_)
  show Q (.bool (decide ((a : Int) < (K : Int)))) h
  rw [show decide ((a : Int) < (K : Int)) = true from decide_eq_true (by omega)]
  exact k
def p57a : C := (.seq (.reg [mo 34 4, oo 35 (.faddr 1 1 3), oo 36 (.load none 35), co 37 (.callv 34 [36]), mo 38 37, og 39 (.mv 5) 38 true, oo 40 (.pick 38 39 (.c (.bool false)))] [2, 3, 40]) (.cond 40 (.seq (.dreg [oo 41 (.load none 2), oo 42 (.nilck 41), oo 43 (.faddr 0 1 42), oo 44 (.load none 43), oo 45 (.faddr 1 1 3), oo 46 (.load none 45), oo 47 (.iaddr 4 44 46), mo 6 47] [] 0 [2, 3, 6]) (.seq (.dreg [oo 48 (.faddr 3 1 3), oo 49 (.load none 48), oo 50 (.faddr 1 1 3), oo 51 (.load none 50), mo 52 6, oo 53 (.nilck 52), oo 54 (.faddr 2 1 53), oo 55 (.load none 54), oo 56 (.faddr 3 1 3), oo 57 (.load none 56), oo 58 (.iaddr 1 55 57), oo 59 (.load none 58), oo 60 (.faddr 4 1 3), oo 61 (.load none 60), oo 62 (.build [(.int .i64 0), (.int .i64 0), (.int .i64 0), (.int .i64 0), (.int .i64 0), (.int .i64 0), (.int .i64 0), .nilptr] [(0, 1, (.c (.int .i64 1))), (1, 1, 49), (2, 1, 51), (3, 1, 59), (4, 1, 61)]), oo 7 (.alloc (some 0) [(.int .i64 0), (.int .i64 0), (.int .i64 0), (.int .i64 0), (.int .i64 0), (.int .i64 0), (.int .i64 0), .nilptr]), os (.store 8 7 62)] [] 1 [2, 3, 6, 7]) (.seq (.dreg [mo 63 6, oo 64 (.nilck 63), oo 65 (.faddr 2 1 64), oo 66 (.load none 65), oo 67 (.faddr 3 1 3), oo 68 (.load none 67), oo 69 (.iaddr 1 66 68), oo 70 (.load none 69), oo 71 (.bin .add 70 (.c (.int .i64 1))), oo 72 (.iaddr 1 66 68), os (.store 1 72 71)] [] 0 [2, 3, 7]) (.reg [oo 73 (.load none 2), oo 74 (.faddr 1 1 3), oo 75 (.load none 74), oo 76 (.load (some 8) 7), co 77 (.call 69 [73, 75, 76])] [])))) .skip))
def p57b : C := (.seq (.reg [oo 80 (.load none 2), oo 81 (.nilck 80), oo 82 (.faddr 0 1 81), oo 83 (.load none 82), oo 84 (.len false 83), oo 85 (.mv (.c (.int .i64 0)))] [2, 3, 4, 5, 84, 85]) (.block 1 (.loop (.seq (.reg [oo 86 (.bin .lss 85 84)] [2, 3, 4, 5, 84, 85, 86]) (.seq (.cond 86 .skip (.exit 1)) (.seq (.block 2 (.seq (.reg [mo 87 85, mo 8 87] [2, 3, 4, 5, 8, 84, 85]) (.seq (.reg [oo 88 (.load none 2), oo 89 (.nilck 88), oo 90 (.faddr 0 1 89), oo 91 (.load none 90), mo 92 8, oo 93 (.iaddr 4 91 92), mo 9 93] [2, 3, 4, 5, 8, 9, 84, 85]) (.seq (.dord [67, 68, 69, 70, 71, 72, 74, 999999] [[mo 94 5, mo 95 94, og 96 (.mv 4) 95 true, og 97 (.faddr 2 1 3) 95 true, og 98 (.load none 97) 95 true, cg 99 (.callv 96 [98]) 95 true, oo 100 (.pick 95 99 (.c (.bool false))), mo 101 100, og 102 (.mv 8) 101 true, og 103 (.faddr 2 1 3) 101 true, og 104 (.load none 103) 101 true, og 105 (.eqv true .int 102 104) 101 true, oo 106 (.pick 101 105 (.c (.bool false))), mo 107 106, og 108 (.mv 9) 107 true, og 109 (.nilck 108) 107 true, og 110 (.faddr 0 1 109) 107 true, og 111 (.load none 110) 107 true, og 112 (.faddr 3 1 3) 107 true, og 113 (.load none 112) 107 true, og 114 (.iaddr 1 111 113) 107 true, og 115 (.load none 114) 107 true, og 116 (.eqv true .ptr 115 (.c .nilptr)) 107 true, oo 117 (.pick 107 116 (.c (.bool false)))]] 0 [2, 3, 4, 5, 8, 9, 84, 85, 117]) (.cond 117 (.seq (.dreg [oo 118 (.faddr 3 1 3), oo 119 (.load none 118), oo 120 (.faddr 2 1 3), oo 121 (.load none 120), mo 122 9, oo 123 (.nilck 122), oo 124 (.faddr 1 1 123), oo 125 (.load none 124), oo 126 (.faddr 3 1 3), oo 127 (.load none 126), oo 128 (.iaddr 2 125 127), oo 129 (.faddr 1 1 128), oo 130 (.load none 129), oo 131 (.bin .add 130 (.c (.int .i64 1))), mo 132 9, oo 133 (.nilck 132), oo 134 (.faddr 0 1 133), oo 135 (.load none 134), oo 136 (.faddr 3 1 3), oo 137 (.load none 136), oo 138 (.iaddr 1 135 137), oo 139 (.load none 138), oo 140 (.build [(.int .i64 0), (.int .i64 0), (.int .i64 0), (.int .i64 0), (.int .i64 0), (.int .i64 0), (.int .i64 0), .nilptr] [(0, 1, (.c (.int .i64 2))), (1, 1, 119), (5, 1, 121), (6, 1, 131), (7, 1, 139)]), oo 10 (.alloc (some 0) [(.int .i64 0), (.int .i64 0), (.int .i64 0), (.int .i64 0), (.int .i64 0), (.int .i64 0), (.int .i64 0), .nilptr]), os (.store 8 10 140)] [] 1 [2, 3, 8, 9, 10]) (.seq (.dreg [mo 141 9, oo 142 (.nilck 141), oo 143 (.faddr 0 1 142), oo 144 (.load none 143), oo 145 (.faddr 3 1 3), oo 146 (.load none 145), oo 147 (.iaddr 1 144 146), os (.store 1 147 (.c .nilptr))] [] 0 [2, 3, 8, 9, 10]) (.seq (.dreg [mo 148 9, oo 149 (.nilck 148), oo 150 (.faddr 1 1 149), oo 151 (.load none 150), oo 152 (.faddr 3 1 3), oo 153 (.load none 152), oo 154 (.faddr 2 1 3), oo 155 (.load none 154), oo 156 (.faddr 6 1 10), oo 157 (.load none 156), oo 158 (.build [(.int .i64 0), (.int .i64 0)] [(0, 1, 155), (1, 1, 157)]), oo 159 (.iaddr 2 151 153), os (.store 2 159 158)] [] 0 [2, 3, 8, 10]) (.seq (.reg [oo 160 (.load none 2), mo 161 8, oo 162 (.faddr 2 1 3), oo 163 (.load none 162), oo 164 (.load (some 8) 10), co 165 (.call 70 [160, 161, 163, 164])] []) .ret)))) .skip))))) (.reg [oo 166 (.bin .add 85 (.c (.int .i64 1))), mo 85 166] [2, 3, 4, 5, 84, 85])))))))
def p57c : C := (.seq (.reg [oo 169 (.faddr 1 1 3), oo 170 (.load none 169), oo 171 (.faddr 2 1 3), oo 172 (.load none 171), oo 173 (.build [(.int .i64 0), (.int .i64 0)] [(0, 1, 170), (1, 1, 172)]), oo 11 (.alloc none [(.int .i64 0), (.int .i64 0)]), os (.store 2 11 173)] [2, 3, 11]) (.seq (.dreg [oo 174 (.load none 2), oo 175 (.nilck 174), oo 176 (.faddr 1 1 175), oo 177 (.load none 176), oo 178 (.load (some 2) 11), oo 179 (.lookup (.agg [.i, .i]) (.list [] .full) false 177 178), oo 180 (.len false 179), oo 181 (.bin .gtr 180 (.c (.int .i64 0)))] [] 0 [2, 3, 11, 181]) (.cond 181 (.seq (.dreg [oo 182 (.load none 2), oo 183 (.nilck 182), oo 184 (.faddr 1 1 183), oo 185 (.load none 184), oo 186 (.load (some 2) 11), oo 187 (.lookup (.agg [.i, .i]) (.list [] .full) false 185 186), oo 188 (.iaddr 8 187 (.c (.int .i64 0))), oo 189 (.load (some 8) 188), oo 12 (.alloc (some 0) [(.int .i64 0), (.int .i64 0), (.int .i64 0), (.int .i64 0), (.int .i64 0), (.int .i64 0), (.int .i64 0), .nilptr]), os (.store 8 12 189)] [] 1 [2, 3, 11, 12]) (.seq (.dreg [oo 190 (.load none 2), oo 191 (.nilck 190), oo 192 (.faddr 1 1 191), oo 193 (.load none 192), oo 194 (.load (some 2) 11), oo 195 (.load none 2), oo 196 (.nilck 195), oo 197 (.faddr 1 1 196), oo 198 (.load none 197), oo 199 (.load (some 2) 11), oo 200 (.lookup (.agg [.i, .i]) (.list [] .full) false 198 199), oo 201 (.slice 8 200 (some (.c (.int .i64 1))) none none), os (.mapset (.agg [.i, .i]) 193 194 201)] [] 0 [2, 3, 12]) (.reg [oo 202 (.load none 2), oo 203 (.faddr 1 1 3), oo 204 (.load none 203), oo 205 (.faddr 2 1 3), oo 206 (.load none 205), oo 207 (.load (some 8) 12), co 208 (.call 71 [202, 204, 206, 207])] []))) .skip)))
theorem r57a {h : Heap} {R : Lay} {I : Ids} {t : Ct} {B bx md a w : Nat} {nn to_ : Int} {E : Env} (ok : t.ok I B) (hB : B ≤ 600000000) (h1a : 1 ≤ a) (ha : a < I.K) (hw : w < I.m) (hsq : t.sq a w ≤ 100000000)
    (hs : Sep h (lay I t ++ ((md, .cells [ii 1, ii (a : Int), ii to_, ii (w : Int), ii nn]) :: (bx, .cells [.ptr I.w 0]) :: R))) {Q : HV → Heap → Prop}
    (kk : ∀ (h' : Heap) (t' : Ct), t'.ok I (B + 4000) → t'.abs = putF t.abs a w nn → Sep h' (lay I t' ++ R) → Q (.tuple []) h') :
    SC Try.prog Try.f57.ntmps bx p57a (BlkS 0 (RetS2 [] bx Q)) ((2, .ptr bx 0) :: (3, .ptr md 0) :: (4, .func 68 [.ptr bx 0]) :: (5, .bool true) :: E) h := by
  unfold p57a
  have gm : h[md]? = some (.cells [ii 1, ii (a : Int), ii to_, ii (w : Int), ii nn]) := hs.get (by simp)
  have gb : h[bx]? = some (.cells [.ptr I.w 0]) := hs.get (by simp)
  have gw : h[I.w]? = some (netO I) := hs.get (mem_w _)
  have gn : h[I.nid]? = some (nodesO I t.waits) := hs.get (mem_n _)
  refine q_reg ?_
  repeat (first | refine a_op (fun _ => rfl) ?_ | refine a_load rfl (by assumption) rfl ?_ | refine a_load_at rfl (by assumption) (by assumption) ?_ | refine a_iaddr_at rfl rfl (by assumption) ?_ | refine a_iaddr_l rfl rfl (by assumption) rfl ?_ | refine st_load_r rfl rfl ?_ | refine a_cmp rfl rfl rfl ?_ | refine a_eqi rfl rfl ?_ | refine st_not rfl ?_ | refine st_pick_t rfl rfl rfl ?_ | refine st_pick_f rfl rfl rfl ?_ | refine st_g rfl ?_ | refine a_gtf rfl ?_ | refine a_gft rfl ?_ | refine a_gu rfl ?_ | refine a_mklist (ec rfl en) (mz mkn) ?_ | refine a_mid ?_)
  refine a_callv rfl (ec rfl en) (r68 (a := a) h1a ha gb gw ?_)
  repeat (first | refine a_op (fun _ => rfl) ?_ | refine a_load rfl (by assumption) rfl ?_ | refine a_load_at rfl (by assumption) (by assumption) ?_ | refine a_iaddr_at rfl rfl (by assumption) ?_ | refine a_iaddr_l rfl rfl (by assumption) rfl ?_ | refine st_load_r rfl rfl ?_ | refine a_cmp rfl rfl rfl ?_ | refine a_eqi rfl rfl ?_ | refine st_not rfl ?_ | refine st_pick_t rfl rfl rfl ?_ | refine st_pick_f rfl rfl rfl ?_ | refine st_g rfl ?_ | refine a_gtf rfl ?_ | refine a_gft rfl ?_ | refine a_gu rfl ?_ | refine a_mklist (ec rfl en) (mz mkn) ?_ | refine a_mid ?_)
  first | refine a_endq (by repeat (first | exact pr_nil | (apply pr_cons; rfl))) ?_ | refine a_end (by repeat (first | exact pr_nil | (apply pr_cons; rfl))) ?_
  refine s_cond_t rfl (a_dreg0 Try.mixed ?_)
  repeat (first | refine a_op (fun _ => rfl) ?_ | refine a_load rfl (by assumption) rfl ?_ | refine a_load_at rfl (by assumption) (by assumption) ?_ | refine a_iaddr_at rfl rfl (by assumption) ?_ | refine a_iaddr_l rfl rfl (by assumption) rfl ?_ | refine st_load_r rfl rfl ?_ | refine a_cmp rfl rfl rfl ?_ | refine a_eqi rfl rfl ?_ | refine st_not rfl ?_ | refine st_pick_t rfl rfl rfl ?_ | refine st_pick_f rfl rfl rfl ?_ | refine st_g rfl ?_ | refine a_gtf rfl ?_ | refine a_gft rfl ?_ | refine a_gu rfl ?_ | refine a_mklist (ec rfl en) (mz mkn) ?_ | refine a_mid ?_)
  refine a_iaddr_n rfl rfl ha ?_
  repeat (first | refine a_op (fun _ => rfl) ?_ | refine a_load rfl (by assumption) rfl ?_ | refine a_load_at rfl (by assumption) (by assumption) ?_ | refine a_iaddr_at rfl rfl (by assumption) ?_ | refine a_iaddr_l rfl rfl (by assumption) rfl ?_ | refine st_load_r rfl rfl ?_ | refine a_cmp rfl rfl rfl ?_ | refine a_eqi rfl rfl ?_ | refine st_not rfl ?_ | refine st_pick_t rfl rfl rfl ?_ | refine st_pick_f rfl rfl rfl ?_ | refine st_g rfl ?_ | refine a_gtf rfl ?_ | refine a_gft rfl ?_ | refine a_gu rfl ?_ | refine a_mklist (ec rfl en) (mz mkn) ?_ | refine a_mid ?_)
  first | refine a_endq (by repeat (first | exact pr_nil | (apply pr_cons; rfl))) ?_ | refine a_end (by repeat (first | exact pr_nil | (apply pr_cons; rfl))) ?_
  refine a_dreg Try.mixed ?_
  have s1 := hs.new .res
  change HO _ h.length _ _ (h ++ [.res]) _
  generalize h.length = v at s1 ⊢
  generalize h ++ [HObj.res] = h1 at s1 ⊢
  clear hs gm gb gw gn h
  have gm : h1[md]? = some (.cells [ii 1, ii (a : Int), ii to_, ii (w : Int), ii nn]) := s1.get (by simp)
  have gb : h1[bx]? = some (.cells [.ptr I.w 0]) := s1.get (by simp)
  have gn : h1[I.nid]? = some (nodesO I t.waits) := s1.get (List.mem_cons_of_mem _ (mem_n _))
  have gq : h1[I.qid a]? = some (seqO I (t.sq a)) := s1.get (List.mem_cons_of_mem _ (mem_node ha (by simp [nodeL]) _))
  have gv : h1[v]? = some .res := s1.get (by simp)
  repeat (first | refine a_op (fun _ => rfl) ?_ | refine a_load rfl (by assumption) rfl ?_ | refine a_load_at rfl (by assumption) (by assumption) ?_ | refine a_iaddr_at rfl rfl (by assumption) ?_ | refine a_iaddr_l rfl rfl (by assumption) rfl ?_ | refine st_load_r rfl rfl ?_ | refine a_cmp rfl rfl rfl ?_ | refine a_eqi rfl rfl ?_ | refine st_not rfl ?_ | refine st_pick_t rfl rfl rfl ?_ | refine st_pick_f rfl rfl rfl ?_ | refine st_g rfl ?_ | refine a_gtf rfl ?_ | refine a_gft rfl ?_ | refine a_gu rfl ?_ | refine a_mklist (ec rfl en) (mz mkn) ?_ | refine a_mid ?_)
  refine a_load_fm (i := a) (w := 4) (j := 2) rfl gn (nodeC_len I t.waits) ha (by decide) rfl ?_
  repeat (first | refine a_op (fun _ => rfl) ?_ | refine a_load rfl (by assumption) rfl ?_ | refine a_load_at rfl (by assumption) (by assumption) ?_ | refine a_iaddr_at rfl rfl (by assumption) ?_ | refine a_iaddr_l rfl rfl (by assumption) rfl ?_ | refine st_load_r rfl rfl ?_ | refine a_cmp rfl rfl rfl ?_ | refine a_eqi rfl rfl ?_ | refine st_not rfl ?_ | refine st_pick_t rfl rfl rfl ?_ | refine st_pick_f rfl rfl rfl ?_ | refine st_g rfl ?_ | refine a_gtf rfl ?_ | refine a_gft rfl ?_ | refine a_gu rfl ?_ | refine a_mklist (ec rfl en) (mz mkn) ?_ | refine a_mid ?_)
  refine a_load_rg (F := fun w => ii (t.sq a w)) rfl gq hw rfl ?_
  repeat (first | refine a_op (fun _ => rfl) ?_ | refine a_load rfl (by assumption) rfl ?_ | refine a_load_at rfl (by assumption) (by assumption) ?_ | refine a_iaddr_at rfl rfl (by assumption) ?_ | refine a_iaddr_l rfl rfl (by assumption) rfl ?_ | refine st_load_r rfl rfl ?_ | refine a_cmp rfl rfl rfl ?_ | refine a_eqi rfl rfl ?_ | refine st_not rfl ?_ | refine st_pick_t rfl rfl rfl ?_ | refine st_pick_f rfl rfl rfl ?_ | refine st_g rfl ?_ | refine a_gtf rfl ?_ | refine a_gft rfl ?_ | refine a_gu rfl ?_ | refine a_mklist (ec rfl en) (mz mkn) ?_ | refine a_mid ?_)
  refine a_allocr (id := v) rfl gv ?_
  refine a_store rfl rfl (List.getElem?_set_self (lt_of_get gv)) ⟨rfl, lb rfl, rfl⟩ ?_
  repeat (first | refine a_op (fun _ => rfl) ?_ | refine a_load rfl (by assumption) rfl ?_ | refine a_load_at rfl (by assumption) (by assumption) ?_ | refine a_iaddr_at rfl rfl (by assumption) ?_ | refine a_iaddr_l rfl rfl (by assumption) rfl ?_ | refine st_load_r rfl rfl ?_ | refine a_cmp rfl rfl rfl ?_ | refine a_eqi rfl rfl ?_ | refine st_not rfl ?_ | refine st_pick_t rfl rfl rfl ?_ | refine st_pick_f rfl rfl rfl ?_ | refine st_g rfl ?_ | refine a_gtf rfl ?_ | refine a_gft rfl ?_ | refine a_gu rfl ?_ | refine a_mklist (ec rfl en) (mz mkn) ?_ | refine a_mid ?_)
  first | refine a_endq (by repeat (first | exact pr_nil | (apply pr_cons; rfl))) ?_ | refine a_end (by repeat (first | exact pr_nil | (apply pr_cons; rfl))) ?_
  obtain ⟨y, hy⟩ : ∃ y : It, y = ⟨1, w, a, t.sq a w, nn, 0, 0⟩ := ⟨_, rfl⟩
  have ey : itC y (itP I.bid y) = [ii 1, ii (w : Int), ii (a : Int), ii (t.sq a w : Int), ii nn, ii ((0 : Nat) : Int), ii ((0 : Nat) : Int), .nilptr] := by rw [hy]; rfl
  have s2 := Sep.set (A := []) (Sep.set (A := []) s1 (.cells (itC ⟨0, 0, 0, 0, 0, 0, 0⟩ .nilptr))) (.cells (itC y (itP I.bid y)))
  change SC _ _ _ _ _ [(2, HV.ptr bx 0), (3, .ptr md 0), (6, .ptr I.nid (a * 4)), (7, .ptr v 0)] ((h1.set v (HObj.cells (itC ⟨0, 0, 0, 0, 0, 0, 0⟩ .nilptr))).set v (.cells [ii 1, ii (w : Int), ii (a : Int), ii (t.sq a w : Int), ii nn, ii ((0 : Nat) : Int), ii ((0 : Nat) : Int), .nilptr]))
  rw [← ey]
  generalize (h1.set v _).set v _ = h2 at s2 ⊢
  clear s1 gm gb gn gq gv h1
  have s2 : Sep h2 (lay I t ++ ((v, .cells (itC y (itP I.bid y))) :: (md, .cells [ii 1, ii (a : Int), ii to_, ii (w : Int), ii nn]) :: (bx, .cells [.ptr I.w 0]) :: R)) := s2.perm List.perm_middle.symm
  have gm : h2[md]? = some (.cells [ii 1, ii (a : Int), ii to_, ii (w : Int), ii nn]) := s2.get (by simp)
  have gn : h2[I.nid]? = some (nodesO I t.waits) := s2.get (mem_n _)
  have gq : h2[I.qid a]? = some (seqO I (t.sq a)) := s2.get (mem_node ha (by simp [nodeL]) _)
  refine a_dreg0 Try.mixed ?_
  repeat (first | refine a_op (fun _ => rfl) ?_ | refine a_load rfl (by assumption) rfl ?_ | refine a_load_at rfl (by assumption) (by assumption) ?_ | refine a_iaddr_at rfl rfl (by assumption) ?_ | refine a_iaddr_l rfl rfl (by assumption) rfl ?_ | refine st_load_r rfl rfl ?_ | refine a_cmp rfl rfl rfl ?_ | refine a_eqi rfl rfl ?_ | refine st_not rfl ?_ | refine st_pick_t rfl rfl rfl ?_ | refine st_pick_f rfl rfl rfl ?_ | refine st_g rfl ?_ | refine a_gtf rfl ?_ | refine a_gft rfl ?_ | refine a_gu rfl ?_ | refine a_mklist (ec rfl en) (mz mkn) ?_ | refine a_mid ?_)
  refine a_load_fm (i := a) (w := 4) (j := 2) rfl gn (nodeC_len I t.waits) ha (by decide) rfl ?_
  repeat (first | refine a_op (fun _ => rfl) ?_ | refine a_load rfl (by assumption) rfl ?_ | refine a_load_at rfl (by assumption) (by assumption) ?_ | refine a_iaddr_at rfl rfl (by assumption) ?_ | refine a_iaddr_l rfl rfl (by assumption) rfl ?_ | refine st_load_r rfl rfl ?_ | refine a_cmp rfl rfl rfl ?_ | refine a_eqi rfl rfl ?_ | refine st_not rfl ?_ | refine st_pick_t rfl rfl rfl ?_ | refine st_pick_f rfl rfl rfl ?_ | refine st_g rfl ?_ | refine a_gtf rfl ?_ | refine a_gft rfl ?_ | refine a_gu rfl ?_ | refine a_mklist (ec rfl en) (mz mkn) ?_ | refine a_mid ?_)
  refine a_load_rg (F := fun w => ii (t.sq a w)) rfl gq hw rfl ?_
  refine a_add rfl rfl (by omega) ?_
  refine a_iaddr_at rfl rfl hw ?_
  refine a_store_rg (F := fun w => ii (t.sq a w)) rfl rfl gq rfl rfl hw ?_
  repeat (first | refine a_op (fun _ => rfl) ?_ | refine a_load rfl (by assumption) rfl ?_ | refine a_load_at rfl (by assumption) (by assumption) ?_ | refine a_iaddr_at rfl rfl (by assumption) ?_ | refine a_iaddr_l rfl rfl (by assumption) rfl ?_ | refine st_load_r rfl rfl ?_ | refine a_cmp rfl rfl rfl ?_ | refine a_eqi rfl rfl ?_ | refine st_not rfl ?_ | refine st_pick_t rfl rfl rfl ?_ | refine st_pick_f rfl rfl rfl ?_ | refine st_g rfl ?_ | refine a_gtf rfl ?_ | refine a_gft rfl ?_ | refine a_gu rfl ?_ | refine a_mklist (ec rfl en) (mz mkn) ?_ | refine a_mid ?_)
  first | refine a_endq (by repeat (first | exact pr_nil | (apply pr_cons; rfl))) ?_ | refine a_end (by repeat (first | exact pr_nil | (apply pr_cons; rfl))) ?_
  obtain ⟨M, pin, pout⟩ := seq_at I t ha ((v, .cells (itC y (itP I.bid y))) :: (md, .cells [ii 1, ii (a : Int), ii to_, ii (w : Int), ii nn]) :: (bx, .cells [.ptr I.w 0]) :: R)
  have s3 := (Sep.set (A := []) (B := M) (s2.perm pin) (seqO I (fupd (t.sq a) w (t.sq a w + 1)))).perm (pout _).symm
  have e2 : (fupd (fun w => ii (t.sq a w : Int)) w (ii ((t.sq a w : Int) + 1))) = fun i => ii ((fupd (t.sq a) w (t.sq a w + 1)) i : Int) := by
    funext i
    unfold fupd
    split <;> rfl
  rw [e2]
  generalize h2.set (I.qid a) _ = h3 at s3 ⊢
  have ok1 : ({ t with sq := fupd t.sq a (fupd (t.sq a) w (t.sq a w + 1)) } : Ct).ok I B := ⟨ok.bod, ok.g, ok.waits, ok.itg, ok.itw, ok.hK, ok.hm⟩
  have gm : h3[md]? = some (.cells [ii 1, ii (a : Int), ii to_, ii (w : Int), ii nn]) := s3.get (by simp)
  have gb : h3[bx]? = some (.cells [.ptr I.w 0]) := s3.get (by simp)
  have gv : h3[v]? = some (.cells (itC y (itP I.bid y))) := s3.get (by simp)
  have hyo : y.ok I := by rw [hy]; exact ⟨hw, ha, by show t.sq a w ≤ _; omega⟩
  refine s_reg ?_
  repeat (first | refine a_op (fun _ => rfl) ?_ | refine a_load rfl (by assumption) rfl ?_ | refine a_load_at rfl (by assumption) (by assumption) ?_ | refine a_iaddr_at rfl rfl (by assumption) ?_ | refine a_iaddr_l rfl rfl (by assumption) rfl ?_ | refine st_load_r rfl rfl ?_ | refine a_cmp rfl rfl rfl ?_ | refine a_eqi rfl rfl ?_ | refine st_not rfl ?_ | refine st_pick_t rfl rfl rfl ?_ | refine st_pick_f rfl rfl rfl ?_ | refine st_g rfl ?_ | refine a_gtf rfl ?_ | refine a_gft rfl ?_ | refine a_gu rfl ?_ | refine a_mklist (ec rfl en) (mz mkn) ?_ | refine a_mid ?_)
  refine a_callE (ws := [.ptr I.w 0, ii (a : Int), eIt I.bid y]) (ec rfl (ec rfl (ec rfl en))) (by show [HV.ptr I.w 0, ii (a : Int), (HV.agg (itC y (itP I.bid y))).strip1] = _; rw [itA]) (r69 ok1 (by omega) ha hyo (s3.sub (((List.sublist_cons_self _ _).trans ((List.sublist_cons_self _ _).trans (List.sublist_cons_self _ _))).append_left _)) (fun h4 t4 ok4 hab4 s4 => ?_))
  repeat (first | refine a_op (fun _ => rfl) ?_ | refine a_load rfl (by assumption) rfl ?_ | refine a_load_at rfl (by assumption) (by assumption) ?_ | refine a_iaddr_at rfl rfl (by assumption) ?_ | refine a_iaddr_l rfl rfl (by assumption) rfl ?_ | refine st_load_r rfl rfl ?_ | refine a_cmp rfl rfl rfl ?_ | refine a_eqi rfl rfl ?_ | refine st_not rfl ?_ | refine st_pick_t rfl rfl rfl ?_ | refine st_pick_f rfl rfl rfl ?_ | refine st_g rfl ?_ | refine a_gtf rfl ?_ | refine a_gft rfl ?_ | refine a_gu rfl ?_ | refine a_mklist (ec rfl en) (mz mkn) ?_ | refine a_mid ?_)
  first | refine a_endq (by repeat (first | exact pr_nil | (apply pr_cons; rfl))) ?_ | refine a_end (by repeat (first | exact pr_nil | (apply pr_cons; rfl))) ?_
  refine bl_n (x_ret _ rfl (kk h4 t4 (ok4.le (by omega)) ?_ s4))
  rw [hab4, hy]
  rfl
theorem find_lt {K k : Nat} {p : Nat → Bool} (hk : k < K) (hn : ∀ j, j < k → p j = false) (hp : p k = true) : (List.range K).find? p = some k := by
  rw [List.find?_eq_some_iff_getElem]
  refine ⟨hp, k, by simpa using hk, by simp, fun j hj => ?_⟩
  rw [List.getElem_range]
  simp [hn j hj]
theorem find_no {K : Nat} {p : Nat → Bool} (hn : ∀ j, j < K → p j = false) : (List.range K).find? p = none := by
  rw [List.find?_eq_none]
  intro j hj
  simp [hn j (List.mem_range.1 hj)]
theorem goF_none {K : Nat} {t : Nw} {b w : Nat} (hn : ∀ j, j < K → (decide (j ≠ b) && t.here j w) = false) : goF K t b w = t := by
  unfold goF
  rw [find_no hn]
theorem goF_some {K k : Nat} {t : Nw} {b w : Nat} (hk : k < K) (hn : ∀ j, j < k → (decide (j ≠ b) && t.here j w) = false) (hp : (decide (k ≠ b) && t.here k w) = true) : goF K t b w = moveF t k w b := by
  unfold goF
  rw [find_lt hk hn hp]
theorem r57b {h : Heap} {R : Lay} {I : Ids} {t : Ct} {B bx md b w : Nat} {nn fr : Int} {E : Env} (ok : t.ok I B) (hB : B ≤ 600000000) (h1b : 1 ≤ b) (hb : b < I.K) (hw : w < I.m) (hst : ∀ i, i < I.K → t.st i w ≤ 100000000)
    (hs : Sep h (lay I t ++ ((md, .cells [ii 2, ii fr, ii (b : Int), ii (w : Int), ii nn]) :: (bx, .cells [.ptr I.w 0]) :: R))) {Q : HV → Heap → Prop}
    (kk : ∀ (h' : Heap) (t' : Ct), t'.ok I (B + 4000) → t'.abs = goF I.K t.abs b w → Sep h' (lay I t' ++ R) → Q (.tuple []) h') :
    SC Try.prog Try.f57.ntmps bx p57b (BlkS 0 (RetS2 [] bx Q)) ((2, .ptr bx 0) :: (3, .ptr md 0) :: (4, .func 68 [.ptr bx 0]) :: (5, .bool true) :: E) h := by
  unfold p57b
  have gm : h[md]? = some (.cells [ii 2, ii fr, ii (b : Int), ii (w : Int), ii nn]) := hs.get (by simp)
  have gb : h[bx]? = some (.cells [.ptr I.w 0]) := hs.get (by simp)
  have gw : h[I.w]? = some (netO I) := hs.get (mem_w _)
  have gn : h[I.nid]? = some (nodesO I t.waits) := hs.get (mem_n _)
  refine q_reg ?_
  repeat (first | refine a_op (fun _ => rfl) ?_ | refine a_load rfl (by assumption) rfl ?_ | refine a_load_at rfl (by assumption) (by assumption) ?_ | refine a_iaddr_at rfl rfl (by assumption) ?_ | refine a_iaddr_l rfl rfl (by assumption) rfl ?_ | refine st_load_r rfl rfl ?_ | refine a_cmp rfl rfl rfl ?_ | refine a_eqi rfl rfl ?_ | refine st_not rfl ?_ | refine st_pick_t rfl rfl rfl ?_ | refine st_pick_f rfl rfl rfl ?_ | refine st_g rfl ?_ | refine a_gtf rfl ?_ | refine a_gft rfl ?_ | refine a_gu rfl ?_ | refine a_mklist (ec rfl en) (mz mkn) ?_ | refine a_mid ?_)
  first | refine a_endq (by repeat (first | exact pr_nil | (apply pr_cons; rfl))) ?_ | refine a_end (by repeat (first | exact pr_nil | (apply pr_cons; rfl))) ?_
  refine sc_block (sc_loop (X := { k : Nat // k ≤ I.K ∧ ∀ j, j < k → (decide (j ≠ b) && t.here j w) = false })
    (fun k => ([(2, .ptr bx 0), (3, .ptr md 0), (4, .func 68 [.ptr bx 0]), (5, .bool true), (84, ii I.K), (85, ii k.1)], h)) (fun k => I.K - k.1)
    ⟨0, Nat.zero_le _, fun j hj => by omega⟩ (WeakF.refl _ _) ?_)
  rintro ⟨k, hk, hno⟩
  have hKK := ok.hK
  refine q_reg ?_
  repeat (first | refine a_op (fun _ => rfl) ?_ | refine a_load rfl (by assumption) rfl ?_ | refine a_load_at rfl (by assumption) (by assumption) ?_ | refine a_iaddr_at rfl rfl (by assumption) ?_ | refine a_iaddr_l rfl rfl (by assumption) rfl ?_ | refine st_load_r rfl rfl ?_ | refine a_cmp rfl rfl rfl ?_ | refine a_eqi rfl rfl ?_ | refine st_not rfl ?_ | refine st_pick_t rfl rfl rfl ?_ | refine st_pick_f rfl rfl rfl ?_ | refine st_g rfl ?_ | refine a_gtf rfl ?_ | refine a_gft rfl ?_ | refine a_gu rfl ?_ | refine a_mklist (ec rfl en) (mz mkn) ?_ | refine a_mid ?_)
  first | refine a_endq (by repeat (first | exact pr_nil | (apply pr_cons; rfl))) ?_ | refine a_end (by repeat (first | exact pr_nil | (apply pr_cons; rfl))) ?_
  refine sc_seq (sc_cond rfl (fun hz => ?_) (fun hz => ?_))
  · have hkl : k < I.K := by have := of_decide_eq_true hz; dsimp only at this; omega
    have gh : h[I.hid k]? = some (hereO I (t.here k)) := hs.get (mem_node hkl (by simp [nodeL]) _)
    refine sc_skip (sq_n (sc_seq (sc_block (q_reg ?_))))
    repeat (first | refine a_op (fun _ => rfl) ?_ | refine a_load rfl (by assumption) rfl ?_ | refine a_load_at rfl (by assumption) (by assumption) ?_ | refine a_iaddr_at rfl rfl (by assumption) ?_ | refine a_iaddr_l rfl rfl (by assumption) rfl ?_ | refine st_load_r rfl rfl ?_ | refine a_cmp rfl rfl rfl ?_ | refine a_eqi rfl rfl ?_ | refine st_not rfl ?_ | refine st_pick_t rfl rfl rfl ?_ | refine st_pick_f rfl rfl rfl ?_ | refine st_g rfl ?_ | refine a_gtf rfl ?_ | refine a_gft rfl ?_ | refine a_gu rfl ?_ | refine a_mklist (ec rfl en) (mz mkn) ?_ | refine a_mid ?_)
    first | refine a_endq (by repeat (first | exact pr_nil | (apply pr_cons; rfl))) ?_ | refine a_end (by repeat (first | exact pr_nil | (apply pr_cons; rfl))) ?_
    refine q_reg ?_
    repeat (first | refine a_op (fun _ => rfl) ?_ | refine a_load rfl (by assumption) rfl ?_ | refine a_load_at rfl (by assumption) (by assumption) ?_ | refine a_iaddr_at rfl rfl (by assumption) ?_ | refine a_iaddr_l rfl rfl (by assumption) rfl ?_ | refine st_load_r rfl rfl ?_ | refine a_cmp rfl rfl rfl ?_ | refine a_eqi rfl rfl ?_ | refine st_not rfl ?_ | refine st_pick_t rfl rfl rfl ?_ | refine st_pick_f rfl rfl rfl ?_ | refine st_g rfl ?_ | refine a_gtf rfl ?_ | refine a_gft rfl ?_ | refine a_gu rfl ?_ | refine a_mklist (ec rfl en) (mz mkn) ?_ | refine a_mid ?_)
    refine a_iaddr_n rfl rfl hkl ?_
    repeat (first | refine a_op (fun _ => rfl) ?_ | refine a_load rfl (by assumption) rfl ?_ | refine a_load_at rfl (by assumption) (by assumption) ?_ | refine a_iaddr_at rfl rfl (by assumption) ?_ | refine a_iaddr_l rfl rfl (by assumption) rfl ?_ | refine st_load_r rfl rfl ?_ | refine a_cmp rfl rfl rfl ?_ | refine a_eqi rfl rfl ?_ | refine st_not rfl ?_ | refine st_pick_t rfl rfl rfl ?_ | refine st_pick_f rfl rfl rfl ?_ | refine st_g rfl ?_ | refine a_gtf rfl ?_ | refine a_gft rfl ?_ | refine a_gu rfl ?_ | refine a_mklist (ec rfl en) (mz mkn) ?_ | refine a_mid ?_)
    first | refine a_endq (by repeat (first | exact pr_nil | (apply pr_cons; rfl))) ?_ | refine a_end (by repeat (first | exact pr_nil | (apply pr_cons; rfl))) ?_
    have nxt : (decide (k ≠ b) && t.here k w) = false → LoopS bx (fun k => ([(2, .ptr bx 0), (3, .ptr md 0), (4, .func 68 [.ptr bx 0]), (5, .bool true), (84, ii I.K), (85, ii k.1)], h)) (fun k => I.K - k.1) (⟨k, hk, hno⟩ : { k : Nat // k ≤ I.K ∧ ∀ j, j < k → (decide (j ≠ b) && t.here j w) = false }) (BlkS 1 (BlkS 0 (RetS2 [] bx Q))) .normal
        [(2, .ptr bx 0), (3, .ptr md 0), (4, .func 68 [.ptr bx 0]), (5, .bool true), (84, ii I.K), (85, ii ((k : Int) + 1))] h := fun hf => by
      refine lo_n ⟨k + 1, hkl, fun j hj => ?_⟩ (by show I.K - (k + 1) < I.K - k; omega) (WeakF.refl _ _)
      by_cases hjk : j = k
      · rw [hjk]; exact hf
      · exact hno j (by omega)
    refine a_dord1 Try.mixed ?_
    repeat (first | refine a_op (fun _ => rfl) ?_ | refine a_load rfl (by assumption) rfl ?_ | refine a_load_at rfl (by assumption) (by assumption) ?_ | refine a_iaddr_at rfl rfl (by assumption) ?_ | refine a_iaddr_l rfl rfl (by assumption) rfl ?_ | refine st_load_r rfl rfl ?_ | refine a_cmp rfl rfl rfl ?_ | refine a_eqi rfl rfl ?_ | refine st_not rfl ?_ | refine st_pick_t rfl rfl rfl ?_ | refine st_pick_f rfl rfl rfl ?_ | refine st_g rfl ?_ | refine a_gtf rfl ?_ | refine a_gft rfl ?_ | refine a_gu rfl ?_ | refine a_mklist (ec rfl en) (mz mkn) ?_ | refine a_mid ?_)
    refine a_callvm rfl rfl (ec rfl en) (r68 (a := b) h1b hb gb gw ?_)
    repeat (first | refine a_op (fun _ => rfl) ?_ | refine a_load rfl (by assumption) rfl ?_ | refine a_load_at rfl (by assumption) (by assumption) ?_ | refine a_iaddr_at rfl rfl (by assumption) ?_ | refine a_iaddr_l rfl rfl (by assumption) rfl ?_ | refine st_load_r rfl rfl ?_ | refine a_cmp rfl rfl rfl ?_ | refine a_eqi rfl rfl ?_ | refine st_not rfl ?_ | refine st_pick_t rfl rfl rfl ?_ | refine st_pick_f rfl rfl rfl ?_ | refine st_g rfl ?_ | refine a_gtf rfl ?_ | refine a_gft rfl ?_ | refine a_gu rfl ?_ | refine a_mklist (ec rfl en) (mz mkn) ?_ | refine a_mid ?_)
    have e1 : (if true = true then !((k : Int) == (b : Int)) else (k : Int) == (b : Int)) = decide (k ≠ b) := by
      rw [if_pos rfl]
      by_cases h : k = b
      · rw [h]; simp
      · rw [nat_ne h]; simp [h]
    rw [e1]
    by_cases hkb : k = b
    · rw [show decide (k ≠ b) = false from by simp [hkb]]
      repeat (first | refine a_op (fun _ => rfl) ?_ | refine a_load rfl (by assumption) rfl ?_ | refine a_load_at rfl (by assumption) (by assumption) ?_ | refine a_iaddr_at rfl rfl (by assumption) ?_ | refine a_iaddr_l rfl rfl (by assumption) rfl ?_ | refine st_load_r rfl rfl ?_ | refine a_cmp rfl rfl rfl ?_ | refine a_eqi rfl rfl ?_ | refine st_not rfl ?_ | refine st_pick_t rfl rfl rfl ?_ | refine st_pick_f rfl rfl rfl ?_ | refine st_g rfl ?_ | refine a_gtf rfl ?_ | refine a_gft rfl ?_ | refine a_gu rfl ?_ | refine a_mklist (ec rfl en) (mz mkn) ?_ | refine a_mid ?_)
      first | refine a_endq (by repeat (first | exact pr_nil | (apply pr_cons; rfl))) ?_ | refine a_end (by repeat (first | exact pr_nil | (apply pr_cons; rfl))) ?_
      refine s_cond_f rfl (sc_skip (bl_n (sq_n (s_reg ?_))))
      repeat (first | refine a_op (fun _ => rfl) ?_ | refine a_load rfl (by assumption) rfl ?_ | refine a_load_at rfl (by assumption) (by assumption) ?_ | refine a_iaddr_at rfl rfl (by assumption) ?_ | refine a_iaddr_l rfl rfl (by assumption) rfl ?_ | refine st_load_r rfl rfl ?_ | refine a_cmp rfl rfl rfl ?_ | refine a_eqi rfl rfl ?_ | refine st_not rfl ?_ | refine st_pick_t rfl rfl rfl ?_ | refine st_pick_f rfl rfl rfl ?_ | refine st_g rfl ?_ | refine a_gtf rfl ?_ | refine a_gft rfl ?_ | refine a_gu rfl ?_ | refine a_mklist (ec rfl en) (mz mkn) ?_ | refine a_mid ?_)
      refine a_add rfl rfl (by first | omega | (dsimp only; omega)) ?_
      repeat (first | refine a_op (fun _ => rfl) ?_ | refine a_load rfl (by assumption) rfl ?_ | refine a_load_at rfl (by assumption) (by assumption) ?_ | refine a_iaddr_at rfl rfl (by assumption) ?_ | refine a_iaddr_l rfl rfl (by assumption) rfl ?_ | refine st_load_r rfl rfl ?_ | refine a_cmp rfl rfl rfl ?_ | refine a_eqi rfl rfl ?_ | refine st_not rfl ?_ | refine st_pick_t rfl rfl rfl ?_ | refine st_pick_f rfl rfl rfl ?_ | refine st_g rfl ?_ | refine a_gtf rfl ?_ | refine a_gft rfl ?_ | refine a_gu rfl ?_ | refine a_mklist (ec rfl en) (mz mkn) ?_ | refine a_mid ?_)
      first | refine a_endq (by repeat (first | exact pr_nil | (apply pr_cons; rfl))) ?_ | refine a_end (by repeat (first | exact pr_nil | (apply pr_cons; rfl))) ?_
      exact nxt (by simp [hkb])
    · rw [show decide (k ≠ b) = true from decide_eq_true hkb]
      repeat (first | refine a_op (fun _ => rfl) ?_ | refine a_load rfl (by assumption) rfl ?_ | refine a_load_at rfl (by assumption) (by assumption) ?_ | refine a_iaddr_at rfl rfl (by assumption) ?_ | refine a_iaddr_l rfl rfl (by assumption) rfl ?_ | refine st_load_r rfl rfl ?_ | refine a_cmp rfl rfl rfl ?_ | refine a_eqi rfl rfl ?_ | refine st_not rfl ?_ | refine st_pick_t rfl rfl rfl ?_ | refine st_pick_f rfl rfl rfl ?_ | refine st_g rfl ?_ | refine a_gtf rfl ?_ | refine a_gft rfl ?_ | refine a_gu rfl ?_ | refine a_mklist (ec rfl en) (mz mkn) ?_ | refine a_mid ?_)
      refine a_load_fm (i := k) (w := 4) (j := 0) rfl gn (nodeC_len I t.waits) hkl (by decide) rfl ?_
      repeat (first | refine a_op (fun _ => rfl) ?_ | refine a_load rfl (by assumption) rfl ?_ | refine a_load_at rfl (by assumption) (by assumption) ?_ | refine a_iaddr_at rfl rfl (by assumption) ?_ | refine a_iaddr_l rfl rfl (by assumption) rfl ?_ | refine st_load_r rfl rfl ?_ | refine a_cmp rfl rfl rfl ?_ | refine a_eqi rfl rfl ?_ | refine st_not rfl ?_ | refine st_pick_t rfl rfl rfl ?_ | refine st_pick_f rfl rfl rfl ?_ | refine st_g rfl ?_ | refine a_gtf rfl ?_ | refine a_gft rfl ?_ | refine a_gu rfl ?_ | refine a_mklist (ec rfl en) (mz mkn) ?_ | refine a_mid ?_)
      by_cases hh : t.here k w = true
      · refine a_load_rg (F := hereC I.bid (t.here k)) (v := .ptr (I.bid w) 0) rfl gh hw (by unfold hereC; rw [hh]; rfl) ?_
        refine st_g rfl (a_eqp1 rfl rfl ?_)
        repeat (first | refine a_op (fun _ => rfl) ?_ | refine a_load rfl (by assumption) rfl ?_ | refine a_load_at rfl (by assumption) (by assumption) ?_ | refine a_iaddr_at rfl rfl (by assumption) ?_ | refine a_iaddr_l rfl rfl (by assumption) rfl ?_ | refine st_load_r rfl rfl ?_ | refine a_cmp rfl rfl rfl ?_ | refine a_eqi rfl rfl ?_ | refine st_not rfl ?_ | refine st_pick_t rfl rfl rfl ?_ | refine st_pick_f rfl rfl rfl ?_ | refine st_g rfl ?_ | refine a_gtf rfl ?_ | refine a_gft rfl ?_ | refine a_gu rfl ?_ | refine a_mklist (ec rfl en) (mz mkn) ?_ | refine a_mid ?_)
        first | refine a_endq (by repeat (first | exact pr_nil | (apply pr_cons; rfl))) ?_ | refine a_end (by repeat (first | exact pr_nil | (apply pr_cons; rfl))) ?_
        have gs : h[I.sid k]? = some (sureO I (t.sn k) (t.st k)) := hs.get (mem_node hkl (by simp [nodeL]) _)
        have hsk := hst k hkl
        have hgo := goF_some (t := t.abs) hkl hno (by show (decide (k ≠ b) && t.here k w) = true; simp [hkb, hh])
        rw [hgo] at kk
        clear nxt hgo
        refine s_cond_t rfl (a_dreg Try.mixed ?_)
        have s1 := hs.new .res
        change HO _ h.length _ _ (h ++ [.res]) _
        have gv : (h ++ [HObj.res])[h.length]? = some .res := s1.get (by simp)
        replace gm : (h ++ [HObj.res])[md]? = some (.cells [ii 2, ii fr, ii (b : Int), ii (w : Int), ii nn]) := s1.get (by simp)
        replace gn : (h ++ [HObj.res])[I.nid]? = some (nodesO I t.waits) := s1.get (List.mem_cons_of_mem _ (mem_n _))
        replace gh : (h ++ [HObj.res])[I.hid k]? = some (hereO I (t.here k)) := s1.get (List.mem_cons_of_mem _ (mem_node hkl (by simp [nodeL]) _))
        replace gs : (h ++ [HObj.res])[I.sid k]? = some (sureO I (t.sn k) (t.st k)) := s1.get (List.mem_cons_of_mem _ (mem_node hkl (by simp [nodeL]) _))
        generalize h.length = v at s1 gv ⊢
        generalize h ++ [HObj.res] = h1 at s1 gv gm gn gh gs ⊢
        repeat (first | refine a_op (fun _ => rfl) ?_ | refine a_load rfl (by assumption) rfl ?_ | refine a_load_at rfl (by assumption) (by assumption) ?_ | refine a_iaddr_at rfl rfl (by assumption) ?_ | refine a_iaddr_l rfl rfl (by assumption) rfl ?_ | refine st_load_r rfl rfl ?_ | refine a_cmp rfl rfl rfl ?_ | refine a_eqi rfl rfl ?_ | refine st_not rfl ?_ | refine st_pick_t rfl rfl rfl ?_ | refine st_pick_f rfl rfl rfl ?_ | refine st_g rfl ?_ | refine a_gtf rfl ?_ | refine a_gft rfl ?_ | refine a_gu rfl ?_ | refine a_mklist (ec rfl en) (mz mkn) ?_ | refine a_mid ?_)
        refine a_load_fm (i := k) (w := 4) (j := 1) rfl gn (nodeC_len I t.waits) hkl (by decide) rfl ?_
        repeat (first | refine a_op (fun _ => rfl) ?_ | refine a_load rfl (by assumption) rfl ?_ | refine a_load_at rfl (by assumption) (by assumption) ?_ | refine a_iaddr_at rfl rfl (by assumption) ?_ | refine a_iaddr_l rfl rfl (by assumption) rfl ?_ | refine st_load_r rfl rfl ?_ | refine a_cmp rfl rfl rfl ?_ | refine a_eqi rfl rfl ?_ | refine st_not rfl ?_ | refine st_pick_t rfl rfl rfl ?_ | refine st_pick_f rfl rfl rfl ?_ | refine st_g rfl ?_ | refine a_gtf rfl ?_ | refine a_gft rfl ?_ | refine a_gu rfl ?_ | refine a_mklist (ec rfl en) (mz mkn) ?_ | refine a_mid ?_)
        refine a_iaddr_n rfl rfl hw ?_
        repeat (first | refine a_op (fun _ => rfl) ?_ | refine a_load rfl (by assumption) rfl ?_ | refine a_load_at rfl (by assumption) (by assumption) ?_ | refine a_iaddr_at rfl rfl (by assumption) ?_ | refine a_iaddr_l rfl rfl (by assumption) rfl ?_ | refine st_load_r rfl rfl ?_ | refine a_cmp rfl rfl rfl ?_ | refine a_eqi rfl rfl ?_ | refine st_not rfl ?_ | refine st_pick_t rfl rfl rfl ?_ | refine st_pick_f rfl rfl rfl ?_ | refine st_g rfl ?_ | refine a_gtf rfl ?_ | refine a_gft rfl ?_ | refine a_gu rfl ?_ | refine a_mklist (ec rfl en) (mz mkn) ?_ | refine a_mid ?_)
        refine a_load_fm (i := w) (w := 2) (j := 1) rfl gs (sureC_len _ _) hw (by decide) rfl ?_
        repeat (first | refine a_op (fun _ => rfl) ?_ | refine a_load rfl (by assumption) rfl ?_ | refine a_load_at rfl (by assumption) (by assumption) ?_ | refine a_iaddr_at rfl rfl (by assumption) ?_ | refine a_iaddr_l rfl rfl (by assumption) rfl ?_ | refine st_load_r rfl rfl ?_ | refine a_cmp rfl rfl rfl ?_ | refine a_eqi rfl rfl ?_ | refine st_not rfl ?_ | refine st_pick_t rfl rfl rfl ?_ | refine st_pick_f rfl rfl rfl ?_ | refine st_g rfl ?_ | refine a_gtf rfl ?_ | refine a_gft rfl ?_ | refine a_gu rfl ?_ | refine a_mklist (ec rfl en) (mz mkn) ?_ | refine a_mid ?_)
        refine a_add rfl rfl (by omega) ?_
        repeat (first | refine a_op (fun _ => rfl) ?_ | refine a_load rfl (by assumption) rfl ?_ | refine a_load_at rfl (by assumption) (by assumption) ?_ | refine a_iaddr_at rfl rfl (by assumption) ?_ | refine a_iaddr_l rfl rfl (by assumption) rfl ?_ | refine st_load_r rfl rfl ?_ | refine a_cmp rfl rfl rfl ?_ | refine a_eqi rfl rfl ?_ | refine st_not rfl ?_ | refine st_pick_t rfl rfl rfl ?_ | refine st_pick_f rfl rfl rfl ?_ | refine st_g rfl ?_ | refine a_gtf rfl ?_ | refine a_gft rfl ?_ | refine a_gu rfl ?_ | refine a_mklist (ec rfl en) (mz mkn) ?_ | refine a_mid ?_)
        refine a_load_fm (i := k) (w := 4) (j := 0) rfl gn (nodeC_len I t.waits) hkl (by decide) rfl ?_
        repeat (first | refine a_op (fun _ => rfl) ?_ | refine a_load rfl (by assumption) rfl ?_ | refine a_load_at rfl (by assumption) (by assumption) ?_ | refine a_iaddr_at rfl rfl (by assumption) ?_ | refine a_iaddr_l rfl rfl (by assumption) rfl ?_ | refine st_load_r rfl rfl ?_ | refine a_cmp rfl rfl rfl ?_ | refine a_eqi rfl rfl ?_ | refine st_not rfl ?_ | refine st_pick_t rfl rfl rfl ?_ | refine st_pick_f rfl rfl rfl ?_ | refine st_g rfl ?_ | refine a_gtf rfl ?_ | refine a_gft rfl ?_ | refine a_gu rfl ?_ | refine a_mklist (ec rfl en) (mz mkn) ?_ | refine a_mid ?_)
        refine a_load_rg (F := hereC I.bid (t.here k)) (v := .ptr (I.bid w) 0) rfl gh hw (by unfold hereC; rw [hh]; rfl) ?_
        repeat (first | refine a_op (fun _ => rfl) ?_ | refine a_load rfl (by assumption) rfl ?_ | refine a_load_at rfl (by assumption) (by assumption) ?_ | refine a_iaddr_at rfl rfl (by assumption) ?_ | refine a_iaddr_l rfl rfl (by assumption) rfl ?_ | refine st_load_r rfl rfl ?_ | refine a_cmp rfl rfl rfl ?_ | refine a_eqi rfl rfl ?_ | refine st_not rfl ?_ | refine st_pick_t rfl rfl rfl ?_ | refine st_pick_f rfl rfl rfl ?_ | refine st_g rfl ?_ | refine a_gtf rfl ?_ | refine a_gft rfl ?_ | refine a_gu rfl ?_ | refine a_mklist (ec rfl en) (mz mkn) ?_ | refine a_mid ?_)
        refine a_allocr (id := v) rfl gv ?_
        refine a_store rfl rfl (List.getElem?_set_self (lt_of_get gv)) ⟨rfl, lb rfl, rfl⟩ ?_
        repeat (first | refine a_op (fun _ => rfl) ?_ | refine a_load rfl (by assumption) rfl ?_ | refine a_load_at rfl (by assumption) (by assumption) ?_ | refine a_iaddr_at rfl rfl (by assumption) ?_ | refine a_iaddr_l rfl rfl (by assumption) rfl ?_ | refine st_load_r rfl rfl ?_ | refine a_cmp rfl rfl rfl ?_ | refine a_eqi rfl rfl ?_ | refine st_not rfl ?_ | refine st_pick_t rfl rfl rfl ?_ | refine st_pick_f rfl rfl rfl ?_ | refine st_g rfl ?_ | refine a_gtf rfl ?_ | refine a_gft rfl ?_ | refine a_gu rfl ?_ | refine a_mklist (ec rfl en) (mz mkn) ?_ | refine a_mid ?_)
        first | refine a_endq (by repeat (first | exact pr_nil | (apply pr_cons; rfl))) ?_ | refine a_end (by repeat (first | exact pr_nil | (apply pr_cons; rfl))) ?_
        obtain ⟨y, hy⟩ : ∃ y : It, y = ⟨2, w, 0, 0, 0, b, t.st k w + 1⟩ := ⟨_, rfl⟩
        have ey : itC y (itP I.bid y) = [ii 2, ii (w : Int), ii ((0 : Nat) : Int), ii ((0 : Nat) : Int), ii 0, ii (b : Int), ii ((t.st k w : Int) + 1), .ptr (I.bid w) 0] := by rw [hy]; rfl
        have s2 := Sep.set (A := []) (Sep.set (A := []) s1 (.cells (itC ⟨0, 0, 0, 0, 0, 0, 0⟩ .nilptr))) (.cells (itC y (itP I.bid y)))
        change SC _ _ _ _ _ [(2, HV.ptr bx 0), (3, .ptr md 0), (8, ii (k : Int)), (9, .ptr I.nid (k * 4)), (10, .ptr v 0)] ((h1.set v (HObj.cells (itC ⟨0, 0, 0, 0, 0, 0, 0⟩ .nilptr))).set v (.cells [ii 2, ii (w : Int), ii ((0 : Nat) : Int), ii ((0 : Nat) : Int), ii 0, ii (b : Int), ii ((t.st k w : Int) + 1), .ptr (I.bid w) 0]))
        rw [← ey]
        generalize (h1.set v _).set v _ = h2 at s2 ⊢
        clear s1 gm gn gh gs gv h1
        obtain ⟨RR, hRR⟩ : ∃ RR : Lay, RR = (v, HObj.cells (itC y (itP I.bid y))) :: (md, .cells [ii 2, ii fr, ii (b : Int), ii (w : Int), ii nn]) :: (bx, .cells [.ptr I.w 0]) :: R := ⟨_, rfl⟩
        have s2 : Sep h2 (lay I t ++ RR) := by rw [hRR]; exact s2.perm List.perm_middle.symm
        have mv : (v, HObj.cells (itC y (itP I.bid y))) ∈ RR := by rw [hRR]; simp
        have mm : (md, HObj.cells [ii 2, ii fr, ii (b : Int), ii (w : Int), ii nn]) ∈ RR := by rw [hRR]; simp
        have mb : (bx, HObj.cells [.ptr I.w 0]) ∈ RR := by rw [hRR]; simp
        have gm : h2[md]? = some (.cells [ii 2, ii fr, ii (b : Int), ii (w : Int), ii nn]) := s2.get (List.mem_append_right _ mm)
        have gn : h2[I.nid]? = some (nodesO I t.waits) := s2.get (mem_n _)
        have gh : h2[I.hid k]? = some (hereO I (t.here k)) := s2.get (mem_node hkl (by simp [nodeL]) _)
        refine a_dreg0 Try.mixed ?_
        repeat (first | refine a_op (fun _ => rfl) ?_ | refine a_load rfl (by assumption) rfl ?_ | refine a_load_at rfl (by assumption) (by assumption) ?_ | refine a_iaddr_at rfl rfl (by assumption) ?_ | refine a_iaddr_l rfl rfl (by assumption) rfl ?_ | refine st_load_r rfl rfl ?_ | refine a_cmp rfl rfl rfl ?_ | refine a_eqi rfl rfl ?_ | refine st_not rfl ?_ | refine st_pick_t rfl rfl rfl ?_ | refine st_pick_f rfl rfl rfl ?_ | refine st_g rfl ?_ | refine a_gtf rfl ?_ | refine a_gft rfl ?_ | refine a_gu rfl ?_ | refine a_mklist (ec rfl en) (mz mkn) ?_ | refine a_mid ?_)
        refine a_load_fm (i := k) (w := 4) (j := 0) rfl gn (nodeC_len I t.waits) hkl (by decide) rfl ?_
        repeat (first | refine a_op (fun _ => rfl) ?_ | refine a_load rfl (by assumption) rfl ?_ | refine a_load_at rfl (by assumption) (by assumption) ?_ | refine a_iaddr_at rfl rfl (by assumption) ?_ | refine a_iaddr_l rfl rfl (by assumption) rfl ?_ | refine st_load_r rfl rfl ?_ | refine a_cmp rfl rfl rfl ?_ | refine a_eqi rfl rfl ?_ | refine st_not rfl ?_ | refine st_pick_t rfl rfl rfl ?_ | refine st_pick_f rfl rfl rfl ?_ | refine st_g rfl ?_ | refine a_gtf rfl ?_ | refine a_gft rfl ?_ | refine a_gu rfl ?_ | refine a_mklist (ec rfl en) (mz mkn) ?_ | refine a_mid ?_)
        refine a_store_rg (F := hereC I.bid (t.here k)) rfl rfl gh rfl rfl hw ?_
        repeat (first | refine a_op (fun _ => rfl) ?_ | refine a_load rfl (by assumption) rfl ?_ | refine a_load_at rfl (by assumption) (by assumption) ?_ | refine a_iaddr_at rfl rfl (by assumption) ?_ | refine a_iaddr_l rfl rfl (by assumption) rfl ?_ | refine st_load_r rfl rfl ?_ | refine a_cmp rfl rfl rfl ?_ | refine a_eqi rfl rfl ?_ | refine st_not rfl ?_ | refine st_pick_t rfl rfl rfl ?_ | refine st_pick_f rfl rfl rfl ?_ | refine st_g rfl ?_ | refine a_gtf rfl ?_ | refine a_gft rfl ?_ | refine a_gu rfl ?_ | refine a_mklist (ec rfl en) (mz mkn) ?_ | refine a_mid ?_)
        first | refine a_endq (by repeat (first | exact pr_nil | (apply pr_cons; rfl))) ?_ | refine a_end (by repeat (first | exact pr_nil | (apply pr_cons; rfl))) ?_
        obtain ⟨M, pin, pout⟩ := here_at I t hkl RR
        have s3 := (Sep.set (A := []) (B := M) (s2.perm pin) (hereO I (fupd (t.here k) w false))).perm (pout _).symm
        have e2 : fupd (hereC I.bid (t.here k)) w HV.nilptr = hereC I.bid (fupd (t.here k) w false) := hereC_upd I.bid (t.here k) w false
        rw [e2]
        generalize h2.set (I.hid k) _ = h3 at s3 ⊢
        clear pin pout
        have gm : h3[md]? = some (.cells [ii 2, ii fr, ii (b : Int), ii (w : Int), ii nn]) := s3.get (List.mem_append_right _ mm)
        have gv : h3[v]? = some (.cells (itC y (itP I.bid y))) := s3.get (List.mem_append_right _ mv)
        have gn : h3[I.nid]? = some (nodesO I t.waits) := s3.get (mem_n _)
        have gs : h3[I.sid k]? = some (sureO I (t.sn k) (t.st k)) := s3.get (mem_node (t := { t with here := fupd t.here k (fupd (t.here k) w false) }) hkl (by simp [nodeL]) _)
        have yt : y.turn = t.st k w + 1 := by rw [hy]
        refine a_dreg0 Try.mixed ?_
        repeat (first | refine a_op (fun _ => rfl) ?_ | refine a_load rfl (by assumption) rfl ?_ | refine a_load_at rfl (by assumption) (by assumption) ?_ | refine a_iaddr_at rfl rfl (by assumption) ?_ | refine a_iaddr_l rfl rfl (by assumption) rfl ?_ | refine st_load_r rfl rfl ?_ | refine a_cmp rfl rfl rfl ?_ | refine a_eqi rfl rfl ?_ | refine st_not rfl ?_ | refine st_pick_t rfl rfl rfl ?_ | refine st_pick_f rfl rfl rfl ?_ | refine st_g rfl ?_ | refine a_gtf rfl ?_ | refine a_gft rfl ?_ | refine a_gu rfl ?_ | refine a_mklist (ec rfl en) (mz mkn) ?_ | refine a_mid ?_)
        refine a_load_fm (i := k) (w := 4) (j := 1) rfl gn (nodeC_len I t.waits) hkl (by decide) rfl ?_
        repeat (first | refine a_op (fun _ => rfl) ?_ | refine a_load rfl (by assumption) rfl ?_ | refine a_load_at rfl (by assumption) (by assumption) ?_ | refine a_iaddr_at rfl rfl (by assumption) ?_ | refine a_iaddr_l rfl rfl (by assumption) rfl ?_ | refine st_load_r rfl rfl ?_ | refine a_cmp rfl rfl rfl ?_ | refine a_eqi rfl rfl ?_ | refine st_not rfl ?_ | refine st_pick_t rfl rfl rfl ?_ | refine st_pick_f rfl rfl rfl ?_ | refine st_g rfl ?_ | refine a_gtf rfl ?_ | refine a_gft rfl ?_ | refine a_gu rfl ?_ | refine a_mklist (ec rfl en) (mz mkn) ?_ | refine a_mid ?_)
        refine a_iaddr_n rfl rfl hw ?_
        refine a_store_fm (i := w) (w := 2) (j := 0) (F := sureC (t.sn k) (t.st k)) rfl rfl gs (sureC_len _ _) hw (by rfl) (by decide) rfl ?_
        repeat (first | refine a_op (fun _ => rfl) ?_ | refine a_load rfl (by assumption) rfl ?_ | refine a_load_at rfl (by assumption) (by assumption) ?_ | refine a_iaddr_at rfl rfl (by assumption) ?_ | refine a_iaddr_l rfl rfl (by assumption) rfl ?_ | refine st_load_r rfl rfl ?_ | refine a_cmp rfl rfl rfl ?_ | refine a_eqi rfl rfl ?_ | refine st_not rfl ?_ | refine st_pick_t rfl rfl rfl ?_ | refine st_pick_f rfl rfl rfl ?_ | refine st_g rfl ?_ | refine a_gtf rfl ?_ | refine a_gft rfl ?_ | refine a_gu rfl ?_ | refine a_mklist (ec rfl en) (mz mkn) ?_ | refine a_mid ?_)
        first | refine a_endq (by repeat (first | exact pr_nil | (apply pr_cons; rfl))) ?_ | refine a_end (by repeat (first | exact pr_nil | (apply pr_cons; rfl))) ?_
        obtain ⟨M, pin, pout⟩ := sure_at I { t with here := fupd t.here k (fupd (t.here k) w false) } hkl RR
        have s4 := (Sep.set (A := []) (B := M) (s3.perm pin) (sureO I (fupd (t.sn k) w b) (fupd (t.st k) w y.turn))).perm (pout (fupd (t.sn k) w b) (fupd (t.st k) w y.turn)).symm
        have e3 : fupd (sureC (t.sn k) (t.st k)) w (putAt (sureC (t.sn k) (t.st k) w) 0 (HV.agg [ii (b : Int), ii (y.turn : Int)]).cells) = sureC (fupd (t.sn k) w b) (fupd (t.st k) w y.turn) := sureC_upd ..
        change SC _ _ _ _ _ [(2, HV.ptr bx 0), (3, .ptr md 0), (8, ii (k : Int)), (10, .ptr v 0)] (h3.set (I.sid k) (.cells ((List.range I.m).flatMap (fupd (sureC (t.sn k) (t.st k)) w (putAt (sureC (t.sn k) (t.st k) w) 0 (HV.agg [ii (b : Int), ii (y.turn : Int)]).cells)))))
        rw [e3]
        generalize h3.set (I.sid k) _ = h4 at s4 ⊢
        clear pin pout gm gv gn gs gh
        have gm : h4[md]? = some (.cells [ii 2, ii fr, ii (b : Int), ii (w : Int), ii nn]) := s4.get (List.mem_append_right _ mm)
        have gv : h4[v]? = some (.cells (itC y (itP I.bid y))) := s4.get (List.mem_append_right _ mv)
        have gb : h4[bx]? = some (.cells [.ptr I.w 0]) := s4.get (List.mem_append_right _ mb)
        obtain ⟨t1, ht1⟩ : ∃ t1 : Ct, t1 = { t with here := fupd t.here k (fupd (t.here k) w false), sn := fupd t.sn k (fupd (t.sn k) w b), st := fupd t.st k (fupd (t.st k) w y.turn) } := ⟨_, rfl⟩
        have s4 : Sep h4 (lay I t1 ++ RR) := by rw [ht1]; exact s4
        have e4 : t1.g = t.g := by rw [ht1]
        rw [lay_way, e4] at s4
        refine q_reg ?_
        repeat (first | refine a_op (fun _ => rfl) ?_ | refine a_load rfl (by assumption) rfl ?_ | refine a_load_at rfl (by assumption) (by assumption) ?_ | refine a_iaddr_at rfl rfl (by assumption) ?_ | refine a_iaddr_l rfl rfl (by assumption) rfl ?_ | refine st_load_r rfl rfl ?_ | refine a_cmp rfl rfl rfl ?_ | refine a_eqi rfl rfl ?_ | refine st_not rfl ?_ | refine st_pick_t rfl rfl rfl ?_ | refine st_pick_f rfl rfl rfl ?_ | refine st_g rfl ?_ | refine a_gtf rfl ?_ | refine a_gft rfl ?_ | refine a_gu rfl ?_ | refine a_mklist (ec rfl en) (mz mkn) ?_ | refine a_mid ?_)
        refine a_callE (ws := [.ptr I.w 0, ii (k : Int), ii (b : Int), eIt I.bid y]) (ec rfl (ec rfl (ec rfl (ec rfl en)))) (by show [HV.ptr I.w 0, ii (k : Int), ii (b : Int), (HV.agg (itC y (itP I.bid y))).strip1] = _; rw [itA]) (r70 ok.g (by omega) hkb s4 (fun h5 g5 og5 hg5 s5 => ?_))
        repeat (first | refine a_op (fun _ => rfl) ?_ | refine a_load rfl (by assumption) rfl ?_ | refine a_load_at rfl (by assumption) (by assumption) ?_ | refine a_iaddr_at rfl rfl (by assumption) ?_ | refine a_iaddr_l rfl rfl (by assumption) rfl ?_ | refine st_load_r rfl rfl ?_ | refine a_cmp rfl rfl rfl ?_ | refine a_eqi rfl rfl ?_ | refine st_not rfl ?_ | refine st_pick_t rfl rfl rfl ?_ | refine st_pick_f rfl rfl rfl ?_ | refine st_g rfl ?_ | refine a_gtf rfl ?_ | refine a_gft rfl ?_ | refine a_gu rfl ?_ | refine a_mklist (ec rfl en) (mz mkn) ?_ | refine a_mid ?_)
        first | refine a_endq (by repeat (first | exact pr_nil | (apply pr_cons; rfl))) ?_ | refine a_end (by repeat (first | exact pr_nil | (apply pr_cons; rfl))) ?_
        have yo : y.ok I := by rw [hy]; exact ⟨hw, by show 0 < I.K; omega, by show (0 : Nat) ≤ _; omega⟩
        refine sc_ret (bl_r (sq_r (lo_r (bl_r (bl_r (x_ret _ rfl (kk h5 { t1 with g := g5 } ?_ ?_ ?_)))))))
        · rw [ht1]
          refine ⟨fun w => (ok.bod w).le (by omega), og5.le (by omega), fun i => ⟨(ok.waits i).1, by have := (ok.waits i).2; show (t.waits i).l.length ≤ _; omega⟩, ?_, ok.itw, ok.hK, ok.hm⟩
          refine its_of.2 ?_
          rw [hg5]
          exact wadd_its (its_of.1 ok.itg) yo
        · rw [ht1]
          simp only [Ct.abs, hg5, moveF, yt]
          rw [hy]
        · have : Sep h5 (lay I { t1 with g := g5 } ++ RR) := by rw [lay_way]; exact s5
          refine this.sub (List.Sublist.append_left ?_ _)
          rw [hRR]
          exact (List.sublist_cons_self _ _).trans ((List.sublist_cons_self _ _).trans (List.sublist_cons_self _ _))
      · have hh : t.here k w = false := by simpa using hh
        refine a_load_rg (F := hereC I.bid (t.here k)) (v := .nilptr) rfl gh hw (by unfold hereC; rw [hh]; rfl) ?_
        refine st_g rfl (a_eqp0 rfl rfl ?_)
        repeat (first | refine a_op (fun _ => rfl) ?_ | refine a_load rfl (by assumption) rfl ?_ | refine a_load_at rfl (by assumption) (by assumption) ?_ | refine a_iaddr_at rfl rfl (by assumption) ?_ | refine a_iaddr_l rfl rfl (by assumption) rfl ?_ | refine st_load_r rfl rfl ?_ | refine a_cmp rfl rfl rfl ?_ | refine a_eqi rfl rfl ?_ | refine st_not rfl ?_ | refine st_pick_t rfl rfl rfl ?_ | refine st_pick_f rfl rfl rfl ?_ | refine st_g rfl ?_ | refine a_gtf rfl ?_ | refine a_gft rfl ?_ | refine a_gu rfl ?_ | refine a_mklist (ec rfl en) (mz mkn) ?_ | refine a_mid ?_)
        first | refine a_endq (by repeat (first | exact pr_nil | (apply pr_cons; rfl))) ?_ | refine a_end (by repeat (first | exact pr_nil | (apply pr_cons; rfl))) ?_
        refine s_cond_f rfl (sc_skip (bl_n (sq_n (s_reg ?_))))
        repeat (first | refine a_op (fun _ => rfl) ?_ | refine a_load rfl (by assumption) rfl ?_ | refine a_load_at rfl (by assumption) (by assumption) ?_ | refine a_iaddr_at rfl rfl (by assumption) ?_ | refine a_iaddr_l rfl rfl (by assumption) rfl ?_ | refine st_load_r rfl rfl ?_ | refine a_cmp rfl rfl rfl ?_ | refine a_eqi rfl rfl ?_ | refine st_not rfl ?_ | refine st_pick_t rfl rfl rfl ?_ | refine st_pick_f rfl rfl rfl ?_ | refine st_g rfl ?_ | refine a_gtf rfl ?_ | refine a_gft rfl ?_ | refine a_gu rfl ?_ | refine a_mklist (ec rfl en) (mz mkn) ?_ | refine a_mid ?_)
        refine a_add rfl rfl (by first | omega | (dsimp only; omega)) ?_
        repeat (first | refine a_op (fun _ => rfl) ?_ | refine a_load rfl (by assumption) rfl ?_ | refine a_load_at rfl (by assumption) (by assumption) ?_ | refine a_iaddr_at rfl rfl (by assumption) ?_ | refine a_iaddr_l rfl rfl (by assumption) rfl ?_ | refine st_load_r rfl rfl ?_ | refine a_cmp rfl rfl rfl ?_ | refine a_eqi rfl rfl ?_ | refine st_not rfl ?_ | refine st_pick_t rfl rfl rfl ?_ | refine st_pick_f rfl rfl rfl ?_ | refine st_g rfl ?_ | refine a_gtf rfl ?_ | refine a_gft rfl ?_ | refine a_gu rfl ?_ | refine a_mklist (ec rfl en) (mz mkn) ?_ | refine a_mid ?_)
        first | refine a_endq (by repeat (first | exact pr_nil | (apply pr_cons; rfl))) ?_ | refine a_end (by repeat (first | exact pr_nil | (apply pr_cons; rfl))) ?_
        exact nxt (by simp [hh])
  · have hkl : ¬ k < I.K := by have := of_decide_eq_false hz; dsimp only at this; omega
    refine sc_exit (sq_x (lo_x (bl_x (bl_n (x_ret _ rfl (kk h t (ok.le (by omega)) (goF_none (t := t.abs) fun j hj => hno j (by omega)).symm (hs.sub (((List.sublist_cons_self _ _).trans (List.sublist_cons_self _ _)).append_left _))))))))
end Go.Hw.VM

