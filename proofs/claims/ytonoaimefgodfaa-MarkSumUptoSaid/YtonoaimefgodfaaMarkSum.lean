/- MarkSum: a completed snapshot contains exactly the total number of coins: none is lost and none is counted twice. -/
import Derived.Test.YtonoaimefgodfaaHwMkY
import Derived.Test.YtonoaimefgodfaaHwF2
import Derived.Test.YtonoaimefgodfaaRows
import Derived.WalkKit
import Derived.ProofKit
import Derived.OpenShut
import Derived.JoinedCond
set_option linter.unusedVariables false
set_option linter.unusedSimpArgs false
namespace Go.Proofs.Ytonoaimefgodfaa.markSum
open Go.ChangeShapes Go.WideShapes Go.ChangeAt Go.RowKit Go.Hw

theorem own : ownKnob Try.prog.godebug = none := by kernel_rfl
theorem laid : laidOutB Try.prog = true := by kernel_rfl
mutual
def hvB : HV → Nat
  | .str s => s.length + 1
  | .list hs _ => hvBs hs + 1
  | .agg cs => hvBs cs
  | _ => 1
def hvBs : List HV → Nat
  | [] => 0
  | x :: r => hvB x + hvBs r
end
theorem hvBs_append : ∀ (a b : List HV), hvBs (a ++ b) = hvBs a + hvBs b
  | [], b => by simp [hvBs]
  | x :: a, b => by simp [hvBs, hvBs_append a b, Nat.add_assoc]
theorem hvBs_cells (x : HV) (ht : isTuple x = false) : hvBs x.cells = hvB x := by
  cases x <;> simp [HV.cells, hvBs, hvB, isTuple] at ht ⊢
mutual
theorem bulk_hv {H : Type} : ∀ d : DataW H, hvB (hvOf d) ≤ Rows.uptoBulk d ∧ isTuple (hvOf d) = false
  | .lit l => by cases l <;> simp [hvOf, hvB, Rows.uptoBulk, isTuple]
  | .nil => by simp [hvOf, hvB, hvBs, Rows.uptoBulk, isTuple]
  | .ptr d => by simp [hvOf, hvB, Rows.uptoBulk, isTuple]
  | .slice elems spare => by
    have := bulk_hvs elems
    simp [hvOf, hvB, Rows.uptoBulk, isTuple]
    omega
  | .agg parts => by
    have := bulk_cells parts
    simp [hvOf, hvB, Rows.uptoBulk, isTuple]
    omega
  | .iface _ d => by simp [hvOf, hvB, Rows.uptoBulk, isTuple]
  | .map e => by simp [hvOf, hvB, Rows.uptoBulk, isTuple]
  | .held _ => by simp [hvOf, hvB, Rows.uptoBulk, isTuple]
theorem bulk_hvs {H : Type} : ∀ ds : List (DataW H), hvBs (hvOfs ds) ≤ Rows.uptoBulkAll ds
  | [] => by simp [hvOfs, hvBs, Rows.uptoBulkAll]
  | d :: r => by
    have h1 := (bulk_hv d).1
    have h2 := bulk_hvs r
    simp [hvOfs, hvBs, Rows.uptoBulkAll]
    omega
theorem bulk_cells {H : Type} : ∀ ds : List (DataW H), hvBs (hvCells ds) ≤ Rows.uptoBulkAll ds
  | [] => by simp [hvCells, hvBs, Rows.uptoBulkAll]
  | d :: r => by
    obtain ⟨h1, h1'⟩ := bulk_hv d
    have h2 := bulk_cells r
    have h3 := hvBs_cells _ h1'
    simp [hvCells, hvBs_append, Rows.uptoBulkAll]
    omega
end
theorem hvBs_map_mem {A : Type} {f : A → HV} : ∀ {l : List A} {a : A}, a ∈ l → hvB (f a) ≤ hvBs (l.map f)
  | b :: l, a, h => by
    simp only [List.map_cons, hvBs]
    rcases List.mem_cons.1 h with rfl | h
    · omega
    · have := hvBs_map_mem (f := f) h; omega
theorem hvBs_map_len {A : Type} {f : A → HV} (hf : ∀ a, 1 ≤ hvB (f a)) : ∀ (l : List A), l.length ≤ hvBs (l.map f)
  | [] => by simp
  | b :: l => by
    have := hvBs_map_len hf l
    have := hf b
    simp only [List.map_cons, hvBs, List.length_cons]; omega
theorem hvB_bytes (s : List UInt8) : hvB (eB s) = s.length + 1 := by
  have : ∀ s : List UInt8, hvBs (bytesOf s) = s.length := by
    intro s
    induction s with
    | nil => rfl
    | cons a s ih =>
      simp only [bytesOf] at ih
      simp [bytesOf, hvBs, hvB, ih]
      omega
  simp [hvB, this]


theorem rd_GMark_Deed {H : Type} {enc : TypeId × Value → H} {W : World} (d : DataW H) (h : Rd enc Try.prog W 94 d) : ∃ a : VK.GMark_Deed, hvOf d = VK.eGMark_Deed a ∧ (fun a : VK.GMark_Deed => (fun n : Int => IntKind.i64.min ≤ n ∧ n ≤ IntKind.i64.max) a.Kind ∧ (fun n : Int => IntKind.i64.min ≤ n ∧ n ≤ IntKind.i64.max) a.From ∧ (fun n : Int => IntKind.i64.min ≤ n ∧ n ≤ IntKind.i64.max) a.To ∧ (fun n : Int => IntKind.i64.min ≤ n ∧ n ≤ IntKind.i64.max) a.N) a := by
  obtain ⟨xs, rfl, hn, hx⟩ := rd_struct Try.underlying94 h
  obtain ⟨x0, x1, x2, x3, rfl⟩ : ∃ x0 x1 x2 x3, xs = [x0, x1, x2, x3] := by
    match xs, hn with
    | [x0, x1, x2, x3], _ => exact ⟨_, _, _, _, rfl⟩
  obtain ⟨a0, e0, p0⟩ := (fun _ h => rd_int Try.underlying3 h) x0 (hx 0 _ x0 rfl rfl)
  obtain ⟨a1, e1, p1⟩ := (fun _ h => rd_int Try.underlying3 h) x1 (hx 1 _ x1 rfl rfl)
  obtain ⟨a2, e2, p2⟩ := (fun _ h => rd_int Try.underlying3 h) x2 (hx 2 _ x2 rfl rfl)
  obtain ⟨a3, e3, p3⟩ := (fun _ h => rd_int Try.underlying3 h) x3 (hx 3 _ x3 rfl rfl)
  refine ⟨⟨a0, a1, a2, a3⟩, ?_, p0, p1, p2, p3⟩
  simp only [hvOf, hvCells, e0, e1, e2, e3, HV.cells, VK.eGMark_Deed, List.cons_append, List.nil_append]
set_option maxRecDepth 100000 in
theorem contract (H : Type) (enc : TypeId × Value → H) (W : World) (base : Nat) (args : Array Value) (ds gs : List (DataW H)) (before : List MemPlace)
    (hval : ∀ (j : Nat) t v, Try.f11.params[j]? = some t → args[j]? = some v → Value.okWide Try.prog W .any base t v)
    (hW : DataW.Whole enc Try.prog Try.f11.params.toList Rows.markSumSpec.vars false W args.toList ds gs before) (hk : Rows.uptoSmall H (ds ++ gs) = true) :
    Calls Try.prog 11 args W fun e W' => ∃ v, e = .returned v ∧ Rows.markSumSpec.post enc Try.prog Try.f11 false true false false W args v W' := by
  have hW' := hW
  obtain ⟨p, q, hA0, hV, rfl, hfz, hnd⟩ := hW
  have hA : DataW.TrodAll enc Try.prog W 0 (fun _ => true) true Try.f11.params.toList args.toList ds p := hA0
  rw [Try.params11] at hA
  obtain ⟨v0, vs0, d0, ds0, p0, q0, hargs, rfl, rfl, h0, r0⟩ := trodAll_cons hA
  obtain ⟨v1, vs1, d1, ds1, p1, q1, rfl, rfl, rfl, h1, r1⟩ := trodAll_cons r0
  obtain ⟨rfl, rfl, rfl⟩ := trodAll_nil r1
  obtain ⟨rfl, rfl⟩ := trodVars_none hV
  obtain ⟨l0, e0, b0⟩ := (fun _ h => rd_list (f := (eInt .i64)) (p := (fun n : Int => IntKind.i64.min ≤ n ∧ n ≤ IntKind.i64.max)) Try.underlying32 (fun _ h => rd_int Try.underlying3 h) h) d0 (rd_of h0)
  obtain ⟨l1, e1, b1⟩ := (fun _ h => rd_list (f := VK.eGMark_Deed) (p := (fun a : VK.GMark_Deed => (fun n : Int => IntKind.i64.min ≤ n ∧ n ≤ IntKind.i64.max) a.Kind ∧ (fun n : Int => IntKind.i64.min ≤ n ∧ n ≤ IntKind.i64.max) a.From ∧ (fun n : Int => IntKind.i64.min ≤ n ∧ n ≤ IntKind.i64.max) a.To ∧ (fun n : Int => IntKind.i64.min ≤ n ∧ n ≤ IntKind.i64.max) a.N)) Try.underlying84 (fun d h => rd_GMark_Deed d h) h) d1 (rd_of h1)
  have hb := bulk_hvs [d0, d1]
  simp only [Rows.uptoSmall, decide_eq_true_eq, List.append_nil] at hk
  simp only [hvOfs, hvBs, e0, e1, hvB] at hb
  have hb := Nat.le_trans hb hk
  refine law_contract (P := Try.prog) (base := base) (fn := Try.f11) (s := Rows.markSumSpec) (n := 20) laid rfl (by kernel_rfl) Try.underlying4 (by kernel_rfl) ⟨rfl, rfl, rfl⟩ hval hW' ?_
  simp only [List.map_cons, List.map_nil, e0, e1]
  have this := VK.s11 (fun x hx => b0.2 x hx) (fun x hx => b1.2 x hx) b0.1 b1.1
  refine this.call.mono fun x _ hx => ?_
  cases x <;> simp [HV.strip1] at hx ⊢
  exact hx
set_option maxRecDepth 100000 in
theorem lifted (os : Os) (started : os.Started) (H : Type) (enc : TypeId × Value → H) (F : Stop.Interp) :
    ReturnsInHanded {} Try.checked os 11 .any ((Rows.OpenSpec.upto Rows.markSumSpec).pre6 enc Try.prog Try.f11 Rows.markSumUptoRow.domain false) (((Rows.OpenSpec.upto Rows.markSumSpec).at F).post enc Try.prog Try.f11 false true false false) := by
  refine returnsInHanded_of_cond (C := Try.checked) (s := Rows.OpenSpec.upto Rows.markSumSpec) (k := Rows.uptoSmall) rfl own started (by kernel_rfl) Try.func11
    (OpenSpec.witness (enc := enc) (C := Try.checked) (s := Rows.OpenSpec.upto Rows.markSumSpec) (k := Rows.uptoSmall) rfl false ⟨#[], #[.slice none 0 0, .slice none 0 0], []⟩ 8 (by kernel_rfl) (by kernel_rfl) (by kernel_rfl)
      (x := ([.nil, .nil], [], [])) (by kernel_rfl) rfl (by kernel_rfl)) ?_
  intro W base args ds gs before hval hW _ hk _
  exact contract H enc W base args ds gs before hval hW hk
theorem proved : Rows.MarkSumUptoSaid :=
  OpenClaim.holds_of_cond 11 Try.f11 rfl rfl rfl rfl rfl rfl rfl ⟨rfl, rfl, rfl, rfl, rfl⟩ rfl rfl rfl rfl rfl (by kernel_rfl) Try.func11 (by kernel_rfl)
    (of_decide_eq_true (by kernel_rfl)) (by unfold Func.isWrapper; first | (rw [if_pos (by decide +kernel)]; kernel_rfl) | (rw [if_neg (by decide +kernel)]; exact ⟨rfl, rfl⟩))
    (fun os started H enc _ F => lifted os started H enc F)
end Go.Proofs.Ytonoaimefgodfaa.markSum
