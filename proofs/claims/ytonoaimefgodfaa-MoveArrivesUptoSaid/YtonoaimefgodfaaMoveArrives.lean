/- if no actor moves any more and everything in transit is received, all letters have been delivered and every actor is at a node -/
import Derived.Test.YtonoaimefgodfaaHwMpC
import Derived.Test.YtonoaimefgodfaaHwF2
import Derived.Test.YtonoaimefgodfaaRows
import Derived.WalkKit
import Derived.ProofKit
import Derived.OpenShut
import Derived.JoinedCond
set_option linter.unusedVariables false
set_option linter.unusedSimpArgs false
namespace Go.Proofs.Ytonoaimefgodfaa.moveArrives
open Go.ChangeShapes Go.WideShapes Go.ChangeAt Go.RowKit Go.Hw

theorem own : ownKnob Try.prog.godebug = none := by kernel_rfl
theorem laid : laidOutB Try.prog = true := by kernel_rfl
mutual
def hvB : HV → Nat
  | .str s => s.length + 1
  | .list hs _ => hvBs hs + 1
  | .agg cs => hvBs cs
  | _ => 1
def hvBs : List HV → Nat
  | [] => 0
  | x :: r => hvB x + hvBs r
end
theorem hvBs_append : ∀ (a b : List HV), hvBs (a ++ b) = hvBs a + hvBs b
  | [], b => by simp [hvBs]
  | x :: a, b => by simp [hvBs, hvBs_append a b, Nat.add_assoc]
theorem hvBs_cells (x : HV) (ht : isTuple x = false) : hvBs x.cells = hvB x := by
  cases x <;> simp [HV.cells, hvBs, hvB, isTuple] at ht ⊢
mutual
theorem bulk_hv {H : Type} : ∀ d : DataW H, hvB (hvOf d) ≤ Rows.uptoBulk d ∧ isTuple (hvOf d) = false
  | .lit l => by cases l <;> simp [hvOf, hvB, Rows.uptoBulk, isTuple]
  | .nil => by simp [hvOf, hvB, hvBs, Rows.uptoBulk, isTuple]
  | .ptr d => by simp [hvOf, hvB, Rows.uptoBulk, isTuple]
  | .slice elems spare => by
    have := bulk_hvs elems
    simp [hvOf, hvB, Rows.uptoBulk, isTuple]
    omega
  | .agg parts => by
    have := bulk_cells parts
    simp [hvOf, hvB, Rows.uptoBulk, isTuple]
    omega
  | .iface _ d => by simp [hvOf, hvB, Rows.uptoBulk, isTuple]
  | .map e => by simp [hvOf, hvB, Rows.uptoBulk, isTuple]
  | .held _ => by simp [hvOf, hvB, Rows.uptoBulk, isTuple]
theorem bulk_hvs {H : Type} : ∀ ds : List (DataW H), hvBs (hvOfs ds) ≤ Rows.uptoBulkAll ds
  | [] => by simp [hvOfs, hvBs, Rows.uptoBulkAll]
  | d :: r => by
    have h1 := (bulk_hv d).1
    have h2 := bulk_hvs r
    simp [hvOfs, hvBs, Rows.uptoBulkAll]
    omega
theorem bulk_cells {H : Type} : ∀ ds : List (DataW H), hvBs (hvCells ds) ≤ Rows.uptoBulkAll ds
  | [] => by simp [hvCells, hvBs, Rows.uptoBulkAll]
  | d :: r => by
    obtain ⟨h1, h1'⟩ := bulk_hv d
    have h2 := bulk_cells r
    have h3 := hvBs_cells _ h1'
    simp [hvCells, hvBs_append, Rows.uptoBulkAll]
    omega
end
theorem hvBs_map_mem {A : Type} {f : A → HV} : ∀ {l : List A} {a : A}, a ∈ l → hvB (f a) ≤ hvBs (l.map f)
  | b :: l, a, h => by
    simp only [List.map_cons, hvBs]
    rcases List.mem_cons.1 h with rfl | h
    · omega
    · have := hvBs_map_mem (f := f) h; omega
theorem hvBs_map_len {A : Type} {f : A → HV} (hf : ∀ a, 1 ≤ hvB (f a)) : ∀ (l : List A), l.length ≤ hvBs (l.map f)
  | [] => by simp
  | b :: l => by
    have := hvBs_map_len hf l
    have := hf b
    simp only [List.map_cons, hvBs, List.length_cons]; omega
theorem hvB_bytes (s : List UInt8) : hvB (eB s) = s.length + 1 := by
  have : ∀ s : List UInt8, hvBs (bytesOf s) = s.length := by
    intro s
    induction s with
    | nil => rfl
    | cons a s ih =>
      simp only [bytesOf] at ih
      simp [bytesOf, hvBs, hvB, ih]
      omega
  simp [hvB, this]


theorem rd_GMove_Deed {H : Type} {enc : TypeId × Value → H} {W : World} (d : DataW H) (h : Rd enc Try.prog W 77 d) : ∃ a : VM.GMove_Deed, hvOf d = VM.eGMove_Deed a ∧ (fun a : VM.GMove_Deed => (fun n : Int => IntKind.i64.min ≤ n ∧ n ≤ IntKind.i64.max) a.Kind ∧ (fun n : Int => IntKind.i64.min ≤ n ∧ n ≤ IntKind.i64.max) a.From ∧ (fun n : Int => IntKind.i64.min ≤ n ∧ n ≤ IntKind.i64.max) a.To ∧ (fun n : Int => IntKind.i64.min ≤ n ∧ n ≤ IntKind.i64.max) a.Who ∧ (fun n : Int => IntKind.i64.min ≤ n ∧ n ≤ IntKind.i64.max) a.N) a := by
  obtain ⟨xs, rfl, hn, hx⟩ := rd_struct Try.underlying77 h
  obtain ⟨x0, x1, x2, x3, x4, rfl⟩ : ∃ x0 x1 x2 x3 x4, xs = [x0, x1, x2, x3, x4] := by
    match xs, hn with
    | [x0, x1, x2, x3, x4], _ => exact ⟨_, _, _, _, _, rfl⟩
  obtain ⟨a0, e0, p0⟩ := (fun _ h => rd_int Try.underlying3 h) x0 (hx 0 _ x0 rfl rfl)
  obtain ⟨a1, e1, p1⟩ := (fun _ h => rd_int Try.underlying3 h) x1 (hx 1 _ x1 rfl rfl)
  obtain ⟨a2, e2, p2⟩ := (fun _ h => rd_int Try.underlying3 h) x2 (hx 2 _ x2 rfl rfl)
  obtain ⟨a3, e3, p3⟩ := (fun _ h => rd_int Try.underlying3 h) x3 (hx 3 _ x3 rfl rfl)
  obtain ⟨a4, e4, p4⟩ := (fun _ h => rd_int Try.underlying3 h) x4 (hx 4 _ x4 rfl rfl)
  refine ⟨⟨a0, a1, a2, a3, a4⟩, ?_, p0, p1, p2, p3, p4⟩
  simp only [hvOf, hvCells, e0, e1, e2, e3, e4, HV.cells, VM.eGMove_Deed, List.cons_append, List.nil_append]
set_option maxRecDepth 100000 in
theorem contract (H : Type) (enc : TypeId × Value → H) (W : World) (base : Nat) (args : Array Value) (ds gs : List (DataW H)) (before : List MemPlace)
    (hval : ∀ (j : Nat) t v, Try.f9.params[j]? = some t → args[j]? = some v → Value.okWide Try.prog W .any base t v)
    (hW : DataW.Whole enc Try.prog Try.f9.params.toList Rows.moveArrivesSpec.vars false W args.toList ds gs before) (hk : Rows.uptoSmall H (ds ++ gs) = true) :
    Calls Try.prog 9 args W fun e W' => ∃ v, e = .returned v ∧ Rows.moveArrivesSpec.post enc Try.prog Try.f9 false true false false W args v W' := by
  have hW' := hW
  obtain ⟨p, q, hA0, hV, rfl, hfz, hnd⟩ := hW
  have hA : DataW.TrodAll enc Try.prog W 0 (fun _ => true) true Try.f9.params.toList args.toList ds p := hA0
  rw [Try.params9] at hA
  obtain ⟨v0, vs0, d0, ds0, p0, q0, hargs, rfl, rfl, h0, r0⟩ := trodAll_cons hA
  obtain ⟨v1, vs1, d1, ds1, p1, q1, rfl, rfl, rfl, h1, r1⟩ := trodAll_cons r0
  obtain ⟨v2, vs2, d2, ds2, p2, q2, rfl, rfl, rfl, h2, r2⟩ := trodAll_cons r1
  obtain ⟨rfl, rfl, rfl⟩ := trodAll_nil r2
  obtain ⟨rfl, rfl⟩ := trodVars_none hV
  obtain ⟨l0, e0, b0⟩ := (fun _ h => rd_int Try.underlying3 h) d0 (rd_of h0)
  obtain ⟨l1, e1, b1⟩ := (fun _ h => rd_list (f := (eInt .i64)) (p := (fun n : Int => IntKind.i64.min ≤ n ∧ n ≤ IntKind.i64.max)) Try.underlying32 (fun _ h => rd_int Try.underlying3 h) h) d1 (rd_of h1)
  obtain ⟨l2, e2, b2⟩ := (fun _ h => rd_list (f := VM.eGMove_Deed) (p := (fun a : VM.GMove_Deed => (fun n : Int => IntKind.i64.min ≤ n ∧ n ≤ IntKind.i64.max) a.Kind ∧ (fun n : Int => IntKind.i64.min ≤ n ∧ n ≤ IntKind.i64.max) a.From ∧ (fun n : Int => IntKind.i64.min ≤ n ∧ n ≤ IntKind.i64.max) a.To ∧ (fun n : Int => IntKind.i64.min ≤ n ∧ n ≤ IntKind.i64.max) a.Who ∧ (fun n : Int => IntKind.i64.min ≤ n ∧ n ≤ IntKind.i64.max) a.N)) Try.underlying66 (fun d h => rd_GMove_Deed d h) h) d2 (rd_of h2)
  have hb := bulk_hvs [d0, d1, d2]
  simp only [Rows.uptoSmall, decide_eq_true_eq, List.append_nil] at hk
  simp only [hvOfs, hvBs, e0, e1, e2, hvB] at hb
  have hb := Nat.le_trans hb hk
  refine law_contract (P := Try.prog) (base := base) (fn := Try.f9) (s := Rows.moveArrivesSpec) (n := 20) laid rfl (by kernel_rfl) Try.underlying4 (by kernel_rfl) ⟨rfl, rfl, rfl⟩ hval hW' ?_
  simp only [List.map_cons, List.map_nil, e0, e1, e2]
  have this := VM.s9 b0 (fun x hx => b1.2 x hx) (fun x hx => b2.2 x hx) b1.1 b2.1
  refine this.call.mono fun x _ hx => ?_
  cases x <;> simp [HV.strip1] at hx ⊢
  exact hx
set_option maxRecDepth 100000 in
theorem lifted (os : Os) (started : os.Started) (H : Type) (enc : TypeId × Value → H) (F : Stop.Interp) :
    ReturnsInHanded {} Try.checked os 9 .any ((Rows.OpenSpec.upto Rows.moveArrivesSpec).pre6 enc Try.prog Try.f9 Rows.moveArrivesUptoRow.domain false) (((Rows.OpenSpec.upto Rows.moveArrivesSpec).at F).post enc Try.prog Try.f9 false true false false) := by
  refine returnsInHanded_of_cond (C := Try.checked) (s := Rows.OpenSpec.upto Rows.moveArrivesSpec) (k := Rows.uptoSmall) rfl own started (by kernel_rfl) Try.func9
    (OpenSpec.witness (enc := enc) (C := Try.checked) (s := Rows.OpenSpec.upto Rows.moveArrivesSpec) (k := Rows.uptoSmall) rfl false ⟨#[], #[.int .i64 0, .slice none 0 0, .slice none 0 0], []⟩ 8 (by kernel_rfl) (by kernel_rfl) (by kernel_rfl)
      (x := ([.lit (.int .i64 0), .nil, .nil], [], [])) (by kernel_rfl) rfl (by kernel_rfl)) ?_
  intro W base args ds gs before hval hW _ hk _
  exact contract H enc W base args ds gs before hval hW hk
theorem proved : Rows.MoveArrivesUptoSaid :=
  OpenClaim.holds_of_cond 9 Try.f9 rfl rfl rfl rfl rfl rfl rfl ⟨rfl, rfl, rfl, rfl, rfl⟩ rfl rfl rfl rfl rfl (by kernel_rfl) Try.func9 (by kernel_rfl)
    (of_decide_eq_true (by kernel_rfl)) (by unfold Func.isWrapper; first | (rw [if_pos (by decide +kernel)]; kernel_rfl) | (rw [if_neg (by decide +kernel)]; exact ⟨rfl, rfl⟩))
    (fun os started H enc _ F => lifted os started H enc F)
end Go.Proofs.Ytonoaimefgodfaa.moveArrives
