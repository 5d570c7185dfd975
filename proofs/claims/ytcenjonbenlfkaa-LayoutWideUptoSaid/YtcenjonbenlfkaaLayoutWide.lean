/- LayoutWide: a group that fits is one line, and outside all groups every possible break is a break: the law answers true, for every list of whole numbers. -/
import Derived.Test.YtcenjonbenlfkaaHwLf
import Derived.Test.YtcenjonbenlfkaaHwF2
import Derived.Test.YtcenjonbenlfkaaRows
import Derived.WalkKit
import Derived.ProofKit
import Derived.OpenShut
import Derived.JoinedCond
set_option linter.unusedVariables false
set_option linter.unusedSimpArgs false
namespace Go.Proofs.Ytcenjonbenlfkaa.layoutWide
open Go.ChangeShapes Go.WideShapes Go.ChangeAt Go.RowKit Go.Hw

theorem own : ownKnob Try.prog.godebug = none := by kernel_rfl
theorem laid : laidOutB Try.prog = true := by kernel_rfl
mutual
def hvB : HV → Nat
  | .str s => s.length + 1
  | .list hs _ => hvBs hs + 1
  | .agg cs => hvBs cs
  | _ => 1
def hvBs : List HV → Nat
  | [] => 0
  | x :: r => hvB x + hvBs r
end
theorem hvBs_append : ∀ (a b : List HV), hvBs (a ++ b) = hvBs a + hvBs b
  | [], b => by simp [hvBs]
  | x :: a, b => by simp [hvBs, hvBs_append a b, Nat.add_assoc]
theorem hvBs_cells (x : HV) (ht : isTuple x = false) : hvBs x.cells = hvB x := by
  cases x <;> simp [HV.cells, hvBs, hvB, isTuple] at ht ⊢
mutual
theorem bulk_hv {H : Type} : ∀ d : DataW H, hvB (hvOf d) ≤ Rows.uptoBulk d ∧ isTuple (hvOf d) = false
  | .lit l => by cases l <;> simp [hvOf, hvB, Rows.uptoBulk, isTuple]
  | .nil => by simp [hvOf, hvB, hvBs, Rows.uptoBulk, isTuple]
  | .ptr d => by simp [hvOf, hvB, Rows.uptoBulk, isTuple]
  | .slice elems spare => by
    have := bulk_hvs elems
    simp [hvOf, hvB, Rows.uptoBulk, isTuple]
    omega
  | .agg parts => by
    have := bulk_cells parts
    simp [hvOf, hvB, Rows.uptoBulk, isTuple]
    omega
  | .iface _ d => by simp [hvOf, hvB, Rows.uptoBulk, isTuple]
  | .map e => by simp [hvOf, hvB, Rows.uptoBulk, isTuple]
  | .held _ => by simp [hvOf, hvB, Rows.uptoBulk, isTuple]
theorem bulk_hvs {H : Type} : ∀ ds : List (DataW H), hvBs (hvOfs ds) ≤ Rows.uptoBulkAll ds
  | [] => by simp [hvOfs, hvBs, Rows.uptoBulkAll]
  | d :: r => by
    have h1 := (bulk_hv d).1
    have h2 := bulk_hvs r
    simp [hvOfs, hvBs, Rows.uptoBulkAll]
    omega
theorem bulk_cells {H : Type} : ∀ ds : List (DataW H), hvBs (hvCells ds) ≤ Rows.uptoBulkAll ds
  | [] => by simp [hvCells, hvBs, Rows.uptoBulkAll]
  | d :: r => by
    obtain ⟨h1, h1'⟩ := bulk_hv d
    have h2 := bulk_cells r
    have h3 := hvBs_cells _ h1'
    simp [hvCells, hvBs_append, Rows.uptoBulkAll]
    omega
end
theorem hvBs_map_mem {A : Type} {f : A → HV} : ∀ {l : List A} {a : A}, a ∈ l → hvB (f a) ≤ hvBs (l.map f)
  | b :: l, a, h => by
    simp only [List.map_cons, hvBs]
    rcases List.mem_cons.1 h with rfl | h
    · omega
    · have := hvBs_map_mem (f := f) h; omega
theorem hvBs_map_len {A : Type} {f : A → HV} (hf : ∀ a, 1 ≤ hvB (f a)) : ∀ (l : List A), l.length ≤ hvBs (l.map f)
  | [] => by simp
  | b :: l => by
    have := hvBs_map_len hf l
    have := hf b
    simp only [List.map_cons, hvBs, List.length_cons]; omega
theorem hvB_bytes (s : List UInt8) : hvB (eB s) = s.length + 1 := by
  have : ∀ s : List UInt8, hvBs (bytesOf s) = s.length := by
    intro s
    induction s with
    | nil => rfl
    | cons a s ih =>
      simp only [bytesOf] at ih
      simp [bytesOf, hvBs, hvB, ih]
      omega
  simp [hvB, this]



set_option maxRecDepth 100000 in
theorem contract (H : Type) (enc : TypeId × Value → H) (W : World) (base : Nat) (args : Array Value) (ds gs : List (DataW H)) (before : List MemPlace)
    (hval : ∀ (j : Nat) t v, Try.f6.params[j]? = some t → args[j]? = some v → Value.okWide Try.prog W .any base t v)
    (hW : DataW.Whole enc Try.prog Try.f6.params.toList Rows.layoutWideSpec.vars false W args.toList ds gs before) (hk : Rows.uptoSmall H (ds ++ gs) = true) :
    Calls Try.prog 6 args W fun e W' => ∃ v, e = .returned v ∧ Rows.layoutWideSpec.post enc Try.prog Try.f6 false true false false W args v W' := by
  have hW' := hW
  obtain ⟨p, q, hA0, hV, rfl, hfz, hnd⟩ := hW
  have hA : DataW.TrodAll enc Try.prog W 0 (fun _ => true) true Try.f6.params.toList args.toList ds p := hA0
  rw [Try.params6] at hA
  obtain ⟨v0, vs0, d0, ds0, p0, q0, hargs, rfl, rfl, h0, r0⟩ := trodAll_cons hA
  obtain ⟨rfl, rfl, rfl⟩ := trodAll_nil r0
  obtain ⟨rfl, rfl⟩ := trodVars_none hV
  obtain ⟨l0, e0, b0⟩ := (fun _ h => rd_list (f := (eInt .i64)) (p := (fun n : Int => IntKind.i64.min ≤ n ∧ n ≤ IntKind.i64.max)) Try.underlying36 (fun _ h => rd_int Try.underlying3 h) h) d0 (rd_of h0)
  have hb := bulk_hvs [d0]
  simp only [Rows.uptoSmall, decide_eq_true_eq, List.append_nil] at hk
  simp only [hvOfs, hvBs, e0, hvB] at hb
  have hb := Nat.le_trans hb hk
  refine law_contract (P := Try.prog) (base := base) (fn := Try.f6) (s := Rows.layoutWideSpec) (n := 20) laid rfl (by kernel_rfl) Try.underlying4 (by kernel_rfl) ⟨rfl, rfl, rfl⟩ hval hW' ?_
  simp only [List.map_cons, List.map_nil, e0]
  have this := VL.s6 l0 b0.1 (fun x hx => b0.2 x hx)
  refine this.call.mono fun x _ hx => ?_
  cases x <;> simp [HV.strip1] at hx ⊢
  exact hx
set_option maxRecDepth 100000 in
theorem lifted (os : Os) (started : os.Started) (H : Type) (enc : TypeId × Value → H) (F : Stop.Interp) :
    ReturnsInHanded {} Try.checked os 6 .any ((Rows.OpenSpec.upto Rows.layoutWideSpec).pre6 enc Try.prog Try.f6 Rows.layoutWideUptoRow.domain false) (((Rows.OpenSpec.upto Rows.layoutWideSpec).at F).post enc Try.prog Try.f6 false true false false) := by
  refine returnsInHanded_of_cond (C := Try.checked) (s := Rows.OpenSpec.upto Rows.layoutWideSpec) (k := Rows.uptoSmall) rfl own started (by kernel_rfl) Try.func6
    (OpenSpec.witness (enc := enc) (C := Try.checked) (s := Rows.OpenSpec.upto Rows.layoutWideSpec) (k := Rows.uptoSmall) rfl false ⟨#[], #[.slice none 0 0], []⟩ 8 (by kernel_rfl) (by kernel_rfl) (by kernel_rfl)
      (x := ([.nil], [], [])) (by kernel_rfl) rfl (by kernel_rfl)) ?_
  intro W base args ds gs before hval hW _ hk _
  exact contract H enc W base args ds gs before hval hW hk
theorem proved : Rows.LayoutWideUptoSaid :=
  OpenClaim.holds_of_cond 6 Try.f6 rfl rfl rfl rfl rfl rfl rfl ⟨rfl, rfl, rfl, rfl, rfl⟩ rfl rfl rfl rfl rfl (by kernel_rfl) Try.func6 (by kernel_rfl)
    (of_decide_eq_true (by kernel_rfl)) (by unfold Func.isWrapper; first | (rw [if_pos (by decide +kernel)]; kernel_rfl) | (rw [if_neg (by decide +kernel)]; exact ⟨rfl, rfl⟩))
    (fun os started H enc _ F => lifted os started H enc F)
end Go.Proofs.Ytcenjonbenlfkaa.layoutWide
