/- VersionBack: a set is read as it was written; its ends are in it. -/
import Derived.Test.YtcenjonbenlfkaaDoorHwX9
import Derived.Test.YtcenjonbenlfkaaDoorHwF2
import Derived.Test.YtcenjonbenlfkaaDoorCards
import Derived.Test.YtcenjonbenlfkaaDoorTie
import Derived.Lib.LaidIn
import Derived.Lib.LaidTab
import Derived.Stop.LaidErr
import Derived.PinnedBridge
import Derived.Deep.DeepHandedRow
import Derived.Deep.DeepWitnessRowRef
import Derived.WalkKit
import Derived.ProofKit
import Derived.OpenShut
import Derived.JoinedCond
set_option linter.unusedVariables false
set_option linter.unusedSimpArgs false
namespace Go.Proofs.YtcenjonbenlfkaaDoor.versionBack
open Go.ChangeShapes Go.WideShapes Go.ChangeAt Go.RowKit Go.Hw

theorem own : ownKnob Tryd.prog.godebug = none := by kernel_rfl
theorem laid : laidOutB Tryd.prog = true := by kernel_rfl
mutual
def hvB : HV → Nat
  | .str s => s.length + 1
  | .list hs _ => hvBs hs + 1
  | .agg cs => hvBs cs
  | _ => 1
def hvBs : List HV → Nat
  | [] => 0
  | x :: r => hvB x + hvBs r
end
theorem hvBs_append : ∀ (a b : List HV), hvBs (a ++ b) = hvBs a + hvBs b
  | [], b => by simp [hvBs]
  | x :: a, b => by simp [hvBs, hvBs_append a b, Nat.add_assoc]
theorem hvBs_cells (x : HV) (ht : isTuple x = false) : hvBs x.cells = hvB x := by
  cases x <;> simp [HV.cells, hvBs, hvB, isTuple] at ht ⊢
mutual
theorem bulk_hv {H : Type} : ∀ d : DataW H, hvB (hvOf d) ≤ Rows.uptoBulk d ∧ isTuple (hvOf d) = false
  | .lit l => by cases l <;> simp [hvOf, hvB, Rows.uptoBulk, isTuple]
  | .nil => by simp [hvOf, hvB, hvBs, Rows.uptoBulk, isTuple]
  | .ptr d => by simp [hvOf, hvB, Rows.uptoBulk, isTuple]
  | .slice elems spare => by
    have := bulk_hvs elems
    simp [hvOf, hvB, Rows.uptoBulk, isTuple]
    omega
  | .agg parts => by
    have := bulk_cells parts
    simp [hvOf, hvB, Rows.uptoBulk, isTuple]
    omega
  | .iface _ d => by simp [hvOf, hvB, Rows.uptoBulk, isTuple]
  | .map e => by simp [hvOf, hvB, Rows.uptoBulk, isTuple]
  | .held _ => by simp [hvOf, hvB, Rows.uptoBulk, isTuple]
theorem bulk_hvs {H : Type} : ∀ ds : List (DataW H), hvBs (hvOfs ds) ≤ Rows.uptoBulkAll ds
  | [] => by simp [hvOfs, hvBs, Rows.uptoBulkAll]
  | d :: r => by
    have h1 := (bulk_hv d).1
    have h2 := bulk_hvs r
    simp [hvOfs, hvBs, Rows.uptoBulkAll]
    omega
theorem bulk_cells {H : Type} : ∀ ds : List (DataW H), hvBs (hvCells ds) ≤ Rows.uptoBulkAll ds
  | [] => by simp [hvCells, hvBs, Rows.uptoBulkAll]
  | d :: r => by
    obtain ⟨h1, h1'⟩ := bulk_hv d
    have h2 := bulk_cells r
    have h3 := hvBs_cells _ h1'
    simp [hvCells, hvBs_append, Rows.uptoBulkAll]
    omega
end
theorem hvBs_map_mem {A : Type} {f : A → HV} : ∀ {l : List A} {a : A}, a ∈ l → hvB (f a) ≤ hvBs (l.map f)
  | b :: l, a, h => by
    simp only [List.map_cons, hvBs]
    rcases List.mem_cons.1 h with rfl | h
    · omega
    · have := hvBs_map_mem (f := f) h; omega
theorem hvBs_map_len {A : Type} {f : A → HV} (hf : ∀ a, 1 ≤ hvB (f a)) : ∀ (l : List A), l.length ≤ hvBs (l.map f)
  | [] => by simp
  | b :: l => by
    have := hvBs_map_len hf l
    have := hf b
    simp only [List.map_cons, hvBs, List.length_cons]; omega
theorem hvB_bytes (s : List UInt8) : hvB (eB s) = s.length + 1 := by
  have : ∀ s : List UInt8, hvBs (bytesOf s) = s.length := by
    intro s
    induction s with
    | nil => rfl
    | cons a s ih =>
      simp only [bytesOf] at ih
      simp [bytesOf, hvBs, hvB, ih]
      omega
  simp [hvB, this]


theorem rd_GVersion_Range {H : Type} {enc : TypeId × Value → H} {W : World} (d : DataW H) (h : Rd enc Tryd.prog W 34 d) : ∃ a : VX.GVersion_Range, hvOf d = VX.eGVersion_Range a ∧ (fun a : VX.GVersion_Range => (fun n : Int => IntKind.i64.min ≤ n ∧ n ≤ IntKind.i64.max) a.Low ∧ (fun n : Int => IntKind.i64.min ≤ n ∧ n ≤ IntKind.i64.max) a.High) a := by
  obtain ⟨xs, rfl, hn, hx⟩ := rd_struct Tryd.underlying34 h
  obtain ⟨x0, x1, rfl⟩ : ∃ x0 x1, xs = [x0, x1] := by
    match xs, hn with
    | [x0, x1], _ => exact ⟨_, _, rfl⟩
  obtain ⟨a0, e0, p0⟩ := (fun _ h => rd_int Tryd.underlying3 h) x0 (hx 0 _ x0 rfl rfl)
  obtain ⟨a1, e1, p1⟩ := (fun _ h => rd_int Tryd.underlying3 h) x1 (hx 1 _ x1 rfl rfl)
  refine ⟨⟨a0, a1⟩, ?_, p0, p1⟩
  simp only [hvOf, hvCells, e0, e1, HV.cells, VX.eGVersion_Range, List.cons_append, List.nil_append]
theorem pow_eq : (Rows.laid_internal_strconv_uint64pow10 : DataW Unit) = Lib.tabData .u64 Lib.pow10Tab := by kernel_rfl
/-- WHAT THE ROW's LIST GIVES: strconv's powers of ten. -/
theorem tables {W : World} (h : laidMetH Tryd.prog Rows.versionBackUptoRow.laid W) : Lib.TabIs Tryd.prog W "internal/strconv.uint64pow10" .u64 Lib.pow10Tab := by
  have h1 : laidMet Tryd.prog Rows.versionBackUptoRow.laid W := h
  have h2 := laidMet.tail (laidMet.tail h1)
  rw [pow_eq] at h2
  exact Lib.tabIs_of_head (g := 3) (t := 145) (e := 105) (n := 20) (by kernel_rfl) (by kernel_rfl) (by kernel_rfl) (by kernel_rfl) (by kernel_rfl) (by kernel_rfl) h2
set_option maxRecDepth 100000 in
theorem contract (H : Type) (enc : TypeId × Value → H) (W : World) (base : Nat) (args : Array Value) (ds gs : List (DataW H)) (before : List MemPlace)
    (hval : ∀ (j : Nat) t v, Tryd.f3.params[j]? = some t → args[j]? = some v → Value.okWide Tryd.prog W .any base t v)
    (hW : DataW.Whole enc Tryd.prog Tryd.f3.params.toList Rows.versionBackSpec.vars false W args.toList ds gs before) (hk : Rows.uptoSmall H (ds ++ gs) = true) (hL : laidMetH Tryd.prog Rows.versionBackUptoRow.laid W) :
    Calls Tryd.prog 3 args W fun e W' => ∃ v, e = .returned v ∧ Rows.versionBackSpec.post enc Tryd.prog Tryd.f3 false true false false W args v W' := by
  have hW' := hW
  obtain ⟨p, q, hA0, hV, rfl, hfz, hnd⟩ := hW
  have hA : DataW.TrodAll enc Tryd.prog W 0 (fun _ => true) true Tryd.f3.params.toList args.toList ds p := hA0
  rw [Tryd.params3] at hA
  obtain ⟨v0, vs0, d0, ds0, p0, q0, hargs, rfl, rfl, h0, r0⟩ := trodAll_cons hA
  obtain ⟨rfl, rfl, rfl⟩ := trodAll_nil r0
  obtain ⟨rfl, rfl⟩ := trodVars_none hV
  obtain ⟨l0, e0, b0⟩ := (fun _ h => rd_list (f := VX.eGVersion_Range) (p := (fun a : VX.GVersion_Range => (fun n : Int => IntKind.i64.min ≤ n ∧ n ≤ IntKind.i64.max) a.Low ∧ (fun n : Int => IntKind.i64.min ≤ n ∧ n ≤ IntKind.i64.max) a.High)) Tryd.underlying22 (fun d h => rd_GVersion_Range d h) h) d0 (rd_of h0)
  have hb := bulk_hvs [d0]
  simp only [Rows.uptoSmall, decide_eq_true_eq, List.append_nil] at hk
  simp only [hvOfs, hvBs, e0, hvB] at hb
  have hb := Nat.le_trans hb hk
  have hT : TabOk (K0 W) W := VX.rows_ok (tables hL)
  refine law_contract (hT := hT) (P := Tryd.prog) (base := base) (fn := Tryd.f3) (s := Rows.versionBackSpec) (n := 20) laid rfl (by kernel_rfl) Tryd.underlying4 (by kernel_rfl) ⟨rfl, rfl, rfl⟩ hval hW' ?_
  simp only [List.map_cons, List.map_nil, e0]
  have hl0 := hvBs_map_len (f := VX.eGVersion_Range) (fun a => by simp [VX.eGVersion_Range, hvB, hvBs]) l0
  have this := VX.back_call l0 b0.2 (by omega)
  refine this.call.mono fun x _ hx => ?_
  cases x <;> simp [HV.strip1] at hx ⊢
  exact hx
def lits (d : DataW Unit) : List Value := match d with
  | .agg l => l.filterMap fun | .lit (.int k z) => some (.int k z) | _ => none
  | _ => []
/-- A WORLD FOR THE WITNESS: the settled one, the variables holding what their initialisers lay. -/
noncomputable def laidWorld (os : Os) : World :=
  let w0 := World.holding Tryd.prog os ⟨#[], #[], []⟩
  let put (h : Array Obj) (g : Nat) (cs : Array Value) : Array Obj := h.modify g fun
    | .cells _ t frozen => .cells cs t frozen
    | o => o
  let n := w0.heap.size
  let h1 := put w0.heap 1 (Lib.firstTab.map fun z => Value.int .u8 z).toArray
  let h2 := put h1 2 ((List.range 16).flatMap fun i => [Value.int .u8 (Lib.accLo i), Value.int .u8 (Lib.accHi i)]).toArray
  let h3 := put h2 3 (lits Rows.laid_internal_strconv_uint64pow10).toArray
  let h4 := put h3 4 #[.iface 157 (.pointer (some ⟨n, 0, none⟩))]
  let h5 := put h4 5 #[.iface 157 (.pointer (some ⟨n + 1, 0, none⟩))]
  let h6 := put h5 6 (lits Rows.laid_math_bits_deBruijn32tab).toArray
  let h7 := put h6 7 (lits Rows.laid_math_bits_deBruijn64tab).toArray
  { w0 with heap := (h7.push (.cells #[.string ⟨#[105, 110, 118, 97, 108, 105, 100, 32, 115, 121, 110, 116, 97, 120]⟩] 159)).push (.cells #[.string ⟨#[118, 97, 108, 117, 101, 32, 111, 117, 116, 32, 111, 102, 32, 114, 97, 110, 103, 101]⟩] 159) }
theorem laid_met (os : Os) (args : Array Value) : laidMet Tryd.prog Rows.versionBackUptoRow.laid ((laidWorld os).forCall (fun _ _ => 0) ⟨#[], args, []⟩).memory :=
  (LaidIn.of_run (l := Rows.versionBackUptoRow.laid) [0, 1, 2, 3, 4, 5, 6, 7, 8, 9, 10, 11, 12, 13, 14, 15, 16, 17, 18, 19, 20, 21, 22, 23, 24, 25, 26, 27, 28, 29, 30, 31, 32, 33, 34, 35, 36, 37, 38, 39, 40, 41, 42, 43, 44, 45, 46, 47, 48, 49, 50, 51, 52, 53, 54, 55, 56, 57, 58, 59, 60, 61, 62, 63] 8 (by kernel_rfl) (by kernel_rfl) (by kernel_rfl) (by kernel_rfl)).met
theorem reads (os : Os) {H : Type} (enc : TypeId × Value → H) : ∃ places, DataW.whole enc Tryd.prog ((laidWorld os).forCall (fun _ _ => 0) ⟨#[], #[.slice none 0 0], []⟩).memory Tryd.f3.params.toList Rows.versionBackSpec.vars false (#[.slice none 0 0] : Array Value).toList 8 = some ([.nil], [], places) :=
  ⟨[], by kernel_rfl⟩
set_option maxRecDepth 100000 in
set_option maxHeartbeats 2000000 in
theorem lifted (os : Os) (started : os.Started) (H : Type) (enc : TypeId × Value → H) (F : Stop.Interp) :
    ReturnsInHanded {} Tryd.checked os 3 .any ((Rows.OpenSpec.upto Rows.versionBackSpec).preRow enc Tryd.prog Tryd.f3 Rows.versionBackUptoRow.domain false Rows.versionBackUptoRow.laid) (((Rows.OpenSpec.upto Rows.versionBackSpec).at F).post enc Tryd.prog Tryd.f3 false true false false) := by
  obtain ⟨places, hx⟩ := reads os enc
  refine returnsInHanded_of_row (C := Tryd.checked) (s := Rows.OpenSpec.upto Rows.versionBackSpec) own started (by kernel_rfl) Tryd.func3
    (witness_row_atRef (enc := enc) (C := Tryd.checked) false (laidWorld os) #[.slice none 0 0] rfl (by kernel_rfl) (by kernel_rfl) (by kernel_rfl)
      (OpenSpec.preRow_of_cond 8 hx (by kernel_rfl) (fun k hk => by cases hk; kernel_rfl) (by kernel_rfl) (laid_met os _))) ?_
  intro W base args ds gs before hval hW _ hcond _ hL _ _
  exact contract H enc W base args ds gs before hval hW (hcond _ rfl) hL
theorem saidUpto : Rows.VersionBackUptoSaid :=
  OpenClaim.holds_of_cond 3 Tryd.f3 rfl rfl rfl rfl rfl rfl rfl ⟨rfl, rfl, rfl, rfl, rfl⟩ rfl rfl rfl rfl rfl (by kernel_rfl) Tryd.func3 (by kernel_rfl)
    (of_decide_eq_true (by kernel_rfl)) (by unfold Func.isWrapper; first | (rw [if_pos (by decide +kernel)]; kernel_rfl) | (rw [if_neg (by decide +kernel)]; exact ⟨rfl, rfl⟩))
    (fun os started H enc _ F => by rw [OpenClaim.pre_eq_preRow]; exact lifted os started H enc F)
theorem plain (f : FuncId) (fn : Func) (hf : Tryd.pinned.checked.prog.funcNamed "roadstead/roadkeep5.VersionBack" = some f) (hfn : Tryd.pinned.checked.prog.funcs[f]? = some fn) :
    true = Tryd.pinned.checked.prog.looks [] ∧ ∀ (j : Nat) t, fn.params[j]? = some t → Tryd.pinned.checked.prog.wantsStandIn t = false := by
  obtain rfl : f = 3 := Option.some.inj ((show Tryd.prog.funcNamed "roadstead/roadkeep5.VersionBack" = some 3 by kernel_rfl).symm.trans hf) |>.symm
  obtain rfl : fn = Tryd.f3 := (Option.some.inj (Tryd.func3.symm.trans hfn)).symm
  refine ⟨by kernel_rfl, fun j t ht => ?_⟩
  rw [Tryd.params3] at ht
  have hm := Array.mem_of_getElem? ht
  have ht2 : t = 22 := by simpa using hm
  rcases ht2 with rfl
  · exact (show Tryd.prog.wantsStandIn 22 = false by kernel_rfl)
theorem proved : Rows.VersionBackUptoCardSaid :=
  Claim7.holds_tied_plain_at .later [] _ _ _ _ saidUpto (fun _ h => by cases h) (by kernel_rfl) (fun _ h => by cases h) versionBackUpto_row_tie rfl ⟨rfl, rfl⟩ (by kernel_rfl) rfl plain (by kernel_rfl)
end Go.Proofs.YtcenjonbenlfkaaDoor.versionBack
