/- LayoutWords: for every width the layout holds the texts in order, and else only spaces and line feeds: the law answers true; utf8's two tables as the program's text lays them. -/
import Derived.Test.YtcenjonbenlfkaaDoorHwWc
import Derived.Test.YtcenjonbenlfkaaDoorHwF2
import Derived.Test.YtcenjonbenlfkaaDoorCards
import Derived.Test.YtcenjonbenlfkaaDoorTie
import Derived.Lib.LaidIn
import Derived.Lib.LaidU8T
import Derived.PinnedBridge
import Derived.Deep.DeepHandedRow
import Derived.Deep.DeepWitnessRowRef
import Derived.WalkKit
import Derived.ProofKit
import Derived.OpenShut
import Derived.JoinedCond
set_option linter.unusedVariables false
set_option linter.unusedSimpArgs false
namespace Go.Proofs.YtcenjonbenlfkaaDoor.layoutWords
open Go.ChangeShapes Go.WideShapes Go.ChangeAt Go.RowKit Go.Hw

theorem own : ownKnob Tryd.prog.godebug = none := by kernel_rfl
theorem laid : laidOutB Tryd.prog = true := by kernel_rfl
mutual
def hvB : HV → Nat
  | .str s => s.length + 1
  | .list hs _ => hvBs hs + 1
  | .agg cs => hvBs cs
  | _ => 1
def hvBs : List HV → Nat
  | [] => 0
  | x :: r => hvB x + hvBs r
end
theorem hvBs_append : ∀ (a b : List HV), hvBs (a ++ b) = hvBs a + hvBs b
  | [], b => by simp [hvBs]
  | x :: a, b => by simp [hvBs, hvBs_append a b, Nat.add_assoc]
theorem hvBs_cells (x : HV) (ht : isTuple x = false) : hvBs x.cells = hvB x := by
  cases x <;> simp [HV.cells, hvBs, hvB, isTuple] at ht ⊢
mutual
theorem bulk_hv {H : Type} : ∀ d : DataW H, hvB (hvOf d) ≤ Rows.uptoBulk d ∧ isTuple (hvOf d) = false
  | .lit l => by cases l <;> simp [hvOf, hvB, Rows.uptoBulk, isTuple]
  | .nil => by simp [hvOf, hvB, hvBs, Rows.uptoBulk, isTuple]
  | .ptr d => by simp [hvOf, hvB, Rows.uptoBulk, isTuple]
  | .slice elems spare => by
    have := bulk_hvs elems
    simp [hvOf, hvB, Rows.uptoBulk, isTuple]
    omega
  | .agg parts => by
    have := bulk_cells parts
    simp [hvOf, hvB, Rows.uptoBulk, isTuple]
    omega
  | .iface _ d => by simp [hvOf, hvB, Rows.uptoBulk, isTuple]
  | .map e => by simp [hvOf, hvB, Rows.uptoBulk, isTuple]
  | .held _ => by simp [hvOf, hvB, Rows.uptoBulk, isTuple]
theorem bulk_hvs {H : Type} : ∀ ds : List (DataW H), hvBs (hvOfs ds) ≤ Rows.uptoBulkAll ds
  | [] => by simp [hvOfs, hvBs, Rows.uptoBulkAll]
  | d :: r => by
    have h1 := (bulk_hv d).1
    have h2 := bulk_hvs r
    simp [hvOfs, hvBs, Rows.uptoBulkAll]
    omega
theorem bulk_cells {H : Type} : ∀ ds : List (DataW H), hvBs (hvCells ds) ≤ Rows.uptoBulkAll ds
  | [] => by simp [hvCells, hvBs, Rows.uptoBulkAll]
  | d :: r => by
    obtain ⟨h1, h1'⟩ := bulk_hv d
    have h2 := bulk_cells r
    have h3 := hvBs_cells _ h1'
    simp [hvCells, hvBs_append, Rows.uptoBulkAll]
    omega
end
theorem hvBs_map_mem {A : Type} {f : A → HV} : ∀ {l : List A} {a : A}, a ∈ l → hvB (f a) ≤ hvBs (l.map f)
  | b :: l, a, h => by
    simp only [List.map_cons, hvBs]
    rcases List.mem_cons.1 h with rfl | h
    · omega
    · have := hvBs_map_mem (f := f) h; omega
theorem hvBs_map_len {A : Type} {f : A → HV} (hf : ∀ a, 1 ≤ hvB (f a)) : ∀ (l : List A), l.length ≤ hvBs (l.map f)
  | [] => by simp
  | b :: l => by
    have := hvBs_map_len hf l
    have := hf b
    simp only [List.map_cons, hvBs, List.length_cons]; omega
theorem hvB_bytes (s : List UInt8) : hvB (eB s) = s.length + 1 := by
  have : ∀ s : List UInt8, hvBs (bytesOf s) = s.length := by
    intro s
    induction s with
    | nil => rfl
    | cons a s ih =>
      simp only [bytesOf] at ih
      simp [bytesOf, hvBs, hvB, ih]
      omega
  simp [hvB, this]



theorem accept_eq : (Rows.laid_unicode_utf8_acceptRanges : DataW Unit) = Lib.acceptData := by kernel_rfl
/-- WHAT THE ROW's LIST GIVES: utf8's two tables. -/
theorem tables {W : World} (h : laidMetH Tryd.prog Rows.layoutWordsUptoRow.laid W) : Lib.Utf8Tabs 1 2 W := by
  have h1 : Lib.VarReads Tryd.prog W "unicode/utf8.first" Lib.firstData := Go.Pinned.utf8First_eq ▸ Lib.laidMet.reads h (.tail _ (.head _))
  have h2 : Lib.VarReads Tryd.prog W "unicode/utf8.acceptRanges" Lib.acceptData := accept_eq ▸ Lib.laidMet.reads h (.head _)
  exact utf8Tabs_of_readsT (ρ := VL.mρ) (U8Types.of260 { VL.mL with }) ⟨by kernel_rfl, by kernel_rfl, by kernel_rfl, by kernel_rfl, by kernel_rfl, by kernel_rfl, by kernel_rfl⟩ h1 h2
set_option maxRecDepth 100000 in
theorem contract (H : Type) (enc : TypeId × Value → H) (W : World) (base : Nat) (args : Array Value) (ds gs : List (DataW H)) (before : List MemPlace)
    (hval : ∀ (j : Nat) t v, Tryd.f4.params[j]? = some t → args[j]? = some v → Value.okWide Tryd.prog W .any base t v)
    (hW : DataW.Whole enc Tryd.prog Tryd.f4.params.toList Rows.layoutWordsSpec.vars false W args.toList ds gs before) (hk : Rows.uptoSmall H (ds ++ gs) = true) (hL : laidMetH Tryd.prog Rows.layoutWordsUptoRow.laid W) :
    Calls Tryd.prog 4 args W fun e W' => ∃ v, e = .returned v ∧ Rows.layoutWordsSpec.post enc Tryd.prog Tryd.f4 false true false false W args v W' := by
  have hW' := hW
  obtain ⟨p, q, hA0, hV, rfl, hfz, hnd⟩ := hW
  have hA : DataW.TrodAll enc Tryd.prog W 0 (fun _ => true) true Tryd.f4.params.toList args.toList ds p := hA0
  rw [Tryd.params4] at hA
  obtain ⟨v0, vs0, d0, ds0, p0, q0, hargs, rfl, rfl, h0, r0⟩ := trodAll_cons hA
  obtain ⟨v1, vs1, d1, ds1, p1, q1, rfl, rfl, rfl, h1, r1⟩ := trodAll_cons r0
  obtain ⟨rfl, rfl, rfl⟩ := trodAll_nil r1
  obtain ⟨rfl, rfl⟩ := trodVars_none hV
  obtain ⟨l0, e0, b0⟩ := (fun _ h => rd_list (f := (eInt .i64)) (p := (fun n : Int => IntKind.i64.min ≤ n ∧ n ≤ IntKind.i64.max)) Tryd.underlying37 (fun _ h => rd_int Tryd.underlying3 h) h) d0 (rd_of h0)
  obtain ⟨l1, e1, b1⟩ := (fun _ h => rd_int Tryd.underlying3 h) d1 (rd_of h1)
  have hb := bulk_hvs [d0, d1]
  simp only [Rows.uptoSmall, decide_eq_true_eq, List.append_nil] at hk
  simp only [hvOfs, hvBs, e0, e1, hvB] at hb
  have hb := Nat.le_trans hb hk
  have hT : TabOk (K0 W).lim W := VL.utf8_tabs (tables hL)
  refine law_contract (hT := hT) (P := Tryd.prog) (base := base) (fn := Tryd.f4) (s := Rows.layoutWordsSpec) (n := 20) laid rfl (by kernel_rfl) Tryd.underlying4 (by kernel_rfl) ⟨rfl, rfl, rfl⟩ hval hW' ?_
  simp only [List.map_cons, List.map_nil, e0, e1]
  have this := VL.s4 l0 l1 b0.1 (fun x hx => b0.2 x hx) b1
  refine this.call.mono fun x _ hx => ?_
  cases x <;> simp [HV.strip1] at hx ⊢
  exact hx
/-- A WORLD FOR THE WITNESS: the settled one, the two tables holding what their initialisers lay. -/
noncomputable def laidWorld (os : Os) : World :=
  let w0 := World.holding Tryd.prog os ⟨#[], #[], []⟩
  let put (h : Array Obj) (g : Nat) (cs : Array Value) : Array Obj := h.modify g fun
    | .cells _ t frozen => .cells cs t frozen
    | o => o
  let h1 := put w0.heap 1 (Lib.firstTab.map fun z => Value.int .u8 z).toArray
  let h2 := put h1 2 ((List.range 16).flatMap fun i => [Value.int .u8 (Lib.accLo i), Value.int .u8 (Lib.accHi i)]).toArray
  { w0 with heap := h2 }
theorem laid_met (os : Os) (args : Array Value) : laidMet Tryd.prog Rows.layoutWordsUptoRow.laid ((laidWorld os).forCall (fun _ _ => 0) ⟨#[], args, []⟩).memory :=
  (LaidIn.of_run (l := Rows.layoutWordsUptoRow.laid) [2, 1] 8 (by kernel_rfl) (by kernel_rfl) (by kernel_rfl) (by kernel_rfl)).met
theorem reads (os : Os) {H : Type} (enc : TypeId × Value → H) : ∃ places, DataW.whole enc Tryd.prog ((laidWorld os).forCall (fun _ _ => 0) ⟨#[], #[.slice none 0 0, .int .i64 0], []⟩).memory Tryd.f4.params.toList Rows.layoutWordsSpec.vars false (#[.slice none 0 0, .int .i64 0] : Array Value).toList 8 = some ([.nil, .lit (.int .i64 0)], [], places) :=
  ⟨[], by kernel_rfl⟩
set_option maxRecDepth 100000 in
set_option maxHeartbeats 2000000 in
theorem lifted (os : Os) (started : os.Started) (H : Type) (enc : TypeId × Value → H) (F : Stop.Interp) :
    ReturnsInHanded {} Tryd.checked os 4 .any ((Rows.OpenSpec.upto Rows.layoutWordsSpec).preRow enc Tryd.prog Tryd.f4 Rows.layoutWordsUptoRow.domain false Rows.layoutWordsUptoRow.laid) (((Rows.OpenSpec.upto Rows.layoutWordsSpec).at F).post enc Tryd.prog Tryd.f4 false true false false) := by
  obtain ⟨places, hx⟩ := reads os enc
  refine returnsInHanded_of_row (C := Tryd.checked) (s := Rows.OpenSpec.upto Rows.layoutWordsSpec) own started (by kernel_rfl) Tryd.func4
    (witness_row_atRef (enc := enc) (C := Tryd.checked) false (laidWorld os) #[.slice none 0 0, .int .i64 0] rfl (by kernel_rfl) (by kernel_rfl) (by kernel_rfl)
      (OpenSpec.preRow_of_cond 8 hx (by kernel_rfl) (fun k hk => by cases hk; kernel_rfl) (by kernel_rfl) (laid_met os _))) ?_
  intro W base args ds gs before hval hW _ hcond _ hL _ _
  exact contract H enc W base args ds gs before hval hW (hcond _ rfl) hL
theorem saidUpto : Rows.LayoutWordsUptoSaid :=
  OpenClaim.holds_of_cond 4 Tryd.f4 rfl rfl rfl rfl rfl rfl rfl ⟨rfl, rfl, rfl, rfl, rfl⟩ rfl rfl rfl rfl rfl (by kernel_rfl) Tryd.func4 (by kernel_rfl)
    (of_decide_eq_true (by kernel_rfl)) (by unfold Func.isWrapper; first | (rw [if_pos (by decide +kernel)]; kernel_rfl) | (rw [if_neg (by decide +kernel)]; exact ⟨rfl, rfl⟩))
    (fun os started H enc _ F => by rw [OpenClaim.pre_eq_preRow]; exact lifted os started H enc F)
theorem plain (f : FuncId) (fn : Func) (hf : Tryd.pinned.checked.prog.funcNamed "roadstead/roadkeep5.LayoutWords" = some f) (hfn : Tryd.pinned.checked.prog.funcs[f]? = some fn) :
    true = Tryd.pinned.checked.prog.looks [] ∧ ∀ (j : Nat) t, fn.params[j]? = some t → Tryd.pinned.checked.prog.wantsStandIn t = false := by
  obtain rfl : f = 4 := Option.some.inj ((show Tryd.prog.funcNamed "roadstead/roadkeep5.LayoutWords" = some 4 by kernel_rfl).symm.trans hf) |>.symm
  obtain rfl : fn = Tryd.f4 := (Option.some.inj (Tryd.func4.symm.trans hfn)).symm
  refine ⟨by kernel_rfl, fun j t ht => ?_⟩
  rw [Tryd.params4] at ht
  have hm := Array.mem_of_getElem? ht
  have ht2 : t = 37 ∨ t = 3 := by simpa using hm
  rcases ht2 with rfl | rfl
  · exact (show Tryd.prog.wantsStandIn 37 = false by kernel_rfl)
  · exact (show Tryd.prog.wantsStandIn 3 = false by kernel_rfl)
theorem proved : Rows.LayoutWordsUptoCardSaid :=
  Claim7.holds_tied_plain_at .later [] _ _ _ _ saidUpto (fun _ h => by cases h) (by kernel_rfl) (fun _ h => by cases h) layoutWordsUpto_row_tie rfl ⟨rfl, rfl⟩ (by kernel_rfl) rfl plain (by kernel_rfl)
end Go.Proofs.YtcenjonbenlfkaaDoor.layoutWords
