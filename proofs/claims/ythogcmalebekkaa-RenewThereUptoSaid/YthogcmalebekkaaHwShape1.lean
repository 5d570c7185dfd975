import Derived.Test.YthogcmalebekkaaHwR1
set_option linter.unusedVariables false
set_option linter.unusedSimpArgs false
namespace Go.Hw.VR
open Go Go.Proofs
abbrev Ty := GTy
abbrev Da := GDa
abbrev Mk := GMk

def rest (n m : Int) : Int := (if n < 0 then -(n + 1) else n).tmod m
theorem s12 {n m : Int} (h : R64 n) (hm : m ≠ 0) : sp12 n m (rest n m) := by
  unfold R64 at h
  refine ok12 n m _ ⟨fun v => v = if n < 0 then -(n + 1) else n, ⟨fun hn => ?_, fun hn => ?_⟩, ?_⟩
  · refine ⟨by unfold R64; omega, fun v hv => ?_⟩
    subst hv
    refine ⟨by omega, fun v hv => ?_⟩
    rw [if_pos hn]; exact hv
  · rw [if_neg (by omega)]
  · rintro v rfl
    exact ⟨hm, fun v hv => hv⟩
theorem rest_range (n : Int) {m : Int} (hm : 0 < m) : 0 ≤ rest n m ∧ rest n m < m := by
  unfold rest
  have h : 0 ≤ (if n < 0 then -(n + 1) else n) := by split <;> omega
  rw [Int.tmod_eq_emod_of_nonneg h]
  exact ⟨Int.emod_nonneg _ (by omega), Int.emod_lt_of_pos _ hm⟩
theorem ty_eta (t : Ty) : GTy.mk t.Kind t.Name t.Args = t := by cases t; rfl
theorem s26 (k : Int) : sp26 k ⟨k, [], []⟩ := ok26 k _ rfl
theorem s27 (s : List UInt8) (l : List Ty) : sp27 s l ⟨6, s, l⟩ := ok27 s l _ rfl

def tOne (k : Int) : Ty := ⟨k, [], []⟩
def tD : Ty := ⟨6, [68], []⟩
def tL (t : Ty) : Ty := ⟨6, [76], [t]⟩
def tE : Ty := ⟨6, [69], []⟩
def tA : Ty := ⟨5, [97], []⟩
def tC (t : Ty) : Ty := ⟨9, [], [t]⟩
def dataD (k : Int) : Da := ⟨[68], [], [⟨[88], [tD]⟩, ⟨[89], [tOne k]⟩, ⟨[90], []⟩]⟩
def dataL (z : Bool) : Da := ⟨[76], [[97]], [⟨[78], if z then [tD] else []⟩, ⟨[67], [tA, tL tA]⟩]⟩
def dataE : Da := ⟨[69], [], [⟨[87], [tL tD, tOne 3]⟩]⟩
def datas (k : Int) (z : Bool) : List Da := [dataD k, dataL z, dataE]
def t9 : List Ty := [tOne 1, tOne 2, tOne 3, tOne 4, tD, tL (tOne 1), tL (tL tD), tE, tC tD]
def selStep (bits : Int) (acc : List (List UInt8) × List Ty) (x : Ty × Nat) : List (List UInt8) × List Ty :=
  if iop .and .i64 (iop .shr .i64 bits x.2) 1 = 1 ∧ (acc.1.length : Int) < 6 then (acc.1 ++ [[UInt8.ofNat (IntKind.wrap .u8 (102 + x.2)).toNat]], acc.2 ++ [x.1]) else acc
def sel (bits : Int) : List (List UInt8) × List Ty := t9.zipIdx.foldl (selStep bits) ([], [])
def progF (n : Int) : GPr :=
  ⟨[109], 1, [], datas (1 + rest n 2) (rest (n.tdiv 2) 4 == 0), [], [], [],
    [⟨[65], (sel (1 + rest (n.tdiv 16) 511)).1, (sel (1 + rest (n.tdiv 16) 511)).2, (t9[(rest (n.tdiv 8) 2).toNat]?).getD (tOne 1), ⟨1, 0, [], [], [], [], [], 0⟩⟩]⟩

theorem tdiv_r64 {n m : Int} (h : R64 n) (hm : 2 ≤ m) : R64 (n.tdiv m) := by
  unfold R64 at *
  rcases Int.lt_or_le n 0 with h0 | h0
  · have e : n.tdiv m = -((-n).tdiv m) := by rw [Int.neg_tdiv, Int.neg_neg]
    have h1 : 0 ≤ (-n).tdiv m := Int.tdiv_nonneg (by omega) (by omega)
    have h2 : (-n).tdiv m ≤ -n := Int.tdiv_le_self _ (by omega)
    rw [e]; omega
  · have h1 : 0 ≤ n.tdiv m := Int.tdiv_nonneg h0 (by omega)
    have h2 : n.tdiv m ≤ n := Int.tdiv_le_self _ h0
    omega
theorem s11 {n : Int} (h : R64 n) : sp11 n (progF n) := by
  have r2 := rest_range n (m := 2) (by omega)
  have d2 := tdiv_r64 h (m := 2) (by omega)
  have d8 := tdiv_r64 h (m := 8) (by omega)
  have d16 := tdiv_r64 h (m := 16) (by omega)
  have r8 := rest_range (n.tdiv 8) (m := 2) (by omega)
  have r16 := rest_range (n.tdiv 16) (m := 511) (by omega)
  refine ok11 n _ ⟨_, s27 _ _, _, s12 h (by omega), by unfold R64; omega, fun v hv => ?_⟩
  subst hv
  refine ⟨_, s26 _, by simp, fun v6 hv6 => ?_⟩
  have hv6' : v6 = [dataD (1 + rest n 2)] := by rw [hv6]; rfl
  refine ⟨_, s27 _ _, by rw [hv6']; simp, ?_⟩
  refine ⟨fun d => d = [dataD (1 + rest n 2), dataL (rest (n.tdiv 2) 4 == 0)], ⟨⟨by omega, d2⟩, ?_⟩, ?_⟩
  · rintro _ rfl
    refine ⟨_, s12 d2 (by omega), fun h0 => ?_, fun h0 => ?_⟩
    · refine ⟨by rw [hv6']; rfl, _, s27 _ _, by simp, by simp, by simp, by simp, ?_⟩
      rw [hv6', h0]; rfl
    · have : (rest (n.tdiv 2) 4 == 0) = false := by simpa using h0
      rw [hv6', this]; rfl
  · rintro d rfl
    refine ⟨_, s27 _ _, _, s27 _ _, _, s26 _, by simp, fun v17 hv17 => ?_⟩
    refine ⟨_, s26 _, _, s26 _, _, s26 _, _, s26 _, _, s27 _ _, _, s26 _, _, s27 _ _, _, s27 _ _, _, s27 _ _, _, s27 _ _, _, s27 _ _, _, s27 _ _, ⟨by omega, d8⟩, ?_⟩
    rintro _ rfl
    refine ⟨_, s12 d8 (by omega), ⟨by omega, by simp; omega⟩, fun a32 ha32 => ⟨⟨by omega, d16⟩, ?_⟩⟩
    rintro _ rfl
    refine ⟨_, s12 d16 (by omega), by unfold R64; omega, ?_⟩
    rintro _ rfl
    generalize hb : 1 + rest (n.tdiv 16) 511 = bits
    change t9[(rest (n.tdiv 8) 2).toNat]? = some a32 at ha32
    refine ⟨fun a b i => 0 ≤ i ∧ i ≤ 9 ∧ (a, b) = (t9.zipIdx.take i.toNat).foldl (selStep bits) ([], []) ∧ a.length ≤ 6 ∧ b.length = a.length, fun _ _ i => (9 - i).toNat, ⟨by omega, by omega, by simp, by simp, rfl⟩, ?_⟩
    rintro a b i ⟨h0, h9, hab, hal, hbl⟩ v rfl
    refine ⟨fun hi => ?_, fun hi => ?_⟩
    · have hi9 : i < 9 := by simpa using hi
      refine ⟨⟨h0, by simpa using hi9⟩, fun t ht => ?_⟩
      change t9[i.toNat]? = some t at ht
      have htk : t9.zipIdx.take (i + 1).toNat = t9.zipIdx.take i.toNat ++ [(t, i.toNat)] := by
        rw [show (i + 1).toNat = i.toNat + 1 by omega, List.take_add_one]
        congr 1
        simp [List.getElem?_zipIdx, ht]
      have hcast : ((i.toNat : Nat) : Int) = i := by omega
      have hstep : (t9.zipIdx.take (i + 1).toNat).foldl (selStep bits) ([], []) = selStep bits (a, b) (t, i.toNat) := by rw [htk, List.foldl_append, ← hab]; rfl
      refine ⟨by simp [ibinOk]; omega, ?_⟩
      rintro _ rfl
      refine ⟨by simp [ibinOk], ?_⟩
      rintro _ rfl
      refine ⟨fun h1 => ⟨fun h6 => ?_, fun h6 => ?_⟩, fun h1 => ?_⟩
      · refine ⟨by unfold R64; omega, ?_⟩
        rintro _ rfl _ rfl
        refine ⟨?_, by simp; omega, ?_⟩
        · intro m hm
          simp only [List.mem_singleton] at hm
          subst hm
          simp only [IntKind.wrap, IntKind.bits, IntKind.signed]
          simp
          omega
        rintro _ rfl
        refine ⟨by simp; omega, ?_⟩
        rintro _ rfl
        refine ⟨by unfold R64; omega, ?_⟩
        rintro _ rfl
        refine ⟨⟨by omega, by omega, ?_, by simp; omega, by simp; omega⟩, by simp only; omega⟩
        rw [hstep]
        simp only [selStep, hcast]
        rw [if_pos ⟨h1, h6⟩, ty_eta]
        rfl
      · refine ⟨by unfold R64; omega, ?_⟩
        rintro _ rfl
        refine ⟨⟨by omega, by omega, ?_, hal, hbl⟩, by simp only; omega⟩
        rw [hstep]
        simp only [selStep, hcast]
        rw [if_neg (fun h => by omega)]
      · refine ⟨by unfold R64; omega, ?_⟩
        rintro _ rfl
        refine ⟨⟨by omega, by omega, ?_, hal, hbl⟩, by simp only; omega⟩
        rw [hstep]
        simp only [selStep, hcast]
        rw [if_neg (fun h => h1 h.1)]
    · have hi9 : i = 9 := by simp at hi; omega
      subst hi9
      have hsel : (a, b) = sel bits := by rw [hab]; rfl
      have h1 : a = (sel bits).1 := congrArg Prod.fst hsel
      have h2 : b = (sel bits).2 := congrArg Prod.snd hsel
      unfold progF
      rw [hb, ha32, hv17, h1, h2, ty_eta]
      rfl
end Go.Hw.VR

