import Derived.Test.YthikpbaphpdpfaaHwVal2
set_option linter.unusedVariables false
set_option linter.unusedSimpArgs false
namespace Go.Hw.VB
open Go Go.Proofs

abbrev Rd := Gvreader
theorem rdeta (r : Rd) : Gvreader.mk r.rest r.bad r.left = r := rfl
theorem iop_or (a b : Nat) (ha : a < 18446744073709551616) (hb : b < 18446744073709551616) : iop .or .u64 (a : Int) (b : Int) = ((a ||| b : Nat) : Int) := by
  show IntKind.wrap .u64 ((BitVec.ofInt 64 (a : Int) ||| BitVec.ofInt 64 (b : Int)).toNat : Int) = _
  rw [BitVec.toNat_or, BitVec.toNat_ofInt, BitVec.toNat_ofInt]
  have e1 : ((a : Int) % ((2 ^ 64 : Nat) : Int)).toNat = a := by omega
  have e2 : ((b : Int) % ((2 ^ 64 : Nat) : Int)).toNat = b := by omega
  rw [e1, e2, wrap_u64]
  have : a ||| b < 2 ^ 64 := Nat.or_lt_two_pow (by omega) (by omega)
  omega
theorem iop_shl (a i : Nat) (hi : i ≤ 64) : iop .shl .u64 (a : Int) (i : Int) = ((a * 2 ^ i % 18446744073709551616 : Nat) : Int) := by
  show IntKind.wrap .u64 ((a : Int) * 2 ^ (min (i : Int).toNat 64)) = _
  rw [wrap_u64, Int.toNat_natCast, Nat.min_eq_left hi]
  rw [Int.natCast_emod, Int.natCast_mul, Int.natCast_pow]
  rfl
theorem and_127 : ∀ m : Nat, m < 256 → iop .and .u8 (m : Int) 127 = ((m % 128 : Nat) : Int) := by decide +kernel
theorem iop_and1 (a : Nat) (ha : a < 18446744073709551616) : iop .and .u64 (a : Int) 1 = ((a % 2 : Nat) : Int) := by
  show IntKind.wrap .u64 ((BitVec.ofInt 64 (a : Int) &&& BitVec.ofInt 64 1).toNat : Int) = _
  rw [BitVec.toNat_and, BitVec.toNat_ofInt]
  have e1 : ((a : Int) % ((2 ^ 64 : Nat) : Int)).toNat = a := by omega
  have e2 : (BitVec.ofInt 64 1).toNat = 1 := by decide
  rw [e1, e2, Nat.and_one_is_mod, wrap_u64]
  omega
theorem iop_shr1 (a : Nat) : iop .shr .u64 (a : Int) 1 = ((a / 2 : Nat) : Int) := by
  simp only [iop, ibin, IntKind.bits]
  have : (2 : Int) ^ (min (1 : Int).toNat 64) = 2 := by decide
  rw [this, Int.fdiv_eq_ediv_of_nonneg _ (by omega)]
  omega
theorem iop_xor_i0 (a : Nat) (ha : a < 9223372036854775808) : iop .xor .i64 (a : Int) 0 = a := by
  show IntKind.wrap .i64 ((BitVec.ofInt 64 (a : Int) ^^^ BitVec.ofInt 64 0).toNat : Int) = a
  rw [bv_xor_zero a (by omega)]
  exact wrap64_of (by omega) (by omega)
theorem iop_xor_i1 (a : Nat) (ha : a < 9223372036854775808) : iop .xor .i64 (a : Int) (-1) = -(a : Int) - 1 := by
  show IntKind.wrap .i64 ((BitVec.ofInt 64 (a : Int) ^^^ BitVec.ofInt 64 (-1)).toNat : Int) = _
  have e : BitVec.ofInt 64 (-1) = BitVec.ofInt 64 18446744073709551615 := by decide
  rw [e, bv_xor_ones a (by omega)]
  simp only [IntKind.wrap, IntKind.bits, IntKind.signed, Bool.true_and, decide_eq_true_eq, Nat.reduceSub, Int.reducePow, ge_iff_le]
  split <;> omega


def byteF (r : Rd) : Nat × Rd :=
  match r.rest with
  | [] => (0, ⟨[], true, r.left⟩)
  | c :: s => (c.toNat, ⟨s, r.bad, r.left⟩)
theorem byteF_lt (r : Rd) : (byteF r).1 < 256 := by
  unfold byteF
  split
  · simp
  · rename_i c s _; have := c.toNat_lt; simpa using this
theorem byte_call (r : Rd) (hr : r.rest.length ≤ B) : sp90 r (((byteF r).1 : Int), (byteF r).2) := by
  obtain ⟨rest, bad, left⟩ := r
  refine ok90 _ _ ?_
  unfold w90 byteF
  unfold B at hr
  dsimp only at hr ⊢
  refine ⟨fun h => ?_, fun h => ?_⟩
  · have : rest = [] := List.eq_nil_of_length_eq_zero (by omega)
    subst this
    rfl
  · cases rest with
    | nil => simp at h
    | cons c s =>
      refine ⟨by simp, fun a ha => ?_⟩
      simp at ha
      subst ha
      refine ⟨by simp; omega, ?_⟩
      rintro _ rfl
      simp
def natL : Nat → Nat → Nat → Rd → Nat × Rd
  | 0, _, _, r => (0, ⟨r.rest, true, r.left⟩)
  | k + 1, i, n, r => if r.bad = true then (0, ⟨r.rest, true, r.left⟩) else
    if (byteF r).1 < 128 then (n ||| ((byteF r).1 % 128 * 2 ^ i % 18446744073709551616), (byteF r).2) else natL k (i + 7) (n ||| ((byteF r).1 % 128 * 2 ^ i % 18446744073709551616)) (byteF r).2
def natF (r : Rd) : Nat × Rd := natL 10 0 0 r
theorem byteF_rest (r : Rd) : (byteF r).2.rest.length ≤ r.rest.length ∧ (byteF r).2.left = r.left := by
  unfold byteF
  split
  · rename_i h; simp [h]
  · rename_i c s h; simp [h]
theorem or_lt {a b : Nat} (ha : a < 18446744073709551616) : a ||| (b % 18446744073709551616) < 18446744073709551616 :=
  Nat.or_lt_two_pow (n := 64) (by omega) (by omega)
theorem natL_ok : ∀ k i n r, n < 18446744073709551616 → (natL k i n r).1 < 18446744073709551616 ∧ (natL k i n r).2.rest.length ≤ r.rest.length ∧ (natL k i n r).2.left = r.left
  | 0, _, _, r, _ => ⟨by simp [natL], by simp [natL], rfl⟩
  | k + 1, i, n, r, hn => by
    have hb := byteF_rest r
    rw [natL]
    split
    · exact ⟨by simp, by simp, rfl⟩
    · split
      · exact ⟨or_lt hn, hb.1, hb.2⟩
      · obtain ⟨h1, h2, h3⟩ := natL_ok k (i + 7) (n ||| ((byteF r).1 % 128 * 2 ^ i % 18446744073709551616)) (byteF r).2 (or_lt hn)
        exact ⟨h1, by omega, by rw [h3, hb.2]⟩
theorem natF_ok (r : Rd) : (natF r).1 < 18446744073709551616 ∧ (natF r).2.rest.length ≤ r.rest.length ∧ (natF r).2.left = r.left := natL_ok 10 0 0 r (by omega)
theorem natR_call (r : Rd) (hr : r.rest.length ≤ B) : sp54 r (((natF r).1 : Int), (natF r).2) := by
  refine ok54 _ _ ?_
  unfold w54
  refine ⟨fun rest bad left n i t => natF r = (0, ⟨rest, true, left⟩), ⟨fun rest bad left n i => ∃ k i' n' : Nat, i = i' ∧ i' + 7 * k = 70 ∧ n = n' ∧ n' < 18446744073709551616 ∧ rest.length ≤ B ∧ natL k i' n' ⟨rest, bad, left⟩ = natF r, fun _ _ _ _ i => (70 - i).toNat, ⟨10, 0, 0, rfl, rfl, rfl, by omega, hr, rfl⟩, ?_⟩, ?_⟩
  · rintro rest bad left _ _ ⟨k, i, n, rfl, hik, rfl, hn, hre, he⟩
    refine ⟨fun h70 => ⟨fun hb => ?_, fun hb => ?_⟩, fun h70 => ?_⟩
    · obtain ⟨k, rfl⟩ : ∃ k', k = k' + 1 := ⟨k - 1, by omega⟩
      rw [natL, if_neg (by simpa using hb)] at he
      have hlt := byteF_lt ⟨rest, bad, left⟩
      have hrr := byteF_rest ⟨rest, bad, left⟩
      refine ⟨_, byte_call ⟨rest, bad, left⟩ hre, trivial, ?_⟩
      rintro _ rfl
      dsimp only
      rw [and_127 _ hlt]
      rintro _ rfl
      have e1 : IntKind.wrap .u64 (((byteF ⟨rest, bad, left⟩).1 % 128 : Nat) : Int) = (((byteF ⟨rest, bad, left⟩).1 % 128 : Nat) : Int) := by rw [wrap_u64]; omega
      rw [e1]
      refine ⟨by simp [ibinOk], ?_⟩
      rintro _ rfl
      rw [iop_shl _ i (by omega)]
      refine ⟨trivial, ?_⟩
      rintro _ rfl
      rw [iop_or _ _ hn (Nat.mod_lt _ (by omega))]
      generalize byteF ⟨rest, bad, left⟩ = c at *
      obtain ⟨c, r2⟩ := c
      dsimp only at *
      refine ⟨fun hc => ?_, fun hc => ⟨by omega, ?_⟩⟩
      · rw [if_pos (by omega)] at he
        rw [← he]
      · rintro _ rfl
        rw [if_neg (by omega)] at he
        exact ⟨⟨k, i + 7, _, by omega, by omega, rfl, or_lt hn, by omega, he⟩, by omega⟩
    · cases k with
      | zero => rw [natL] at he; exact he.symm
      | succ k => rw [natL, if_pos (by simpa using hb)] at he; exact he.symm
    · have : k = 0 := by omega
      subst this
      rw [natL] at he
      exact he.symm
  · rintro rest bad left n i t h
    rw [h]
    rfl
def manyF (most : Nat) (r : Rd) : Nat × Rd := if most < (natF r).1 then (0, ⟨(natF r).2.rest, true, (natF r).2.left⟩) else natF r
theorem many_call (r : Rd) (most : Nat) (hm : most < 9223372036854775808) (hr : r.rest.length ≤ B) : sp56 r most (((manyF most r).1 : Int), (manyF most r).2) := by
  refine ok56 _ _ _ ?_
  unfold w56 manyF
  rw [rdeta]
  refine ⟨_, natR_call r hr, ?_⟩
  rintro _ rfl
  have e1 : IntKind.wrap .u64 (most : Int) = most := by rw [wrap_u64]; omega
  rw [e1]
  dsimp only
  refine ⟨fun h => ?_, fun h => ?_⟩
  · rw [if_pos (by omega)]; rfl
  · rintro _ rfl
    rw [if_neg (by omega)]
    rw [wrap64_of (by omega) (by omega)]
theorem manyF_ok (most : Nat) (r : Rd) : (manyF most r).1 ≤ most ∧ (manyF most r).2.rest.length ≤ r.rest.length ∧ (manyF most r).2.left = r.left := by
  have h := natF_ok r
  unfold manyF
  split
  · exact ⟨by simp, by simpa using h.2.1, h.2.2⟩
  · exact ⟨by omega, h.2⟩
def unzig (n : Nat) : Int := if n % 2 = 0 then (n / 2 : Nat) else -((n / 2 : Nat) : Int) - 1
theorem unzig_zig (n : Int) : unzig (zig n) = n := by
  unfold unzig zig
  split <;> split <;> omega
theorem unzig_ok {n : Nat} (h : n < 18446744073709551616) : I64 (unzig n) := by
  unfold unzig I64
  split <;> omega
theorem numR_call (r : Rd) (hr : r.rest.length ≤ B) : sp57 r (unzig (natF r).1, (natF r).2) := by
  refine ok57 _ _ ?_
  unfold w57
  rw [rdeta]
  have hn := (natF_ok r).1
  refine ⟨_, natR_call r hr, by simp [ibinOk], ?_⟩
  generalize natF r = q at *
  obtain ⟨n, r2⟩ := q
  dsimp only at *
  rw [iop_shr1]
  rintro _ rfl _ rfl
  rw [wrap64_of (by omega) (by omega)]
  refine ⟨trivial, ?_⟩
  rw [iop_and1 n hn]
  rintro _ rfl _ rfl
  rw [wrap64_of (by omega) (by omega)]
  refine ⟨by omega, ?_⟩
  rintro _ rfl
  refine ⟨trivial, ?_⟩
  rintro _ rfl
  unfold unzig
  split
  · rename_i h
    rw [h]
    have := iop_xor_i0 (n / 2) (by omega)
    simp only [Int.natCast_zero, Int.neg_zero]
    rw [this]
  · have h : n % 2 = 1 := by omega
    rw [h]
    have := iop_xor_i1 (n / 2) (by omega)
    simp only [Int.natCast_one]
    rw [this]
def textF (r : Rd) : List UInt8 × Rd :=
  let q := manyF 4000 r
  if q.2.rest.length < q.1 then ([], ⟨q.2.rest, true, q.2.left⟩) else (q.2.rest.take q.1, ⟨q.2.rest.drop q.1, q.2.bad, q.2.left⟩)
theorem textR_call (r : Rd) (hr : r.rest.length ≤ B) : sp91 r (textF r) := by
  refine ok91 _ _ ?_
  unfold w91 textF
  rw [rdeta]
  have hm := manyF_ok 4000 r
  refine ⟨_, many_call r 4000 (by omega) hr, ?_⟩
  dsimp only
  generalize manyF 4000 r = q at *
  obtain ⟨n, r2⟩ := q
  dsimp only at *
  refine ⟨fun h => ?_, fun h => ⟨by omega, ?_⟩⟩
  · rw [if_pos (by omega)]
  · rintro _ rfl
    refine ⟨by omega, ?_⟩
    rintro _ rfl
    rw [if_neg (by omega)]
    simp
theorem textF_ok (r : Rd) : (textF r).1.length ≤ 4000 ∧ (textF r).2.rest.length ≤ r.rest.length ∧ (textF r).2.left = r.left := by
  have h := manyF_ok 4000 r
  unfold textF
  dsimp only
  split
  · exact ⟨by simp, by simpa using h.2.1, h.2.2⟩
  · refine ⟨by simp; omega, by simp; omega, h.2.2⟩
def zeroV : Vl := ⟨0, 0, [], []⟩
def partsL (g : Rd → Vl × Rd) : Nat → Rd → List Vl → List Vl × Rd
  | 0, r, acc => (acc, r)
  | n + 1, r, acc => if r.bad = true then (acc, r) else partsL g n (g r).2 (acc ++ [(g r).1])
def partF : Nat → Rd → Vl × Rd
  | 0, r => (zeroV, ⟨r.rest, true, r.left - 1⟩)
  | f + 1, r => if r.bad = true ∨ r.left - 1 < 0 then (zeroV, ⟨r.rest, true, r.left - 1⟩) else
    let a := byteF ⟨r.rest, false, r.left - 1⟩
    let n := natF a.2
    let t := textF n.2
    let m := manyF 400 t.2
    let l := partsL (partF f) m.1 m.2 []
    (⟨a.1, unzig n.1, t.1, l.1⟩, l.2)
structure Read (f : Nat) (r : Rd) (q : Vl × Rd) : Prop where
  rest : q.2.rest.length ≤ r.rest.length
  nodes : (nodes q.1 : Int) = r.left - q.2.left
  left : q.2.bad = false → 0 ≤ q.2.left
  low : 0 ≤ r.left → -1 ≤ q.2.left
  depth : depth q.1 ≤ f + 1
  long : long q.1 ≤ 4000
  num : AllV NumOk q.1
  kind : AllV KindOk q.1
  len : AllV (fun v => v.Args.length ≤ 400) q.1
theorem zero_read (f : Nat) (r : Rd) : Read f r (zeroV, ⟨r.rest, true, r.left - 1⟩) := by
  have e : zeroV.Args = [] := rfl
  refine ⟨Nat.le_refl _, ?_, by simp, fun h => by dsimp only; omega, ?_, ?_, ?_, ?_, ?_⟩
  · rw [nodes_eq, e, nodess]; dsimp only; omega
  · rw [depth_eq, e, depths]; omega
  · rw [long_eq, e, longs]; simp [zeroV]
  · rw [allv_iff, e]; exact ⟨by unfold NumOk I64 zeroV; dsimp only; omega, by simp⟩
  · rw [allv_iff, e]; exact ⟨by unfold KindOk zeroV; dsimp only; omega, by simp⟩
  · rw [allv_iff, e]; exact ⟨by simp [e], by simp⟩
structure Reads (f : Nat) (l0 : Int) (n0 : Nat) (r : Rd) (acc : List Vl) : Prop where
  rest : r.rest.length ≤ n0
  nodes : (nodess acc : Int) = l0 - r.left
  left : r.bad = false → 0 ≤ r.left
  low : -1 ≤ r.left
  depth : depths acc ≤ f + 1
  long : longs acc ≤ 4000
  num : ∀ a ∈ acc, AllV NumOk a
  kind : ∀ a ∈ acc, AllV KindOk a
  len : ∀ a ∈ acc, AllV (fun v => v.Args.length ≤ 400) a
theorem reads_step {f : Nat} {l0 : Int} {n0 : Nat} {r : Rd} {acc : List Vl} {q : Vl × Rd} (hb : r.bad = false) (h : Reads f l0 n0 r acc) (hq : Read f r q) : Reads f l0 n0 q.2 (acc ++ [q.1]) := by
  refine ⟨Nat.le_trans hq.rest h.rest, ?_, hq.left, hq.low (h.left hb), ?_, ?_, ?_, ?_, ?_⟩
  · have := h.nodes; have := hq.nodes; rw [nodess_app, nodess, nodess]; omega
  · have := h.depth; have := hq.depth; rw [depths_app, depths, depths]; omega
  · have := h.long; have := hq.long; rw [longs_app, longs, longs]; omega
  · intro a ha
    rcases List.mem_append.1 ha with ha | ha
    · exact h.num a ha
    · simp at ha; subst ha; exact hq.num
  · intro a ha
    rcases List.mem_append.1 ha with ha | ha
    · exact h.kind a ha
    · simp at ha; subst ha; exact hq.kind
  · intro a ha
    rcases List.mem_append.1 ha with ha | ha
    · exact h.len a ha
    · simp at ha; subst ha; exact hq.len
theorem partsL_reads {f : Nat} {g : Rd → Vl × Rd} (hg : ∀ r, Read f r (g r)) {l0 : Int} {n0 : Nat} : ∀ (n : Nat) (r : Rd) (acc : List Vl), Reads f l0 n0 r acc → Reads f l0 n0 (partsL g n r acc).2 (partsL g n r acc).1
  | 0, r, acc, h => h
  | n + 1, r, acc, h => by
    rw [partsL]
    split
    · exact h
    · rename_i hb
      exact partsL_reads hg n _ _ (reads_step (by simpa using hb) h (hg r))
theorem partsL_len {g : Rd → Vl × Rd} : ∀ (n : Nat) (r : Rd) (acc : List Vl), (partsL g n r acc).1.length ≤ acc.length + n
  | 0, r, acc => by simp [partsL]
  | n + 1, r, acc => by
    rw [partsL]
    split
    · simp
    · have := partsL_len (g := g) n (g r).2 (acc ++ [(g r).1])
      simp at this
      omega
theorem partF_read : ∀ (f : Nat) (r : Rd), Read f r (partF f r)
  | 0, r => zero_read 0 r
  | f + 1, r => by
    rw [partF]
    split
    · exact zero_read (f + 1) r
    · rename_i h
      have hb := byteF_rest ⟨r.rest, false, r.left - 1⟩
      have hbl := byteF_lt ⟨r.rest, false, r.left - 1⟩
      dsimp only at hb ⊢
      generalize byteF ⟨r.rest, false, r.left - 1⟩ = a at *
      have hn := natF_ok a.2
      generalize natF a.2 = n at *
      have ht := textF_ok n.2
      generalize textF n.2 = t at *
      have hm := manyF_ok 400 t.2
      generalize manyF 400 t.2 = m at *
      have h0 : Reads f m.2.left m.2.rest.length m.2 [] := ⟨Nat.le_refl _, by simp [nodess], fun _ => by omega, by omega, by simp [depths], by simp [longs], by simp, by simp, by simp⟩
      have hl := partsL_reads (partF_read f) m.1 m.2 [] h0
      have hlen := partsL_len (g := partF f) m.1 m.2 []
      generalize partsL (partF f) m.1 m.2 [] = l at *
      refine ⟨?_, ?_, hl.left, fun _ => hl.low, ?_, ?_, ?_, ?_, ?_⟩
      · have := hl.rest; dsimp only; omega
      · have := hl.nodes; rw [nodes_eq]; dsimp only; omega
      · have := hl.depth; rw [depth_eq]; dsimp only; omega
      · have := hl.long; rw [long_eq]; dsimp only; omega
      · exact (allv_iff _).2 ⟨unzig_ok hn.1, hl.num⟩
      · exact (allv_iff _).2 ⟨⟨by dsimp only; omega, by dsimp only; omega⟩, hl.kind⟩
      · exact (allv_iff _).2 ⟨by simp at hlen ⊢; omega, hl.len⟩
theorem part_call : ∀ (f : Nat) (r : Rd), f ≤ 40 → r.rest.length ≤ B → 0 ≤ r.left → r.left ≤ 400 → sp88 r (41 - f : Nat) (partF f r)
  | f, r, hf, hr, hl0, hl1 => by
    refine ok88 _ _ _ ?_
    unfold w88
    unfold B at hr
    refine ⟨by omega, ?_⟩
    rintro _ rfl
    refine ⟨fun t => t = decide (r.bad = true ∨ r.left - 1 < 0 ∨ f = 0), ⟨fun h => by simp [h], fun hb => ⟨fun h => by simp [h], fun h => ?_⟩⟩, ?_⟩
    · rintro _ rfl
      rw [Bool.eq_iff_iff]
      simp [hb]
      omega
    rintro _ rfl
    refine ⟨fun h => ?_, fun h => ?_⟩
    · have h' : r.bad = true ∨ r.left - 1 < 0 ∨ f = 0 := by simpa using h
      cases f with
      | zero => rw [partF, h]; rfl
      | succ f =>
        rw [partF, if_pos (by rcases h' with h | h | h; exact .inl h; exact .inr h; omega), h]
        rfl
    · have h' : ¬ (r.bad = true ∨ r.left - 1 < 0 ∨ f = 0) := by simpa using h
      obtain ⟨f, rfl⟩ : ∃ f', f = f' + 1 := ⟨f - 1, by omega⟩
      rw [partF, if_neg (by intro hc; apply h'; rcases hc with hc | hc; exact .inl hc; exact .inr (.inl hc)), h]
      have hl2 : 0 ≤ r.left - 1 := by omega
      clear h h'
      have hb := byteF_rest ⟨r.rest, false, r.left - 1⟩
      have hbl := byteF_lt ⟨r.rest, false, r.left - 1⟩
      have c0 := byte_call ⟨r.rest, false, r.left - 1⟩ (by unfold B; exact hr)
      dsimp only at hb ⊢
      generalize byteF ⟨r.rest, false, r.left - 1⟩ = a at *
      refine ⟨_, c0, ?_⟩
      dsimp only
      rintro _ rfl
      rw [wrap64_of (by omega) (by omega)]
      have hn := natF_ok a.2
      have c1 := numR_call a.2 (by unfold B; omega)
      generalize natF a.2 = n at *
      refine ⟨_, c1, ?_⟩
      dsimp only
      have ht := textF_ok n.2
      have c2 := textR_call n.2 (by unfold B; omega)
      generalize textF n.2 = t at *
      refine ⟨_, c2, ?_⟩
      rw [rdeta]
      have hm := manyF_ok 400 t.2
      have c3 := many_call t.2 400 (by omega) (by unfold B; omega)
      generalize manyF 400 t.2 = m at *
      refine ⟨_, c3, ?_⟩
      dsimp only
      have h0 : Reads f m.2.left m.2.rest.length m.2 [] := ⟨Nat.le_refl _, by simp [nodess], fun _ => by omega, by omega, by simp [depths], by simp [longs], by simp, by simp, by simp⟩
      refine ⟨fun rest bad left vs k => ∃ k' : Nat, k = k' ∧ vs.length + k' ≤ 400 ∧ Reads f m.2.left m.2.rest.length ⟨rest, bad, left⟩ vs ∧ partsL (partF f) k' ⟨rest, bad, left⟩ vs = partsL (partF f) m.1 m.2 [], fun _ _ _ _ k => k.toNat, ⟨m.1, rfl, by simpa using hm.1, h0, rfl⟩, ?_⟩
      rintro rest bad left vs _ ⟨k, rfl, hk, hrd, he⟩
      refine ⟨fun hk0 => ⟨fun hbad => ?_, fun hbad => ?_⟩, fun hk0 => ?_⟩
      · obtain ⟨k, rfl⟩ : ∃ k', k = k' + 1 := ⟨k - 1, by omega⟩
        have hbf : bad = false := by simpa using hbad
        subst hbf
        rw [partsL, if_neg (by simp)] at he
        have h1 := hrd.left rfl
        have h2 := hrd.nodes
        have h3 := hrd.rest
        dsimp only at h1 h2 h3
        have ih := part_call f ⟨rest, false, left⟩ (by omega) (by unfold B; dsimp only; omega) h1 (by dsimp only; omega)
        have hst := reads_step rfl hrd (partF_read f ⟨rest, false, left⟩)
        generalize partF f ⟨rest, false, left⟩ = q at *
        refine ⟨fun re ba le vs2 => re = q.2.rest ∧ ba = q.2.bad ∧ le = q.2.left ∧ vs2 = vs ++ [q.1], ⟨by omega, ?_⟩, ?_⟩
        · rintro _ rfl
          rw [show ((41 - (f + 1) : Nat) : Int) + 1 = ((41 - f : Nat) : Int) by omega]
          refine ⟨q, ih, by simp; omega, ?_⟩
          rintro _ rfl
          exact ⟨rfl, rfl, rfl, rfl⟩
        · rintro _ _ _ _ ⟨rfl, rfl, rfl, rfl⟩
          refine ⟨by omega, ?_⟩
          rintro _ rfl
          refine ⟨⟨k, by omega, by simp; omega, hst, he⟩, by dsimp only; omega⟩
      · have hbt : bad = true := by simpa using hbad
        subst hbt
        have : partsL (partF f) k ⟨rest, true, left⟩ vs = (vs, ⟨rest, true, left⟩) := by
          cases k with
          | zero => rfl
          | succ k => rw [partsL, if_pos rfl]
        rw [this] at he
        rw [← he]
      · have : k = 0 := by omega
        subst this
        rw [partsL] at he
        rw [← he]
termination_by f => f
theorem value_read (r : Rd) (hr : r.rest.length ≤ B) : sp44 r (partF 40 ⟨r.rest, r.bad, 400⟩) := by
  refine ok44 _ _ ?_
  unfold w44
  exact ⟨_, part_call 40 ⟨r.rest, r.bad, 400⟩ (by omega) hr (by dsimp only; omega) (by dsimp only; omega), by rw [eta]⟩
theorem equal_call (a b : List UInt8) : sp71 a b (a == b) := by
  refine ok71 _ _ _ ?_
  unfold w71
  rintro _ rfl
  rfl
def doneB (r : Rd) (b again : List UInt8) (e : Int) : Bool := !r.bad && (r.rest.length == 0) && (e == 0) && (b == again)
theorem done_call (r : Rd) (b again : List UInt8) (e : Int) : sp45 r b again e (doneB r b again e, r) := by
  refine ok45 _ _ _ _ _ ?_
  unfold w45 doneB
  refine ⟨fun h => ⟨fun h1 => ⟨fun h2 => ⟨_, equal_call b again, ?_⟩, fun h2 => ?_⟩, fun h1 => ?_⟩, fun h => ?_⟩
  · subst h2
    have : r.rest.length = 0 := by omega
    rw [h, this]
    simp
  · have : (e == 0) = false := by simpa using h2
    rw [this]; simp
  · have : (r.rest.length == 0) = false := by simp at h1 ⊢; exact h1
    rw [this]; simp
  · rw [h]; simp
end Go.Hw.VB

