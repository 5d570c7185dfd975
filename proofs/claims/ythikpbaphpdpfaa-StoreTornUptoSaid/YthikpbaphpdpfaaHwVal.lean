import Derived.Test.YthikpbaphpdpfaaHwV1
set_option linter.unusedVariables false
set_option linter.unusedSimpArgs false
namespace Go.Hw.VB
open Go Go.Proofs

abbrev Vl := GaValue
theorem eta (v : Vl) : GaValue.mk v.Kind v.Num v.Text v.Args = v := by cases v; rfl
mutual
theorem vl_ind {Pr : Vl → Prop} (h : ∀ v : Vl, (∀ a ∈ v.Args, Pr a) → Pr v) : ∀ v : Vl, Pr v
  | ⟨k, n, t, xs⟩ => h _ (vl_inds h xs)
theorem vl_inds {Pr : Vl → Prop} (h : ∀ v : Vl, (∀ a ∈ v.Args, Pr a) → Pr v) : ∀ l : List Vl, ∀ a ∈ l, Pr a
  | [] => by simp
  | a :: r => by
    have h1 := vl_ind h a
    have h2 := vl_inds h r
    intro b hb
    rcases List.mem_cons.1 hb with rfl | hb
    · exact h1
    · exact h2 b hb
end
def I64 (n : Int) : Prop := -9223372036854775808 ≤ n ∧ n ≤ 9223372036854775807
theorem wrap_u8 (n : Int) : IntKind.wrap .u8 n = n % 256 := by
  simp only [IntKind.wrap, IntKind.bits, IntKind.signed, Bool.false_and, Bool.false_eq_true, if_false, Nat.reduceSub, Int.reducePow]
theorem wrap_u64 (n : Int) : IntKind.wrap .u64 n = n % 18446744073709551616 := by
  simp only [IntKind.wrap, IntKind.bits, IntKind.signed, Bool.false_and, Bool.false_eq_true, if_false, Nat.reduceSub, Int.reducePow]
theorem or_128 : ∀ m : Nat, m < 256 → iop .or .u8 (m : Int) 128 = ((m % 128 + 128 : Nat) : Int) := by decide +kernel
theorem shr7 (n : Nat) : iop .shr .u64 (n : Int) 7 = ((n / 128 : Nat) : Int) := by
  simp only [iop, ibin, IntKind.bits]
  have : (2 : Int) ^ (min (7 : Int).toNat 64) = 128 := by decide
  rw [this, Int.fdiv_eq_ediv_of_nonneg _ (by omega)]
  omega
def restN (n : Int) (m : Nat) : Nat := (if n < 0 then (-(n + 1)).toNat else n.toNat) % m
theorem rest_call (n : Int) (m : Nat) (hm : 0 < m) (hn : I64 n) : sp15 n m (restN n m) := by
  obtain ⟨h1, h2⟩ := hn
  refine ok15 _ _ _ ?_
  unfold w15
  refine ⟨fun v => v = ((if n < 0 then (-(n + 1)).toNat else n.toNat : Nat) : Int), ⟨fun h => ⟨by omega, ?_⟩, fun h => ?_⟩, ?_⟩
  · rintro _ rfl
    refine ⟨by omega, ?_⟩
    rintro _ rfl
    rw [if_pos h]; omega
  · rw [if_neg (by omega)]; omega
  · rintro v rfl
    refine ⟨by omega, ?_⟩
    rintro _ rfl
    exact (Int.ofNat_tmod _ _).symm
theorem restN_lt (n : Int) {m : Nat} (hm : 0 < m) : restN n m < m := Nat.mod_lt _ hm


def leb (n : Nat) : List UInt8 := if n < 128 then [UInt8.ofNat n] else UInt8.ofNat (n % 128 + 128) :: leb (n / 128)
termination_by n
decreasing_by omega
theorem leb_small {n : Nat} (h : n < 128) : leb n = [UInt8.ofNat n] := by rw [leb, if_pos h]
theorem leb_big {n : Nat} (h : ¬ n < 128) : leb n = UInt8.ofNat (n % 128 + 128) :: leb (n / 128) := by rw [leb, if_neg h]
theorem leb_pos (n : Nat) : 1 ≤ (leb n).length := by
  by_cases h : n < 128
  · rw [leb_small h]; simp
  · rw [leb_big h]; simp
theorem leb_len : ∀ (k n : Nat), n < 128 ^ (k + 1) → (leb n).length ≤ k + 1
  | 0, n, h => by rw [leb_small (by simpa using h)]; simp
  | k + 1, n, h => by
    by_cases hn : n < 128
    · rw [leb_small hn]; simp
    · rw [leb_big hn, List.length_cons]
      have := leb_len k (n / 128) (by
        rw [Nat.div_lt_iff_lt_mul (by omega)]
        rw [Nat.pow_succ] at h
        exact h)
      omega
theorem leb_10 {n : Nat} (h : n < 18446744073709551616) : (leb n).length ≤ 10 := leb_len 9 n (Nat.lt_of_lt_of_le h (by decide))
def zig (n : Int) : Nat := if 0 ≤ n then (2 * n).toNat else (-2 * n - 1).toNat
theorem zig_lt {n : Int} (h : I64 n) : zig n < 18446744073709551616 := by
  obtain ⟨h1, h2⟩ := h
  unfold zig
  split <;> omega


def B : Nat := 140737488355328
theorem nat_call (b : List UInt8) (n : Nat) (hn : n < 18446744073709551616) (hb : (b ++ leb n).length ≤ B) : sp50 ⟨b⟩ n ⟨b ++ leb n⟩ := by
  refine ok50 _ _ _ ?_
  unfold w50
  refine ⟨fun c m => ∃ k : Nat, m = k ∧ k < 18446744073709551616 ∧ c ++ leb k = b ++ leb n, fun _ m => m.toNat, ⟨n, rfl, hn, rfl⟩, ?_⟩
  rintro c _ ⟨k, rfl, hk, hc⟩
  have hlen := congrArg List.length hc
  rw [List.length_append] at hlen
  have h1 := leb_pos k
  unfold B at hb
  refine ⟨fun h => ?_, fun h => ?_⟩
  · rintro _ rfl
    rw [wrap_u8]
    refine ⟨trivial, ?_⟩
    rintro _ rfl
    have e1 : iop .or .u8 ((k : Int) % 256) 128 = ((k % 128 + 128 : Nat) : Int) := by
      have := or_128 (k % 256) (by omega)
      rw [show ((k % 256 : Nat) : Int) = (k : Int) % 256 by omega] at this
      rw [this]
      omega
    rw [e1]
    refine ⟨by simp only [List.mem_singleton]; rintro _ rfl; omega, by simp; omega, ?_⟩
    rintro _ rfl
    refine ⟨by simp [ibinOk], ?_⟩
    rintro _ rfl
    rw [shr7]
    refine ⟨⟨k / 128, rfl, by omega, ?_⟩, by simp only [Int.toNat_natCast]; omega⟩
    rw [← hc, leb_big (n := k) (by omega)]
    simp only [List.map_cons, List.map_nil, Int.toNat_natCast, List.append_assoc, List.cons_append, List.nil_append]
  · rintro _ rfl
    rw [wrap_u8]
    have e1 : ((k : Int) % 256) = k := by omega
    rw [e1]
    refine ⟨by simp only [List.mem_singleton]; rintro _ rfl; omega, by simp; omega, ?_⟩
    rintro _ rfl
    rw [← hc, leb_small (n := k) (by omega)]
    simp only [List.map_cons, List.map_nil, Int.toNat_natCast]
theorem bv_xor_ones (x : Nat) (h : x < 18446744073709551616) : (BitVec.ofInt 64 (x : Int) ^^^ BitVec.ofInt 64 18446744073709551615).toNat = 18446744073709551615 - x := by
  have e1 : BitVec.ofInt 64 18446744073709551615 = BitVec.allOnes 64 := by decide
  rw [e1, BitVec.xor_allOnes, BitVec.toNat_not, BitVec.toNat_ofInt]
  have : ((x : Int) % ((2 ^ 64 : Nat) : Int)).toNat = x := by omega
  rw [this]
theorem bv_xor_zero (x : Nat) (h : x < 18446744073709551616) : (BitVec.ofInt 64 (x : Int) ^^^ BitVec.ofInt 64 0).toNat = x := by
  have e1 : BitVec.ofInt 64 0 = 0#64 := by decide
  rw [e1, BitVec.xor_zero, BitVec.toNat_ofInt]
  omega
theorem iop_xor_zero (x : Nat) (h : x < 18446744073709551616) : iop .xor .u64 (x : Int) 0 = x := by
  show IntKind.wrap .u64 ((BitVec.ofInt 64 (x : Int) ^^^ BitVec.ofInt 64 0).toNat : Int) = x
  rw [bv_xor_zero x h, wrap_u64]
  omega
theorem iop_xor_ones (x : Nat) (h : x < 18446744073709551616) : iop .xor .u64 (x : Int) 18446744073709551615 = ((18446744073709551615 - x : Nat) : Int) := by
  show IntKind.wrap .u64 ((BitVec.ofInt 64 (x : Int) ^^^ BitVec.ofInt 64 18446744073709551615).toNat : Int) = _
  rw [bv_xor_ones x h, wrap_u64]
  omega
theorem num_call (b : List UInt8) (n : Int) (hn : I64 n) (hb : (b ++ leb (zig n)).length ≤ B) : sp52 ⟨b⟩ n ⟨b ++ leb (zig n)⟩ := by
  refine ok52 _ _ _ ?_
  unfold w52
  rintro _ rfl
  refine ⟨by simp [ibinOk], ?_⟩
  rintro _ rfl
  refine ⟨by simp [ibinOk], ?_⟩
  rintro _ rfl _ rfl
  refine ⟨trivial, ?_⟩
  rintro _ rfl
  obtain ⟨h1, h2⟩ := hn
  have e1 : iop .shl .u64 (IntKind.wrap .u64 n) 1 = (2 * n) % 18446744073709551616 := by
    simp only [iop, ibin, IntKind.bits, wrap_u64]
    have : (2 : Int) ^ (min (1 : Int).toNat 64) = 2 := by decide
    rw [this]
    omega
  have e2 : iop .shr .i64 n 63 = if 0 ≤ n then 0 else -1 := by
    simp only [iop, ibin, IntKind.bits]
    have : (2 : Int) ^ (min (63 : Int).toNat 64) = 9223372036854775808 := by decide
    rw [this, Int.fdiv_eq_ediv_of_nonneg _ (by omega)]
    split <;> omega
  rw [e1, e2]
  have key : iop .xor .u64 ((2 * n) % 18446744073709551616) (IntKind.wrap .u64 (if 0 ≤ n then 0 else -1)) = (zig n : Int) := by
    obtain ⟨x, hx⟩ : ∃ x : Nat, (2 * n) % 18446744073709551616 = x := ⟨((2 * n) % 18446744073709551616).toNat, by omega⟩
    rw [hx, wrap_u64]
    unfold zig
    split
    · rw [Int.zero_emod, iop_xor_zero x (by omega)]
      omega
    · have e3 : (-1 : Int) % 18446744073709551616 = 18446744073709551615 := by decide
      rw [e3, iop_xor_ones x (by omega)]
      omega
  rw [key]
  exact ⟨⟨b ++ leb (zig n)⟩, nat_call b (zig n) (zig_lt ⟨h1, h2⟩) hb, rfl⟩
theorem text_call (b t : List UInt8) (hb : (b ++ (leb t.length ++ t)).length ≤ B) : sp86 ⟨b⟩ t ⟨b ++ (leb t.length ++ t)⟩ := by
  refine ok86 _ _ _ ?_
  unfold w86
  rintro _ rfl
  have hb' := hb
  unfold B at hb'
  simp only [List.length_append] at hb'
  have e1 : IntKind.wrap .u64 (t.length : Int) = (t.length : Int) := by rw [wrap_u64]; omega
  rw [e1]
  refine ⟨⟨b ++ leb t.length⟩, nat_call _ _ (by omega) (by unfold B; simp only [List.length_append]; omega), by simp only [List.length_append]; omega, ?_⟩
  rintro _ rfl
  rw [List.append_assoc]
mutual
def enc : Vl → List UInt8
  | ⟨k, n, t, xs⟩ => UInt8.ofNat (k % 256).toNat :: (leb (zig n) ++ ((leb t.length ++ t) ++ (leb xs.length ++ encs xs)))
def encs : List Vl → List UInt8
  | [] => []
  | a :: r => enc a ++ encs r
end
theorem enc_eq (v : Vl) : enc v = UInt8.ofNat (v.Kind % 256).toNat :: (leb (zig v.Num) ++ ((leb v.Text.length ++ v.Text) ++ (leb v.Args.length ++ encs v.Args))) := by
  cases v; rw [enc]
theorem encs_app : ∀ (l m : List Vl), encs (l ++ m) = encs l ++ encs m
  | [], m => by rw [encs]; rfl
  | a :: r, m => by rw [List.cons_append, encs, encs, encs_app r m, List.append_assoc]
theorem encs_snoc (l : List Vl) (k : Nat) (a : Vl) (h : l[k]? = some a) : encs (l.take (k + 1)) = encs (l.take k) ++ enc a := by
  rw [List.take_add_one, h, Option.toList_some, encs_app, encs, encs, List.append_nil]
theorem encs_le (l : List Vl) (k : Nat) : (encs (l.take k)).length ≤ (encs l).length := by
  conv => rhs; rw [← List.take_append_drop k l, encs_app, List.length_append]
  omega
mutual
def AllV (Pr : Vl → Prop) : Vl → Prop
  | ⟨k, n, t, xs⟩ => Pr ⟨k, n, t, xs⟩ ∧ AllVs Pr xs
def AllVs (Pr : Vl → Prop) : List Vl → Prop
  | [] => True
  | a :: r => AllV Pr a ∧ AllVs Pr r
end
theorem allvs_iff {Pr : Vl → Prop} : ∀ l : List Vl, AllVs Pr l ↔ ∀ a ∈ l, AllV Pr a
  | [] => by rw [AllVs]; simp
  | a :: r => by rw [AllVs, allvs_iff r]; simp
theorem allv_iff {Pr : Vl → Prop} (v : Vl) : AllV Pr v ↔ Pr v ∧ ∀ a ∈ v.Args, AllV Pr a := by
  cases v; rw [AllV, allvs_iff]
def NumOk (v : Vl) : Prop := I64 v.Num
theorem values_of {l : List Vl} (hl : ∀ a ∈ l, ∀ b : List UInt8, (b ++ enc a).length ≤ B → sp41 ⟨b⟩ a ⟨b ++ enc a⟩) (b : List UInt8) (hb : (b ++ (leb l.length ++ encs l)).length ≤ B) (h63 : l.length ≤ B) : sp87 ⟨b⟩ l ⟨b ++ (leb l.length ++ encs l)⟩ := by
  refine ok87 _ _ _ ?_
  unfold w87
  rintro _ rfl
  have hb' := hb
  unfold B at hb' h63
  simp only [List.length_append] at hb'
  have e1 : IntKind.wrap .u64 (l.length : Int) = (l.length : Int) := by rw [wrap_u64]; omega
  rw [e1]
  refine ⟨⟨b ++ leb l.length⟩, nat_call _ _ (by omega) (by unfold B; simp only [List.length_append]; omega), fun c i => ∃ k : Nat, i = k ∧ k ≤ l.length ∧ c = b ++ (leb l.length ++ encs (l.take k)), fun _ i => l.length - i.toNat, ⟨0, rfl, by omega, by simp [encs]⟩, ?_⟩
  rintro _ _ ⟨k, rfl, hk, rfl⟩ t rfl
  refine ⟨fun h => ?_, fun h => ?_⟩
  · have hkl : k < l.length := by simp at h; omega
    refine ⟨by omega, fun a ha => ?_⟩
    have ha' : l[k]? = some a := by simpa using ha
    have hle := encs_le l (k + 1)
    rw [encs_snoc l k a ha', List.length_append] at hle
    rw [eta]
    refine ⟨_, hl a (List.mem_of_getElem? ha') _ (by unfold B; simp only [List.length_append]; omega), by omega, ?_⟩
    rintro _ rfl
    refine ⟨⟨k + 1, by omega, by omega, ?_⟩, by dsimp only; omega⟩
    rw [encs_snoc l k a ha']
    simp only [List.append_assoc]
  · have hkl : k = l.length := by simp at h; omega
    subst hkl
    rw [List.take_length]
theorem value_call : ∀ v : Vl, AllV (fun v => NumOk v ∧ v.Args.length ≤ B) v → ∀ b : List UInt8, (b ++ enc v).length ≤ B → sp41 ⟨b⟩ v ⟨b ++ enc v⟩ := by
  refine vl_ind fun v ih hv b hb => ?_
  obtain ⟨⟨hn, hlen⟩, hargs⟩ := (allv_iff v).1 hv
  have hb' := hb
  rw [enc_eq] at hb' ⊢
  unfold B at hb'
  simp only [List.length_append, List.length_cons] at hb'
  refine ok41 _ _ _ ?_
  unfold w41
  rintro _ rfl
  rw [wrap_u8]
  refine ⟨by simp only [List.mem_singleton]; rintro _ rfl; omega, by simp; omega, ?_⟩
  rintro _ rfl
  simp only [List.map_cons, List.map_nil]
  refine ⟨_, num_call _ _ hn (by unfold B; simp only [List.length_append, List.length_cons, List.length_nil]; omega), _, text_call _ _ (by unfold B; simp only [List.length_append, List.length_cons, List.length_nil]; omega), _, values_of (fun a ha => ih a ha (hargs a ha)) _ (by unfold B; simp only [List.length_append, List.length_cons, List.length_nil]; omega) hlen, ?_⟩
  simp only [List.append_assoc, List.cons_append, List.nil_append]
theorem clone_call (b : List UInt8) (hb : b.length ≤ B) : sp42 b b := by
  refine ok42 _ _ ?_
  unfold w42
  unfold B at hb
  refine ⟨fun h => (List.eq_nil_of_length_eq_zero h).symm, by simp; omega, ?_⟩
  rintro _ rfl
  rfl


mutual
def nodes : Vl → Nat
  | ⟨_, _, _, xs⟩ => 1 + nodess xs
def nodess : List Vl → Nat
  | [] => 0
  | a :: r => nodes a + nodess r
end
mutual
def depth : Vl → Nat
  | ⟨_, _, _, xs⟩ => depths xs + 1
def depths : List Vl → Nat
  | [] => 0
  | a :: r => max (depth a) (depths r)
end
mutual
def long : Vl → Nat
  | ⟨_, _, t, xs⟩ => max t.length (longs xs)
def longs : List Vl → Nat
  | [] => 0
  | a :: r => max (long a) (longs r)
end
theorem nodes_eq (v : Vl) : nodes v = 1 + nodess v.Args := by cases v; rw [nodes]
theorem depth_eq (v : Vl) : depth v = depths v.Args + 1 := by cases v; rw [depth]
theorem long_eq (v : Vl) : long v = max v.Text.length (longs v.Args) := by cases v; rw [long]
theorem nodess_app : ∀ (l m : List Vl), nodess (l ++ m) = nodess l + nodess m
  | [], m => by rw [nodess]; simp
  | a :: r, m => by rw [List.cons_append, nodess, nodess, nodess_app r m]; omega
theorem depths_app : ∀ (l m : List Vl), depths (l ++ m) = max (depths l) (depths m)
  | [], m => by rw [depths]; simp
  | a :: r, m => by rw [List.cons_append, depths, depths, depths_app r m]; omega
theorem longs_app : ∀ (l m : List Vl), longs (l ++ m) = max (longs l) (longs m)
  | [], m => by rw [longs]; simp
  | a :: r, m => by rw [List.cons_append, longs, longs, longs_app r m]; omega
theorem nodess_snoc (l : List Vl) (k : Nat) (a : Vl) (h : l[k]? = some a) : nodess (l.take (k + 1)) = nodess (l.take k) + nodes a := by
  rw [List.take_add_one, h, Option.toList_some, nodess_app, nodess, nodess]; omega
theorem depths_snoc (l : List Vl) (k : Nat) (a : Vl) (h : l[k]? = some a) : depths (l.take (k + 1)) = max (depths (l.take k)) (depth a) := by
  rw [List.take_add_one, h, Option.toList_some, depths_app, depths, depths]; omega
theorem longs_snoc (l : List Vl) (k : Nat) (a : Vl) (h : l[k]? = some a) : longs (l.take (k + 1)) = max (longs (l.take k)) (long a) := by
  rw [List.take_add_one, h, Option.toList_some, longs_app, longs, longs]; omega
theorem nodess_le (l : List Vl) (k : Nat) : nodess (l.take k) ≤ nodess l := by
  conv => rhs; rw [← List.take_append_drop k l, nodess_app]
  omega
theorem nodes_pos (v : Vl) : 1 ≤ nodes v := by rw [nodes_eq]; omega
theorem depth_nodes : ∀ v : Vl, depth v ≤ nodes v := by
  refine vl_ind fun v ih => ?_
  rw [depth_eq, nodes_eq]
  have : ∀ l : List Vl, (∀ a ∈ l, depth a ≤ nodes a) → depths l ≤ nodess l := by
    intro l
    induction l with
    | nil => intro _; rw [depths]; omega
    | cons a r ih =>
      intro h
      have h1 := h a (by simp)
      have h2 := ih fun b hb => h b (by simp [hb])
      rw [depths, nodess]
      omega
  have := this v.Args ih
  omega
theorem mem_nodes {l : List Vl} {a : Vl} (h : a ∈ l) : nodes a ≤ nodess l := by
  induction l with
  | nil => simp at h
  | cons b r ih =>
    rw [nodess]
    rcases List.mem_cons.1 h with rfl | h
    · omega
    · have := ih h; omega
theorem len_nodes (l : List Vl) : l.length ≤ nodess l := by
  induction l with
  | nil => simp
  | cons b r ih =>
    have := nodes_pos b
    rw [nodess, List.length_cons]
    omega
theorem mem_long {l : List Vl} {a : Vl} (h : a ∈ l) : long a ≤ longs l := by
  induction l with
  | nil => simp at h
  | cons b r ih =>
    rw [longs]
    rcases List.mem_cons.1 h with rfl | h
    · omega
    · have := ih h; omega
theorem size_call : ∀ v : Vl, nodes v ≤ B → sp84 v ((nodes v : Int), (depth v : Int), (long v : Int)) := by
  refine vl_ind fun v ih hv => ?_
  have hn := nodes_eq v
  refine ok84 _ _ ?_
  unfold w84
  unfold B at hv
  refine ⟨fun n d g i => ∃ k : Nat, i = k ∧ k ≤ v.Args.length ∧ n = ((1 + nodess (v.Args.take k) : Nat) : Int) ∧ d = (depths (v.Args.take k) : Nat) ∧ g = ((max v.Text.length (longs (v.Args.take k)) : Nat) : Int), fun _ _ _ i => v.Args.length - i.toNat, ⟨0, rfl, by omega, by simp [nodess], by simp [depths], by simp [longs]⟩, ?_⟩
  rintro _ _ _ _ ⟨k, rfl, hk, rfl, rfl, rfl⟩ t rfl
  have hlenn := len_nodes v.Args
  refine ⟨fun h => ?_, fun h => ?_⟩
  · have hkl : k < v.Args.length := by simp at h; omega
    refine ⟨by omega, fun a ha => ?_⟩
    have ha' : v.Args[k]? = some a := by simpa using ha
    have hle := nodess_le v.Args (k + 1)
    rw [nodess_snoc _ k a ha'] at hle
    rw [eta]
    refine ⟨_, ih a (List.mem_of_getElem? ha') (by unfold B; omega), by dsimp only; omega, ?_⟩
    rintro _ rfl _ rfl _ rfl
    refine ⟨by omega, ?_⟩
    rintro _ rfl
    refine ⟨⟨k + 1, by omega, by omega, ?_, ?_, ?_⟩, by dsimp only; omega⟩
    · rw [nodess_snoc _ k a ha']; dsimp only; omega
    · rw [depths_snoc _ k a ha']; dsimp only; omega
    · rw [longs_snoc _ k a ha']; dsimp only; omega
  · have hkl : k = v.Args.length := by simp at h; omega
    subst hkl
    rw [List.take_length]
    have hd := depth_nodes v
    rw [depth_eq] at hd
    refine ⟨by omega, ?_⟩
    rintro _ rfl
    rw [nodes_eq, depth_eq, long_eq]
    rfl


def nodeB (v : Vl) : Bool :=
  if v.Kind = 1 then v.Num == 0 && v.Text == [] && v.Args.length == 0
  else if v.Kind = 2 ∨ v.Kind = 6 then v.Text == [] && v.Args.length == 0
  else if v.Kind = 3 then (v.Num == 0 || v.Num == 1) && v.Text == [] && v.Args.length == 0
  else if v.Kind = 4 then v.Num == 0 && v.Args.length == 0
  else if v.Kind = 5 then v.Num == 0 && !(v.Text == [])
  else if v.Kind = 7 then true
  else if v.Kind = 8 then v.Num == 0 && v.Text == [] && decide (v.Args.length ≤ 1)
  else false
theorem len0 (l : List Vl) : ((l.length : Int) == (0 : Int)) = (l.length == 0) := by
  rw [Bool.eq_iff_iff]; simp
theorem node_call (v : Vl) : sp102 v (nodeB v) := by
  refine ok102 _ _ ?_
  unfold w102
  simp only [Bool.false_eq_true, if_false, len0]
  rintro a ha b hb
  unfold nodeB
  rw [← ha, ← hb]
  clear ha hb
  refine ⟨fun h => ?_, fun h => ?_⟩
  · rw [if_pos h]
    cases a <;> cases b <;> simp
  · rw [if_neg h]
    refine ⟨fun c => c = decide (v.Kind = 2 ∨ v.Kind = 6), ⟨fun h => by simp [h], fun h => ?_⟩, ?_⟩
    · rintro _ rfl
      rw [Bool.eq_iff_iff]; simp [h]
    · rintro _ rfl
      refine ⟨fun h => ?_, fun h => ?_⟩
      · rw [if_pos (by simpa using h)]
        cases b <;> simp
      · rw [if_neg (by simpa using h)]
        refine ⟨fun h => ?_, fun h => ?_⟩
        · rw [if_pos h]
          refine ⟨fun h => ?_, fun h => ⟨fun h1 => ?_, fun h1 => ?_⟩⟩
          · subst h; cases b <;> simp
          · subst h; cases b <;> simp [h1]
          · subst h; simp [h1]
        · rw [if_neg h]
          refine ⟨fun h => ?_, fun h => ?_⟩
          · rw [if_pos h]; cases a <;> simp
          · rw [if_neg h]
            refine ⟨fun h => ?_, fun h => ?_⟩
            · rw [if_pos h]; cases a <;> simp
            · rw [if_neg h]
              refine ⟨fun h => by rw [if_pos h], fun h => ?_⟩
              rw [if_neg h]
              refine ⟨fun h => ?_, fun h => by rw [if_neg h]⟩
              rw [if_pos h]
              cases a <;> cases b <;> simp
              omega
mutual
def rightB : Vl → Bool
  | ⟨k, n, t, xs⟩ => nodeB ⟨k, n, t, xs⟩ && rightsB xs
def rightsB : List Vl → Bool
  | [] => true
  | a :: r => rightB a && rightsB r
end
theorem rightB_eq (v : Vl) : rightB v = (nodeB v && rightsB v.Args) := by cases v; rw [rightB]
theorem rightsB_iff : ∀ l : List Vl, rightsB l = true ↔ ∀ a ∈ l, rightB a = true
  | [] => by rw [rightsB]; simp
  | a :: r => by rw [rightsB, Bool.and_eq_true, rightsB_iff r]; simp
theorem right_call : ∀ v : Vl, nodes v ≤ B → sp85 v (rightB v) := by
  refine vl_ind fun v ih hv => ?_
  refine ok85 _ _ ?_
  unfold w85
  have hn := nodes_eq v
  have hlenn := len_nodes v.Args
  unfold B at hv
  rw [eta, rightB_eq]
  refine ⟨_, node_call v, fun h => by simp at h; simp [h], fun h => ?_⟩
  have hno : nodeB v = true := by simpa using h
  rw [hno, Bool.true_and]
  refine ⟨fun i => ∃ k : Nat, i = k ∧ k ≤ v.Args.length ∧ ∀ a ∈ v.Args.take k, rightB a = true, fun i => v.Args.length - i.toNat, ⟨0, rfl, by omega, by simp⟩, ?_⟩
  rintro _ ⟨k, rfl, hk, hall⟩ t rfl
  refine ⟨fun h => ?_, fun h => ?_⟩
  · have hkl : k < v.Args.length := by simp at h; omega
    refine ⟨by omega, fun a ha => ?_⟩
    have ha' : v.Args[k]? = some a := by simpa using ha
    have hmem := List.mem_of_getElem? ha'
    have hle := mem_nodes hmem
    rw [eta]
    refine ⟨_, ih a hmem (by unfold B; omega), fun h => ?_, fun h => ⟨by omega, ?_⟩⟩
    · have hf : rightB a = false := by simpa using h
      cases hr : rightsB v.Args with
      | false => rfl
      | true => rw [(rightsB_iff _).1 hr a hmem] at hf; cases hf
    · rintro _ rfl
      refine ⟨⟨k + 1, by omega, by omega, ?_⟩, by dsimp only; omega⟩
      rw [List.take_add_one, ha', Option.toList_some]
      intro b hb
      rcases List.mem_append.1 hb with hb | hb
      · exact hall b hb
      · simp at hb; subst hb; simpa using h
  · have hkl : k = v.Args.length := by simp at h; omega
    subst hkl
    rw [List.take_length] at hall
    exact ((rightsB_iff _).2 hall).symm
def checkE (v : Vl) : Int := if 400 < nodes v ∨ 40 < depth v ∨ 4000 < long v then 2 else if rightB v then 0 else 3
theorem check_call (v : Vl) (hv : nodes v ≤ B) : sp40 v (checkE v) := by
  refine ok40 _ _ ?_
  unfold w40 checkE
  rw [eta]
  refine ⟨_, size_call v hv, fun h => ?_, fun h1 => ⟨fun h => ?_, fun h2 => ⟨fun h => ?_, fun h3 => ?_⟩⟩⟩
  · rw [if_pos (.inl (by dsimp only at h; omega))]
  · rw [if_pos (.inr (.inl (by dsimp only at h; omega)))]
  · rw [if_pos (.inr (.inr (by dsimp only at h; omega)))]
  · dsimp only at h1 h2 h3
    rw [if_neg (by omega)]
    exact ⟨_, right_call v hv, fun h => by rw [if_neg (by simpa using h)], fun h => by rw [if_pos (by simpa using h)]⟩
theorem enc_len : ∀ v : Vl, AllV NumOk v → nodes v ≤ B → long v ≤ 4000 → (enc v).length ≤ 4031 * nodes v := by
  refine vl_ind fun v ih hv hnb hlg => ?_
  obtain ⟨hn, hargs⟩ := (allv_iff v).1 hv
  have h1 := leb_10 (zig_lt hn)
  rw [long_eq] at hlg
  rw [nodes_eq] at hnb ⊢
  have hlen := len_nodes v.Args
  unfold B at hnb
  have h2 := leb_10 (n := v.Text.length) (by omega)
  have h3 := leb_10 (n := v.Args.length) (by omega)
  have h4 : ∀ l : List Vl, (∀ a ∈ l, (enc a).length ≤ 4031 * nodes a) → (encs l).length ≤ 4031 * nodess l := by
    intro l
    induction l with
    | nil => intro _; rw [encs]; simp
    | cons a r ih =>
      intro h
      have h5 := h a (by simp)
      have h6 := ih fun b hb => h b (by simp [hb])
      rw [encs, nodess, List.length_append]
      omega
  have h5 := h4 v.Args fun a ha => ih a ha (hargs a ha) (by have := mem_nodes ha; unfold B; omega) (by have := mem_long ha; omega)
  rw [enc_eq]
  simp only [List.length_append, List.length_cons]
  omega
open Classical in
theorem same_call : ∀ v w : Vl, nodes v ≤ B → sp13 v w (decide (v = w)) := by
  refine vl_ind fun v ih w hv => ?_
  refine ok13 _ _ _ ?_
  unfold w13
  have hn := nodes_eq v
  have hlenn := len_nodes v.Args
  unfold B at hv
  have heq : v = w ↔ v.Kind = w.Kind ∧ v.Num = w.Num ∧ v.Text = w.Text ∧ v.Args = w.Args := by
    cases v; cases w; simp
  refine ⟨fun h1 => ⟨fun h2 => ⟨fun h3 => ?_, fun h => ?_⟩, fun h => ?_⟩, fun h => ?_⟩
  · refine ⟨decide (v.Args = w.Args), ?_, ?_⟩
    · refine ok43_13 _ _ _ ?_
      unfold w43_13
      refine ⟨fun h => ?_, fun hl => ?_⟩
      · have : v.Args ≠ w.Args := fun e => h (by rw [e])
        simp [this]
      · refine ⟨fun i => ∃ k : Nat, i = k ∧ k ≤ v.Args.length ∧ v.Args.take k = w.Args.take k, fun i => v.Args.length - i.toNat, ⟨0, rfl, by omega, by simp⟩, ?_⟩
        rintro _ ⟨k, rfl, hk, htk⟩ t rfl
        refine ⟨fun h => ?_, fun h => ?_⟩
        · have hkl : k < v.Args.length := by simp at h; omega
          refine ⟨by omega, fun a ha => ⟨by omega, fun b hb => ?_⟩⟩
          have ha' : v.Args[k]? = some a := by simpa using ha
          have hb' : w.Args[k]? = some b := by simpa using hb
          have hmem := List.mem_of_getElem? ha'
          have hle := mem_nodes hmem
          rw [eta, eta]
          refine ⟨_, ih a hmem b (by unfold B; omega), fun h => ?_, fun h => ⟨by omega, ?_⟩⟩
          · have hab : a ≠ b := by simpa using h
            have : v.Args ≠ w.Args := fun e => by rw [e, hb'] at ha'; injection ha' with ha'; exact hab ha'.symm
            simp [this]
          · rintro _ rfl
            have hab : a = b := by simpa using h
            subst hab
            refine ⟨⟨k + 1, by omega, by omega, ?_⟩, by dsimp only; omega⟩
            rw [List.take_add_one, List.take_add_one, htk, ha', hb']
        · have hkl : k = v.Args.length := by simp at h; omega
          subst hkl
          have : w.Args.length = v.Args.length := by omega
          rw [List.take_length, ← this, List.take_length] at htk
          simp [htk]
    · show decide (v.Args = w.Args) = decide (v = w)
      rw [Bool.eq_iff_iff]; simp [heq, h1, h2, h3]
  · have : v ≠ w := fun e => h (by rw [e])
    simp [this]
  · have : v ≠ w := fun e => h (by rw [e])
    simp [this]
  · have : v ≠ w := fun e => h (by rw [e])
    simp [this]
end Go.Hw.VB

