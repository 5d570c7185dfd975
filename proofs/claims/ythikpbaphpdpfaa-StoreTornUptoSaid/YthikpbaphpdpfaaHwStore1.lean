import Derived.Test.YthikpbaphpdpfaaHwMail3
import Derived.Test.YthikpbaphpdpfaaHwS1
set_option linter.unusedVariables false
set_option linter.unusedSimpArgs false
namespace Go.Hw.VB
open Go Go.Proofs


theorem wrap_i64_nat {n : Nat} (h : n < 9223372036854775808) : IntKind.wrap .i64 (n : Int) = n := wrap64_of (by omega) (by omega)
theorem or_i64 (a b : Nat) (ha : a < 9223372036854775808) (hb : b < 9223372036854775808) : iop .or .i64 (a : Int) (b : Int) = ((a ||| b : Nat) : Int) := by
  show IntKind.wrap .i64 ((BitVec.ofInt 64 (a : Int) ||| BitVec.ofInt 64 (b : Int)).toNat : Int) = _
  rw [BitVec.toNat_or, BitVec.toNat_ofInt, BitVec.toNat_ofInt]
  have e1 : ((a : Int) % ((2 ^ 64 : Nat) : Int)).toNat = a := by omega
  have e2 : ((b : Int) % ((2 ^ 64 : Nat) : Int)).toNat = b := by omega
  rw [e1, e2]
  have : a ||| b < 2 ^ 63 := Nat.or_lt_two_pow (by omega) (by omega)
  exact wrap_i64_nat (by omega)
theorem shl_i64 (a i : Nat) (hi : i ≤ 64) (h : a * 2 ^ i < 9223372036854775808) : iop .shl .i64 (a : Int) (i : Int) = ((a * 2 ^ i : Nat) : Int) := by
  show IntKind.wrap .i64 ((a : Int) * 2 ^ (min (i : Int).toNat 64)) = _
  rw [Int.toNat_natCast, Nat.min_eq_left hi]
  have e : (a : Int) * 2 ^ i = ((a * 2 ^ i : Nat) : Int) := by rw [Int.natCast_mul, Int.natCast_pow]; rfl
  rw [e]
  exact wrap_i64_nat h
theorem shr_i64 (a i : Nat) (hi : i ≤ 64) : iop .shr .i64 (a : Int) (i : Int) = ((a / 2 ^ i : Nat) : Int) := by
  simp only [iop, ibin, IntKind.bits]
  rw [Int.toNat_natCast, Nat.min_eq_left hi, Int.fdiv_eq_ediv_of_nonneg _ (by exact_mod_cast Nat.zero_le _), Int.natCast_ediv, Int.natCast_pow]
  rfl
theorem shl_or (a b k : Nat) (hk : k ≤ 62) (hb : b < 2 ^ k) (ha : a * 2 ^ k + b < 9223372036854775808) : iop .or .i64 (iop .shl .i64 (a : Int) (k : Int)) (b : Int) = ((a * 2 ^ k + b : Nat) : Int) := by
  have h1 : a * 2 ^ k < 9223372036854775808 := by omega
  rw [shl_i64 a k (by omega) h1, or_i64 _ _ h1 (by omega), Nat.or_comm, or_add' hb, Nat.add_comm]
theorem wrap8_nat (n : Nat) : IntKind.wrap .u8 (n : Int) = ((n % 256 : Nat) : Int) := by rw [wrap_u8]; omega


def be : Nat → Nat → List UInt8
  | 0, _ => []
  | k + 1, n => UInt8.ofNat (n / 256 ^ k % 256) :: be k n
theorem be_len : ∀ k n, (be k n).length = k
  | 0, _ => rfl
  | k + 1, n => by rw [be, List.length_cons, be_len k n]
def q2 (a b : UInt8) : Nat := a.toNat * 256 + b.toNat
def q4 (a b c d : UInt8) : Nat := ((a.toNat * 256 + b.toNat) * 256 + c.toNat) * 256 + d.toNat
theorem u8_lt (a : UInt8) : a.toNat < 256 := a.toNat_lt
theorem u8_of {n : Nat} : (UInt8.ofNat (n % 256)).toNat = n % 256 := by rw [UInt8.toNat_ofNat']; omega
theorem parte_call (b : List UInt8) (hb : b.length + 4 ≤ B) : sp66 b (be 4 b.length ++ b) := by
  refine ok66 _ _ ?_
  unfold w66
  unfold B at hb
  have e24 := shr_i64 b.length 24 (by omega)
  have e16 := shr_i64 b.length 16 (by omega)
  have e8 := shr_i64 b.length 8 (by omega)
  refine ⟨by simp [ibinOk], ?_⟩
  rintro _ rfl
  rw [show iop .shr .i64 (b.length : Int) 24 = _ from e24, wrap8_nat]
  rintro _ rfl
  refine ⟨by simp [ibinOk], ?_⟩
  rintro _ rfl
  rw [show iop .shr .i64 (b.length : Int) 16 = _ from e16, wrap8_nat]
  rintro _ rfl
  refine ⟨by simp [ibinOk], ?_⟩
  rintro _ rfl
  rw [show iop .shr .i64 (b.length : Int) 8 = _ from e8, wrap8_nat]
  rintro _ rfl
  rw [wrap8_nat]
  rintro _ rfl
  refine ⟨?_, by simp; omega, ?_⟩
  · intro m hm
    simp only [List.mem_cons, List.not_mem_nil, or_false] at hm
    omega
  · rintro _ rfl
    simp only [List.map_cons, List.map_nil, Int.toNat_natCast, be]
    simp
theorem eight_call (n : Nat) (hn : n < 9223372036854775808) : sp65m (n : Int) (be 8 n) := by
  refine ok65m _ _ ?_
  unfold w65m
  refine ⟨fun l i => ∃ k : Nat, i = 8 * (k : Int) - 8 ∧ k ≤ 8 ∧ l ++ be k n = be 8 n, fun _ i => (i + 8).toNat, ⟨8, by omega, by omega, rfl⟩, ?_⟩
  rintro l i ⟨k, rfl, hk, he⟩
  refine ⟨fun h0 => ?_, fun h0 => ?_⟩
  · obtain ⟨j, rfl⟩ : ∃ j, k = j + 1 := ⟨k - 1, by omega⟩
    have hlen := congrArg List.length he
    rw [List.length_append, be_len, be_len] at hlen
    have e1 : (8 * ((j + 1 : Nat) : Int) - 8) = ((8 * j : Nat) : Int) := by omega
    rw [e1]
    refine ⟨show (0 : Int) ≤ _ by omega, ?_⟩
    rintro _ rfl
    rw [shr_i64 n (8 * j) (by omega)]
    rintro _ rfl
    rw [wrap8_nat]
    refine ⟨?_, by simp; omega, ?_⟩
    · intro m hm
      simp only [List.mem_cons, List.not_mem_nil, or_false] at hm
      omega
    rintro _ rfl
    refine ⟨by omega, ?_⟩
    rintro _ rfl
    refine ⟨⟨j, by omega, by omega, ?_⟩, by dsimp only; omega⟩
    rw [← he, List.append_assoc, be]
    simp only [List.map_cons, List.map_nil, Int.toNat_natCast, List.cons_append, List.nil_append]
    have e2 : (2 : Nat) ^ (8 * j) = 256 ^ j := by rw [Nat.pow_mul]
    rw [e2]
  · have : k = 0 := by omega
    subst this
    simpa [be] using he


def pk (x : List UInt8) : List UInt8 := UInt8.ofNat (x.length / 256 % 256) :: UInt8.ofNat (x.length % 256) :: x
theorem pk_len (x : List UInt8) : (pk x).length = x.length + 2 := rfl
theorem pack_call (x : List UInt8) : sp94 [x] (if x.length ≤ 65535 then (pk x, 0) else ([], 2)) := by
  refine ok94 _ _ ?_
  unfold w94
  refine ⟨fun v i => (i = 0 ∧ v = []) ∨ (i = 1 ∧ x.length ≤ 65535 ∧ v = pk x), fun _ i => 1 - i.toNat, .inl ⟨rfl, rfl⟩, ?_⟩
  rintro v i (⟨rfl, rfl⟩ | ⟨rfl, hx, rfl⟩) t rfl
  · refine ⟨fun h => ⟨by simp, fun a ha => ?_⟩, fun h => by simp at h⟩
    have : a = x := by simpa using ha.symm
    subst this
    refine ⟨fun h => by rw [if_neg (by omega)], fun h => ?_⟩
    have e8 := shr_i64 a.length 8 (by omega)
    refine ⟨by simp [ibinOk], ?_⟩
    rintro _ rfl
    rw [show iop .shr .i64 (a.length : Int) 8 = _ from e8, wrap8_nat]
    rintro _ rfl
    rw [wrap8_nat]
    rintro _ rfl
    refine ⟨?_, by simp, ?_⟩
    · intro m hm
      simp only [List.mem_cons, List.not_mem_nil, or_false] at hm
      omega
    · rintro _ rfl
      refine ⟨by simp; omega, ?_⟩
      rintro _ rfl
      refine ⟨by omega, ?_⟩
      rintro _ rfl
      refine ⟨.inr ⟨by omega, by omega, ?_⟩, by dsimp only; omega⟩
      simp only [List.map_cons, List.map_nil, Int.toNat_natCast, pk, List.nil_append, List.cons_append]
  · refine ⟨fun h => by simp at h, fun h => ?_⟩
    rw [if_pos hx]
    exact ⟨_, clone_call _ (by rw [pk_len]; unfold B; omega), rfl⟩
def scanF : Nat → List UInt8 → List (List UInt8) × Nat
  | 0, _ => ([], 0)
  | k + 1, a :: b :: r => if r.length < q2 a b then ([], 0) else
    (r.take (q2 a b) :: (scanF k (r.drop (q2 a b))).1, 2 + q2 a b + (scanF k (r.drop (q2 a b))).2)
  | _ + 1, _ => ([], 0)
def scan (s : List UInt8) : List (List UInt8) × Nat := scanF s.length s
theorem scanF_more : ∀ (k j : Nat) (s : List UInt8), s.length ≤ k → s.length ≤ j → scanF k s = scanF j s
  | 0, 0, _, _, _ => rfl
  | 0, j + 1, s, h1, _ => by
    have : s = [] := List.eq_nil_of_length_eq_zero (by omega)
    subst this; rfl
  | k + 1, 0, s, _, h2 => by
    have : s = [] := List.eq_nil_of_length_eq_zero (by omega)
    subst this; rfl
  | k + 1, j + 1, [], _, _ => rfl
  | k + 1, j + 1, [a], _, _ => rfl
  | k + 1, j + 1, a :: b :: r, h1, h2 => by
    simp only [List.length_cons] at h1 h2
    simp only [scanF]
    rw [scanF_more k j (r.drop _) (by simp; omega) (by simp; omega)]
theorem scan_stop {s : List UInt8} (h : s.length < 2) : scan s = ([], 0) := by
  match s, h with
  | [], _ => rfl
  | [a], _ => rfl
theorem scan_short {a b : UInt8} {r : List UInt8} (h : r.length < q2 a b) : scan (a :: b :: r) = ([], 0) := by
  simp only [scan, List.length_cons, scanF, if_pos h]
theorem scan_step {a b : UInt8} {r : List UInt8} (h : q2 a b ≤ r.length) : scan (a :: b :: r) = (r.take (q2 a b) :: (scan (r.drop (q2 a b))).1, 2 + q2 a b + (scan (r.drop (q2 a b))).2) := by
  simp only [scan, List.length_cons, scanF, if_neg (show ¬ r.length < q2 a b by omega)]
  rw [scanF_more (r.length + 1) (r.drop (q2 a b)).length _ (by simp; omega) (Nat.le_refl _)]
theorem drop_two {s : List UInt8} {n : Nat} {a b : UInt8} (h1 : s[n]? = some a) (h2 : s[n + 1]? = some b) : s.drop n = a :: b :: s.drop (n + 2) := by
  obtain ⟨l1, e1⟩ := List.getElem?_eq_some_iff.1 h1
  obtain ⟨l2, e2⟩ := List.getElem?_eq_some_iff.1 h2
  rw [List.drop_eq_getElem_cons l1, List.drop_eq_getElem_cons l2, e1, e2]
theorem q2_int (a b : UInt8) : iop .or .i64 (iop .shl .i64 (a.toNat : Int) 8) (b.toNat : Int) = (q2 a b : Int) := by
  have h1 := u8_lt a
  have h2 := u8_lt b
  exact shl_or a.toNat b.toNat 8 (by omega) (by omega) (by omega)
theorem q2_lt (a b : UInt8) : q2 a b < 65536 := by
  have h1 := u8_lt a
  have h2 := u8_lt b
  unfold q2; omega
theorem scan_call (s : List UInt8) (hs : s.length ≤ 5000000000000) : sp95 s ((scan s).1, ((scan s).2 : Int)) := by
  refine ok95 _ _ ?_
  unfold w95
  refine ⟨fun v i => v = (scan s).1 ∧ i = ((scan s).2 : Int), ⟨fun v i => ∃ k : Nat, i = k ∧ k ≤ s.length ∧ v.length ≤ k ∧ (scan s).1 = v ++ (scan (s.drop k)).1 ∧ (scan s).2 = k + (scan (s.drop k)).2, fun _ i => s.length - i.toNat, ⟨0, rfl, by omega, by simp, by simp, by simp⟩, ?_⟩, ?_⟩
  · rintro v i ⟨k, rfl, hk, hv, h1, h2⟩
    refine ⟨by omega, ?_⟩
    rintro _ rfl
    refine ⟨fun h => ⟨by omega, fun a ha => ⟨by simp [ibinOk], ?_⟩⟩, fun h => ?_⟩
    · rintro _ rfl
      refine ⟨by omega, ?_⟩
      rintro _ rfl
      refine ⟨by omega, fun b hb => ⟨by simp [ibinOk], ?_⟩⟩
      rw [q2_int]
      rintro _ rfl
      have ha' : s[k]? = some a := by simpa using ha
      have hb' : s[k + 1]? = some b := by rw [show ((k : Int) + 1).toNat = k + 1 by omega] at hb; exact hb
      have hd := drop_two ha' hb'
      have hq := q2_lt a b
      refine ⟨by omega, ?_⟩
      rintro _ rfl
      refine ⟨by omega, ?_⟩
      rintro _ rfl
      refine ⟨fun h3 => ?_, fun h3 => ?_⟩
      · have e : scan (s.drop k) = ([], 0) := by rw [hd]; exact scan_short (by rw [List.length_drop]; omega)
        rw [e] at h1 h2
        rw [h1, h2]
        simp
      · have e := scan_step (a := a) (b := b) (r := s.drop (k + 2)) (by rw [List.length_drop]; omega)
        rw [← hd] at e
        rw [e] at h1 h2
        refine ⟨by omega, ?_⟩
        rintro _ rfl
        refine ⟨by omega, ?_⟩
        rintro _ rfl
        refine ⟨by omega, ?_⟩
        rintro _ rfl
        refine ⟨by omega, ?_⟩
        rintro _ rfl
        refine ⟨_, clone_call _ (by rw [List.length_drop, List.length_take]; unfold B; omega), by simp; omega, ?_⟩
        rintro _ rfl
        refine ⟨by omega, ?_⟩
        rintro _ rfl
        refine ⟨by omega, ?_⟩
        rintro _ rfl
        refine ⟨⟨k + 2 + q2 a b, by omega, by omega, by simp; omega, ?_, ?_⟩, by dsimp only; omega⟩
        · rw [h1, show ((k : Int) + 2 + (q2 a b : Int)).toNat = k + 2 + q2 a b by omega, show ((k : Int) + 2).toNat = k + 2 by omega, ← List.take_drop, List.drop_drop]
          simp
        · rw [h2, List.drop_drop]
          dsimp only
          omega
    · have e : scan (s.drop k) = ([], 0) := scan_stop (by rw [List.length_drop]; omega)
      rw [e] at h1 h2
      rw [h1, h2]
      simp
  · rintro v i ⟨rfl, rfl⟩
    rfl
theorem scan_pk {x : List UInt8} (hx : x.length ≤ 65535) (s : List UInt8) : scan (pk x ++ s) = (x :: (scan s).1, 2 + x.length + (scan s).2) := by
  have hn : q2 (UInt8.ofNat (x.length / 256 % 256)) (UInt8.ofNat (x.length % 256)) = x.length := by
    unfold q2; rw [u8_of, u8_of]; omega
  unfold pk
  rw [List.cons_append, List.cons_append, scan_step (by rw [hn]; simp), hn, List.take_left, List.drop_left]
theorem scan_pks : ∀ (l : List (List UInt8)), (∀ x ∈ l, x.length ≤ 65535) → scan (catL pk l) = (l, (catL pk l).length)
  | [], _ => rfl
  | x :: l, h => by
    have e : catL pk (x :: l) = pk x ++ catL pk l := by simp [catL]
    rw [e, scan_pk (h x (by simp)), scan_pks l (fun y hy => h y (by simp [hy])), List.length_append, pk_len]
    simp only [Prod.mk.injEq, true_and]
    omega
end Go.Hw.VB

