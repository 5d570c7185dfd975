import Derived.Test.YthikpbaphpdpfaaHwVal3
set_option linter.unusedVariables false
set_option linter.unusedSimpArgs false
namespace Go.Hw.VB
open Go Go.Proofs

theorem or_add' {n m i : Nat} (h : n < 2 ^ i) : n ||| (m * 2 ^ i) = n + m * 2 ^ i := by
  rw [Nat.or_comm, Nat.mul_comm, ← Nat.two_pow_add_eq_or_of_lt h, Nat.add_comm]
theorem natL_leb : ∀ (k i n m : Nat) (s : List UInt8) (left : Int), i + 7 * (k + 1) = 70 → n < 2 ^ i → m < 128 ^ (k + 1) → n + m * 2 ^ i < 18446744073709551616 → natL (k + 1) i n ⟨leb m ++ s, false, left⟩ = (n + m * 2 ^ i, ⟨s, false, left⟩) := by
  intro k
  induction k with
  | zero =>
    intro i n m s left hi hn hm hlt
    have hm' : m < 128 := by simpa using hm
    rw [natL, if_neg (by simp), leb_small hm']
    have hb : byteF ⟨[UInt8.ofNat m] ++ s, false, left⟩ = (m, ⟨s, false, left⟩) := by
      simp only [byteF, List.cons_append, List.nil_append]
      rw [UInt8.toNat_ofNat', Nat.mod_eq_of_lt (by omega)]
    rw [hb]
    dsimp only
    rw [if_pos hm', Nat.mod_eq_of_lt hm', Nat.mod_eq_of_lt (by omega), or_add' hn]
  | succ k ih =>
    intro i n m s left hi hn hm hlt
    rw [natL, if_neg (by simp)]
    by_cases hm' : m < 128
    · rw [leb_small hm']
      have hb : byteF ⟨[UInt8.ofNat m] ++ s, false, left⟩ = (m, ⟨s, false, left⟩) := by
        simp only [byteF, List.cons_append, List.nil_append]
        rw [UInt8.toNat_ofNat', Nat.mod_eq_of_lt (by omega)]
      rw [hb]
      dsimp only
      rw [if_pos hm', Nat.mod_eq_of_lt hm', Nat.mod_eq_of_lt (by omega), or_add' hn]
    · rw [leb_big hm']
      have hb : byteF ⟨(UInt8.ofNat (m % 128 + 128) :: leb (m / 128)) ++ s, false, left⟩ = (m % 128 + 128, ⟨leb (m / 128) ++ s, false, left⟩) := by
        simp only [byteF, List.cons_append]
        rw [UInt8.toNat_ofNat', Nat.mod_eq_of_lt (by omega)]
      rw [hb]
      dsimp only
      rw [if_neg (by omega)]
      have e1 : (m % 128 + 128) % 128 = m % 128 := by omega
      have e2 : m % 128 * 2 ^ i + m / 128 * (128 * 2 ^ i) = m * 2 ^ i := by
        rw [← Nat.mul_assoc, ← Nat.add_mul]
        congr 1
        omega
      have e3 : 2 ^ (i + 7) = 128 * 2 ^ i := by rw [Nat.pow_add]; omega
      have hp : 0 < 2 ^ i := Nat.two_pow_pos i
      have e4 : m % 128 * 2 ^ i ≤ 127 * 2 ^ i := Nat.mul_le_mul_right _ (by omega)
      rw [e1, Nat.mod_eq_of_lt (by omega), or_add' hn]
      rw [ih (i + 7) (n + m % 128 * 2 ^ i) (m / 128) s left (by omega) (by rw [e3]; omega) (by
        rw [Nat.div_lt_iff_lt_mul (by omega)]
        rw [Nat.pow_succ] at hm
        exact hm) (by rw [e3]; omega)]
      rw [e3]
      congr 1
      omega
theorem natF_leb {m : Nat} (hm : m < 18446744073709551616) (s : List UInt8) (left : Int) : natF ⟨leb m ++ s, false, left⟩ = (m, ⟨s, false, left⟩) := by
  have := natL_leb 9 0 0 m s left (by omega) (by omega) (Nat.lt_of_lt_of_le hm (by decide)) (by omega)
  simpa [natF] using this
theorem manyF_leb {m most : Nat} (h : m ≤ most) (hm : m < 18446744073709551616) (s : List UInt8) (left : Int) : manyF most ⟨leb m ++ s, false, left⟩ = (m, ⟨s, false, left⟩) := by
  unfold manyF
  rw [natF_leb hm]
  rw [if_neg (by dsimp only; omega)]
theorem textF_enc {t : List UInt8} (h : t.length ≤ 4000) (s : List UInt8) (left : Int) : textF ⟨leb t.length ++ (t ++ s), false, left⟩ = (t, ⟨s, false, left⟩) := by
  unfold textF
  rw [manyF_leb h (by omega)]
  dsimp only
  rw [if_neg (by simp)]
  simp
theorem partF_enc : ∀ v : Vl, AllV NumOk v → AllV KindOk v → long v ≤ 4000 → nodes v ≤ 400 → ∀ (f : Nat) (s : List UInt8) (left : Int), depth v ≤ f → (nodes v : Int) ≤ left → partF f ⟨enc v ++ s, false, left⟩ = (v, ⟨s, false, left - nodes v⟩) := by
  refine vl_ind fun v ih hn hk hl h400 f s left hd hle => ?_
  obtain ⟨hn1, hn2⟩ := (allv_iff v).1 hn
  obtain ⟨hk1, hk2⟩ := (allv_iff v).1 hk
  rw [long_eq] at hl
  rw [depth_eq] at hd
  have hne := nodes_eq v
  have hlen := len_nodes v.Args
  obtain ⟨f, rfl⟩ : ∃ f', f = f' + 1 := ⟨f - 1, by omega⟩
  rw [partF, if_neg (by dsimp only; simp; omega), enc_eq]
  simp only [List.cons_append, List.append_assoc]
  obtain ⟨k1, k2⟩ := hk1
  have hb : ∀ q : List UInt8, byteF ⟨UInt8.ofNat (v.Kind % 256).toNat :: q, false, left - 1⟩ = ((v.Kind % 256).toNat, ⟨q, false, left - 1⟩) := by
    intro q
    simp only [byteF]
    rw [UInt8.toNat_ofNat', Nat.mod_eq_of_lt (by omega)]
  rw [hb]
  dsimp only
  rw [natF_leb (zig_lt hn1)]
  dsimp only
  rw [textF_enc (by omega)]
  dsimp only
  rw [manyF_leb (by omega) (by omega)]
  dsimp only
  have key : ∀ (l acc : List Vl) (lf : Int), (∀ a ∈ l, a ∈ v.Args) → (nodess l : Int) ≤ lf → partsL (partF f) l.length ⟨encs l ++ s, false, lf⟩ acc = (acc ++ l, ⟨s, false, lf - nodess l⟩) := by
    intro l
    induction l with
    | nil => intro acc lf _ _; simp [partsL, encs, nodess]
    | cons a r ihl =>
      intro acc lf hm hlf
      rw [nodess] at hlf
      have ha := hm a (by simp)
      have h1 := mem_long ha
      have h2 := mem_nodes ha
      have h3 : depth a ≤ depths v.Args := by
        have : ∀ l : List Vl, a ∈ l → depth a ≤ depths l := by
          intro l
          induction l with
          | nil => simp
          | cons b r ih =>
            intro h
            rw [depths]
            rcases List.mem_cons.1 h with rfl | h
            · omega
            · have := ih h; omega
        exact this _ ha
      rw [List.length_cons, partsL, if_neg (by simp), encs, List.append_assoc]
      rw [ih a ha (hn2 a ha) (hk2 a ha) (by omega) (by omega) f _ _ (by omega) (by omega)]
      dsimp only
      rw [ihl _ _ (fun x hx => hm x (by simp [hx])) (by omega)]
      simp only [List.append_assoc, List.cons_append, List.nil_append, nodess]
      congr 2
      omega
  rw [key v.Args [] _ (fun _ h => h) (by omega)]
  simp only [List.nil_append, unzig_zig]
  have e1 : (((v.Kind % 256).toNat : Nat) : Int) = v.Kind := by omega
  rw [e1, eta]
  congr 2
  omega
end Go.Hw.VB

