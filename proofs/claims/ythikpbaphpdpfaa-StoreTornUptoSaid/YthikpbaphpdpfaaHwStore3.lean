import Derived.Test.YthikpbaphpdpfaaHwStore2
set_option linter.unusedVariables false
set_option linter.unusedSimpArgs false
namespace Go.Hw.VB
open Go Go.Proofs

theorem snE_zero {s : Sn} (h : snE s = 0) : s.Parcels.length ≤ 100 ∧ s.Ways.length ≤ 60 ∧ 0 ≤ s.Time ∧ (∀ p ∈ s.Parcels, checkPF p = 0) ∧ ∀ w ∈ s.Ways, 1 ≤ w.From ∧ w.From ≤ 8 ∧ 1 ≤ w.To ∧ w.To ≤ 8 ∧ w.Letters.length ≤ 100 ∧ ∀ x ∈ w.Letters, checkLF x = 0 := by
  unfold snE at h
  split at h
  · cases h
  split at h
  · cases h
  split at h
  · cases h
  split at h
  · rename_i hn; exact absurd h hn
  rename_i h1 h2 h3 h4
  have h4 := firstI_zero.1 (Classical.byContradiction h4)
  have h5 := firstI_zero.1 h
  refine ⟨by omega, by omega, by omega, fun p hp => ?_, fun w hw => ?_⟩
  · obtain ⟨j, hj⟩ := List.getElem?_of_mem hp
    have := h4 j p hj
    unfold parE at this
    split at this
    · rename_i hn; exact absurd this hn
    · rename_i hn; exact Classical.byContradiction hn
  · obtain ⟨j, hj⟩ := List.getElem?_of_mem hw
    have := h5 j w hj
    unfold wayE at this
    split at this
    · cases this
    split at this
    · cases this
    split at this
    · cases this
    exact ⟨by omega, by omega, by omega, by omega, by omega, firstE_zero.1 this⟩
def encW (w : Wy) : List UInt8 := [UInt8.ofNat (w.From % 256).toNat, UInt8.ofNat (w.To % 256).toNat] ++ catL (fun x => pk (encL x)) w.Letters
def Small (w : Wy) : Prop := ∀ x ∈ w.Letters, (encL x).length ≤ 65535
open Classical in
noncomputable def lettersR (w : Wy) : List UInt8 × Int := if Small w then (encW w, 0) else ([], 2)
theorem pks_len {l : List Lt} (h : ∀ x ∈ l, (encL x).length ≤ 65535) : (catL (fun x => pk (encL x)) l).length ≤ l.length * 65537 :=
  catL_len fun x hx => by rw [pk_len]; have := h x hx; omega
theorem letters_call (w : Wy) (hw : WOk w) (hl : w.Letters.length ≤ 100) (hc : ∀ x ∈ w.Letters, checkLF x = 0) : sp67 w (lettersR w) := by
  refine ok67 _ _ ?_
  unfold w67
  intro v2 hv2 v3 hv3
  rw [wrap_u8] at hv2 hv3
  refine ⟨?_, ?_⟩
  · intro m hm
    simp only [List.mem_cons, List.not_mem_nil, or_false] at hm
    omega
  refine ⟨fun c i => ∃ k : Nat, i = k ∧ k ≤ w.Letters.length ∧ (∀ x ∈ w.Letters.take k, (encL x).length ≤ 65535) ∧ c = [UInt8.ofNat (w.From % 256).toNat, UInt8.ofNat (w.To % 256).toNat] ++ catL (fun x => pk (encL x)) (w.Letters.take k), fun _ i => w.Letters.length - i.toNat, ⟨0, rfl, by omega, by simp, ?_⟩, ?_⟩
  · subst hv2; subst hv3; simp [catL]
  rintro _ _ ⟨k, rfl, hk, hall, rfl⟩ t rfl
  refine ⟨fun h => ?_, fun h => ?_⟩
  · have hkl : k < w.Letters.length := by simp at h; omega
    refine ⟨by omega, fun a ha => ?_⟩
    have ha' : w.Letters[k]? = some a := by simpa using ha
    have hm := List.mem_of_getElem? ha'
    rw [leta]
    refine ⟨_, letterB_call a (hw.l a hm), ?_⟩
    have e : bytesL a = (encL a, 0) := by unfold bytesL; rw [if_pos (hc a hm)]
    rw [e]
    refine ⟨fun h => absurd rfl h, fun _ => ⟨_, pack_call _, ?_⟩⟩
    dsimp only
    by_cases h6 : (encL a).length ≤ 65535
    · rw [if_pos h6]
      refine ⟨fun h => absurd rfl h, fun _ => ?_⟩
      have hle := pks_len hall
      have hlt : (w.Letters.take k).length ≤ 100 := by rw [List.length_take]; omega
      refine ⟨by simp only [List.length_append, List.length_cons, List.length_nil, pk_len]; omega, ?_⟩
      rintro _ rfl
      refine ⟨by omega, ?_⟩
      rintro _ rfl
      refine ⟨⟨k + 1, by omega, by omega, take_snoc hall ha' h6, ?_⟩, by (try dsimp only); omega⟩
      rw [catL_snoc _ _ k a ha', List.append_assoc]
    · rw [if_neg h6]
      refine ⟨fun _ => ?_, fun h => absurd h (by decide)⟩
      unfold lettersR
      rw [if_neg fun hs => h6 (hs a hm)]
  · have hkl : k = w.Letters.length := by simp at h; omega
    subst hkl
    rw [List.take_length] at hall ⊢
    unfold lettersR
    rw [if_pos (show Small w from hall)]
    rfl
def encSn (s : Sn) : List UInt8 := be 8 s.Time.toNat ++ ([UInt8.ofNat (s.Parcels.length % 256), UInt8.ofNat (s.Ways.length % 256)] ++ (catL (fun p => pt (encP p)) s.Parcels ++ catL (fun w => pt (encW w)) s.Ways))
open Classical in
noncomputable def bytesSn (s : Sn) : List UInt8 × Int := if snE s ≠ 0 then ([], snE s) else if ∀ w ∈ s.Ways, Small w then (encSn s, 0) else ([], 2)
theorem encW_len {w : Wy} (hl : w.Letters.length ≤ 100) (hs : Small w) : (encW w).length ≤ 6553702 := by
  have := pks_len hs
  unfold encW
  simp only [List.length_append, List.length_cons, List.length_nil]
  omega
theorem bytesSn_call (s : Sn) (hs : SnOk s) : sp28m s (bytesSn s) := by
  refine ok28m _ _ ?_
  unfold w28m
  rw [sneta]
  refine ⟨_, checkSn_call s hs, fun h => by unfold bytesSn; rw [if_pos h], fun h => ?_⟩
  obtain ⟨h1, h2, h3, h4, h5⟩ := snE_zero h
  have ht := hs.t
  have h8 : sp65m s.Time (be 8 s.Time.toNat) := by
    have := eight_call s.Time.toNat (by have := ht.2; omega)
    rwa [Int.toNat_of_nonneg h3] at this
  have hp : ∀ l : List Pc, (∀ p ∈ l, p ∈ s.Parcels) → (catL (fun p => pt (encP p)) l).length ≤ l.length * 5000000004 := fun l hl => catL_len fun p hp => by
    have := encP_len (hs.p p (hl p hp)) (h4 p (hl p hp))
    rw [pt_len]; omega
  have hw : ∀ l : List Wy, (∀ w ∈ l, w ∈ s.Ways ∧ Small w) → (catL (fun w => pt (encW w)) l).length ≤ l.length * 6553706 := fun l hl => catL_len fun w hw => by
    have := encW_len (h5 w (hl w hw).1).2.2.2.2.1 (hl w hw).2
    rw [pt_len]; omega
  have hd : ∀ v w : Int, v = IntKind.wrap .u8 (s.Parcels.length : Int) → w = IntKind.wrap .u8 (s.Ways.length : Int) → (∀ m ∈ ([v, w] : List Int), 0 ≤ m ∧ m < 256) ∧ [v, w].map (fun m : Int => UInt8.ofNat m.toNat) = [UInt8.ofNat (s.Parcels.length % 256), UInt8.ofNat (s.Ways.length % 256)] := by
    rintro _ _ rfl rfl
    rw [wrap8_nat, wrap8_nat]
    refine ⟨fun m hm => ?_, rfl⟩
    simp only [List.mem_cons, List.not_mem_nil, or_false] at hm
    omega
  have he : (be 8 s.Time.toNat).length = 8 := be_len _ _
  refine ⟨fun v => v = be 8 s.Time.toNat ++ [UInt8.ofNat (s.Parcels.length % 256), UInt8.ofNat (s.Ways.length % 256)], ⟨⟨_, h8, ?_⟩, ?_, ?_, ?_⟩, ?_⟩
  · intro v hv w hw
    obtain ⟨g1, g2⟩ := hd v w hv hw
    refine ⟨g1, by simp [he], ?_⟩
    rintro _ rfl
    rw [g2]
  · intro w hw
    refine ⟨_, h8, ?_⟩
    intro v hv
    obtain ⟨g1, g2⟩ := hd v w hv hw
    refine ⟨g1, by simp [he], ?_⟩
    rintro _ rfl
    rw [g2]
  · intro v hv
    refine ⟨_, h8, ?_⟩
    intro w hw
    obtain ⟨g1, g2⟩ := hd v w hv hw
    refine ⟨g1, by simp [he], ?_⟩
    rintro _ rfl
    rw [g2]
  · intro v hv w hw
    obtain ⟨g1, g2⟩ := hd v w hv hw
    refine ⟨g1, _, h8, by simp [he], ?_⟩
    rintro _ rfl
    rw [g2]
  · rintro _ rfl
    refine ⟨fun c i => ∃ k : Nat, i = k ∧ k ≤ s.Parcels.length ∧ c = be 8 s.Time.toNat ++ ([UInt8.ofNat (s.Parcels.length % 256), UInt8.ofNat (s.Ways.length % 256)] ++ catL (fun p => pt (encP p)) (s.Parcels.take k)), fun _ i => s.Parcels.length - i.toNat, ⟨0, rfl, by omega, by simp [catL]⟩, ?_⟩
    rintro _ _ ⟨k, rfl, hk, rfl⟩ t rfl
    have htk := hp (s.Parcels.take k) fun p hp => List.mem_of_mem_take hp
    have hkk : (s.Parcels.take k).length ≤ 100 := by rw [List.length_take]; omega
    refine ⟨fun h => ?_, fun h => ?_⟩
    · have hkl : k < s.Parcels.length := by simp at h; omega
      refine ⟨by omega, fun a ha => ?_⟩
      have ha' : s.Parcels[k]? = some a := by simpa using ha
      have hm := List.mem_of_getElem? ha'
      have hla := encP_len (hs.p a hm) (h4 a hm)
      rw [peta]
      refine ⟨_, parcelB_call a (hs.p a hm), ?_⟩
      have e : bytesP a = (encP a, 0) := by unfold bytesP; rw [if_pos (h4 a hm)]
      rw [e]
      refine ⟨fun h => absurd rfl h, fun _ => ⟨_, parte_call _ (by unfold B; dsimp only; omega), ?_⟩⟩
      dsimp only
      refine ⟨by simp only [List.length_append, List.length_cons, List.length_nil, be_len]; omega, ?_⟩
      rintro _ rfl
      refine ⟨by omega, ?_⟩
      rintro _ rfl
      refine ⟨⟨k + 1, by omega, by omega, ?_⟩, by (try dsimp only); omega⟩
      rw [catL_snoc _ _ k a ha']
      simp only [pt, List.append_assoc]
    · have hkl : k = s.Parcels.length := by simp at h; omega
      subst hkl
      clear h htk hkk hk
      rw [List.take_length]
      have hP := hp s.Parcels fun p hp => hp
      refine ⟨fun c i => ∃ k : Nat, i = k ∧ k ≤ s.Ways.length ∧ (∀ w ∈ s.Ways.take k, Small w) ∧ c = be 8 s.Time.toNat ++ ([UInt8.ofNat (s.Parcels.length % 256), UInt8.ofNat (s.Ways.length % 256)] ++ (catL (fun p => pt (encP p)) s.Parcels ++ catL (fun w => pt (encW w)) (s.Ways.take k))), fun _ i => s.Ways.length - i.toNat, ⟨0, rfl, by omega, by simp, by simp [catL]⟩, ?_⟩
      rintro _ _ ⟨k, rfl, hk, hall, rfl⟩ t rfl
      have htk := hw (s.Ways.take k) fun w hw => ⟨List.mem_of_mem_take hw, hall w hw⟩
      have hkk : (s.Ways.take k).length ≤ 60 := by rw [List.length_take]; omega
      refine ⟨fun h => ?_, fun h => ?_⟩
      · have hkl : k < s.Ways.length := by simp at h; omega
        refine ⟨by omega, fun a ha => ?_⟩
        have ha' : s.Ways[k]? = some a := by simpa using ha
        have hm := List.mem_of_getElem? ha'
        obtain ⟨_, _, _, _, g5, g6⟩ := h5 a hm
        rw [weta]
        refine ⟨_, letters_call a (hs.w a hm) g5 g6, ?_⟩
        unfold lettersR
        by_cases hsm : Small a
        · rw [if_pos hsm]
          have hla := encW_len g5 hsm
          refine ⟨fun h => absurd rfl h, fun _ => ⟨_, parte_call _ (by unfold B; dsimp only; omega), ?_⟩⟩
          dsimp only
          refine ⟨by simp only [List.length_append, List.length_cons, List.length_nil, be_len]; omega, ?_⟩
          rintro _ rfl
          refine ⟨by omega, ?_⟩
          rintro _ rfl
          refine ⟨⟨k + 1, by omega, by omega, take_snoc hall ha' hsm, ?_⟩, by (try dsimp only); omega⟩
          rw [catL_snoc _ _ k a ha']
          simp only [pt, List.append_assoc]
        · rw [if_neg hsm]
          refine ⟨fun _ => ?_, fun h => absurd h (by decide)⟩
          unfold bytesSn
          rw [if_neg (by simpa using ‹snE s = 0›), if_neg fun hall => hsm (hall a hm)]
      · have hkl : k = s.Ways.length := by simp at h; omega
        subst hkl
        rw [List.take_length] at hall htk ⊢
        refine ⟨_, clone_call _ (by unfold B; simp only [List.length_append, List.length_cons, List.length_nil, be_len]; omega), ?_⟩
        unfold bytesSn
        rw [if_neg (by simpa using ‹snE s = 0›), if_pos hall]
        rfl

theorem scanF_len : ∀ (k : Nat) (s : List UInt8), (scanF k s).1.length ≤ s.length
  | 0, s => by simp [scanF]
  | k + 1, [] => by simp [scanF]
  | k + 1, [_] => by simp [scanF]
  | k + 1, a :: b :: r => by
    rw [scanF]
    split
    · simp
    · have := scanF_len k (r.drop (q2 a b))
      rw [List.length_drop] at this
      simp only [List.length_cons]
      omega
theorem scan_len (s : List UInt8) : (scan s).1.length ≤ s.length := scanF_len _ s
def zeroW : Wy := ⟨0, 0, []⟩
def zeroSn : Sn := ⟨0, [], []⟩
open Classical in
noncomputable def readW (b : List UInt8) : Wy × Bool :=
  if b.length < 2 then (zeroW, false) else
  if ∀ y ∈ (scan (b.drop 2)).1, (readL y).2 = 0 then (⟨(b.getD 0 0).toNat, (b.getD 1 0).toNat, (scan (b.drop 2)).1.map fun y => (readL y).1⟩, decide (((scan (b.drop 2)).2 : Int) = (b.length : Int) - 2)) else (zeroW, false)
theorem readW_call (b : List UInt8) (hb : b.length ≤ 4294967296) : sp70 b (readW b) := by
  refine ok70 _ _ ?_
  unfold w70 readW
  refine ⟨fun h => by rw [if_pos (by omega)]; rfl, fun h => ⟨by omega, fun a ha => ⟨by omega, fun c hc => ⟨by omega, ?_⟩⟩⟩⟩
  rw [if_neg (by omega)]
  have ea : b.getD 0 0 = a := by rw [List.getD_eq_getElem?_getD]; simp at ha; simp [ha]
  have ec : b.getD 1 0 = c := by rw [List.getD_eq_getElem?_getD]; simp at hc; simp [hc]
  rw [ea, ec]
  rintro _ rfl
  have e0 : (b.take ((b.length : Int) : Int).toNat).drop ((2 : Int) : Int).toNat = b.drop 2 := by rw [Int.toNat_natCast, List.take_length]; rfl
  rw [e0]
  refine ⟨_, scan_call _ (by rw [List.length_drop]; omega), ?_⟩
  have hlen := scan_len (b.drop 2)
  rw [List.length_drop] at hlen
  generalize scan (b.drop 2) = q at *
  dsimp only
  refine ⟨fun v i => ∃ k : Nat, i = k ∧ k ≤ q.1.length ∧ (∀ y ∈ q.1.take k, (readL y).2 = 0) ∧ v = (q.1.take k).map fun y => (readL y).1, fun _ i => q.1.length - i.toNat, ⟨0, rfl, by omega, by simp, by simp⟩, ?_⟩
  rintro _ _ ⟨k, rfl, hk, hall, rfl⟩ t rfl
  refine ⟨fun h => ?_, fun h => ?_⟩
  · have hkl : k < q.1.length := by simp at h; omega
    refine ⟨by omega, fun y hy => ?_⟩
    have hy' : q.1[k]? = some y := by simpa using hy
    refine ⟨_, readL_call y, fun h => ?_, fun h => ?_⟩
    · rw [if_neg fun hh => h (hh y (List.mem_of_getElem? hy'))]
      rfl
    · rw [leta]
      refine ⟨by simp; omega, ?_⟩
      rintro _ rfl
      refine ⟨by omega, ?_⟩
      rintro _ rfl
      refine ⟨⟨k + 1, by omega, by omega, take_snoc hall hy' h, ?_⟩, by (try dsimp only); omega⟩
      rw [List.take_add_one, hy', Option.toList_some, List.map_append]
      rfl
  · have hkl : k = q.1.length := by simp at h; omega
    subst hkl
    rw [List.take_length] at hall ⊢
    refine ⟨by omega, ?_⟩
    rintro _ rfl
    rintro _ rfl
    rw [if_pos hall]
    simp [Bool.beq_eq_decide_eq]
def timeF (l : List UInt8) (a : Int) : Int := l.foldl (fun a c => iop .or .i64 (iop .shl .i64 a 8) (c.toNat : Int)) a
theorem wrap_i64_ok (n : Int) : I64 (IntKind.wrap .i64 n) := by
  simp only [I64, IntKind.wrap, IntKind.bits, IntKind.signed, Bool.true_and, decide_eq_true_eq, Nat.reduceSub, Int.reducePow, ge_iff_le]
  split <;> omega
theorem timeF_ok : ∀ (l : List UInt8) (a : Int), I64 a → I64 (timeF l a)
  | [], a, h => h
  | c :: l, a, h => timeF_ok l _ (wrap_i64_ok _)
theorem timeF_be : ∀ (k a n : Nat), a * 256 ^ k + n % 256 ^ k < 9223372036854775808 → timeF (be k n) (a : Int) = ((a * 256 ^ k + n % 256 ^ k : Nat) : Int)
  | 0, a, n, h => by simp [be, timeF, Nat.mod_one]
  | k + 1, a, n, h => by
    have e1 : n % 256 ^ (k + 1) = n % 256 ^ k + 256 ^ k * (n / 256 ^ k % 256) := Nat.mod_pow_succ
    have e3 : ∀ p q r : Nat, a * (p * 256) + (r + p * q) = (a * 256 + q) * p + r := fun p q r => by
      rw [Nat.add_mul, Nat.mul_assoc a 256 p, Nat.mul_comm 256 p, Nat.mul_comm q p]
      omega
    have e2 : a * 256 ^ (k + 1) + n % 256 ^ (k + 1) = (a * 256 + n / 256 ^ k % 256) * 256 ^ k + n % 256 ^ k := by
      rw [e1, Nat.pow_succ]
      exact e3 _ _ _
    rw [e2] at h ⊢
    rw [be, timeF, List.foldl_cons]
    have hpos : 0 < 256 ^ k := Nat.pow_pos (by decide)
    have hle : (a * 256 + n / 256 ^ k % 256) ≤ (a * 256 + n / 256 ^ k % 256) * 256 ^ k := Nat.le_mul_of_pos_right _ hpos
    have hq : n / 256 ^ k % 256 < 256 := Nat.mod_lt _ (by decide)
    have ih := timeF_be k (a * 256 + n / 256 ^ k % 256) n h
    generalize n / 256 ^ k % 256 = q at *
    generalize 256 ^ k = p at *
    have hs : iop .or .i64 (iop .shl .i64 (a : Int) 8) ((UInt8.ofNat q).toNat : Int) = ((a * 256 + q : Nat) : Int) := by
      rw [UInt8.toNat_ofNat', Nat.mod_eq_of_lt hq]
      exact shl_or a q 8 (by omega) (by omega) (by omega)
    rw [hs]
    exact ih
theorem readP_ok {b : List UInt8} (h : (readP b).2 = 0) : POk2 (readP b).1 := by
  unfold readP at h ⊢
  have hp := (parcelF_ok ⟨b, false, 0⟩).1.ok
  generalize parcelF ⟨b, false, 0⟩ = q at *
  dsimp only at h ⊢
  split at h
  · rename_i hd
    rw [if_pos hd]
    exact hp
  · cases h
theorem readL_ok {b : List UInt8} (h : (readL b).2 = 0) : LOk (readL b).1 := by
  unfold readL at h ⊢
  split at h
  · cases h
  rename_i hl
  rw [if_neg hl]
  have hp := (letterF_ok ⟨b, false, 0⟩).1.1
  generalize letterF ⟨b, false, 0⟩ = q at *
  dsimp only at h ⊢
  split at h
  · rename_i hd
    rw [if_pos hd]
    exact hp
  · cases h
theorem readW_ok {b : List UInt8} (hb : b.length ≤ B) (h : (readW b).2 = true) : WOk (readW b).1 := by
  unfold readW at h ⊢
  split at h
  · cases h
  rename_i hl
  rw [if_neg hl]
  split at h
  · rename_i hall
    rw [if_pos hall]
    refine ⟨?_, ?_⟩
    · have := scan_len (b.drop 2)
      rw [List.length_drop] at this
      simp only [List.length_map]
      omega
    · intro x hx
      obtain ⟨y, hy, rfl⟩ := List.mem_map.1 hx
      exact readL_ok (hall y hy)
  · cases h
open Classical in
noncomputable def readSn (b : List UInt8) : Sn × Int :=
  if b.length < 10 then (zeroSn, 3) else
  let n := (b.getD 8 0).toNat
  let q := partsR (n + (b.getD 9 0).toNat) (b.drop 10)
  if q.2 = false then (zeroSn, 3) else
  if (∀ x ∈ q.1.take n, (readP x).2 = 0) ∧ (∀ x ∈ q.1.drop n, (readW x).2 = true) then
    let s : Sn := ⟨timeF (b.take 8) 0, (q.1.take n).map fun x => (readP x).1, (q.1.drop n).map fun x => (readW x).1⟩
    if bytesSn s = (b, 0) then (s, 0) else (zeroSn, 3)
  else (zeroSn, 3)
theorem no_call : sp68 (zeroSn, 3) := by
  refine ok68 _ ?_
  unfold w68
  rfl
theorem parts_len : ∀ (k : Nat) (b : List UInt8) (l : List (List UInt8)) (r : List UInt8), partsO k b = some (l, r) → l.length = k ∧ ∀ x ∈ l, x.length < 4294967296 ∧ x.length ≤ b.length
  | 0, b, l, r, h => by
    simp [partsO] at h
    obtain ⟨rfl, rfl⟩ := h
    simp
  | k + 1, b, l, r, h => by
    match b, h with
    | [], h => simp [partsO] at h
    | [_], h => simp [partsO] at h
    | [_, _], h => simp [partsO] at h
    | [_, _, _], h => simp [partsO] at h
    | a :: b1 :: c :: d :: s, h =>
      rw [partsO] at h
      have hq := q4_lt a b1 c d
      generalize q4 a b1 c d = q at *
      split at h
      · cases h
      · cases hp : partsO k (s.drop q) with
        | none => rw [hp] at h; cases h
        | some p =>
          obtain ⟨l1, r1⟩ := p
          rw [hp] at h
          simp at h
          obtain ⟨rfl, rfl⟩ := h
          obtain ⟨g1, g2⟩ := parts_len k _ l1 r1 hp
          refine ⟨by simp [g1], fun x hx => ?_⟩
          rcases List.mem_cons.1 hx with rfl | hx
          · rw [List.length_take]; simp only [List.length_cons]; omega
          · have := g2 x hx
            rw [List.length_drop] at this
            simp only [List.length_cons]; omega
end Go.Hw.VB

