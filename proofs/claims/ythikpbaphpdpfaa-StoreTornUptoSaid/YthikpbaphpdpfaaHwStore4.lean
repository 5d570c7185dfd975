import Derived.Test.YthikpbaphpdpfaaHwStore3
set_option linter.unusedVariables false
set_option linter.unusedSimpArgs false
namespace Go.Hw.VB
open Go Go.Proofs

theorem tk_lo {A : Type} {l : List A} {k n : Nat} {a : A} (ha : l[k]? = some a) (h : k < n) : (l.take (k + 1)).take n = (l.take k).take n ++ [a] ∧ (l.take (k + 1)).drop n = (l.take k).drop n := by
  have hl := lt_of_get ha
  rw [List.take_add_one, ha, Option.toList_some]
  refine ⟨?_, ?_⟩
  · rw [List.take_of_length_le (l := l.take k ++ [a]) (by simp; omega), List.take_of_length_le (l := l.take k) (by simp; omega)]
  · rw [List.drop_of_length_le (by simp; omega), List.drop_of_length_le (by simp; omega)]
theorem tk_hi {A : Type} {l : List A} {k n : Nat} {a : A} (ha : l[k]? = some a) (h : n ≤ k) : (l.take (k + 1)).take n = (l.take k).take n ∧ (l.take (k + 1)).drop n = (l.take k).drop n ++ [a] := by
  have hl := lt_of_get ha
  rw [List.take_add_one, ha, Option.toList_some]
  refine ⟨?_, ?_⟩
  · rw [List.take_append_of_le_length (by simp; omega)]
  · rw [List.drop_append_of_le_length (by simp; omega)]
theorem mem_tk {A : Type} {l : List A} {k n : Nat} {a : A} (ha : l[k]? = some a) (h : k < n) : a ∈ l.take n := List.mem_of_getElem? (i := k) (by rw [List.getElem?_take, if_pos h]; exact ha)
theorem mem_dr {A : Type} {l : List A} {k n : Nat} {a : A} (ha : l[k]? = some a) (h : n ≤ k) : a ∈ l.drop n := List.mem_of_getElem? (i := k - n) (by rw [List.getElem?_drop, show n + (k - n) = k by omega]; exact ha)
theorem partsR_len (k : Nat) (b : List UInt8) : (partsR k b).1.length ≤ k ∧ ∀ x ∈ (partsR k b).1, x.length < 4294967296 := by
  unfold partsR
  cases h : partsO k b with
  | none => simp
  | some p =>
    obtain ⟨l, r⟩ := p
    obtain ⟨h1, h2⟩ := parts_len k b l r h
    exact ⟨Nat.le_of_eq h1, fun x hx => (h2 x hx).1⟩
theorem readSn_call (b : List UInt8) (hb : b.length ≤ B) : sp29 b (readSn b) := by
  refine ok29 _ _ ?_
  unfold w29 readSn
  refine ⟨fun h => ⟨_, no_call, by rw [if_pos (by omega)]⟩, fun h => ⟨by omega, ?_⟩⟩
  rw [if_neg (by omega)]
  have e0 : (b.take ((8 : Int) : Int).toNat).drop ((0 : Int) : Int).toNat = b.take 8 := rfl
  rintro _ rfl
  rw [e0]
  have hl8 : (b.take 8).length = 8 := by rw [List.length_take]; omega
  refine ⟨fun v i => ∃ k : Nat, i = k ∧ k ≤ 8 ∧ v = timeF ((b.take 8).take k) 0, fun _ i => 8 - i.toNat, ⟨0, rfl, by omega, rfl⟩, ?_⟩
  rintro _ _ ⟨k, rfl, hk, rfl⟩ t rfl
  refine ⟨fun h => ?_, fun h => ?_⟩
  · have hkl : k < 8 := by simp at h; omega
    refine ⟨by omega, fun a ha => ⟨show (0 : Int) ≤ 8 by omega, ?_⟩⟩
    have ha' : (b.take 8)[k]? = some a := by simpa using ha
    rintro _ rfl
    refine ⟨trivial, ?_⟩
    rintro _ rfl
    refine ⟨by omega, ?_⟩
    rintro _ rfl
    refine ⟨⟨k + 1, by omega, by omega, ?_⟩, by (try dsimp only); omega⟩
    have e2 : (b.take 8).take (k + 1) = (b.take 8).take k ++ [a] := by rw [List.take_add_one (l := b.take 8) (i := k), ha', Option.toList_some]
    rw [e2, timeF, timeF, List.foldl_append]
    rfl
  · have hk8 : k = 8 := by rw [hl8] at h; simp at h; omega
    subst hk8
    rw [List.take_of_length_le (l := b.take 8) (by omega)]
    refine ⟨by omega, ?_⟩
    have e1 : (b.take ((b.length : Int) : Int).toNat).drop ((10 : Int) : Int).toNat = b.drop 10 := by rw [Int.toNat_natCast, List.take_length]; rfl
    rintro _ rfl
    rw [e1]
    refine ⟨by omega, fun a8 h8 => ⟨by omega, fun a9 h9 => ⟨by have := u8_lt a8; have := u8_lt a9; omega, ?_⟩⟩⟩
    rintro _ rfl
    have g8 : b.getD 8 0 = a8 := by rw [List.getD_eq_getElem?_getD]; have : b[8]? = some a8 := h8; rw [this]; rfl
    have g9 : b.getD 9 0 = a9 := by rw [List.getD_eq_getElem?_getD]; have : b[9]? = some a9 := h9; rw [this]; rfl
    rw [g8, g9]
    have u8 := u8_lt a8
    have u9 := u8_lt a9
    have hp := parts_call (b.drop 10) (a8.toNat + a9.toNat) (by omega) (by rw [List.length_drop]; omega)
    rw [Int.natCast_add] at hp
    have hpl := partsR_len (a8.toNat + a9.toNat) (b.drop 10)
    refine ⟨_, hp, ?_⟩
    dsimp only
    generalize partsR (a8.toNat + a9.toNat) (b.drop 10) = q at *
    obtain ⟨hq1, hq2⟩ := hpl
    refine ⟨fun hn => ⟨_, no_call, ?_⟩, fun hn => ?_⟩
    · have : q.2 = false := by cases hq : q.2 <;> simp_all
      rw [if_pos this]
    have hq : ¬ q.2 = false := by cases hq : q.2 <;> simp_all
    rw [if_neg hq]
    generalize hN : a8.toNat = n at *
    generalize q.1 = l at *
    refine ⟨fun ps ws i => ∃ k : Nat, i = k ∧ k ≤ l.length ∧ (∀ x ∈ (l.take k).take n, (readP x).2 = 0) ∧ (∀ x ∈ (l.take k).drop n, (readW x).2 = true) ∧ ps = ((l.take k).take n).map (fun x => (readP x).1) ∧ ws = ((l.take k).drop n).map (fun x => (readW x).1), fun _ _ i => l.length - i.toNat, ⟨0, rfl, by omega, by simp, by simp, by simp, by simp⟩, ?_⟩
    rintro _ _ _ ⟨k, rfl, hk, hP, hW, rfl, rfl⟩ t rfl
    have hmk : ((l.take k).take n).length ≤ 600 := by rw [List.length_take, List.length_take]; omega
    have hdk : ((l.take k).drop n).length ≤ 600 := by rw [List.length_drop, List.length_take]; omega
    refine ⟨fun h => ?_, fun h => ?_⟩
    · have hkl : k < l.length := by simp at h; omega
      refine ⟨by omega, fun x hx => ⟨by omega, fun c hc => ?_⟩⟩
      rw [h8] at hc; injection hc with hc; subst hc
      rw [hN]
      have hx' : l[k]? = some x := by simpa using hx
      have hxl := hq2 x (List.mem_of_getElem? hx')
      refine ⟨fun hlt => ?_, fun hge => ?_⟩
      · obtain ⟨t1, t2⟩ := tk_lo (n := n) hx' (by omega)
        refine ⟨_, readP_call x (by unfold B; omega), fun hr => ⟨_, no_call, ?_⟩, fun hr => ?_⟩
        · rw [if_neg fun hh => hr (hh.1 x (mem_tk hx' (by omega)))]
        · rw [peta]
          refine ⟨by simp only [List.length_map, List.length_cons, List.length_nil]; omega, ?_⟩
          rintro _ rfl
          refine ⟨by omega, ?_⟩
          rintro _ rfl
          refine ⟨⟨k + 1, by omega, by omega, ?_, ?_, ?_, ?_⟩, by (try dsimp only); omega⟩
          · rw [t1]; exact app1 hP hr
          · rw [t2]; exact hW
          · rw [t1, List.map_append]; rfl
          · rw [t2]
      · obtain ⟨t1, t2⟩ := tk_hi (n := n) hx' (by omega)
        refine ⟨_, readW_call x (by omega), fun hr => ⟨_, no_call, ?_⟩, fun hr => ?_⟩
        · rw [if_neg fun hh => by have := hh.2 x (mem_dr hx' (by omega)); rw [this] at hr; cases hr]
        · rw [weta]
          refine ⟨by simp only [List.length_map, List.length_cons, List.length_nil]; omega, ?_⟩
          rintro _ rfl
          refine ⟨by omega, ?_⟩
          rintro _ rfl
          refine ⟨⟨k + 1, by omega, by omega, ?_, ?_, ?_, ?_⟩, by (try dsimp only); omega⟩
          · rw [t1]; exact hP
          · rw [t2]; exact app1 hW (by simpa using hr)
          · rw [t1]
          · rw [t2, List.map_append]; rfl
    · have hkl : k = l.length := by simp at h; omega
      subst hkl
      rw [List.take_length] at hP hW ⊢
      rw [if_pos ⟨hP, hW⟩]
      have hok : SnOk ⟨timeF (b.take 8) 0, (l.take n).map fun x => (readP x).1, (l.drop n).map fun x => (readW x).1⟩ := by
        refine ⟨fun p hp => ?_, fun w hw => ?_, timeF_ok _ _ ⟨by decide, by decide⟩⟩
        · obtain ⟨x, hx, rfl⟩ := List.mem_map.1 hp
          exact readP_ok (hP x hx)
        · obtain ⟨x, hx, rfl⟩ := List.mem_map.1 hw
          exact readW_ok (by have := hq2 x (List.mem_of_mem_drop hx); unfold B; omega) (hW x hx)
      have hc := bytesSn_call _ hok
      generalize (⟨timeF (b.take 8) 0, (l.take n).map fun x => (readP x).1, (l.drop n).map fun x => (readW x).1⟩ : Sn) = S at *
      refine ⟨_, hc, fun c => c = !decide (bytesSn S = (b, 0)), ⟨fun hr => ?_, fun hr => ⟨_, equal_call _ _, ?_⟩⟩, ?_⟩
      · rw [decide_eq_false]
        · rfl
        · intro he; rw [he] at hr; exact hr rfl
      · congr 1
        rw [Bool.eq_iff_iff]
        simp only [beq_iff_eq, decide_eq_true_eq]
        constructor
        · intro he; rw [Prod.ext_iff]; exact ⟨he, hr⟩
        · intro he; rw [he]
      · rintro _ rfl
        refine ⟨fun hh => ⟨_, no_call, ?_⟩, fun hh => ?_⟩
        · rw [if_neg (by simpa using hh)]
        · rw [if_pos (by simpa using hh)]


structure SGood (s : Sn) : Prop where
  ok : SnOk s
  check : snE s = 0
  p : ∀ p ∈ s.Parcels, PGood p ∧ (encP p).length < 4294967296
  w : ∀ w ∈ s.Ways, Small w ∧ ∀ x ∈ w.Letters, LG x
theorem readW_enc {w : Wy} (h1 : 1 ≤ w.From ∧ w.From ≤ 8) (h2 : 1 ≤ w.To ∧ w.To ≤ 8) (hs : Small w) (hl : ∀ x ∈ w.Letters, LG x) : readW (encW w) = (w, true) := by
  have hsc : scan (catL (fun x => pk (encL x)) w.Letters) = (w.Letters.map encL, (catL (fun x => pk (encL x)) w.Letters).length) := by
    have := scan_pks (w.Letters.map encL) (fun x hx => by obtain ⟨y, hy, rfl⟩ := List.mem_map.1 hx; exact hs y hy)
    have e : catL pk (w.Letters.map encL) = catL (fun x => pk (encL x)) w.Letters := by simp [catL, List.map_map, Function.comp_def]
    rw [e] at this
    exact this
  have hd : (encW w).drop 2 = catL (fun x => pk (encL x)) w.Letters := rfl
  have hlen : (encW w).length = (catL (fun x => pk (encL x)) w.Letters).length + 2 := by unfold encW; simp only [List.length_append, List.length_cons, List.length_nil]; omega
  unfold readW
  rw [if_neg (by omega), hd, hsc]
  dsimp only
  rw [if_pos]
  · have e1 : ((encW w).getD 0 0) = UInt8.ofNat (w.From % 256).toNat := rfl
    have e2 : ((encW w).getD 1 0) = UInt8.ofNat (w.To % 256).toNat := rfl
    rw [e1, e2, UInt8.toNat_ofNat', UInt8.toNat_ofNat', decide_eq_true (by omega), List.map_map]
    have e3 : w.Letters.map ((fun y => (readL y).1) ∘ encL) = w.Letters := by
      conv => rhs; rw [← List.map_id w.Letters]
      refine List.map_congr_left fun x hx => ?_
      have := hl x hx
      simp only [Function.comp, readL_enc this.ok this.kind this.check, id]
    rw [e3]
    have e4 : (((w.From % 256).toNat % 2 ^ 8 : Nat) : Int) = w.From := by omega
    have e5 : (((w.To % 256).toNat % 2 ^ 8 : Nat) : Int) = w.To := by omega
    rw [e4, e5]
  · intro y hy
    obtain ⟨x, hx, rfl⟩ := List.mem_map.1 hy
    have := hl x hx
    rw [readL_enc this.ok this.kind this.check]
theorem encSn_parts (s : Sn) : (encSn s).take 8 = be 8 s.Time.toNat ∧ (encSn s).getD 8 0 = UInt8.ofNat (s.Parcels.length % 256) ∧ (encSn s).getD 9 0 = UInt8.ofNat (s.Ways.length % 256) ∧ (encSn s).drop 10 = catL pt (s.Parcels.map encP ++ s.Ways.map encW) := by
  have h8 := be_len 8 s.Time.toNat
  have e : catL pt (s.Parcels.map encP ++ s.Ways.map encW) = catL (fun p => pt (encP p)) s.Parcels ++ catL (fun w => pt (encW w)) s.Ways := by
    simp [catL, List.map_map, Function.comp_def]
  rw [e]
  unfold encSn
  generalize be 8 s.Time.toNat = t at *
  match t, h8 with
  | [a, b, c, d, e, f, g, h], _ => exact ⟨rfl, rfl, rfl, rfl⟩
theorem encSn_len (s : Sn) : 10 ≤ (encSn s).length := by
  unfold encSn
  simp only [List.length_append, be_len, List.length_cons, List.length_nil]
  omega
theorem enc_parts {s : Sn} (hs : SGood s) (r : List UInt8) : partsO (s.Parcels.length % 256 + s.Ways.length % 256) (catL pt (s.Parcels.map encP ++ s.Ways.map encW) ++ r) = some (s.Parcels.map encP ++ s.Ways.map encW, r) := by
  obtain ⟨h1, h2, h3, h4, h5⟩ := snE_zero hs.check
  have := parts_pts (s.Parcels.map encP ++ s.Ways.map encW) r (fun x hx => by
    rcases List.mem_append.1 hx with hx | hx
    · obtain ⟨p, hp, rfl⟩ := List.mem_map.1 hx; exact (hs.p p hp).2
    · obtain ⟨w, hw, rfl⟩ := List.mem_map.1 hx
      have := encW_len (h5 w hw).2.2.2.2.1 (hs.w w hw).1
      omega)
  rw [List.length_append, List.length_map, List.length_map] at this
  rw [show s.Parcels.length % 256 + s.Ways.length % 256 = s.Parcels.length + s.Ways.length by omega]
  exact this
theorem readSn_enc {s : Sn} (hs : SGood s) : readSn (encSn s) = (s, 0) := by
  obtain ⟨h1, h2, h3, h4, h5⟩ := snE_zero hs.check
  obtain ⟨e1, e2, e3, e4⟩ := encSn_parts s
  have hlen := encSn_len s
  have hp := enc_parts hs []
  rw [List.append_nil] at hp
  unfold readSn
  rw [if_neg (by omega), e1, e2, e3, e4, u8_of, u8_of]
  have hq : partsR (s.Parcels.length % 256 + s.Ways.length % 256) (catL pt (s.Parcels.map encP ++ s.Ways.map encW)) = (s.Parcels.map encP ++ s.Ways.map encW, true) := by
    unfold partsR; rw [hp]; rfl
  dsimp only
  rw [hq]
  dsimp only
  have hn : s.Parcels.length % 256 = (s.Parcels.map encP).length := by rw [List.length_map]; omega
  rw [hn, List.take_left, List.drop_left, if_neg (by decide), if_pos]
  · have ht := hs.ok.t
    have et : timeF (be 8 s.Time.toNat) 0 = s.Time := by
      have := timeF_be 8 0 s.Time.toNat (by have := ht.2; omega)
      rw [show ((0 : Nat) : Int) = 0 from rfl] at this
      rw [this]
      have := ht.2
      omega
    have ep : (s.Parcels.map encP).map (fun x => (readP x).1) = s.Parcels := by
      rw [List.map_map]
      conv => rhs; rw [← List.map_id s.Parcels]
      refine List.map_congr_left fun p hp => ?_
      have := (hs.p p hp).1
      simp only [Function.comp, readP_enc this.ok this.kind this.check, id]
    have ew : (s.Ways.map encW).map (fun x => (readW x).1) = s.Ways := by
      rw [List.map_map]
      conv => rhs; rw [← List.map_id s.Ways]
      refine List.map_congr_left fun w hw => ?_
      obtain ⟨g1, g2, g3, g4, g5, g6⟩ := h5 w hw
      simp only [Function.comp, readW_enc ⟨g1, g2⟩ ⟨g3, g4⟩ (hs.w w hw).1 (hs.w w hw).2, id]
    rw [et, ep, ew, sneta]
    rw [if_pos]
    unfold bytesSn
    rw [if_neg (by simp [hs.check]), if_pos fun w hw => (hs.w w hw).1]
  · refine ⟨fun x hx => ?_, fun x hx => ?_⟩
    · obtain ⟨p, hp, rfl⟩ := List.mem_map.1 hx
      have := (hs.p p hp).1
      rw [readP_enc this.ok this.kind this.check]
    · obtain ⟨w, hw, rfl⟩ := List.mem_map.1 hx
      obtain ⟨g1, g2, g3, g4, g5, g6⟩ := h5 w hw
      rw [readW_enc ⟨g1, g2⟩ ⟨g3, g4⟩ (hs.w w hw).1 (hs.w w hw).2]
end Go.Hw.VB

