import Derived.Test.YthikpbaphpdpfaaHwArr
set_option linter.unusedVariables false
set_option linter.unusedSimpArgs false
namespace Go.Hw
open Go
variable {P : Program} {N m : Nat} {S D : CallP} {b : Nat} {r : List Op} {e e' : Env} {h h' : Heap} {Q : Env → Heap → Prop} {QQ : Ex → Env → Heap → Prop} {d : Nat} {x y z : X}

structure ASrc {A : Type} (f : A → HV) (sz : Nat) (h : Heap) (v : HV) (l : List A) : Prop where
  ok : srcOk sz h v
  len : srcLen v = l.length
  cells : srcCells h v = flat (l.map f)
theorem asrc_list {A : Type} {f : A → HV} {sz : Nat} (hf : Enc f sz) {l : List A} {tok : Tok} : ASrc f sz h (.list (l.map f) tok) l :=
  ⟨fun v hv => by obtain ⟨a, _, rfl⟩ := List.mem_map.1 hv; exact ⟨hf.wid a, hf.tup a⟩, by simp [srcLen], src_map hf l tok⟩
theorem g_apB0 {A : Type} {f : A → HV} {sz by_ n : Nat} {l : List A} {v : HV} {K : List A → Prop} (hx : x.ev e = some (.list [] .full)) (hy : y.ev e = some v) (hs : ASrc f sz h v l) (hN : h.length = n) (hw : l.length * by_ ≤ 140737488355328 ∧ ∀ t, t = l → K t)
    (k : ∀ t, K t → HO S b r ((d, .arr n 0 t.length sz) :: e) (h ++ [GA f t]) Q) : HO S b (⟨some d, .op (.appendarr sz by_ x y), none⟩ :: r) e h Q := by
  subst hN
  have hk := k l (hw.2 l rfl)
  refine ⟨?_⟩
  simp only [hops, hcall, hstep, hx, hy, hs.cells, hs.len]
  exact ⟨hs.ok, hw.1, hk.out⟩
theorem g_apB {A : Type} {f : A → HV} {sz by_ n id q : Nat} {l0 l : List A} {v : HV} {K : List A → Prop} (hf : Enc f sz) (hx : x.ev e = some (.arr id 0 q sz)) (hc : h[id]? = some (GA f l0)) (hy : y.ev e = some v) (hs : ASrc f sz h v l) (hN : h.length = n)
    (hw : q ≤ l0.length ∧ (q + l.length) * by_ ≤ 140737488355328 ∧ ∀ t, t = l0.take q ++ l → K t)
    (h2 : List A → Heap) (hh : ∀ t, h.set id .dead ++ [GA f t] = h2 t) (k : ∀ t, K t → HO S b r ((d, .arr n 0 t.length sz) :: e) (h2 t) Q) : HO S b (⟨some d, .op (.appendarr sz by_ x y), none⟩ :: r) e h Q := by
  subst hN
  have hk := (k _ (hw.2.2 _ rfl)).out
  rw [← hh] at hk
  have hfl := flat_length (wid_map hf l0)
  simp only [List.length_map] at hfl
  have hcs : Heap.cells h id = some (flat (l0.map f)) := by simp [Heap.cells, hc]
  have hle : q * sz ≤ l0.length * sz := Nat.mul_le_mul_right _ hw.1
  refine ⟨?_⟩
  simp only [hops, hcall, hstep, hx, hy, hs.cells, hs.len, hcs]
  refine ⟨hs.ok, ⟨trivial, by omega, hw.2.1⟩, ?_⟩
  have e1 : (flat (l0.map f)).take (q * sz) ++ flat (l.map f) = flat ((l0.take q ++ l).map f) := by
    rw [List.map_append, flat_append, List.map_take, flat_take _ (wid_map hf l0)]
  rw [e1]
  rw [List.length_append, List.length_take, Nat.min_eq_left hw.1] at hk
  exact hk
theorem g_apW {A : Type} {f : A → HV} {sz by_ n id q : Nat} {l0 l : List A} {v : HV} {K : List A → Prop} (hf : Enc f sz) (hx : x.ev e = some (.arr id 0 q sz)) (hq : l0.length = q) (hc : h[id]? = some (GA f l0)) (hy : y.ev e = some v) (hs : ASrc f sz h v l) (hN : h.length = n)
    (hw : (l0.length + l.length) * by_ ≤ 140737488355328 ∧ ∀ t, t = l0 ++ l → K t)
    (h2 : List A → Heap) (hh : ∀ t, h.set id .dead ++ [GA f t] = h2 t) (k : ∀ t, K t → HO S b r ((d, .arr n 0 t.length sz) :: e) (h2 t) Q) : HO S b (⟨some d, .op (.appendarr sz by_ x y), none⟩ :: r) e h Q := by
  subst hq
  refine g_apB hf hx hc hy hs hN ⟨Nat.le_refl _, hw.1, fun t ht => hw.2 t ?_⟩ h2 hh k
  rw [ht, List.take_length]

theorem g_stB {id off : Nat} {q v : Int} {l : List UInt8} {K : List UInt8 → Prop} (hx : x.ev e = some (.ptr id off)) (hy : y.ev e = some (.int .u8 v)) (ho : off = q.toNat * 1 + 0) (hc : h[id]? = some (GA (fun c : UInt8 => HV.int .u8 c.toNat) l))
    (hw : (0 ≤ v ∧ v < 256) ∧ q.toNat < l.length ∧ ∀ t, t = l.set q.toNat (UInt8.ofNat v.toNat) → K t) (h2 : List UInt8 → Heap) (hh : ∀ t : List UInt8, h.set id (GA (fun c : UInt8 => HV.int .u8 c.toNat) t) = h2 t) (k : ∀ t, K t → HO S b r e (h2 t) Q) : HO S b (⟨none, .op (.store 1 x y), none⟩ :: r) e h Q := by
  have hv : ((UInt8.ofNat v.toNat).toNat : Int) = v := by
    rw [UInt8.toNat_ofNat']
    have := hw.1
    omega
  refine g_stA (v := .int .u8 v) (u := fun _ => UInt8.ofNat v.toNat) enc_byte hx hy ho hc rfl (by decide) rfl (fun a => ?_) ⟨hw.2.1, fun _ _ t ht => hw.2.2 t ht⟩ h2 hh k
  simp only [HV.cells, hv]
  rfl

end Go.Hw

