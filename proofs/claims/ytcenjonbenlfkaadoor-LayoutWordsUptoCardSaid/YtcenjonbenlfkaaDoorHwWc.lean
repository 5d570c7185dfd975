import Derived.Lib.TrimAscii
import Derived.Test.YtcenjonbenlfkaaDoorHwWb
import Derived.Test.YtcenjonbenlfkaaDoorHwF2
set_option linter.unusedVariables false
set_option linter.unusedSimpArgs false
namespace Go.Hw
open Go
theorem tabs_ok {W : World} (h : ∀ p ∈ tabs, ∀ (j : Nat) (v : Value), p.2[j]? = some v → W.cell? ⟨p.1, j, none⟩ = some v) : TabOk (K0 W).lim W := fun p hp => by
  refine ⟨?_, h p hp⟩
  rcases Nat.eq_zero_or_pos p.2.length with h0 | h0
  · omega
  · have := cell_lim (h p hp (p.2.length - 1) p.2[p.2.length - 1] (List.getElem?_eq_getElem (by omega)))
    omega
end Go.Hw
namespace Go.Hw.VL
open Go Go.Proofs
theorem u8s_get {l : List Nat} {i n : Nat} (h : l[i]? = some n) : (u8s l)[i]? = some (.int .u8 (n : Int)) := by simp [u8s, h]
theorem firstL_len : firstL.length = 256 := by decide +kernel
theorem acceptL_len : acceptL.length = 32 := by decide +kernel
theorem firstL_eq : ∀ c < 256, (u8s firstL)[c]? = some (.int .u8 (Lib.firstT c)) := by
  have : (List.range 256).all (fun c => firstL[c]? == some (Lib.firstT c)) = true := by decide +kernel
  intro c hc
  have := List.all_eq_true.1 this c (List.mem_range.2 hc)
  exact u8s_get (eq_of_beq this)
theorem acceptL_eq : ∀ i < 16, (u8s acceptL)[2 * i]? = some (.int .u8 (Lib.accLo i)) ∧ (u8s acceptL)[2 * i + 1]? = some (.int .u8 (Lib.accHi i)) := by
  have : (List.range 16).all (fun i => acceptL[2 * i]? == some (Lib.accLo i) && acceptL[2 * i + 1]? == some (Lib.accHi i)) = true := by decide +kernel
  intro c hc
  have := List.all_eq_true.1 this c (List.mem_range.2 hc)
  simp only [Bool.and_eq_true] at this
  exact ⟨u8s_get (eq_of_beq this.1), u8s_get (eq_of_beq this.2)⟩
theorem tabs_utf8 {lim : Nat → Nat} {w : World} (h : TabOk lim w) : Lib.Utf8Tabs 1 2 w :=
  ⟨fun c hc => (h (1, u8s firstL) (by simp [tabs])).2 c _ (firstL_eq c hc), fun i hi => ⟨(h (2, u8s acceptL) (by simp [tabs])).2 _ _ (acceptL_eq i hi).1, (h (2, u8s acceptL) (by simp [tabs])).2 _ _ (acceptL_eq i hi).2⟩⟩
theorem utf8_tabs {W : World} (h : Lib.Utf8Tabs 1 2 W) : TabOk (K0 W).lim W := by
  refine tabs_ok fun p hp j v hv => ?_
  simp only [tabs, List.mem_cons, List.not_mem_nil, or_false] at hp
  rcases hp with rfl | rfl
  · have hj := (List.getElem?_eq_some_iff.1 hv).1
    have hj : j < 256 := by rw [← firstL_len]; simpa only [u8s, List.length_map] using hj
    have := firstL_eq j hj
    rw [this] at hv; injection hv with hv; subst hv
    exact h.1 j hj
  · have hj := (List.getElem?_eq_some_iff.1 hv).1
    have hj : j < 32 := by rw [← acceptL_len]; simpa only [u8s, List.length_map] using hj
    obtain ⟨h1, h2⟩ := acceptL_eq (j / 2) (by omega)
    obtain ⟨g1, g2⟩ := h.2 (j / 2) (by omega)
    rcases Nat.mod_two_eq_zero_or_one j with hm | hm
    · have e : 2 * (j / 2) = j := by omega
      rw [e] at h1 g1
      rw [h1] at hv; injection hv with hv; subst hv
      exact g1
    · have e : 2 * (j / 2) + 1 = j := by omega
      rw [e] at h2 g2
      rw [h2] at hv; injection hv with hv; subst hv
      exact g2
def dropF (x : Int) : Int := if x = 32 then -1 else if x = 10 then -1 else x
theorem s32 (x : Int) : sp32 x (dropF x) := by
  refine ok32 _ _ ?_
  unfold w32 dropF
  exact ⟨fun h => by rw [if_pos h], fun h => ⟨fun h2 => by rw [if_neg h, if_pos h2], fun h2 => by rw [if_neg h, if_neg h2]⟩⟩
def bareF (l : List UInt8) : List UInt8 := l.filter fun c => c ≠ 32 && c ≠ 10
theorem map_ascii : ∀ l : List UInt8, (∀ c ∈ l, c.toNat < 128) → Lib.mapD dropF l = bareF l
  | [], _ => rfl
  | c :: l, h => by
    have hc := h c List.mem_cons_self
    have ih := map_ascii l fun d hd => h d (List.mem_cons_of_mem _ hd)
    rw [Lib.mapD_step dropF (c :: l) (by simp), Lib.decodeL_ascii c l hc]
    simp only [List.drop_one, List.tail_cons]
    rw [ih, bareF, bareF, List.filter_cons]
    by_cases h1 : c = 32
    · subst h1; simp [dropF]
    · by_cases h2 : c = 10
      · subst h2; simp [dropF]
      · have n1 : ¬ (c.toNat : Int) = 32 := fun e => h1 (UInt8.toNat_inj.1 (by have : c.toNat = 32 := by omega
                                                                               exact this))
        have n2 : ¬ (c.toNat : Int) = 10 := fun e => h2 (UInt8.toNat_inj.1 (by have : c.toNat = 10 := by omega
                                                                               exact this))
        have e1 : dropF (c.toNat : Int) = (c.toNat : Int) := by unfold dropF; rw [if_neg n1, if_neg n2]
        rw [e1, if_pos (by omega)]
        have e2 : Lib.encodeRune (c.toNat : Int) = [c] := by
          unfold Lib.encodeRune
          rw [Lib.encodeRuneZ_one (by omega) (by omega)]
          simp
        rw [e2]
        simp [h1, h2]
abbrev sp31 (s r : List UInt8) : Prop := PCall Tryd.prog 31 [.func 32 [], .str s] (.str r)
theorem s31 (s : List UInt8) (hs : s.length < 35184372088832) (ha : ∀ c ∈ s, c.toNat < 128) : sp31 s (bareF s) := by
  refine ⟨fun x hx => ?_, .str _, ⟨⟨Tryd.f31, Tryd.func31, rfl, by decide⟩, fun K w vs hh hl hv => ?_⟩⟩
  · rcases List.mem_cons.1 hx with rfl | hx
    · exact .func _ _ (fun x hx => by cases hx)
    · rcases List.mem_cons.1 hx with rfl | hx
      · exact .str _
      · cases hx
  obtain ⟨v0, v1, rfl⟩ : ∃ v0 v1, vs = [v0, v1] := by
    match vs, hl with
    | [a, b], _ => exact ⟨a, b, rfl⟩
  have h0 := hv 0 _ v0 rfl rfl
  have h1 := hv 1 _ v1 rfl rfl
  cases h1
  cases h0 with
  | func _ _ us hn _ =>
  obtain rfl : us = [] := List.eq_nil_of_length_eq_zero hn.symm
  have hT := tabs_utf8 hh.limb.t
  have hsz : (⟨s.toArray⟩ : ByteArray).size = s.length := by simp [ByteArray.size]
  refine (Any.strings_Map_grows mL mX 32 #[] (enters_of Tryd.func32 (by kernel_rfl) rfl) dropF ⟨s.toArray⟩ w (by rw [hsz]; exact hs) (fun W x hx hb => ?_) (fun x hx => ?_) hT).mono ?_
  · have hTW : Lib.Utf8Tabs 1 2 W := Utf8Tabs_below hT hb
    have hp := (s32 (x : Int)).call
    refine (hp.2 (K0 W) W [.int .i32 (x : Int)] (heap0 W (utf8_tabs hTW)) rfl (fun j y v hy hv => ?_)).mono ?_
    · match j with
      | 0 => simp at hy hv; subst hy; subst hv; exact .int _ _
      | j + 1 => simp at hy
    · rintro e w' ⟨v, y, K', h', rfl, st, hh', hV, hy⟩
      refine ⟨?_, st.os, st.tape.1, st.output, st.size, fun k hk => kept_of st k hk⟩
      have hy1 : y.strip1 = .int .i32 (dropF x) := hy
      cases hV <;> simp [HV.strip1] at hy1 <;> first
        | (obtain ⟨rfl, rfl⟩ := hy1; rfl)
        | (exact absurd hy1 (by simp))
  · unfold dropF
    split
    · omega
    · split <;> omega
  · rintro en w' ⟨rfl, hb⟩
    obtain ⟨K', st, hh'⟩ := below_step hh hb
    rw [map_ascii _ ha]
    exact ⟨_, .str (bareF s), K', _, rfl, st, hh', .str _, rfl⟩


theorem bare_app (a b : List UInt8) : bareF (a ++ b) = bareF a ++ bareF b := List.filter_append ..
theorem bare_rep (n : Nat) : bareF (List.replicate n 32) = [] := by
  refine List.filter_eq_nil_iff.2 fun c hc => ?_
  rw [List.eq_of_mem_replicate hc]; decide
theorem bare_self {s : List UInt8} (h1 : (10 : UInt8) ∉ s) (h2 : (32 : UInt8) ∉ s) : bareF s = s := by
  refine List.filter_eq_self.2 fun c hc => ?_
  have a : c ≠ 32 := fun e => h2 (e ▸ hc)
  have b : c ≠ 10 := fun e => h1 (e ▸ hc)
  simp [a, b]
def catF (d : List Pc) : List UInt8 := d.flatMap (·.S)
theorem words {d : List Pc} {w : Int} (hp : ∀ p ∈ d, PieceOk p) (hs : ∀ p ∈ d, (10 : UInt8) ∉ p.S ∧ (32 : UInt8) ∉ p.S) (ha : ∀ p ∈ d, ∀ c ∈ p.S, c.toNat < 128) : ∀ k ≤ d.length, bareF (runL d w k).out = catF (d.take k) ∧ ∀ c ∈ (runL d w k).out, c.toNat < 128
  | 0, _ => ⟨rfl, fun c hc => by simp [runL] at hc⟩
  | k + 1, hk => by
    obtain ⟨ih, iha⟩ := words hp hs ha (w := w) k (by omega)
    obtain ⟨p, hpk⟩ : ∃ p, d[k]? = some p := ⟨_, List.getElem?_eq_getElem (by omega)⟩
    have hm := List.mem_of_getElem? hpk
    have ok := hp p hm
    have hcat : catF (d.take (k + 1)) = catF (d.take k) ++ p.S := by rw [take_snoc hpk]; simp [catF]
    simp only [runL, hpk]
    generalize runL d w k = st at *
    unfold stepL
    by_cases h1 : p.Kind = 1
    · rw [if_pos h1]
      refine ⟨by rw [bare_app, ih, hcat, bare_self (hs p hm).1 (hs p hm).2], fun c hc => ?_⟩
      rcases List.mem_append.1 hc with hc | hc
      · exact iha c hc
      · exact ha p hm c hc
    have hS : p.S = [] := ok.s h1
    rw [hcat, hS, if_neg h1]
    simp only [List.append_nil]
    split
    · exact ⟨ih, iha⟩
    · split
      · exact ⟨ih, iha⟩
      · split
        · refine ⟨by rw [bare_app, ih]; rw [show (10 : UInt8) :: List.replicate st.top.1.toNat 32 = [10] ++ List.replicate st.top.1.toNat 32 from rfl, bare_app, bare_rep]; simp [bareF], fun c hc => ?_⟩
          rcases List.mem_append.1 hc with hc | hc
          · exact iha c hc
          · rcases List.mem_cons.1 hc with rfl | hc
            · decide
            · rw [List.eq_of_mem_replicate hc]; decide
        · split
          · refine ⟨by rw [bare_app, ih]; simp [bareF], fun c hc => ?_⟩
            rcases List.mem_append.1 hc with hc | hc
            · exact iha c hc
            · rw [List.mem_singleton.1 hc]; decide
          · exact ⟨ih, iha⟩
@[reducible] def zg14 (r : List UInt8) : HV := .str r
abbrev sp14 (s r : List UInt8) : Prop := PCall Tryd.prog 14 [.str s] (zg14 r)
theorem s14 (s : List UInt8) (hs : s.length < 35184372088832) (ha : ∀ c ∈ s, c.toNat < 128) : sp14 s (bareF s) := by
  refine zf (rs := [.t 2]) (g := zg14) Tryd.func14 hk14 ?_
  show SC Tryd.prog Tryd.f14.ntmps 0 hc14 _ [(0, .str s)] []
  unfold hc14
  refine q_reg ?_
  repeat (first | refine a_op (fun _ => rfl) ?_ | refine a_load rfl (by assumption) rfl ?_ | refine a_load_at rfl (by assumption) (by assumption) ?_ | refine a_iaddr_at rfl rfl (by assumption) ?_ | refine a_iaddr_l rfl rfl (by assumption) rfl ?_ | refine st_load_r rfl rfl ?_ | refine a_cmp rfl rfl rfl ?_ | refine a_eqi rfl rfl ?_ | refine st_not rfl ?_ | refine st_pick_t rfl rfl rfl ?_ | refine st_pick_f rfl rfl rfl ?_ | refine st_g rfl ?_ | refine a_gtf rfl ?_ | refine a_gft rfl ?_ | refine a_gu rfl ?_ | refine a_mklist (ec rfl en) (mz mkn) ?_ | refine a_mid ?_)
  first | refine a_endq (by repeat (first | exact pr_nil | (apply pr_cons; rfl))) ?_ | refine a_end (by repeat (first | exact pr_nil | (apply pr_cons; rfl))) ?_
  refine q_reg ?_
  repeat (first | refine a_op (fun _ => rfl) ?_ | refine a_load rfl (by assumption) rfl ?_ | refine a_load_at rfl (by assumption) (by assumption) ?_ | refine a_iaddr_at rfl rfl (by assumption) ?_ | refine a_iaddr_l rfl rfl (by assumption) rfl ?_ | refine st_load_r rfl rfl ?_ | refine a_cmp rfl rfl rfl ?_ | refine a_eqi rfl rfl ?_ | refine st_not rfl ?_ | refine st_pick_t rfl rfl rfl ?_ | refine st_pick_f rfl rfl rfl ?_ | refine st_g rfl ?_ | refine a_gtf rfl ?_ | refine a_gft rfl ?_ | refine a_gu rfl ?_ | refine a_mklist (ec rfl en) (mz mkn) ?_ | refine a_mid ?_)
  refine st_call (ec rfl (ec rfl en)) rfl (s31 s hs ha) ?_
  repeat (first | refine a_op (fun _ => rfl) ?_ | refine a_load rfl (by assumption) rfl ?_ | refine a_load_at rfl (by assumption) (by assumption) ?_ | refine a_iaddr_at rfl rfl (by assumption) ?_ | refine a_iaddr_l rfl rfl (by assumption) rfl ?_ | refine st_load_r rfl rfl ?_ | refine a_cmp rfl rfl rfl ?_ | refine a_eqi rfl rfl ?_ | refine st_not rfl ?_ | refine st_pick_t rfl rfl rfl ?_ | refine st_pick_f rfl rfl rfl ?_ | refine st_g rfl ?_ | refine a_gtf rfl ?_ | refine a_gft rfl ?_ | refine a_gu rfl ?_ | refine a_mklist (ec rfl en) (mz mkn) ?_ | refine a_mid ?_)
  first | refine a_endq (by repeat (first | exact pr_nil | (apply pr_cons; rfl))) ?_ | refine a_end (by repeat (first | exact pr_nil | (apply pr_cons; rfl))) ?_
  exact sc_ret (gr1 (g := zg14) (ho := fun _ => []) [.str (bareF s)] rfl (.inr rfl) ws)
def d3 : List Pc := [⟨1, 0, [97]⟩, ⟨4, 0, []⟩, ⟨1, 0, [98]⟩]
theorem g3 : Good d3 200 := by
  refine ⟨by simp [d3], fun p hp => ?_, fun k hk => ?_, rfl⟩
  · simp only [d3, List.mem_cons, List.not_mem_nil, or_false] at hp
    rcases hp with rfl | rfl | rfl
    · exact ⟨by simp, fun h => absurd rfl h, fun _ => rfl, fun _ => by simp, fun h => by simp at h⟩
    · exact ⟨by simp, fun _ => rfl, fun _ => rfl, fun h => by simp at h, fun h => by simp at h⟩
    · exact ⟨by simp, fun h => absurd rfl h, fun _ => rfl, fun _ => by simp, fun h => by simp at h⟩
  · have : k = 0 ∨ k = 1 ∨ k = 2 ∨ k = 3 := by simp [d3] at hk; omega
    rcases this with rfl | rfl | rfl | rfl <;> simp [d3, dep, dlt]
theorem l3 : layF d3 5 = [97, 10, 98] := by decide +kernel
theorem pieces_ascii (l : List Int) : ∀ p ∈ piecesF l, ∀ c ∈ p.S, c.toNat < 128 := by
  have key : ∀ (l : List Int) (s : List Pc × Int), (∀ p ∈ s.1, ∀ c ∈ p.S, c.toNat < 128) → ∀ p ∈ (l.foldl stepP s).1, ∀ c ∈ p.S, c.toNat < 128 := by
    intro l
    induction l with
    | nil => intro s h; exact h
    | cons x l ih =>
      intro s h
      refine ih _ fun p hp => ?_
      have hk := restF_bound x 9 (by omega)
      have empty : ∀ (q : Pc), q.S = [] → ∀ c ∈ q.S, c.toNat < 128 := fun q hq c hc => by rw [hq] at hc; cases hc
      have app : ∀ {q : Pc}, p ∈ s.1 ++ [q] → (∀ c ∈ q.S, c.toNat < 128) → ∀ c ∈ p.S, c.toNat < 128 := fun {q} hp hq => by
        rcases List.mem_append.1 hp with hp | hp
        · exact h p hp
        · rw [List.mem_singleton.1 hp]; exact hq
      unfold stepP at hp
      dsimp only at hp
      generalize restF x 9 = k at *
      split at hp
      · refine app hp fun c hc => ?_
        simp only [pText, repeat_one] at hc
        have e := List.eq_of_mem_replicate hc
        have : k = 0 ∨ k = 1 ∨ k = 2 := by omega
        rw [e]
        rcases this with rfl | rfl | rfl <;> decide
      · split at hp
        · exact app hp (empty _ rfl)
        · split at hp
          · exact app hp (empty _ rfl)
          · split at hp
            · exact app hp (empty _ rfl)
            · split at hp
              · exact app hp (empty _ rfl)
              · split at hp
                · exact app hp (empty _ rfl)
                · exact h p hp
  intro p hp
  unfold piecesF at hp
  rcases List.mem_append.1 hp with hp | hp
  · exact key _ _ (fun p hp => by simp at hp) p hp
  · obtain rfl := (List.mem_replicate.1 hp).2
    intro c hc; cases hc
section
variable {P : Program} {N m : Nat} {S D : CallP} {b : Nat} {r : List Op} {e e' : Env} {h h' : Heap} {Q : Env → Heap → Prop} {QQ : Ex → Env → Heap → Prop} {d : Nat} {x y z : X}
theorem a_eqst {s t : List UInt8} {neg : Bool} (hx : x.ev e = some (.str s)) (hy : y.ev e = some (.str t)) (k : HO S b r ((d, .bool (if neg then !(s == t) else s == t)) :: e) h Q) : HO S b (⟨some d, .op (.eqv neg .str x y), none⟩ :: r) e h Q := by
  refine ⟨?_⟩
  simp only [hops, hcall, hstep, hx, hy]
  refine ⟨trivial, ?_⟩
  rintro _ rfl
  exact k.out
end
@[reducible] def zg4 (r : Bool) : HV := .bool r
abbrev sp4 (l : List Int) (w : Int) (r : Bool) : Prop := PCall Tryd.prog 4 [ln (eInt .i64) l, ii w] (zg4 r)
theorem cat_len : ∀ l : List Pc, (∀ p ∈ l, p.S.length ≤ 8) → (catF l).length ≤ 8 * l.length
  | [], _ => by simp [catF]
  | p :: l, h => by
    have ih := cat_len l fun q hq => h q (List.mem_cons_of_mem _ hq)
    have h0 := h p List.mem_cons_self
    simp only [catF, List.flatMap_cons, List.length_append, List.length_cons] at ih ⊢
    omega
set_option maxRecDepth 8000 in
set_option maxHeartbeats 2000000 in
theorem s4 (l : List Int) (w : Int) (hl : l.length ≤ 9223372036854775807) (hb : ∀ x ∈ l, R64 x) (hw : R64 w) : sp4 l w true := by
  obtain ⟨hg0, hl80, hps⟩ := piecesF_good l
  have hasc := pieces_ascii l
  have h11 := s11p l hl hb
  have hg : Good (piecesF l) 200 := ⟨hg0.len, hg0.ps, fun k hk => by have := hg0.pre k hk; omega, hg0.zero⟩
  have hwb := restF_bound w 100 (by omega)
  have hwords := words (w := 1 + restF w 100) hg.ps (fun p hp => (hps p hp).2) hasc (piecesF l).length (Nat.le_refl _)
  have hol := (run_ok hg (w := 1 + restF w 100) (piecesF l).length (Nat.le_refl _)).out
  rw [List.take_length] at hwords
  generalize piecesF l = kd at *
  refine zf (rs := [.t 4]) (g := zg4) Tryd.func4 hk4 ?_
  show SC Tryd.prog Tryd.f4.ntmps 0 hc4 _ [(0, ln (eInt .i64) l), (1, ii w)] []
  unfold hc4
  refine q_reg ?_
  repeat (first | refine a_op (fun _ => rfl) ?_ | refine a_load rfl (by assumption) rfl ?_ | refine a_load_at rfl (by assumption) (by assumption) ?_ | refine a_iaddr_at rfl rfl (by assumption) ?_ | refine a_iaddr_l rfl rfl (by assumption) rfl ?_ | refine st_load_r rfl rfl ?_ | refine a_cmp rfl rfl rfl ?_ | refine a_eqi rfl rfl ?_ | refine st_not rfl ?_ | refine st_pick_t rfl rfl rfl ?_ | refine st_pick_f rfl rfl rfl ?_ | refine st_g rfl ?_ | refine a_gtf rfl ?_ | refine a_gft rfl ?_ | refine a_gu rfl ?_ | refine a_mklist (ec rfl en) (mz mkn) ?_ | refine a_mid ?_)
  first | refine a_endq (by repeat (first | exact pr_nil | (apply pr_cons; rfl))) ?_ | refine a_end (by repeat (first | exact pr_nil | (apply pr_cons; rfl))) ?_
  refine q_reg ?_
  repeat (first | refine a_op (fun _ => rfl) ?_ | refine a_load rfl (by assumption) rfl ?_ | refine a_load_at rfl (by assumption) (by assumption) ?_ | refine a_iaddr_at rfl rfl (by assumption) ?_ | refine a_iaddr_l rfl rfl (by assumption) rfl ?_ | refine st_load_r rfl rfl ?_ | refine a_cmp rfl rfl rfl ?_ | refine a_eqi rfl rfl ?_ | refine st_not rfl ?_ | refine st_pick_t rfl rfl rfl ?_ | refine st_pick_f rfl rfl rfl ?_ | refine st_g rfl ?_ | refine a_gtf rfl ?_ | refine a_gft rfl ?_ | refine a_gu rfl ?_ | refine a_mklist (ec rfl en) (mz mkn) ?_ | refine a_mid ?_)
  refine st_call (ec rfl en) rfl h11 ?_
  repeat (first | refine a_op (fun _ => rfl) ?_ | refine a_load rfl (by assumption) rfl ?_ | refine a_load_at rfl (by assumption) (by assumption) ?_ | refine a_iaddr_at rfl rfl (by assumption) ?_ | refine a_iaddr_l rfl rfl (by assumption) rfl ?_ | refine st_load_r rfl rfl ?_ | refine a_cmp rfl rfl rfl ?_ | refine a_eqi rfl rfl ?_ | refine st_not rfl ?_ | refine st_pick_t rfl rfl rfl ?_ | refine st_pick_f rfl rfl rfl ?_ | refine st_g rfl ?_ | refine a_gtf rfl ?_ | refine a_gft rfl ?_ | refine a_gu rfl ?_ | refine a_mklist (ec rfl en) (mz mkn) ?_ | refine a_mid ?_)
  first | refine a_endq (by repeat (first | exact pr_nil | (apply pr_cons; rfl))) ?_ | refine a_end (by repeat (first | exact pr_nil | (apply pr_cons; rfl))) ?_
  refine q_reg ?_
  repeat (first | refine a_op (fun _ => rfl) ?_ | refine a_load rfl (by assumption) rfl ?_ | refine a_load_at rfl (by assumption) (by assumption) ?_ | refine a_iaddr_at rfl rfl (by assumption) ?_ | refine a_iaddr_l rfl rfl (by assumption) rfl ?_ | refine st_load_r rfl rfl ?_ | refine a_cmp rfl rfl rfl ?_ | refine a_eqi rfl rfl ?_ | refine st_not rfl ?_ | refine st_pick_t rfl rfl rfl ?_ | refine st_pick_f rfl rfl rfl ?_ | refine st_g rfl ?_ | refine a_gtf rfl ?_ | refine a_gft rfl ?_ | refine a_gu rfl ?_ | refine a_mklist (ec rfl en) (mz mkn) ?_ | refine a_mid ?_)
  refine st_call (ec rfl (ec rfl en)) rfl (s13 w 100 hw (by omega)) ?_
  refine a_add rfl rfl (by first | omega | (dsimp only; omega)) ?_
  refine st_call (ec rfl (ec rfl en)) rfl (s19 kd (1 + restF w 100) hg (by omega)) ?_
  repeat (first | refine a_op (fun _ => rfl) ?_ | refine a_load rfl (by assumption) rfl ?_ | refine a_load_at rfl (by assumption) (by assumption) ?_ | refine a_iaddr_at rfl rfl (by assumption) ?_ | refine a_iaddr_l rfl rfl (by assumption) rfl ?_ | refine st_load_r rfl rfl ?_ | refine a_cmp rfl rfl rfl ?_ | refine a_eqi rfl rfl ?_ | refine st_not rfl ?_ | refine st_pick_t rfl rfl rfl ?_ | refine st_pick_f rfl rfl rfl ?_ | refine st_g rfl ?_ | refine a_gtf rfl ?_ | refine a_gft rfl ?_ | refine a_gu rfl ?_ | refine a_mklist (ec rfl en) (mz mkn) ?_ | refine a_mid ?_)
  first | refine a_endq (by repeat (first | exact pr_nil | (apply pr_cons; rfl))) ?_ | refine a_end (by repeat (first | exact pr_nil | (apply pr_cons; rfl))) ?_
  refine q_reg ?_
  repeat (first | refine a_op (fun _ => rfl) ?_ | refine a_load rfl (by assumption) rfl ?_ | refine a_load_at rfl (by assumption) (by assumption) ?_ | refine a_iaddr_at rfl rfl (by assumption) ?_ | refine a_iaddr_l rfl rfl (by assumption) rfl ?_ | refine st_load_r rfl rfl ?_ | refine a_cmp rfl rfl rfl ?_ | refine a_eqi rfl rfl ?_ | refine st_not rfl ?_ | refine st_pick_t rfl rfl rfl ?_ | refine st_pick_f rfl rfl rfl ?_ | refine st_g rfl ?_ | refine a_gtf rfl ?_ | refine a_gft rfl ?_ | refine a_gu rfl ?_ | refine a_mklist (ec rfl en) (mz mkn) ?_ | refine a_mid ?_)
  first | refine a_endq (by repeat (first | exact pr_nil | (apply pr_cons; rfl))) ?_ | refine a_end (by repeat (first | exact pr_nil | (apply pr_cons; rfl))) ?_
  refine sc_seq (q_reg ?_)
  repeat (first | refine a_op (fun _ => rfl) ?_ | refine a_load rfl (by assumption) rfl ?_ | refine a_load_at rfl (by assumption) (by assumption) ?_ | refine a_iaddr_at rfl rfl (by assumption) ?_ | refine a_iaddr_l rfl rfl (by assumption) rfl ?_ | refine st_load_r rfl rfl ?_ | refine a_cmp rfl rfl rfl ?_ | refine a_eqi rfl rfl ?_ | refine st_not rfl ?_ | refine st_pick_t rfl rfl rfl ?_ | refine st_pick_f rfl rfl rfl ?_ | refine st_g rfl ?_ | refine a_gtf rfl ?_ | refine a_gft rfl ?_ | refine a_gu rfl ?_ | refine a_mklist (ec rfl en) (mz mkn) ?_ | refine a_mid ?_)
  first | refine a_endq (by repeat (first | exact pr_nil | (apply pr_cons; rfl))) ?_ | refine a_end (by repeat (first | exact pr_nil | (apply pr_cons; rfl))) ?_
  refine sc_block (sc_loop (X := { x : Nat × Heap // x.1 ≤ kd.length })
    (fun x => ([(6, .str (layF kd (1 + restF w 100))), (7, ii 0), (8, .str (catF (kd.take x.1.1))), (23, ln eGLayout_Piece kd), (24, ii (kd.map eGLayout_Piece).length), (25, ii x.1.1)], x.1.2)) (fun x => kd.length - x.1.1)
    ⟨(0, []), Nat.zero_le _⟩ (WeakF.refl _ _) ?_)
  rintro ⟨⟨k, h4⟩, hk⟩
  simp only at hk
  refine q_reg ?_
  repeat (first | refine a_op (fun _ => rfl) ?_ | refine a_load rfl (by assumption) rfl ?_ | refine a_load_at rfl (by assumption) (by assumption) ?_ | refine a_iaddr_at rfl rfl (by assumption) ?_ | refine a_iaddr_l rfl rfl (by assumption) rfl ?_ | refine st_load_r rfl rfl ?_ | refine a_cmp rfl rfl rfl ?_ | refine a_eqi rfl rfl ?_ | refine st_not rfl ?_ | refine st_pick_t rfl rfl rfl ?_ | refine st_pick_f rfl rfl rfl ?_ | refine st_g rfl ?_ | refine a_gtf rfl ?_ | refine a_gft rfl ?_ | refine a_gu rfl ?_ | refine a_mklist (ec rfl en) (mz mkn) ?_ | refine a_mid ?_)
  first | refine a_endq (by repeat (first | exact pr_nil | (apply pr_cons; rfl))) ?_ | refine a_end (by repeat (first | exact pr_nil | (apply pr_cons; rfl))) ?_
  refine sc_seq (sc_cond rfl (fun hz => ?_) (fun hz => ?_))
  · have hkl : k < kd.length := by have := of_decide_eq_true hz; dsimp only at this; rw [List.length_map] at this; omega
    obtain ⟨p, hp⟩ : ∃ x, kd[k]? = some x := ⟨_, List.getElem?_eq_getElem hkl⟩
    have hcat : catF (kd.take (k + 1)) = catF (kd.take k) ++ p.S := by rw [take_snoc hp]; simp [catF]
    have hcl := cat_len (kd.take (k + 1)) fun q hq => (hps q (List.mem_of_mem_take hq)).1
    rw [hcat, List.length_append, List.length_take] at hcl
    refine sc_skip (sq_n (sc_seq (sc_block (q_reg ?_))))
    repeat (first | refine a_op (fun _ => rfl) ?_ | refine a_load rfl (by assumption) rfl ?_ | refine a_load_at rfl (by assumption) (by assumption) ?_ | refine a_iaddr_at rfl rfl (by assumption) ?_ | refine a_iaddr_l rfl rfl (by assumption) rfl ?_ | refine st_load_r rfl rfl ?_ | refine a_cmp rfl rfl rfl ?_ | refine a_eqi rfl rfl ?_ | refine st_not rfl ?_ | refine st_pick_t rfl rfl rfl ?_ | refine st_pick_f rfl rfl rfl ?_ | refine st_g rfl ?_ | refine a_gtf rfl ?_ | refine a_gft rfl ?_ | refine a_gu rfl ?_ | refine a_mklist (ec rfl en) (mz mkn) ?_ | refine a_mid ?_)
    refine a_alloc ?_
    refine a_store rfl rfl (List.getElem?_concat_length) ⟨rfl, lb rfl, rfl⟩ ?_
    repeat (first | refine a_op (fun _ => rfl) ?_ | refine a_load rfl (by assumption) rfl ?_ | refine a_load_at rfl (by assumption) (by assumption) ?_ | refine a_iaddr_at rfl rfl (by assumption) ?_ | refine a_iaddr_l rfl rfl (by assumption) rfl ?_ | refine st_load_r rfl rfl ?_ | refine a_cmp rfl rfl rfl ?_ | refine a_eqi rfl rfl ?_ | refine st_not rfl ?_ | refine st_pick_t rfl rfl rfl ?_ | refine st_pick_f rfl rfl rfl ?_ | refine st_g rfl ?_ | refine a_gtf rfl ?_ | refine a_gft rfl ?_ | refine a_gu rfl ?_ | refine a_mklist (ec rfl en) (mz mkn) ?_ | refine a_mid ?_)
    first | refine a_endq (by repeat (first | exact pr_nil | (apply pr_cons; rfl))) ?_ | refine a_end (by repeat (first | exact pr_nil | (apply pr_cons; rfl))) ?_
    have s3 := Sep.set (A := []) (B := []) ((Sep.nil (h := h4)).new (.cells [ii 0, ii 0, .str []])) (.cells [ii p.Kind, ii p.N, .str p.S])
    change SC _ _ _ _ _ [(6, .str (layF kd (1 + restF w 100))), (7, ii 0), (8, .str (catF (kd.take k))), (10, .ptr h4.length 0), (23, ln eGLayout_Piece kd), (24, ii (kd.map eGLayout_Piece).length), (25, ii (k : Int))] ((h4 ++ [HObj.cells [ii 0, ii 0, .str []]]).set h4.length (.cells [ii p.Kind, ii p.N, .str p.S]))
    generalize h4.length = o5 at s3 ⊢
    generalize (h4 ++ [HObj.cells [ii 0, ii 0, .str []]]).set o5 (.cells [ii p.Kind, ii p.N, .str p.S]) = h5 at s3 ⊢
    have gp : h5[o5]? = some (.cells [ii p.Kind, ii p.N, .str p.S]) := s3.get (by simp)
    refine s_reg ?_
    repeat (first | refine a_op (fun _ => rfl) ?_ | refine a_load rfl (by assumption) rfl ?_ | refine a_load_at rfl (by assumption) (by assumption) ?_ | refine a_iaddr_at rfl rfl (by assumption) ?_ | refine a_iaddr_l rfl rfl (by assumption) rfl ?_ | refine st_load_r rfl rfl ?_ | refine a_cmp rfl rfl rfl ?_ | refine a_eqi rfl rfl ?_ | refine st_not rfl ?_ | refine st_pick_t rfl rfl rfl ?_ | refine st_pick_f rfl rfl rfl ?_ | refine st_g rfl ?_ | refine a_gtf rfl ?_ | refine a_gft rfl ?_ | refine a_gu rfl ?_ | refine a_mklist (ec rfl en) (mz mkn) ?_ | refine a_mid ?_)
    refine a_sadd rfl rfl (by omega) ?_
    repeat (first | refine a_op (fun _ => rfl) ?_ | refine a_load rfl (by assumption) rfl ?_ | refine a_load_at rfl (by assumption) (by assumption) ?_ | refine a_iaddr_at rfl rfl (by assumption) ?_ | refine a_iaddr_l rfl rfl (by assumption) rfl ?_ | refine st_load_r rfl rfl ?_ | refine a_cmp rfl rfl rfl ?_ | refine a_eqi rfl rfl ?_ | refine st_not rfl ?_ | refine st_pick_t rfl rfl rfl ?_ | refine st_pick_f rfl rfl rfl ?_ | refine st_g rfl ?_ | refine a_gtf rfl ?_ | refine a_gft rfl ?_ | refine a_gu rfl ?_ | refine a_mklist (ec rfl en) (mz mkn) ?_ | refine a_mid ?_)
    first | refine a_endq (by repeat (first | exact pr_nil | (apply pr_cons; rfl))) ?_ | refine a_end (by repeat (first | exact pr_nil | (apply pr_cons; rfl))) ?_
    refine s_reg ?_
    repeat (first | refine a_op (fun _ => rfl) ?_ | refine a_load rfl (by assumption) rfl ?_ | refine a_load_at rfl (by assumption) (by assumption) ?_ | refine a_iaddr_at rfl rfl (by assumption) ?_ | refine a_iaddr_l rfl rfl (by assumption) rfl ?_ | refine st_load_r rfl rfl ?_ | refine a_cmp rfl rfl rfl ?_ | refine a_eqi rfl rfl ?_ | refine st_not rfl ?_ | refine st_pick_t rfl rfl rfl ?_ | refine st_pick_f rfl rfl rfl ?_ | refine st_g rfl ?_ | refine a_gtf rfl ?_ | refine a_gft rfl ?_ | refine a_gu rfl ?_ | refine a_mklist (ec rfl en) (mz mkn) ?_ | refine a_mid ?_)
    refine a_add rfl rfl (by first | omega | (dsimp only; omega)) ?_
    repeat (first | refine a_op (fun _ => rfl) ?_ | refine a_load rfl (by assumption) rfl ?_ | refine a_load_at rfl (by assumption) (by assumption) ?_ | refine a_iaddr_at rfl rfl (by assumption) ?_ | refine a_iaddr_l rfl rfl (by assumption) rfl ?_ | refine st_load_r rfl rfl ?_ | refine a_cmp rfl rfl rfl ?_ | refine a_eqi rfl rfl ?_ | refine st_not rfl ?_ | refine st_pick_t rfl rfl rfl ?_ | refine st_pick_f rfl rfl rfl ?_ | refine st_g rfl ?_ | refine a_gtf rfl ?_ | refine a_gft rfl ?_ | refine a_gu rfl ?_ | refine a_mklist (ec rfl en) (mz mkn) ?_ | refine a_mid ?_)
    first | refine a_endq (by repeat (first | exact pr_nil | (apply pr_cons; rfl))) ?_ | refine a_end (by repeat (first | exact pr_nil | (apply pr_cons; rfl))) ?_
    refine lo_n ⟨(k + 1, h5), hkl⟩ (by show kd.length - (k + 1) < kd.length - k; omega) (by simp only [hcat]; exact WeakF.refl _ _)
  have hkl : ¬ k < kd.length := by have := of_decide_eq_false hz; dsimp only at this; rw [List.length_map] at this; omega
  have hkn : k = kd.length := by omega
  subst hkn
  refine sc_exit (sq_x (lo_x (bl_x (sq_n ?_))))
  have htk : kd.take kd.length = kd := List.take_length
  change SC _ _ _ _ _ [(6, .str (layF kd (1 + restF w 100))), (7, ii 0), (8, .str (catF (kd.take kd.length))), (23, ln eGLayout_Piece kd), (24, ii (kd.map eGLayout_Piece).length), (25, ii (kd.length : Int)), (26, _)] h4
  rw [htk]
  refine q_reg ?_
  repeat (first | refine a_op (fun _ => rfl) ?_ | refine a_load rfl (by assumption) rfl ?_ | refine a_load_at rfl (by assumption) (by assumption) ?_ | refine a_iaddr_at rfl rfl (by assumption) ?_ | refine a_iaddr_l rfl rfl (by assumption) rfl ?_ | refine st_load_r rfl rfl ?_ | refine a_cmp rfl rfl rfl ?_ | refine a_eqi rfl rfl ?_ | refine st_not rfl ?_ | refine st_pick_t rfl rfl rfl ?_ | refine st_pick_f rfl rfl rfl ?_ | refine st_g rfl ?_ | refine a_gtf rfl ?_ | refine a_gft rfl ?_ | refine a_gu rfl ?_ | refine a_mklist (ec rfl en) (mz mkn) ?_ | refine a_mid ?_)
  refine a_mklist (ec rfl (ec rfl (ec rfl en))) (mz (mz (mz mkn))) ?_
  refine st_call (ec rfl (ec rfl en)) rfl (s19 d3 5 VL.g3 (by omega)) ?_
  repeat (first | refine a_op (fun _ => rfl) ?_ | refine a_load rfl (by assumption) rfl ?_ | refine a_load_at rfl (by assumption) (by assumption) ?_ | refine a_iaddr_at rfl rfl (by assumption) ?_ | refine a_iaddr_l rfl rfl (by assumption) rfl ?_ | refine st_load_r rfl rfl ?_ | refine a_cmp rfl rfl rfl ?_ | refine a_eqi rfl rfl ?_ | refine st_not rfl ?_ | refine st_pick_t rfl rfl rfl ?_ | refine st_pick_f rfl rfl rfl ?_ | refine st_g rfl ?_ | refine a_gtf rfl ?_ | refine a_gft rfl ?_ | refine a_gu rfl ?_ | refine a_mklist (ec rfl en) (mz mkn) ?_ | refine a_mid ?_)
  first | refine a_endq (by repeat (first | exact pr_nil | (apply pr_cons; rfl))) ?_ | refine a_end (by repeat (first | exact pr_nil | (apply pr_cons; rfl))) ?_
  rw [l3]
  refine q_reg ?_
  repeat (first | refine a_op (fun _ => rfl) ?_ | refine a_load rfl (by assumption) rfl ?_ | refine a_load_at rfl (by assumption) (by assumption) ?_ | refine a_iaddr_at rfl rfl (by assumption) ?_ | refine a_iaddr_l rfl rfl (by assumption) rfl ?_ | refine st_load_r rfl rfl ?_ | refine a_cmp rfl rfl rfl ?_ | refine a_eqi rfl rfl ?_ | refine st_not rfl ?_ | refine st_pick_t rfl rfl rfl ?_ | refine st_pick_f rfl rfl rfl ?_ | refine st_g rfl ?_ | refine a_gtf rfl ?_ | refine a_gft rfl ?_ | refine a_gu rfl ?_ | refine a_mklist (ec rfl en) (mz mkn) ?_ | refine a_mid ?_)
  refine a_eqst rfl rfl ?_
  repeat (first | refine a_op (fun _ => rfl) ?_ | refine a_load rfl (by assumption) rfl ?_ | refine a_load_at rfl (by assumption) (by assumption) ?_ | refine a_iaddr_at rfl rfl (by assumption) ?_ | refine a_iaddr_l rfl rfl (by assumption) rfl ?_ | refine st_load_r rfl rfl ?_ | refine a_cmp rfl rfl rfl ?_ | refine a_eqi rfl rfl ?_ | refine st_not rfl ?_ | refine st_pick_t rfl rfl rfl ?_ | refine st_pick_f rfl rfl rfl ?_ | refine st_g rfl ?_ | refine a_gtf rfl ?_ | refine a_gft rfl ?_ | refine a_gu rfl ?_ | refine a_mklist (ec rfl en) (mz mkn) ?_ | refine a_mid ?_)
  refine st_call (ec rfl en) rfl (s14 (layF kd (1 + restF w 100)) (by unfold layF; omega) hwords.2) ?_
  repeat (first | refine a_op (fun _ => rfl) ?_ | refine a_load rfl (by assumption) rfl ?_ | refine a_load_at rfl (by assumption) (by assumption) ?_ | refine a_iaddr_at rfl rfl (by assumption) ?_ | refine a_iaddr_l rfl rfl (by assumption) rfl ?_ | refine st_load_r rfl rfl ?_ | refine a_cmp rfl rfl rfl ?_ | refine a_eqi rfl rfl ?_ | refine st_not rfl ?_ | refine st_pick_t rfl rfl rfl ?_ | refine st_pick_f rfl rfl rfl ?_ | refine st_g rfl ?_ | refine a_gtf rfl ?_ | refine a_gft rfl ?_ | refine a_gu rfl ?_ | refine a_mklist (ec rfl en) (mz mkn) ?_ | refine a_mid ?_)
  refine a_eqst rfl rfl ?_
  repeat (first | refine a_op (fun _ => rfl) ?_ | refine a_load rfl (by assumption) rfl ?_ | refine a_load_at rfl (by assumption) (by assumption) ?_ | refine a_iaddr_at rfl rfl (by assumption) ?_ | refine a_iaddr_l rfl rfl (by assumption) rfl ?_ | refine st_load_r rfl rfl ?_ | refine a_cmp rfl rfl rfl ?_ | refine a_eqi rfl rfl ?_ | refine st_not rfl ?_ | refine st_pick_t rfl rfl rfl ?_ | refine st_pick_f rfl rfl rfl ?_ | refine st_g rfl ?_ | refine a_gtf rfl ?_ | refine a_gft rfl ?_ | refine a_gu rfl ?_ | refine a_mklist (ec rfl en) (mz mkn) ?_ | refine a_mid ?_)
  first | refine a_endq (by repeat (first | exact pr_nil | (apply pr_cons; rfl))) ?_ | refine a_end (by repeat (first | exact pr_nil | (apply pr_cons; rfl))) ?_
  have e1 : (if false = true then !(bareF (layF kd (1 + restF w 100)) == catF kd) else bareF (layF kd (1 + restF w 100)) == catF kd) = true := by
    unfold layF
    rw [hwords.1]; simp
  rw [e1]
  exact sc_ret (gr1 (g := zg4) (ho := fun _ => []) [.bool true] rfl (.inr rfl) (weak_ren [] (by simp) (by decide) ro_nil (re_cons1 rfl rnI re_nil)))
end Go.Hw.VL

