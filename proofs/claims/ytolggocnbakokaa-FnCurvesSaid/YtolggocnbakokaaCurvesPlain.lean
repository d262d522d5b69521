/- Sources of choices, and what they draw. -/
import Derived.Test.YtolggocnbakokaaCurvesB
import Derived.Test.YtolggocnbakokaaFloat
set_option linter.unusedVariables false
set_option linter.unusedSimpArgs false
set_option linter.unusedSectionVars false
namespace Go.Proofs.Ytolggocnbakokaa.AWN
open Go

theorem w64_id {n : Int} (h0 : -9223372036854775808 ≤ n) (h1 : n < 9223372036854775808) : w64 n = n := by
  show IntKind.wrap .i64 n = n
  simp only [IntKind.wrap, IntKind.signed, IntKind.bits]
  simp
  omega
theorem u64_id {n : Int} (h0 : 0 ≤ n) (h1 : n < 18446744073709551616) : IntKind.wrap .u64 n = n := by
  simp only [IntKind.wrap, IntKind.signed, IntKind.bits]
  simp
  omega
theorem and255 (x : Int) : 0 ≤ ibits .and .u64 x 255 ∧ ibits .and .u64 x 255 ≤ 255 := by
  unfold ibits
  have h : ((BitVec.ofInt 64 x &&& BitVec.ofInt 64 255).toNat : Int) ≤ 255 := by
    rw [BitVec.toNat_and]
    have : (BitVec.ofInt 64 255).toNat = 255 := by decide
    rw [this]
    have := @Nat.and_le_right (BitVec.ofInt 64 x).toNat 255
    omega
  show 0 ≤ IntKind.wrap .u64 ((BitVec.ofInt 64 x &&& BitVec.ofInt 64 255).toNat : Int) ∧ IntKind.wrap .u64 ((BitVec.ofInt 64 x &&& BitVec.ofInt 64 255).toNat : Int) ≤ 255
  rw [u64_id (by omega) (by omega)]
  omega

theorem getI_of {α : Type} {l : List α} {i : Int} (h0 : 0 ≤ i) (h1 : i < l.length) : ∃ x, getI l i = some x ∧ x ∈ l ∧ l[i.toNat]? = some x := by
  have hlt : i.toNat < l.length := by omega
  refine ⟨l[i.toNat], ?_, List.getElem_mem _, List.getElem?_eq_getElem hlt⟩
  unfold getI
  rw [if_pos h0, List.getElem?_eq_getElem hlt]

/-- A source that has read 'b' times at most. -/
structure Src (s : SL00Src) (b : Int) : Prop where
  low : 0 ≤ s.at_
  high : s.at_ ≤ b
  byte : ∀ x ∈ s.code, 0 ≤ x ∧ x < 256
theorem Src.mono {s : SL00Src} {b c : Int} (h : Src s b) (hbc : b ≤ c) : Src s c := ⟨h.low, by have := h.high; omega, h.byte⟩

theorem next_some (n : Nat) {s : SL00Src} {b : Int} (h : Src s b) (hb : b ≤ 1000000) : ∃ v s', m_spec_l00Src_next n s = some (v, s') ∧ 0 ≤ v ∧ v ≤ 255 ∧ Src s' (b + 1) := by
  have h1 := h.low
  have h2 := h.high
  have hj : ∀ v : Int, 0 ≤ v → v ≤ 255 → ∃ v' s', m_spec_l00Src_next_j1 n s v = some (v', s') ∧ 0 ≤ v' ∧ v' ≤ 255 ∧ Src s' (b + 1) := by
    intro v hv0 hv1
    unfold m_spec_l00Src_next_j1
    have hw : w64 (s.at_ + 1) = s.at_ + 1 := w64_id (by omega) (by omega)
    split
    · exact ⟨v, _, rfl, hv0, hv1, ⟨by show 0 ≤ w64 _; rw [hw]; omega, by show w64 _ ≤ _; rw [hw]; omega, h.byte⟩⟩
    · refine ⟨_, _, rfl, ?_, ?_, ⟨by show 0 ≤ w64 _; rw [hw]; omega, by show w64 _ ≤ _; rw [hw]; omega, h.byte⟩⟩
      · have := and255 ((IntKind.wrap .u64 ((IntKind.wrap .u64 ((IntKind.wrap .u64 (s.seed * (6364136223846793005 : Int))) + (IntKind.wrap .u64 (v)))) + (1442695040888963407 : Int))).fdiv (2 ^ min (40 : Int).toNat (IntKind.bits .u64)))
        generalize ibits .and .u64 _ _ = z at *
        rw [w64_id (by omega) (by omega)]; exact this.1
      · have := and255 ((IntKind.wrap .u64 ((IntKind.wrap .u64 ((IntKind.wrap .u64 (s.seed * (6364136223846793005 : Int))) + (IntKind.wrap .u64 (v)))) + (1442695040888963407 : Int))).fdiv (2 ^ min (40 : Int).toNat (IntKind.bits .u64)))
        generalize ibits .and .u64 _ _ = z at *
        rw [w64_id (by omega) (by omega)]; exact this.2
  unfold m_spec_l00Src_next
  split
  · rename_i hlt
    obtain ⟨x, hx, hm, _⟩ := getI_of h1 hlt
    rw [hx]
    have hb := h.byte x hm
    simp only [Option.bind_some]
    rw [w64_id (by omega) (by omega)]
    exact hj x (by omega) (by omega)
  · exact hj 0 (by omega) (by omega)

theorem pick_some (n : Nat) {s : SL00Src} {b : Int} (h : Src s b) (hb : b ≤ 900000) (k : Int) (hk : k ≤ 100000) : ∃ v s', m_spec_l00Src_pick n s k = some (v, s') ∧ 0 ≤ v ∧ (v < k ∨ v = 0) ∧ Src s' (b + 2) := by
  unfold m_spec_l00Src_pick
  split
  · exact ⟨0, s, rfl, by omega, by omega, h.mono (by omega)⟩
  · rename_i hk1
    have hj : ∀ (v : Int) (s' : SL00Src), 0 ≤ v → Src s' (b + 2) → ∃ v' s'', m_spec_l00Src_pick_j1 n k s'.code s'.at_ s'.seed v = some (v', s'') ∧ 0 ≤ v' ∧ (v' < k ∨ v' = 0) ∧ Src s'' (b + 2) := by
      intro v s' hv hs
      unfold m_spec_l00Src_pick_j1 grd
      rw [if_pos (show k ≠ 0 by omega)]
      refine ⟨_, _, rfl, ?_, ?_, hs⟩
      · rw [Int.tmod_eq_emod_of_nonneg hv]; exact Int.emod_nonneg _ (by omega)
      · left; rw [Int.tmod_eq_emod_of_nonneg hv]; exact Int.emod_lt_of_pos _ (by omega)
    obtain ⟨v1, s1, e1, a1, b1, c1⟩ := next_some n h (by omega)
    rw [e1]
    simp only [Option.bind_some]
    split
    · obtain ⟨v2, s2, e2, a2, b2, c2⟩ := next_some n c1 (by omega)
      rw [e2]
      simp only [Option.bind_some]
      rw [w64_id (n := v1 * 256) (by omega) (by omega), w64_id (by omega) (by omega)]
      exact hj _ s2 (by omega) (c2.mono (by omega))
    · exact hj _ s1 a1 (c1.mono (by omega))

theorem pick_lt (n : Nat) {s : SL00Src} {b : Int} (h : Src s b) (hb : b ≤ 900000) (k : Int) (hk0 : 1 ≤ k) (hk : k ≤ 100000) : ∃ v s', m_spec_l00Src_pick n s k = some (v, s') ∧ 0 ≤ v ∧ v < k ∧ Src s' (b + 2) := by
  obtain ⟨v, s', e, h1, h2, h3⟩ := pick_some n h hb k hk
  exact ⟨v, s', e, h1, by omega, h3⟩

end Go.Proofs.Ytolggocnbakokaa.AWN

namespace Go.Proofs.Ytolggocnbakokaa.AWN
open Go
/-- The word of so many eighths. -/
def e8 (z : Int) : Nat := ofZ Ieee.single z (-3)
theorem sgK : FmtK Ieee.single := fmtK .f32
theorem ex8 {z : Int} (h : z.natAbs < 16777216) : Ex Ieee.single z.natAbs (-3) := by
  refine ⟨h, by decide, ?_⟩
  have : z.natAbs.log2 < 24 := by
    by_cases h0 : z.natAbs = 0
    · rw [h0]; decide
    · exact (Nat.log2_lt h0).2 h
  have e1 : Ieee.single.fractionBits = 23 := rfl
  have e3 : Ieee.single.leastPlace = -149 := by decide
  have e5 : maxRung Ieee.single = 255 := by decide
  rw [e1, e3, e5]; omega
def P146 : Nat := 2 ^ 146
theorem p146 : 0 < P146 := Nat.two_pow_pos _
theorem w8 {z : Int} (h : z.natAbs < 16777216) : W Ieee.single (e8 z) := (w_ofZ (fmtOk .f32) sgK (ex8 h)).1
theorem v8 {z : Int} (h : z.natAbs < 16777216) : vz Ieee.single (e8 z) = z * (P146 : Nat) := (w_ofZ (fmtOk .f32) sgK (ex8 h)).2
theorem k8_lt {a b : Int} (ha : a.natAbs < 16777216) (hb : b.natAbs < 16777216) : key Ieee.single (e8 a) < key Ieee.single (e8 b) ↔ a < b := by
  rw [W.vz_lt sgK (w8 ha) (w8 hb), v8 ha, v8 hb]
  have := p146
  have h' : (0 : Int) < ((P146 : Nat) : Int) := by omega
  exact ⟨fun h => Int.lt_of_mul_lt_mul_right h (Int.le_of_lt h'), fun h => Int.mul_lt_mul_of_pos_right h h'⟩
theorem k8_le {a b : Int} (ha : a.natAbs < 16777216) (hb : b.natAbs < 16777216) : key Ieee.single (e8 a) ≤ key Ieee.single (e8 b) ↔ a ≤ b := by
  have := k8_lt hb ha
  omega
theorem e8_zero : e8 0 = 0 := by unfold e8 ofZ; rw [show (0 : Int).natAbs = 0 from rfl, nearest_zero]; rfl
theorem k0 : key Ieee.single 0 = 0 := by rfl
theorem w0 : W Ieee.single 0 := by rw [← e8_zero]; exact w8 (by decide)
theorem vz0 : vz Ieee.single 0 = 0 := by rw [← e8_zero, v8 (by decide)]; omega
theorem sub_self0 {x : Nat} (h : W Ieee.single x) : farith .sub .f32 x x = 0 := by
  obtain ⟨s, m, i, e⟩ := h.fin
  unfold farith
  have : FloatKind.f32.format.sub x x = some 0 := by
    show (((Ieee.single.read x).sum (Ieee.single.read x).opposite).map Ieee.single.write) = some 0
    rw [e]
    simp only [Ieee.Datum.opposite, Ieee.Datum.sum, Option.map_some, Ieee.Format.write]
    have hz : Ieee.signed s m (i - min i i).toNat + Ieee.signed (!s) m (i - min i i).toNat = 0 := by
      unfold Ieee.signed; cases s <;> simp <;> omega
    rw [hz, if_pos rfl]
    cases s <;> rfl
  simp only [this, Option.getD_some]
theorem add8 {a b : Int} (ha : a.natAbs < 8388608) (hb : b.natAbs < 8388608) : farith .add .f32 (e8 a) (e8 b) = e8 (a + b) := by
  have := add_ofZ (fmtOk .f32) (x := a) (y := b) (p := -3) (ex8 (by omega)) (ex8 (by omega))
  unfold farith e8
  have this : FloatKind.f32.format.add (ofZ Ieee.single a (-3)) (ofZ Ieee.single b (-3)) = some (ofZ Ieee.single (a + b) (-3)) := this
  simp only [this, Option.getD_some]
theorem sub8 {a b : Int} (ha : a.natAbs < 8388608) (hb : b.natAbs < 8388608) : farith .sub .f32 (e8 a) (e8 b) = e8 (a - b) := by
  by_cases h : a = b
  · subst h; rw [sub_self0 (w8 (by omega)), show a - a = 0 by omega, e8_zero]
  · obtain ⟨h1, h2⟩ := fsub_key (k := .f32) (w8 (show a.natAbs < 16777216 by omega)) (w8 (show b.natAbs < 16777216 by omega))
    have hab : (a - b).natAbs < 16777216 := by omega
    have h3 : vz Ieee.single (e8 a) - vz Ieee.single (e8 b) = vz Ieee.single (e8 (a - b)) := by
      rw [v8 (by omega), v8 (by omega), v8 hab, Int.sub_mul]
    have h2 : key Ieee.single (farith .sub .f32 (e8 a) (e8 b)) = kz Ieee.single (vz Ieee.single (e8 a) - vz Ieee.single (e8 b)) Ieee.single.leastPlace := h2
    rw [h3, (w8 hab).kz sgK] at h2
    refine word_of_key h1 (w8 hab).lt h2 fun hk => ?_
    have := (W.vz_zero sgK (w8 hab)).2.2.1 hk
    rw [v8 hab] at this
    rcases Int.mul_eq_zero.1 this with h4 | h4
    · omega
    · have := p146; omega
theorem key_ne {a : Int} (ha : a.natAbs < 16777216) : (0 < key Ieee.single (e8 a) ↔ 0 < a) ∧ (key Ieee.single (e8 a) < 0 ↔ a < 0) := by
  have h1 := k8_lt (a := 0) (b := a) (by decide) ha
  have h2 := k8_lt (a := a) (b := 0) ha (by decide)
  rw [e8_zero, k0] at h1 h2
  exact ⟨h1, h2⟩
/-- Times and currents, in eighths. -/
structure CurveOk (C T : List Int) : Prop where
  two : 2 ≤ C.length
  most : C.length ≤ 16
  same : T.length = C.length
  cs : ∀ i, i < C.length → 1 ≤ C.getD i 0 ∧ C.getD i 0 ≤ 4000
  ts : ∀ i, i < C.length → 1 ≤ T.getD i 0 ∧ T.getD i 0 ≤ 4000
  rise : ∀ i, i + 1 < C.length → C.getD i 0 < C.getD (i + 1) 0
  fall : ∀ i, i + 1 < C.length → T.getD (i + 1) 0 ≤ T.getD i 0
def crv (C T : List Int) : SCurve := ⟨C.map e8, T.map e8⟩
theorem getI8 {C : List Int} {i : Nat} (h : i < C.length) : getI (C.map e8) (i : Int) = some (e8 (C.getD i 0)) := by
  unfold getI
  rw [if_pos (by omega), Int.toNat_natCast, List.getElem?_map, List.getD_eq_getElem?_getD, List.getElem?_eq_getElem h]
  rfl
theorem fin8 {z : Int} (h : z.natAbs < 16777216) : fcmp .eql .f32 (farith .sub .f32 (e8 z) (e8 z)) 0 = true := by
  rw [sub_self0 (w8 h), eql_self]; decide
theorem plus8 (n : Nat) {z : Int} (h0 : 1 ≤ z) (h : z ≤ 8000) : m_impl_plusFinite n (e8 z) = some true ∧ m_spec_l07Positive n (e8 z) = some true := by
  have hw := w8 (z := z) (by omega)
  have hg : fcmp .gtr .f32 (e8 z) 0 = true := by
    rw [gtr_s hw w0, decide_eq_true]
    show key Ieee.single 0 < key Ieee.single (e8 z)
    rw [k0]; exact (key_ne (by omega)).1.2 (by omega)
  constructor
  · unfold m_impl_plusFinite m_impl_IsFinite
    rw [fin8 (by omega), Option.bind_some, if_pos rfl, hg]
  · unfold m_spec_l07Positive m_spec_l01Finite
    rw [fin8 (by omega), Option.bind_some, if_pos rfl, hg]
section
variable {C T : List Int} (h : CurveOk C T)
include h
theorem valid_l2 (n : Nat) : ∀ (m i : Nat), i ≤ C.length → C.length - i < m → m_impl_ValidCurve_l2 n (crv C T) m (i : Int) = some true
  | 0, i, _, hm => by omega
  | m + 1, i, hi, hm => by
    have hlen : ((crv C T).Currents.length : Int) = (C.length : Int) := by show ((C.map e8).length : Int) = _; rw [List.length_map]
    have h16 := h.most
    unfold m_impl_ValidCurve_l2
    rw [hlen]
    by_cases hlt : i < C.length
    · have c1 := h.cs i hlt
      have t1 := h.ts i hlt
      have e1 : getI (crv C T).Currents (i : Int) = some (e8 (C.getD i 0)) := getI8 hlt
      have e2 : getI (crv C T).Times (i : Int) = some (e8 (T.getD i 0)) := getI8 (by rw [h.same]; exact hlt)
      have ih := valid_l2 n m (i + 1) (by omega) (by omega)
      have hw : w64 ((i : Int) + 1) = ((i + 1 : Nat) : Int) := by rw [w64_id (by omega) (by omega)]; omega
      rw [if_pos (by omega), e1, Option.bind_some, (plus8 n c1.1 (by omega)).1, Option.bind_some, if_pos rfl, e2, Option.bind_some, (plus8 n t1.1 (by omega)).1, Option.bind_some, if_pos rfl]
      unfold m_impl_ValidCurve_j4 m_impl_ValidCurve_j3
      by_cases h0 : 0 < i
      · obtain ⟨j, rfl⟩ : ∃ j, i = j + 1 := ⟨i - 1, by omega⟩
        have hj : w64 (((j + 1 : Nat) : Int) - 1) = (j : Int) := by rw [w64_id (by omega) (by omega)]; omega
        have c0 := h.cs j (by omega)
        have t0 := h.ts j (by omega)
        have e3 : getI (crv C T).Currents (j : Int) = some (e8 (C.getD j 0)) := getI8 (by omega)
        have e4 : getI (crv C T).Times (j : Int) = some (e8 (T.getD j 0)) := getI8 (by rw [h.same]; omega)
        have r := h.rise j hlt
        have f := h.fall j hlt
        have g1 : fcmp .geq .f32 (e8 (C.getD j 0)) (e8 (C.getD (j + 1) 0)) = false := by
          rw [geq_s (w8 (by omega)) (w8 (by omega)), decide_eq_false]
          show ¬ key Ieee.single _ ≤ key Ieee.single _
          rw [k8_le (by omega) (by omega)]; omega
        have g2 : fcmp .gtr .f32 (e8 (T.getD (j + 1) 0)) (e8 (T.getD j 0)) = false := by
          rw [gtr_s (w8 (by omega)) (w8 (by omega)), decide_eq_false]
          show ¬ key Ieee.single _ < key Ieee.single _
          rw [k8_lt (by omega) (by omega)]; omega
        rw [if_pos (by omega), hj, e3, Option.bind_some, g1, if_neg (by decide), e4, Option.bind_some, g2, if_neg (by decide), hw]
        exact ih
      · rw [if_neg (by omega), if_neg (by decide), hw]
        exact ih
    · rw [if_neg (by omega)]
theorem valid_ok {n : Nat} (hn : 20 ≤ n) : m_impl_ValidCurve n (crv C T) = some true := by
  have hlen : ((crv C T).Currents.length : Int) = (C.length : Int) := by show ((C.map e8).length : Int) = _; rw [List.length_map]
  have hlen2 : ((crv C T).Times.length : Int) = (C.length : Int) := by show ((T.map e8).length : Int) = _; rw [List.length_map, h.same]
  have h2 := h.two
  have h16 := h.most
  unfold m_impl_ValidCurve m_impl_in
  rw [hlen, hlen2, if_pos (by omega), Option.bind_some, decide_eq_true (by omega), if_pos rfl, decide_eq_true rfl]
  unfold m_impl_ValidCurve_j5 m_impl_ValidCurve_j1
  rw [if_neg (by decide)]
  exact valid_l2 h n n 0 (by omega) (by omega)
theorem is_l2 (n : Nat) : ∀ (m i : Nat), i ≤ C.length → C.length - i < m → m_spec_l07Is_l2 n (crv C T) m (i : Int) = some true
  | 0, i, _, hm => by omega
  | m + 1, i, hi, hm => by
    have hlen : ((crv C T).Currents.length : Int) = (C.length : Int) := by show ((C.map e8).length : Int) = _; rw [List.length_map]
    have h16 := h.most
    unfold m_spec_l07Is_l2
    rw [hlen]
    by_cases hlt : i < C.length
    · have c1 := h.cs i hlt
      have t1 := h.ts i hlt
      have e1 : getI (crv C T).Currents (i : Int) = some (e8 (C.getD i 0)) := getI8 hlt
      have e2 : getI (crv C T).Times (i : Int) = some (e8 (T.getD i 0)) := getI8 (by rw [h.same]; exact hlt)
      have ih := is_l2 n m (i + 1) (by omega) (by omega)
      have hw : w64 ((i : Int) + 1) = ((i + 1 : Nat) : Int) := by rw [w64_id (by omega) (by omega)]; omega
      rw [if_pos (by omega), e1, Option.bind_some, (plus8 n c1.1 (by omega)).2, Option.bind_some, if_pos rfl, e2, Option.bind_some, (plus8 n t1.1 (by omega)).2, Option.bind_some]
      unfold m_spec_l07Is_j6 m_spec_l07Is_j4 m_spec_l07Is_j5 m_spec_l07Is_j3
      rw [if_neg (by decide)]
      by_cases h0 : 0 < i
      · obtain ⟨j, rfl⟩ : ∃ j, i = j + 1 := ⟨i - 1, by omega⟩
        have hj : w64 (((j + 1 : Nat) : Int) - 1) = (j : Int) := by rw [w64_id (by omega) (by omega)]; omega
        have c0 := h.cs j (by omega)
        have t0 := h.ts j (by omega)
        have e3 : getI (crv C T).Currents (j : Int) = some (e8 (C.getD j 0)) := getI8 (by omega)
        have e4 : getI (crv C T).Times (j : Int) = some (e8 (T.getD j 0)) := getI8 (by rw [h.same]; omega)
        have r := h.rise j hlt
        have f := h.fall j hlt
        have g1 : fcmp .geq .f32 (e8 (C.getD j 0)) (e8 (C.getD (j + 1) 0)) = false := by
          rw [geq_s (w8 (by omega)) (w8 (by omega)), decide_eq_false]
          show ¬ key Ieee.single _ ≤ key Ieee.single _
          rw [k8_le (by omega) (by omega)]; omega
        have g2 : fcmp .lss .f32 (e8 (T.getD j 0)) (e8 (T.getD (j + 1) 0)) = false := by
          rw [lss_s (w8 (by omega)) (w8 (by omega)), decide_eq_false]
          show ¬ key Ieee.single _ < key Ieee.single _
          rw [k8_lt (by omega) (by omega)]; omega
        rw [if_pos (by omega), hj, e3, Option.bind_some, e1, Option.bind_some, g1, if_neg (by decide), e4, Option.bind_some, e2, Option.bind_some, g2, if_neg (by decide), hw]
        exact ih
      · rw [if_neg (by omega), if_neg (by decide), hw]
        exact ih
    · rw [if_neg (by omega)]
theorem is_ok {n : Nat} (hn : 20 ≤ n) : m_spec_l07Is n (crv C T) = some true := by
  have hlen : ((crv C T).Currents.length : Int) = (C.length : Int) := by show ((C.map e8).length : Int) = _; rw [List.length_map]
  have hlen2 : ((crv C T).Times.length : Int) = (C.length : Int) := by show ((T.map e8).length : Int) = _; rw [List.length_map, h.same]
  have h2 := h.two
  have h16 := h.most
  unfold m_spec_l07Is m_spec_l07Is_j7 m_spec_l07Is_j1
  rw [hlen, hlen2, if_neg (by omega), if_neg (by omega), decide_eq_true rfl, if_neg (by decide)]
  exact is_l2 h n n 0 (by omega) (by omega)
end
end Go.Proofs.Ytolggocnbakokaa.AWN

namespace Go.Proofs.Ytolggocnbakokaa.AWN
open Go
/-- The time between two points. -/
def Fs (c c' t t' : Int) (z : Nat) : Nat := farith .add .f32 (e8 t) (farith .mul .f32 (farith .sub .f32 (e8 t') (e8 t)) (farith .quo .f32 (farith .sub .f32 z (e8 c)) (farith .sub .f32 (e8 c') (e8 c))))
def one32 : Nat := ofZ Ieee.single 1 0
def P149 : Nat := 2 ^ 149
theorem p149 : 0 < P149 := Nat.two_pow_pos _
theorem w1 : W Ieee.single one32 ∧ vz Ieee.single one32 = (P149 : Nat) := by
  have h := w_ofZ (fmtOk .f32) sgK (z := 1) (p := 0) ⟨by decide, by decide, by decide⟩
  refine ⟨h.1, h.2.trans ?_⟩
  rw [Int.one_mul]; rfl
theorem nlp : (2 ^ (-Ieee.single.leastPlace).toNat : Nat) = P149 := rfl
theorem share_in {x y : Nat} (hx : W Ieee.single x) (hy : W Ieee.single y) (h0 : 0 ≤ vz Ieee.single x) (h1 : vz Ieee.single x ≤ vz Ieee.single y) (h2 : 0 < vz Ieee.single y) :
    W Ieee.single (farith .quo .f32 x y) ∧ 0 ≤ vz Ieee.single (farith .quo .f32 x y) ∧ vz Ieee.single (farith .quo .f32 x y) ≤ (P149 : Nat) := by
  have hp := p149
  have h := fdiv_in (k := .f32) hx hy w0 w1.1 h0 h2 (by show 0 ≤ vz Ieee.single 0; rw [vz0]; omega) (by show 0 ≤ vz Ieee.single one32; rw [w1.2]; omega)
    (by show vz Ieee.single 0 * vz Ieee.single y ≤ vz Ieee.single x * (P149 : Nat); rw [vz0, Int.zero_mul]; exact Int.mul_nonneg h0 (by omega))
    (by show vz Ieee.single x * (P149 : Nat) ≤ vz Ieee.single one32 * vz Ieee.single y; rw [w1.2, Int.mul_comm]; exact Int.mul_le_mul_of_nonneg_left h1 (by omega))
  obtain ⟨a, b, c⟩ := h
  refine ⟨a, ?_, ?_⟩
  · have := (W.vz_le sgK w0 a).1 b
    rw [vz0] at this; exact this
  · have := (W.vz_le sgK a w1.1).1 c
    rw [w1.2] at this; exact this
section
variable {c c' t t' : Int} (hc : 0 ≤ c) (hc' : c' ≤ 100000) (hcc : c < c') (ht' : 0 ≤ t') (ht : t ≤ 100000) (htt : t' ≤ t)
include hc hc' hcc ht' ht htt
theorem Fs_in {z : Nat} (hz : W Ieee.single z) (hlo : key Ieee.single (e8 c) ≤ key Ieee.single z) (hhi : key Ieee.single z < key Ieee.single (e8 c')) :
    W Ieee.single (Fs c c' t t' z) ∧ key Ieee.single (e8 t') ≤ key Ieee.single (Fs c c' t t' z) ∧ key Ieee.single (Fs c c' t t' z) ≤ key Ieee.single (e8 t) := by
  have wc := w8 (z := c) (by omega)
  have wc' := w8 (z := c') (by omega)
  have wd := w8 (z := c' - c) (by omega)
  have wt := w8 (z := t) (by omega)
  have wt' := w8 (z := t') (by omega)
  have wg := w8 (z := t' - t) (by omega)
  have hp := p146
  have v1 := (W.vz_le sgK wc hz).1 hlo
  have v2 := (W.vz_lt sgK hz wc').1 hhi
  unfold Fs
  rw [sub8 (a := c') (b := c) (by omega) (by omega), sub8 (a := t') (b := t) (by omega) (by omega)]
  have vd : vz Ieee.single (e8 (c' - c)) = vz Ieee.single (e8 c') - vz Ieee.single (e8 c) := by
    rw [v8 (by omega), v8 (by omega), v8 (by omega), Int.sub_mul]
  have vg : vz Ieee.single (e8 (t' - t)) = vz Ieee.single (e8 t') - vz Ieee.single (e8 t) := by
    rw [v8 (by omega), v8 (by omega), v8 (by omega), Int.sub_mul]
  -- the distance
  obtain ⟨wa, a1, a2⟩ := fsub_in (k := .f32) hz wc w0 wd (by show vz Ieee.single 0 ≤ vz Ieee.single z - vz Ieee.single (e8 c); rw [vz0]; omega) (by show vz Ieee.single z - vz Ieee.single (e8 c) ≤ vz Ieee.single (e8 (c' - c)); rw [vd]; omega)
  have a1 := (W.vz_le sgK w0 wa).1 a1
  have a2 := (W.vz_le sgK wa wd).1 a2
  rw [vz0] at a1
  obtain ⟨ws, s1, s2⟩ := share_in wa wd a1 a2 (by rw [vd]; omega)
  generalize farith .quo .f32 (farith .sub .f32 z (e8 c)) (e8 (c' - c)) = sh at *
  -- what is taken away
  have gneg : vz Ieee.single (e8 (t' - t)) ≤ 0 := by
    rw [v8 (by omega)]
    exact Int.mul_nonpos_of_nonpos_of_nonneg (by omega) (by omega)
  obtain ⟨wp, p1, p2⟩ := fmul_in (k := .f32) wg ws wg w0 (by show vz Ieee.single (e8 (t' - t)) * (P149 : Nat) ≤ vz Ieee.single (e8 (t' - t)) * vz Ieee.single sh; exact Int.mul_le_mul_of_nonpos_left gneg s2) (by show vz Ieee.single (e8 (t' - t)) * vz Ieee.single sh ≤ vz Ieee.single 0 * (P149 : Nat); rw [vz0, Int.zero_mul]; exact Int.mul_nonpos_of_nonpos_of_nonneg gneg s1)
  have p1 := (W.vz_le sgK wg wp).1 p1
  have p2 := (W.vz_le sgK wp w0).1 p2
  rw [vz0] at p2
  rw [vg] at p1
  generalize farith .mul .f32 (e8 (t' - t)) sh = pr at *
  exact fadd_in (k := .f32) wt wp wt' wt (by show vz Ieee.single (e8 t') ≤ vz Ieee.single (e8 t) + vz Ieee.single pr; omega) (by show vz Ieee.single (e8 t) + vz Ieee.single pr ≤ vz Ieee.single (e8 t); omega)
/-- At a point of the curve: its time. -/
theorem Fs_at : W Ieee.single (Fs c c' t t' (e8 c)) ∧ key Ieee.single (Fs c c' t t' (e8 c)) = key Ieee.single (e8 t) := by
  have wc := w8 (z := c) (by omega)
  have wd := w8 (z := c' - c) (by omega)
  have wt := w8 (z := t) (by omega)
  have wg := w8 (z := t' - t) (by omega)
  have hp := p146
  unfold Fs
  rw [sub8 (a := c') (b := c) (by omega) (by omega), sub8 (a := t') (b := t) (by omega) (by omega), sub_self0 wc]
  have vd : 0 < vz Ieee.single (e8 (c' - c)) := by
    rw [v8 (by omega)]
    exact Int.mul_pos (by omega) (by omega)
  obtain ⟨ws, s1, s2⟩ := fdiv_in (k := .f32) w0 wd w0 w0 (by show 0 ≤ vz Ieee.single 0; rw [vz0]; omega) vd (by show 0 ≤ vz Ieee.single 0; rw [vz0]; omega) (by show 0 ≤ vz Ieee.single 0; rw [vz0]; omega) (by show vz Ieee.single 0 * _ ≤ vz Ieee.single 0 * _; rw [vz0]; omega) (by show vz Ieee.single 0 * _ ≤ vz Ieee.single 0 * _; rw [vz0]; omega)
  have s1 := (W.vz_le sgK w0 ws).1 s1
  have s2 := (W.vz_le sgK ws w0).1 s2
  rw [vz0] at s1 s2
  generalize farith .quo .f32 0 (e8 (c' - c)) = sh at *
  have hs : vz Ieee.single sh = 0 := by omega
  obtain ⟨wp, p1, p2⟩ := fmul_in (k := .f32) wg ws w0 w0 (by show vz Ieee.single 0 * _ ≤ _ * vz Ieee.single sh; rw [vz0, hs]; omega) (by show _ * vz Ieee.single sh ≤ vz Ieee.single 0 * _; rw [vz0, hs]; omega)
  have p1 := (W.vz_le sgK w0 wp).1 p1
  have p2 := (W.vz_le sgK wp w0).1 p2
  rw [vz0] at p1 p2
  generalize farith .mul .f32 (e8 (t' - t)) sh = pr at *
  obtain ⟨wr, r1, r2⟩ := fadd_in (k := .f32) wt wp wt wt (by show vz Ieee.single (e8 t) ≤ vz Ieee.single (e8 t) + vz Ieee.single pr; omega) (by show vz Ieee.single (e8 t) + vz Ieee.single pr ≤ vz Ieee.single (e8 t); omega)
  exact ⟨wr, by have r1 : key Ieee.single _ ≤ key Ieee.single _ := r1; have r2 : key Ieee.single _ ≤ key Ieee.single _ := r2; omega⟩
end
/-! ### Both walks along a curve -/
section
variable {C T : List Int} (h : CurveOk C T)
include h
/-- What the time at a current is. -/
def TimeIs (C T : List Int) (z : Nat) (r : Nat × Bool) : Prop :=
  (key Ieee.single z < key Ieee.single (e8 (C.getD 0 0)) ∧ r = (0, false)) ∨
  (∃ i, i + 1 < C.length ∧ key Ieee.single (e8 (C.getD i 0)) ≤ key Ieee.single z ∧ key Ieee.single z < key Ieee.single (e8 (C.getD (i + 1) 0)) ∧ r = (Fs (C.getD i 0) (C.getD (i + 1) 0) (T.getD i 0) (T.getD (i + 1) 0) z, true)) ∨
  (key Ieee.single (e8 (C.getD (C.length - 1) 0)) ≤ key Ieee.single z ∧ r = (e8 (T.getD (C.length - 1) 0), true))
theorem rise_lt {i j : Nat} (hij : i < j) (hj : j < C.length) : C.getD i 0 < C.getD j 0 := by
  obtain ⟨d, rfl⟩ : ∃ d, j = i + 1 + d := ⟨j - i - 1, by omega⟩
  clear hij
  induction d with
  | zero => exact h.rise i hj
  | succ d ih => have := ih (by omega); have := h.rise (i + 1 + d) hj; exact Int.lt_trans ‹_› this
theorem fall_le {i j : Nat} (hij : i ≤ j) (hj : j < C.length) : T.getD j 0 ≤ T.getD i 0 := by
  obtain ⟨d, rfl⟩ : ∃ d, j = i + d := ⟨j - i, by omega⟩
  clear hij
  induction d with
  | zero => exact Int.le_refl _
  | succ d ih => have := ih (by omega); have := h.fall (i + d) hj; exact Int.le_trans this ‹_›
theorem time_l2 (n : Nat) {z : Nat} (hz : W Ieee.single z) (hlast : key Ieee.single z < key Ieee.single (e8 (C.getD (C.length - 1) 0))) : ∀ (m i : Nat), i + 1 < C.length → C.length - i < m → key Ieee.single (e8 (C.getD i 0)) ≤ key Ieee.single z →
    ∃ r, m_impl_Curve_time_l2 n (crv C T) z m (i : Int) = some r ∧ TimeIs C T z r
  | 0, i, _, hm, _ => by omega
  | m + 1, i, hi, hm, hlo => by
    have h16 := h.most
    have c1 := h.cs (i + 1) hi
    have c0 := h.cs i (by omega)
    have hw : w64 ((i : Int) + 1) = ((i + 1 : Nat) : Int) := by rw [w64_id (by omega) (by omega)]; omega
    have e1 : getI (crv C T).Currents ((i + 1 : Nat) : Int) = some (e8 (C.getD (i + 1) 0)) := getI8 hi
    have e0 : getI (crv C T).Currents (i : Int) = some (e8 (C.getD i 0)) := getI8 (by omega)
    have f1 : getI (crv C T).Times ((i + 1 : Nat) : Int) = some (e8 (T.getD (i + 1) 0)) := getI8 (by rw [h.same]; exact hi)
    have f0 : getI (crv C T).Times (i : Int) = some (e8 (T.getD i 0)) := getI8 (by rw [h.same]; omega)
    unfold m_impl_Curve_time_l2
    rw [hw, e1, Option.bind_some, leq_s (w8 (by omega)) hz]
    by_cases hle : key Ieee.single (e8 (C.getD (i + 1) 0)) ≤ key Ieee.single z
    · rw [if_pos (decide_eq_true hle)]
      have : i + 1 + 1 < C.length := by
        rcases Nat.lt_or_ge (i + 1 + 1) C.length with hh | hh
        · exact hh
        · exfalso
          rw [show C.length - 1 = i + 1 by omega] at hlast; omega
      exact time_l2 n hz hlast m (i + 1) this (by omega) hle
    · rw [if_neg (by rw [decide_eq_false]; decide; exact hle)]
      unfold m_impl_Curve_time_j1
      rw [hw, e0, Option.bind_some, e1, Option.bind_some, f0, Option.bind_some, f1, Option.bind_some]
      exact ⟨_, rfl, .inr (.inl ⟨i, hi, hlo, by omega, rfl⟩)⟩
theorem time_ok {n : Nat} (hn : 20 ≤ n) {z : Nat} (hz : W Ieee.single z) : ∃ r, m_impl_Curve_time n (crv C T) z = some r ∧ TimeIs C T z r := by
  have h2 := h.two
  have h16 := h.most
  have hlen : ((crv C T).Currents.length : Int) = (C.length : Int) := by show ((C.map e8).length : Int) = _; rw [List.length_map]
  have c0 := h.cs 0 (by omega)
  have cl := h.cs (C.length - 1) (by omega)
  have e0 : getI (crv C T).Currents 0 = some (e8 (C.getD 0 0)) := getI8 (i := 0) (by omega)
  have hw : w64 ((C.length : Int) - 1) = ((C.length - 1 : Nat) : Int) := by rw [w64_id (by omega) (by omega)]; omega
  have e1 : getI (crv C T).Currents ((C.length - 1 : Nat) : Int) = some (e8 (C.getD (C.length - 1) 0)) := getI8 (by omega)
  have f1 : getI (crv C T).Times ((C.length - 1 : Nat) : Int) = some (e8 (T.getD (C.length - 1) 0)) := getI8 (by rw [h.same]; omega)
  unfold m_impl_Curve_time
  rw [e0, Option.bind_some, geq_s hz (w8 (by omega))]
  by_cases hg : key Ieee.single (e8 (C.getD 0 0)) ≤ key Ieee.single z
  · rw [if_pos (decide_eq_true hg), hlen, hw, e1, Option.bind_some, geq_s hz (w8 (by omega))]
    by_cases hl : key Ieee.single (e8 (C.getD (C.length - 1) 0)) ≤ key Ieee.single z
    · rw [if_pos (decide_eq_true hl), f1, Option.bind_some]
      exact ⟨_, rfl, .inr (.inr ⟨hl, rfl⟩)⟩
    · rw [if_neg (by rw [decide_eq_false]; decide; exact hl)]
      exact time_l2 h n hz (by omega) n 0 (by omega) (by omega) hg
  · rw [if_neg (by rw [decide_eq_false]; decide; exact hg)]
    exact ⟨_, rfl, .inl ⟨by omega, rfl⟩⟩
theorem stime_l2 (n : Nat) {z : Nat} (hz : W Ieee.single z) : ∀ (m i : Nat), i < C.length → C.length - i < m → key Ieee.single (e8 (C.getD i 0)) ≤ key Ieee.single z →
    ∃ r, m_spec_l07Time_l2 n (crv C T) z m ((i + 1 : Nat) : Int) = some r ∧ TimeIs C T z r
  | 0, i, _, hm, _ => by omega
  | m + 1, i, hi, hm, hlo => by
    have h16 := h.most
    have h2 := h.two
    have hlen : ((crv C T).Currents.length : Int) = (C.length : Int) := by show ((C.map e8).length : Int) = _; rw [List.length_map]
    unfold m_spec_l07Time_l2
    rw [hlen]
    by_cases hlt : i + 1 < C.length
    · have c1 := h.cs (i + 1) hlt
      have c0 := h.cs i (by omega)
      have hw : w64 (((i + 1 : Nat) : Int) - 1) = (i : Int) := by rw [w64_id (by omega) (by omega)]; omega
      have hw2 : w64 (((i + 1 : Nat) : Int) + 1) = ((i + 1 + 1 : Nat) : Int) := by rw [w64_id (by omega) (by omega)]; omega
      have e1 : getI (crv C T).Currents ((i + 1 : Nat) : Int) = some (e8 (C.getD (i + 1) 0)) := getI8 hlt
      have e0 : getI (crv C T).Currents (i : Int) = some (e8 (C.getD i 0)) := getI8 (by omega)
      have f1 : getI (crv C T).Times ((i + 1 : Nat) : Int) = some (e8 (T.getD (i + 1) 0)) := getI8 (by rw [h.same]; exact hlt)
      have f0 : getI (crv C T).Times (i : Int) = some (e8 (T.getD i 0)) := getI8 (by rw [h.same]; omega)
      rw [if_pos (by omega), hw, e0, Option.bind_some, e1, Option.bind_some, lss_s hz (w8 (by omega))]
      by_cases hle : key Ieee.single z < key Ieee.single (e8 (C.getD (i + 1) 0))
      · rw [if_pos (decide_eq_true hle), f0, Option.bind_some, f1, Option.bind_some]
        exact ⟨_, rfl, .inr (.inl ⟨i, hlt, hlo, hle, rfl⟩)⟩
      · rw [if_neg (by rw [decide_eq_false]; decide; exact hle), hw2]
        exact stime_l2 n hz m (i + 1) hlt (by omega) (by omega)
    · have hw : w64 ((C.length : Int) - 1) = ((C.length - 1 : Nat) : Int) := by rw [w64_id (by omega) (by omega)]; omega
      have f1 : getI (crv C T).Times ((C.length - 1 : Nat) : Int) = some (e8 (T.getD (C.length - 1) 0)) := getI8 (by rw [h.same]; omega)
      rw [if_neg (by omega)]
      unfold m_spec_l07Time_j1
      rw [hlen, hw, f1, Option.bind_some]
      exact ⟨_, rfl, .inr (.inr ⟨by rw [show C.length - 1 = i by omega]; exact hlo, rfl⟩)⟩
theorem stime_ok {n : Nat} (hn : 20 ≤ n) {z : Nat} (hz : W Ieee.single z) : ∃ r, m_spec_l07Time n (crv C T) z = some r ∧ TimeIs C T z r := by
  have h2 := h.two
  have h16 := h.most
  have c0 := h.cs 0 (by omega)
  have e0 : getI (crv C T).Currents 0 = some (e8 (C.getD 0 0)) := getI8 (i := 0) (by omega)
  unfold m_spec_l07Time
  rw [e0, Option.bind_some, geq_s hz (w8 (by omega))]
  by_cases hg : key Ieee.single (e8 (C.getD 0 0)) ≤ key Ieee.single z
  · rw [if_pos (decide_eq_true hg)]
    exact stime_l2 h n hz n 0 (by omega) (by omega) hg
  · rw [if_neg (by rw [decide_eq_false]; decide; exact hg)]
    exact ⟨_, rfl, .inl ⟨by omega, rfl⟩⟩
/-- There is one time. -/
theorem time_one {z : Nat} {r r' : Nat × Bool} (h1 : TimeIs C T z r) (h2 : TimeIs C T z r') : r = r' := by
  have ht := h.two
  have mono : ∀ {i j : Nat}, i ≤ j → j < C.length → key Ieee.single (e8 (C.getD i 0)) ≤ key Ieee.single (e8 (C.getD j 0)) := fun {i j} hij hj => by
    have a := h.cs i (by omega)
    have b := h.cs j hj
    rw [k8_le (by omega) (by omega)]
    rcases Nat.lt_or_eq_of_le hij with h3 | h3
    · exact Int.le_of_lt (rise_lt h h3 hj)
    · subst h3; exact Int.le_refl _
  rcases h1 with ⟨a, rfl⟩ | ⟨i, i1, i2, i3, rfl⟩ | ⟨a, rfl⟩ <;> rcases h2 with ⟨b, rfl⟩ | ⟨j, j1, j2, j3, rfl⟩ | ⟨b, rfl⟩
  · rfl
  · have := mono (Nat.zero_le j) (by omega); omega
  · have := mono (Nat.zero_le (C.length - 1)) (by omega); omega
  · have := mono (Nat.zero_le i) (by omega); omega
  · have : i = j := by
      rcases Nat.lt_trichotomy i j with h3 | h3 | h3
      · have := mono (show i + 1 ≤ j by omega) (by omega); omega
      · exact h3
      · have := mono (show j + 1 ≤ i by omega) (by omega); omega
    rw [this]
  · have := mono (show i + 1 ≤ C.length - 1 by omega) (by omega); omega
  · have := mono (Nat.zero_le (C.length - 1)) (by omega); omega
  · have := mono (show j + 1 ≤ C.length - 1 by omega) (by omega); omega
  · rfl
end
end Go.Proofs.Ytolggocnbakokaa.AWN

namespace Go.Proofs.Ytolggocnbakokaa.AWN
open Go
def PP (j k m : Int) : Nat := farith .mul .f32 (e8 (-j)) (farith .quo .f32 (e8 k) (e8 m))
def wB (w : Nat) : Bool := decide (w < 4294967296) && (match Ieee.single.read w with | .number .. => true | _ => false)
theorem wB_W {w : Nat} (h : wB w = true) : W Ieee.single w := by
  unfold wB at h
  rw [Bool.and_eq_true] at h
  refine ⟨of_decide_eq_true h.1, ?_⟩
  cases hr : Ieee.single.read w with
  | number s m p => exact ⟨s, m, p, hr⟩
  | infinity s => rw [hr] at h; exact nomatch h.2
  | nan s t => rw [hr] at h; exact nomatch h.2
def chk (j m k : Nat) : Bool :=
  let w := PP (2 * j) k (2 * m)
  let w' := PP (2 * j) (k + 1) (2 * m)
  let w2 := PP (4 * j) (2 * k) (4 * m)
  wB w && wB w' && wB w2 && decide (vz Ieee.single w2 = 2 * vz Ieee.single w) && decide (vz Ieee.single w' ≤ vz Ieee.single w)
theorem chk_all : ((List.range 8).all fun j => (List.range 9).all fun m => (List.range (2 * m)).all fun k => chk j m k) = true := by kernel_rfl
theorem chk_one {j m k : Nat} (hj : j < 8) (hm : m < 9) (hk : k < 2 * m) : chk j m k = true :=
  List.all_eq_true.1 (List.all_eq_true.1 (List.all_eq_true.1 chk_all j (List.mem_range.2 hj)) m (List.mem_range.2 hm)) k (List.mem_range.2 hk)
theorem chk_facts {j m k : Nat} (hj : j < 8) (hm : m < 9) (hk : k < 2 * m) : W Ieee.single (PP (2 * j) k (2 * m)) ∧ W Ieee.single (PP (4 * j) (2 * k) (4 * m)) ∧ vz Ieee.single (PP (4 * j) (2 * k) (4 * m)) = 2 * vz Ieee.single (PP (2 * j) k (2 * m)) ∧ vz Ieee.single (PP (2 * j) (k + 1 : Nat) (2 * m)) ≤ vz Ieee.single (PP (2 * j) k (2 * m)) := by
  have h := chk_one hj hm hk
  unfold chk at h
  simp only [Bool.and_eq_true, decide_eq_true_eq] at h
  exact ⟨wB_W h.1.1.1.1, wB_W h.1.1.2, h.1.2, h.2⟩
theorem pp_mono {j m : Nat} (hj : j < 8) (hm : m < 9) : ∀ (d k : Nat), k + d < 2 * m → vz Ieee.single (PP (2 * j) (k + d : Nat) (2 * m)) ≤ vz Ieee.single (PP (2 * j) k (2 * m))
  | 0, k, _ => Int.le_refl _
  | d + 1, k, h => by
    have h1 := pp_mono hj hm d k (by omega)
    have h2 := (chk_facts (k := k + d) hj hm (by omega)).2.2.2
    rw [show k + (d + 1) = k + d + 1 by omega]
    exact Int.le_trans h2 h1
theorem Fs_pp {c c' t t' X : Int} (hc : 0 ≤ c) (hc' : c' ≤ 100000) (hcc : c < c') (ht' : 0 ≤ t') (ht : t ≤ 100000) (htt : t' ≤ t) (h0 : c ≤ X) (h1 : X ≤ 100000) : Fs c c' t t' (e8 X) = farith .add .f32 (e8 t) (PP (t - t') (X - c) (c' - c)) := by
  unfold Fs PP
  rw [sub8 (a := c') (b := c) (by omega) (by omega), sub8 (a := t') (b := t) (by omega) (by omega), sub8 (a := X) (b := c) (by omega) (by omega), show -(t - t') = t' - t by omega]
def two32 : Nat := 1073741824
theorem w2 : W Ieee.single two32 ∧ vz Ieee.single two32 = 2 * (P149 : Nat) := ⟨wB_W (by kernel_rfl), by kernel_rfl⟩
/-- Twice what is rounded. -/
theorem kz_double {f : Ieee.Format} {Z K p : Int} (h0 : 0 ≤ Z) (h : kz f Z p = K) (h1 : 2 * (f.binade : Int) ≤ K) (h2 : K + f.binade < f.infRung) : kz f (2 * Z) p = K + f.binade := by
  have e : kz f (2 * Z) p = kz f Z (p + 1) := by
    have := kz_shift f Z 1 p
    rw [show Z * ((2 ^ 1 : Nat) : Int) = 2 * Z by omega] at this
    exact this
  rw [e]
  unfold kz at h ⊢
  rw [if_neg (by omega)] at h ⊢
  rw [rung_double (by omega) (by omega)]
  omega
theorem two_mul {a : Nat} (ha : W Ieee.single a) (h1 : 2 * (Ieee.single.binade : Int) ≤ key Ieee.single a) (h2 : key Ieee.single a + Ieee.single.binade < Ieee.single.infRung) :
    W Ieee.single (farith .mul .f32 two32 a) ∧ key Ieee.single (farith .mul .f32 two32 a) = key Ieee.single a + Ieee.single.binade := by
  obtain ⟨b, c⟩ := fmul_key (k := .f32) w2.1 ha
  have c : key Ieee.single (farith .mul .f32 two32 a) = kz Ieee.single (vz Ieee.single two32 * vz Ieee.single a) (2 * Ieee.single.leastPlace) := c
  have hz : kz Ieee.single (vz Ieee.single a) Ieee.single.leastPlace = key Ieee.single a := ha.kz sgK
  have hpos : 0 ≤ vz Ieee.single a := by
    have := W.vz_zero sgK ha
    have : (0 : Int) < Ieee.single.binade := by decide
    omega
  have e : kz Ieee.single (vz Ieee.single two32 * vz Ieee.single a) (2 * Ieee.single.leastPlace) = kz Ieee.single (2 * vz Ieee.single a) Ieee.single.leastPlace := by
    rw [w2.2, show 2 * ((P149 : Nat) : Int) * vz Ieee.single a = (2 * vz Ieee.single a) * ((2 ^ 149 : Nat) : Int) by show 2 * ((2 ^ 149 : Nat) : Int) * _ = _; rw [Int.mul_assoc, Int.mul_comm ((2 ^ 149 : Nat) : Int), Int.mul_assoc], kz_shift]
    congr 1
  rw [e, kz_double hpos hz h1 h2] at c
  have hk := ha.key_lt sgK
  have hb : (0 : Int) < Ieee.single.binade := by decide
  exact ⟨⟨b, fin_of_key (by rw [c]; exact h2) (by rw [c]; omega)⟩, c⟩
/-- A place between some eighths and some thousands of them is far from both ends. -/
theorem mid8 {a : Int} (h : key Ieee.single (e8 1) ≤ a) (h' : a ≤ key Ieee.single (e8 100000)) : 2 * (Ieee.single.binade : Int) ≤ a ∧ a + Ieee.single.binade < Ieee.single.infRung := by
  have h1 : 2 * (Ieee.single.binade : Int) ≤ key Ieee.single (e8 1) := of_decide_eq_true (by kernel_rfl)
  have h2 : key Ieee.single (e8 100000) + Ieee.single.binade < Ieee.single.infRung := of_decide_eq_true (by kernel_rfl)
  omega
theorem mul8two {z : Int} (h0 : 1 ≤ z) (h1 : z ≤ 100000) : farith .mul .f32 (e8 z) two32 = e8 (2 * z) := by
  have wz := w8 (z := z) (by omega)
  have wzz := w8 (z := 2 * z) (by omega)
  obtain ⟨b, c⟩ := fmul_key (k := .f32) wz w2.1
  have e : vz Ieee.single (e8 z) * vz Ieee.single two32 = vz Ieee.single (e8 (2 * z)) * ((2 ^ 149 : Nat) : Int) := by
    rw [w2.2, v8 (by omega), v8 (by omega)]
    show z * (P146 : Int) * (2 * ((2 ^ 149 : Nat) : Int)) = 2 * z * (P146 : Int) * ((2 ^ 149 : Nat) : Int)
    rw [← Int.mul_assoc, Int.mul_comm (z * (P146 : Int)) 2, ← Int.mul_assoc]
  have c : key Ieee.single (farith .mul .f32 (e8 z) two32) = kz Ieee.single (vz Ieee.single (e8 z) * vz Ieee.single two32) (2 * Ieee.single.leastPlace) := c
  rw [e, kz_shift] at c
  have hz : kz Ieee.single (vz Ieee.single (e8 (2 * z))) Ieee.single.leastPlace = key Ieee.single (e8 (2 * z)) := wzz.kz sgK
  have c : key Ieee.single (farith .mul .f32 (e8 z) two32) = key Ieee.single (e8 (2 * z)) := c.trans hz
  refine word_of_key b wzz.lt c fun hk => ?_
  have h3 := (key_ne (a := 2 * z) (by omega)).1.2 (by omega)
  have hk : key Ieee.single (e8 (2 * z)) = 0 := hk
  omega

/-! ### Drawn curves -/
structure Drawn (C T : List Int) : Prop extends CurveOk C T where
  step : ∀ i, i + 1 < C.length → ∃ m j : Nat, 1 ≤ m ∧ m < 9 ∧ j < 8 ∧ C.getD (i + 1) 0 = C.getD i 0 + 2 * m ∧ T.getD i 0 = T.getD (i + 1) 0 + 2 * j
  low : ∀ i, i < C.length → 24 ≤ T.getD i 0
  small : ∀ i, i < C.length → C.getD i 0 ≤ 500 ∧ T.getD i 0 ≤ 500
  first : ∃ a : Nat, 1 ≤ a ∧ a ≤ 8 ∧ C.getD 0 0 = 2 * a
def dbl (L : List Int) : List Int := L.map (2 * ·)
theorem dbl_get (L : List Int) (i : Nat) : (dbl L).getD i 0 = 2 * L.getD i 0 := by
  unfold dbl
  rw [List.getD_eq_getElem?_getD, List.getElem?_map, List.getD_eq_getElem?_getD]
  cases L[i]? <;> rfl
theorem dbl_len (L : List Int) : (dbl L).length = L.length := List.length_map _
section
variable {C T : List Int} (h : Drawn C T)
include h
theorem dblC_ok : CurveOk (dbl C) (dbl T) := by
  have hc := h.toCurveOk
  refine ⟨by rw [dbl_len]; exact hc.two, by rw [dbl_len]; exact hc.most, by rw [dbl_len, dbl_len]; exact hc.same, fun i hi => ?_, fun i hi => ?_, fun i hi => ?_, fun i hi => ?_⟩
  · rw [dbl_len] at hi
    rw [dbl_get]; have := hc.cs i hi; have := h.small i hi; omega
  · rw [dbl_len] at hi
    rw [dbl_get]; have := hc.ts i hi; have := h.small i hi; omega
  · rw [dbl_len] at hi
    rw [dbl_get, dbl_get]; have := hc.rise i hi; omega
  · rw [dbl_len] at hi
    rw [dbl_get, dbl_get]; have := hc.fall i hi; omega
/-- A time that there is, is a number between the times. -/
theorem time_W {z : Nat} (hz : W Ieee.single z) {r : Nat × Bool} (ht : TimeIs C T z r) (h2 : r.2 = true) : W Ieee.single r.1 ∧ key Ieee.single (e8 (T.getD (C.length - 1) 0)) ≤ key Ieee.single r.1 ∧ key Ieee.single r.1 ≤ key Ieee.single (e8 (T.getD 0 0)) := by
  have hc := h.toCurveOk
  have two := hc.two
  have tl := hc.ts (C.length - 1) (by omega)
  have t0 := hc.ts 0 (by omega)
  rcases ht with ⟨_, rfl⟩ | ⟨i, i1, i2, i3, rfl⟩ | ⟨_, rfl⟩
  · cases h2
  · have a := hc.cs i (by omega)
    have b := hc.cs (i + 1) i1
    have ti := hc.ts i (by omega)
    have ti1 := hc.ts (i + 1) i1
    have r := hc.rise i i1
    have f := hc.fall i i1
    obtain ⟨w, k1, k2⟩ := Fs_in (by omega) (by omega) r (by omega) (by omega) f hz i2 i3
    have f1 := fall_le hc (Nat.zero_le i) (by omega)
    have f2 := fall_le hc (show i + 1 ≤ C.length - 1 by omega) (by omega)
    have g1 := (k8_le (a := T.getD i 0) (b := T.getD 0 0) (by omega) (by omega)).2 f1
    have g2 := (k8_le (a := T.getD (C.length - 1) 0) (b := T.getD (i + 1) 0) (by omega) (by omega)).2 f2
    exact ⟨w, by show _ ≤ key Ieee.single (Fs _ _ _ _ _); omega, by show key Ieee.single (Fs _ _ _ _ _) ≤ _; omega⟩
  · have f1 := fall_le hc (Nat.zero_le (C.length - 1)) (by omega)
    exact ⟨w8 (by omega), Int.le_refl _, (k8_le (by omega) (by omega)).2 f1⟩
/-- The curve with twice the measures is not faster. -/
theorem dbl_later {z : Nat} (hz : W Ieee.single z) {r s : Nat × Bool} (h1 : TimeIs C T z r) (h2 : TimeIs (dbl C) (dbl T) z s) (hr : r.2 = true) (hs : s.2 = true) :
    W Ieee.single (farith .sub .f32 s.1 r.1) ∧ 0 ≤ key Ieee.single (farith .sub .f32 s.1 r.1) := by
  have hc := h.toCurveOk
  have hd := dblC_ok h
  have two := hc.two
  have hw := time_W h hz h1 hr
  have lt8 : ∀ {i j : Nat}, i < C.length → j < C.length → (key Ieee.single (e8 (C.getD i 0)) < key Ieee.single (e8 (C.getD j 0)) ↔ C.getD i 0 < C.getD j 0) := fun {i j} hi hj => by
    have := hc.cs i hi; have := hc.cs j hj
    exact k8_lt (by omega) (by omega)
  have cmono : ∀ {i j : Nat}, i ≤ j → j < C.length → C.getD i 0 ≤ C.getD j 0 := fun {i j} hij hj => by
    rcases Nat.lt_or_eq_of_le hij with h3 | h3
    · exact Int.le_of_lt (rise_lt hc h3 hj)
    · subst h3; exact Int.le_refl _
  have kle : ∀ {a b : Int}, 0 ≤ a → a ≤ b → b ≤ 10000 → key Ieee.single (e8 a) ≤ key Ieee.single (e8 b) := fun {a b} h0 hab hb => (k8_le (by omega) (by omega)).2 hab
  have klt : ∀ {a b : Int}, 0 ≤ a → a < b → b ≤ 10000 → key Ieee.single (e8 a) < key Ieee.single (e8 b) := fun {a b} h0 hab hb => (k8_lt (by omega) (by omega)).2 hab
  -- the double's time, and that the single's is not greater
  have main : W Ieee.single s.1 ∧ key Ieee.single r.1 ≤ key Ieee.single s.1 := by
    rcases h2 with ⟨_, rfl⟩ | ⟨i, i1, i2, i3, rfl⟩ | ⟨hl, rfl⟩
    · cases hs
    · rw [dbl_len] at i1
      have a := hd.cs i (by rw [dbl_len]; omega)
      have b := hd.cs (i + 1) (by rw [dbl_len]; exact i1)
      have ti := hd.ts i (by rw [dbl_len]; omega)
      have ti1 := hd.ts (i + 1) (by rw [dbl_len]; exact i1)
      have rr := hd.rise i (by rw [dbl_len]; exact i1)
      have ff := hd.fall i (by rw [dbl_len]; exact i1)
      obtain ⟨w, k1, k2⟩ := Fs_in (by omega) (by omega) rr (by omega) (by omega) ff hz i2 i3
      refine ⟨w, ?_⟩
      show key Ieee.single r.1 ≤ key Ieee.single (Fs _ _ _ _ _)
      simp only [dbl_get] at *
      obtain ⟨m, j, m1, m2, j1, e1, e2⟩ := h.step i i1
      have lo := h.low (i + 1) i1
      have sm := h.small i (by omega)
      have sm1 := h.small (i + 1) i1
      have c1 := hc.cs i (by omega)
      have zi : key Ieee.single (e8 (C.getD i 0)) < key Ieee.single z := by
        have := klt (a := C.getD i 0) (b := 2 * C.getD i 0) (by omega) (by omega) (by omega); omega
      have up : key Ieee.single (e8 (T.getD i 0)) ≤ key Ieee.single (e8 (2 * T.getD (i + 1) 0)) := kle (by omega) (by omega) (by omega)
      rcases h1 with ⟨_, rfl⟩ | ⟨q, q1, q2, q3, rfl⟩ | ⟨_, rfl⟩
      · cases hr
      · have hq : i ≤ q := by
          rcases Nat.lt_or_ge q i with h3 | h3
          · exfalso
            have := cmono (show q + 1 ≤ i by omega) (by omega)
            have a1 := hc.cs (q + 1) q1
            have := kle (a := C.getD (q + 1) 0) (b := C.getD i 0) (by omega) this (by omega)
            omega
          · exact h3
        have aq := hc.cs q (by omega)
        have bq := hc.cs (q + 1) q1
        have tq := hc.ts q (by omega)
        have tq1 := hc.ts (q + 1) q1
        obtain ⟨w', k1', k2'⟩ := Fs_in (by omega) (by omega) (hc.rise q q1) (by omega) (by omega) (hc.fall q q1) hz q2 q3
        have := fall_le hc hq (by omega)
        have := kle (a := T.getD q 0) (b := T.getD i 0) (by omega) this (by omega)
        show key Ieee.single (Fs _ _ _ _ _) ≤ _
        omega
      · have tl := hc.ts (C.length - 1) (by omega)
        have := fall_le hc (show i + 1 ≤ C.length - 1 by omega) (by omega)
        have := kle (a := T.getD (C.length - 1) 0) (b := 2 * T.getD (i + 1) 0) (by omega) (by omega) (by omega)
        show key Ieee.single (e8 _) ≤ _
        omega
    · rw [dbl_len] at hl ⊢
      rw [dbl_get] at hl
      show W Ieee.single (e8 _) ∧ _ ≤ key Ieee.single (e8 _)
      rw [dbl_get]
      have sm := h.small (C.length - 1) (by omega)
      have tl := hc.ts (C.length - 1) (by omega)
      have cl := hc.cs (C.length - 1) (by omega)
      refine ⟨w8 (by omega), ?_⟩
      have zi : key Ieee.single (e8 (C.getD (C.length - 1) 0)) < key Ieee.single z := by
        have := klt (a := C.getD (C.length - 1) 0) (b := 2 * C.getD (C.length - 1) 0) (by omega) (by omega) (by omega); omega
      rcases h1 with ⟨_, rfl⟩ | ⟨q, q1, q2, q3, rfl⟩ | ⟨_, rfl⟩
      · cases hr
      · exfalso
        have := cmono (show q + 1 ≤ C.length - 1 by omega) (by omega)
        have a1 := hc.cs (q + 1) q1
        have := kle (a := C.getD (q + 1) 0) (b := C.getD (C.length - 1) 0) (by omega) this (by omega)
        omega
      · show key Ieee.single (e8 _) ≤ _
        exact kle (by omega) (by omega) (by omega)
  have tl := hc.ts (C.length - 1) (by omega)
  have r0 : 0 ≤ vz Ieee.single r.1 := by
    have := (key_ne (a := T.getD (C.length - 1) 0) (by omega)).1.2 (by omega)
    have := W.vz_zero sgK hw.1
    omega
  have le := (W.vz_le sgK hw.1 main.1).1 main.2
  obtain ⟨w, a, b⟩ := fsub_in (k := .f32) main.1 hw.1 w0 main.1 (by show vz Ieee.single 0 ≤ vz Ieee.single s.1 - vz Ieee.single r.1; rw [vz0]; omega) (by show vz Ieee.single s.1 - vz Ieee.single r.1 ≤ vz Ieee.single s.1; omega)
  exact ⟨w, by have a : key Ieee.single 0 ≤ _ := a; rw [k0] at a; exact a⟩
end
end Go.Proofs.Ytolggocnbakokaa.AWN

namespace Go.Proofs.Ytolggocnbakokaa.AWN
open Go
/-- What is drawn: a number of quarters, as a word of eighths. -/
theorem q_cur : ((List.range 8).all fun v => farith .quo .f32 (FloatKind.nearest .f32 (w64 ((1 : Int) + (v : Int)))) 1082130432 == e8 (2 * ((v : Int) + 1))) = true := by kernel_rfl
theorem q_tim : ((List.range 40).all fun v => farith .quo .f32 (FloatKind.nearest .f32 (w64 ((40 : Int) + (v : Int)))) 1082130432 == e8 (2 * ((v : Int) + 40))) = true := by kernel_rfl
theorem q_dec : ((List.range 8).all fun v => farith .quo .f32 (FloatKind.nearest .f32 (v : Int)) 1082130432 == e8 (2 * (v : Int))) = true := by kernel_rfl
theorem q_eig : ((List.range 64).all fun v => farith .quo .f32 (FloatKind.nearest .f32 (v : Int)) 1090519040 == e8 (v : Int)) = true := by kernel_rfl
theorem of_all {N : Nat} {p : Nat → Bool} (h : (List.range N).all p = true) {v : Int} (h0 : 0 ≤ v) (h1 : v < N) : ∃ k : Nat, v = (k : Int) ∧ k < N ∧ p k = true :=
  ⟨v.toNat, by omega, by omega, List.all_eq_true.1 h _ (List.mem_range.2 (by omega))⟩
/-- Lists under construction: the next point is linked to the last one. -/
structure Build (C T : List Int) (x t : Int) : Prop where
  same : T.length = C.length
  step : ∀ i, i < C.length → ∃ m j : Nat, 1 ≤ m ∧ m < 9 ∧ j < 8 ∧ (C ++ [x]).getD (i + 1) 0 = (C ++ [x]).getD i 0 + 2 * m ∧ (T ++ [t]).getD i 0 = (T ++ [t]).getD (i + 1) 0 + 2 * j
  first : ∃ a : Nat, 1 ≤ a ∧ a ≤ 8 ∧ (C ++ [x]).getD 0 0 = 2 * a
  firstT : 80 ≤ (T ++ [t]).getD 0 0 ∧ (T ++ [t]).getD 0 0 ≤ 160
theorem getD_app (l : List Int) (x : Int) (i : Nat) : (l ++ [x]).getD i 0 = if i < l.length then l.getD i 0 else if i = l.length then x else 0 := by
  rw [List.getD_eq_getElem?_getD, List.getD_eq_getElem?_getD]
  by_cases h : i < l.length
  · rw [if_pos h, List.getElem?_append_left h]
  · rw [if_neg h, List.getElem?_append_right (by omega)]
    by_cases h2 : i = l.length
    · subst h2; rw [if_pos rfl, Nat.sub_self]; rfl
    · rw [if_neg h2]
      obtain ⟨d, hd⟩ : ∃ d, i - l.length = d + 1 := ⟨i - l.length - 1, by omega⟩
      rw [hd]; rfl
theorem Build.bounds {C T : List Int} {x t : Int} (h : Build C T x t) (hl : C.length ≤ 5) : ∀ i, i ≤ C.length → 2 ≤ (C ++ [x]).getD i 0 ∧ (C ++ [x]).getD i 0 ≤ 16 + 16 * i ∧ 80 - 14 * (i : Int) ≤ (T ++ [t]).getD i 0 ∧ (T ++ [t]).getD i 0 ≤ 160 := by
  intro i
  induction i with
  | zero =>
    intro _
    obtain ⟨a, h1, h2, h3⟩ := h.first
    have := h.firstT
    omega
  | succ i ih =>
    intro hi
    have := ih (by omega)
    obtain ⟨m, j, m1, m2, j1, e1, e2⟩ := h.step i (by omega)
    omega
theorem Build.drawn {C T : List Int} {x t : Int} (h : Build C T x t) (h2 : 2 ≤ C.length) (hl : C.length ≤ 5) : Drawn C T := by
  have hb := h.bounds hl
  have ec : ∀ i, i < C.length → (C ++ [x]).getD i 0 = C.getD i 0 := fun i hi => by rw [getD_app, if_pos hi]
  have et : ∀ i, i < C.length → (T ++ [t]).getD i 0 = T.getD i 0 := fun i hi => by rw [getD_app, if_pos (by rw [h.same]; exact hi)]
  refine { two := h2, most := by omega, same := h.same, cs := fun i hi => ?_, ts := fun i hi => ?_, rise := fun i hi => ?_, fall := fun i hi => ?_, step := fun i hi => ?_, low := fun i hi => ?_, small := fun i hi => ?_, first := ?_ }
  · have := hb i (by omega); rw [ec i hi] at this; omega
  · have := hb i (by omega); rw [et i hi] at this; omega
  · obtain ⟨m, j, m1, m2, j1, e1, e2⟩ := h.step i (by omega)
    rw [ec i (by omega), ec (i + 1) hi] at e1; omega
  · obtain ⟨m, j, m1, m2, j1, e1, e2⟩ := h.step i (by omega)
    rw [et i (by omega), et (i + 1) hi] at e2; omega
  · obtain ⟨m, j, m1, m2, j1, e1, e2⟩ := h.step i (by omega)
    rw [ec i (by omega), ec (i + 1) hi] at e1
    rw [et i (by omega), et (i + 1) hi] at e2
    exact ⟨m, j, m1, m2, j1, e1, e2⟩
  · have := hb i (by omega); rw [et i hi] at this; omega
  · have := hb i (by omega); rw [et i hi, ec i hi] at this; omega
  · obtain ⟨a, h1, h2', h3⟩ := h.first
    rw [ec 0 (by omega)] at h3
    exact ⟨a, h1, h2', h3⟩
theorem draw_l2 (n : Nat) : ∀ (m k : Nat) (s : SL00Src) (b : Int) (A B : List Nat) (C T : List Int) (x t : Int), k < m → Src s b → b + 4 * k ≤ 1000 → C.length + k ≤ 5 → Build C T x t →
    ∃ (C' T' : List Int) (x' t' : Int) (s' : SL00Src), m_spec_l07DrawOk_l2 n m s.code s.at_ s.seed A B (C.map e8) (T.map e8) (e8 x) (e8 t) (k : Int) = some (crv C' T', s') ∧ Build C' T' x' t' ∧ C'.length = C.length + k ∧ Src s' (b + 4 * k)
  | 0, k, _, _, _, _, _, _, _, _, h, _, _, _, _ => by omega
  | m + 1, k, s, b, A, B, C, T, x, t, hm, hs, hb, hlen, hB => by
    unfold m_spec_l07DrawOk_l2
    by_cases hk : k = 0
    · subst hk
      rw [if_neg (by decide)]
      unfold m_spec_l07DrawOk_j1
      exact ⟨C, T, x, t, s, rfl, hB, rfl, hs.mono (by omega)⟩
    · obtain ⟨k, rfl⟩ : ∃ j, k = j + 1 := ⟨k - 1, by omega⟩
      rw [if_pos (by omega)]
      unfold grd
      have r1 : room ((C.map e8).length + 1) 4 := by unfold room; rw [List.length_map]; omega
      have r2 : room ((T.map e8).length + 1) 4 := by unfold room; rw [List.length_map, hB.same]; omega
      rw [if_pos r1, if_pos r2]
      obtain ⟨v, s1, e1, v0, v8, hs1⟩ := pick_lt n hs (by omega) 8 (by omega) (by omega)
      have e1 : m_spec_l00Src_pick n ⟨s.code, s.at_, s.seed⟩ 8 = some (v, s1) := e1
      obtain ⟨u, s2, e2, u0, u8, hs2⟩ := pick_lt n hs1 (by omega) 8 (by omega) (by omega)
      rw [e1, Option.bind_some]
      dsimp only
      rw [e2, Option.bind_some]
      dsimp only
      obtain ⟨v', rfl, v8', ev⟩ := of_all q_cur v0 v8
      obtain ⟨u', rfl, u8', eu⟩ := of_all q_dec u0 u8
      have hbd := hB.bounds (by omega) C.length (Nat.le_refl _)
      rw [getD_app, if_neg (by omega), if_pos rfl, getD_app, if_neg (by rw [hB.same]; omega), if_pos hB.same.symm] at hbd
      rw [eq_of_beq ev, eq_of_beq eu, add8 (by omega) (by omega), sub8 (by omega) (by omega), show w64 (((k + 1 : Nat) : Int) - 1) = (k : Int) by rw [w64_id (by omega) (by omega)]; omega]
      have hB' : Build (C ++ [x]) (T ++ [t]) (x + 2 * ((v' : Int) + 1)) (t - 2 * (u' : Int)) := by
        refine ⟨by simp [hB.same], fun i hi => ?_, ?_, ?_⟩
        · rw [List.length_append] at hi
          have hi : i < C.length + 1 := hi
          have l1 : (C ++ [x]).length = C.length + 1 := by simp
          have l2 : (T ++ [t]).length = C.length + 1 := by simp [hB.same]
          by_cases hlt : i < C.length
          · obtain ⟨m, j, m1, m2, j1, q1, q2⟩ := hB.step i hlt
            refine ⟨m, j, m1, m2, j1, ?_, ?_⟩
            · rw [getD_app (C ++ [x]), getD_app (C ++ [x]), l1, if_pos (by omega), if_pos (by omega)]; exact q1
            · rw [getD_app (T ++ [t]), getD_app (T ++ [t]), l2, if_pos (by omega), if_pos (by omega)]; exact q2
          · have : i = C.length := by omega
            subst this
            refine ⟨v' + 1, u', by omega, by omega, u8', ?_, ?_⟩
            · rw [getD_app (C ++ [x]), getD_app (C ++ [x]), l1, if_neg (by omega), if_pos rfl, if_pos (by omega), getD_app, if_neg (by omega), if_pos rfl]; omega
            · rw [getD_app (T ++ [t]), getD_app (T ++ [t]), l2, if_pos (by omega), if_neg (by omega), if_pos rfl, getD_app, if_neg (by rw [hB.same]; omega), if_pos hB.same.symm]; omega
        · obtain ⟨a, a1, a2, a3⟩ := hB.first
          refine ⟨a, a1, a2, ?_⟩
          rw [getD_app (C ++ [x]), if_pos (by simp)]; exact a3
        · rw [getD_app (T ++ [t]), if_pos (by simp)]; exact hB.firstT
      have ih := draw_l2 n m k s2 (b + 4) A B (C ++ [x]) (T ++ [t]) (x + 2 * ((v' : Int) + 1)) (t - 2 * (u' : Int)) (by omega) (hs2.mono (by omega)) (by omega) (by simp; omega) hB'
      rw [List.map_append, List.map_append] at ih
      obtain ⟨C', T', x', t', s', q1, q2, q3, q4⟩ := ih
      exact ⟨C', T', x', t', s', q1, q2, by rw [q3]; simp; omega, q4.mono (by omega)⟩
theorem draw_curve {n : Nat} (hn : 10 ≤ n) {s : SL00Src} {b : Int} (hs : Src s b) (hb : b ≤ 900) : ∃ C T s', m_spec_l07DrawOk n s = some (crv C T, s') ∧ Drawn C T ∧ Src s' (b + 30) := by
  unfold m_spec_l07DrawOk
  obtain ⟨v, s1, e1, v0, v8, h1⟩ := pick_lt n hs (by omega) 8 (by omega) (by omega)
  obtain ⟨u, s2, e2, u0, u8, h2⟩ := pick_lt n h1 (by omega) 40 (by omega) (by omega)
  obtain ⟨w, s3, e3, w0, w8, h3⟩ := pick_lt n h2 (by omega) 4 (by omega) (by omega)
  rw [e1, Option.bind_some]
  dsimp only
  rw [e2, Option.bind_some]
  dsimp only
  rw [e3, Option.bind_some]
  dsimp only
  obtain ⟨v', rfl, v8', ev⟩ := of_all q_cur v0 v8
  obtain ⟨u', rfl, u8', eu⟩ := of_all q_tim u0 u8
  obtain ⟨w', rfl⟩ : ∃ k : Nat, w = (k : Int) := ⟨w.toNat, by omega⟩
  rw [eq_of_beq ev, eq_of_beq eu, show w64 ((2 : Int) + (w' : Int)) = ((w' + 2 : Nat) : Int) by rw [w64_id (by omega) (by omega)]; omega]
  have hB : Build [] [] (2 * ((v' : Int) + 1)) (2 * ((u' : Int) + 40)) := by
    refine ⟨rfl, fun i hi => by simp at hi, ⟨v' + 1, by omega, by omega, ?_⟩, ?_⟩
    · show 2 * ((v' : Int) + 1) = _; omega
    · show 80 ≤ 2 * ((u' : Int) + 40) ∧ 2 * ((u' : Int) + 40) ≤ 160; omega
  obtain ⟨C', T', x', t', s', q1, q2, q3, q4⟩ := draw_l2 n n (w' + 2) s3 (b + 6) [] [] [] [] _ _ (by omega) (h3.mono (by omega)) (by omega) (by show 0 + _ ≤ 5; omega) hB
  refine ⟨C', T', s', q1, q2.drawn (by rw [q3]; show 2 ≤ 0 + _; omega) (by rw [q3]; show 0 + _ ≤ 5; omega), q4.mono (by omega)⟩
end Go.Proofs.Ytolggocnbakokaa.AWN

namespace Go.Proofs.Ytolggocnbakokaa.AWN
open Go
section
variable {C T : List Int} (h : CurveOk C T)
include h
theorem timeAt_ok {n : Nat} (hn : 20 ≤ n) {z : Nat} (hz : W Ieee.single z) : ∃ r, m_impl_TimeAt n (crv C T) z = some r ∧ TimeIs C T z r := by
  obtain ⟨r, e, ht⟩ := time_ok h hn hz
  refine ⟨r, ?_, ht⟩
  unfold m_impl_TimeAt
  rw [valid_ok h hn, Option.bind_some, if_pos rfl, e]; rfl
theorem time_defined {z : Nat} {r : Nat × Bool} (ht : TimeIs C T z r) (hlo : key Ieee.single (e8 (C.getD 0 0)) ≤ key Ieee.single z) : r.2 = true := by
  rcases ht with ⟨a, rfl⟩ | ⟨i, _, _, _, rfl⟩ | ⟨_, rfl⟩
  · omega
  · rfl
  · rfl
theorem at_point {i : Nat} (hi : i < C.length) {r : Nat × Bool} (ht : TimeIs C T (e8 (C.getD i 0)) r) : r.2 = true ∧ W Ieee.single r.1 ∧ key Ieee.single r.1 = key Ieee.single (e8 (T.getD i 0)) := by
  have two := h.two
  have ci := h.cs i hi
  have ti := h.ts i hi
  by_cases hl : i + 1 < C.length
  · have c1 := h.cs (i + 1) hl
    have t1 := h.ts (i + 1) hl
    have rr := h.rise i hl
    have ff := h.fall i hl
    have : TimeIs C T (e8 (C.getD i 0)) (Fs (C.getD i 0) (C.getD (i + 1) 0) (T.getD i 0) (T.getD (i + 1) 0) (e8 (C.getD i 0)), true) :=
      .inr (.inl ⟨i, hl, Int.le_refl _, (k8_lt (by omega) (by omega)).2 rr, rfl⟩)
    rw [time_one h ht this]
    obtain ⟨a, b⟩ := Fs_at (c := C.getD i 0) (c' := C.getD (i + 1) 0) (t := T.getD i 0) (t' := T.getD (i + 1) 0) (by omega) (by omega) rr (by omega) (by omega) ff
    exact ⟨rfl, a, b⟩
  · have hi' : C.length - 1 = i := by omega
    have : TimeIs C T (e8 (C.getD i 0)) (e8 (T.getD (C.length - 1) 0), true) := .inr (.inr ⟨by rw [hi']; exact Int.le_refl _, rfl⟩)
    rw [time_one h ht this]
    refine ⟨rfl, ?_, ?_⟩
    · show W Ieee.single (e8 _); rw [hi']; exact w8 (by omega)
    · show key Ieee.single (e8 _) = _; rw [hi']
end
section
variable {C T : List Int} (h : Drawn C T)
include h
theorem bnd8 {i : Nat} (hi : i < C.length) : 1 ≤ C.getD i 0 ∧ C.getD i 0 ≤ 500 ∧ 24 ≤ T.getD i 0 ∧ T.getD i 0 ≤ 500 := by
  have := h.cs i hi; have := h.small i hi; have := h.low i hi; omega
/-- At eighths, later currents have no later times. -/
theorem time_mono {X Y : Int} (h0 : C.getD 0 0 ≤ X) (hXY : X ≤ Y) (hY : Y ≤ 1000) {a b : Nat × Bool} (ha : TimeIs C T (e8 X) a) (hb : TimeIs C T (e8 Y) b) : key Ieee.single b.1 ≤ key Ieee.single a.1 := by
  have hc := h.toCurveOk
  have two := hc.two
  have b0 := bnd8 h (i := 0) (by omega)
  have lo : key Ieee.single (e8 (C.getD 0 0)) ≤ key Ieee.single (e8 X) := (k8_le (by omega) (by omega)).2 h0
  have lo' : key Ieee.single (e8 (C.getD 0 0)) ≤ key Ieee.single (e8 Y) := (k8_le (by omega) (by omega)).2 (by omega)
  have wX := w8 (z := X) (by omega)
  have wY := w8 (z := Y) (by omega)
  rcases ha with ⟨a1, rfl⟩ | ⟨i, i1, i2, i3, rfl⟩ | ⟨a1, rfl⟩
  · omega
  · have bi := bnd8 h (i := i) (by omega)
    have bi1 := bnd8 h i1
    obtain ⟨wa, ka1, ka2⟩ := Fs_in (by omega) (by omega) (hc.rise i i1) (by omega) (by omega) (hc.fall i i1) wX i2 i3
    rcases hb with ⟨b1, rfl⟩ | ⟨q, q1, q2, q3, rfl⟩ | ⟨b1, rfl⟩
    · omega
    · have bq := bnd8 h (i := q) (by omega)
      have bq1 := bnd8 h q1
      obtain ⟨wb, kb1, kb2⟩ := Fs_in (by omega) (by omega) (hc.rise q q1) (by omega) (by omega) (hc.fall q q1) wY q2 q3
      rw [k8_le (by omega) (by omega)] at i2 q2
      rw [k8_lt (by omega) (by omega)] at i3 q3
      rcases Nat.lt_trichotomy i q with h3 | h3 | h3
      · have := fall_le hc (show i + 1 ≤ q by omega) (by omega)
        have := (k8_le (a := T.getD q 0) (b := T.getD (i + 1) 0) (by omega) (by omega)).2 this
        show key Ieee.single (Fs _ _ _ _ _) ≤ key Ieee.single (Fs _ _ _ _ _)
        omega
      · subst h3
        show key Ieee.single (Fs _ _ _ _ _) ≤ key Ieee.single (Fs _ _ _ _ _)
        obtain ⟨m, j, m1, m2, j1, e1, e2⟩ := h.step i i1
        rw [Fs_pp (by omega) (by omega) (by omega) (by omega) (by omega) (by omega) q2 (by omega), Fs_pp (by omega) (by omega) (by omega) (by omega) (by omega) (by omega) i2 (by omega)]
        obtain ⟨k, hk⟩ : ∃ k : Nat, X - C.getD i 0 = (k : Int) := ⟨(X - C.getD i 0).toNat, by omega⟩
        obtain ⟨d, hd⟩ : ∃ d : Nat, Y - C.getD i 0 = ((k + d : Nat) : Int) := ⟨(Y - X).toNat, by omega⟩
        rw [hk, hd, show T.getD i 0 - T.getD (i + 1) 0 = 2 * (j : Int) by omega, show C.getD (i + 1) 0 - C.getD i 0 = 2 * (m : Int) by omega]
        have pm := pp_mono j1 m2 d k (by omega)
        have wk := (chk_facts (k := k) j1 m2 (by omega)).1
        have wkd := (chk_facts (k := k + d) j1 m2 (by omega)).1
        have f1 := (fadd_key (k := .f32) (w8 (z := T.getD i 0) (by omega)) wk).2
        have f2 := (fadd_key (k := .f32) (w8 (z := T.getD i 0) (by omega)) wkd).2
        have m3 := kz_mono Ieee.single Ieee.single.leastPlace (show vz Ieee.single (e8 (T.getD i 0)) + vz Ieee.single (PP (2 * j) ((k + d : Nat) : Int) (2 * m)) ≤ vz Ieee.single (e8 (T.getD i 0)) + vz Ieee.single (PP (2 * j) (k : Int) (2 * m)) by omega)
        have f1 : key Ieee.single _ = kz Ieee.single _ Ieee.single.leastPlace := f1
        have f2 : key Ieee.single _ = kz Ieee.single _ Ieee.single.leastPlace := f2
        rw [f1, f2]; exact m3
      · exfalso
        have := rise_lt hc (i := q + 1) (j := i + 1) (by omega) i1
        have : C.getD (q + 1) 0 ≤ C.getD i 0 := by
          rcases Nat.lt_or_eq_of_le (show q + 1 ≤ i by omega) with h4 | h4
          · exact Int.le_of_lt (rise_lt hc h4 (by omega))
          · rw [h4]; exact Int.le_refl _
        omega
    · have := fall_le hc (show i + 1 ≤ C.length - 1 by omega) (by omega)
      have bl := bnd8 h (i := C.length - 1) (by omega)
      have := (k8_le (a := T.getD (C.length - 1) 0) (b := T.getD (i + 1) 0) (by omega) (by omega)).2 this
      show key Ieee.single (e8 _) ≤ key Ieee.single (Fs _ _ _ _ _)
      omega
  · have hb' : b = (e8 (T.getD (C.length - 1) 0), true) := time_one hc hb (.inr (.inr ⟨by have := (k8_le (a := X) (b := Y) (by omega) (by omega)).2 hXY; omega, rfl⟩))
    subst hb'
    exact Int.le_refl _
/-- Twice the measures: exactly twice the time at twice the current. -/
theorem time_dbl {X : Int} (h0 : C.getD 0 0 ≤ X) (hX : X ≤ 1000) {a d : Nat × Bool} (ha : TimeIs C T (e8 X) a) (hd : TimeIs (dbl C) (dbl T) (e8 (2 * X)) d) :
    d.2 = true ∧ W Ieee.single d.1 ∧ W Ieee.single (farith .mul .f32 two32 a.1) ∧ key Ieee.single d.1 = key Ieee.single (farith .mul .f32 two32 a.1) := by
  have hc := h.toCurveOk
  have hdc := dblC_ok h
  have two := hc.two
  have b0 := bnd8 h (i := 0) (by omega)
  have bl := bnd8 h (i := C.length - 1) (by omega)
  have lo : key Ieee.single (e8 (C.getD 0 0)) ≤ key Ieee.single (e8 X) := (k8_le (by omega) (by omega)).2 h0
  have wX := w8 (z := X) (by omega)
  have ta := time_W h wX ha (time_defined hc ha lo)
  have mid := mid8 (a := key Ieee.single a.1) (by have := (k8_le (a := 1) (b := T.getD (C.length - 1) 0) (by decide) (by omega)).2 (by omega); omega) (by have := (k8_le (a := T.getD 0 0) (b := 100000) (by omega) (by decide)).2 (by omega); omega)
  obtain ⟨wm, km⟩ := two_mul ta.1 mid.1 mid.2
  rcases ha with ⟨a1, rfl⟩ | ⟨i, i1, i2, i3, rfl⟩ | ⟨a1, rfl⟩
  · omega
  · have bi := bnd8 h (i := i) (by omega)
    have bi1 := bnd8 h i1
    rw [k8_le (by omega) (by omega)] at i2
    rw [k8_lt (by omega) (by omega)] at i3
    have hd' : d = (Fs ((dbl C).getD i 0) ((dbl C).getD (i + 1) 0) ((dbl T).getD i 0) ((dbl T).getD (i + 1) 0) (e8 (2 * X)), true) :=
      time_one hdc hd (.inr (.inl ⟨i, by rw [dbl_len]; exact i1, by rw [dbl_get]; exact (k8_le (by omega) (by omega)).2 (by omega), by rw [dbl_get]; exact (k8_lt (by omega) (by omega)).2 (by omega), rfl⟩))
    subst hd'
    simp only [dbl_get]
    obtain ⟨m, j, m1, m2, j1, e1, e2⟩ := h.step i i1
    obtain ⟨k, hk⟩ : ∃ k : Nat, X - C.getD i 0 = (k : Int) := ⟨(X - C.getD i 0).toNat, by omega⟩
    obtain ⟨wk, wk2, dv, _⟩ := chk_facts (j := j) (m := m) (k := k) j1 m2 (by omega)
    have q1 : Fs (C.getD i 0) (C.getD (i + 1) 0) (T.getD i 0) (T.getD (i + 1) 0) (e8 X) = farith .add .f32 (e8 (T.getD i 0)) (PP (2 * j) k (2 * m)) := by
      rw [Fs_pp (by omega) (by omega) (by omega) (by omega) (by omega) (by omega) i2 (by omega), hk, show T.getD i 0 - T.getD (i + 1) 0 = 2 * (j : Int) by omega, show C.getD (i + 1) 0 - C.getD i 0 = 2 * (m : Int) by omega]
    have q2 : Fs (2 * C.getD i 0) (2 * C.getD (i + 1) 0) (2 * T.getD i 0) (2 * T.getD (i + 1) 0) (e8 (2 * X)) = farith .add .f32 (e8 (2 * T.getD i 0)) (PP (4 * j) (2 * k) (4 * m)) := by
      rw [Fs_pp (by omega) (by omega) (by omega) (by omega) (by omega) (by omega) (by omega) (by omega), show 2 * X - 2 * C.getD i 0 = 2 * (k : Int) by omega, show 2 * T.getD i 0 - 2 * T.getD (i + 1) 0 = 4 * (j : Int) by omega, show 2 * C.getD (i + 1) 0 - 2 * C.getD i 0 = 4 * (m : Int) by omega]
    have ta2 : W Ieee.single (Fs (C.getD i 0) (C.getD (i + 1) 0) (T.getD i 0) (T.getD (i + 1) 0) (e8 X)) := ta.1
    have f1 := (fadd_key (k := .f32) (w8 (z := T.getD i 0) (by omega)) wk).2
    obtain ⟨g1, g2⟩ := fadd_key (k := .f32) (w8 (z := 2 * T.getD i 0) (by omega)) wk2
    have f1 : key Ieee.single (farith .add .f32 (e8 (T.getD i 0)) (PP (2 * j) k (2 * m))) = kz Ieee.single (vz Ieee.single (e8 (T.getD i 0)) + vz Ieee.single (PP (2 * j) k (2 * m))) Ieee.single.leastPlace := f1
    have g2 : key Ieee.single (farith .add .f32 (e8 (2 * T.getD i 0)) (PP (4 * j) (2 * k) (4 * m))) = kz Ieee.single (vz Ieee.single (e8 (2 * T.getD i 0)) + vz Ieee.single (PP (4 * j) (2 * k) (4 * m))) Ieee.single.leastPlace := g2
    have mid1 : 2 * (Ieee.single.binade : Int) ≤ key Ieee.single (Fs (C.getD i 0) (C.getD (i + 1) 0) (T.getD i 0) (T.getD (i + 1) 0) (e8 X)) := mid.1
    have mid2 : key Ieee.single (Fs (C.getD i 0) (C.getD (i + 1) 0) (T.getD i 0) (T.getD (i + 1) 0) (e8 X)) + Ieee.single.binade < Ieee.single.infRung := mid.2
    have km : key Ieee.single (farith .mul .f32 two32 (Fs (C.getD i 0) (C.getD (i + 1) 0) (T.getD i 0) (T.getD (i + 1) 0) (e8 X))) = key Ieee.single (Fs (C.getD i 0) (C.getD (i + 1) 0) (T.getD i 0) (T.getD (i + 1) 0) (e8 X)) + Ieee.single.binade := km
    rw [q1] at mid1 mid2 km ta2
    have sum2 : vz Ieee.single (e8 (2 * T.getD i 0)) + vz Ieee.single (PP (4 * j) (2 * k) (4 * m)) = 2 * (vz Ieee.single (e8 (T.getD i 0)) + vz Ieee.single (PP (2 * j) k (2 * m))) := by
      rw [dv, v8 (by omega), v8 (by omega), Int.mul_add, Int.mul_assoc]
    have pos : 0 ≤ vz Ieee.single (e8 (T.getD i 0)) + vz Ieee.single (PP (2 * j) k (2 * m)) := by
      rcases Int.lt_or_le (vz Ieee.single (e8 (T.getD i 0)) + vz Ieee.single (PP (2 * j) k (2 * m))) 0 with hn | hn
      · exfalso
        have hm := kz_mono Ieee.single Ieee.single.leastPlace (Int.le_of_lt hn)
        have z0 : kz Ieee.single 0 Ieee.single.leastPlace = 0 := by unfold kz; rw [if_neg (by omega), show (0 : Int).natAbs = 0 from rfl, rung_zero]; rfl
        have : (0 : Int) < Ieee.single.binade := by decide
        omega
      · exact hn
    have kd : key Ieee.single (farith .add .f32 (e8 (2 * T.getD i 0)) (PP (4 * j) (2 * k) (4 * m))) = key Ieee.single (farith .add .f32 (e8 (T.getD i 0)) (PP (2 * j) k (2 * m))) + Ieee.single.binade := by
      rw [g2, sum2]
      exact kz_double pos f1.symm mid1 mid2
    refine ⟨trivial, ?_, wm, ?_⟩
    · show W Ieee.single (Fs _ _ _ _ _)
      rw [q2]
      have : (0 : Int) < Ieee.single.binade := by decide
      exact ⟨g1, fin_of_key (by rw [kd]; exact mid2) (by rw [kd]; omega)⟩
    · show key Ieee.single (Fs _ _ _ _ _) = key Ieee.single (farith .mul .f32 two32 (Fs _ _ _ _ _))
      rw [q2, q1, km, kd]
  · have hd' : d = (e8 ((dbl T).getD (C.length - 1) 0), true) := time_one hdc hd (.inr (.inr ⟨by rw [dbl_len, dbl_get]; rw [k8_le (by omega) (by omega)] at a1 ⊢; omega, by rw [dbl_len]⟩))
    subst hd'
    rw [dbl_get]
    refine ⟨rfl, w8 (by omega), wm, ?_⟩
    show key Ieee.single (e8 _) = key Ieee.single (farith .mul .f32 two32 (e8 _))
    have e1 := mul8two (z := T.getD (C.length - 1) 0) (by omega) (by omega)
    have wl := w8 (z := T.getD (C.length - 1) 0) (by omega)
    have f1 := (fmul_key (k := .f32) wl w2.1).2
    have f2 := (fmul_key (k := .f32) w2.1 wl).2
    rw [e1] at f1
    rw [Int.mul_comm] at f2
    exact f1.trans f2.symm
end
end Go.Proofs.Ytolggocnbakokaa.AWN

namespace Go.Proofs.Ytolggocnbakokaa.AWN
open Go
theorem scaled_l1 (n : Nat) (L : List Int) (hL : L.length ≤ 16) (hb : ∀ i, i < L.length → 1 ≤ L.getD i 0 ∧ L.getD i 0 ≤ 500) : ∀ (m i : Nat), i ≤ L.length → L.length - i < m →
    m_impl_scaled_l1 n (L.map e8) two32 m (((dbl L).take i).map e8) (i : Int) = some ((dbl L).map e8)
  | 0, i, _, h => by omega
  | m + 1, i, hi, hm => by
    unfold m_impl_scaled_l1
    rw [List.length_map]
    by_cases h : i < L.length
    · have b := hb i h
      have hl : (dbl L).length = L.length := dbl_len L
      rw [if_pos (by omega), getI8 h, Option.bind_some]
      unfold grd
      rw [if_pos (by unfold room; rw [List.length_map, List.length_take]; omega), mul8two (by omega) (by omega), show w64 ((i : Int) + 1) = ((i + 1 : Nat) : Int) by rw [w64_id (by omega) (by omega)]; omega]
      have e : (((dbl L).take i).map e8) ++ [e8 (2 * L.getD i 0)] = ((dbl L).take (i + 1)).map e8 := by
        rw [List.take_succ_eq_append_getElem (by omega), List.map_append]
        congr 1
        show _ = [e8 ((dbl L)[i])]
        rw [← dbl_get]
        rw [List.getD_eq_getElem?_getD, List.getElem?_eq_getElem (by omega)]; rfl
      rw [e]
      exact scaled_l1 n L hL hb m (i + 1) (by omega) (by omega)
    · rw [if_neg (by omega), List.take_of_length_le (by rw [dbl_len]; omega)]
section
variable {C T : List Int} (h : Drawn C T)
include h
theorem scaled_ok {n : Nat} (hn : 20 ≤ n) : m_impl_ScaleCurve n (crv C T) 1073741824 1073741824 = some (crv (dbl C) (dbl T), true) := by
  have hc := h.toCurveOk
  have h16 := hc.most
  have e1 := scaled_l1 n C h16 (fun i hi => by have := bnd8 h hi; omega) n 0 (Nat.zero_le _) (by omega)
  have e2 := scaled_l1 n T (by rw [hc.same]; exact h16) (fun i hi => by have := bnd8 h (i := i) (by rw [← hc.same]; exact hi); omega) n 0 (Nat.zero_le _) (by rw [hc.same]; omega)
  have e1 : m_impl_scaled n (crv C T).Currents 1073741824 = some ((dbl C).map e8) := e1
  have e2 : m_impl_scaled n (crv C T).Times 1073741824 = some ((dbl T).map e8) := e2
  unfold m_impl_ScaleCurve
  rw [e1, Option.bind_some, e2, Option.bind_some]
  unfold m_impl_ScaleCurve_j1
  have v2 : m_impl_ValidCurve n ⟨(dbl C).map e8, (dbl T).map e8⟩ = some true := valid_ok (dblC_ok h) hn
  rw [valid_ok hc hn, Option.bind_some, if_pos rfl, v2, Option.bind_some]
  unfold m_impl_ScaleCurve_j3 m_impl_ScaleCurve_j2
  rw [if_neg (by decide)]; rfl
end
theorem neq_selfc {k : FloatKind} {a : Nat} : fcmp .neq k a a = isnan k a := by
  have h := eql_self k a
  have e : fcmp .neq k a a = !(fcmp .eql k a a) := rfl
  rw [e, h, Bool.not_not]
theorem sameNum (n : Nat) {x : Nat} (hx : W Ieee.single x) : m_impl_SameNumber n x x = some true := by
  have hn : isnan .f32 x = false := W.not_nan (k := .f32) hx
  unfold m_impl_SameNumber m_impl_isNaN
  rw [neq_selfc, hn, Option.bind_some, if_neg (by decide), Option.bind_some]
  unfold m_impl_SameNumber_j2 m_impl_SameNumber_j1 grd
  rw [if_neg (by decide), if_pos hn, if_pos hn, decide_eq_true rfl]
theorem eqf_l1 (n : Nat) (L : List Int) (hL : L.length ≤ 16) (hb : ∀ i, i < L.length → 1 ≤ L.getD i 0 ∧ L.getD i 0 ≤ 500) : ∀ (m i : Nat), i ≤ L.length → L.length - i < m → m_slices_EqualFunc_l1 n (L.map e8) (L.map e8) m (i : Int) = some true
  | 0, i, _, h => by omega
  | m + 1, i, hi, hm => by
    unfold m_slices_EqualFunc_l1
    rw [List.length_map]
    by_cases h : i < L.length
    · have b := hb i h
      rw [if_pos (by omega), getI8 h, Option.bind_some, Option.bind_some, sameNum n (w8 (by omega)), Option.bind_some, if_pos rfl, show w64 ((i : Int) + 1) = ((i + 1 : Nat) : Int) by rw [w64_id (by omega) (by omega)]; omega]
      exact eqf_l1 n L hL hb m (i + 1) (by omega) (by omega)
    · rw [if_neg (by omega)]
theorem same_ok {C T : List Int} (h : Drawn C T) {n : Nat} (hn : 20 ≤ n) : m_impl_SameCurve n (crv C T) (crv C T) = some true := by
  have hc := h.toCurveOk
  have h16 := hc.most
  have e1 := eqf_l1 n C h16 (fun i hi => by have := bnd8 h hi; omega) n 0 (Nat.zero_le _) (by omega)
  have e2 := eqf_l1 n T (by rw [hc.same]; exact h16) (fun i hi => by have := bnd8 h (i := i) (by rw [← hc.same]; exact hi); omega) n 0 (Nat.zero_le _) (by rw [hc.same]; omega)
  have s1 : m_impl_sameList n (crv C T).Currents (crv C T).Currents = some true := by
    unfold m_impl_sameList m_slices_EqualFunc
    rw [if_pos rfl]
    have e1 : m_slices_EqualFunc_l1 n (crv C T).Currents (crv C T).Currents n 0 = some true := e1
    rw [e1]; rfl
  have s2 : m_impl_sameList n (crv C T).Times (crv C T).Times = some true := by
    unfold m_impl_sameList m_slices_EqualFunc
    rw [if_pos rfl]
    have e2 : m_slices_EqualFunc_l1 n (crv C T).Times (crv C T).Times n 0 = some true := e2
    rw [e2]; rfl
  unfold m_impl_SameCurve
  rw [s1, Option.bind_some, if_pos rfl, s2]; rfl

/-! ### Grades -/
/-- The current of a step. -/
def stepZ (x y : Nat) (v : Int) : Nat := farith .add .f32 x (farith .mul .f32 (farith .sub .f32 y x) (farith .quo .f32 (FloatKind.nearest .f32 v) (FloatKind.nearest .f32 5)))
def shr (v : Nat) : Nat := farith .quo .f32 (FloatKind.nearest .f32 (v : Int)) (FloatKind.nearest .f32 5)
theorem shr_all : ((List.range 6).all fun v => wB (shr v) && decide (0 ≤ vz Ieee.single (shr v)) && decide (vz Ieee.single (shr v) ≤ (P149 : Nat))) = true := by kernel_rfl
theorem stepZ_W {X Y : Int} (h0 : 0 ≤ X) (h1 : X ≤ Y) (h2 : Y ≤ 1000) {v : Nat} (hv : v < 6) : W Ieee.single (stepZ (e8 X) (e8 Y) (v : Int)) := by
  have h := List.all_eq_true.1 shr_all v (List.mem_range.2 hv)
  simp only [Bool.and_eq_true, decide_eq_true_eq] at h
  have ws := wB_W h.1.1
  have hp := p146
  unfold stepZ
  rw [sub8 (by omega) (by omega)]
  show W Ieee.single (farith .add .f32 (e8 X) (farith .mul .f32 (e8 (Y - X)) (shr v)))
  have wd := w8 (z := Y - X) (by omega)
  have gd : 0 ≤ vz Ieee.single (e8 (Y - X)) := by rw [v8 (by omega)]; exact Int.mul_nonneg (by omega) (by omega)
  obtain ⟨wp, p1, p2⟩ := fmul_in (k := .f32) wd ws w0 wd (by show vz Ieee.single 0 * _ ≤ _; rw [vz0, Int.zero_mul]; exact Int.mul_nonneg gd h.1.2) (by show vz Ieee.single (e8 (Y - X)) * vz Ieee.single (shr v) ≤ vz Ieee.single (e8 (Y - X)) * (P149 : Nat); exact Int.mul_le_mul_of_nonneg_left h.2 gd)
  have p1 := (W.vz_le sgK w0 wp).1 p1
  have p2 := (W.vz_le sgK wp wd).1 p2
  rw [vz0] at p1
  have vd : vz Ieee.single (e8 (Y - X)) = vz Ieee.single (e8 Y) - vz Ieee.single (e8 X) := by rw [v8 (by omega), v8 (by omega), v8 (by omega), Int.sub_mul]
  exact (fadd_in (k := .f32) (w8 (z := X) (by omega)) wp (w8 (z := X) (by omega)) (w8 (z := Y) (by omega)) (by show vz Ieee.single (e8 X) ≤ vz Ieee.single (e8 X) + vz Ieee.single (farith .mul .f32 (e8 (Y - X)) (shr v)); omega) (by show vz Ieee.single (e8 X) + vz Ieee.single (farith .mul .f32 (e8 (Y - X)) (shr v)) ≤ vz Ieee.single (e8 Y); omega)).1
section
variable {C T : List Int} (h : Drawn C T)
include h
theorem margins {n : Nat} (hn : 20 ≤ n) {z : Nat} (hz : W Ieee.single z) : ∃ (r s : Nat × Bool), m_impl_margin n (crv C T) (crv (dbl C) (dbl T)) z = some ((if r.2 && s.2 then (farith .sub .f32 s.1 r.1, true) else (0, false))) ∧
    (∃ w, m_spec_l07Margin n (crv C T) (crv (dbl C) (dbl T)) z = some (w, r.2 && s.2)) ∧ (r.2 = true → s.2 = true → W Ieee.single (farith .sub .f32 s.1 r.1) ∧ 0 ≤ key Ieee.single (farith .sub .f32 s.1 r.1)) := by
  have hc := h.toCurveOk
  have hd := dblC_ok h
  obtain ⟨r, e1, t1⟩ := time_ok hc hn hz
  obtain ⟨s, e2, t2⟩ := time_ok hd hn hz
  obtain ⟨r', e1', t1'⟩ := stime_ok hc hn hz
  obtain ⟨s', e2', t2'⟩ := stime_ok hd hn hz
  have hr := time_one hc t1' t1
  have hs := time_one hd t2' t2
  subst hr; subst hs
  refine ⟨r', s', ?_, ?_, fun a b => dbl_later h hz t1 t2 a b⟩
  · unfold m_impl_margin
    rw [e1, Option.bind_some, e2, Option.bind_some]
    unfold m_impl_margin_j2 m_impl_margin_j1
    cases r'.2 <;> cases s'.2 <;> rfl
  · unfold m_spec_l07Margin
    rw [e1', Option.bind_some, e2', Option.bind_some]
    cases r'.2
    · exact ⟨_, rfl⟩
    · exact ⟨_, rfl⟩
theorem grades {n : Nat} (hn : 20 ≤ n) {X Y : Int} (h0 : 0 ≤ X) (h1 : X ≤ Y) (h2 : Y ≤ 1000) : ∀ (m v : Nat) (L L' : Nat) (F : Bool), v ≤ 6 → 6 - v < m → (F = true → W Ieee.single L ∧ 0 ≤ key Ieee.single L) →
    ∃ M M' G, m_impl_grade_l1 n (crv C T) (crv (dbl C) (dbl T)) (e8 X) (e8 Y) 5 m L F (v : Int) = some (M, G) ∧ m_spec_l07Grade_l1 n (crv C T) (crv (dbl C) (dbl T)) (e8 X) (e8 Y) 5 m L' F (v : Int) = some (M', G) ∧ (G = true → W Ieee.single M ∧ 0 ≤ key Ieee.single M)
  | 0, v, L, L', F, hv, hm, hF => by omega
  | m + 1, v, L, L', F, hv, hm, hF => by
    have w6 : w64 ((5 : Int) + 1) = 6 := by decide
    unfold m_impl_grade_l1 m_spec_l07Grade_l1
    rw [w6]
    by_cases hlt : v < 6
    · have hw : w64 ((v : Int) + 1) = ((v + 1 : Nat) : Int) := by rw [w64_id (by omega) (by omega)]; omega
      obtain ⟨r, s, e1, ⟨w, e2⟩, hk⟩ := margins h hn (stepZ_W h0 h1 h2 hlt)
      unfold stepZ at e1 e2
      rw [if_pos (by omega), if_pos (by omega), e1, e2, Option.bind_some, Option.bind_some]
      unfold m_impl_grade_j3 m_impl_grade_j2 m_spec_l07Grade_j3 m_spec_l07Grade_j2
      rw [hw]
      cases hb : r.2 && s.2 with
      | false =>
        simp only [Bool.false_eq_true, if_false]
        exact grades hn h0 h1 h2 m (v + 1) L L' F (by omega) (by omega) hF
      | true =>
        rw [Bool.and_eq_true] at hb
        obtain ⟨kw, kk⟩ := hk hb.1 hb.2
        simp only [if_true]
        cases hFF : F with
        | false =>
          simp only [Bool.false_eq_true, if_false, if_true]
          exact grades hn h0 h1 h2 m (v + 1) _ _ true (by omega) (by omega) (fun _ => ⟨kw, kk⟩)
        | true =>
          simp only [if_true]
          obtain ⟨q1, q2⟩ := hF hFF
          -- either way there is one, and it is not negative
          by_cases c1 : fcmp .lss .f32 (farith .sub .f32 s.1 r.1) L = true <;> by_cases c2 : fcmp .lss .f32 w L' = true
          · rw [if_pos c1, if_pos c2]; exact grades hn h0 h1 h2 m (v + 1) _ _ true (by omega) (by omega) (fun _ => ⟨kw, kk⟩)
          · rw [if_pos c1, if_neg c2]; exact grades hn h0 h1 h2 m (v + 1) _ _ true (by omega) (by omega) (fun _ => ⟨kw, kk⟩)
          · rw [if_neg c1, if_pos c2]; exact grades hn h0 h1 h2 m (v + 1) _ _ true (by omega) (by omega) (fun _ => ⟨q1, q2⟩)
          · rw [if_neg c1, if_neg c2]; exact grades hn h0 h1 h2 m (v + 1) _ _ true (by omega) (by omega) (fun _ => ⟨q1, q2⟩)
    · rw [if_neg (by omega), if_neg (by omega)]
      exact ⟨L, L', F, rfl, rfl, hF⟩
theorem grade_ok {n : Nat} (hn : 20 ≤ n) {X Y : Int} (h0 : 0 ≤ X) (h1 : X ≤ Y) (h2 : Y ≤ 1000) : ∃ M M' G, m_impl_GradeOf n (crv C T) (crv (dbl C) (dbl T)) (e8 X) (e8 Y) 5 = some (M, G) ∧ m_spec_GradeOf n (crv C T) (crv (dbl C) (dbl T)) (e8 X) (e8 Y) 5 = some (M', G) ∧ (G = true → W Ieee.single M ∧ 0 ≤ key Ieee.single M) := by
  obtain ⟨M, M', G, e1, e2, hG⟩ := grades h hn h0 h1 h2 n 0 0 0 false (by omega) (by omega) (fun hh => nomatch hh)
  have e1 : m_impl_grade n (crv C T) (crv (dbl C) (dbl T)) (e8 X) (e8 Y) 5 = some (M, G) := e1
  have e2 : m_spec_l07Grade n (crv C T) (crv (dbl C) (dbl T)) (e8 X) (e8 Y) 5 = some (M', G) := e2
  refine ⟨M, if G then M' else 0, G, ?_, ?_, hG⟩
  · unfold m_impl_GradeOf m_impl_in
    rw [valid_ok h.toCurveOk hn, Option.bind_some, if_pos rfl, valid_ok (dblC_ok h) hn, Option.bind_some, if_pos rfl, if_pos (by decide), Option.bind_some]
    unfold m_impl_GradeOf_j2 m_impl_GradeOf_j1
    rw [if_neg (by decide), e1]; rfl
  · unfold m_spec_GradeOf m_spec_l00In
    rw [is_ok h.toCurveOk hn, Option.bind_some, if_pos rfl, is_ok (dblC_ok h) hn, Option.bind_some, if_pos rfl, if_pos (by decide), Option.bind_some]
    unfold m_spec_GradeOf_j2 m_spec_GradeOf_j1
    rw [if_neg (by decide), e2, Option.bind_some]
    cases G <;> rfl
end
theorem b10At_some (n : Nat) {l : List Int} (hl : ∀ x ∈ l, 0 ≤ x ∧ x < 256) {i k : Int} (hi : 0 ≤ i) (hi2 : i ≤ 1000000) (hk : 1 ≤ k) (hk2 : k ≤ 100000) : ∃ v, m_laws_b10At n l i k = some v ∧ 0 ≤ v ∧ v < k := by
  unfold m_laws_b10At
  by_cases h1 : k ≤ 1
  · rw [if_pos h1]; exact ⟨0, rfl, by omega, by omega⟩
  · rw [if_neg h1]
    unfold grd
    have hne : k ≠ 0 := by omega
    by_cases h2 : i < (l.length : Int)
    · obtain ⟨x, e, hm, _⟩ := getI_of hi h2
      have b := hl x hm
      rw [if_pos h2, e, Option.bind_some, if_pos hne, w64_id (by omega) (by omega), Int.tmod_eq_emod_of_nonneg b.1]
      exact ⟨_, rfl, Int.emod_nonneg _ hne, Int.emod_lt_of_pos _ (by omega)⟩
    · rw [if_neg h2, if_pos hne, w64_id (n := i * 37) (by omega) (by omega), w64_id (by omega) (by omega), Int.tmod_eq_emod_of_nonneg (by omega)]
      exact ⟨_, rfl, Int.emod_nonneg _ hne, Int.emod_lt_of_pos _ (by omega)⟩
theorem half_all : ((List.range 9).all fun a => farith .quo .f32 (e8 (2 * (a : Int))) 1073741824 == e8 (a : Int)) = true := by kernel_rfl
def milli : Nat := 981668463
theorem milli_W : W Ieee.single milli ∧ 0 ≤ vz Ieee.single milli := ⟨wB_W (by kernel_rfl), of_decide_eq_true (by kernel_rfl)⟩
theorem minus_W : W Ieee.single 3129152111 ∧ key Ieee.single 3129152111 < 0 := ⟨wB_W (by kernel_rfl), of_decide_eq_true (by kernel_rfl)⟩
/-- A thousandth more, or less, than a time. -/
theorem milli_more {a : Nat} (ha : W Ieee.single a) (h0 : 0 ≤ key Ieee.single a) (h1 : key Ieee.single a ≤ key Ieee.single (e8 500)) : W Ieee.single (farith .add .f32 a milli) ∧ key Ieee.single a ≤ key Ieee.single (farith .add .f32 a milli) := by
  have w5 := w8 (z := 500) (by decide)
  have w6 := w8 (z := 600) (by decide)
  have v1 := (W.vz_le sgK ha w5).1 h1
  have hm : vz Ieee.single milli ≤ vz Ieee.single (e8 100) := of_decide_eq_true (by kernel_rfl)
  have e : vz Ieee.single (e8 600) = vz Ieee.single (e8 500) + vz Ieee.single (e8 100) := by kernel_rfl
  obtain ⟨x, y, _⟩ := fadd_in (k := .f32) ha milli_W.1 ha w6 (by show vz Ieee.single a ≤ vz Ieee.single a + vz Ieee.single milli; have := milli_W.2; omega) (by show vz Ieee.single a + vz Ieee.single milli ≤ vz Ieee.single (e8 600); omega)
  exact ⟨x, y⟩
theorem milli_less {a : Nat} (ha : W Ieee.single a) (h0 : 0 ≤ key Ieee.single a) : W Ieee.single (farith .sub .f32 a milli) ∧ key Ieee.single (farith .sub .f32 a milli) ≤ key Ieee.single a := by
  have w6 := w8 (z := -600) (by decide)
  have v0 := (W.vz_zero sgK ha)
  have hm : vz Ieee.single milli ≤ vz Ieee.single (e8 100) := of_decide_eq_true (by kernel_rfl)
  have e : vz Ieee.single (e8 (-600)) + vz Ieee.single (e8 100) ≤ 0 := of_decide_eq_true (by kernel_rfl)
  obtain ⟨x, _, y⟩ := fsub_in (k := .f32) ha milli_W.1 w6 ha (by show vz Ieee.single (e8 (-600)) ≤ vz Ieee.single a - vz Ieee.single milli; omega) (by show vz Ieee.single a - vz Ieee.single milli ≤ vz Ieee.single a; have := milli_W.2; omega)
  exact ⟨x, y⟩
section
variable {C T : List Int} (h : Drawn C T)
include h
theorem law_j1 {n : Nat} (hn : 20 ≤ n) {c2 : List Int} (h2 : ∀ x ∈ c2, 0 ≤ x ∧ x < 256) : m_laws_FnCurves_j1 n c2 (crv C T) = some true := by
  have hc := h.toCurveOk
  have hd := dblC_ok h
  have two := hc.two
  have h16 := hc.most
  have hlen : ((crv C T).Currents.length : Int) = (C.length : Int) := by show ((C.map e8).length : Int) = _; rw [List.length_map]
  have b0 := bnd8 h (i := 0) (by omega)
  have bl := bnd8 h (i := C.length - 1) (by omega)
  obtain ⟨a1, a11, a18, hC0⟩ := h.first
  obtain ⟨v, ev, v0, v64⟩ := b10At_some n h2 (i := 0) (k := 64) (by omega) (by omega) (by omega) (by omega)
  obtain ⟨u, eu, u0, u64⟩ := b10At_some n h2 (i := 1) (k := 64) (by omega) (by omega) (by omega) (by omega)
  obtain ⟨v', rfl, v8', qv⟩ := of_all q_eig v0 v64
  obtain ⟨u', rfl, u8', qu⟩ := of_all q_eig u0 u64
  have qv := eq_of_beq qv
  have qu := eq_of_beq qu
  unfold m_laws_FnCurves_j1
  have g0 : getI (crv C T).Currents 0 = some (e8 (C.getD 0 0)) := getI8 (i := 0) (by omega)
  rw [g0, Option.bind_some, ev, Option.bind_some, eu, Option.bind_some, qv, qu, add8 (by omega) (by omega), add8 (by omega) (by omega)]
  obtain ⟨X, hX⟩ : ∃ X, X = C.getD 0 0 + (v' : Int) := ⟨_, rfl⟩
  obtain ⟨Y, hY⟩ : ∃ Y, Y = C.getD 0 0 + (v' : Int) + (u' : Int) := ⟨_, rfl⟩
  rw [← hY, ← hX]
  have C18 : C.getD 0 0 ≤ 16 := by omega
  have wX := w8 (z := X) (by omega)
  have wY := w8 (z := Y) (by omega)
  obtain ⟨a, ea, ta⟩ := timeAt_ok hc hn wX
  obtain ⟨b, eb, tb⟩ := timeAt_ok hc hn wY
  obtain ⟨d, ed, td⟩ := timeAt_ok hd hn (w8 (z := 2 * X) (by omega))
  have e2x : farith .mul .f32 1073741824 (e8 X) = e8 (2 * X) := by
    have e := mul8two (z := X) (by omega) (by omega)
    have f1 := fmul_key (k := .f32) wX w2.1
    have f2 := fmul_key (k := .f32) w2.1 wX
    have wz := w8 (z := 2 * X) (by omega)
    rw [e] at f1
    rw [Int.mul_comm] at f2
    have hk : key Ieee.single (farith .mul .f32 two32 (e8 X)) = key Ieee.single (e8 (2 * X)) := f2.2.trans f1.2.symm
    refine word_of_key f2.1 wz.lt hk fun hk0 => ?_
    have hk0 : key Ieee.single (e8 (2 * X)) = 0 := hk0
    have := (key_ne (a := 2 * X) (by omega)).1.2 (by omega)
    omega
  have ehalf : farith .quo .f32 (e8 (C.getD 0 0)) 1073741824 = e8 (a1 : Int) := by
    rw [hC0]; exact eq_of_beq (List.all_eq_true.1 half_all a1 (List.mem_range.2 (by omega)))
  have wa1 := w8 (z := (a1 : Int)) (by omega)
  obtain ⟨q, eq, tq⟩ := timeAt_ok hc hn wa1
  have q0 : q = (0, false) := time_one hc tq (.inl ⟨(k8_lt (by omega) (by omega)).2 (by omega), rfl⟩)
  subst q0
  have lo : key Ieee.single (e8 (C.getD 0 0)) ≤ key Ieee.single (e8 X) := (k8_le (by omega) (by omega)).2 (by omega)
  have lo' : key Ieee.single (e8 (C.getD 0 0)) ≤ key Ieee.single (e8 Y) := (k8_le (by omega) (by omega)).2 (by omega)
  have a2 := time_defined hc ta lo
  have b2 := time_defined hc tb lo'
  have aw := time_W h wX ta a2
  have bw := time_W h wY tb b2
  obtain ⟨d2, dw, mw, dk⟩ := time_dbl h (by omega) (by omega) ta td
  have hba := time_mono h (by omega) (show X ≤ Y by omega) (by omega) ta tb
  obtain ⟨M, M', G, eg1, eg2, hG⟩ := grade_ok h hn (show 0 ≤ X by omega) (show X ≤ Y by omega) (by omega)
  have em : m_impl_MarginAt n (crv C T) (crv C T) (e8 X) = some (0, true) := by
    obtain ⟨r, er, tr⟩ := time_ok hc hn wX
    have hr := time_one hc tr ta
    subst hr
    unfold m_impl_MarginAt
    rw [valid_ok hc hn, Option.bind_some, if_pos rfl, Option.bind_some]
    unfold m_impl_MarginAt_j2 m_impl_MarginAt_j1 m_impl_margin
    rw [if_neg (by decide), er, Option.bind_some, Option.bind_some, a2, if_pos rfl]
    unfold m_impl_margin_j2 m_impl_margin_j1
    rw [if_neg (by decide), sub_self0 aw.1]; rfl
  have es := scaled_ok h hn
  have hv := valid_ok hc hn
  have hs := same_ok h hn
  have ea : m_impl_TimeAt n ⟨(crv C T).Currents, (crv C T).Times⟩ (e8 X) = some a := ea
  have eb : m_impl_TimeAt n ⟨(crv C T).Currents, (crv C T).Times⟩ (e8 Y) = some b := eb
  have eq : m_impl_TimeAt n ⟨(crv C T).Currents, (crv C T).Times⟩ (e8 (a1 : Int)) = some (0, false) := eq
  have es : m_impl_ScaleCurve n ⟨(crv C T).Currents, (crv C T).Times⟩ 1073741824 1073741824 = some (crv (dbl C) (dbl T), true) := es
  have ed : m_impl_TimeAt n ⟨(crv (dbl C) (dbl T)).Currents, (crv (dbl C) (dbl T)).Times⟩ (e8 (2 * X)) = some d := ed
  have em : m_impl_MarginAt n ⟨(crv C T).Currents, (crv C T).Times⟩ ⟨(crv C T).Currents, (crv C T).Times⟩ (e8 X) = some (0, true) := em
  have eg1 : m_impl_GradeOf n ⟨(crv C T).Currents, (crv C T).Times⟩ ⟨(crv (dbl C) (dbl T)).Currents, (crv (dbl C) (dbl T)).Times⟩ (e8 X) (e8 Y) 5 = some (M, G) := eg1
  have eg2 : m_spec_GradeOf n ⟨(crv C T).Currents, (crv C T).Times⟩ ⟨(crv (dbl C) (dbl T)).Currents, (crv (dbl C) (dbl T)).Times⟩ (e8 X) (e8 Y) 5 = some (M', G) := eg2
  have hv : m_impl_ValidCurve n ⟨(crv C T).Currents, (crv C T).Times⟩ = some true := hv
  have hs : m_impl_SameCurve n ⟨(crv C T).Currents, (crv C T).Times⟩ ⟨(crv C T).Currents, (crv C T).Times⟩ = some true := hs
  rw [ea, Option.bind_some, eb, Option.bind_some, es, Option.bind_some]
  dsimp only
  rw [e2x, ed, Option.bind_some, ehalf, eq, Option.bind_some, em, Option.bind_some, eg1, Option.bind_some, eg2, Option.bind_some]
  dsimp only
  have hend : m_laws_FnCurves_j3 n (crv C T) a b (crv (dbl C) (dbl T), true) d (0, false) (0, true) false = some true := by
    have hw : w64 ((C.length : Int) - 1) = ((C.length - 1 : Nat) : Int) := by rw [w64_id (by omega) (by omega)]; omega
    have t0 : getI (crv C T).Times 0 = some (e8 (T.getD 0 0)) := getI8 (i := 0) (by rw [hc.same]; omega)
    have tl : getI (crv C T).Times ((C.length - 1 : Nat) : Int) = some (e8 (T.getD (C.length - 1) 0)) := getI8 (by rw [hc.same]; omega)
    have z0 : fcmp .eql .f32 0 0 = true := by decide
    have pos : 0 < key Ieee.single (e8 (T.getD (C.length - 1) 0)) := (key_ne (by omega)).1.2 (by omega)
    have top : key Ieee.single (e8 (T.getD 0 0)) ≤ key Ieee.single (e8 500) := (k8_le (by omega) (by decide)).2 (by omega)
    have m1 := milli_more aw.1 (by omega) (by omega)
    have w00 := w8 (z := T.getD 0 0) (by omega)
    have wll := w8 (z := T.getD (C.length - 1) 0) (by omega)
    have pos0 : 0 < key Ieee.single (e8 (T.getD 0 0)) := (key_ne (by omega)).1.2 (by omega)
    have m2 := milli_more w00 (by omega) top
    have m3 := milli_less wll (by omega)
    have c1 : fcmp .leq .f32 b.1 (farith .add .f32 a.1 981668463) = true := (leq_s bw.1 m1.1).trans (decide_eq_true (by have := m1.2; omega))
    have c2 : fcmp .leq .f32 a.1 (farith .add .f32 (e8 (T.getD 0 0)) 981668463) = true := (leq_s aw.1 m2.1).trans (decide_eq_true (by have := m2.2; omega))
    have c3 : fcmp .geq .f32 b.1 (farith .sub .f32 (e8 (T.getD (C.length - 1) 0)) 981668463) = true := (geq_s bw.1 m3.1).trans (decide_eq_true (by have := m3.2; omega))
    have c4 : fcmp .eql .f32 d.1 (farith .mul .f32 1073741824 a.1) = true := by
      exact (eql_s dw mw).trans (decide_eq_true dk)
    unfold m_laws_FnCurves_j3 m_laws_FnCurves_j2
    rw [if_neg (by decide), a2, if_pos rfl, b2, if_pos rfl, if_pos rfl, d2, if_pos rfl, if_neg (by decide), if_pos rfl, z0, if_pos rfl, hv, Option.bind_some, if_pos rfl, hs, Option.bind_some, if_pos rfl, c1, if_pos rfl, t0, Option.bind_some, c2, if_pos rfl, hlen, hw, tl, Option.bind_some, c3, if_pos rfl, c4]
  rw [beq_self_eq_true, if_pos rfl]
  cases hGG : G with
  | false => rw [if_neg (by decide)]; exact hend
  | true =>
    obtain ⟨g1, g2⟩ := hG hGG
    have : fcmp .lss .f32 M 3129152111 = false := by
      rw [lss_s g1 minus_W.1]; exact decide_eq_false (by have := minus_W.2; omega)
    rw [if_pos rfl, this]; exact hend
theorem law_l4 {n : Nat} (hn : 20 ≤ n) {c2 : List Int} (h2 : ∀ x ∈ c2, 0 ≤ x ∧ x < 256) : ∀ (m i : Nat), i ≤ C.length → C.length - i < m → m_laws_FnCurves_l4 n c2 (crv C T) m (i : Int) = some true
  | 0, i, _, hm => by omega
  | m + 1, i, hi, hm => by
    have hc := h.toCurveOk
    have h16 := hc.most
    have hlen : ((crv C T).Currents.length : Int) = (C.length : Int) := by show ((C.map e8).length : Int) = _; rw [List.length_map]
    unfold m_laws_FnCurves_l4
    rw [hlen]
    by_cases hlt : i < C.length
    · have bi := bnd8 h hlt
      have e1 : getI (crv C T).Currents (i : Int) = some (e8 (C.getD i 0)) := getI8 hlt
      have e2 : getI (crv C T).Times (i : Int) = some (e8 (T.getD i 0)) := getI8 (by rw [hc.same]; exact hlt)
      obtain ⟨r, er, tr⟩ := timeAt_ok hc hn (w8 (z := C.getD i 0) (by omega))
      obtain ⟨p1, p2, p3⟩ := at_point hc hlt tr
      have er : m_impl_TimeAt n ⟨(crv C T).Currents, (crv C T).Times⟩ (e8 (C.getD i 0)) = some r := er
      rw [if_pos (by omega), e1, Option.bind_some, er, Option.bind_some, p1, if_pos rfl, e2, Option.bind_some, neq_s p2 (w8 (by omega)), decide_eq_true p3]
      unfold m_laws_FnCurves_j6 m_laws_FnCurves_j5
      rw [if_neg (by decide), show w64 ((i : Int) + 1) = ((i + 1 : Nat) : Int) by rw [w64_id (by omega) (by omega)]; omega]
      exact law_l4 hn h2 m (i + 1) (by omega) (by omega)
    · rw [if_neg (by omega)]
      exact law_j1 h hn h2
end
theorem FnCurves_true {c1 c2 : List Int} (h1 : ∀ x ∈ c1, 0 ≤ x ∧ x < 256) (h2 : ∀ x ∈ c2, 0 ≤ x ∧ x < 256) : m_laws_FnCurves 100 c1 c2 = some true := by
  obtain ⟨b, e⟩ : ∃ b, m_laws_b10Long 100 c1 c2 = some b := by
    unfold m_laws_b10Long
    split
    · exact ⟨_, rfl⟩
    · exact ⟨_, rfl⟩
  unfold m_laws_FnCurves
  rw [e, Option.bind_some]
  cases b with
  | true => rfl
  | false =>
    rw [if_neg (by decide)]
    have hs : Src ⟨c1, 0, 0⟩ 0 := ⟨by show (0 : Int) ≤ 0; omega, by show (0 : Int) ≤ 0; omega, h1⟩
    obtain ⟨C, T, s', ed, hd, _⟩ := draw_curve (n := 100) (by omega) hs (by omega)
    have eb : m_spec_B10Curve 100 c1 = some (crv C T) := by
      unfold m_spec_B10Curve m_spec_l00From
      rw [Option.bind_some, ed]; rfl
    rw [eb, Option.bind_some]
    exact law_l4 hd (by omega) h2 100 0 (Nat.zero_le _) (by have := hd.most; omega)
end Go.Proofs.Ytolggocnbakokaa.AWN
