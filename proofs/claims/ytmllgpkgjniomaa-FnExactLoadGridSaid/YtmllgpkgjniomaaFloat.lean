/- Rounding: what is exact; what stays between 0 and 1. -/
import Derived.Test.YtmllgpkgjniomaaCalcA
import Derived.Test.YtmllgpkgjniomaaCalcC
set_option linter.unusedVariables false
set_option linter.unusedSimpArgs false
set_option linter.unusedSectionVars false
namespace Go.Proofs.Ytmllgpkgjniomaa.AWN
open Go Ieee

theorem shl_eq (a b : Nat) : a <<< b = a * 2 ^ b := Nat.shiftLeft_eq a b
theorem log2_mul_pow {m : Nat} (k : Nat) (h : m ≠ 0) : (m * 2 ^ k).log2 = m.log2 + k := by
  have h2 : m * 2 ^ k ≠ 0 := Nat.mul_ne_zero h (Nat.pos_iff_ne_zero.1 (Nat.two_pow_pos k))
  rw [Nat.log2_eq_iff h2]
  have h3 := Nat.log2_self_le h
  have h4 := @Nat.lt_log2_self m
  constructor
  · rw [Nat.pow_add]; exact Nat.mul_le_mul_right _ h3
  · rw [show m.log2 + k + 1 = (m.log2 + 1) + k by omega, Nat.pow_add]
    exact Nat.mul_lt_mul_of_pos_right h4 (Nat.two_pow_pos k)

theorem cut_zero (neg : Bool) (n : Nat) : Toward.even.cut neg n 0 = n := by
  simp [Toward.cut, Nat.mod_one]
/-- Past the whole of a number, all is dropped. -/
theorem cut_gap {n drop : Nat} (neg : Bool) (way : Toward) : way.cut neg n drop = way.cut neg n (min drop (n.log2 + 2)) := by
  have : min (min drop (n.log2 + 2)) (n.log2 + 2) = min drop (n.log2 + 2) := by omega
  simp [Toward.cut, this]

theorem cut_even (neg : Bool) (n drop : Nat) : Toward.even.cut neg n drop = n / 2 ^ drop + (decide (2 ^ drop < 2 * (n % 2 ^ drop)) || (2 ^ drop == 2 * (n % 2 ^ drop) && n / 2 ^ drop % 2 == 1)).toNat := by
  by_cases h : drop ≤ n.log2 + 2
  · unfold Toward.cut
    rw [Nat.min_eq_left h]
    simp [shl_eq]
  · have hn : n < 2 ^ (n.log2 + 1) := Nat.lt_log2_self
    have h1 : 2 ^ (n.log2 + 2) ≤ 2 ^ drop := Nat.pow_le_pow_right (by decide) (by omega)
    have h2 : 2 ^ (n.log2 + 2) = 2 * 2 ^ (n.log2 + 1) := by rw [Nat.pow_succ]; omega
    have h3 : n < 2 ^ (n.log2 + 2) := by omega
    have d1 : n / 2 ^ drop = 0 := Nat.div_eq_of_lt (by omega)
    have d2 : n % 2 ^ drop = n := Nat.mod_eq_of_lt (by omega)
    have d3 : n / 2 ^ (n.log2 + 2) = 0 := Nat.div_eq_of_lt h3
    have d4 : n % 2 ^ (n.log2 + 2) = n := Nat.mod_eq_of_lt h3
    unfold Toward.cut
    rw [Nat.min_eq_right (by omega), shl_eq, Nat.one_mul]
    simp only [d1, d2, d3, d4]
    have e1 : decide (2 ^ (n.log2 + 2) < 2 * n) = false := by simp; omega
    have e2 : decide (2 ^ drop < 2 * n) = false := by simp; omega
    rw [e1, e2]
    simp

theorem cut_shift (neg : Bool) (n drop k : Nat) : Toward.even.cut neg (n * 2 ^ k) (drop + k) = Toward.even.cut neg n drop := by
  have hk := Nat.two_pow_pos k
  rw [cut_even, cut_even, Nat.pow_add, Nat.mul_div_mul_right _ _ hk, Nat.mul_mod_mul_right]
  have e1 : decide (2 ^ drop * 2 ^ k < 2 * (n % 2 ^ drop * 2 ^ k)) = decide (2 ^ drop < 2 * (n % 2 ^ drop)) := by
    rw [← Nat.mul_assoc]
    exact decide_eq_decide.2 ⟨fun h => Nat.lt_of_mul_lt_mul_right h, fun h => Nat.mul_lt_mul_of_pos_right h hk⟩
  have e2 : (2 ^ drop * 2 ^ k == 2 * (n % 2 ^ drop * 2 ^ k)) = (2 ^ drop == 2 * (n % 2 ^ drop)) := by
    rw [← Nat.mul_assoc]
    rw [Bool.eq_iff_iff]
    simp only [beq_iff_eq]
    exact ⟨fun h => Nat.eq_of_mul_eq_mul_right hk h, fun h => congrArg (· * 2 ^ k) h⟩
  rw [e1, e2]

/-- The same number, written otherwise. -/
theorem nearest_shift (f : Format) (neg : Bool) (m k : Nat) (p : Int) : f.nearest neg (m * 2 ^ k) p = f.nearest neg m (p + k) := by
  unfold Format.nearest
  by_cases hm : m = 0
  · subst hm; simp
  have hm2 : m * 2 ^ k ≠ 0 := Nat.mul_ne_zero hm (Nat.pos_iff_ne_zero.1 (Nat.two_pow_pos k))
  rw [if_neg hm, if_neg hm2]
  dsimp only
  rw [log2_mul_pow k hm]
  have el : p + ((m.log2 + k : Nat) : Int) - f.fractionBits = p + k + m.log2 - f.fractionBits := by omega
  rw [el]
  generalize hlast : max (p + k + m.log2 - f.fractionBits : Int) f.leastPlace = last
  have key : Toward.even.cut neg ((m * 2 ^ k) <<< (p - last).toNat) (last - p).toNat = Toward.even.cut neg (m <<< (p + k - last).toNat) (last - (p + k)).toNat := by
    rw [shl_eq, shl_eq]
    rcases Int.le_total (p + k) last with h | h
    · rw [show (p - last).toNat = 0 by omega, show (p + k - last).toNat = 0 by omega, show (last - p).toNat = (last - (p + k)).toNat + k by omega]
      simp only [Nat.pow_zero, Nat.mul_one]
      exact cut_shift ..
    · rw [show (last - (p + k)).toNat = 0 by omega]
      rcases Int.le_total p last with h' | h'
      · rw [show (p - last).toNat = 0 by omega, Nat.pow_zero, Nat.mul_one]
        have : k = (p + k - last).toNat + (last - p).toNat := by omega
        generalize (p + k - last).toNat = a at *
        generalize (last - p).toNat = b at *
        subst this
        rw [Nat.pow_add, ← Nat.mul_assoc]
        have := cut_shift neg (m * 2 ^ a) 0 b
        simpa using this
      · rw [show (last - p).toNat = 0 by omega, cut_zero, cut_zero, Nat.mul_assoc, ← Nat.pow_add]
        congr 2
        omega
  rw [key]

theorem nearest_zero (f : Format) (neg : Bool) (p : Int) : f.nearest neg 0 p = f.word neg 0 := by simp [Format.nearest]
theorem nearest_scale (f : Format) (neg : Bool) {m m' : Nat} {p p' : Int} (k k' : Nat) (h : m * 2 ^ k = m' * 2 ^ k') (hp : p - k = p' - k') : f.nearest neg m p = f.nearest neg m' p' := by
  have h1 := nearest_shift f neg m k (p - k)
  have h2 := nearest_shift f neg m' k' (p' - k')
  rw [show p - (k : Int) + k = p by omega] at h1
  rw [show p' - (k' : Int) + k' = p' by omega] at h2
  rw [← h1, ← h2, h, hp]

/-- The place of the last digit that is kept. -/
def lastP (f : Format) (m : Nat) (p : Int) : Int := max (p + m.log2 - f.fractionBits) f.leastPlace
def keptN (f : Format) (m : Nat) (p : Int) : Nat := Toward.even.cut false (m <<< (p - lastP f m p).toNat) (lastP f m p - p).toNat
theorem nearest_eq (f : Format) (neg : Bool) {m : Nat} (p : Int) (hm : m ≠ 0) : f.nearest neg m p = f.word neg (min ((lastP f m p - f.leastPlace).toNat * f.binade + keptN f m p) f.infRung) := by
  unfold Format.nearest
  rw [if_neg hm]
  dsimp only
  rw [show Toward.even.cut neg = Toward.even.cut false by funext a b; rw [cut_even, cut_even]]
  rfl

theorem cut_le (n drop M : Nat) (h : n ≤ M * 2 ^ drop) : Toward.even.cut false n drop ≤ M := by
  rw [cut_even]
  have hp := Nat.two_pow_pos drop
  have hdm := Nat.div_add_mod n (2 ^ drop)
  have hml := Nat.mod_lt n hp
  by_cases hr : n % 2 ^ drop = 0
  · have : n / 2 ^ drop ≤ M := Nat.div_le_of_le_mul (by rw [Nat.mul_comm]; exact h)
    have e1 : decide (2 ^ drop < 2 * (n % 2 ^ drop)) = false := by rw [hr]; simp
    have e2 : (2 ^ drop == 2 * (n % 2 ^ drop)) = false := by rw [hr]; simp
    rw [e1, e2]
    simpa using this
  · have : n / 2 ^ drop < M := by
      rw [Nat.div_lt_iff_lt_mul hp]
      rcases Nat.lt_or_eq_of_le h with h' | h'
      · exact h'
      · exfalso; apply hr; rw [h']; exact Nat.mul_mod_left ..
    have hb : ∀ b : Bool, b.toNat ≤ 1 := by intro b; cases b <;> decide
    have := hb (decide (2 ^ drop < 2 * (n % 2 ^ drop)) || (2 ^ drop == 2 * (n % 2 ^ drop) && n / 2 ^ drop % 2 == 1))
    omega
theorem cut_ge (n drop M : Nat) (h : M * 2 ^ drop ≤ n) : M ≤ Toward.even.cut false n drop := by
  rw [cut_even]
  have : M ≤ n / 2 ^ drop := (Nat.le_div_iff_mul_le (Nat.two_pow_pos drop)).2 h
  omega

/-- What is kept has all its digits, or stands at the least place. -/
theorem kept_bounds (f : Format) {m : Nat} {p : Int} (hm : m ≠ 0) : keptN f m p ≤ 2 * f.binade ∧ (f.leastPlace ≤ p + m.log2 - f.fractionBits → f.binade ≤ keptN f m p) := by
  unfold keptN
  have h1 := Nat.log2_self_le hm
  have h2 := @Nat.lt_log2_self m
  generalize hL : m.log2 = L at *
  have hlast : lastP f m p = max (p + L - f.fractionBits) f.leastPlace := by rw [lastP, hL]
  rw [hlast]
  generalize hlst : max (p + L - f.fractionBits : Int) f.leastPlace = last at *
  rw [shl_eq]
  have hb : 2 * f.binade = 2 ^ (f.fractionBits + 1) := by rw [Format.binade, Nat.pow_succ]; omega
  constructor
  · apply cut_le
    rw [hb]
    rw [← Nat.pow_add]
    have : m * 2 ^ (p - last).toNat ≤ 2 ^ (L + 1) * 2 ^ (p - last).toNat := Nat.mul_le_mul_right _ (Nat.le_of_lt h2)
    refine Nat.le_trans this ?_
    rw [← Nat.pow_add]
    exact Nat.pow_le_pow_right (by decide) (by omega)
  · intro hle
    apply cut_ge
    rw [Format.binade, ← Nat.pow_add]
    have : 2 ^ L * 2 ^ (p - last).toNat ≤ m * 2 ^ (p - last).toNat := Nat.mul_le_mul_right _ h1
    refine Nat.le_trans ?_ this
    rw [← Nat.pow_add]
    exact Nat.pow_le_pow_right (by decide) (by omega)

/-- A number that the format has is kept whole. -/
theorem kept_exact (f : Format) {m : Nat} {p : Int} (hm : m ≠ 0) (hs : m < 2 ^ (f.fractionBits + 1)) (hp : f.leastPlace ≤ p) : lastP f m p ≤ p ∧ keptN f m p = m * 2 ^ (p - lastP f m p).toNat := by
  have hL : m.log2 < f.fractionBits + 1 := (Nat.log2_lt hm).2 hs
  have h1 : lastP f m p ≤ p := by unfold lastP; omega
  refine ⟨h1, ?_⟩
  unfold keptN
  rw [show (lastP f m p - p).toNat = 0 by omega, cut_zero, shl_eq]

def maxRung (f : Format) : Nat := 2 ^ f.exponentBits - 1

theorem read_nearest (f : Format) (hf : f.infRung < f.signWeight) (hr : 0 < maxRung f) (neg : Bool) {m : Nat} {p : Int} (hm : m ≠ 0) (hs : m < 2 ^ (f.fractionBits + 1)) (hp : f.leastPlace ≤ p) (hmax : (p + m.log2 - f.fractionBits - f.leastPlace + 1 : Int) < maxRung f) :
    f.read (f.nearest neg m p) = .number neg (m * 2 ^ (p - lastP f m p).toNat) (lastP f m p) := by
  obtain ⟨hle, hk⟩ := kept_exact f hm hs hp
  obtain ⟨b1, b2⟩ := kept_bounds f (p := p) hm
  rw [nearest_eq f neg p hm]
  have hbp : 0 < f.binade := Nat.two_pow_pos _
  have hL : m.log2 < f.fractionBits + 1 := (Nat.log2_lt hm).2 hs
  have hkl : keptN f m p < 2 * f.binade := by
    rw [hk]
    have h2 := @Nat.lt_log2_self m
    have : m * 2 ^ (p - lastP f m p).toNat < 2 ^ (m.log2 + 1) * 2 ^ (p - lastP f m p).toNat := Nat.mul_lt_mul_of_pos_right h2 (Nat.two_pow_pos _)
    rw [← Nat.pow_add] at this
    have h3 : 2 * f.binade = 2 ^ (f.fractionBits + 1) := by rw [Format.binade, Nat.pow_succ]; omega
    rw [h3]
    exact Nat.lt_of_lt_of_le this (Nat.pow_le_pow_right (by decide) (by unfold lastP; omega))
  have hrung : (lastP f m p - f.leastPlace).toNat * f.binade + keptN f m p < f.infRung := by
    have h0 : (lastP f m p - f.leastPlace).toNat + 2 ≤ maxRung f ∨ lastP f m p = f.leastPlace ∧ (keptN f m p < f.binade ∨ 2 ≤ maxRung f) := by
      unfold lastP
      rcases Int.le_total (p + m.log2 - f.fractionBits) f.leastPlace with h | h
      · right
        refine ⟨by omega, ?_⟩
        by_cases he : p + m.log2 - f.fractionBits = f.leastPlace
        · right; omega
        · left
          rw [hk]
          have h2 := @Nat.lt_log2_self m
          have : m * 2 ^ (p - lastP f m p).toNat < 2 ^ (m.log2 + 1) * 2 ^ (p - lastP f m p).toNat := Nat.mul_lt_mul_of_pos_right h2 (Nat.two_pow_pos _)
          rw [← Nat.pow_add] at this
          refine Nat.lt_of_lt_of_le this ?_
          rw [Format.binade]
          exact Nat.pow_le_pow_right (by decide) (by unfold lastP; omega)
      · left; omega
    have hi : f.infRung = maxRung f * f.binade := rfl
    rw [hi]
    rcases h0 with h0 | ⟨h0, h1 | h1⟩
    · have := Nat.mul_le_mul_right f.binade h0
      rw [Nat.add_mul] at this
      omega
    · rw [h0]
      simp only [Int.sub_self, Int.toNat_zero, Nat.zero_mul, Nat.zero_add]
      have : 1 ≤ maxRung f := hr
      have := Nat.mul_le_mul_right f.binade this
      omega
    · rw [h0]
      simp only [Int.sub_self, Int.toNat_zero, Nat.zero_mul, Nat.zero_add]
      have := Nat.mul_le_mul_right f.binade h1
      omega
  rw [Nat.min_eq_left (Nat.le_of_lt hrung), read_word _ _ _ (by omega)]
  rw [← hk]
  by_cases hb : keptN f m p < f.binade
  · have hl : lastP f m p = f.leastPlace := by
      rcases Int.le_total f.leastPlace (p + m.log2 - f.fractionBits) with h | h
      · exact absurd (b2 h) (by omega)
      · unfold lastP; omega
    rw [hl]
    simp only [Int.sub_self, Int.toNat_zero, Nat.zero_mul, Nat.zero_add]
    rw [if_pos hb]
  · have hge : f.binade ≤ keptN f m p := by omega
    have e : (lastP f m p - f.leastPlace).toNat * f.binade + keptN f m p = (keptN f m p - f.binade) + f.binade * ((lastP f m p - f.leastPlace).toNat + 1) := by
      rw [Nat.mul_add, Nat.mul_comm]; omega
    have hmod : ((lastP f m p - f.leastPlace).toNat * f.binade + keptN f m p) % f.binade = keptN f m p - f.binade := by
      rw [e, Nat.add_mul_mod_self_left, Nat.mod_eq_of_lt (by omega)]
    have hdiv : ((lastP f m p - f.leastPlace).toNat * f.binade + keptN f m p) / f.binade = (lastP f m p - f.leastPlace).toNat + 1 := by
      rw [e, Nat.add_mul_div_left _ _ hbp, Nat.div_eq_of_lt (by omega)]; omega
    have hn : ¬ (lastP f m p - f.leastPlace).toNat * f.binade + keptN f m p < f.binade := by omega
    rw [hmod, hdiv, if_neg hn, if_pos hrung]
    congr 1
    · omega
    · have : f.leastPlace ≤ lastP f m p := by unfold lastP; omega
      omega
end Go.Proofs.Ytmllgpkgjniomaa.AWN

namespace Go.Proofs.Ytmllgpkgjniomaa.AWN
open Go Ieee

structure FmtOk (f : Format) : Prop where
  rung : f.infRung < f.signWeight
  most : 0 < maxRung f
theorem fmtOk (k : FloatKind) : FmtOk k.format := ⟨k.format.infRung_lt, by cases k <;> decide⟩

/-- A number that the format has. -/
structure Ex (f : Format) (m : Nat) (p : Int) : Prop where
  size : m < 2 ^ (f.fractionBits + 1)
  least : f.leastPlace ≤ p
  most : (p + m.log2 - f.fractionBits - f.leastPlace + 1 : Int) < maxRung f

theorem read_ex {f : Format} (hf : FmtOk f) (neg : Bool) {m : Nat} {p : Int} (h : Ex f m p) : ∃ (a : Nat) (P : Int), f.read (f.nearest neg m p) = .number neg (m * 2 ^ a) P ∧ (m ≠ 0 → P = p - a ∧ m.log2 + a ≤ f.fractionBits) := by
  by_cases hm : m = 0
  · subst hm
    refine ⟨0, f.leastPlace, ?_, fun h => absurd rfl h⟩
    rw [nearest_zero, read_word _ _ _ (by have := hf.rung; omega), if_pos (show 0 < f.binade from Nat.two_pow_pos _)]
  · have hL : m.log2 < f.fractionBits + 1 := (Nat.log2_lt hm).2 h.size
    have h1 : lastP f m p ≤ p := by have := h.least; unfold lastP; omega
    refine ⟨(p - lastP f m p).toNat, lastP f m p, read_nearest f hf.rung hf.most neg hm h.size h.least h.most, fun _ => ⟨by omega, ?_⟩⟩
    unfold lastP; omega

theorem mul_ex {f : Format} (hf : FmtOk f) (s t : Bool) {m n : Nat} {p q : Int} (hm : Ex f m p) (hn : Ex f n q) : f.mul (f.nearest s m p) (f.nearest t n q) = some (f.nearest (s ^^ t) (m * n) (p + q)) := by
  obtain ⟨a, P, h1, h2⟩ := read_ex hf s hm
  obtain ⟨b, Q, h3, h4⟩ := read_ex hf t hn
  unfold Format.mul
  rw [h1, h3]
  simp only [Datum.product, Option.map_some, Format.write, Option.some.injEq]
  by_cases hm0 : m = 0
  · subst hm0; simp [nearest_zero]
  by_cases hn0 : n = 0
  · subst hn0; simp [nearest_zero]
  have e : m * 2 ^ a * (n * 2 ^ b) = m * n * 2 ^ (a + b) := by rw [Nat.pow_add, Nat.mul_mul_mul_comm]
  rw [e, nearest_shift]
  congr 1
  have := (h2 hm0).1
  have := (h4 hn0).1
  omega

/-- An integer, in units of a place. -/
def ofZ (f : Format) (z : Int) (p : Int) : Nat := f.nearest (decide (z < 0)) z.natAbs p

theorem signed_eq (z : Int) (a u : Nat) : signed (decide (z < 0)) (z.natAbs * 2 ^ a) u = z * (2 ^ (a + u) : Nat) := by
  unfold signed
  rw [shl_eq, Nat.mul_assoc, ← Nat.pow_add]
  by_cases h : z < 0
  · rw [if_pos (by simpa using h), Int.natCast_mul, ← Int.neg_mul, Int.ofNat_natAbs_of_nonpos (by omega), Int.neg_neg]
  · rw [if_neg (by simpa using h), Int.natCast_mul, Int.natAbs_of_nonneg (by omega)]

theorem signed_zero (s : Bool) (u : Nat) : signed s 0 u = 0 := by unfold signed; rw [shl_eq]; simp
/-- What is read stands for the integer. -/
theorem signed_read {z : Int} {a u : Nat} {p P base : Int} (h : z ≠ 0 → P = p - a) (hb : base ≤ P) (hp : base ≤ p) (hu : u = (P - base).toNat) : signed (decide (z < 0)) (z.natAbs * 2 ^ a) u = z * (2 ^ (p - base).toNat : Nat) := by
  by_cases hz : z = 0
  · subst hz; simp [signed_zero]
  · rw [signed_eq]
    have := h hz
    have e : a + u = (p - base).toNat := by omega
    rw [e]

theorem add_ofZ {f : Format} (hf : FmtOk f) {x y p : Int} (hx : Ex f x.natAbs p) (hy : Ex f y.natAbs p) : f.add (ofZ f x p) (ofZ f y p) = some (ofZ f (x + y) p) := by
  obtain ⟨a, P, h1, h2⟩ := read_ex hf (decide (x < 0)) hx
  obtain ⟨b, Q, h3, h4⟩ := read_ex hf (decide (y < 0)) hy
  unfold Format.add ofZ
  rw [h1, h3]
  simp only [Datum.sum, Option.map_some, Format.write, Option.some.injEq]
  by_cases hx0 : x = 0 ∧ y = 0
  · obtain ⟨rfl, rfl⟩ := hx0
    simp [signed_zero, nearest_zero]
  have hbp : min P Q ≤ p := by
    by_cases hx1 : x = 0
    · have := (h4 (by omega)).1; omega
    · have := (h2 (by omega)).1; omega
  have e1 := signed_read (z := x) (a := a) (P := P) (p := p) (base := min P Q) (fun h => (h2 (by omega)).1) (by omega) hbp rfl
  have e2 := signed_read (z := y) (a := b) (P := Q) (p := p) (base := min P Q) (fun h => (h4 (by omega)).1) (by omega) hbp rfl
  rw [e1, e2, ← Int.add_mul]
  have hpos : (0 : Int) < (2 ^ (p - min P Q).toNat : Nat) := by have := Nat.two_pow_pos (p - min P Q).toNat; omega
  have e3 : (if (x + y) * ((2 ^ (p - min P Q).toNat : Nat) : Int) = 0 then decide (x < 0) && decide (y < 0) else decide ((x + y) * ((2 ^ (p - min P Q).toNat : Nat) : Int) < 0)) = decide (x + y < 0) := by
    by_cases hz : x + y = 0
    · rw [hz, Int.zero_mul, if_pos rfl]
      by_cases hx2 : x < 0
      · simp [hx2]; omega
      · simp [hx2]
    · have hne : (x + y) * ((2 ^ (p - min P Q).toNat : Nat) : Int) ≠ 0 := Int.mul_ne_zero hz (by omega)
      rw [if_neg hne]
      apply decide_eq_decide.2
      constructor
      · intro h; exact Int.not_le.1 fun h' => absurd (Int.mul_nonneg h' (Int.le_of_lt hpos)) (by omega)
      · intro h; exact Int.mul_neg_of_neg_of_pos h hpos
  rw [e3, Int.natAbs_mul, Int.natAbs_natCast, nearest_shift]
  congr 1
  omega

theorem order_ofZ {f : Format} (hf : FmtOk f) {x y p : Int} (hx : Ex f x.natAbs p) (hy : Ex f y.natAbs p) : f.order (ofZ f x p) (ofZ f y p) = some (compare x y) := by
  obtain ⟨a, P, h1, h2⟩ := read_ex hf (decide (x < 0)) hx
  obtain ⟨b, Q, h3, h4⟩ := read_ex hf (decide (y < 0)) hy
  unfold Format.order ofZ
  rw [h1, h3]
  simp only [Datum.order, Option.some.injEq]
  by_cases hx0 : x = 0 ∧ y = 0
  · obtain ⟨rfl, rfl⟩ := hx0
    simp [signed_zero]
  have hbp : min P Q ≤ p := by
    by_cases hx1 : x = 0
    · have := (h4 (by omega)).1; omega
    · have := (h2 (by omega)).1; omega
  have e1 := signed_read (z := x) (a := a) (P := P) (p := p) (base := min P Q) (fun h => (h2 (by omega)).1) (by omega) hbp rfl
  have e2 := signed_read (z := y) (a := b) (P := Q) (p := p) (base := min P Q) (fun h => (h4 (by omega)).1) (by omega) hbp rfl
  rw [e1, e2]
  have hpos : (0 : Int) < (2 ^ (p - min P Q).toNat : Nat) := by have := Nat.two_pow_pos (p - min P Q).toNat; omega
  generalize ((2 ^ (p - min P Q).toNat : Nat) : Int) = c at *
  show compareOfLessAndEq _ _ = compareOfLessAndEq _ _
  unfold compareOfLessAndEq
  have l : x * c < y * c ↔ x < y := ⟨fun h => Int.lt_of_mul_lt_mul_right h (Int.le_of_lt hpos), fun h => Int.mul_lt_mul_of_pos_right h hpos⟩
  have e : x * c = y * c ↔ x = y := ⟨fun h => Int.eq_of_mul_eq_mul_right (by omega) h, fun h => by rw [h]⟩
  simp only [l, e]

/-! ### Between 0 and 1 -/
/-- A number from 2^-100 to 1, by its binary digits. -/
structure Unit1 (m : Nat) (p : Int) : Prop where
  ne : m ≠ 0
  low : -100 ≤ p + m.log2
  high : p + m.log2 < 0 ∨ (p + m.log2 = 0 ∧ m = 2 ^ m.log2)

/-- A word whose number is such a one. -/
def U1 (f : Format) (w : Nat) : Prop := ∃ m p, f.read w = .number false m p ∧ Unit1 m p

structure FmtBig (f : Format) : Prop extends FmtOk f where
  deep : f.leastPlace ≤ -100 - f.fractionBits
  room : (0 : Int) - f.fractionBits - f.leastPlace + 1 < maxRung f
theorem fmtBig (k : FloatKind) : FmtBig k.format := { fmtOk k with deep := by cases k <;> decide, room := by cases k <;> decide }

theorem nearest_unit {f : Format} (hf : FmtBig f) {m : Nat} {p : Int} (h : Unit1 m p) : U1 f (f.nearest false m p) := by
  have hm := h.ne
  have hd := hf.deep
  have hr := hf.room
  have hl := h.low
  obtain ⟨b1, b2⟩ := kept_bounds f (p := p) hm
  have hlast : lastP f m p = p + m.log2 - f.fractionBits := by unfold lastP; omega
  have b2 := b2 (by omega)
  have hbp : 0 < f.binade := Nat.two_pow_pos _
  have hi : f.infRung = maxRung f * f.binade := rfl
  have lb : f.binade.log2 = f.fractionBits := by unfold Format.binade; exact Nat.log2_two_pow
  rcases h.high with hh | ⟨hh, hpow⟩
  · -- below 1
    have hrung : (lastP f m p - f.leastPlace).toNat * f.binade + keptN f m p < f.infRung := by
      rw [hi]
      have h0 : (lastP f m p - f.leastPlace).toNat + 3 ≤ maxRung f := by omega
      have := Nat.mul_le_mul_right f.binade h0
      rw [Nat.add_mul] at this
      omega
    unfold U1
    rw [nearest_eq f false p hm, Nat.min_eq_left (Nat.le_of_lt hrung), read_word _ _ _ (by have := hf.rung; omega), if_neg (by omega), if_pos hrung]
    refine ⟨_, _, rfl, ?_⟩
    rcases Nat.lt_or_eq_of_le b1 with hk | hk
    · have e : (lastP f m p - f.leastPlace).toNat * f.binade + keptN f m p = (keptN f m p - f.binade) + f.binade * ((lastP f m p - f.leastPlace).toNat + 1) := by
        rw [Nat.mul_add, Nat.mul_comm]; omega
      rw [e, Nat.add_mul_mod_self_left, Nat.mod_eq_of_lt (by omega), Nat.add_mul_div_left _ _ hbp, Nat.div_eq_of_lt (by omega)]
      have e2 : f.binade + (keptN f m p - f.binade) = keptN f m p := by omega
      rw [e2]
      have lk : (keptN f m p).log2 = f.fractionBits := by
        rw [Nat.log2_eq_iff (by omega)]
        refine ⟨b2, ?_⟩
        rw [Nat.pow_succ]
        have : 2 ^ f.fractionBits = f.binade := rfl
        omega
      exact ⟨by omega, by rw [lk]; omega, .inl (by rw [lk]; omega)⟩
    · have e : (lastP f m p - f.leastPlace).toNat * f.binade + keptN f m p = 0 + f.binade * ((lastP f m p - f.leastPlace).toNat + 2) := by
        rw [Nat.mul_add, Nat.mul_comm]; omega
      rw [e, Nat.add_mul_mod_self_left, Nat.zero_mod, Nat.add_mul_div_left _ _ hbp, Nat.zero_div]
      rw [Nat.add_zero]
      refine ⟨by omega, by rw [lb]; omega, ?_⟩
      rw [lb]
      rcases Int.lt_or_eq_of_le (show f.leastPlace + (0 + ((lastP f m p - f.leastPlace).toNat + 2) - 1 : Nat) + f.fractionBits ≤ 0 by omega) with h5 | h5
      · exact .inl h5
      · exact .inr ⟨h5, rfl⟩
  · -- 1 itself
    have hone : f.nearest false m p = f.nearest false 1 0 := by
      rw [hpow]
      have := nearest_shift f false 1 m.log2 p
      rw [Nat.one_mul] at this
      rw [this, hh]
    have ex : Ex f 1 0 := ⟨Nat.one_lt_two_pow (by omega), by omega, by rw [show Nat.log2 1 = 0 by decide]; simpa using hr⟩
    obtain ⟨a, P, h1, h2⟩ := read_ex hf.toFmtOk false ex
    rw [hone]
    have := h2 (by decide)
    refine ⟨_, _, h1, ?_⟩
    rw [Nat.one_mul]
    exact ⟨Nat.pos_iff_ne_zero.1 (Nat.two_pow_pos a), by rw [Nat.log2_two_pow]; omega, .inr (by rw [Nat.log2_two_pow]; exact ⟨by omega, rfl⟩)⟩

theorem log2_one' : Nat.log2 1 = 0 := by decide
theorem one_read (f : Format) (hf : FmtBig f) : ∃ a : Nat, f.read (f.nearest false 1 0) = .number false (2 ^ a) (-(a : Int)) := by
  have hd := hf.deep
  have ex : Ex f 1 0 := ⟨Nat.one_lt_two_pow (by omega), by omega, by rw [log2_one']; simpa using hf.room⟩
  obtain ⟨a, P, h1, h2⟩ := read_ex hf.toFmtOk false ex
  have := h2 (by decide)
  exact ⟨a, by rw [h1, Nat.one_mul]; congr 1; omega⟩

/-- It is not above 1, and above 0. -/
theorem unit_order {f : Format} (hf : FmtBig f) {w : Nat} (h : U1 f w) : f.order w (f.nearest false 1 0) ≠ some .gt ∧ f.order w 0 = some .gt := by
  obtain ⟨m, p, hr, hu⟩ := h
  obtain ⟨a, ha⟩ := one_read f hf
  constructor
  · unfold Format.order
    rw [hr, ha]
    simp only [Datum.order, ne_eq, Option.some.injEq]
    intro hc
    have hlt : m * 2 ^ (p - min p (-(a:Int))).toNat ≤ 2 ^ a * 2 ^ (-(a:Int) - min p (-(a:Int))).toNat := by
      have hm2 := @Nat.lt_log2_self m
      rw [← Nat.pow_add]
      rcases hu.high with h | ⟨h, e⟩
      · refine Nat.le_trans (Nat.mul_le_mul_right _ (Nat.le_of_lt hm2)) ?_
        rw [← Nat.pow_add]
        exact Nat.pow_le_pow_right (by decide) (by omega)
      · rw [e, ← Nat.pow_add]
        exact Nat.pow_le_pow_right (by decide) (by omega)
    simp only [signed, shl_eq, Bool.false_eq_true, if_false] at hc
    have hc' : compareOfLessAndEq (α := Int) _ _ = .gt := hc
    unfold compareOfLessAndEq at hc'
    split at hc'
    · cases hc'
    · split at hc'
      · cases hc'
      · omega
  · unfold Format.order
    have h0 : f.read 0 = .number false 0 f.leastPlace := by
      have := read_word f false 0 (by have := hf.rung; omega)
      rw [if_pos (show 0 < f.binade from Nat.two_pow_pos _)] at this
      exact this
    rw [hr, h0]
    simp only [Datum.order, Option.some.injEq]
    rw [signed_zero]
    simp only [signed, shl_eq, Bool.false_eq_true, if_false]
    have : 0 < m * 2 ^ (p - min p f.leastPlace).toNat := Nat.mul_pos (Nat.pos_of_ne_zero hu.ne) (Nat.two_pow_pos _)
    show compareOfLessAndEq (α := Int) _ _ = .gt
    unfold compareOfLessAndEq
    rw [if_neg (by omega), if_neg (by omega)]

/-- A quotient of integers from 2^-90 to 1. -/
theorem quot_unit {f : Format} (hf : FmtBig f) {s t : Nat} (hs : Ex f s 0) (ht : Ex f t 0) (h0 : 0 < s) (hst : s ≤ t) (h90 : t ≤ 2 ^ 20) (hfb : 20 ≤ f.fractionBits) : ∃ r, f.div (f.nearest false s 0) (f.nearest false t 0) = some r ∧ U1 f r := by
  obtain ⟨a, P, h1, h2⟩ := read_ex hf.toFmtOk false hs
  obtain ⟨b, Q, h3, h4⟩ := read_ex hf.toFmtOk false ht
  obtain ⟨h2, h2'⟩ := h2 (by omega)
  obtain ⟨h4, h4'⟩ := h4 (by omega)
  unfold Format.div
  rw [h1, h3]
  have hb0 : t * 2 ^ b ≠ 0 := Nat.mul_ne_zero (by omega) (Nat.pos_iff_ne_zero.1 (Nat.two_pow_pos b))
  simp only [Datum.quotient, if_neg hb0, Option.map_some, Format.write]
  refine ⟨_, rfl, nearest_unit hf ?_⟩
  rw [log2_mul_pow b (by omega), log2_mul_pow a (by omega)]
  have hls : s.log2 ≤ t.log2 := by
    rw [Nat.le_log2 (by omega)]
    exact Nat.le_trans (Nat.log2_self_le (by omega)) hst
  have hlt : t.log2 ≤ 20 := by
    have : t.log2 < 21 := (Nat.log2_lt (by omega)).2 (by omega)
    omega
  generalize hmore : f.fractionBits + 2 + (t.log2 + b) - (s.log2 + a) = more
  rw [shl_eq, Nat.mul_assoc, ← Nat.pow_add]
  have hc : ∃ c, a + more = b + c ∧ c = f.fractionBits + 2 + t.log2 - s.log2 := ⟨_, by omega, rfl⟩
  obtain ⟨c, hc, hc'⟩ := hc
  rw [hc]
  have hP : P - Q - more - 1 = -((c : Int) + 1) := by omega
  rw [hP]
  have hdiv : s * 2 ^ (b + c) / (t * 2 ^ b) = s * 2 ^ c / t := by
    rw [Nat.pow_add, Nat.mul_comm (2 ^ b), ← Nat.mul_assoc, Nat.mul_div_mul_right _ _ (Nat.two_pow_pos b)]
  have hmod : s * 2 ^ (b + c) % (t * 2 ^ b) = s * 2 ^ c % t * 2 ^ b := by
    rw [Nat.pow_add, Nat.mul_comm (2 ^ b), ← Nat.mul_assoc, Nat.mul_mod_mul_right]
  have hz : (s * 2 ^ (b + c) % (t * 2 ^ b) != 0) = (s * 2 ^ c % t != 0) := by
    rw [hmod, Bool.eq_iff_iff]
    simp only [bne_iff_ne, ne_eq]
    have := Nat.two_pow_pos b
    constructor
    · intro h h'; exact h (by rw [h', Nat.zero_mul])
    · intro h h'
      rcases Nat.mul_eq_zero.1 h' with h' | h'
      · exact h h'
      · omega
  rw [hdiv, hz]
  have hc20 : 22 ≤ c := by omega
  have hlow : 2 ^ (c - 20) ≤ s * 2 ^ c / t := by
    rw [Nat.le_div_iff_mul_le (by omega)]
    have h5 : 2 ^ (c - 20) * t ≤ 2 ^ (c - 20) * 2 ^ 20 := Nat.mul_le_mul_left _ h90
    rw [← Nat.pow_add, show c - 20 + 20 = c by omega] at h5
    have h6 : 1 * 2 ^ c ≤ s * 2 ^ c := Nat.mul_le_mul_right _ h0
    omega
  have hbit : (s * 2 ^ c % t != 0).toNat ≤ 1 := by cases (s * 2 ^ c % t != 0) <;> decide
  generalize hq : s * 2 ^ c / t = q at *
  have hq0 : 0 < q := Nat.lt_of_lt_of_le (Nat.two_pow_pos _) hlow
  have hlq : c - 19 ≤ (2 * q + (s * 2 ^ c % t != 0).toNat).log2 := by
    rw [Nat.le_log2 (by omega)]
    have : 2 ^ (c - 19) = 2 * 2 ^ (c - 20) := by rw [show c - 19 = (c - 20) + 1 by omega, Nat.pow_succ]; omega
    omega
  rcases Nat.lt_or_eq_of_le hst with hlt' | heq
  · have hq2 : q < 2 ^ c := by
      rw [← hq, Nat.div_lt_iff_lt_mul (by omega), Nat.mul_comm (2 ^ c)]
      exact Nat.mul_lt_mul_of_pos_right hlt' (Nat.two_pow_pos c)
    have hlg : (2 * q + (s * 2 ^ c % t != 0).toNat).log2 < c + 1 := by
      rw [Nat.log2_lt (by omega), Nat.pow_succ]
      omega
    exact ⟨by omega, by omega, .inl (by omega)⟩
  · subst heq
    have hqe : q = 2 ^ c := by rw [← hq, Nat.mul_div_cancel_left _ h0]
    have hm0 : s * 2 ^ c % s = 0 := Nat.mul_mod_right ..
    rw [hm0] at *
    simp only [bne_self_eq_false, Bool.toNat_false, Nat.add_zero] at *
    have e : 2 * q = 2 ^ (c + 1) := by rw [hqe, Nat.pow_succ]; omega
    rw [e]
    exact ⟨Nat.pos_iff_ne_zero.1 (Nat.two_pow_pos _), by rw [Nat.log2_two_pow]; omega, .inr ⟨by rw [Nat.log2_two_pow]; omega, by rw [Nat.log2_two_pow]⟩⟩

/-- A number from 0 to 1, made one of another kind. -/
theorem conv_unit {s k : FloatKind} {w : Nat} (h : U1 s.format w) : ∃ r, fconv s k w = some r ∧ U1 k.format r := by
  unfold fconv
  by_cases hsk : s = k
  · subst hsk
    exact ⟨w, by simp [fkEq], h⟩
  · obtain ⟨m, p, hr, hu⟩ := h
    have hn := nearest_unit (fmtBig k) hu
    have hd : s.decode w = .number false m p := hr
    have hi : (k.decode (k.encode (.number false m p))).isInfinity = false := by
      obtain ⟨m', p', hr', _⟩ := hn
      have : k.decode (k.encode (.number false m p)) = .number false m' p' := hr'
      rw [this]; rfl
    refine ⟨k.encode (.number false m p), ?_, hn⟩
    simp [fkEq, hsk, hd, hi]
end Go.Proofs.Ytmllgpkgjniomaa.AWN

namespace Go.Proofs.Ytmllgpkgjniomaa.AWN
open Go Ieee

/-- A number, not greater than 2^(E+1). -/
def MagD (d : Datum) (E : Int) : Prop := ∃ neg m p, d = .number neg m p ∧ (m = 0 ∨ p + m.log2 ≤ E)
def Mag (f : Format) (w : Nat) (E : Int) : Prop := MagD (f.read w) E
structure FmtMag (f : Format) : Prop extends FmtBig f where
  high : (100 : Int) - f.fractionBits - f.leastPlace + 3 ≤ maxRung f
theorem fmtMag (k : FloatKind) : FmtMag k.format := { fmtBig k with high := by cases k <;> decide }
theorem Mag.mono {f : Format} {w : Nat} {E F : Int} (h : Mag f w E) (hEF : E ≤ F) : Mag f w F := by
  obtain ⟨n, m, p, h1, h2⟩ := h
  exact ⟨n, m, p, h1, h2.imp id fun h => by omega⟩
theorem Mag.not_nan {k : FloatKind} {w : Nat} {E : Int} (h : Mag k.format w E) : isnan k w = false := by
  obtain ⟨n, m, p, h1, _⟩ := h
  unfold isnan
  rw [h1]; rfl
theorem nearest_mag {f : Format} (hf : FmtMag f) (neg : Bool) {m : Nat} {p E : Int} (h : m = 0 ∨ p + m.log2 ≤ E) (hE : -100 ≤ E) (hE2 : E ≤ 100) : Mag f (f.nearest neg m p) (E + 1) := by
  have hbp : 0 < f.binade := Nat.two_pow_pos _
  have hrg := hf.rung
  have hd := hf.deep
  have hh := hf.high
  have hi : f.infRung = maxRung f * f.binade := rfl
  by_cases hm : m = 0
  · subst hm
    rw [nearest_zero]
    refine ⟨neg, 0, f.leastPlace, ?_, .inl rfl⟩
    rw [read_word _ _ _ (by omega), if_pos hbp]
  · have hp : p + m.log2 ≤ E := by
      rcases h with h | h
      · exact absurd h hm
      · exact h
    obtain ⟨b1, b2⟩ := kept_bounds f (p := p) hm
    have hl1 : f.leastPlace ≤ lastP f m p := by unfold lastP; omega
    have hl2 : lastP f m p = p + m.log2 - f.fractionBits ∨ lastP f m p = f.leastPlace := by unfold lastP; omega
    have hlE : lastP f m p + f.fractionBits ≤ E := by
      rcases hl2 with e | e <;> omega
    have hrung : (lastP f m p - f.leastPlace).toNat * f.binade + keptN f m p < f.infRung := by
      rw [hi]
      have h0 : (lastP f m p - f.leastPlace).toNat + 3 ≤ maxRung f := by omega
      have := Nat.mul_le_mul_right f.binade h0
      rw [Nat.add_mul] at this
      omega
    unfold Mag MagD
    rw [nearest_eq f neg p hm, Nat.min_eq_left (Nat.le_of_lt hrung), read_word _ _ _ (by omega)]
    by_cases hsub : (lastP f m p - f.leastPlace).toNat * f.binade + keptN f m p < f.binade
    · rw [if_pos hsub]
      refine ⟨_, _, _, rfl, ?_⟩
      generalize (lastP f m p - f.leastPlace).toNat * f.binade + keptN f m p = R at *
      by_cases hR : R = 0
      · exact .inl hR
      · right
        have : R.log2 < f.fractionBits := (Nat.log2_lt hR).2 hsub
        omega
    · rw [if_neg hsub, if_pos hrung]
      have hk : f.binade ≤ keptN f m p := by
        by_cases hz : (lastP f m p - f.leastPlace).toNat = 0
        · rw [hz] at hsub; omega
        · exact b2 (by rcases hl2 with e | e <;> omega)
      refine ⟨_, _, _, rfl, .inr ?_⟩
      rcases Nat.lt_or_eq_of_le b1 with hk2 | hk2
      · have e : (lastP f m p - f.leastPlace).toNat * f.binade + keptN f m p = (keptN f m p - f.binade) + f.binade * ((lastP f m p - f.leastPlace).toNat + 1) := by
          rw [Nat.mul_add, Nat.mul_comm]; omega
        rw [e, Nat.add_mul_mod_self_left, Nat.mod_eq_of_lt (by omega), Nat.add_mul_div_left _ _ hbp, Nat.div_eq_of_lt (by omega)]
        have e2 : f.binade + (keptN f m p - f.binade) = keptN f m p := by omega
        rw [e2]
        have lk : (keptN f m p).log2 = f.fractionBits := by
          rw [Nat.log2_eq_iff (by omega)]
          refine ⟨hk, ?_⟩
          rw [Nat.pow_succ]
          have : 2 ^ f.fractionBits = f.binade := rfl
          omega
        rw [lk]; omega
      · have e : (lastP f m p - f.leastPlace).toNat * f.binade + keptN f m p = 0 + f.binade * ((lastP f m p - f.leastPlace).toNat + 2) := by
          rw [Nat.mul_add, Nat.mul_comm]; omega
        have lb : f.binade.log2 = f.fractionBits := by unfold Format.binade; exact Nat.log2_two_pow
        rw [e, Nat.add_mul_mod_self_left, Nat.zero_mod, Nat.add_mul_div_left _ _ hbp, Nat.zero_div]
        rw [Nat.add_zero f.binade, lb]
        omega
theorem conv_mag {s k : FloatKind} {w : Nat} {E : Int} (h : Mag s.format w E) (hE : -100 ≤ E) (hE2 : E ≤ 100) : ∃ r, fconv s k w = some r ∧ Mag k.format r (E + 1) := by
  unfold fconv
  by_cases hsk : s = k
  · subst hsk
    exact ⟨w, by simp [fkEq], h.mono (by omega)⟩
  · obtain ⟨n, m, p, hr, hu⟩ := h
    have hn := nearest_mag (fmtMag k) n hu hE hE2
    have hd : s.decode w = .number n m p := hr
    have hi : (k.decode (k.encode (.number n m p))).isInfinity = false := by
      obtain ⟨n', m', p', hr', _⟩ := hn
      have : k.decode (k.encode (.number n m p)) = .number n' m' p' := hr'
      rw [this]; rfl
    refine ⟨k.encode (.number n m p), ?_, hn⟩
    simp [fkEq, hsk, hd, hi]
/-- A quotient of two integers. -/
theorem quot_mag {f : Format} (hf : FmtMag f) {s t : Nat} (hs : Ex f s 0) (ht : Ex f t 0) (h0 : 0 < t) (h20 : s < 2 ^ 20) : ∃ r, f.div (f.nearest false s 0) (f.nearest false t 0) = some r ∧ Mag f r 30 := by
  obtain ⟨a, P, h1, h2⟩ := read_ex hf.toFmtOk false hs
  obtain ⟨b, Q, h3, h4⟩ := read_ex hf.toFmtOk false ht
  obtain ⟨h4, h4'⟩ := h4 (by omega)
  unfold Format.div
  rw [h1, h3]
  have hb0 : t * 2 ^ b ≠ 0 := Nat.mul_ne_zero (by omega) (Nat.pos_iff_ne_zero.1 (Nat.two_pow_pos b))
  simp only [Datum.quotient, if_neg hb0, Option.map_some, Format.write]
  refine ⟨_, rfl, (nearest_mag hf _ (E := 25) ?_ (by omega) (by omega)).mono (by omega)⟩
  by_cases hs0 : s = 0
  · left
    subst hs0
    simp [shl_eq]
  · right
    obtain ⟨h2, h2'⟩ := h2 hs0
    rw [log2_mul_pow b (by omega), log2_mul_pow a hs0]
    generalize hmore : f.fractionBits + 2 + (t.log2 + b) - (s.log2 + a) = more
    rw [shl_eq, Nat.mul_assoc, ← Nat.pow_add]
    have hsl : s.log2 < 20 := (Nat.log2_lt hs0).2 h20
    have hc : ∃ c, a + more = b + c := ⟨a + more - b, by omega⟩
    obtain ⟨c, hc⟩ := hc
    rw [hc]
    have hdiv : s * 2 ^ (b + c) / (t * 2 ^ b) = s * 2 ^ c / t := by
      rw [Nat.pow_add, Nat.mul_comm (2 ^ b), ← Nat.mul_assoc, Nat.mul_div_mul_right _ _ (Nat.two_pow_pos b)]
    rw [hdiv]
    have hbit : (s * 2 ^ (b + c) % (t * 2 ^ b) != 0).toNat ≤ 1 := by cases (s * 2 ^ (b + c) % (t * 2 ^ b) != 0) <;> decide
    have hq : s * 2 ^ c / t ≤ s * 2 ^ c := Nat.div_le_self _ _
    have hlt : s * 2 ^ c < 2 ^ (20 + c) := by
      rw [Nat.pow_add]
      exact Nat.mul_lt_mul_of_pos_right h20 (Nat.two_pow_pos c)
    generalize hw : 2 * (s * 2 ^ c / t) + (s * 2 ^ (b + c) % (t * 2 ^ b) != 0).toNat = w
    have hlg : w = 0 ∨ w.log2 < 22 + c := by
      by_cases h : w = 0
      · exact .inl h
      · right
        rw [Nat.log2_lt h, show 22 + c = (20 + c) + 2 by omega, Nat.pow_add]
        omega
    rcases hlg with hz | hlg
    · rw [hz]
      have : Nat.log2 0 = 0 := by decide
      rw [this]; omega
    · omega
end Go.Proofs.Ytmllgpkgjniomaa.AWN

namespace Go.Proofs.Ytmllgpkgjniomaa.AWN
open Go Ieee
theorem ex_read {f : Format} (h2 : 1 < maxRung f) {w : Nat} {neg : Bool} {m : Nat} {p : Int} (h : f.read w = .number neg m p) : Ex f m p := by
  unfold Format.read at h
  simp only at h
  have hb : 0 < f.binade := Nat.two_pow_pos _
  have e2 : 2 ^ (f.fractionBits + 1) = 2 * f.binade := by rw [Format.binade, Nat.pow_succ]; omega
  split at h
  · rename_i hr
    injection h with h0 h1 h3
    subst h3; subst h1
    have hl : w % f.signWeight = 0 ∨ (w % f.signWeight).log2 < f.fractionBits := by
      by_cases h0 : w % f.signWeight = 0
      · exact .inl h0
      · exact .inr ((Nat.log2_lt h0).2 hr)
    refine ⟨by omega, Int.le_refl _, ?_⟩
    rcases hl with hl | hl
    · rw [hl, show Nat.log2 0 = 0 from by decide]; omega
    · omega
  · split at h
    · rename_i hr hi
      injection h with h0 h1 h3
      subst h3; subst h1
      have hm := Nat.mod_lt (w % f.signWeight) hb
      have hd : w % f.signWeight / f.binade < maxRung f := (Nat.div_lt_iff_lt_mul hb).2 hi
      have hd0 : 1 ≤ w % f.signWeight / f.binade := (Nat.le_div_iff_mul_le hb).2 (by omega)
      have hlo : (f.binade + w % f.signWeight % f.binade).log2 < f.fractionBits + 1 := (Nat.log2_lt (by omega)).2 (by omega)
      exact ⟨by omega, by omega, by omega⟩
    · split at h <;> cases h
/-- What is read is written again. -/
theorem nearest_read {f : Format} (h2 : 1 < maxRung f) (hs : f.infRung < f.signWeight) {w : Nat} (hw : w < 2 * f.signWeight) {neg : Bool} {m : Nat} {p : Int} (h : f.read w = .number neg m p) : f.nearest neg m p = w := by
  have hx := ex_read h2 h
  have hsg : 0 < f.signWeight := by omega
  have hq : w / f.signWeight < 2 := (Nat.div_lt_iff_lt_mul hsg).2 hw
  have hdm := Nat.div_add_mod w f.signWeight
  have hb : 0 < f.binade := Nat.two_pow_pos _
  have hwd : ∀ r, r = w % f.signWeight → neg = (w / f.signWeight % 2 == 1) → f.word neg r = w := by
    intro r hr hn
    subst hr
    unfold Format.word
    rcases (show w / f.signWeight = 0 ∨ w / f.signWeight = 1 by generalize w / f.signWeight = z at hq ⊢; omega) with h0 | h0
    · rw [h0] at hn hdm
      rw [hn, if_neg (by decide)]; omega
    · rw [h0] at hn hdm
      rw [hn, if_pos (by decide)]; omega
  by_cases hm : m = 0
  · subst hm
    rw [nearest_zero]
    unfold Format.read at h
    simp only at h
    split at h
    · injection h with h0 h1 h3
      exact hwd 0 h1.symm h0.symm
    · split at h
      · injection h with h0 h1 h3; omega
      · split at h <;> cases h
  · obtain ⟨h1, h3⟩ := kept_exact f hm hx.size hx.least
    rw [nearest_eq f neg p hm, h3]
    unfold Format.read at h
    simp only at h
    split at h
    · rename_i hr
      injection h with h0 h1' h4
      subst h1'
      have hl : lastP f (w % f.signWeight) p = p := by
        have : (w % f.signWeight).log2 < f.fractionBits := (Nat.log2_lt hm).2 hr
        unfold lastP; omega
      rw [hl, h4]
      simp only [Int.sub_self, Int.toNat_zero, Nat.pow_zero, Nat.mul_one, Nat.zero_mul, Nat.zero_add]
      rw [Nat.min_eq_left (by have : f.binade ≤ f.infRung := Nat.le_mul_of_pos_left _ (by show 0 < maxRung f; omega); omega)]
      exact hwd _ rfl h0.symm
    · split at h
      · rename_i hr hi
        injection h with h0 h1' h4
        subst h1'
        have hmm := Nat.mod_lt (w % f.signWeight) hb
        have hd0 : 1 ≤ w % f.signWeight / f.binade := (Nat.le_div_iff_mul_le hb).2 (by omega)
        have hlo : (f.binade + w % f.signWeight % f.binade).log2 = f.fractionBits := by
          have a1 : (f.binade + w % f.signWeight % f.binade).log2 < f.fractionBits + 1 := (Nat.log2_lt (by omega)).2 (by rw [Nat.pow_succ]; show _ < f.binade * 2; omega)
          have a2 : ¬ (f.binade + w % f.signWeight % f.binade).log2 < f.fractionBits := fun hc => by
            have := (Nat.log2_lt (by omega)).1 hc
            have : f.binade + w % f.signWeight % f.binade < f.binade := this
            omega
          omega
        have hl : lastP f (f.binade + w % f.signWeight % f.binade) p = p := by unfold lastP; rw [hlo]; omega
        rw [hl]
        simp only [Int.sub_self, Int.toNat_zero, Nat.pow_zero, Nat.mul_one]
        have e : (p - f.leastPlace).toNat * f.binade + (f.binade + w % f.signWeight % f.binade) = w % f.signWeight := by
          have hp : (p - f.leastPlace).toNat = w % f.signWeight / f.binade - 1 := by omega
          have hdm2 := Nat.div_add_mod (w % f.signWeight) f.binade
          rw [hp, Nat.sub_mul, Nat.one_mul, Nat.mul_comm]
          have : f.binade * 1 ≤ f.binade * (w % f.signWeight / f.binade) := Nat.mul_le_mul_left _ hd0
          omega
        rw [e, Nat.min_eq_left (by omega)]
        exact hwd _ rfl h0.symm
      · split at h <;> cases h
theorem ex_wide {m : Nat} {p : Int} (h : Ex single m p) : Ex double m p := by
  obtain ⟨h1, h2, h3⟩ := h
  have e1 : single.fractionBits = 23 := rfl
  have e2 : double.fractionBits = 52 := rfl
  have e3 : single.leastPlace = -149 := by decide
  have e4 : double.leastPlace = -1074 := by decide
  have e5 : maxRung single = 255 := by decide
  have e6 : maxRung double = 2047 := by decide
  rw [e1, e3, e5] at h3
  rw [e3] at h2
  rw [e1] at h1
  exact ⟨by rw [e2]; exact Nat.lt_of_lt_of_le h1 (by decide), by rw [e4]; omega, by rw [e2, e4, e6]; omega⟩
theorem sgl_ok : 1 < maxRung single := by decide
theorem dbl_ok : 1 < maxRung double := by decide
/-- Made wide: always, and it is a NaN where it was one. -/
theorem wide_some (x : Nat) : ∃ r, fconv .f32 .f64 x = some r ∧ isnan .f64 r = isnan .f32 x ∧ (∀ neg m p, single.read x = .number neg m p → r = double.nearest neg m p) := by
  unfold fconv
  rw [show fkEq .f32 .f64 = false from rfl, cond_false]
  have hd : FloatKind.f32.decode x = single.read x := rfl
  rw [hd]
  cases h : single.read x with
  | nan s t =>
    refine ⟨qnan .f64, rfl, ?_, fun _ _ _ h => nomatch h⟩
    unfold isnan
    rw [show FloatKind.f32.format.read x = single.read x from rfl, h]; show _ = true; decide
  | infinity s =>
    refine ⟨_, rfl, ?_, fun _ _ _ h => nomatch h⟩
    unfold isnan
    rw [show FloatKind.f32.format.read x = single.read x from rfl, h]
    cases s <;> decide
  | number s m p =>
    have hx := ex_wide (ex_read sgl_ok h)
    obtain ⟨a, P, hr, _⟩ := read_ex (fmtOk .f64) s hx
    have hr' : FloatKind.f64.decode (FloatKind.f64.encode (.number s m p)) = .number s (m * 2 ^ a) P := hr
    refine ⟨FloatKind.f64.encode (.number s m p), ?_, ?_, fun neg m' p' he => ?_⟩
    · simp only [hr']; rfl
    · unfold isnan
      rw [show FloatKind.f32.format.read x = single.read x from rfl, h]
      have : FloatKind.f64.format.read (FloatKind.f64.encode (.number s m p)) = .number s (m * 2 ^ a) P := hr
      rw [this]; rfl
    · injection he with e1 e2 e3; subst e1; subst e2; subst e3; rfl
theorem eql_self (k : FloatKind) (a : Nat) : fcmp .eql k a a = !isnan k a := by
  unfold fcmp isnan
  simp only [Ieee.Format.order]
  have cc : ∀ (z : Int), compare z z = .eq := fun z => by
    show compareOfLessAndEq z z = .eq
    unfold compareOfLessAndEq
    rw [if_neg (by omega), if_pos rfl]
  have cn : ∀ (z : Nat), compare z z = .eq := fun z => by
    show compareOfLessAndEq z z = .eq
    unfold compareOfLessAndEq
    rw [if_neg (by omega), if_pos rfl]
  cases k.format.read a with
  | number s m i => simp only [Ieee.Datum.order, cc]; rfl
  | infinity s => simp only [Ieee.Datum.order, cn]; rfl
  | nan s m => rfl
end Go.Proofs.Ytmllgpkgjniomaa.AWN
