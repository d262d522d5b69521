/- Rounding: what is exact; what stays between 0 and 1. -/
import Derived.Test.YtdgkahieegcmeaaDoorPCalcA
import Derived.Test.YtdgkahieegcmeaaDoorPCalcC
set_option linter.unusedVariables false
set_option linter.unusedSimpArgs false
set_option linter.unusedSectionVars false
namespace Go.Proofs.YtdgkahieegcmeaaDoor.AWN
open Go Ieee

theorem shl_eq (a b : Nat) : a <<< b = a * 2 ^ b := Nat.shiftLeft_eq a b
theorem log2_mul_pow {m : Nat} (k : Nat) (h : m ≠ 0) : (m * 2 ^ k).log2 = m.log2 + k := by
  have h2 : m * 2 ^ k ≠ 0 := Nat.mul_ne_zero h (Nat.pos_iff_ne_zero.1 (Nat.two_pow_pos k))
  rw [Nat.log2_eq_iff h2]
  have h3 := Nat.log2_self_le h
  have h4 := @Nat.lt_log2_self m
  constructor
  · rw [Nat.pow_add]; exact Nat.mul_le_mul_right _ h3
  · rw [show m.log2 + k + 1 = (m.log2 + 1) + k by omega, Nat.pow_add]
    exact Nat.mul_lt_mul_of_pos_right h4 (Nat.two_pow_pos k)

theorem cut_zero (neg : Bool) (n : Nat) : Toward.even.cut neg n 0 = n := by
  simp [Toward.cut, Nat.mod_one]
/-- Past the whole of a number, all is dropped. -/
theorem cut_gap {n drop : Nat} (neg : Bool) (way : Toward) : way.cut neg n drop = way.cut neg n (min drop (n.log2 + 2)) := by
  have : min (min drop (n.log2 + 2)) (n.log2 + 2) = min drop (n.log2 + 2) := by omega
  simp [Toward.cut, this]

theorem cut_even (neg : Bool) (n drop : Nat) : Toward.even.cut neg n drop = n / 2 ^ drop + (decide (2 ^ drop < 2 * (n % 2 ^ drop)) || (2 ^ drop == 2 * (n % 2 ^ drop) && n / 2 ^ drop % 2 == 1)).toNat := by
  by_cases h : drop ≤ n.log2 + 2
  · unfold Toward.cut
    rw [Nat.min_eq_left h]
    simp [shl_eq]
  · have hn : n < 2 ^ (n.log2 + 1) := Nat.lt_log2_self
    have h1 : 2 ^ (n.log2 + 2) ≤ 2 ^ drop := Nat.pow_le_pow_right (by decide) (by omega)
    have h2 : 2 ^ (n.log2 + 2) = 2 * 2 ^ (n.log2 + 1) := by rw [Nat.pow_succ]; omega
    have h3 : n < 2 ^ (n.log2 + 2) := by omega
    have d1 : n / 2 ^ drop = 0 := Nat.div_eq_of_lt (by omega)
    have d2 : n % 2 ^ drop = n := Nat.mod_eq_of_lt (by omega)
    have d3 : n / 2 ^ (n.log2 + 2) = 0 := Nat.div_eq_of_lt h3
    have d4 : n % 2 ^ (n.log2 + 2) = n := Nat.mod_eq_of_lt h3
    unfold Toward.cut
    rw [Nat.min_eq_right (by omega), shl_eq, Nat.one_mul]
    simp only [d1, d2, d3, d4]
    have e1 : decide (2 ^ (n.log2 + 2) < 2 * n) = false := by simp; omega
    have e2 : decide (2 ^ drop < 2 * n) = false := by simp; omega
    rw [e1, e2]
    simp

theorem cut_shift (neg : Bool) (n drop k : Nat) : Toward.even.cut neg (n * 2 ^ k) (drop + k) = Toward.even.cut neg n drop := by
  have hk := Nat.two_pow_pos k
  rw [cut_even, cut_even, Nat.pow_add, Nat.mul_div_mul_right _ _ hk, Nat.mul_mod_mul_right]
  have e1 : decide (2 ^ drop * 2 ^ k < 2 * (n % 2 ^ drop * 2 ^ k)) = decide (2 ^ drop < 2 * (n % 2 ^ drop)) := by
    rw [← Nat.mul_assoc]
    exact decide_eq_decide.2 ⟨fun h => Nat.lt_of_mul_lt_mul_right h, fun h => Nat.mul_lt_mul_of_pos_right h hk⟩
  have e2 : (2 ^ drop * 2 ^ k == 2 * (n % 2 ^ drop * 2 ^ k)) = (2 ^ drop == 2 * (n % 2 ^ drop)) := by
    rw [← Nat.mul_assoc]
    rw [Bool.eq_iff_iff]
    simp only [beq_iff_eq]
    exact ⟨fun h => Nat.eq_of_mul_eq_mul_right hk h, fun h => congrArg (· * 2 ^ k) h⟩
  rw [e1, e2]

/-- The same number, written otherwise. -/
theorem nearest_shift (f : Format) (neg : Bool) (m k : Nat) (p : Int) : f.nearest neg (m * 2 ^ k) p = f.nearest neg m (p + k) := by
  unfold Format.nearest
  by_cases hm : m = 0
  · subst hm; simp
  have hm2 : m * 2 ^ k ≠ 0 := Nat.mul_ne_zero hm (Nat.pos_iff_ne_zero.1 (Nat.two_pow_pos k))
  rw [if_neg hm, if_neg hm2]
  dsimp only
  rw [log2_mul_pow k hm]
  have el : p + ((m.log2 + k : Nat) : Int) - f.fractionBits = p + k + m.log2 - f.fractionBits := by omega
  rw [el]
  generalize hlast : max (p + k + m.log2 - f.fractionBits : Int) f.leastPlace = last
  have key : Toward.even.cut neg ((m * 2 ^ k) <<< (p - last).toNat) (last - p).toNat = Toward.even.cut neg (m <<< (p + k - last).toNat) (last - (p + k)).toNat := by
    rw [shl_eq, shl_eq]
    rcases Int.le_total (p + k) last with h | h
    · rw [show (p - last).toNat = 0 by omega, show (p + k - last).toNat = 0 by omega, show (last - p).toNat = (last - (p + k)).toNat + k by omega]
      simp only [Nat.pow_zero, Nat.mul_one]
      exact cut_shift ..
    · rw [show (last - (p + k)).toNat = 0 by omega]
      rcases Int.le_total p last with h' | h'
      · rw [show (p - last).toNat = 0 by omega, Nat.pow_zero, Nat.mul_one]
        have : k = (p + k - last).toNat + (last - p).toNat := by omega
        generalize (p + k - last).toNat = a at *
        generalize (last - p).toNat = b at *
        subst this
        rw [Nat.pow_add, ← Nat.mul_assoc]
        have := cut_shift neg (m * 2 ^ a) 0 b
        simpa using this
      · rw [show (last - p).toNat = 0 by omega, cut_zero, cut_zero, Nat.mul_assoc, ← Nat.pow_add]
        congr 2
        omega
  rw [key]

theorem nearest_zero (f : Format) (neg : Bool) (p : Int) : f.nearest neg 0 p = f.word neg 0 := by simp [Format.nearest]
theorem nearest_scale (f : Format) (neg : Bool) {m m' : Nat} {p p' : Int} (k k' : Nat) (h : m * 2 ^ k = m' * 2 ^ k') (hp : p - k = p' - k') : f.nearest neg m p = f.nearest neg m' p' := by
  have h1 := nearest_shift f neg m k (p - k)
  have h2 := nearest_shift f neg m' k' (p' - k')
  rw [show p - (k : Int) + k = p by omega] at h1
  rw [show p' - (k' : Int) + k' = p' by omega] at h2
  rw [← h1, ← h2, h, hp]

/-- The place of the last digit that is kept. -/
def lastP (f : Format) (m : Nat) (p : Int) : Int := max (p + m.log2 - f.fractionBits) f.leastPlace
def keptN (f : Format) (m : Nat) (p : Int) : Nat := Toward.even.cut false (m <<< (p - lastP f m p).toNat) (lastP f m p - p).toNat
theorem nearest_eq (f : Format) (neg : Bool) {m : Nat} (p : Int) (hm : m ≠ 0) : f.nearest neg m p = f.word neg (min ((lastP f m p - f.leastPlace).toNat * f.binade + keptN f m p) f.infRung) := by
  unfold Format.nearest
  rw [if_neg hm]
  dsimp only
  rw [show Toward.even.cut neg = Toward.even.cut false by funext a b; rw [cut_even, cut_even]]
  rfl

theorem cut_le (n drop M : Nat) (h : n ≤ M * 2 ^ drop) : Toward.even.cut false n drop ≤ M := by
  rw [cut_even]
  have hp := Nat.two_pow_pos drop
  have hdm := Nat.div_add_mod n (2 ^ drop)
  have hml := Nat.mod_lt n hp
  by_cases hr : n % 2 ^ drop = 0
  · have : n / 2 ^ drop ≤ M := Nat.div_le_of_le_mul (by rw [Nat.mul_comm]; exact h)
    have e1 : decide (2 ^ drop < 2 * (n % 2 ^ drop)) = false := by rw [hr]; simp
    have e2 : (2 ^ drop == 2 * (n % 2 ^ drop)) = false := by rw [hr]; simp
    rw [e1, e2]
    simpa using this
  · have : n / 2 ^ drop < M := by
      rw [Nat.div_lt_iff_lt_mul hp]
      rcases Nat.lt_or_eq_of_le h with h' | h'
      · exact h'
      · exfalso; apply hr; rw [h']; exact Nat.mul_mod_left ..
    have hb : ∀ b : Bool, b.toNat ≤ 1 := by intro b; cases b <;> decide
    have := hb (decide (2 ^ drop < 2 * (n % 2 ^ drop)) || (2 ^ drop == 2 * (n % 2 ^ drop) && n / 2 ^ drop % 2 == 1))
    omega
theorem cut_ge (n drop M : Nat) (h : M * 2 ^ drop ≤ n) : M ≤ Toward.even.cut false n drop := by
  rw [cut_even]
  have : M ≤ n / 2 ^ drop := (Nat.le_div_iff_mul_le (Nat.two_pow_pos drop)).2 h
  omega

/-- What is kept has all its digits, or stands at the least place. -/
theorem kept_bounds (f : Format) {m : Nat} {p : Int} (hm : m ≠ 0) : keptN f m p ≤ 2 * f.binade ∧ (f.leastPlace ≤ p + m.log2 - f.fractionBits → f.binade ≤ keptN f m p) := by
  unfold keptN
  have h1 := Nat.log2_self_le hm
  have h2 := @Nat.lt_log2_self m
  generalize hL : m.log2 = L at *
  have hlast : lastP f m p = max (p + L - f.fractionBits) f.leastPlace := by rw [lastP, hL]
  rw [hlast]
  generalize hlst : max (p + L - f.fractionBits : Int) f.leastPlace = last at *
  rw [shl_eq]
  have hb : 2 * f.binade = 2 ^ (f.fractionBits + 1) := by rw [Format.binade, Nat.pow_succ]; omega
  constructor
  · apply cut_le
    rw [hb]
    rw [← Nat.pow_add]
    have : m * 2 ^ (p - last).toNat ≤ 2 ^ (L + 1) * 2 ^ (p - last).toNat := Nat.mul_le_mul_right _ (Nat.le_of_lt h2)
    refine Nat.le_trans this ?_
    rw [← Nat.pow_add]
    exact Nat.pow_le_pow_right (by decide) (by omega)
  · intro hle
    apply cut_ge
    rw [Format.binade, ← Nat.pow_add]
    have : 2 ^ L * 2 ^ (p - last).toNat ≤ m * 2 ^ (p - last).toNat := Nat.mul_le_mul_right _ h1
    refine Nat.le_trans ?_ this
    rw [← Nat.pow_add]
    exact Nat.pow_le_pow_right (by decide) (by omega)

/-- A number that the format has is kept whole. -/
theorem kept_exact (f : Format) {m : Nat} {p : Int} (hm : m ≠ 0) (hs : m < 2 ^ (f.fractionBits + 1)) (hp : f.leastPlace ≤ p) : lastP f m p ≤ p ∧ keptN f m p = m * 2 ^ (p - lastP f m p).toNat := by
  have hL : m.log2 < f.fractionBits + 1 := (Nat.log2_lt hm).2 hs
  have h1 : lastP f m p ≤ p := by unfold lastP; omega
  refine ⟨h1, ?_⟩
  unfold keptN
  rw [show (lastP f m p - p).toNat = 0 by omega, cut_zero, shl_eq]

def maxRung (f : Format) : Nat := 2 ^ f.exponentBits - 1

theorem read_nearest (f : Format) (hf : f.infRung < f.signWeight) (hr : 0 < maxRung f) (neg : Bool) {m : Nat} {p : Int} (hm : m ≠ 0) (hs : m < 2 ^ (f.fractionBits + 1)) (hp : f.leastPlace ≤ p) (hmax : (p + m.log2 - f.fractionBits - f.leastPlace + 1 : Int) < maxRung f) :
    f.read (f.nearest neg m p) = .number neg (m * 2 ^ (p - lastP f m p).toNat) (lastP f m p) := by
  obtain ⟨hle, hk⟩ := kept_exact f hm hs hp
  obtain ⟨b1, b2⟩ := kept_bounds f (p := p) hm
  rw [nearest_eq f neg p hm]
  have hbp : 0 < f.binade := Nat.two_pow_pos _
  have hL : m.log2 < f.fractionBits + 1 := (Nat.log2_lt hm).2 hs
  have hkl : keptN f m p < 2 * f.binade := by
    rw [hk]
    have h2 := @Nat.lt_log2_self m
    have : m * 2 ^ (p - lastP f m p).toNat < 2 ^ (m.log2 + 1) * 2 ^ (p - lastP f m p).toNat := Nat.mul_lt_mul_of_pos_right h2 (Nat.two_pow_pos _)
    rw [← Nat.pow_add] at this
    have h3 : 2 * f.binade = 2 ^ (f.fractionBits + 1) := by rw [Format.binade, Nat.pow_succ]; omega
    rw [h3]
    exact Nat.lt_of_lt_of_le this (Nat.pow_le_pow_right (by decide) (by unfold lastP; omega))
  have hrung : (lastP f m p - f.leastPlace).toNat * f.binade + keptN f m p < f.infRung := by
    have h0 : (lastP f m p - f.leastPlace).toNat + 2 ≤ maxRung f ∨ lastP f m p = f.leastPlace ∧ (keptN f m p < f.binade ∨ 2 ≤ maxRung f) := by
      unfold lastP
      rcases Int.le_total (p + m.log2 - f.fractionBits) f.leastPlace with h | h
      · right
        refine ⟨by omega, ?_⟩
        by_cases he : p + m.log2 - f.fractionBits = f.leastPlace
        · right; omega
        · left
          rw [hk]
          have h2 := @Nat.lt_log2_self m
          have : m * 2 ^ (p - lastP f m p).toNat < 2 ^ (m.log2 + 1) * 2 ^ (p - lastP f m p).toNat := Nat.mul_lt_mul_of_pos_right h2 (Nat.two_pow_pos _)
          rw [← Nat.pow_add] at this
          refine Nat.lt_of_lt_of_le this ?_
          rw [Format.binade]
          exact Nat.pow_le_pow_right (by decide) (by unfold lastP; omega)
      · left; omega
    have hi : f.infRung = maxRung f * f.binade := rfl
    rw [hi]
    rcases h0 with h0 | ⟨h0, h1 | h1⟩
    · have := Nat.mul_le_mul_right f.binade h0
      rw [Nat.add_mul] at this
      omega
    · rw [h0]
      simp only [Int.sub_self, Int.toNat_zero, Nat.zero_mul, Nat.zero_add]
      have : 1 ≤ maxRung f := hr
      have := Nat.mul_le_mul_right f.binade this
      omega
    · rw [h0]
      simp only [Int.sub_self, Int.toNat_zero, Nat.zero_mul, Nat.zero_add]
      have := Nat.mul_le_mul_right f.binade h1
      omega
  rw [Nat.min_eq_left (Nat.le_of_lt hrung), read_word _ _ _ (by omega)]
  rw [← hk]
  by_cases hb : keptN f m p < f.binade
  · have hl : lastP f m p = f.leastPlace := by
      rcases Int.le_total f.leastPlace (p + m.log2 - f.fractionBits) with h | h
      · exact absurd (b2 h) (by omega)
      · unfold lastP; omega
    rw [hl]
    simp only [Int.sub_self, Int.toNat_zero, Nat.zero_mul, Nat.zero_add]
    rw [if_pos hb]
  · have hge : f.binade ≤ keptN f m p := by omega
    have e : (lastP f m p - f.leastPlace).toNat * f.binade + keptN f m p = (keptN f m p - f.binade) + f.binade * ((lastP f m p - f.leastPlace).toNat + 1) := by
      rw [Nat.mul_add, Nat.mul_comm]; omega
    have hmod : ((lastP f m p - f.leastPlace).toNat * f.binade + keptN f m p) % f.binade = keptN f m p - f.binade := by
      rw [e, Nat.add_mul_mod_self_left, Nat.mod_eq_of_lt (by omega)]
    have hdiv : ((lastP f m p - f.leastPlace).toNat * f.binade + keptN f m p) / f.binade = (lastP f m p - f.leastPlace).toNat + 1 := by
      rw [e, Nat.add_mul_div_left _ _ hbp, Nat.div_eq_of_lt (by omega)]; omega
    have hn : ¬ (lastP f m p - f.leastPlace).toNat * f.binade + keptN f m p < f.binade := by omega
    rw [hmod, hdiv, if_neg hn, if_pos hrung]
    congr 1
    · omega
    · have : f.leastPlace ≤ lastP f m p := by unfold lastP; omega
      omega
end Go.Proofs.YtdgkahieegcmeaaDoor.AWN

namespace Go.Proofs.YtdgkahieegcmeaaDoor.AWN
open Go Ieee

structure FmtOk (f : Format) : Prop where
  rung : f.infRung < f.signWeight
  most : 0 < maxRung f
theorem fmtOk (k : FloatKind) : FmtOk k.format := ⟨k.format.infRung_lt, by cases k <;> decide⟩

/-- A number that the format has. -/
structure Ex (f : Format) (m : Nat) (p : Int) : Prop where
  size : m < 2 ^ (f.fractionBits + 1)
  least : f.leastPlace ≤ p
  most : (p + m.log2 - f.fractionBits - f.leastPlace + 1 : Int) < maxRung f

theorem read_ex {f : Format} (hf : FmtOk f) (neg : Bool) {m : Nat} {p : Int} (h : Ex f m p) : ∃ (a : Nat) (P : Int), f.read (f.nearest neg m p) = .number neg (m * 2 ^ a) P ∧ (m ≠ 0 → P = p - a ∧ m.log2 + a ≤ f.fractionBits) := by
  by_cases hm : m = 0
  · subst hm
    refine ⟨0, f.leastPlace, ?_, fun h => absurd rfl h⟩
    rw [nearest_zero, read_word _ _ _ (by have := hf.rung; omega), if_pos (show 0 < f.binade from Nat.two_pow_pos _)]
  · have hL : m.log2 < f.fractionBits + 1 := (Nat.log2_lt hm).2 h.size
    have h1 : lastP f m p ≤ p := by have := h.least; unfold lastP; omega
    refine ⟨(p - lastP f m p).toNat, lastP f m p, read_nearest f hf.rung hf.most neg hm h.size h.least h.most, fun _ => ⟨by omega, ?_⟩⟩
    unfold lastP; omega

theorem mul_ex {f : Format} (hf : FmtOk f) (s t : Bool) {m n : Nat} {p q : Int} (hm : Ex f m p) (hn : Ex f n q) : f.mul (f.nearest s m p) (f.nearest t n q) = some (f.nearest (s ^^ t) (m * n) (p + q)) := by
  obtain ⟨a, P, h1, h2⟩ := read_ex hf s hm
  obtain ⟨b, Q, h3, h4⟩ := read_ex hf t hn
  unfold Format.mul
  rw [h1, h3]
  simp only [Datum.product, Option.map_some, Format.write, Option.some.injEq]
  by_cases hm0 : m = 0
  · subst hm0; simp [nearest_zero]
  by_cases hn0 : n = 0
  · subst hn0; simp [nearest_zero]
  have e : m * 2 ^ a * (n * 2 ^ b) = m * n * 2 ^ (a + b) := by rw [Nat.pow_add, Nat.mul_mul_mul_comm]
  rw [e, nearest_shift]
  congr 1
  have := (h2 hm0).1
  have := (h4 hn0).1
  omega

/-- An integer, in units of a place. -/
def ofZ (f : Format) (z : Int) (p : Int) : Nat := f.nearest (decide (z < 0)) z.natAbs p

theorem signed_eq (z : Int) (a u : Nat) : signed (decide (z < 0)) (z.natAbs * 2 ^ a) u = z * (2 ^ (a + u) : Nat) := by
  unfold signed
  rw [shl_eq, Nat.mul_assoc, ← Nat.pow_add]
  by_cases h : z < 0
  · rw [if_pos (by simpa using h), Int.natCast_mul, ← Int.neg_mul, Int.ofNat_natAbs_of_nonpos (by omega), Int.neg_neg]
  · rw [if_neg (by simpa using h), Int.natCast_mul, Int.natAbs_of_nonneg (by omega)]

theorem signed_zero (s : Bool) (u : Nat) : signed s 0 u = 0 := by unfold signed; rw [shl_eq]; simp
/-- What is read stands for the integer. -/
theorem signed_read {z : Int} {a u : Nat} {p P base : Int} (h : z ≠ 0 → P = p - a) (hb : base ≤ P) (hp : base ≤ p) (hu : u = (P - base).toNat) : signed (decide (z < 0)) (z.natAbs * 2 ^ a) u = z * (2 ^ (p - base).toNat : Nat) := by
  by_cases hz : z = 0
  · subst hz; simp [signed_zero]
  · rw [signed_eq]
    have := h hz
    have e : a + u = (p - base).toNat := by omega
    rw [e]

theorem add_ofZ {f : Format} (hf : FmtOk f) {x y p : Int} (hx : Ex f x.natAbs p) (hy : Ex f y.natAbs p) : f.add (ofZ f x p) (ofZ f y p) = some (ofZ f (x + y) p) := by
  obtain ⟨a, P, h1, h2⟩ := read_ex hf (decide (x < 0)) hx
  obtain ⟨b, Q, h3, h4⟩ := read_ex hf (decide (y < 0)) hy
  unfold Format.add ofZ
  rw [h1, h3]
  simp only [Datum.sum, Option.map_some, Format.write, Option.some.injEq]
  by_cases hx0 : x = 0 ∧ y = 0
  · obtain ⟨rfl, rfl⟩ := hx0
    simp [signed_zero, nearest_zero]
  have hbp : min P Q ≤ p := by
    by_cases hx1 : x = 0
    · have := (h4 (by omega)).1; omega
    · have := (h2 (by omega)).1; omega
  have e1 := signed_read (z := x) (a := a) (P := P) (p := p) (base := min P Q) (fun h => (h2 (by omega)).1) (by omega) hbp rfl
  have e2 := signed_read (z := y) (a := b) (P := Q) (p := p) (base := min P Q) (fun h => (h4 (by omega)).1) (by omega) hbp rfl
  rw [e1, e2, ← Int.add_mul]
  have hpos : (0 : Int) < (2 ^ (p - min P Q).toNat : Nat) := by have := Nat.two_pow_pos (p - min P Q).toNat; omega
  have e3 : (if (x + y) * ((2 ^ (p - min P Q).toNat : Nat) : Int) = 0 then decide (x < 0) && decide (y < 0) else decide ((x + y) * ((2 ^ (p - min P Q).toNat : Nat) : Int) < 0)) = decide (x + y < 0) := by
    by_cases hz : x + y = 0
    · rw [hz, Int.zero_mul, if_pos rfl]
      by_cases hx2 : x < 0
      · simp [hx2]; omega
      · simp [hx2]
    · have hne : (x + y) * ((2 ^ (p - min P Q).toNat : Nat) : Int) ≠ 0 := Int.mul_ne_zero hz (by omega)
      rw [if_neg hne]
      apply decide_eq_decide.2
      constructor
      · intro h; exact Int.not_le.1 fun h' => absurd (Int.mul_nonneg h' (Int.le_of_lt hpos)) (by omega)
      · intro h; exact Int.mul_neg_of_neg_of_pos h hpos
  rw [e3, Int.natAbs_mul, Int.natAbs_natCast, nearest_shift]
  congr 1
  omega

theorem order_ofZ {f : Format} (hf : FmtOk f) {x y p : Int} (hx : Ex f x.natAbs p) (hy : Ex f y.natAbs p) : f.order (ofZ f x p) (ofZ f y p) = some (compare x y) := by
  obtain ⟨a, P, h1, h2⟩ := read_ex hf (decide (x < 0)) hx
  obtain ⟨b, Q, h3, h4⟩ := read_ex hf (decide (y < 0)) hy
  unfold Format.order ofZ
  rw [h1, h3]
  simp only [Datum.order, Option.some.injEq]
  by_cases hx0 : x = 0 ∧ y = 0
  · obtain ⟨rfl, rfl⟩ := hx0
    simp [signed_zero]
  have hbp : min P Q ≤ p := by
    by_cases hx1 : x = 0
    · have := (h4 (by omega)).1; omega
    · have := (h2 (by omega)).1; omega
  have e1 := signed_read (z := x) (a := a) (P := P) (p := p) (base := min P Q) (fun h => (h2 (by omega)).1) (by omega) hbp rfl
  have e2 := signed_read (z := y) (a := b) (P := Q) (p := p) (base := min P Q) (fun h => (h4 (by omega)).1) (by omega) hbp rfl
  rw [e1, e2]
  have hpos : (0 : Int) < (2 ^ (p - min P Q).toNat : Nat) := by have := Nat.two_pow_pos (p - min P Q).toNat; omega
  generalize ((2 ^ (p - min P Q).toNat : Nat) : Int) = c at *
  show compareOfLessAndEq _ _ = compareOfLessAndEq _ _
  unfold compareOfLessAndEq
  have l : x * c < y * c ↔ x < y := ⟨fun h => Int.lt_of_mul_lt_mul_right h (Int.le_of_lt hpos), fun h => Int.mul_lt_mul_of_pos_right h hpos⟩
  have e : x * c = y * c ↔ x = y := ⟨fun h => Int.eq_of_mul_eq_mul_right (by omega) h, fun h => by rw [h]⟩
  simp only [l, e]

/-! ### Between 0 and 1 -/
/-- A number from 2^-100 to 1, by its binary digits. -/
structure Unit1 (m : Nat) (p : Int) : Prop where
  ne : m ≠ 0
  low : -100 ≤ p + m.log2
  high : p + m.log2 < 0 ∨ (p + m.log2 = 0 ∧ m = 2 ^ m.log2)

/-- A word whose number is such a one. -/
def U1 (f : Format) (w : Nat) : Prop := ∃ m p, f.read w = .number false m p ∧ Unit1 m p

structure FmtBig (f : Format) : Prop extends FmtOk f where
  deep : f.leastPlace ≤ -100 - f.fractionBits
  room : (0 : Int) - f.fractionBits - f.leastPlace + 1 < maxRung f
theorem fmtBig (k : FloatKind) : FmtBig k.format := { fmtOk k with deep := by cases k <;> decide, room := by cases k <;> decide }

theorem nearest_unit {f : Format} (hf : FmtBig f) {m : Nat} {p : Int} (h : Unit1 m p) : U1 f (f.nearest false m p) := by
  have hm := h.ne
  have hd := hf.deep
  have hr := hf.room
  have hl := h.low
  obtain ⟨b1, b2⟩ := kept_bounds f (p := p) hm
  have hlast : lastP f m p = p + m.log2 - f.fractionBits := by unfold lastP; omega
  have b2 := b2 (by omega)
  have hbp : 0 < f.binade := Nat.two_pow_pos _
  have hi : f.infRung = maxRung f * f.binade := rfl
  have lb : f.binade.log2 = f.fractionBits := by unfold Format.binade; exact Nat.log2_two_pow
  rcases h.high with hh | ⟨hh, hpow⟩
  · -- below 1
    have hrung : (lastP f m p - f.leastPlace).toNat * f.binade + keptN f m p < f.infRung := by
      rw [hi]
      have h0 : (lastP f m p - f.leastPlace).toNat + 3 ≤ maxRung f := by omega
      have := Nat.mul_le_mul_right f.binade h0
      rw [Nat.add_mul] at this
      omega
    unfold U1
    rw [nearest_eq f false p hm, Nat.min_eq_left (Nat.le_of_lt hrung), read_word _ _ _ (by have := hf.rung; omega), if_neg (by omega), if_pos hrung]
    refine ⟨_, _, rfl, ?_⟩
    rcases Nat.lt_or_eq_of_le b1 with hk | hk
    · have e : (lastP f m p - f.leastPlace).toNat * f.binade + keptN f m p = (keptN f m p - f.binade) + f.binade * ((lastP f m p - f.leastPlace).toNat + 1) := by
        rw [Nat.mul_add, Nat.mul_comm]; omega
      rw [e, Nat.add_mul_mod_self_left, Nat.mod_eq_of_lt (by omega), Nat.add_mul_div_left _ _ hbp, Nat.div_eq_of_lt (by omega)]
      have e2 : f.binade + (keptN f m p - f.binade) = keptN f m p := by omega
      rw [e2]
      have lk : (keptN f m p).log2 = f.fractionBits := by
        rw [Nat.log2_eq_iff (by omega)]
        refine ⟨b2, ?_⟩
        rw [Nat.pow_succ]
        have : 2 ^ f.fractionBits = f.binade := rfl
        omega
      exact ⟨by omega, by rw [lk]; omega, .inl (by rw [lk]; omega)⟩
    · have e : (lastP f m p - f.leastPlace).toNat * f.binade + keptN f m p = 0 + f.binade * ((lastP f m p - f.leastPlace).toNat + 2) := by
        rw [Nat.mul_add, Nat.mul_comm]; omega
      rw [e, Nat.add_mul_mod_self_left, Nat.zero_mod, Nat.add_mul_div_left _ _ hbp, Nat.zero_div]
      rw [Nat.add_zero]
      refine ⟨by omega, by rw [lb]; omega, ?_⟩
      rw [lb]
      rcases Int.lt_or_eq_of_le (show f.leastPlace + (0 + ((lastP f m p - f.leastPlace).toNat + 2) - 1 : Nat) + f.fractionBits ≤ 0 by omega) with h5 | h5
      · exact .inl h5
      · exact .inr ⟨h5, rfl⟩
  · -- 1 itself
    have hone : f.nearest false m p = f.nearest false 1 0 := by
      rw [hpow]
      have := nearest_shift f false 1 m.log2 p
      rw [Nat.one_mul] at this
      rw [this, hh]
    have ex : Ex f 1 0 := ⟨Nat.one_lt_two_pow (by omega), by omega, by rw [show Nat.log2 1 = 0 by decide]; simpa using hr⟩
    obtain ⟨a, P, h1, h2⟩ := read_ex hf.toFmtOk false ex
    rw [hone]
    have := h2 (by decide)
    refine ⟨_, _, h1, ?_⟩
    rw [Nat.one_mul]
    exact ⟨Nat.pos_iff_ne_zero.1 (Nat.two_pow_pos a), by rw [Nat.log2_two_pow]; omega, .inr (by rw [Nat.log2_two_pow]; exact ⟨by omega, rfl⟩)⟩

theorem log2_one' : Nat.log2 1 = 0 := by decide
theorem one_read (f : Format) (hf : FmtBig f) : ∃ a : Nat, f.read (f.nearest false 1 0) = .number false (2 ^ a) (-(a : Int)) := by
  have hd := hf.deep
  have ex : Ex f 1 0 := ⟨Nat.one_lt_two_pow (by omega), by omega, by rw [log2_one']; simpa using hf.room⟩
  obtain ⟨a, P, h1, h2⟩ := read_ex hf.toFmtOk false ex
  have := h2 (by decide)
  exact ⟨a, by rw [h1, Nat.one_mul]; congr 1; omega⟩

/-- It is not above 1, and above 0. -/
theorem unit_order {f : Format} (hf : FmtBig f) {w : Nat} (h : U1 f w) : f.order w (f.nearest false 1 0) ≠ some .gt ∧ f.order w 0 = some .gt := by
  obtain ⟨m, p, hr, hu⟩ := h
  obtain ⟨a, ha⟩ := one_read f hf
  constructor
  · unfold Format.order
    rw [hr, ha]
    simp only [Datum.order, ne_eq, Option.some.injEq]
    intro hc
    have hlt : m * 2 ^ (p - min p (-(a:Int))).toNat ≤ 2 ^ a * 2 ^ (-(a:Int) - min p (-(a:Int))).toNat := by
      have hm2 := @Nat.lt_log2_self m
      rw [← Nat.pow_add]
      rcases hu.high with h | ⟨h, e⟩
      · refine Nat.le_trans (Nat.mul_le_mul_right _ (Nat.le_of_lt hm2)) ?_
        rw [← Nat.pow_add]
        exact Nat.pow_le_pow_right (by decide) (by omega)
      · rw [e, ← Nat.pow_add]
        exact Nat.pow_le_pow_right (by decide) (by omega)
    simp only [signed, shl_eq, Bool.false_eq_true, if_false] at hc
    have hc' : compareOfLessAndEq (α := Int) _ _ = .gt := hc
    unfold compareOfLessAndEq at hc'
    split at hc'
    · cases hc'
    · split at hc'
      · cases hc'
      · omega
  · unfold Format.order
    have h0 : f.read 0 = .number false 0 f.leastPlace := by
      have := read_word f false 0 (by have := hf.rung; omega)
      rw [if_pos (show 0 < f.binade from Nat.two_pow_pos _)] at this
      exact this
    rw [hr, h0]
    simp only [Datum.order, Option.some.injEq]
    rw [signed_zero]
    simp only [signed, shl_eq, Bool.false_eq_true, if_false]
    have : 0 < m * 2 ^ (p - min p f.leastPlace).toNat := Nat.mul_pos (Nat.pos_of_ne_zero hu.ne) (Nat.two_pow_pos _)
    show compareOfLessAndEq (α := Int) _ _ = .gt
    unfold compareOfLessAndEq
    rw [if_neg (by omega), if_neg (by omega)]

/-- A quotient of integers from 2^-90 to 1. -/
theorem quot_unit {f : Format} (hf : FmtBig f) {s t : Nat} (hs : Ex f s 0) (ht : Ex f t 0) (h0 : 0 < s) (hst : s ≤ t) (h90 : t ≤ 2 ^ 20) (hfb : 20 ≤ f.fractionBits) : ∃ r, f.div (f.nearest false s 0) (f.nearest false t 0) = some r ∧ U1 f r := by
  obtain ⟨a, P, h1, h2⟩ := read_ex hf.toFmtOk false hs
  obtain ⟨b, Q, h3, h4⟩ := read_ex hf.toFmtOk false ht
  obtain ⟨h2, h2'⟩ := h2 (by omega)
  obtain ⟨h4, h4'⟩ := h4 (by omega)
  unfold Format.div
  rw [h1, h3]
  have hb0 : t * 2 ^ b ≠ 0 := Nat.mul_ne_zero (by omega) (Nat.pos_iff_ne_zero.1 (Nat.two_pow_pos b))
  simp only [Datum.quotient, if_neg hb0, Option.map_some, Format.write]
  refine ⟨_, rfl, nearest_unit hf ?_⟩
  rw [log2_mul_pow b (by omega), log2_mul_pow a (by omega)]
  have hls : s.log2 ≤ t.log2 := by
    rw [Nat.le_log2 (by omega)]
    exact Nat.le_trans (Nat.log2_self_le (by omega)) hst
  have hlt : t.log2 ≤ 20 := by
    have : t.log2 < 21 := (Nat.log2_lt (by omega)).2 (by omega)
    omega
  generalize hmore : f.fractionBits + 2 + (t.log2 + b) - (s.log2 + a) = more
  rw [shl_eq, Nat.mul_assoc, ← Nat.pow_add]
  have hc : ∃ c, a + more = b + c ∧ c = f.fractionBits + 2 + t.log2 - s.log2 := ⟨_, by omega, rfl⟩
  obtain ⟨c, hc, hc'⟩ := hc
  rw [hc]
  have hP : P - Q - more - 1 = -((c : Int) + 1) := by omega
  rw [hP]
  have hdiv : s * 2 ^ (b + c) / (t * 2 ^ b) = s * 2 ^ c / t := by
    rw [Nat.pow_add, Nat.mul_comm (2 ^ b), ← Nat.mul_assoc, Nat.mul_div_mul_right _ _ (Nat.two_pow_pos b)]
  have hmod : s * 2 ^ (b + c) % (t * 2 ^ b) = s * 2 ^ c % t * 2 ^ b := by
    rw [Nat.pow_add, Nat.mul_comm (2 ^ b), ← Nat.mul_assoc, Nat.mul_mod_mul_right]
  have hz : (s * 2 ^ (b + c) % (t * 2 ^ b) != 0) = (s * 2 ^ c % t != 0) := by
    rw [hmod, Bool.eq_iff_iff]
    simp only [bne_iff_ne, ne_eq]
    have := Nat.two_pow_pos b
    constructor
    · intro h h'; exact h (by rw [h', Nat.zero_mul])
    · intro h h'
      rcases Nat.mul_eq_zero.1 h' with h' | h'
      · exact h h'
      · omega
  rw [hdiv, hz]
  have hc20 : 22 ≤ c := by omega
  have hlow : 2 ^ (c - 20) ≤ s * 2 ^ c / t := by
    rw [Nat.le_div_iff_mul_le (by omega)]
    have h5 : 2 ^ (c - 20) * t ≤ 2 ^ (c - 20) * 2 ^ 20 := Nat.mul_le_mul_left _ h90
    rw [← Nat.pow_add, show c - 20 + 20 = c by omega] at h5
    have h6 : 1 * 2 ^ c ≤ s * 2 ^ c := Nat.mul_le_mul_right _ h0
    omega
  have hbit : (s * 2 ^ c % t != 0).toNat ≤ 1 := by cases (s * 2 ^ c % t != 0) <;> decide
  generalize hq : s * 2 ^ c / t = q at *
  have hq0 : 0 < q := Nat.lt_of_lt_of_le (Nat.two_pow_pos _) hlow
  have hlq : c - 19 ≤ (2 * q + (s * 2 ^ c % t != 0).toNat).log2 := by
    rw [Nat.le_log2 (by omega)]
    have : 2 ^ (c - 19) = 2 * 2 ^ (c - 20) := by rw [show c - 19 = (c - 20) + 1 by omega, Nat.pow_succ]; omega
    omega
  rcases Nat.lt_or_eq_of_le hst with hlt' | heq
  · have hq2 : q < 2 ^ c := by
      rw [← hq, Nat.div_lt_iff_lt_mul (by omega), Nat.mul_comm (2 ^ c)]
      exact Nat.mul_lt_mul_of_pos_right hlt' (Nat.two_pow_pos c)
    have hlg : (2 * q + (s * 2 ^ c % t != 0).toNat).log2 < c + 1 := by
      rw [Nat.log2_lt (by omega), Nat.pow_succ]
      omega
    exact ⟨by omega, by omega, .inl (by omega)⟩
  · subst heq
    have hqe : q = 2 ^ c := by rw [← hq, Nat.mul_div_cancel_left _ h0]
    have hm0 : s * 2 ^ c % s = 0 := Nat.mul_mod_right ..
    rw [hm0] at *
    simp only [bne_self_eq_false, Bool.toNat_false, Nat.add_zero] at *
    have e : 2 * q = 2 ^ (c + 1) := by rw [hqe, Nat.pow_succ]; omega
    rw [e]
    exact ⟨Nat.pos_iff_ne_zero.1 (Nat.two_pow_pos _), by rw [Nat.log2_two_pow]; omega, .inr ⟨by rw [Nat.log2_two_pow]; omega, by rw [Nat.log2_two_pow]⟩⟩

/-- A number from 0 to 1, made one of another kind. -/
theorem conv_unit {s k : FloatKind} {w : Nat} (h : U1 s.format w) : ∃ r, fconv s k w = some r ∧ U1 k.format r := by
  unfold fconv
  by_cases hsk : s = k
  · subst hsk
    exact ⟨w, by simp [fkEq], h⟩
  · obtain ⟨m, p, hr, hu⟩ := h
    have hn := nearest_unit (fmtBig k) hu
    have hd : s.decode w = .number false m p := hr
    have hi : (k.decode (k.encode (.number false m p))).isInfinity = false := by
      obtain ⟨m', p', hr', _⟩ := hn
      have : k.decode (k.encode (.number false m p)) = .number false m' p' := hr'
      rw [this]; rfl
    refine ⟨k.encode (.number false m p), ?_, hn⟩
    simp [fkEq, hsk, hd, hi]
end Go.Proofs.YtdgkahieegcmeaaDoor.AWN

namespace Go.Proofs.YtdgkahieegcmeaaDoor.AWN
open Go Ieee

/-- A number, not greater than 2^(E+1). -/
def MagD (d : Datum) (E : Int) : Prop := ∃ neg m p, d = .number neg m p ∧ (m = 0 ∨ p + m.log2 ≤ E)
def Mag (f : Format) (w : Nat) (E : Int) : Prop := MagD (f.read w) E
structure FmtMag (f : Format) : Prop extends FmtBig f where
  high : (100 : Int) - f.fractionBits - f.leastPlace + 3 ≤ maxRung f
theorem fmtMag (k : FloatKind) : FmtMag k.format := { fmtBig k with high := by cases k <;> decide }
theorem Mag.mono {f : Format} {w : Nat} {E F : Int} (h : Mag f w E) (hEF : E ≤ F) : Mag f w F := by
  obtain ⟨n, m, p, h1, h2⟩ := h
  exact ⟨n, m, p, h1, h2.imp id fun h => by omega⟩
theorem Mag.not_nan {k : FloatKind} {w : Nat} {E : Int} (h : Mag k.format w E) : isnan k w = false := by
  obtain ⟨n, m, p, h1, _⟩ := h
  unfold isnan
  rw [h1]; rfl
theorem nearest_mag {f : Format} (hf : FmtMag f) (neg : Bool) {m : Nat} {p E : Int} (h : m = 0 ∨ p + m.log2 ≤ E) (hE : -100 ≤ E) (hE2 : E ≤ 100) : Mag f (f.nearest neg m p) (E + 1) := by
  have hbp : 0 < f.binade := Nat.two_pow_pos _
  have hrg := hf.rung
  have hd := hf.deep
  have hh := hf.high
  have hi : f.infRung = maxRung f * f.binade := rfl
  by_cases hm : m = 0
  · subst hm
    rw [nearest_zero]
    refine ⟨neg, 0, f.leastPlace, ?_, .inl rfl⟩
    rw [read_word _ _ _ (by omega), if_pos hbp]
  · have hp : p + m.log2 ≤ E := by
      rcases h with h | h
      · exact absurd h hm
      · exact h
    obtain ⟨b1, b2⟩ := kept_bounds f (p := p) hm
    have hl1 : f.leastPlace ≤ lastP f m p := by unfold lastP; omega
    have hl2 : lastP f m p = p + m.log2 - f.fractionBits ∨ lastP f m p = f.leastPlace := by unfold lastP; omega
    have hlE : lastP f m p + f.fractionBits ≤ E := by
      rcases hl2 with e | e <;> omega
    have hrung : (lastP f m p - f.leastPlace).toNat * f.binade + keptN f m p < f.infRung := by
      rw [hi]
      have h0 : (lastP f m p - f.leastPlace).toNat + 3 ≤ maxRung f := by omega
      have := Nat.mul_le_mul_right f.binade h0
      rw [Nat.add_mul] at this
      omega
    unfold Mag MagD
    rw [nearest_eq f neg p hm, Nat.min_eq_left (Nat.le_of_lt hrung), read_word _ _ _ (by omega)]
    by_cases hsub : (lastP f m p - f.leastPlace).toNat * f.binade + keptN f m p < f.binade
    · rw [if_pos hsub]
      refine ⟨_, _, _, rfl, ?_⟩
      generalize (lastP f m p - f.leastPlace).toNat * f.binade + keptN f m p = R at *
      by_cases hR : R = 0
      · exact .inl hR
      · right
        have : R.log2 < f.fractionBits := (Nat.log2_lt hR).2 hsub
        omega
    · rw [if_neg hsub, if_pos hrung]
      have hk : f.binade ≤ keptN f m p := by
        by_cases hz : (lastP f m p - f.leastPlace).toNat = 0
        · rw [hz] at hsub; omega
        · exact b2 (by rcases hl2 with e | e <;> omega)
      refine ⟨_, _, _, rfl, .inr ?_⟩
      rcases Nat.lt_or_eq_of_le b1 with hk2 | hk2
      · have e : (lastP f m p - f.leastPlace).toNat * f.binade + keptN f m p = (keptN f m p - f.binade) + f.binade * ((lastP f m p - f.leastPlace).toNat + 1) := by
          rw [Nat.mul_add, Nat.mul_comm]; omega
        rw [e, Nat.add_mul_mod_self_left, Nat.mod_eq_of_lt (by omega), Nat.add_mul_div_left _ _ hbp, Nat.div_eq_of_lt (by omega)]
        have e2 : f.binade + (keptN f m p - f.binade) = keptN f m p := by omega
        rw [e2]
        have lk : (keptN f m p).log2 = f.fractionBits := by
          rw [Nat.log2_eq_iff (by omega)]
          refine ⟨hk, ?_⟩
          rw [Nat.pow_succ]
          have : 2 ^ f.fractionBits = f.binade := rfl
          omega
        rw [lk]; omega
      · have e : (lastP f m p - f.leastPlace).toNat * f.binade + keptN f m p = 0 + f.binade * ((lastP f m p - f.leastPlace).toNat + 2) := by
          rw [Nat.mul_add, Nat.mul_comm]; omega
        have lb : f.binade.log2 = f.fractionBits := by unfold Format.binade; exact Nat.log2_two_pow
        rw [e, Nat.add_mul_mod_self_left, Nat.zero_mod, Nat.add_mul_div_left _ _ hbp, Nat.zero_div]
        rw [Nat.add_zero f.binade, lb]
        omega
theorem conv_mag {s k : FloatKind} {w : Nat} {E : Int} (h : Mag s.format w E) (hE : -100 ≤ E) (hE2 : E ≤ 100) : ∃ r, fconv s k w = some r ∧ Mag k.format r (E + 1) := by
  unfold fconv
  by_cases hsk : s = k
  · subst hsk
    exact ⟨w, by simp [fkEq], h.mono (by omega)⟩
  · obtain ⟨n, m, p, hr, hu⟩ := h
    have hn := nearest_mag (fmtMag k) n hu hE hE2
    have hd : s.decode w = .number n m p := hr
    have hi : (k.decode (k.encode (.number n m p))).isInfinity = false := by
      obtain ⟨n', m', p', hr', _⟩ := hn
      have : k.decode (k.encode (.number n m p)) = .number n' m' p' := hr'
      rw [this]; rfl
    refine ⟨k.encode (.number n m p), ?_, hn⟩
    simp [fkEq, hsk, hd, hi]
/-- A quotient of two integers. -/
theorem quot_mag {f : Format} (hf : FmtMag f) {s t : Nat} (hs : Ex f s 0) (ht : Ex f t 0) (h0 : 0 < t) (h20 : s < 2 ^ 20) : ∃ r, f.div (f.nearest false s 0) (f.nearest false t 0) = some r ∧ Mag f r 30 := by
  obtain ⟨a, P, h1, h2⟩ := read_ex hf.toFmtOk false hs
  obtain ⟨b, Q, h3, h4⟩ := read_ex hf.toFmtOk false ht
  obtain ⟨h4, h4'⟩ := h4 (by omega)
  unfold Format.div
  rw [h1, h3]
  have hb0 : t * 2 ^ b ≠ 0 := Nat.mul_ne_zero (by omega) (Nat.pos_iff_ne_zero.1 (Nat.two_pow_pos b))
  simp only [Datum.quotient, if_neg hb0, Option.map_some, Format.write]
  refine ⟨_, rfl, (nearest_mag hf _ (E := 25) ?_ (by omega) (by omega)).mono (by omega)⟩
  by_cases hs0 : s = 0
  · left
    subst hs0
    simp [shl_eq]
  · right
    obtain ⟨h2, h2'⟩ := h2 hs0
    rw [log2_mul_pow b (by omega), log2_mul_pow a hs0]
    generalize hmore : f.fractionBits + 2 + (t.log2 + b) - (s.log2 + a) = more
    rw [shl_eq, Nat.mul_assoc, ← Nat.pow_add]
    have hsl : s.log2 < 20 := (Nat.log2_lt hs0).2 h20
    have hc : ∃ c, a + more = b + c := ⟨a + more - b, by omega⟩
    obtain ⟨c, hc⟩ := hc
    rw [hc]
    have hdiv : s * 2 ^ (b + c) / (t * 2 ^ b) = s * 2 ^ c / t := by
      rw [Nat.pow_add, Nat.mul_comm (2 ^ b), ← Nat.mul_assoc, Nat.mul_div_mul_right _ _ (Nat.two_pow_pos b)]
    rw [hdiv]
    have hbit : (s * 2 ^ (b + c) % (t * 2 ^ b) != 0).toNat ≤ 1 := by cases (s * 2 ^ (b + c) % (t * 2 ^ b) != 0) <;> decide
    have hq : s * 2 ^ c / t ≤ s * 2 ^ c := Nat.div_le_self _ _
    have hlt : s * 2 ^ c < 2 ^ (20 + c) := by
      rw [Nat.pow_add]
      exact Nat.mul_lt_mul_of_pos_right h20 (Nat.two_pow_pos c)
    generalize hw : 2 * (s * 2 ^ c / t) + (s * 2 ^ (b + c) % (t * 2 ^ b) != 0).toNat = w
    have hlg : w = 0 ∨ w.log2 < 22 + c := by
      by_cases h : w = 0
      · exact .inl h
      · right
        rw [Nat.log2_lt h, show 22 + c = (20 + c) + 2 by omega, Nat.pow_add]
        omega
    rcases hlg with hz | hlg
    · rw [hz]
      have : Nat.log2 0 = 0 := by decide
      rw [this]; omega
    · omega
end Go.Proofs.YtdgkahieegcmeaaDoor.AWN

namespace Go.Proofs.YtdgkahieegcmeaaDoor.AWN
open Go Ieee
theorem ex_read {f : Format} (h2 : 1 < maxRung f) {w : Nat} {neg : Bool} {m : Nat} {p : Int} (h : f.read w = .number neg m p) : Ex f m p := by
  unfold Format.read at h
  simp only at h
  have hb : 0 < f.binade := Nat.two_pow_pos _
  have e2 : 2 ^ (f.fractionBits + 1) = 2 * f.binade := by rw [Format.binade, Nat.pow_succ]; omega
  split at h
  · rename_i hr
    injection h with h0 h1 h3
    subst h3; subst h1
    have hl : w % f.signWeight = 0 ∨ (w % f.signWeight).log2 < f.fractionBits := by
      by_cases h0 : w % f.signWeight = 0
      · exact .inl h0
      · exact .inr ((Nat.log2_lt h0).2 hr)
    refine ⟨by omega, Int.le_refl _, ?_⟩
    rcases hl with hl | hl
    · rw [hl, show Nat.log2 0 = 0 from by decide]; omega
    · omega
  · split at h
    · rename_i hr hi
      injection h with h0 h1 h3
      subst h3; subst h1
      have hm := Nat.mod_lt (w % f.signWeight) hb
      have hd : w % f.signWeight / f.binade < maxRung f := (Nat.div_lt_iff_lt_mul hb).2 hi
      have hd0 : 1 ≤ w % f.signWeight / f.binade := (Nat.le_div_iff_mul_le hb).2 (by omega)
      have hlo : (f.binade + w % f.signWeight % f.binade).log2 < f.fractionBits + 1 := (Nat.log2_lt (by omega)).2 (by omega)
      exact ⟨by omega, by omega, by omega⟩
    · split at h <;> cases h
/-- What is read is written again. -/
theorem nearest_read {f : Format} (h2 : 1 < maxRung f) (hs : f.infRung < f.signWeight) {w : Nat} (hw : w < 2 * f.signWeight) {neg : Bool} {m : Nat} {p : Int} (h : f.read w = .number neg m p) : f.nearest neg m p = w := by
  have hx := ex_read h2 h
  have hsg : 0 < f.signWeight := by omega
  have hq : w / f.signWeight < 2 := (Nat.div_lt_iff_lt_mul hsg).2 hw
  have hdm := Nat.div_add_mod w f.signWeight
  have hb : 0 < f.binade := Nat.two_pow_pos _
  have hwd : ∀ r, r = w % f.signWeight → neg = (w / f.signWeight % 2 == 1) → f.word neg r = w := by
    intro r hr hn
    subst hr
    unfold Format.word
    rcases (show w / f.signWeight = 0 ∨ w / f.signWeight = 1 by generalize w / f.signWeight = z at hq ⊢; omega) with h0 | h0
    · rw [h0] at hn hdm
      rw [hn, if_neg (by decide)]; omega
    · rw [h0] at hn hdm
      rw [hn, if_pos (by decide)]; omega
  by_cases hm : m = 0
  · subst hm
    rw [nearest_zero]
    unfold Format.read at h
    simp only at h
    split at h
    · injection h with h0 h1 h3
      exact hwd 0 h1.symm h0.symm
    · split at h
      · injection h with h0 h1 h3; omega
      · split at h <;> cases h
  · obtain ⟨h1, h3⟩ := kept_exact f hm hx.size hx.least
    rw [nearest_eq f neg p hm, h3]
    unfold Format.read at h
    simp only at h
    split at h
    · rename_i hr
      injection h with h0 h1' h4
      subst h1'
      have hl : lastP f (w % f.signWeight) p = p := by
        have : (w % f.signWeight).log2 < f.fractionBits := (Nat.log2_lt hm).2 hr
        unfold lastP; omega
      rw [hl, h4]
      simp only [Int.sub_self, Int.toNat_zero, Nat.pow_zero, Nat.mul_one, Nat.zero_mul, Nat.zero_add]
      rw [Nat.min_eq_left (by have : f.binade ≤ f.infRung := Nat.le_mul_of_pos_left _ (by show 0 < maxRung f; omega); omega)]
      exact hwd _ rfl h0.symm
    · split at h
      · rename_i hr hi
        injection h with h0 h1' h4
        subst h1'
        have hmm := Nat.mod_lt (w % f.signWeight) hb
        have hd0 : 1 ≤ w % f.signWeight / f.binade := (Nat.le_div_iff_mul_le hb).2 (by omega)
        have hlo : (f.binade + w % f.signWeight % f.binade).log2 = f.fractionBits := by
          have a1 : (f.binade + w % f.signWeight % f.binade).log2 < f.fractionBits + 1 := (Nat.log2_lt (by omega)).2 (by rw [Nat.pow_succ]; show _ < f.binade * 2; omega)
          have a2 : ¬ (f.binade + w % f.signWeight % f.binade).log2 < f.fractionBits := fun hc => by
            have := (Nat.log2_lt (by omega)).1 hc
            have : f.binade + w % f.signWeight % f.binade < f.binade := this
            omega
          omega
        have hl : lastP f (f.binade + w % f.signWeight % f.binade) p = p := by unfold lastP; rw [hlo]; omega
        rw [hl]
        simp only [Int.sub_self, Int.toNat_zero, Nat.pow_zero, Nat.mul_one]
        have e : (p - f.leastPlace).toNat * f.binade + (f.binade + w % f.signWeight % f.binade) = w % f.signWeight := by
          have hp : (p - f.leastPlace).toNat = w % f.signWeight / f.binade - 1 := by omega
          have hdm2 := Nat.div_add_mod (w % f.signWeight) f.binade
          rw [hp, Nat.sub_mul, Nat.one_mul, Nat.mul_comm]
          have : f.binade * 1 ≤ f.binade * (w % f.signWeight / f.binade) := Nat.mul_le_mul_left _ hd0
          omega
        rw [e, Nat.min_eq_left (by omega)]
        exact hwd _ rfl h0.symm
      · split at h <;> cases h
theorem ex_wide {m : Nat} {p : Int} (h : Ex single m p) : Ex double m p := by
  obtain ⟨h1, h2, h3⟩ := h
  have e1 : single.fractionBits = 23 := rfl
  have e2 : double.fractionBits = 52 := rfl
  have e3 : single.leastPlace = -149 := by decide
  have e4 : double.leastPlace = -1074 := by decide
  have e5 : maxRung single = 255 := by decide
  have e6 : maxRung double = 2047 := by decide
  rw [e1, e3, e5] at h3
  rw [e3] at h2
  rw [e1] at h1
  exact ⟨by rw [e2]; exact Nat.lt_of_lt_of_le h1 (by decide), by rw [e4]; omega, by rw [e2, e4, e6]; omega⟩
theorem sgl_ok : 1 < maxRung single := by decide
theorem dbl_ok : 1 < maxRung double := by decide
/-- Made wide: always, and it is a NaN where it was one. -/
theorem wide_some (x : Nat) : ∃ r, fconv .f32 .f64 x = some r ∧ isnan .f64 r = isnan .f32 x ∧ (∀ neg m p, single.read x = .number neg m p → r = double.nearest neg m p) := by
  unfold fconv
  rw [show fkEq .f32 .f64 = false from rfl, cond_false]
  have hd : FloatKind.f32.decode x = single.read x := rfl
  rw [hd]
  cases h : single.read x with
  | nan s t =>
    refine ⟨qnan .f64, rfl, ?_, fun _ _ _ h => nomatch h⟩
    unfold isnan
    rw [show FloatKind.f32.format.read x = single.read x from rfl, h]; show _ = true; decide
  | infinity s =>
    refine ⟨_, rfl, ?_, fun _ _ _ h => nomatch h⟩
    unfold isnan
    rw [show FloatKind.f32.format.read x = single.read x from rfl, h]
    cases s <;> decide
  | number s m p =>
    have hx := ex_wide (ex_read sgl_ok h)
    obtain ⟨a, P, hr, _⟩ := read_ex (fmtOk .f64) s hx
    have hr' : FloatKind.f64.decode (FloatKind.f64.encode (.number s m p)) = .number s (m * 2 ^ a) P := hr
    refine ⟨FloatKind.f64.encode (.number s m p), ?_, ?_, fun neg m' p' he => ?_⟩
    · simp only [hr']; rfl
    · unfold isnan
      rw [show FloatKind.f32.format.read x = single.read x from rfl, h]
      have : FloatKind.f64.format.read (FloatKind.f64.encode (.number s m p)) = .number s (m * 2 ^ a) P := hr
      rw [this]; rfl
    · injection he with e1 e2 e3; subst e1; subst e2; subst e3; rfl
theorem eql_self (k : FloatKind) (a : Nat) : fcmp .eql k a a = !isnan k a := by
  unfold fcmp isnan
  simp only [Ieee.Format.order]
  have cc : ∀ (z : Int), compare z z = .eq := fun z => by
    show compareOfLessAndEq z z = .eq
    unfold compareOfLessAndEq
    rw [if_neg (by omega), if_pos rfl]
  have cn : ∀ (z : Nat), compare z z = .eq := fun z => by
    show compareOfLessAndEq z z = .eq
    unfold compareOfLessAndEq
    rw [if_neg (by omega), if_pos rfl]
  cases k.format.read a with
  | number s m i => simp only [Ieee.Datum.order, cc]; rfl
  | infinity s => simp only [Ieee.Datum.order, cn]; rfl
  | nan s m => rfl
end Go.Proofs.YtdgkahieegcmeaaDoor.AWN

namespace Go.Proofs.YtdgkahieegcmeaaDoor.AWN
open Go Ieee

theorem cut_mono {n n' : Nat} (d : Nat) (h : n ≤ n') : Toward.even.cut false n d ≤ Toward.even.cut false n' d := by
  rw [cut_even, cut_even]
  have hp := Nat.two_pow_pos d
  have h1 := Nat.div_add_mod n (2 ^ d)
  have h2 := Nat.div_add_mod n' (2 ^ d)
  have h3 := Nat.mod_lt n hp
  have h4 := Nat.mod_lt n' hp
  have hb : ∀ b : Bool, b.toNat ≤ 1 := by intro b; cases b <;> decide
  have hq : n / 2 ^ d ≤ n' / 2 ^ d := Nat.div_le_div_right h
  rcases Nat.lt_or_eq_of_le hq with hq | hq
  · have := hb (decide (2 ^ d < 2 * (n % 2 ^ d)) || (2 ^ d == 2 * (n % 2 ^ d) && n / 2 ^ d % 2 == 1))
    omega
  · have hr : n % 2 ^ d ≤ n' % 2 ^ d := by rw [hq] at h1; omega
    rw [hq]
    generalize n % 2 ^ d = r at *
    generalize n' % 2 ^ d = r' at *
    generalize n' / 2 ^ d = q at *
    generalize 2 ^ d = D at *
    have : (decide (D < 2 * r) || (D == 2 * r && q % 2 == 1)).toNat ≤ (decide (D < 2 * r') || (D == 2 * r' && q % 2 == 1)).toNat := by
      by_cases a1 : D < 2 * r
      · have a2 : D < 2 * r' := by omega
        simp [a1, a2]
      · by_cases a3 : D < 2 * r'
        · rw [decide_eq_true a3, Bool.true_or]; exact hb _
        · have e1 : decide (D < 2 * r) = false := decide_eq_false a1
          have e2 : decide (D < 2 * r') = false := decide_eq_false a3
          rw [e1, e2]
          by_cases a4 : D = 2 * r
          · have : r' = r := by omega
            rw [this]; exact Nat.le_refl _
          · have e3 : (D == 2 * r) = false := by simpa using a4
            rw [e3]; simp
    omega
theorem log2_mono {m M : Nat} (h : m ≤ M) (hm : m ≠ 0) : m.log2 ≤ M.log2 := by
  have h1 := Nat.log2_self_le hm
  rcases Nat.lt_or_ge M.log2 m.log2 with h2 | h2
  · exfalso
    have h3 := @Nat.lt_log2_self M
    have : 2 ^ (M.log2 + 1) ≤ 2 ^ m.log2 := Nat.pow_le_pow_right (by decide) h2
    omega
  · exact h2
/-- The rung of a number that is rounded. -/
def rung (f : Format) (m : Nat) (p : Int) : Nat := if m = 0 then 0 else min ((lastP f m p - f.leastPlace).toNat * f.binade + keptN f m p) f.infRung
theorem nearest_rung (f : Format) (neg : Bool) (m : Nat) (p : Int) : f.nearest neg m p = f.word neg (rung f m p) := by
  unfold rung
  by_cases hm : m = 0
  · subst hm; rw [if_pos rfl, nearest_zero]
  · rw [if_neg hm, nearest_eq f neg p hm]
theorem rung_le (f : Format) (m : Nat) (p : Int) : rung f m p ≤ f.infRung := by
  unfold rung
  split
  · exact Nat.zero_le _
  · exact Nat.min_le_right _ _
theorem rung_zero (f : Format) (p : Int) : rung f 0 p = 0 := if_pos rfl
theorem rung_shift (f : Format) (m k : Nat) (p : Int) : rung f (m * 2 ^ k) p = rung f m (p + k) := by
  have h := nearest_shift f false m k p
  rw [nearest_rung, nearest_rung] at h
  exact h
theorem rung_mono (f : Format) {m M : Nat} (p : Int) (h : m ≤ M) : rung f m p ≤ rung f M p := by
  by_cases hm : m = 0
  · subst hm; rw [rung_zero]; exact Nat.zero_le _
  · have hM : M ≠ 0 := by omega
    unfold rung
    rw [if_neg hm, if_neg hM]
    have hl := log2_mono h hm
    have hL : lastP f m p ≤ lastP f M p := by unfold lastP; omega
    have hlow : f.leastPlace ≤ lastP f m p := by unfold lastP; omega
    suffices h2 : (lastP f m p - f.leastPlace).toNat * f.binade + keptN f m p ≤ (lastP f M p - f.leastPlace).toNat * f.binade + keptN f M p by omega
    rcases Int.lt_or_eq_of_le hL with hlt | heq
    · have b1 := (kept_bounds f (p := p) hm).1
      have b2 := (kept_bounds f (p := p) hM).2 (by unfold lastP at *; omega)
      have : ((lastP f m p - f.leastPlace).toNat + 1) * f.binade ≤ (lastP f M p - f.leastPlace).toNat * f.binade := Nat.mul_le_mul_right _ (by omega)
      rw [Nat.add_mul] at this
      omega
    · unfold keptN
      rw [heq]
      have : m <<< (p - lastP f M p).toNat ≤ M <<< (p - lastP f M p).toNat := by
        rw [shl_eq, shl_eq]; exact Nat.mul_le_mul_right _ h
      have := cut_mono (lastP f M p - p).toNat this
      omega
/-- A word's place in the order of all numbers; both zeros have 0. -/
def key (f : Format) (w : Nat) : Int := if w / f.signWeight % 2 = 1 then -((w % f.signWeight : Nat) : Int) else ((w % f.signWeight : Nat) : Int)
theorem key_word {f : Format} (neg : Bool) {r : Nat} (h : r < f.signWeight) : key f (f.word neg r) = if neg then -(r : Int) else (r : Int) := by
  have hs : 0 < f.signWeight := by omega
  unfold key Format.word
  cases neg
  · show (if r / f.signWeight % 2 = 1 then _ else _) = (r : Int)
    rw [Nat.div_eq_of_lt h, if_neg (by decide)]
    show ((r % f.signWeight : Nat) : Int) = _
    rw [Nat.mod_eq_of_lt h]
  · show (if (f.signWeight + r) / f.signWeight % 2 = 1 then _ else _) = -(r : Int)
    rw [Nat.add_div_left _ hs, Nat.div_eq_of_lt h, if_pos (by decide)]
    show -(((f.signWeight + r) % f.signWeight : Nat) : Int) = _
    rw [Nat.add_mod_left, Nat.mod_eq_of_lt h]
/-- A finite word's value, in units of the least place. -/
def vz (f : Format) (w : Nat) : Int := match f.read w with
  | .number s m p => signed s m (p - f.leastPlace).toNat
  | _ => 0
def Fin' (f : Format) (w : Nat) : Prop := ∃ s m p, f.read w = .number s m p
structure FmtK (f : Format) : Prop where
  rung : f.infRung < f.signWeight
  many : 1 < maxRung f
  low : f.leastPlace ≤ 0
theorem fmtK (k : FloatKind) : FmtK k.format := ⟨k.format.infRung_lt, by cases k <;> decide, by cases k <;> decide⟩
/-- An integer in units of a place, rounded: its place in the order. -/
def kz (f : Format) (z : Int) (p : Int) : Int := if z < 0 then -(rung f z.natAbs p : Int) else (rung f z.natAbs p : Int)
theorem key_nearest {f : Format} (hf : FmtK f) (neg : Bool) (m : Nat) (p : Int) : key f (f.nearest neg m p) = if neg then -(rung f m p : Int) else (rung f m p : Int) := by
  rw [nearest_rung, key_word _ (by have := rung_le f m p; have := hf.rung; omega)]
theorem kz_mono (f : Format) {z z' : Int} (p : Int) (h : z ≤ z') : kz f z p ≤ kz f z' p := by
  unfold kz
  by_cases h1 : z < 0
  · rw [if_pos h1]
    by_cases h2 : z' < 0
    · rw [if_pos h2]
      have := rung_mono f p (show z'.natAbs ≤ z.natAbs by omega)
      omega
    · rw [if_neg h2]; omega
  · rw [if_neg h1, if_neg (by omega)]
    have := rung_mono f p (show z.natAbs ≤ z'.natAbs by omega)
    omega
theorem kz_shift (f : Format) (z : Int) (k : Nat) (p : Int) : kz f (z * (2 ^ k : Nat)) p = kz f z (p + k) := by
  have hk : (0 : Int) < ((2 ^ k : Nat) : Int) := by have := Nat.two_pow_pos k; omega
  unfold kz
  have e : (z * (2 ^ k : Nat)).natAbs = z.natAbs * 2 ^ k := by rw [Int.natAbs_mul]; simp
  rw [e, rung_shift]
  have : z * (2 ^ k : Nat) < 0 ↔ z < 0 := ⟨fun h => by
    rcases Int.lt_or_le z 0 with h0 | h0
    · exact h0
    · have := Int.mul_nonneg h0 (Int.le_of_lt hk); omega, fun h => Int.mul_neg_of_neg_of_pos h hk⟩
  by_cases h : z < 0
  · rw [if_pos h, if_pos (this.2 h)]
  · rw [if_neg h, if_neg (fun h2 => h (this.1 h2))]
theorem signed_sign (s : Bool) (m u : Nat) : (signed s m u).natAbs = m * 2 ^ u ∧ (s = false → 0 ≤ signed s m u) ∧ (s = true → signed s m u ≤ 0) := by
  unfold signed
  rw [shl_eq]
  have e : ((m * 2 ^ u : Nat) : Int).natAbs = m * 2 ^ u := Int.natAbs_natCast _
  cases s
  · exact ⟨e, (fun _ => Int.natCast_nonneg _), (fun h => nomatch h)⟩
  · refine ⟨?_, (fun h => nomatch h), fun _ => ?_⟩
    · show (-((m * 2 ^ u : Nat) : Int)).natAbs = _
      rw [Int.natAbs_neg, e]
    · show -((m * 2 ^ u : Nat) : Int) ≤ 0
      omega
/-- What a word is worth, rounded, is the word. -/
theorem kz_vz {f : Format} (hf : FmtK f) {w : Nat} (hw : w < 2 * f.signWeight) (h : Fin' f w) : kz f (vz f w) f.leastPlace = key f w := by
  obtain ⟨s, m, p, h⟩ := h
  have hn := nearest_read hf.many hf.rung hw h
  have hx := ex_read hf.many h
  rw [← hn, key_nearest hf, hn]
  have e : vz f w = signed s m (p - f.leastPlace).toNat := by unfold vz; rw [h]
  obtain ⟨a1, a2, a3⟩ := signed_sign s m (p - f.leastPlace).toNat
  unfold kz
  rw [e, a1, rung_shift, show f.leastPlace + ((p - f.leastPlace).toNat : Int) = p by have := hx.least; omega]
  by_cases hm : m = 0
  · subst hm; rw [rung_zero]; simp
  · have hpos : 0 < m * 2 ^ (p - f.leastPlace).toNat := Nat.mul_pos (Nat.pos_of_ne_zero hm) (Nat.two_pow_pos _)
    cases s
    · rw [if_neg (by have := a2 rfl; omega), if_neg (by decide)]
    · rw [if_pos (by have := a3 rfl; omega), if_pos rfl]
theorem key_lt {f : Format} (hf : FmtK f) {w : Nat} (h : Fin' f w) : -(f.infRung : Int) < key f w ∧ key f w < f.infRung := by
  obtain ⟨s, m, p, h⟩ := h
  have hb : 0 < f.binade := Nat.two_pow_pos _
  have hi : f.infRung = maxRung f * f.binade := rfl
  have h1 : f.binade ≤ f.infRung := by rw [hi]; exact Nat.le_mul_of_pos_left _ (by have := hf.many; omega)
  have : w % f.signWeight < f.infRung := by
    unfold Format.read at h
    simp only at h
    split at h
    · omega
    · split at h
      · assumption
      · split at h <;> cases h
  unfold key
  split <;> omega
/-- The order of words is that of their places. -/
theorem order_key {f : Format} (hf : FmtK f) {x y : Nat} (hx : x < 2 * f.signWeight) (hy : y < 2 * f.signWeight) (h : Fin' f x) (h' : Fin' f y) : f.order x y = some (compare (key f x) (key f y)) := by
  have kx := kz_vz hf hx h
  have ky := kz_vz hf hy h'
  have hv : f.order x y = some (compare (vz f x) (vz f y)) := by
    obtain ⟨s, m, i, e⟩ := h
    obtain ⟨t, n, j, e'⟩ := h'
    have l1 := (ex_read hf.many e).least
    have l2 := (ex_read hf.many e').least
    unfold Format.order vz
    rw [e, e']
    simp only [Datum.order]
    congr 1
    have sc : ∀ (s : Bool) (m : Nat) (i b : Int), f.leastPlace ≤ b → b ≤ i → signed s m (i - f.leastPlace).toNat = signed s m (i - b).toNat * ((2 ^ (b - f.leastPlace).toNat : Nat) : Int) := by
      intro s m i b h1 h2
      have e : (i - f.leastPlace).toNat = (i - b).toNat + (b - f.leastPlace).toNat := by omega
      unfold signed
      rw [shl_eq, shl_eq, e, Nat.pow_add]
      cases s
      · simp only [Bool.false_eq_true, if_false, Int.natCast_mul, Int.mul_assoc]
      · simp only [if_true, Int.natCast_mul, Int.mul_assoc, Int.neg_mul]
    rw [sc s m i (min i j) (by omega) (by omega), sc t n j (min i j) (by omega) (by omega)]
    generalize signed s m (i - min i j).toNat = a
    generalize signed t n (j - min i j).toNat = b
    have hk := Nat.two_pow_pos (min i j - f.leastPlace).toNat
    generalize 2 ^ (min i j - f.leastPlace).toNat = k at *
    have hk' : (0 : Int) < (k : Int) := by omega
    have l1 : a < b ↔ a * (k : Int) < b * (k : Int) := ⟨fun h => Int.mul_lt_mul_of_pos_right h hk', fun h => Int.lt_of_mul_lt_mul_right h (Int.le_of_lt hk')⟩
    have l2 : a = b ↔ a * (k : Int) = b * (k : Int) := ⟨fun h => by rw [h], fun h => Int.eq_of_mul_eq_mul_right (by omega) h⟩
    show compareOfLessAndEq a b = compareOfLessAndEq _ _
    unfold compareOfLessAndEq
    simp only [l1, l2]
  rw [hv]
  congr 1
  show compareOfLessAndEq _ _ = compareOfLessAndEq _ _
  unfold compareOfLessAndEq
  by_cases h1 : vz f x < vz f y
  · have m1 := kz_mono f f.leastPlace (Int.le_of_lt h1)
    rw [kx, ky] at m1
    have ne : key f x ≠ key f y := fun he => by
      -- equal places: equal values
      have : vz f x = vz f y := by
        obtain ⟨s, m, i, e⟩ := h
        obtain ⟨t, n, j, e'⟩ := h'
        unfold key at he
        unfold vz
        have hz : ∀ w, w < 2 * f.signWeight → w / f.signWeight % 2 = 1 ∨ w / f.signWeight % 2 = 0 := fun w _ => by omega
        by_cases h0 : x % f.signWeight = 0 ∧ y % f.signWeight = 0
        · have z : ∀ {w s m i}, w % f.signWeight = 0 → f.read w = .number s m i → m = 0 := by
            intro w s m i hw hr
            unfold Format.read at hr
            simp only [hw] at hr
            rw [if_pos (show 0 < f.binade from Nat.two_pow_pos _)] at hr
            injection hr with _ h1 _; exact h1.symm
          have zm := z h0.1 e
          have zn := z h0.2 e'
          rw [e, e']; subst zm; subst zn
          show signed s 0 _ = signed t 0 _
          rw [signed_zero, signed_zero]
        · have hsg : 0 < f.signWeight := by have := hf.rung; omega
          have d1 := Nat.div_add_mod x f.signWeight
          have d2 := Nat.div_add_mod y f.signWeight
          have q1 : x / f.signWeight < 2 := (Nat.div_lt_iff_lt_mul hsg).2 hx
          have q2 : y / f.signWeight < 2 := (Nat.div_lt_iff_lt_mul hsg).2 hy
          have : x = y := by
            generalize x / f.signWeight = a at *
            generalize y / f.signWeight = b at *
            rcases (show a = 0 ∨ a = 1 by omega) with rfl | rfl <;> rcases (show b = 0 ∨ b = 1 by omega) with rfl | rfl <;> simp at he d1 d2 <;> omega
          rw [this]
      omega
    rw [if_pos h1, if_pos (by omega)]
  · by_cases h2 : vz f x = vz f y
    · have : key f x = key f y := by rw [← kx, ← ky, h2]
      rw [if_neg h1, if_pos h2, if_neg (by omega), if_pos this]
    · have m1 := kz_mono f f.leastPlace (show vz f y ≤ vz f x by omega)
      rw [kx, ky] at m1
      have ne : key f x ≠ key f y := fun he => by
        have hsg : 0 < f.signWeight := by have := hf.rung; omega
        have d1 := Nat.div_add_mod x f.signWeight
        have d2 := Nat.div_add_mod y f.signWeight
        have q1 : x / f.signWeight < 2 := (Nat.div_lt_iff_lt_mul hsg).2 hx
        have q2 : y / f.signWeight < 2 := (Nat.div_lt_iff_lt_mul hsg).2 hy
        by_cases h0 : x % f.signWeight = 0 ∧ y % f.signWeight = 0
        · obtain ⟨s, m, i, e⟩ := h
          obtain ⟨t, n, j, e'⟩ := h'
          have z : ∀ {w s m i}, w % f.signWeight = 0 → f.read w = .number s m i → m = 0 := by
            intro w s m i hw hr
            unfold Format.read at hr
            simp only [hw] at hr
            rw [if_pos (show 0 < f.binade from Nat.two_pow_pos _)] at hr
            injection hr with _ h1 _; exact h1.symm
          have zm := z h0.1 e
          have zn := z h0.2 e'
          apply h2
          unfold vz
          rw [e, e']; subst zm; subst zn
          show signed s 0 _ = signed t 0 _
          rw [signed_zero, signed_zero]
        · apply h2
          have : x = y := by
            unfold key at he
            generalize x / f.signWeight = a at *
            generalize y / f.signWeight = b at *
            rcases (show a = 0 ∨ a = 1 by omega) with rfl | rfl <;> rcases (show b = 0 ∨ b = 1 by omega) with rfl | rfl <;> simp at he d1 d2 <;> omega
          rw [this]
      rw [if_neg h1, if_neg h2, if_neg (by omega), if_neg ne]
end Go.Proofs.YtdgkahieegcmeaaDoor.AWN

namespace Go.Proofs.YtdgkahieegcmeaaDoor.AWN
open Go Ieee

/-- A finite word. -/
structure W (f : Format) (w : Nat) : Prop where
  lt : w < 2 * f.signWeight
  fin : Fin' f w
theorem width_two (f : Format) : 2 ^ f.width = 2 * f.signWeight := by
  unfold Format.width Format.signWeight
  rw [show 1 + f.exponentBits + f.fractionBits = (f.exponentBits + f.fractionBits) + 1 by omega, Nat.pow_succ]; omega
theorem nearest_lt2 (f : Format) (neg : Bool) (m : Nat) (p : Int) : f.nearest neg m p < 2 * f.signWeight := by
  rw [← width_two]; exact f.nearest_lt neg m p
theorem fin_of_key {f : Format} {w : Nat} (h : key f w < f.infRung) (h' : -(f.infRung : Int) < key f w) : Fin' f w := by
  have : w % f.signWeight < f.infRung := by
    unfold key at h h'
    split at h <;> rename_i hc
    · rw [if_pos hc] at h'; omega
    · omega
  unfold Fin' Format.read
  simp only
  by_cases h1 : w % f.signWeight < f.binade
  · rw [if_pos h1]; exact ⟨_, _, _, rfl⟩
  · rw [if_neg h1, if_pos this]; exact ⟨_, _, _, rfl⟩
theorem kz_nat (f : Format) (M u : Nat) (p : Int) : kz f ((M * 2 ^ u : Nat) : Int) p = (rung f M (p + u) : Int) := by
  unfold kz
  rw [if_neg (by omega), Int.natAbs_natCast, rung_shift]
theorem W.not_nan {k : FloatKind} {w : Nat} (h : W k.format w) : isnan k w = false := by
  obtain ⟨s, m, p, e⟩ := h.fin
  unfold isnan
  rw [e]; rfl
section
variable {f : Format} (hf : FmtK f)
include hf
theorem W.key_lt {w : Nat} (h : W f w) : -(f.infRung : Int) < key f w ∧ key f w < f.infRung := Go.Proofs.YtdgkahieegcmeaaDoor.AWN.key_lt hf h.fin
theorem W.kz {w : Nat} (h : W f w) : Go.Proofs.YtdgkahieegcmeaaDoor.AWN.kz f (vz f w) f.leastPlace = key f w := kz_vz hf h.lt h.fin
theorem W.vz_lt {x y : Nat} (hx : W f x) (hy : W f y) : key f x < key f y ↔ vz f x < vz f y := by
  have kx := hx.kz hf
  have ky := hy.kz hf
  constructor
  · intro h
    rcases Int.lt_or_le (vz f x) (vz f y) with h1 | h1
    · exact h1
    · have := kz_mono f f.leastPlace h1; omega
  · intro h
    have m1 := kz_mono f f.leastPlace (Int.le_of_lt h)
    rw [kx, ky] at m1
    rcases Int.lt_or_eq_of_le m1 with h1 | h1
    · exact h1
    · exfalso
      have := order_key hf hx.lt hy.lt hx.fin hy.fin
      rw [h1] at this
      have cc : compare (key f y) (key f y) = .eq := by
        show compareOfLessAndEq _ _ = .eq
        unfold compareOfLessAndEq
        rw [if_neg (by omega), if_pos rfl]
      rw [cc] at this
      obtain ⟨s, m, i, e⟩ := hx.fin
      obtain ⟨t, n, j, e'⟩ := hy.fin
      have l1 := (ex_read hf.many e).least
      have l2 := (ex_read hf.many e').least
      unfold Format.order at this
      rw [e, e'] at this
      simp only [Datum.order, Option.some.injEq] at this
      have h3 : signed s m (i - min i j).toNat = signed t n (j - min i j).toNat := by
        have h4 : compareOfLessAndEq (signed s m (i - min i j).toNat) (signed t n (j - min i j).toNat) = .eq := this
        unfold compareOfLessAndEq at h4
        split at h4
        · cases h4
        · split at h4
          · assumption
          · cases h4
      have sc : ∀ (s : Bool) (m : Nat) (i b : Int), f.leastPlace ≤ b → b ≤ i → signed s m (i - f.leastPlace).toNat = signed s m (i - b).toNat * ((2 ^ (b - f.leastPlace).toNat : Nat) : Int) := by
        intro s m i b h1 h2
        have e : (i - f.leastPlace).toNat = (i - b).toNat + (b - f.leastPlace).toNat := by omega
        unfold signed
        rw [shl_eq, shl_eq, e, Nat.pow_add]
        cases s
        · simp only [Bool.false_eq_true, if_false, Int.natCast_mul, Int.mul_assoc]
        · simp only [if_true, Int.natCast_mul, Int.mul_assoc, Int.neg_mul]
      have : vz f x = vz f y := by
        unfold vz
        rw [e, e']
        show signed s m _ = signed t n _
        rw [sc s m i (min i j) (by omega) (by omega), sc t n j (min i j) (by omega) (by omega), h3]
      omega
theorem W.vz_le {x y : Nat} (hx : W f x) (hy : W f y) : key f x ≤ key f y ↔ vz f x ≤ vz f y := by
  have := W.vz_lt hf hy hx
  omega
theorem W.vz_zero {x : Nat} (hx : W f x) : (key f x < 0 ↔ vz f x < 0) ∧ (0 < key f x ↔ 0 < vz f x) ∧ (key f x = 0 ↔ vz f x = 0) := by
  have hb : 0 < f.binade := Nat.two_pow_pos _
  have hi : f.infRung = maxRung f * f.binade := rfl
  have hpos : 0 < f.infRung := by rw [hi]; exact Nat.mul_pos (by have := hf.many; omega) hb
  have k00 : key f 0 = 0 := by
    unfold key
    rw [Nat.zero_div, if_neg (by decide), Nat.zero_mod]; rfl
  have h0 : W f 0 := ⟨by have := hf.rung; omega, fin_of_key (by omega) (by omega)⟩
  have k0 : key f 0 = 0 := by
    unfold key
    rw [Nat.zero_div, if_neg (by decide), Nat.zero_mod]; rfl
  have v0 : vz f 0 = 0 := by
    have := h0.kz hf
    rw [k0] at this
    unfold Go.Proofs.YtdgkahieegcmeaaDoor.AWN.kz at this
    unfold vz Format.read
    simp only [Nat.zero_mod, Nat.zero_div]
    rw [if_pos hb]
    show signed _ 0 _ = 0
    exact signed_zero _ _
  have a := W.vz_lt hf hx h0
  have b := W.vz_lt hf h0 hx
  rw [k0, v0] at a b
  omega
theorem add_key {x y : Nat} (hx : W f x) (hy : W f y) : ∃ r, f.add x y = some r ∧ r < 2 * f.signWeight ∧ key f r = Go.Proofs.YtdgkahieegcmeaaDoor.AWN.kz f (vz f x + vz f y) f.leastPlace := by
  obtain ⟨s, m, i, e⟩ := hx.fin
  obtain ⟨t, n, j, e'⟩ := hy.fin
  have l1 := (ex_read hf.many e).least
  have l2 := (ex_read hf.many e').least
  unfold Format.add
  rw [e, e']
  simp only [Datum.sum, Option.map_some, Format.write]
  refine ⟨_, rfl, nearest_lt2 _ _ _ _, ?_⟩
  rw [key_nearest hf]
  have sc : ∀ (s : Bool) (m : Nat) (i b : Int), f.leastPlace ≤ b → b ≤ i → signed s m (i - f.leastPlace).toNat = signed s m (i - b).toNat * ((2 ^ (b - f.leastPlace).toNat : Nat) : Int) := by
    intro s m i b h1 h2
    have e : (i - f.leastPlace).toNat = (i - b).toNat + (b - f.leastPlace).toNat := by omega
    unfold signed
    rw [shl_eq, shl_eq, e, Nat.pow_add]
    cases s
    · simp only [Bool.false_eq_true, if_false, Int.natCast_mul, Int.mul_assoc]
    · simp only [if_true, Int.natCast_mul, Int.mul_assoc, Int.neg_mul]
  have hv : vz f x + vz f y = (signed s m (i - min i j).toNat + signed t n (j - min i j).toNat) * ((2 ^ (min i j - f.leastPlace).toNat : Nat) : Int) := by
    unfold vz
    rw [e, e', Int.add_mul, ← sc s m i (min i j) (by omega) (by omega), ← sc t n j (min i j) (by omega) (by omega)]
  rw [hv, kz_shift, show f.leastPlace + ((min i j - f.leastPlace).toNat : Int) = min i j by omega]
  generalize signed s m (i - min i j).toNat + signed t n (j - min i j).toNat = z
  unfold Go.Proofs.YtdgkahieegcmeaaDoor.AWN.kz
  by_cases hz : z = 0
  · subst hz
    rw [show (0 : Int).natAbs = 0 from rfl, rung_zero]; simp
  · rw [if_neg hz]
    by_cases h1 : z < 0
    · rw [if_pos h1, if_pos (by simpa using h1)]
    · rw [if_neg h1, if_neg (by simpa using h1)]
theorem sub_key {x y : Nat} (hx : W f x) (hy : W f y) : ∃ r, f.sub x y = some r ∧ r < 2 * f.signWeight ∧ key f r = Go.Proofs.YtdgkahieegcmeaaDoor.AWN.kz f (vz f x - vz f y) f.leastPlace := by
  obtain ⟨s, m, i, e⟩ := hx.fin
  obtain ⟨t, n, j, e'⟩ := hy.fin
  have l1 := (ex_read hf.many e).least
  have l2 := (ex_read hf.many e').least
  unfold Format.sub
  rw [e, e']
  simp only [Datum.opposite, Datum.sum, Option.map_some, Format.write]
  refine ⟨_, rfl, nearest_lt2 _ _ _ _, ?_⟩
  rw [key_nearest hf]
  have so : ∀ u, signed (!t) n u = -signed t n u := fun u => by unfold signed; cases t <;> simp
  have sc : ∀ (s : Bool) (m : Nat) (i b : Int), f.leastPlace ≤ b → b ≤ i → signed s m (i - f.leastPlace).toNat = signed s m (i - b).toNat * ((2 ^ (b - f.leastPlace).toNat : Nat) : Int) := by
    intro s m i b h1 h2
    have e : (i - f.leastPlace).toNat = (i - b).toNat + (b - f.leastPlace).toNat := by omega
    unfold signed
    rw [shl_eq, shl_eq, e, Nat.pow_add]
    cases s
    · simp only [Bool.false_eq_true, if_false, Int.natCast_mul, Int.mul_assoc]
    · simp only [if_true, Int.natCast_mul, Int.mul_assoc, Int.neg_mul]
  have hv : vz f x - vz f y = (signed s m (i - min i j).toNat + signed (!t) n (j - min i j).toNat) * ((2 ^ (min i j - f.leastPlace).toNat : Nat) : Int) := by
    unfold vz
    rw [e, e', so, Int.add_mul, Int.neg_mul, ← sc s m i (min i j) (by omega) (by omega), ← sc t n j (min i j) (by omega) (by omega)]; rfl
  rw [hv, kz_shift, show f.leastPlace + ((min i j - f.leastPlace).toNat : Int) = min i j by omega]
  generalize signed s m (i - min i j).toNat + signed (!t) n (j - min i j).toNat = z
  unfold Go.Proofs.YtdgkahieegcmeaaDoor.AWN.kz
  by_cases hz : z = 0
  · subst hz
    rw [show (0 : Int).natAbs = 0 from rfl, rung_zero]; simp
  · rw [if_neg hz]
    by_cases h1 : z < 0
    · rw [if_pos h1, if_pos (by simpa using h1)]
    · rw [if_neg h1, if_neg (by simpa using h1)]
theorem mul_key {x y : Nat} (hx : W f x) (hy : W f y) : ∃ r, f.mul x y = some r ∧ r < 2 * f.signWeight ∧ key f r = Go.Proofs.YtdgkahieegcmeaaDoor.AWN.kz f (vz f x * vz f y) (2 * f.leastPlace) := by
  obtain ⟨s, m, i, e⟩ := hx.fin
  obtain ⟨t, n, j, e'⟩ := hy.fin
  have l1 := (ex_read hf.many e).least
  have l2 := (ex_read hf.many e').least
  unfold Format.mul
  rw [e, e']
  simp only [Datum.product, Option.map_some, Format.write]
  refine ⟨_, rfl, nearest_lt2 _ _ _ _, ?_⟩
  rw [key_nearest hf]
  have hv : vz f x * vz f y = (signed (s ^^ t) (m * n) 0) * ((2 ^ ((i - f.leastPlace).toNat + (j - f.leastPlace).toNat) : Nat) : Int) := by
    unfold vz
    rw [e, e', Nat.pow_add]
    unfold signed
    simp only [shl_eq]
    have : m * 2 ^ (i - f.leastPlace).toNat * (n * 2 ^ (j - f.leastPlace).toNat) = m * n * (2 ^ (i - f.leastPlace).toNat * 2 ^ (j - f.leastPlace).toNat) := Nat.mul_mul_mul_comm ..
    rw [Nat.pow_zero, Nat.mul_one]
    cases s <;> cases t <;> simp only [Bool.false_eq_true, if_false, if_true, Bool.xor_false, Bool.xor_true, Bool.not_true, Bool.not_false, Int.neg_mul, Int.mul_neg, Int.neg_neg, ← Int.natCast_mul, this]
  rw [hv, kz_shift, show 2 * f.leastPlace + (((i - f.leastPlace).toNat + (j - f.leastPlace).toNat : Nat) : Int) = i + j by omega]
  obtain ⟨a1, a2, a3⟩ := signed_sign (s ^^ t) (m * n) 0
  rw [Nat.pow_zero, Nat.mul_one] at a1
  unfold Go.Proofs.YtdgkahieegcmeaaDoor.AWN.kz
  rw [a1]
  generalize hu : (s ^^ t) = u at a1 a2 a3 ⊢
  by_cases h0 : m * n = 0
  · rw [h0, rung_zero]; simp
  · cases u
    · rw [if_neg (by decide), if_neg (by have := a2 rfl; omega)]
    · rw [if_pos rfl, if_pos (by have := a3 rfl; omega)]
/-- A quotient of what is not negative and what is positive, against a word. -/
theorem div_key {x y w : Nat} (hx : W f x) (hy : W f y) (hw : W f w) (h0 : 0 ≤ vz f x) (h1 : 0 < vz f y) (hw0 : 0 ≤ vz f w) : ∃ r, f.div x y = some r ∧ r < 2 * f.signWeight ∧
    (vz f x * (2 ^ (-f.leastPlace).toNat : Nat) ≤ vz f w * vz f y → key f r ≤ key f w) ∧ (vz f w * vz f y ≤ vz f x * (2 ^ (-f.leastPlace).toNat : Nat) → key f w ≤ key f r) := by
  obtain ⟨s, m, i, e⟩ := hx.fin
  obtain ⟨t, n, j, e'⟩ := hy.fin
  obtain ⟨g, M, P, e3⟩ := hw.fin
  have x1 := ex_read hf.many e
  have x2 := ex_read hf.many e'
  have x3 := ex_read hf.many e3
  have l1 := x1.least
  have l2 := x2.least
  have l3 := x3.least
  have hx' : vz f x = signed s m (i - f.leastPlace).toNat := by unfold vz; rw [e]
  have hy' : vz f y = signed t n (j - f.leastPlace).toNat := by unfold vz; rw [e']
  have hw' : vz f w = signed g M (P - f.leastPlace).toNat := by unfold vz; rw [e3]
  rw [hx'] at h0
  rw [hy'] at h1
  rw [hw'] at hw0
  have hn : n ≠ 0 := fun hz => by subst hz; rw [signed_zero] at h1; omega
  have ht : t = false := by
    cases t with
    | false => rfl
    | true => have := (signed_sign true n (j - f.leastPlace).toNat).2.2 rfl; omega
  subst ht
  have absx : vz f x = ((m * 2 ^ (i - f.leastPlace).toNat : Nat) : Int) := by
    rw [hx']; have := (signed_sign s m (i - f.leastPlace).toNat).1; omega
  have absy : vz f y = ((n * 2 ^ (j - f.leastPlace).toNat : Nat) : Int) := by
    rw [hy']; have := (signed_sign false n (j - f.leastPlace).toNat).1; omega
  have absw : vz f w = ((M * 2 ^ (P - f.leastPlace).toNat : Nat) : Int) := by
    rw [hw']; have := (signed_sign g M (P - f.leastPlace).toNat).1; omega
  have sx : m ≠ 0 → s = false := fun hm => by
    cases s with
    | false => rfl
    | true =>
      have a := (signed_sign true m (i - f.leastPlace).toNat)
      have : 0 < m * 2 ^ (i - f.leastPlace).toNat := Nat.mul_pos (Nat.pos_of_ne_zero hm) (Nat.two_pow_pos _)
      have := a.2.2 rfl; omega
  unfold Format.div
  rw [e, e']
  simp only [Datum.quotient, if_neg hn, Option.map_some, Format.write]
  refine ⟨_, rfl, nearest_lt2 _ _ _ _, ?_⟩
  rw [key_nearest hf, shl_eq, Bool.xor_false, absx, absy, absw]
  have kw : key f w = (rung f M P : Int) := by
    rw [← hw.kz hf, absw, kz_nat]
    rw [show f.leastPlace + ((P - f.leastPlace).toNat : Int) = P by omega]
  rw [kw]
  -- the quotient's digits
  generalize hmore : f.fractionBits + 2 + n.log2 - m.log2 = more
  have hL := hf.low
  have hnl := (Nat.log2_lt hn).2 x2.size
  have hrung : (if s = true then -(rung f (2 * (m * 2 ^ more / n) + (m * 2 ^ more % n != 0).toNat) (i - j - more - 1) : Int) else (rung f (2 * (m * 2 ^ more / n) + (m * 2 ^ more % n != 0).toNat) (i - j - more - 1) : Int)) = (rung f (2 * (m * 2 ^ more / n) + (m * 2 ^ more % n != 0).toNat) (i - j - more - 1) : Int) := by
    by_cases hm : m = 0
    · subst hm
      rw [Nat.zero_mul, Nat.zero_div, Nat.zero_mod]
      show (if s = true then -(rung f 0 _ : Int) else (rung f 0 _ : Int)) = (rung f 0 _ : Int)
      rw [rung_zero]; simp
    · rw [sx hm]; rfl
  rw [hrung]
  have hq := Nat.div_add_mod (m * 2 ^ more) n
  have hr := Nat.mod_lt (m * 2 ^ more) (Nat.pos_of_ne_zero hn)
  -- both sides against each other
  have big : m ≠ 0 → 2 ^ (f.fractionBits + 1) ≤ 2 * (m * 2 ^ more / n) := fun hm => by
    have hml := (Nat.log2_lt hm).2 x1.size
    have h2 : 2 ^ (f.fractionBits + 1) * n ≤ m * 2 ^ more := by
      have a1 : n < 2 ^ (n.log2 + 1) := Nat.lt_log2_self
      have a2 : 2 ^ m.log2 ≤ m := Nat.log2_self_le hm
      have a3 : 2 ^ (f.fractionBits + 1) * n ≤ 2 ^ (f.fractionBits + 1) * 2 ^ (n.log2 + 1) := Nat.mul_le_mul_left _ (Nat.le_of_lt a1)
      have a4 : 2 ^ m.log2 * 2 ^ more ≤ m * 2 ^ more := Nat.mul_le_mul_right _ a2
      rw [← Nat.pow_add] at a3 a4
      refine Nat.le_trans a3 (Nat.le_trans (Nat.pow_le_pow_right (by decide) ?_) a4)
      omega
    have : 2 ^ (f.fractionBits + 1) ≤ m * 2 ^ more / n := (Nat.le_div_iff_mul_le (Nat.pos_of_ne_zero hn)).2 h2
    omega
  -- exponents
  generalize ha : (i - f.leastPlace).toNat = a
  generalize hb : (j - f.leastPlace).toNat = b
  generalize hc : (P - f.leastPlace).toNat = c
  generalize hd : (-f.leastPlace).toNat = d
  have hL' : f.leastPlace = -(d : Int) := by omega
  have key1 : ∀ t : Nat, (P - (i - j - more - 1) : Int) = t + 1 → (m * 2 ^ a * 2 ^ d ≤ M * 2 ^ c * (n * 2 ^ b) ↔ m * 2 ^ more ≤ M * 2 ^ t * n) ∧ (M * 2 ^ c * (n * 2 ^ b) ≤ m * 2 ^ a * 2 ^ d ↔ M * 2 ^ t * n ≤ m * 2 ^ more) := by
    intro t ht
    have e1 : m * 2 ^ a * 2 ^ d * 2 ^ more = m * 2 ^ more * 2 ^ (a + d) := by rw [Nat.pow_add]; simp only [Nat.mul_assoc, Nat.mul_comm, Nat.mul_left_comm]
    have e2 : M * 2 ^ c * (n * 2 ^ b) * 2 ^ more = M * 2 ^ t * n * 2 ^ (a + d) := by
      have : c + b + more = t + (a + d) := by omega
      calc M * 2 ^ c * (n * 2 ^ b) * 2 ^ more = M * n * 2 ^ (c + b + more) := by rw [Nat.pow_add, Nat.pow_add]; simp only [Nat.mul_assoc, Nat.mul_comm, Nat.mul_left_comm]
        _ = M * 2 ^ t * n * 2 ^ (a + d) := by rw [this, Nat.pow_add]; simp only [Nat.mul_assoc, Nat.mul_comm, Nat.mul_left_comm]
    have p1 := Nat.two_pow_pos more
    have p2 := Nat.two_pow_pos (a + d)
    constructor
    · constructor
      · intro h
        have := Nat.mul_le_mul_right (2 ^ more) h
        rw [e1, e2] at this
        exact Nat.le_of_mul_le_mul_right this p2
      · intro h
        have := Nat.mul_le_mul_right (2 ^ (a + d)) h
        rw [← e1, ← e2] at this
        exact Nat.le_of_mul_le_mul_right this p1
    · constructor
      · intro h
        have := Nat.mul_le_mul_right (2 ^ more) h
        rw [e1, e2] at this
        exact Nat.le_of_mul_le_mul_right this p2
      · intro h
        have := Nat.mul_le_mul_right (2 ^ (a + d)) h
        rw [← e1, ← e2] at this
        exact Nat.le_of_mul_le_mul_right this p1
  have hb1 : ∀ z : Bool, z.toNat ≤ 1 := by intro z; cases z <;> decide
  have st : (m * 2 ^ more % n != 0).toNat = if m * 2 ^ more % n = 0 then 0 else 1 := by
    by_cases h : m * 2 ^ more % n = 0
    · rw [h]; rfl
    · rw [if_neg h]
      have : (m * 2 ^ more % n != 0) = true := by simpa using h
      rw [this]; rfl
  have rsh : ∀ t : Nat, (P - (i - j - more - 1) : Int) = t + 1 → rung f M P = rung f (M * 2 ^ (t + 1)) (i - j - more - 1) := fun t ht => by
    rw [rung_shift]; congr 1; omega
  constructor
  · intro h
    have h : m * 2 ^ a * 2 ^ d ≤ M * 2 ^ c * (n * 2 ^ b) := by
      rw [← Int.natCast_mul, ← Int.natCast_mul] at h; omega
    have : rung f (2 * (m * 2 ^ more / n) + (m * 2 ^ more % n != 0).toNat) (i - j - more - 1) ≤ rung f M P := by
      rcases Int.lt_or_le (i - j - more - 1 : Int) P with hlt | hle
      · obtain ⟨t, ht⟩ : ∃ t : Nat, (P - (i - j - more - 1) : Int) = t + 1 := ⟨(P - (i - j - more - 1) - 1).toNat, by omega⟩
        rw [rsh t ht]
        apply rung_mono
        have h2 := ((key1 t ht).1).1 h
        rw [st, Nat.pow_succ]
        split
        · rename_i hz
          have : n * (m * 2 ^ more / n) ≤ n * (M * 2 ^ t) := by rw [Nat.mul_comm n (M * 2 ^ t)]; omega
          have := Nat.le_of_mul_le_mul_left this (Nat.pos_of_ne_zero hn)
          rw [← Nat.mul_assoc]; omega
        · rename_i hz
          have : n * (m * 2 ^ more / n) < n * (M * 2 ^ t) := by rw [Nat.mul_comm n (M * 2 ^ t)]; omega
          have := Nat.lt_of_mul_lt_mul_left this
          rw [← Nat.mul_assoc]; omega
      · by_cases hm : m = 0
        · subst hm
          rw [Nat.zero_mul, Nat.zero_div, Nat.zero_mod]
          show rung f 0 _ ≤ _
          rw [rung_zero]; exact Nat.zero_le _
        · exfalso
          have hbig := big hm
          have hM := x3.size
          -- the word is worth less than the quotient's digits
          have u : m * 2 ^ more * 2 ≤ M * n := by
            have e1 : m * 2 ^ a * 2 ^ d * 2 ^ (more + 1) = m * 2 ^ more * 2 * 2 ^ (a + d) := by rw [Nat.pow_add, Nat.pow_add]; simp only [Nat.mul_assoc, Nat.mul_comm, Nat.mul_left_comm, Nat.pow_one]
            have e2 : M * 2 ^ c * (n * 2 ^ b) * 2 ^ (more + 1) = M * n * 2 ^ (c + b + more + 1) := by rw [Nat.pow_add, Nat.pow_add, Nat.pow_add, Nat.pow_add]; simp only [Nat.mul_assoc, Nat.mul_comm, Nat.mul_left_comm, Nat.pow_one]
            have h2 := Nat.mul_le_mul_right (2 ^ (more + 1)) h
            rw [e1, e2] at h2
            have h3 : M * n * 2 ^ (c + b + more + 1) ≤ M * n * 2 ^ (a + d) := Nat.mul_le_mul_left _ (Nat.pow_le_pow_right (by decide) (by omega))
            exact Nat.le_of_mul_le_mul_right (Nat.le_trans h2 h3) (Nat.two_pow_pos _)
          have v : 2 ^ (f.fractionBits + 1) * n ≤ 2 * (m * 2 ^ more) := by
            have := Nat.mul_le_mul_right n hbig
            have e : 2 * (m * 2 ^ more / n) * n = 2 * (n * (m * 2 ^ more / n)) := by rw [Nat.mul_assoc, Nat.mul_comm n]
            rw [e] at this; omega
          have w' : M * n < 2 ^ (f.fractionBits + 1) * n := Nat.mul_lt_mul_of_pos_right hM (Nat.pos_of_ne_zero hn)
          omega
    omega
  · intro h
    have h : M * 2 ^ c * (n * 2 ^ b) ≤ m * 2 ^ a * 2 ^ d := by
      rw [← Int.natCast_mul, ← Int.natCast_mul] at h; omega
    have : rung f M P ≤ rung f (2 * (m * 2 ^ more / n) + (m * 2 ^ more % n != 0).toNat) (i - j - more - 1) := by
      rcases Int.lt_or_le (i - j - more - 1 : Int) P with hlt | hle
      · obtain ⟨t, ht⟩ : ∃ t : Nat, (P - (i - j - more - 1) : Int) = t + 1 := ⟨(P - (i - j - more - 1) - 1).toNat, by omega⟩
        rw [rsh t ht]
        apply rung_mono
        have h2 := ((key1 t ht).2).1 h
        have : M * 2 ^ t ≤ m * 2 ^ more / n := (Nat.le_div_iff_mul_le (Nat.pos_of_ne_zero hn)).2 h2
        rw [Nat.pow_succ, ← Nat.mul_assoc]; omega
      · by_cases hM0 : M = 0
        · subst hM0; rw [rung_zero]; exact Nat.zero_le _
        · have hm : m ≠ 0 := fun hm => by
            subst hm
            have : 0 < M * 2 ^ c * (n * 2 ^ b) := Nat.mul_pos (Nat.mul_pos (Nat.pos_of_ne_zero hM0) (Nat.two_pow_pos _)) (Nat.mul_pos (Nat.pos_of_ne_zero hn) (Nat.two_pow_pos _))
            simp at h; omega
          have hbig := big hm
          have hM := x3.size
          have e : rung f M P ≤ rung f M (i - j - more - 1) := by
            obtain ⟨t, ht⟩ : ∃ t : Nat, (i - j - more - 1 : Int) = P + t := ⟨(i - j - more - 1 - P).toNat, by omega⟩
            rw [ht, ← rung_shift]
            exact rung_mono f P (Nat.le_mul_of_pos_right _ (Nat.two_pow_pos _))
          exact Nat.le_trans e (rung_mono f _ (by omega))
    omega
end
end Go.Proofs.YtdgkahieegcmeaaDoor.AWN

namespace Go.Proofs.YtdgkahieegcmeaaDoor.AWN
open Go Ieee

theorem cmp_int (a b : Int) : compare a b = if a < b then .lt else if a = b then .eq else .gt := rfl
section
variable {k : FloatKind} {x y : Nat} (hx : W k.format x) (hy : W k.format y)
include hx hy
theorem ord_w : k.format.order x y = some (if key k.format x < key k.format y then .lt else if key k.format x = key k.format y then .eq else .gt) :=
  order_key (fmtK k) hx.lt hy.lt hx.fin hy.fin
theorem lss_w : fcmp .lss k x y = decide (key k.format x < key k.format y) := by
  unfold fcmp; rw [ord_w hx hy]
  by_cases h : key k.format x < key k.format y
  · rw [if_pos h, decide_eq_true h]; rfl
  · rw [if_neg h, decide_eq_false h]
    by_cases h2 : key k.format x = key k.format y
    · rw [if_pos h2]; rfl
    · rw [if_neg h2]; rfl
theorem leq_w : fcmp .leq k x y = decide (key k.format x ≤ key k.format y) := by
  unfold fcmp; rw [ord_w hx hy]
  by_cases h : key k.format x < key k.format y
  · rw [if_pos h, decide_eq_true (by omega)]; rfl
  · rw [if_neg h]
    by_cases h2 : key k.format x = key k.format y
    · rw [if_pos h2, decide_eq_true (by omega)]; rfl
    · rw [if_neg h2, decide_eq_false (by omega)]; rfl
theorem gtr_w : fcmp .gtr k x y = decide (key k.format y < key k.format x) := by
  unfold fcmp; rw [ord_w hx hy]
  by_cases h : key k.format x < key k.format y
  · rw [if_pos h, decide_eq_false (by omega)]; rfl
  · rw [if_neg h]
    by_cases h2 : key k.format x = key k.format y
    · rw [if_pos h2, decide_eq_false (by omega)]; rfl
    · rw [if_neg h2, decide_eq_true (by omega)]; rfl
theorem geq_w : fcmp .geq k x y = decide (key k.format y ≤ key k.format x) := by
  unfold fcmp; rw [ord_w hx hy]
  by_cases h : key k.format x < key k.format y
  · rw [if_pos h, decide_eq_false (by omega)]; rfl
  · rw [if_neg h]
    by_cases h2 : key k.format x = key k.format y
    · rw [if_pos h2, decide_eq_true (by omega)]; rfl
    · rw [if_neg h2, decide_eq_true (by omega)]; rfl
theorem eql_w : fcmp .eql k x y = decide (key k.format x = key k.format y) := by
  unfold fcmp; rw [ord_w hx hy]
  by_cases h : key k.format x < key k.format y
  · rw [if_pos h, decide_eq_false (by omega)]; rfl
  · rw [if_neg h]
    by_cases h2 : key k.format x = key k.format y
    · rw [if_pos h2, decide_eq_true (by omega)]; rfl
    · rw [if_neg h2, decide_eq_false (by omega)]; rfl
theorem neq_w : fcmp .neq k x y = !decide (key k.format x = key k.format y) := by
  have := eql_w hx hy
  unfold fcmp at *
  rw [← this]; rfl
theorem fadd_key : farith .add k x y < 2 * k.format.signWeight ∧ key k.format (farith .add k x y) = kz k.format (vz k.format x + vz k.format y) k.format.leastPlace := by
  obtain ⟨r, h1, h2, h3⟩ := add_key (fmtK k) hx hy
  unfold farith
  simp only [h1, Option.getD_some]
  exact ⟨h2, h3⟩
theorem fsub_key : farith .sub k x y < 2 * k.format.signWeight ∧ key k.format (farith .sub k x y) = kz k.format (vz k.format x - vz k.format y) k.format.leastPlace := by
  obtain ⟨r, h1, h2, h3⟩ := sub_key (fmtK k) hx hy
  unfold farith
  simp only [h1, Option.getD_some]
  exact ⟨h2, h3⟩
theorem fmul_key : farith .mul k x y < 2 * k.format.signWeight ∧ key k.format (farith .mul k x y) = kz k.format (vz k.format x * vz k.format y) (2 * k.format.leastPlace) := by
  obtain ⟨r, h1, h2, h3⟩ := mul_key (fmtK k) hx hy
  unfold farith
  simp only [h1, Option.getD_some]
  exact ⟨h2, h3⟩
end
theorem kz_scaled {k : FloatKind} {w : Nat} (hw : W k.format w) : kz k.format (vz k.format w * (2 ^ (-k.format.leastPlace).toNat : Nat)) (2 * k.format.leastPlace) = key k.format w := by
  have := (fmtK k).low
  rw [kz_shift, show 2 * k.format.leastPlace + ((-k.format.leastPlace).toNat : Int) = k.format.leastPlace by omega, hw.kz (fmtK k)]
theorem W.of_key {f : Format} (hf : FmtK f) {r lo hi : Nat} (hr : r < 2 * f.signWeight) (hlo : W f lo) (hhi : W f hi) (h1 : key f lo ≤ key f r) (h2 : key f r ≤ key f hi) : W f r :=
  ⟨hr, fin_of_key (by have := hhi.key_lt hf; omega) (by have := hlo.key_lt hf; omega)⟩
section
variable {k : FloatKind} {x y lo hi : Nat} (hx : W k.format x) (hy : W k.format y) (hlo : W k.format lo) (hhi : W k.format hi)
include hx hy hlo hhi
/-- A sum between two words is rounded to what stands between them. -/
theorem fadd_in (h1 : vz k.format lo ≤ vz k.format x + vz k.format y) (h2 : vz k.format x + vz k.format y ≤ vz k.format hi) : W k.format (farith .add k x y) ∧ key k.format lo ≤ key k.format (farith .add k x y) ∧ key k.format (farith .add k x y) ≤ key k.format hi := by
  obtain ⟨a, b⟩ := fadd_key hx hy
  have m1 := kz_mono k.format k.format.leastPlace h1
  have m2 := kz_mono k.format k.format.leastPlace h2
  rw [hlo.kz (fmtK k)] at m1
  rw [hhi.kz (fmtK k)] at m2
  rw [← b] at m1 m2
  exact ⟨W.of_key (fmtK k) a hlo hhi m1 m2, m1, m2⟩
theorem fsub_in (h1 : vz k.format lo ≤ vz k.format x - vz k.format y) (h2 : vz k.format x - vz k.format y ≤ vz k.format hi) : W k.format (farith .sub k x y) ∧ key k.format lo ≤ key k.format (farith .sub k x y) ∧ key k.format (farith .sub k x y) ≤ key k.format hi := by
  obtain ⟨a, b⟩ := fsub_key hx hy
  have m1 := kz_mono k.format k.format.leastPlace h1
  have m2 := kz_mono k.format k.format.leastPlace h2
  rw [hlo.kz (fmtK k)] at m1
  rw [hhi.kz (fmtK k)] at m2
  rw [← b] at m1 m2
  exact ⟨W.of_key (fmtK k) a hlo hhi m1 m2, m1, m2⟩
theorem fmul_in (h1 : vz k.format lo * (2 ^ (-k.format.leastPlace).toNat : Nat) ≤ vz k.format x * vz k.format y) (h2 : vz k.format x * vz k.format y ≤ vz k.format hi * (2 ^ (-k.format.leastPlace).toNat : Nat)) : W k.format (farith .mul k x y) ∧ key k.format lo ≤ key k.format (farith .mul k x y) ∧ key k.format (farith .mul k x y) ≤ key k.format hi := by
  obtain ⟨a, b⟩ := fmul_key hx hy
  have m1 := kz_mono k.format (2 * k.format.leastPlace) h1
  have m2 := kz_mono k.format (2 * k.format.leastPlace) h2
  rw [kz_scaled hlo] at m1
  rw [kz_scaled hhi] at m2
  rw [← b] at m1 m2
  exact ⟨W.of_key (fmtK k) a hlo hhi m1 m2, m1, m2⟩
theorem fdiv_in (h0 : 0 ≤ vz k.format x) (hp : 0 < vz k.format y) (l0 : 0 ≤ vz k.format lo) (g0 : 0 ≤ vz k.format hi) (h1 : vz k.format lo * vz k.format y ≤ vz k.format x * (2 ^ (-k.format.leastPlace).toNat : Nat)) (h2 : vz k.format x * (2 ^ (-k.format.leastPlace).toNat : Nat) ≤ vz k.format hi * vz k.format y) : W k.format (farith .quo k x y) ∧ key k.format lo ≤ key k.format (farith .quo k x y) ∧ key k.format (farith .quo k x y) ≤ key k.format hi := by
  obtain ⟨r, e1, e2, _, e4⟩ := div_key (fmtK k) hx hy hlo h0 hp l0
  obtain ⟨r', e1', e2', e3', _⟩ := div_key (fmtK k) hx hy hhi h0 hp g0
  have : r' = r := by rw [e1] at e1'; exact (Option.some.inj e1').symm
  subst this
  have e : farith .quo k x y = r' := by unfold farith; simp only [e1, Option.getD_some]
  rw [e]
  have m1 := e4 h1
  have m2 := e3' h2
  exact ⟨W.of_key (fmtK k) e2 hlo hhi m1 m2, m1, m2⟩
end
/-- The word of an integer in units of a place. -/
theorem w_ofZ {f : Format} (hf : FmtOk f) (hk : FmtK f) {z p : Int} (h : Ex f z.natAbs p) : W f (ofZ f z p) ∧ vz f (ofZ f z p) = z * (2 ^ (p - f.leastPlace).toNat : Nat) := by
  obtain ⟨a, P, h1, h2⟩ := read_ex hf (decide (z < 0)) h
  have h1 : f.read (ofZ f z p) = .number (decide (z < 0)) (z.natAbs * 2 ^ a) P := h1
  refine ⟨⟨nearest_lt2 _ _ _ _, ⟨_, _, _, h1⟩⟩, ?_⟩
  unfold vz
  rw [h1]
  have hl := (ex_read hk.many h1).least
  exact signed_read (base := f.leastPlace) (fun hz => (h2 (by omega)).1) hl h.least rfl
/-- Words of the same place and the same sign are the same word. -/
theorem word_of_key {f : Format} {r w : Nat} (hr : r < 2 * f.signWeight) (hw : w < 2 * f.signWeight) (h : key f r = key f w) (h0 : key f w ≠ 0) : r = w := by
  have hsg : 0 < f.signWeight := by
    rcases Nat.eq_zero_or_pos f.signWeight with h | h
    · rw [h] at hr; omega
    · exact h
  have d1 := Nat.div_add_mod r f.signWeight
  have d2 := Nat.div_add_mod w f.signWeight
  have q1 : r / f.signWeight < 2 := (Nat.div_lt_iff_lt_mul hsg).2 hr
  have q2 : w / f.signWeight < 2 := (Nat.div_lt_iff_lt_mul hsg).2 hw
  unfold key at h h0
  generalize r / f.signWeight = a at *
  generalize w / f.signWeight = b at *
  rcases (show a = 0 ∨ a = 1 by omega) with rfl | rfl <;> rcases (show b = 0 ∨ b = 1 by omega) with rfl | rfl <;> simp at h h0 d1 d2 <;> omega
/-- Twice a number: a binade up. -/
theorem rung_double {f : Format} {m : Nat} {p : Int} (h : 2 * f.binade ≤ rung f m p) (h2 : rung f m p + f.binade < f.infRung) : rung f m (p + 1) = rung f m p + f.binade := by
  have hb : 0 < f.binade := Nat.two_pow_pos _
  have hm : m ≠ 0 := fun h0 => by subst h0; rw [rung_zero] at h; omega
  unfold rung at *
  rw [if_neg hm] at h h2 ⊢
  rw [if_neg hm]
  have b1 := (kept_bounds f (p := p) hm).1
  have hc : f.leastPlace ≤ p + m.log2 - f.fractionBits := by
    rcases Int.lt_or_le (p + m.log2 - f.fractionBits) f.leastPlace with h1 | h1
    · exfalso
      have hl : lastP f m p = f.leastPlace := by unfold lastP; omega
      have : keptN f m p ≤ f.binade := by
        unfold keptN
        rw [hl]
        apply cut_le
        rw [shl_eq, Format.binade, ← Nat.pow_add]
        have h3 := @Nat.lt_log2_self m
        have h4 : m * 2 ^ (p - f.leastPlace).toNat ≤ 2 ^ (m.log2 + 1) * 2 ^ (p - f.leastPlace).toNat := Nat.mul_le_mul_right _ (Nat.le_of_lt h3)
        rw [← Nat.pow_add] at h4
        exact Nat.le_trans h4 (Nat.pow_le_pow_right (by decide) (by omega))
      rw [hl] at h
      simp only [Int.sub_self, Int.toNat_zero, Nat.zero_mul, Nat.zero_add] at h
      omega
    · exact h1
  have hl : lastP f m (p + 1) = lastP f m p + 1 := by unfold lastP; omega
  have hll : f.leastPlace ≤ lastP f m p := by unfold lastP; omega
  have hk : keptN f m (p + 1) = keptN f m p := by
    unfold keptN
    rw [hl, show (p + 1 - (lastP f m p + 1)).toNat = (p - lastP f m p).toNat by omega, show (lastP f m p + 1 - (p + 1)).toNat = (lastP f m p - p).toNat by omega]
  rw [hl, hk, show (lastP f m p + 1 - f.leastPlace).toNat = (lastP f m p - f.leastPlace).toNat + 1 by omega, Nat.add_mul, Nat.one_mul]
  omega
theorem lss_s {x y : Nat} (hx : W Ieee.single x) (hy : W Ieee.single y) : fcmp .lss .f32 x y = decide (key Ieee.single x < key Ieee.single y) := lss_w (k := .f32) hx hy
theorem leq_s {x y : Nat} (hx : W Ieee.single x) (hy : W Ieee.single y) : fcmp .leq .f32 x y = decide (key Ieee.single x ≤ key Ieee.single y) := leq_w (k := .f32) hx hy
theorem gtr_s {x y : Nat} (hx : W Ieee.single x) (hy : W Ieee.single y) : fcmp .gtr .f32 x y = decide (key Ieee.single y < key Ieee.single x) := gtr_w (k := .f32) hx hy
theorem geq_s {x y : Nat} (hx : W Ieee.single x) (hy : W Ieee.single y) : fcmp .geq .f32 x y = decide (key Ieee.single y ≤ key Ieee.single x) := geq_w (k := .f32) hx hy
theorem eql_s {x y : Nat} (hx : W Ieee.single x) (hy : W Ieee.single y) : fcmp .eql .f32 x y = decide (key Ieee.single x = key Ieee.single y) := eql_w (k := .f32) hx hy
theorem neq_s {x y : Nat} (hx : W Ieee.single x) (hy : W Ieee.single y) : fcmp .neq .f32 x y = (!decide (key Ieee.single x = key Ieee.single y)) := neq_w (k := .f32) hx hy
end Go.Proofs.YtdgkahieegcmeaaDoor.AWN

namespace Go.Proofs.YtdgkahieegcmeaaDoor.AWN
open Go Ieee

theorem ex_small (k : FloatKind) {m : Nat} (h : m < 16777216) : Ex k.format m 0 := by
  have hl : m.log2 ≤ 23 := by
    by_cases h0 : m = 0
    · subst h0; rw [show Nat.log2 0 = 0 from by decide]; omega
    · have : m.log2 < 24 := (Nat.log2_lt h0).2 h
      omega
  cases k with
  | f32 =>
    refine ⟨h, by decide, ?_⟩
    rw [show FloatKind.f32.format.fractionBits = 23 from rfl, show FloatKind.f32.format.leastPlace = -149 from by decide, show maxRung FloatKind.f32.format = 255 from by decide]
    omega
  | f64 =>
    refine ⟨Nat.lt_trans h (by decide), by decide, ?_⟩
    rw [show FloatKind.f64.format.fractionBits = 52 from rfl, show FloatKind.f64.format.leastPlace = -1074 from by decide, show maxRung FloatKind.f64.format = 2047 from by decide]
    omega
theorem ex_wide' {m : Nat} (h : m < 1000000000000000) : Ex FloatKind.f64.format m 0 := by
  have hl : m.log2 ≤ 50 := by
    by_cases h0 : m = 0
    · subst h0; rw [show Nat.log2 0 = 0 from by decide]; omega
    · have : m.log2 < 51 := (Nat.log2_lt h0).2 (Nat.lt_trans h (by decide))
      omega
  refine ⟨Nat.lt_trans h (by decide), by decide, ?_⟩
  rw [show FloatKind.f64.format.fractionBits = 52 from rfl, show FloatKind.f64.format.leastPlace = -1074 from by decide, show maxRung FloatKind.f64.format = 2047 from by decide]
  omega
/-- A word that stands for a whole number (zero with any sign). -/
structure IntF (k : FloatKind) (w : Nat) (z : Int) : Prop where
  wk : W k.format w
  v : vz k.format w = z * (2 ^ (-k.format.leastPlace).toNat : Nat)
  ex : Ex k.format z.natAbs 0
section
variable {k : FloatKind}
theorem pl (k : FloatKind) : k.format.leastPlace + ((-k.format.leastPlace).toNat : Int) = 0 := by have := (fmtK k).low; omega
theorem up (k : FloatKind) : (0 : Int) < ((2 ^ (-k.format.leastPlace).toNat : Nat) : Int) := by have := Nat.two_pow_pos (-k.format.leastPlace).toNat; omega
theorem IntF.key {w : Nat} {z : Int} (h : IntF k w z) : key k.format w = kz k.format z 0 := by
  rw [← h.wk.kz (fmtK k), h.v, kz_shift, pl]
theorem int_ofZ {z : Int} (h : Ex k.format z.natAbs 0) : IntF k (ofZ k.format z 0) z := by
  obtain ⟨a, b⟩ := w_ofZ (fmtOk k) (fmtK k) h
  exact ⟨a, by rw [b, Int.zero_sub], h⟩
theorem int_near {z : Int} (h : Ex k.format z.natAbs 0) : IntF k (k.nearest z) z := int_ofZ h
theorem int_of_key {r : Nat} {z : Int} (hr : r < 2 * k.format.signWeight) (h : Ex k.format z.natAbs 0) (hk : Go.Proofs.YtdgkahieegcmeaaDoor.AWN.key k.format r = kz k.format z 0) : IntF k r z := by
  have o := int_ofZ h
  have e : Go.Proofs.YtdgkahieegcmeaaDoor.AWN.key k.format r = Go.Proofs.YtdgkahieegcmeaaDoor.AWN.key k.format (ofZ k.format z 0) := by rw [hk, o.key]
  have hw : W k.format r := W.of_key (fmtK k) hr o.wk o.wk (by omega) (by omega)
  have a := (hw.vz_le (fmtK k) o.wk).1 (by omega)
  have b := (o.wk.vz_le (fmtK k) hw).1 (by omega)
  exact ⟨hw, by rw [← o.v]; omega, h⟩
theorem IntF.eql {x y : Nat} {a b : Int} (hx : IntF k x a) (hy : IntF k y b) : fcmp .eql k x y = decide (a = b) := by
  rw [eql_w hx.wk hy.wk]
  have u := up k
  congr 1
  apply propext
  constructor
  · intro h
    have p := (hx.wk.vz_le (fmtK k) hy.wk).1 (by omega)
    have q := (hy.wk.vz_le (fmtK k) hx.wk).1 (by omega)
    have e : vz k.format x = vz k.format y := by omega
    rw [hx.v, hy.v] at e
    exact Int.eq_of_mul_eq_mul_right (by omega) e
  · rintro rfl
    rw [hx.key, hy.key]
theorem IntF.add {x y : Nat} {a b : Int} (hx : IntF k x a) (hy : IntF k y b) (h : Ex k.format (a + b).natAbs 0) : IntF k (farith .add k x y) (a + b) := by
  obtain ⟨p, q⟩ := fadd_key hx.wk hy.wk
  refine int_of_key p h ?_
  rw [q, hx.v, hy.v, ← Int.add_mul, kz_shift, pl]
theorem IntF.sub {x y : Nat} {a b : Int} (hx : IntF k x a) (hy : IntF k y b) (h : Ex k.format (a - b).natAbs 0) : IntF k (farith .sub k x y) (a - b) := by
  obtain ⟨p, q⟩ := fsub_key hx.wk hy.wk
  refine int_of_key p h ?_
  rw [q, hx.v, hy.v, ← Int.sub_mul, kz_shift, pl]
theorem IntF.mul {x y : Nat} {a b : Int} (hx : IntF k x a) (hy : IntF k y b) (h : Ex k.format (a * b).natAbs 0) : IntF k (farith .mul k x y) (a * b) := by
  obtain ⟨p, q⟩ := fmul_key hx.wk hy.wk
  refine int_of_key p h ?_
  have e : vz k.format x * vz k.format y = a * b * ((2 ^ ((-k.format.leastPlace).toNat + (-k.format.leastPlace).toNat) : Nat) : Int) := by
    rw [hx.v, hy.v, Nat.pow_add, Int.natCast_mul]
    generalize ((2 ^ (-k.format.leastPlace).toNat : Nat) : Int) = u
    rw [Int.mul_assoc, Int.mul_assoc, Int.mul_left_comm u b u]
  rw [q, e, kz_shift]
  have := pl k
  rw [show 2 * k.format.leastPlace + (((-k.format.leastPlace).toNat + (-k.format.leastPlace).toNat : Nat) : Int) = 0 by omega]
/-- How it is read. -/
theorem IntF.read {w : Nat} {z : Int} (h : IntF k w z) : ∃ s m p, k.format.read w = .number s m p ∧ k.format.leastPlace ≤ p ∧ m * 2 ^ (p - k.format.leastPlace).toNat = z.natAbs * 2 ^ (-k.format.leastPlace).toNat ∧ (z < 0 → s = true) ∧ (0 < z → s = false) := by
  obtain ⟨s, m, p, e⟩ := h.wk.fin
  have hv := h.v
  have hl := (ex_read (fmtK k).many e).least
  unfold vz at hv
  rw [e] at hv
  dsimp only at hv
  obtain ⟨a1, a2, a3⟩ := signed_sign s m (p - k.format.leastPlace).toNat
  have u := up k
  refine ⟨s, m, p, e, hl, ?_, ?_, ?_⟩
  · rw [← a1, hv, Int.natAbs_mul, Int.natAbs_natCast]
  · intro hz
    cases s with
    | true => rfl
    | false =>
      have := a2 rfl
      rw [hv] at this
      have := Int.mul_neg_of_neg_of_pos hz u
      omega
  · intro hz
    cases s with
    | false => rfl
    | true =>
      have := a3 rfl
      rw [hv] at this
      have := Int.mul_pos hz u
      omega
theorem rung_of (f : Format) {m n u v : Nat} {p : Int} {l : Int} (h : m * 2 ^ u = n * 2 ^ v) (hu : l + u = p) (hv : l + v = 0) : rung f m p = rung f n 0 := by
  rw [← hu, ← hv, ← rung_shift, ← rung_shift, h]
theorem IntF.conv {s : FloatKind} {x : Nat} {a : Int} (hx : IntF s x a) (hsk : s ≠ k) (h : Ex k.format a.natAbs 0) : ∃ r, fconv s k x = some r ∧ IntF k r a := by
  obtain ⟨sg, m, p, e, hl, hm, h1, h2⟩ := hx.read
  have hd : s.decode x = .number sg m p := e
  have hk : Go.Proofs.YtdgkahieegcmeaaDoor.AWN.key k.format (k.format.nearest sg m p) = kz k.format a 0 := by
    rw [key_nearest (fmtK k), rung_of k.format (l := s.format.leastPlace) hm (by omega) (pl s)]
    unfold kz
    by_cases ha : a = 0
    · subst ha
      rw [show (0 : Int).natAbs = 0 from rfl, rung_zero]
      cases sg <;> rfl
    · by_cases hn : a < 0
      · rw [h1 hn, if_pos rfl, if_pos hn]
      · rw [h2 (by omega), if_neg (by decide), if_neg hn]
  have hi := int_of_key (nearest_lt2 _ _ _ _) h hk
  refine ⟨k.format.nearest sg m p, ?_, hi⟩
  obtain ⟨sg', m', p', e'⟩ := hi.wk.fin
  have hd' : k.decode (k.format.nearest sg m p) = .number sg' m' p' := e'
  have he : k.encode (.number sg m p) = k.format.nearest sg m p := rfl
  unfold fconv
  rw [show fkEq s k = false from by cases s <;> cases k <;> first | rfl | exact absurd rfl hsk, cond_false, hd]
  simp only [he, hd']
  rfl
theorem IntF.neg {x : Nat} {a : Int} (hx : IntF k x a) : IntF k (fneg k x) (-a) := by
  have hlt : x < 2 ^ k.format.width := by rw [width_two]; exact hx.wk.lt
  obtain ⟨s, m, p, e, hl, hm, h1, h2⟩ := hx.read
  have hr : k.format.read (Op.negFloat k x) = .number (!s) m p := by rw [read_neg k x hlt, e]; rfl
  have hc : fneg k x = Op.negFloat k x := by
    unfold fneg
    apply canon_of_not
    unfold isnan
    rw [hr]; rfl
  rw [hc]
  refine ⟨⟨by rw [← width_two]; exact neg_lt hlt, _, _, _, hr⟩, ?_, by rw [Int.natAbs_neg]; exact hx.ex⟩
  have hv := hx.v
  unfold vz at hv ⊢
  rw [e] at hv
  rw [hr]
  dsimp only at hv ⊢
  rw [Int.neg_mul, ← hv]
  unfold signed
  cases s <;> simp
/-- A quotient without remainder. -/
theorem IntF.quo {x y : Nat} {q d : Int} (hx : IntF k x (q * d)) (hy : IntF k y d) (hd : 0 < d) (h : Ex k.format q.natAbs 0) : IntF k (farith .quo k x y) q := by
  have u := up k
  have pos : ∀ (x' : Nat) (q' : Int), IntF k x' (q' * d) → Ex k.format q'.natAbs 0 → 0 ≤ q' → ∃ r, k.format.div x' y = some r ∧ IntF k r q' := by
    intro x' q' hx' h' h0
    have o := int_ofZ h'
    have w0 : 0 ≤ vz k.format (ofZ k.format q' 0) := by rw [o.v]; exact Int.mul_nonneg h0 (Int.le_of_lt u)
    obtain ⟨r, e1, e2, e3, e4⟩ := div_key (fmtK k) hx'.wk hy.wk o.wk (by rw [hx'.v]; exact Int.mul_nonneg (Int.mul_nonneg h0 (Int.le_of_lt hd)) (Int.le_of_lt u)) (by rw [hy.v]; exact Int.mul_pos hd u) w0
    have e : vz k.format x' * (2 ^ (-k.format.leastPlace).toNat : Nat) = vz k.format (ofZ k.format q' 0) * vz k.format y := by
      rw [hx'.v, hy.v, o.v]
      generalize ((2 ^ (-k.format.leastPlace).toNat : Nat) : Int) = w
      rw [Int.mul_assoc q' d w, Int.mul_assoc q' w (d * w), Int.mul_assoc q' (d * w) w]
      congr 1
      rw [Int.mul_comm]
    have k1 := e3 (by omega)
    have k2 := e4 (by omega)
    exact ⟨r, e1, int_of_key e2 h' (by have := o.key; omega)⟩
  by_cases h0 : 0 ≤ q
  · obtain ⟨r, e1, e2⟩ := pos x q hx h h0
    unfold farith
    simp only [e1, Option.getD_some]
    exact e2
  · have hn : IntF k (fneg k x) (-q * d) := by rw [Int.neg_mul]; exact hx.neg
    obtain ⟨r, e1, e2⟩ := pos (fneg k x) (-q) hn (by rw [Int.natAbs_neg]; exact h) (by omega)
    obtain ⟨s, m, p, e, hl, hm, h1, h2⟩ := hx.read
    obtain ⟨t, n, j, e', hl', hm', h1', h2'⟩ := hy.read
    have hlt : x < 2 ^ k.format.width := by rw [width_two]; exact hx.wk.lt
    have hr : k.format.read (Op.negFloat k x) = .number (!s) m p := by rw [read_neg k x hlt, e]; rfl
    have hc : fneg k x = Op.negFloat k x := by
      unfold fneg
      apply canon_of_not
      unfold isnan
      rw [hr]; rfl
    have hn0 : n ≠ 0 := by
      rintro rfl
      rw [Nat.zero_mul] at hm'
      have := Nat.mul_pos (show 0 < d.natAbs by omega) (Nat.two_pow_pos (-k.format.leastPlace).toNat)
      omega
    have hdiv : ∀ z g, k.format.read z = .number g m p → k.format.div z y = some (k.format.nearest (g ^^ t) (2 * (m <<< (k.format.fractionBits + 2 + n.log2 - m.log2) / n) + (m <<< (k.format.fractionBits + 2 + n.log2 - m.log2) % n != 0).toNat) (p - j - (k.format.fractionBits + 2 + n.log2 - m.log2 : Nat) - 1)) := by
      intro z g hz
      unfold Format.div
      rw [hz, e']
      simp only [Datum.quotient, if_neg hn0, Option.map_some, Format.write]
    have d1 := hdiv x s e
    have d2 := hdiv (fneg k x) (!s) (by rw [hc]; exact hr)
    generalize (2 * (m <<< (k.format.fractionBits + 2 + n.log2 - m.log2) / n) + (m <<< (k.format.fractionBits + 2 + n.log2 - m.log2) % n != 0).toNat) = M at d1 d2
    generalize (p - j - (k.format.fractionBits + 2 + n.log2 - m.log2 : Nat) - 1) = P at d1 d2
    have hs : s = true := h1 (Int.mul_neg_of_neg_of_pos (by omega) hd)
    have ht : t = false := h2' hd
    subst hs; subst ht
    rw [d2] at e1
    have e1 := Option.some.inj e1
    subst e1
    have k2 := e2.key
    rw [key_nearest (fmtK k)] at k2
    have hq : farith .quo k x y = k.format.nearest true M P := by
      unfold farith
      simp only [d1, Option.getD_some]
      rfl
    rw [hq]
    refine int_of_key (nearest_lt2 _ _ _ _) h ?_
    rw [key_nearest (fmtK k), if_pos rfl]
    rw [show (!true ^^ false) = false from rfl, if_neg (by decide)] at k2
    rw [k2]
    unfold kz
    rw [if_neg (by omega), if_pos (by omega), Int.natAbs_neg]
theorem rootFrom_sq (n : Nat) : ∀ (todo root : Nat), root * root ≤ n → Datum.rootFrom n todo root * Datum.rootFrom n todo root ≤ n
  | 0, root, h => h
  | todo + 1, root, h => by
    unfold Datum.rootFrom
    apply rootFrom_sq n todo
    split
    · assumption
    · exact h
/-- A root is not great where its number is not. -/
theorem sqrt_narrow {x : Nat} (h : Mag double x 100) : ∃ r, fconv .f64 .f32 (fsqrt x) = some r := by
  obtain ⟨s, m, i, e, hm⟩ := h
  have dft : fconv .f64 .f32 (qnan .f64) = some (qnan .f32) := by decide
  have e : FloatKind.f64.format.read x = .number s m i := e
  unfold fsqrt Format.sqrt
  rw [e]
  unfold Datum.root
  by_cases h0 : m = 0
  · subst h0
    simp only [if_true, Option.map_some, Option.getD_some, Format.write]
    obtain ⟨r, hr, _⟩ := conv_mag (s := .f64) (k := .f32) (nearest_mag (fmtMag .f64) s (m := 0) (p := i) (E := 0) (.inl rfl) (by decide) (by decide)) (by decide) (by decide)
    exact ⟨r, hr⟩
  · simp only [if_neg h0]
    cases s with
    | true => exact ⟨_, dft⟩
    | false =>
      simp only [Bool.false_eq_true, if_false, Option.map_some, Option.getD_some, Format.write]
      generalize hmo : 2 * (FloatKind.f64.format.fractionBits + 2) - m.log2 + ((i - ((2 * (FloatKind.f64.format.fractionBits + 2) - m.log2 : Nat) : Int)) % 2).toNat = more
      have hn : m <<< more ≠ 0 := by rw [shl_eq]; exact Nat.mul_ne_zero h0 (Nat.pos_iff_ne_zero.1 (Nat.two_pow_pos _))
      have hln : (m <<< more).log2 = m.log2 + more := by rw [shl_eq, log2_mul_pow more h0]
      have hsq := rootFrom_sq (m <<< more) ((m <<< more).log2 / 2 + 1) 0 (Nat.zero_le _)
      generalize Datum.rootFrom (m <<< more) ((m <<< more).log2 / 2 + 1) 0 = w at hsq ⊢
      generalize (w * w != m <<< more) = b
      have hb : b.toNat ≤ 1 := by cases b <;> decide
      have hi : i + (m.log2 : Int) ≤ 100 := by
        rcases hm with hm | hm
        · exact absurd hm h0
        · exact hm
      have hlog : 2 * w.log2 ≤ m.log2 + more := by
        by_cases hw : w = 0
        · subst hw; rw [show Nat.log2 0 = 0 from by decide]; omega
        · have a := Nat.log2_self_le hw
          have a2 : 2 ^ w.log2 * 2 ^ w.log2 ≤ w * w := Nat.mul_le_mul a a
          rw [← Nat.pow_add] at a2
          have a3 := (Nat.le_log2 hn).2 (Nat.le_trans a2 hsq)
          omega
      have hmag : 2 * w + b.toNat = 0 ∨ (i - (more : Int)) / 2 - 1 + ((2 * w + b.toNat).log2 : Int) ≤ 60 := by
        by_cases hz : 2 * w + b.toNat = 0
        · exact .inl hz
        · right
          have : (2 * w + b.toNat).log2 ≤ w.log2 + 1 := by
            have := (Nat.log2_lt hz (k := w.log2 + 2)).2 (by
              have := @Nat.lt_log2_self w
              rw [Nat.pow_succ]
              omega)
            omega
          omega
      obtain ⟨r, hr, _⟩ := conv_mag (s := .f64) (k := .f32) (nearest_mag (fmtMag .f64) false hmag (by decide) (by decide)) (by decide) (by decide)
      exact ⟨r, hr⟩
theorem IntF.mag {k : FloatKind} {w : Nat} {z : Int} (h : IntF k w z) (hz : z.natAbs < 1000000000000000) : Mag k.format w 100 := by
  obtain ⟨s, m, p, e, hl, hm, _⟩ := h.read
  refine ⟨s, m, p, e, ?_⟩
  by_cases h0 : m = 0
  · exact .inl h0
  · right
    have hz0 : z.natAbs ≠ 0 := by
      intro hc
      rw [hc, Nat.zero_mul] at hm
      have := Nat.mul_pos (Nat.pos_of_ne_zero h0) (Nat.two_pow_pos (p - k.format.leastPlace).toNat)
      omega
    have e1 := congrArg Nat.log2 hm
    rw [log2_mul_pow _ h0, log2_mul_pow _ hz0] at e1
    have : z.natAbs.log2 < 51 := (Nat.log2_lt hz0).2 (Nat.lt_trans hz (by decide))
    have := pl k
    omega
end
end Go.Proofs.YtdgkahieegcmeaaDoor.AWN

namespace Go.Proofs.YtdgkahieegcmeaaDoor.AWN
open Go Ieee

def U64 : Nat := 2 ^ (-FloatKind.f64.format.leastPlace).toNat
theorem u64_pos : (0 : Int) < (U64 : Int) := up .f64
theorem U64_pos : 0 < U64 := by unfold U64; exact Nat.two_pow_pos _
theorem U64_pow : 2 ^ 50 * U64 = 2 ^ (50 + (-FloatKind.f64.format.leastPlace).toNat) := by unfold U64; exact (Nat.pow_add 2 50 _).symm
theorem under50 {m B : Nat} (hb : m ≤ B * U64) (hB : B < 1000000000000000) : m < 2 ^ (50 + (-FloatKind.f64.format.leastPlace).toNat) := by
  rw [← U64_pow]
  exact Nat.lt_of_le_of_lt hb (Nat.mul_lt_mul_of_pos_right (Nat.lt_trans hB (by decide)) U64_pos)
theorem vU {w : Nat} {z : Int} (h : IntF .f64 w z) : vz FloatKind.f64.format w = z * (U64 : Nat) := h.v
/-- A finite double between two whole numbers. -/
structure Rng (w : Nat) (a b : Int) : Prop where
  wk : W FloatKind.f64.format w
  lo : a * (U64 : Nat) ≤ vz FloatKind.f64.format w
  hi : vz FloatKind.f64.format w ≤ b * (U64 : Nat)
def Sm (z : Int) : Prop := z.natAbs < 1000000000000000
theorem Sm.ex {z : Int} (h : Sm z) : Ex FloatKind.f64.format z.natAbs 0 := ex_wide' h
theorem int_rng {w : Nat} {z : Int} (h : IntF .f64 w z) : Rng w z z := ⟨h.wk, by rw [vU h]; exact Int.le_refl _, by rw [vU h]; exact Int.le_refl _⟩
theorem rng_int (z : Int) (h : Sm z) : Rng (ofZ FloatKind.f64.format z 0) z z := int_rng (int_ofZ h.ex)
theorem Rng.mono {w : Nat} {a b c d : Int} (h : Rng w a b) (h1 : c ≤ a) (h2 : b ≤ d) : Rng w c d :=
  ⟨h.wk, Int.le_trans (Int.mul_le_mul_of_nonneg_right h1 (Int.le_of_lt u64_pos)) h.lo, Int.le_trans h.hi (Int.mul_le_mul_of_nonneg_right h2 (Int.le_of_lt u64_pos))⟩
theorem rng_of {w : Nat} {a b : Int} (ha : Sm a) (hb : Sm b) (hw : W FloatKind.f64.format w) (h1 : key FloatKind.f64.format (ofZ FloatKind.f64.format a 0) ≤ key FloatKind.f64.format w) (h2 : key FloatKind.f64.format w ≤ key FloatKind.f64.format (ofZ FloatKind.f64.format b 0)) : Rng w a b := by
  have ia := int_ofZ (k := .f64) ha.ex
  have ib := int_ofZ (k := .f64) hb.ex
  refine ⟨hw, ?_, ?_⟩
  · have := (ia.wk.vz_le (fmtK .f64) hw).1 h1
    rw [vU ia] at this; exact this
  · have := (hw.vz_le (fmtK .f64) ib.wk).1 h2
    rw [vU ib] at this; exact this
theorem Rng.add {x y : Nat} {a b c d : Int} (hx : Rng x a b) (hy : Rng y c d) (h1 : Sm (a + c)) (h2 : Sm (b + d)) : Rng (farith .add .f64 x y) (a + c) (b + d) := by
  have ia := int_ofZ (k := .f64) h1.ex
  have ib := int_ofZ (k := .f64) h2.ex
  obtain ⟨w, p, q⟩ := fadd_in hx.wk hy.wk ia.wk ib.wk (by rw [vU ia, Int.add_mul]; have := hx.lo; have := hy.lo; omega) (by rw [vU ib, Int.add_mul]; have := hx.hi; have := hy.hi; omega)
  exact rng_of h1 h2 w p q
theorem Rng.sub {x y : Nat} {a b c d : Int} (hx : Rng x a b) (hy : Rng y c d) (h1 : Sm (a - d)) (h2 : Sm (b - c)) : Rng (farith .sub .f64 x y) (a - d) (b - c) := by
  have ia := int_ofZ (k := .f64) h1.ex
  have ib := int_ofZ (k := .f64) h2.ex
  obtain ⟨w, p, q⟩ := fsub_in hx.wk hy.wk ia.wk ib.wk (by rw [vU ia, Int.sub_mul]; have := hx.lo; have := hy.hi; omega) (by rw [vU ib, Int.sub_mul]; have := hx.hi; have := hy.lo; omega)
  exact rng_of h1 h2 w p q
theorem mul_bound {x y B C : Int} (hB : 0 ≤ B) (hC : 0 ≤ C) (h1 : -B ≤ x) (h2 : x ≤ B) (h3 : -C ≤ y) (h4 : y ≤ C) : -(B * C) ≤ x * y ∧ x * y ≤ B * C := by
  have e : (x * y).natAbs ≤ (B * C).natAbs := by
    rw [Int.natAbs_mul, Int.natAbs_mul]
    exact Nat.mul_le_mul (by omega) (by omega)
  have : 0 ≤ B * C := Int.mul_nonneg hB hC
  omega
theorem Rng.mul {x y : Nat} {B C : Int} (hx : Rng x (-B) B) (hy : Rng y (-C) C) (hB : 0 ≤ B) (hC : 0 ≤ C) (h : Sm (B * C)) : Rng (farith .mul .f64 x y) (-(B * C)) (B * C) := by
  have h' : Sm (-(B * C)) := by unfold Sm at *; rw [Int.natAbs_neg]; exact h
  have ia := int_ofZ (k := .f64) h'.ex
  have ib := int_ofZ (k := .f64) h.ex
  have u := u64_pos
  have hb := mul_bound (x := vz FloatKind.f64.format x) (y := vz FloatKind.f64.format y) (B := B * (U64 : Nat)) (C := C * (U64 : Nat)) (Int.mul_nonneg hB (Int.le_of_lt u)) (Int.mul_nonneg hC (Int.le_of_lt u)) (by have := hx.lo; rw [Int.neg_mul] at this; exact this) hx.hi (by have := hy.lo; rw [Int.neg_mul] at this; exact this) hy.hi
  have e : B * (U64 : Nat) * (C * (U64 : Nat)) = B * C * (U64 : Nat) * (U64 : Nat) := by
    generalize ((U64 : Nat) : Int) = w
    rw [Int.mul_assoc, Int.mul_left_comm w C w, ← Int.mul_assoc, ← Int.mul_assoc]
  rw [e] at hb
  obtain ⟨w, p, q⟩ := fmul_in hx.wk hy.wk ia.wk ib.wk (by rw [vU ia, Int.neg_mul, Int.neg_mul]; exact hb.1) (by rw [vU ib]; exact hb.2)
  exact rng_of h' h w p q
theorem Rng.mul0 {x y : Nat} {B C : Int} (hx : Rng x 0 B) (hy : Rng y 0 C) (hB : 0 ≤ B) (hC : 0 ≤ C) (h : Sm (B * C)) : Rng (farith .mul .f64 x y) 0 (B * C) := by
  have h' : Sm 0 := by unfold Sm; decide
  have ia := int_ofZ (k := .f64) h'.ex
  have ib := int_ofZ (k := .f64) h.ex
  have u := u64_pos
  have x0 : 0 ≤ vz FloatKind.f64.format x := by have := hx.lo; rw [Int.zero_mul] at this; exact this
  have y0 : 0 ≤ vz FloatKind.f64.format y := by have := hy.lo; rw [Int.zero_mul] at this; exact this
  have hb := mul_bound (x := vz FloatKind.f64.format x) (y := vz FloatKind.f64.format y) (B := B * (U64 : Nat)) (C := C * (U64 : Nat)) (Int.mul_nonneg hB (Int.le_of_lt u)) (Int.mul_nonneg hC (Int.le_of_lt u)) (by have := Int.mul_nonneg hB (Int.le_of_lt u); omega) hx.hi (by have := Int.mul_nonneg hC (Int.le_of_lt u); omega) hy.hi
  have e : B * (U64 : Nat) * (C * (U64 : Nat)) = B * C * (U64 : Nat) * (U64 : Nat) := by
    generalize ((U64 : Nat) : Int) = w
    rw [Int.mul_assoc, Int.mul_left_comm w C w, ← Int.mul_assoc, ← Int.mul_assoc]
  rw [e] at hb
  obtain ⟨w, p, q⟩ := fmul_in hx.wk hy.wk ia.wk ib.wk (by rw [vU ia, Int.zero_mul, Int.zero_mul]; exact Int.mul_nonneg x0 y0) (by rw [vU ib]; exact hb.2)
  exact rng_of h' h w p q
/-- A quotient by what is not less: from 0 to 1. -/
theorem quo_one {x y : Nat} (hx : W FloatKind.f64.format x) (hy : W FloatKind.f64.format y) (h0 : 0 ≤ vz FloatKind.f64.format x) (h1 : vz FloatKind.f64.format x ≤ vz FloatKind.f64.format y) (h2 : 0 < vz FloatKind.f64.format y) : Rng (farith .quo .f64 x y) 0 1 := by
  have s0 : Sm 0 := by unfold Sm; decide
  have s1 : Sm 1 := by unfold Sm; decide
  have ia := int_ofZ (k := .f64) s0.ex
  have ib := int_ofZ (k := .f64) s1.ex
  have u := u64_pos
  obtain ⟨w, p, q⟩ := fdiv_in hx hy ia.wk ib.wk h0 h2 (by rw [vU ia, Int.zero_mul]; exact Int.le_refl _) (by rw [vU ib, Int.one_mul]; exact Int.le_of_lt u) (by rw [vU ia, Int.zero_mul, Int.zero_mul]; exact Int.mul_nonneg h0 (Int.le_of_lt u)) (by rw [vU ib, Int.one_mul, Int.mul_comm]; exact Int.mul_le_mul_of_nonneg_left h1 (Int.le_of_lt u))
  exact rng_of s0 s1 w p q
theorem w_neg {k : FloatKind} {x : Nat} (hx : W k.format x) : W k.format (fneg k x) ∧ vz k.format (fneg k x) = -vz k.format x ∧ fneg k x = Op.negFloat k x ∧ ∃ s m p, k.format.read x = .number s m p ∧ k.format.read (fneg k x) = .number (!s) m p := by
  have hlt : x < 2 ^ k.format.width := by rw [width_two]; exact hx.lt
  obtain ⟨s, m, p, e⟩ := hx.fin
  have hr : k.format.read (Op.negFloat k x) = .number (!s) m p := by rw [read_neg k x hlt, e]; rfl
  have hc : fneg k x = Op.negFloat k x := by
    unfold fneg
    apply canon_of_not
    unfold isnan
    rw [hr]; rfl
  rw [hc]
  refine ⟨⟨by rw [← width_two]; exact neg_lt hlt, _, _, _, hr⟩, ?_, rfl, s, m, p, e, hr⟩
  unfold vz
  rw [e, hr]
  dsimp only
  unfold signed
  cases s <;> simp
theorem Rng.neg {x : Nat} {a b : Int} (hx : Rng x a b) : Rng (fneg .f64 x) (-b) (-a) := by
  obtain ⟨w, v, _⟩ := w_neg hx.wk
  refine ⟨w, ?_, ?_⟩
  · rw [v, Int.neg_mul]; have := hx.hi; omega
  · rw [v, Int.neg_mul]; have := hx.lo; omega
/-- A quotient by what is not less than 1. -/
theorem Rng.quo {x y : Nat} {B d : Int} (hx : Rng x (-B) B) (hy : Rng y 1 d) (hB : 0 ≤ B) (hS : Sm B) : Rng (farith .quo .f64 x y) (-B) B := by
  have u := u64_pos
  have s0 : Sm 0 := by unfold Sm; decide
  have ia := int_ofZ (k := .f64) s0.ex
  have ib := int_ofZ (k := .f64) hS.ex
  have y1 : (U64 : Int) ≤ vz FloatKind.f64.format y := by have := hy.lo; rw [Int.one_mul] at this; exact this
  have pos : ∀ x', W FloatKind.f64.format x' → 0 ≤ vz FloatKind.f64.format x' → vz FloatKind.f64.format x' ≤ B * (U64 : Nat) → Rng (farith .quo .f64 x' y) 0 B := by
    intro x' hw h0 h1
    obtain ⟨w, p, q⟩ := fdiv_in hw hy.wk ia.wk ib.wk h0 (by omega) (by rw [vU ia, Int.zero_mul]; exact Int.le_refl _) (by rw [vU ib]; exact Int.mul_nonneg hB (Int.le_of_lt u)) (by rw [vU ia, Int.zero_mul, Int.zero_mul]; exact Int.mul_nonneg h0 (Int.le_of_lt u)) (by
      rw [vU ib]
      exact Int.le_trans (Int.mul_le_mul_of_nonneg_right h1 (Int.le_of_lt u)) (Int.mul_le_mul_of_nonneg_left y1 (Int.mul_nonneg hB (Int.le_of_lt u))))
    exact rng_of s0 hS w p q
  by_cases h0 : 0 ≤ vz FloatKind.f64.format x
  · exact (pos x hx.wk h0 hx.hi).mono (by omega) (Int.le_refl _)
  · obtain ⟨w, v, _, s, m, p, e, e2⟩ := w_neg hx.wk
    have hn := pos (fneg .f64 x) w (by rw [v]; omega) (by rw [v]; have := hx.lo; rw [Int.neg_mul] at this; omega)
    obtain ⟨t, n, j, e'⟩ := hy.wk.fin
    have hvy : vz FloatKind.f64.format y = signed t n (j - FloatKind.f64.format.leastPlace).toNat := by unfold vz; rw [e']
    have hn0 : n ≠ 0 := by
      rintro rfl
      rw [signed_zero] at hvy
      omega
    have hdiv : ∀ z g, FloatKind.f64.format.read z = .number g m p → FloatKind.f64.format.div z y = some (FloatKind.f64.format.nearest (g ^^ t) (2 * (m <<< (FloatKind.f64.format.fractionBits + 2 + n.log2 - m.log2) / n) + (m <<< (FloatKind.f64.format.fractionBits + 2 + n.log2 - m.log2) % n != 0).toNat) (p - j - (FloatKind.f64.format.fractionBits + 2 + n.log2 - m.log2 : Nat) - 1)) := by
      intro z g hz
      unfold Format.div
      rw [hz, e']
      simp only [Datum.quotient, if_neg hn0, Option.map_some, Format.write]
    have d1 := hdiv x s e
    have d2 := hdiv _ (!s) e2
    generalize (2 * (m <<< (FloatKind.f64.format.fractionBits + 2 + n.log2 - m.log2) / n) + (m <<< (FloatKind.f64.format.fractionBits + 2 + n.log2 - m.log2) % n != 0).toNat) = M at d1 d2
    generalize (p - j - (FloatKind.f64.format.fractionBits + 2 + n.log2 - m.log2 : Nat) - 1) = P at d1 d2
    have q1 : farith .quo .f64 x y = FloatKind.f64.format.nearest (s ^^ t) M P := by
      unfold farith
      simp only [d1, Option.getD_some]
    have q2 : farith .quo .f64 (fneg .f64 x) y = FloatKind.f64.format.nearest (!s ^^ t) M P := by
      unfold farith
      simp only [d2, Option.getD_some]
    have k1 : key FloatKind.f64.format (farith .quo .f64 x y) = -key FloatKind.f64.format (farith .quo .f64 (fneg .f64 x) y) := by
      rw [q1, q2, key_nearest (fmtK .f64), key_nearest (fmtK .f64)]
      cases s <;> cases t <;> simp
    have hm := hn.wk.key_lt (fmtK .f64)
    have hw : W FloatKind.f64.format (farith .quo .f64 x y) := ⟨by rw [q1]; exact nearest_lt2 _ _ _ _, fin_of_key (by omega) (by omega)⟩
    obtain ⟨wn, vn, _⟩ := w_neg hn.wk
    -- the value is the other's, turned
    have kn : key FloatKind.f64.format (fneg .f64 (farith .quo .f64 (fneg .f64 x) y)) = -key FloatKind.f64.format (farith .quo .f64 (fneg .f64 x) y) := by
      rw [← wn.kz (fmtK .f64), ← hn.wk.kz (fmtK .f64), vn]
      unfold kz
      rw [Int.natAbs_neg]
      by_cases hz : vz FloatKind.f64.format (farith .quo .f64 (fneg .f64 x) y) = 0
      · rw [hz, show (0 : Int).natAbs = 0 from rfl, rung_zero]; simp
      · by_cases hz2 : vz FloatKind.f64.format (farith .quo .f64 (fneg .f64 x) y) < 0
        · rw [if_neg (by omega), if_pos hz2]; omega
        · rw [if_pos (by omega), if_neg hz2]
    have a1 := (hw.vz_le (fmtK .f64) wn).1 (by omega)
    have a2 := (wn.vz_le (fmtK .f64) hw).1 (by omega)
    rw [vn] at a1 a2
    refine ⟨hw, ?_, ?_⟩
    · rw [Int.neg_mul]; have := hn.hi; omega
    · have := hn.lo; rw [Int.zero_mul] at this; have := Int.mul_nonneg hB (Int.le_of_lt u); omega
theorem Rng.mag {w : Nat} {B : Int} (h : Rng w (-B) B) (hB : Sm B) : Mag double w 100 := by
  obtain ⟨s, m, p, e⟩ := h.wk.fin
  refine ⟨s, m, p, e, ?_⟩
  by_cases h0 : m = 0
  · exact .inl h0
  · right
    have hl := (ex_read (fmtK .f64).many e).least
    have hv : vz FloatKind.f64.format w = signed s m (p - FloatKind.f64.format.leastPlace).toNat := by unfold vz; rw [e]
    obtain ⟨a1, _, _⟩ := signed_sign s m (p - FloatKind.f64.format.leastPlace).toNat
    rw [← hv] at a1
    have h1 := h.lo
    have h2 := h.hi
    rw [Int.neg_mul] at h1
    have hb : m * 2 ^ (p - FloatKind.f64.format.leastPlace).toNat ≤ B.natAbs * U64 := by
      rw [← a1]
      have : (B * (U64 : Nat)).natAbs = B.natAbs * U64 := by rw [Int.natAbs_mul, Int.natAbs_natCast]
      omega
    have hlt : m * 2 ^ (p - FloatKind.f64.format.leastPlace).toNat < 2 ^ (50 + (-FloatKind.f64.format.leastPlace).toNat) := under50 hb hB
    have hm0 : m * 2 ^ (p - FloatKind.f64.format.leastPlace).toNat ≠ 0 := Nat.mul_ne_zero h0 (Nat.pos_iff_ne_zero.1 (Nat.two_pow_pos _))
    have hlg := (Nat.log2_lt hm0).2 hlt
    rw [log2_mul_pow _ h0] at hlg
    have := pl .f64
    omega
theorem Rng.narrow {w : Nat} {B : Int} (h : Rng w (-B) B) (hB : Sm B) : ∃ r, fconv .f64 .f32 w = some r := by
  obtain ⟨r, hr, _⟩ := conv_mag (s := .f64) (k := .f32) (h.mag hB) (by decide) (by decide)
  exact ⟨r, hr⟩
/-- A root of what is not less than 1: not less than 0, and not great. -/
theorem Rng.sqrt {w : Nat} {B : Int} (h : Rng w 1 B) (hB : Sm B) : Rng (fsqrt w) 0 1000000000000 := by
  have u := u64_pos
  have hmag := (h.mono (c := -B) (by have h3 := h.lo; have h4 := h.hi; have : (1 : Int) * (U64 : Nat) ≤ B * (U64 : Nat) := Int.le_trans h3 h4; have := Int.le_of_mul_le_mul_right this u; omega) (Int.le_refl _)).mag hB
  obtain ⟨s, m, i, e, hm⟩ := hmag
  have e : FloatKind.f64.format.read w = .number s m i := e
  have hl := (ex_read (fmtK .f64).many e).least
  have hv : vz FloatKind.f64.format w = signed s m (i - FloatKind.f64.format.leastPlace).toNat := by unfold vz; rw [e]
  have h1 := h.lo
  rw [Int.one_mul] at h1
  obtain ⟨a1, a2, a3⟩ := signed_sign s m (i - FloatKind.f64.format.leastPlace).toNat
  have h0 : m ≠ 0 := by
    rintro rfl
    rw [signed_zero] at hv
    omega
  have hs : s = false := by
    cases s with
    | false => rfl
    | true => have := a3 rfl; omega
  subst hs
  have hi2 := h.hi
  rw [← hv] at a1
  have hb : m * 2 ^ (i - FloatKind.f64.format.leastPlace).toNat ≤ B.natAbs * U64 := by
    rw [← a1]
    have : (B * (U64 : Nat)).natAbs = B.natAbs * U64 := by rw [Int.natAbs_mul, Int.natAbs_natCast]
    omega
  have hlt : m * 2 ^ (i - FloatKind.f64.format.leastPlace).toNat < 2 ^ (50 + (-FloatKind.f64.format.leastPlace).toNat) := under50 hb hB
  have hm0 : m * 2 ^ (i - FloatKind.f64.format.leastPlace).toNat ≠ 0 := Nat.mul_ne_zero h0 (Nat.pos_iff_ne_zero.1 (Nat.two_pow_pos _))
  have hlg := (Nat.log2_lt hm0).2 hlt
  rw [log2_mul_pow _ h0] at hlg
  have hp := pl .f64
  have hil : i + (m.log2 : Int) ≤ 50 := by omega
  unfold fsqrt Format.sqrt
  rw [e]
  unfold Datum.root
  simp only [if_neg h0, Bool.false_eq_true, if_false, Option.map_some, Option.getD_some, Format.write]
  generalize hmo : 2 * (FloatKind.f64.format.fractionBits + 2) - m.log2 + ((i - ((2 * (FloatKind.f64.format.fractionBits + 2) - m.log2 : Nat) : Int)) % 2).toNat = more
  have hn : m <<< more ≠ 0 := by rw [shl_eq]; exact Nat.mul_ne_zero h0 (Nat.pos_iff_ne_zero.1 (Nat.two_pow_pos _))
  have hln : (m <<< more).log2 = m.log2 + more := by rw [shl_eq, log2_mul_pow more h0]
  have hsq := rootFrom_sq (m <<< more) ((m <<< more).log2 / 2 + 1) 0 (Nat.zero_le _)
  generalize Datum.rootFrom (m <<< more) ((m <<< more).log2 / 2 + 1) 0 = g at hsq ⊢
  generalize (g * g != m <<< more) = b
  have hbb : b.toNat ≤ 1 := by cases b <;> decide
  have hlog : 2 * g.log2 ≤ m.log2 + more := by
    by_cases hw : g = 0
    · subst hw; rw [show Nat.log2 0 = 0 from by decide]; omega
    · have a := Nat.log2_self_le hw
      have a2 : 2 ^ g.log2 * 2 ^ g.log2 ≤ g * g := Nat.mul_le_mul a a
      rw [← Nat.pow_add] at a2
      have a3 := (Nat.le_log2 hn).2 (Nat.le_trans a2 hsq)
      omega
  have hM : 2 * g + b.toNat < 2 ^ (g.log2 + 2) := by
    have := @Nat.lt_log2_self g
    rw [Nat.pow_succ]
    omega
  generalize hMM : 2 * g + b.toNat = M at hM ⊢
  generalize hPP : (i - (more : Int)) / 2 - 1 = P
  have hPg : P + (g.log2 : Int) + 2 ≤ 27 := by omega
  -- not greater than 2^27
  have s0 : Sm 0 := by unfold Sm; decide
  have s1 : Sm 1000000000000 := by unfold Sm; decide
  have ib := int_ofZ (k := .f64) s1.ex
  have ia := int_ofZ (k := .f64) s0.ex
  have hkey : key FloatKind.f64.format (FloatKind.f64.format.nearest false M P) = (rung FloatKind.f64.format M P : Int) := by
    rw [key_nearest (fmtK .f64), if_neg (by decide)]
  have hup : rung FloatKind.f64.format M P ≤ rung FloatKind.f64.format 1000000000000 0 := by
    have e1 : rung FloatKind.f64.format M P = rung FloatKind.f64.format (M * 2 ^ (P - min P 0).toNat) (min P 0) := by
      rw [rung_shift]; congr 1; omega
    have e2 : rung FloatKind.f64.format 1000000000000 0 = rung FloatKind.f64.format (1000000000000 * 2 ^ (0 - min P 0).toNat) (min P 0) := by
      rw [rung_shift]; congr 1; omega
    rw [e1, e2]
    apply rung_mono
    have h3 : M * 2 ^ (P - min P 0).toNat ≤ 2 ^ (g.log2 + 2) * 2 ^ (P - min P 0).toNat := Nat.mul_le_mul_right _ (Nat.le_of_lt hM)
    rw [← Nat.pow_add] at h3
    have h4 : 2 ^ (g.log2 + 2 + (P - min P 0).toNat) ≤ 2 ^ (27 + (0 - min P 0).toNat) := Nat.pow_le_pow_right (by decide) (by omega)
    rw [Nat.pow_add 2 27] at h4
    have h5 : 2 ^ 27 * 2 ^ (0 - min P 0).toNat ≤ 1000000000000 * 2 ^ (0 - min P 0).toNat := Nat.mul_le_mul_right _ (by decide)
    exact Nat.le_trans h3 (Nat.le_trans h4 h5)
  have kb : key FloatKind.f64.format (ofZ FloatKind.f64.format 1000000000000 0) = (rung FloatKind.f64.format 1000000000000 0 : Int) := by
    rw [ib.key]; rfl
  have ka : key FloatKind.f64.format (ofZ FloatKind.f64.format 0 0) = 0 := by
    rw [ia.key]; unfold kz; rw [if_neg (by decide), show (0 : Int).natAbs = 0 from rfl, rung_zero]; rfl
  have kl := ib.wk.key_lt (fmtK .f64)
  refine rng_of s0 s1 ⟨nearest_lt2 _ _ _ _, fin_of_key (by omega) (by omega)⟩ (by omega) (by omega)
end Go.Proofs.YtdgkahieegcmeaaDoor.AWN
