/- Flows that are read out of bytes, in plain terms. -/
import Derived.Test.YtmllgpkgjniomaaGridC
import Derived.Test.YtmllgpkgjniomaaFloat
set_option linter.unusedVariables false
set_option linter.unusedSimpArgs false
set_option linter.unusedSectionVars false
namespace Go.Proofs.Ytmllgpkgjniomaa.AWN
open Go

theorem w64_id {n : Int} (h0 : -9223372036854775808 ≤ n) (h1 : n < 9223372036854775808) : w64 n = n := by
  unfold w64 IntKind.wrap
  simp [IntKind.signed, IntKind.bits]
  omega
theorem shl8 (x : Int) : x * 2 ^ min (8 : Int).toNat (IntKind.bits .i64) = x * 256 := rfl
/-- The word of some bytes, the first the least. -/
def wdOf : Str → Nat
  | [] => 0
  | b :: r => b.toNat + 256 * wdOf r
theorem or_byte (x b : Nat) (hx : x < 1099511627776) (hb : b < 256) : ibits .or .i64 (w64 ((x : Int) * 2 ^ min (8 : Int).toNat (IntKind.bits .i64))) (w64 (b : Int)) = ((x * 256 + b : Nat) : Int) := by
  rw [shl8, w64_id (by omega) (by omega), w64_id (by omega) (by omega)]
  unfold ibits
  have e1 : BitVec.ofInt 64 ((x : Int) * 256) = BitVec.ofNat 64 (x * 256) := by
    rw [show (x : Int) * 256 = ((x * 256 : Nat) : Int) by omega, BitVec.ofInt_natCast]
  have e2 : BitVec.ofInt 64 (b : Int) = BitVec.ofNat 64 b := BitVec.ofInt_natCast _ _
  show IntKind.wrap .i64 (((BitVec.ofInt 64 ((x : Int) * 256) ||| BitVec.ofInt 64 (b : Int)).toNat : Nat) : Int) = _
  rw [e1, e2, BitVec.toNat_or, BitVec.toNat_ofNat, BitVec.toNat_ofNat, Nat.mod_eq_of_lt (by omega), Nat.mod_eq_of_lt (by omega)]
  have h : x * 256 ||| b = x * 256 + b := by
    have := Nat.shiftLeft_add_eq_or_of_lt (i := 8) (b := b) (by omega) x
    rw [Nat.shiftLeft_eq] at this
    exact this.symm
  rw [h]
  exact w64_id (by omega) (by omega)
theorem add_byte (x b : Nat) (hx : x < 1099511627776) (hb : b < 256) : w64 (w64 ((x : Int) * 2 ^ min (8 : Int).toNat (IntKind.bits .i64)) + w64 (b : Int)) = ((x * 256 + b : Nat) : Int) := by
  rw [shl8, w64_id (n := (x : Int) * 256) (by omega) (by omega), w64_id (n := (b : Int)) (by omega) (by omega), w64_id (by omega) (by omega)]
  omega
theorem getI_nat' {α : Type} {l : List α} {i : Nat} (h : i < l.length) : getI l (i : Int) = some l[i] := by
  unfold getI
  rw [if_pos (by omega), Int.toNat_natCast, List.getElem?_eq_getElem h]
/-- A word of 'k' bytes from place 'a' on, behind 'acc'. -/
def vd (t : Str) (a : Nat) : Nat → Nat → Nat
  | acc, 0 => acc
  | acc, k + 1 => vd t a (acc * 256 + (t.getD (a + k) 0).toNat) k
theorem getD_lt {t : Str} {i : Nat} (h : i < t.length) : t.getD i 0 = t[i] := by rw [List.getD_eq_getElem?_getD, List.getElem?_eq_getElem h]; rfl
theorem acc_step {acc k b : Nat} (hk : k + 1 ≤ 4) (h : acc < 256 ^ (4 - (k + 1))) (hb : b < 256) : acc * 256 + b < 256 ^ (4 - k) ∧ acc < 1099511627776 := by
  have e : 4 - k = (4 - (k + 1)) + 1 := by omega
  have h2 : 256 ^ (4 - (k + 1)) ≤ 256 ^ 4 := Nat.pow_le_pow_right (by omega) (by omega)
  have h3 : (256 : Nat) ^ 4 = 4294967296 := by decide
  rw [e, Nat.pow_succ]
  generalize 256 ^ (4 - (k + 1)) = P at *
  omega
theorem word_l2 (n : Nat) (e : SL10Eyes) (size : Int) (a : Nat) (ha : e.at_ = a) (hal : a ≤ 1099511627776) : ∀ (m k acc : Nat), k < m → a + k ≤ e.text.length → k ≤ 4 → acc < 256 ^ (4 - k) →
    m_spec_l10Eyes_word_l2 n e size m (acc : Int) ((k : Int) - 1) = some (((vd e.text a acc k : Nat) : Int), ⟨e.text, w64 (e.at_ + size), e.fine⟩)
  | 0, k, acc, h, _, _, _ => by omega
  | m + 1, k, acc, hm, hk, h4, hacc => by
    unfold m_spec_l10Eyes_word_l2
    rcases k with _ | k
    · rw [if_neg (by omega)]
      rfl
    · have hlt : a + k < e.text.length := by omega
      have hb : (e.text[a + k]).toNat < 256 := UInt8.toNat_lt _
      obtain ⟨h5, h6⟩ := acc_step (by omega) hacc hb
      rw [if_pos (by omega), ha, show w64 ((a : Int) + (((k + 1 : Nat) : Int) - 1)) = ((a + k : Nat) : Int) by rw [w64_id (by omega) (by omega)]; omega, getI_nat' hlt, Option.bind_some, or_byte _ _ h6 hb, show w64 (((k + 1 : Nat) : Int) - 1 - 1) = (k : Int) - 1 by rw [w64_id (by omega) (by omega)]; omega, word_l2 n e size a ha hal m k _ (by omega) (by omega) (by omega) h5]
      have : vd e.text a acc (k + 1) = vd e.text a (acc * 256 + (e.text[a + k]).toNat) k := by rw [vd, getD_lt hlt]
      rw [this, ha]
theorem number_l3 (n : Nat) (e : SReader) (many : Int) (v : Bool) (a : Nat) (ha : e.at_ = a) (hal : a ≤ 1099511627776) : ∀ (m k acc : Nat), k < m → a + k ≤ e.s.length → k ≤ 4 → acc < 256 ^ (4 - k) →
    m_impl_reader_number_l3 n e many v m (acc : Int) ((k : Int) - 1) = some (((vd e.s a acc k : Nat) : Int), ⟨e.s, w64 (e.at_ + many), v⟩)
  | 0, k, acc, h, _, _, _ => by omega
  | m + 1, k, acc, hm, hk, h4, hacc => by
    unfold m_impl_reader_number_l3
    rcases k with _ | k
    · rw [if_neg (by omega)]
      rfl
    · have hlt : a + k < e.s.length := by omega
      have hb : (e.s[a + k]).toNat < 256 := UInt8.toNat_lt _
      obtain ⟨h5, h6⟩ := acc_step (by omega) hacc hb
      rw [if_pos (by omega), ha, show w64 ((a : Int) + (((k + 1 : Nat) : Int) - 1)) = ((a + k : Nat) : Int) by rw [w64_id (by omega) (by omega)]; omega, getI_nat' hlt, Option.bind_some, add_byte _ _ h6 hb, show w64 (((k + 1 : Nat) : Int) - 1 - 1) = (k : Int) - 1 by rw [w64_id (by omega) (by omega)]; omega, number_l3 n e many v a ha hal m k _ (by omega) (by omega) (by omega) h5]
      have : vd e.s a acc (k + 1) = vd e.s a (acc * 256 + (e.s[a + k]).toNat) k := by rw [vd, getD_lt hlt]
      rw [this, ha]
end Go.Proofs.Ytmllgpkgjniomaa.AWN

namespace Go.Proofs.Ytmllgpkgjniomaa.AWN
open Go
theorem vd_lt (t : Str) (a : Nat) : ∀ (k acc : Nat), k ≤ 4 → acc < 256 ^ (4 - k) → vd t a acc k < 4294967296
  | 0, acc, _, h => h
  | k + 1, acc, hk, h => by
    have hb : (t.getD (a + k) 0).toNat < 256 := UInt8.toNat_lt _
    rw [vd]
    exact vd_lt t a k _ (by omega) (acc_step hk h hb).1
theorem word_some {n : Nat} (hn : 6 ≤ n) (t : Str) (a k : Nat) (f : Bool) (hk : a + k ≤ t.length) (h4 : k ≤ 4) (ht : t.length ≤ 1099511627776) :
    m_spec_l10Eyes_word n ⟨t, a, f⟩ (k : Int) = some (((vd t a 0 k : Nat) : Int), ⟨t, ((a + k : Nat) : Int), f⟩) := by
  have hw : w64 ((a : Int) + (k : Int)) = ((a + k : Nat) : Int) := by rw [w64_id (by omega) (by omega)]; omega
  unfold m_spec_l10Eyes_word
  dsimp only
  rw [hw, if_neg (by omega), show w64 ((k : Int) - 1) = (k : Int) - 1 from w64_id (by omega) (by omega)]
  have h := word_l2 n ⟨t, a, f⟩ k a rfl (by omega) n k 0 (by omega) hk h4 (Nat.pow_pos (by omega))
  dsimp only at h
  rw [hw] at h
  exact h
theorem number_some {n : Nat} (hn : 6 ≤ n) (t : Str) (a k : Nat) (hk : a + k ≤ t.length) (h4 : k ≤ 4) (ht : t.length ≤ 1099511627776) :
    m_impl_reader_number n ⟨t, a, false⟩ (k : Int) = some (((vd t a 0 k : Nat) : Int), ⟨t, ((a + k : Nat) : Int), false⟩) := by
  have hw : w64 ((a : Int) + (k : Int)) = ((a + k : Nat) : Int) := by rw [w64_id (by omega) (by omega)]; omega
  unfold m_impl_reader_number
  dsimp only
  rw [if_neg (by decide), hw, decide_eq_false (by omega)]
  unfold m_impl_reader_number_j4
  rw [if_neg (by decide)]
  unfold m_impl_reader_number_j1
  rw [show w64 ((k : Int) - 1) = (k : Int) - 1 from w64_id (by omega) (by omega)]
  have h := number_l3 n ⟨t, a, false⟩ k false a rfl (by omega) n k 0 (by omega) hk h4 (Nat.pow_pos (by omega))
  dsimp only at h
  rw [hw] at h
  exact h
theorem wrap32 {x : Nat} (h : x < 4294967296) : (IntKind.wrap .u32 (x : Int)).toNat = x := by
  unfold IntKind.wrap
  simp [IntKind.signed, IntKind.bits]
  omega
/-- The number at place 'a', the complex number, the phases. -/
def flA (t : Str) (a : Nat) : Nat := canon .f32 (vd t a 0 4)
def cxA (t : Str) (a : Nat) : Cx := ⟨flA t a, flA t (a + 4)⟩
def phA (t : Str) (a : Nat) : SPhases := ⟨cxA t a, cxA t (a + 8), cxA t (a + 16)⟩
theorem from_some (n : Nat) (t : Str) (a : Nat) : m_spec_l01From n ((vd t a 0 4 : Nat) : Int) = some (flA t a) := by
  have h := vd_lt t a 4 0 (by omega) (by decide)
  unfold m_spec_l01From grd
  rw [wrap32 h, if_pos h]; rfl
theorem bits_some (n : Nat) (t : Str) (a : Nat) : m_impl_FromBits n ((vd t a 0 4 : Nat) : Int) = some (flA t a, true) := by
  have h := vd_lt t a 4 0 (by omega) (by decide)
  unfold m_impl_FromBits m_impl_in
  rw [if_pos (by omega), Option.bind_some, decide_eq_true (by omega), if_pos rfl]
  unfold grd
  rw [wrap32 h, if_pos h]; rfl
section
variable {n : Nat} (hn : 6 ≤ n) (t : Str) (ht : t.length ≤ 1099511627776)
include hn ht
theorem cnum_some (a : Nat) (f : Bool) (h : a + 8 ≤ t.length) : m_spec_l10Eyes_number n ⟨t, a, f⟩ = some (cxA t a, ⟨t, ((a + 8 : Nat) : Int), f⟩) := by
  have e1 := word_some hn t a 4 f (by omega) (by omega) ht
  have e2 := word_some hn t (a + 4) 4 f (by omega) (by omega) ht
  unfold m_spec_l10Eyes_number
  rw [show ((4 : Int)) = ((4 : Nat) : Int) from rfl, e1, Option.bind_some]
  dsimp only
  rw [e2, Option.bind_some]
  dsimp only
  rw [from_some, from_some]; rfl
theorem cph_some (a : Nat) (f : Bool) (h : a + 24 ≤ t.length) : m_spec_l10Eyes_phases n ⟨t, a, f⟩ = some (phA t a, ⟨t, ((a + 24 : Nat) : Int), f⟩) := by
  unfold m_spec_l10Eyes_phases
  rw [cnum_some hn t ht a f (by omega), Option.bind_some]
  dsimp only
  rw [cnum_some hn t ht (a + 8) f (by omega), Option.bind_some]
  dsimp only
  rw [cnum_some hn t ht (a + 8 + 8) f (by omega), Option.bind_some]; rfl
theorem ifl_some (a : Nat) (h : a + 4 ≤ t.length) : m_impl_reader_float n ⟨t, a, false⟩ = some (flA t a, ⟨t, ((a + 4 : Nat) : Int), false⟩) := by
  have e1 := number_some hn t a 4 (by omega) (by omega) ht
  unfold m_impl_reader_float
  rw [show ((4 : Int)) = ((4 : Nat) : Int) from rfl, e1, Option.bind_some]
  dsimp only
  rw [bits_some]; rfl
theorem ipair_some (a : Nat) (h : a + 8 ≤ t.length) : m_impl_reader_pair n ⟨t, a, false⟩ = some (cxA t a, ⟨t, ((a + 8 : Nat) : Int), false⟩) := by
  unfold m_impl_reader_pair
  rw [ifl_some hn t ht a (by omega), Option.bind_some]
  dsimp only
  rw [ifl_some hn t ht (a + 4) (by omega), Option.bind_some]; rfl
theorem iph_some (a : Nat) (h : a + 24 ≤ t.length) : m_impl_reader_phases n ⟨t, a, false⟩ = some (phA t a, ⟨t, ((a + 24 : Nat) : Int), false⟩) := by
  unfold m_impl_reader_phases
  rw [ipair_some hn t ht a (by omega), Option.bind_some]
  dsimp only
  rw [ipair_some hn t ht (a + 8) (by omega), Option.bind_some]
  dsimp only
  rw [ipair_some hn t ht (a + 8 + 8) (by omega), Option.bind_some]; rfl
end
end Go.Proofs.Ytmllgpkgjniomaa.AWN

namespace Go.Proofs.Ytmllgpkgjniomaa.AWN
open Go
def phV (t : Str) (k : Nat) : List SPhases := (List.range k).map fun i => phA t (2 + 48 * i)
def phC (t : Str) (k : Nat) : List SPhases := (List.range k).map fun i => phA t (26 + 48 * i)
theorem phV_succ (t : Str) (k : Nat) : phV t (k + 1) = phV t k ++ [phA t (2 + 48 * k)] := by unfold phV; rw [List.range_succ, List.map_append]; rfl
theorem phC_succ (t : Str) (k : Nat) : phC t (k + 1) = phC t k ++ [phA t (26 + 48 * k)] := by unfold phC; rw [List.range_succ, List.map_append]; rfl
theorem phV_len (t : Str) (k : Nat) : (phV t k).length = k := by simp [phV]
theorem phC_len (t : Str) (k : Nat) : (phC t k).length = k := by simp [phC]
section
variable {n : Nat} (hn : 6 ≤ n) (t : Str) {b : Nat} (hb : b ≤ 16) (ht : t.length = 2 + 48 * b)
include hn hb ht
end
end Go.Proofs.Ytmllgpkgjniomaa.AWN

namespace Go.Proofs.Ytmllgpkgjniomaa.AWN
open Go
/-- The bytes of a number, the least first. -/
def leb (x : Nat) : Nat → List Int
  | 0 => []
  | k + 1 => ((x % 256 : Nat) : Int) :: leb (x / 256) k
theorem leb_len (x : Nat) : ∀ k, (leb x k).length = k
  | 0 => rfl
  | k + 1 => by rw [leb, List.length_cons, leb_len]
theorem wrap8 (x : Nat) : IntKind.wrap .u8 (x : Int) = ((x % 256 : Nat) : Int) := by
  unfold IntKind.wrap
  simp [IntKind.signed, IntKind.bits]
theorem and_byte {y : Nat} (hy : y < 4294967296) : IntKind.wrap .u8 (ibits .and .i64 (y : Int) 255) = ((y % 256 : Nat) : Int) := by
  unfold ibits
  have e1 : BitVec.ofInt 64 (y : Int) = BitVec.ofNat 64 y := BitVec.ofInt_natCast _ _
  have e2 : BitVec.ofInt 64 (255 : Int) = BitVec.ofNat 64 255 := rfl
  show IntKind.wrap .u8 (IntKind.wrap .i64 (((BitVec.ofInt 64 (y : Int) &&& BitVec.ofInt 64 255).toNat : Nat) : Int)) = _
  rw [e1, e2, BitVec.toNat_and, BitVec.toNat_ofNat, BitVec.toNat_ofNat, Nat.mod_eq_of_lt (by omega), Nat.mod_eq_of_lt (by omega)]
  have h : y &&& 255 = y % 256 := Nat.and_two_pow_sub_one_eq_mod y 8
  have hm : y % 256 < 256 := Nat.mod_lt _ (by omega)
  rw [h, show IntKind.wrap .i64 ((y % 256 : Nat) : Int) = ((y % 256 : Nat) : Int) from w64_id (by omega) (by omega), wrap8, Nat.mod_mod]
theorem bytes_l2 (n : Nat) (many : Nat) (h4 : many ≤ 4) : ∀ (m k x i : Nat) (acc : List Int), i + k = many → k < m → x < 4294967296 → acc.length = i →
    m_impl_bytesOf_l2 n (many : Int) m (x : Int) acc (i : Int) = some (chars (acc ++ leb x k))
  | 0, k, _, _, _, _, h, _, _ => by omega
  | m + 1, k, x, i, acc, hik, hm, hx, hacc => by
    unfold m_impl_bytesOf_l2 grd m_impl_bytesOf_j1
    rcases k with _ | k
    · rw [if_neg (by omega), leb, List.append_nil]
    · have e : ((x : Int)).fdiv (2 ^ min (8 : Int).toNat (IntKind.bits .i64)) = ((x / 256 : Nat) : Int) := by
        show ((x : Int)).fdiv 256 = _
        rw [Int.fdiv_eq_ediv_of_nonneg _ (by omega)]; omega
      rw [if_pos (by omega), if_pos (show room (acc.length + 1) 1 by unfold room; omega), e, wrap8, show w64 ((i : Int) + 1) = ((i + 1 : Nat) : Int) by rw [w64_id (by omega) (by omega)]; omega, bytes_l2 n many h4 m k (x / 256) (i + 1) _ (by omega) (by omega) (by omega) (by simp; omega), leb, List.append_assoc]
      rfl
theorem word_l2' (n x : Nat) (hx : x < 4294967296) (size : Nat) (h4 : size ≤ 4) : ∀ (m k i : Nat) (acc : List Int), i + k = size → k < m → acc.length = i →
    m_spec_l10Word_l2 n (x : Int) (size : Int) m acc (i : Int) = some (chars (acc ++ leb (x / 256 ^ i) k))
  | 0, k, _, _, _, h, _ => by omega
  | m + 1, k, i, acc, hik, hm, hacc => by
    unfold m_spec_l10Word_l2 grd m_spec_l10Word_j1
    rcases k with _ | k
    · rw [if_neg (by omega), leb, List.append_nil]
    · have e8 : w64 ((8 : Int) * (i : Int)) = ((8 * i : Nat) : Int) := by rw [w64_id (by omega) (by omega)]; omega
      have e9 : IntKind.wrap .u64 ((8 * i : Nat) : Int) = ((8 * i : Nat) : Int) := by
        unfold IntKind.wrap
        simp [IntKind.signed, IntKind.bits]
        omega
      have hmin : min (8 * i) (IntKind.bits .i64) = 8 * i := by
        show min (8 * i) 64 = _
        omega
      have hp : (2 : Int) ^ (8 * i) = ((256 ^ i : Nat) : Int) := by
        rw [Int.natCast_pow, Int.pow_mul]; rfl
      have e : ((x : Int)).fdiv (2 ^ min (IntKind.wrap .u64 (w64 ((8 : Int) * (i : Int)))).toNat (IntKind.bits .i64)) = ((x / 256 ^ i : Nat) : Int) := by
        rw [e8, e9, Int.toNat_natCast, hmin, hp, Int.fdiv_eq_ediv_of_nonneg _ (Int.natCast_nonneg _), Int.natCast_ediv]
      have hle : x / 256 ^ i ≤ x := Nat.div_le_self _ _
      rw [if_pos (by omega), if_pos (by rw [e8, e9]; omega), if_pos (show room (acc.length + 1) 1 by unfold room; omega), e, and_byte (by omega), show w64 ((i : Int) + 1) = ((i + 1 : Nat) : Int) by rw [w64_id (by omega) (by omega)]; omega, word_l2' n x hx size h4 m k (i + 1) _ (by omega) (by omega) (by simp; omega), leb, List.append_assoc, Nat.div_div_eq_div_mul, ← Nat.pow_succ]
      rfl
end Go.Proofs.Ytmllgpkgjniomaa.AWN

namespace Go.Proofs.Ytmllgpkgjniomaa.AWN
open Go
theorem neq_self (k : FloatKind) (a : Nat) : fcmp .neq k a a = isnan k a := by
  unfold fcmp isnan
  simp only [Ieee.Format.order]
  have cc : ∀ (z : Int), compare z z = .eq := fun z => by
    show compareOfLessAndEq z z = .eq
    unfold compareOfLessAndEq
    rw [if_neg (by omega), if_pos rfl]
  have cn : ∀ (z : Nat), compare z z = .eq := fun z => by
    show compareOfLessAndEq z z = .eq
    unfold compareOfLessAndEq
    rw [if_neg (by omega), if_pos rfl]
  cases k.format.read a with
  | number s m i => simp only [Ieee.Datum.order, cc]; rfl
  | infinity s => simp only [Ieee.Datum.order, cn]; rfl
  | nan s m => rfl

theorem bytesOf_some {n : Nat} (hn : 6 ≤ n) {x : Nat} (hx : x < 4294967296) (k : Nat) (h4 : k ≤ 4) : m_impl_bytesOf n (x : Int) (k : Int) = some (chars (leb x k)) := by
  have h := bytes_l2 n k h4 n k x 0 [] (by omega) (by omega) hx rfl
  exact h
theorem word_some' {n : Nat} (hn : 6 ≤ n) {x : Nat} (hx : x < 4294967296) (k : Nat) (h4 : k ≤ 4) : m_spec_l10Word n (x : Int) (k : Int) = some (chars (leb x k)) := by
  have h := word_l2' n x hx k h4 n k 0 [] (by omega) (by omega) rfl
  rw [Nat.pow_zero, Nat.div_one] at h
  exact h
def bt (x : Nat) : Nat := if isnan .f32 x then 2143289344 else x
theorem bt_lt {x : Nat} (h : x < 4294967296) : bt x < 4294967296 := by
  unfold bt
  split <;> omega
theorem sbits_some (n : Nat) {x : Nat} (hx : x < 4294967296) : m_spec_l01Bits n x = some ((bt x : Nat) : Int) := by
  unfold m_spec_l01Bits grd bt
  rw [neq_self]
  cases h : isnan .f32 x with
  | true => rfl
  | false =>
    rw [if_neg (by decide), if_pos rfl, w64_id (by omega) (by omega)]
    rfl
theorem ibits_some (n : Nat) {x : Nat} (hx : x < 4294967296) : m_impl_BitsOf n x = some ((bt x : Nat) : Int) := sbits_some n hx
def CxOk (c : Cx) : Prop := c.re < 4294967296 ∧ c.im < 4294967296
def PhOk (p : SPhases) : Prop := CxOk p.A ∧ CxOk p.B ∧ CxOk p.C
def cb (c : Cx) : Str := chars (leb (bt c.re) 4) ++ chars (leb (bt c.im) 4)
def pb (p : SPhases) : Str := cb p.A ++ cb p.B ++ cb p.C
theorem chars_len (l : List Int) : (chars l).length = l.length := List.length_map _
theorem cb_len (c : Cx) : (cb c).length = 8 := by
  unfold cb
  rw [List.length_append, chars_len, chars_len, leb_len, leb_len]
theorem pb_len (p : SPhases) : (pb p).length = 24 := by
  unfold pb
  rw [List.length_append, List.length_append, cb_len, cb_len, cb_len]
section
variable {n : Nat} (hn : 6 ≤ n)
include hn
theorem ipb_some {p : SPhases} (h : PhOk p) : m_impl_phasesOf n p = some (pb p) := by
  have hc : ∀ c, CxOk c → m_impl_pairOf n c = some (cb c) := fun c hc => by
    unfold m_impl_pairOf
    rw [ibits_some n hc.1, Option.bind_some, show ((4 : Int)) = ((4 : Nat) : Int) from rfl, bytesOf_some hn (bt_lt hc.1) 4 (by omega), Option.bind_some, ibits_some n hc.2, Option.bind_some, bytesOf_some hn (bt_lt hc.2) 4 (by omega), Option.bind_some]
    unfold grd
    rw [if_pos (by rw [chars_len, chars_len, leb_len, leb_len]; omega)]
    rfl
  unfold m_impl_phasesOf grd
  rw [hc _ h.1, Option.bind_some, hc _ h.2.1, Option.bind_some, if_pos (by rw [cb_len, cb_len]; omega), hc _ h.2.2, Option.bind_some, if_pos (by rw [List.length_append, cb_len, cb_len, cb_len]; omega)]
  rfl
theorem spb_some {p : SPhases} (h : PhOk p) : m_spec_l10Phases n p = some (pb p) := by
  have hc : ∀ c, CxOk c → m_spec_l10Complex n c = some (cb c) := fun c hc => by
    unfold m_spec_l10Complex
    rw [sbits_some n hc.1, Option.bind_some, show ((4 : Int)) = ((4 : Nat) : Int) from rfl, word_some' hn (bt_lt hc.1) 4 (by omega), Option.bind_some, sbits_some n hc.2, Option.bind_some, word_some' hn (bt_lt hc.2) 4 (by omega), Option.bind_some]
    unfold grd
    rw [if_pos (by rw [chars_len, chars_len, leb_len, leb_len]; omega)]
    rfl
  unfold m_spec_l10Phases grd
  rw [hc _ h.1, Option.bind_some, hc _ h.2.1, Option.bind_some, if_pos (by rw [cb_len, cb_len]; omega), hc _ h.2.2, Option.bind_some, if_pos (by rw [List.length_append, cb_len, cb_len, cb_len]; omega)]
  rfl
end
theorem flA_lt (t : Str) (a : Nat) : flA t a < 4294967296 := by
  have h := vd_lt t a 4 0 (by omega) (by decide)
  unfold flA canon
  split
  · decide
  · exact h
theorem phA_ok (t : Str) (a : Nat) : PhOk (phA t a) := ⟨⟨flA_lt _ _, flA_lt _ _⟩, ⟨flA_lt _ _, flA_lt _ _⟩, ⟨flA_lt _ _, flA_lt _ _⟩⟩
end Go.Proofs.Ytmllgpkgjniomaa.AWN

namespace Go.Proofs.Ytmllgpkgjniomaa.AWN
open Go
def busA (t : Str) (a : Nat) : SBus := ⟨((vd t a 0 1 : Nat) : Int) - 1, cxA t (a + 1), cxA t (a + 9), ((vd t (a + 17) 0 1 : Nat) : Int), phA t (a + 18), ((vd t (a + 42) 0 4 : Nat) : Int)⟩
def tieA (t : Str) (a : Nat) : STie := ⟨((vd t a 0 1 : Nat) : Int), ((vd t (a + 1) 0 1 : Nat) : Int), cxA t (a + 2), cxA t (a + 10), ((vd t (a + 18) 0 4 : Nat) : Int)⟩
section
variable {n : Nat} (hn : 6 ≤ n) {t : Str} (ht : t.length ≤ 1099511627776)
include hn ht
theorem ibus_some (a : Nat) (h : a + 46 ≤ t.length) : m_impl_reader_bus n ⟨t, a, false⟩ = some (busA t a, ⟨t, ((a + 46 : Nat) : Int), false⟩) := by
  unfold m_impl_reader_bus
  have hv := vd_lt t a 1 0 (by omega) (by decide)
  rw [show (1 : Int) = ((1 : Nat) : Int) from rfl, show (4 : Int) = ((4 : Nat) : Int) from rfl]
  rw [number_some hn t a 1 (by omega) (by omega) ht, Option.bind_some]
  dsimp only
  rw [ipair_some hn t ht (a + 1) (by omega), Option.bind_some]
  dsimp only
  rw [ipair_some hn t ht (a + 1 + 8) (by omega), Option.bind_some]
  dsimp only
  rw [number_some hn t (a + 1 + 8 + 8) 1 (by omega) (by omega) ht, Option.bind_some]
  dsimp only
  rw [iph_some hn t ht (a + 1 + 8 + 8 + 1) (by omega), Option.bind_some]
  dsimp only
  rw [number_some hn t (a + 1 + 8 + 8 + 1 + 24) 4 (by omega) (by omega) ht, Option.bind_some]
  dsimp only
  rw [w64_id (n := ((vd t a 0 1 : Nat) : Int) - ((1 : Nat) : Int)) (by omega) (by omega)]
  rfl
theorem itie_some (a : Nat) (h : a + 22 ≤ t.length) : m_impl_reader_tie n ⟨t, a, false⟩ = some (tieA t a, ⟨t, ((a + 22 : Nat) : Int), false⟩) := by
  unfold m_impl_reader_tie
  rw [show (1 : Int) = ((1 : Nat) : Int) from rfl, show (4 : Int) = ((4 : Nat) : Int) from rfl]
  rw [number_some hn t a 1 (by omega) (by omega) ht, Option.bind_some]
  dsimp only
  rw [number_some hn t (a + 1) 1 (by omega) (by omega) ht, Option.bind_some]
  dsimp only
  rw [ipair_some hn t ht (a + 1 + 1) (by omega), Option.bind_some]
  dsimp only
  rw [ipair_some hn t ht (a + 1 + 1 + 8) (by omega), Option.bind_some]
  dsimp only
  rw [number_some hn t (a + 1 + 1 + 8 + 8) 4 (by omega) (by omega) ht, Option.bind_some]
  rfl
theorem sbus_some (a : Nat) (f : Bool) (h : a + 46 ≤ t.length) : m_spec_l10Eyes_bus n ⟨t, a, f⟩ = some (busA t a, ⟨t, ((a + 46 : Nat) : Int), f⟩) := by
  unfold m_spec_l10Eyes_bus
  have hv := vd_lt t a 1 0 (by omega) (by decide)
  rw [show (1 : Int) = ((1 : Nat) : Int) from rfl, show (4 : Int) = ((4 : Nat) : Int) from rfl]
  rw [word_some hn t a 1 f (by omega) (by omega) ht, Option.bind_some]
  dsimp only
  rw [cnum_some hn t ht (a + 1) f (by omega), Option.bind_some]
  dsimp only
  rw [cnum_some hn t ht (a + 1 + 8) f (by omega), Option.bind_some]
  dsimp only
  rw [word_some hn t (a + 1 + 8 + 8) 1 f (by omega) (by omega) ht, Option.bind_some]
  dsimp only
  rw [cph_some hn t ht (a + 1 + 8 + 8 + 1) f (by omega), Option.bind_some]
  dsimp only
  rw [word_some hn t (a + 1 + 8 + 8 + 1 + 24) 4 f (by omega) (by omega) ht, Option.bind_some]
  dsimp only
  rw [w64_id (n := ((vd t a 0 1 : Nat) : Int) - ((1 : Nat) : Int)) (by omega) (by omega)]
  rfl
theorem stie_some (a : Nat) (f : Bool) (h : a + 22 ≤ t.length) : m_spec_l10Eyes_tie n ⟨t, a, f⟩ = some (tieA t a, ⟨t, ((a + 22 : Nat) : Int), f⟩) := by
  unfold m_spec_l10Eyes_tie
  rw [show (1 : Int) = ((1 : Nat) : Int) from rfl, show (4 : Int) = ((4 : Nat) : Int) from rfl]
  rw [word_some hn t a 1 f (by omega) (by omega) ht, Option.bind_some]
  dsimp only
  rw [word_some hn t (a + 1) 1 f (by omega) (by omega) ht, Option.bind_some]
  dsimp only
  rw [cnum_some hn t ht (a + 1 + 1) f (by omega), Option.bind_some]
  dsimp only
  rw [cnum_some hn t ht (a + 1 + 1 + 8) f (by omega), Option.bind_some]
  dsimp only
  rw [word_some hn t (a + 1 + 1 + 8 + 8) 4 f (by omega) (by omega) ht, Option.bind_some]
  rfl
end
end Go.Proofs.Ytmllgpkgjniomaa.AWN

namespace Go.Proofs.Ytmllgpkgjniomaa.AWN
open Go
/-- A step of a reader: it always answers; it goes on by 'k' where there is enough; it is no longer fine where there is not. -/
def Tot {σ α : Type} (L : Nat) (mk : Nat → Bool → σ) (R : σ → Option (α × σ)) (k : Nat) : Prop :=
  ∀ a f, a ≤ L → ∃ c a' f', R (mk a f) = some (c, mk a' f') ∧ a' ≤ L ∧ (f = true → a + k ≤ L → a' = a + k ∧ f' = true) ∧ (L < a + k → f' = false) ∧ (f = false → f' = false)
theorem Tot.pure {σ α : Type} {L : Nat} {mk : Nat → Bool → σ} (c : α) : Tot L mk (fun r => some (c, r)) 0 :=
  fun a f ha => ⟨c, a, f, rfl, ha, fun h _ => ⟨rfl, h⟩, fun h => by omega, id⟩
theorem Tot.bind {σ α β : Type} {L : Nat} {mk : Nat → Bool → σ} {R : σ → Option (α × σ)} {G : α → σ → Option (β × σ)} {k j : Nat} (h : Tot L mk R k) (hg : ∀ c, Tot L mk (G c) j) : Tot L mk (fun r => (R r).bind fun x => G x.1 x.2) (k + j) := by
  intro a f ha
  obtain ⟨c, a1, f1, e1, l1, p1, q1, r1⟩ := h a f ha
  obtain ⟨d, a2, f2, e2, l2, p2, q2, r2⟩ := hg c a1 f1 l1
  refine ⟨d, a2, f2, ?_, l2, fun hf hk => ?_, fun hk => ?_, fun hf => r2 (r1 hf)⟩
  · show (R (mk a f)).bind _ = _
    rw [e1]; exact e2
  · obtain ⟨g1, g2⟩ := p1 hf (by omega)
    obtain ⟨g3, g4⟩ := p2 g2 (by omega)
    exact ⟨by omega, g4⟩
  · by_cases h' : a + k ≤ L
    · cases f with
      | false => exact r2 (r1 rfl)
      | true =>
        obtain ⟨g1, g2⟩ := p1 rfl h'
        exact q2 (by omega)
    · exact r2 (q1 (by omega))
theorem Tot.to {σ α : Type} {L : Nat} {mk : Nat → Bool → σ} {R : σ → Option (α × σ)} {k j : Nat} (h : Tot L mk R k) (e : k = j) : Tot L mk R j := e ▸ h
section
variable {n : Nat} (hn : 6 ≤ n) (t : Str) (ht : t.length ≤ 1099511627776)
def mkI (t : Str) (a : Nat) (f : Bool) : SReader := ⟨t, a, !f⟩
def mkS (t : Str) (a : Nat) (f : Bool) : SL10Eyes := ⟨t, a, f⟩
include hn ht
theorem inum_tot (k : Nat) (h4 : k ≤ 4) : Tot t.length (mkI t) (fun r => m_impl_reader_number n r (k : Int)) k := by
  intro a f ha
  cases f with
  | false =>
    refine ⟨0, a, false, rfl, ha, ?_, fun _ => rfl, fun _ => rfl⟩
    intro h; cases h
  | true =>
    by_cases h : a + k ≤ t.length
    · exact ⟨_, a + k, true, number_some hn t a k h h4 ht, h, fun _ _ => ⟨rfl, rfl⟩, fun h' => absurd h (by omega), (fun h => nomatch h)⟩
    · refine ⟨0, a, false, ?_, ha, fun _ h' => absurd h' h, fun _ => rfl, fun _ => rfl⟩
      show m_impl_reader_number n ⟨t, a, false⟩ (k : Int) = _
      unfold m_impl_reader_number
      dsimp only
      rw [if_neg (by decide), w64_id (by omega) (by omega), decide_eq_true (by omega)]
      rfl
theorem sword_tot (k : Nat) (h4 : k ≤ 4) : Tot t.length (mkS t) (fun r => m_spec_l10Eyes_word n r (k : Int)) k := by
  intro a f ha
  by_cases h : a + k ≤ t.length
  · exact ⟨_, a + k, f, word_some hn t a k f h h4 ht, h, fun hf _ => ⟨rfl, hf⟩, fun h' => by omega, id⟩
  · refine ⟨0, a, false, ?_, ha, fun _ h' => absurd h' h, fun _ => rfl, fun _ => rfl⟩
    show m_spec_l10Eyes_word n ⟨t, a, f⟩ (k : Int) = _
    unfold m_spec_l10Eyes_word
    dsimp only
    rw [if_pos (by rw [w64_id (by omega) (by omega)]; omega)]
    rfl
omit hn ht in
theorem frombits_tot (c : Int) : ∃ y, m_impl_FromBits n c = some y := by
  unfold m_impl_FromBits m_impl_in
  have hw : (IntKind.wrap .u32 c).toNat < 4294967296 := by
    simp only [IntKind.wrap, IntKind.signed, IntKind.bits]
    simp
    omega
  split
  · rw [Option.bind_some]
    split
    · unfold grd; rw [if_pos hw]; exact ⟨_, rfl⟩
    · exact ⟨_, rfl⟩
  · exact ⟨_, rfl⟩
omit hn ht in
theorem from_tot (c : Int) : ∃ y, m_spec_l01From n c = some y := by
  unfold m_spec_l01From
  have hw : (IntKind.wrap .u32 c).toNat < 4294967296 := by
    simp only [IntKind.wrap, IntKind.signed, IntKind.bits]
    simp
    omega
  unfold grd
  rw [if_pos hw]; exact ⟨_, rfl⟩
theorem ifl_tot : Tot t.length (mkI t) (m_impl_reader_float n) 4 :=
  (inum_tot hn t ht 4 (by omega)).bind (G := fun c r => (m_impl_FromBits n c).bind fun x4 => some (x4.1, r)) (j := 0) fun c => by
    obtain ⟨y, e⟩ := frombits_tot (n := n) c
    rw [e]; exact Tot.pure y.1
theorem ipair_tot : Tot t.length (mkI t) (m_impl_reader_pair n) 8 :=
  (ifl_tot hn t ht).bind (G := fun c r => (m_impl_reader_float n r).bind fun x4 => some (Cx.mk c x4.1, x4.2)) (j := 4) fun c => (ifl_tot hn t ht).bind (G := fun d r => some (Cx.mk c d, r)) (j := 0) fun d => Tot.pure _
theorem iph_tot : Tot t.length (mkI t) (m_impl_reader_phases n) 24 :=
  (ipair_tot hn t ht).bind (G := fun a r => (m_impl_reader_pair n r).bind fun x5 => (m_impl_reader_pair n x5.2).bind fun x6 => some (SPhases.mk a x5.1 x6.1, x6.2)) (j := 16) fun a =>
  (ipair_tot hn t ht).bind (G := fun b r => (m_impl_reader_pair n r).bind fun x6 => some (SPhases.mk a b x6.1, x6.2)) (j := 8) fun b =>
  (ipair_tot hn t ht).bind (G := fun c r => some (SPhases.mk a b c, r)) (j := 0) fun c => Tot.pure _
theorem ibus_tot : Tot t.length (mkI t) (m_impl_reader_bus n) 46 :=
  (inum_tot hn t ht 1 (by omega)).bind (G := fun p r => (m_impl_reader_pair n r).bind fun x8 => (m_impl_reader_pair n x8.2).bind fun x9 => (m_impl_reader_number n x9.2 (1 : Int)).bind fun x10 => (m_impl_reader_phases n x10.2).bind fun x11 => (m_impl_reader_number n x11.2 (4 : Int)).bind fun x12 => some (SBus.mk (w64 (p - (1 : Int))) x8.1 x9.1 x10.1 x11.1 x12.1, x12.2)) (j := 45) fun p =>
  (ipair_tot hn t ht).bind (G := fun o r => (m_impl_reader_pair n r).bind fun x9 => (m_impl_reader_number n x9.2 (1 : Int)).bind fun x10 => (m_impl_reader_phases n x10.2).bind fun x11 => (m_impl_reader_number n x11.2 (4 : Int)).bind fun x12 => some (SBus.mk (w64 (p - (1 : Int))) o x9.1 x10.1 x11.1 x12.1, x12.2)) (j := 37) fun o =>
  (ipair_tot hn t ht).bind (G := fun s r => (m_impl_reader_number n r (1 : Int)).bind fun x10 => (m_impl_reader_phases n x10.2).bind fun x11 => (m_impl_reader_number n x11.2 (4 : Int)).bind fun x12 => some (SBus.mk (w64 (p - (1 : Int))) o s x10.1 x11.1 x12.1, x12.2)) (j := 29) fun s =>
  (inum_tot hn t ht 1 (by omega)).bind (G := fun k r => (m_impl_reader_phases n r).bind fun x11 => (m_impl_reader_number n x11.2 (4 : Int)).bind fun x12 => some (SBus.mk (w64 (p - (1 : Int))) o s k x11.1 x12.1, x12.2)) (j := 28) fun k =>
  (iph_tot hn t ht).bind (G := fun l r => (m_impl_reader_number n r (4 : Int)).bind fun x12 => some (SBus.mk (w64 (p - (1 : Int))) o s k l x12.1, x12.2)) (j := 4) fun l =>
  (inum_tot hn t ht 4 (by omega)).bind (G := fun c r => some (SBus.mk (w64 (p - (1 : Int))) o s k l c, r)) (j := 0) fun c => Tot.pure _
theorem itie_tot : Tot t.length (mkI t) (m_impl_reader_tie n) 22 :=
  (inum_tot hn t ht 1 (by omega)).bind (G := fun a r => (m_impl_reader_number n r (1 : Int)).bind fun x7 => (m_impl_reader_pair n x7.2).bind fun x8 => (m_impl_reader_pair n x8.2).bind fun x9 => (m_impl_reader_number n x9.2 (4 : Int)).bind fun x10 => some (STie.mk a x7.1 x8.1 x9.1 x10.1, x10.2)) (j := 21) fun a =>
  (inum_tot hn t ht 1 (by omega)).bind (G := fun b r => (m_impl_reader_pair n r).bind fun x8 => (m_impl_reader_pair n x8.2).bind fun x9 => (m_impl_reader_number n x9.2 (4 : Int)).bind fun x10 => some (STie.mk a b x8.1 x9.1 x10.1, x10.2)) (j := 20) fun b =>
  (ipair_tot hn t ht).bind (G := fun o r => (m_impl_reader_pair n r).bind fun x9 => (m_impl_reader_number n x9.2 (4 : Int)).bind fun x10 => some (STie.mk a b o x9.1 x10.1, x10.2)) (j := 12) fun o =>
  (ipair_tot hn t ht).bind (G := fun s r => (m_impl_reader_number n r (4 : Int)).bind fun x10 => some (STie.mk a b o s x10.1, x10.2)) (j := 4) fun s =>
  (inum_tot hn t ht 4 (by omega)).bind (G := fun m r => some (STie.mk a b o s m, r)) (j := 0) fun m => Tot.pure _
theorem snum_tot : Tot t.length (mkS t) (m_spec_l10Eyes_number n) 8 :=
  (sword_tot hn t ht 4 (by omega)).bind (G := fun a r => (m_spec_l10Eyes_word n r (4 : Int)).bind fun x6 => (m_spec_l01From n a).bind fun x7 => (m_spec_l01From n x6.1).bind fun x8 => some (Cx.mk x7 x8, x6.2)) (j := 4) fun a =>
  (sword_tot hn t ht 4 (by omega)).bind (G := fun b r => (m_spec_l01From n a).bind fun x7 => (m_spec_l01From n b).bind fun x8 => some (Cx.mk x7 x8, r)) (j := 0) fun b => by
    obtain ⟨y, e⟩ := from_tot (n := n) a
    obtain ⟨z, e'⟩ := from_tot (n := n) b
    rw [e, e']; exact Tot.pure (Cx.mk y z)
theorem sph_tot : Tot t.length (mkS t) (m_spec_l10Eyes_phases n) 24 :=
  (snum_tot hn t ht).bind (G := fun a r => (m_spec_l10Eyes_number n r).bind fun x5 => (m_spec_l10Eyes_number n x5.2).bind fun x6 => some (SPhases.mk a x5.1 x6.1, x6.2)) (j := 16) fun a =>
  (snum_tot hn t ht).bind (G := fun b r => (m_spec_l10Eyes_number n r).bind fun x6 => some (SPhases.mk a b x6.1, x6.2)) (j := 8) fun b =>
  (snum_tot hn t ht).bind (G := fun c r => some (SPhases.mk a b c, r)) (j := 0) fun c => Tot.pure _
theorem sbus_tot : Tot t.length (mkS t) (m_spec_l10Eyes_bus n) 46 :=
  (sword_tot hn t ht 1 (by omega)).bind (G := fun p r => (m_spec_l10Eyes_number n r).bind fun x8 => (m_spec_l10Eyes_number n x8.2).bind fun x9 => (m_spec_l10Eyes_word n x9.2 (1 : Int)).bind fun x10 => (m_spec_l10Eyes_phases n x10.2).bind fun x11 => (m_spec_l10Eyes_word n x11.2 (4 : Int)).bind fun x12 => some (SBus.mk (w64 (p - (1 : Int))) x8.1 x9.1 x10.1 x11.1 x12.1, x12.2)) (j := 45) fun p =>
  (snum_tot hn t ht).bind (G := fun o r => (m_spec_l10Eyes_number n r).bind fun x9 => (m_spec_l10Eyes_word n x9.2 (1 : Int)).bind fun x10 => (m_spec_l10Eyes_phases n x10.2).bind fun x11 => (m_spec_l10Eyes_word n x11.2 (4 : Int)).bind fun x12 => some (SBus.mk (w64 (p - (1 : Int))) o x9.1 x10.1 x11.1 x12.1, x12.2)) (j := 37) fun o =>
  (snum_tot hn t ht).bind (G := fun s r => (m_spec_l10Eyes_word n r (1 : Int)).bind fun x10 => (m_spec_l10Eyes_phases n x10.2).bind fun x11 => (m_spec_l10Eyes_word n x11.2 (4 : Int)).bind fun x12 => some (SBus.mk (w64 (p - (1 : Int))) o s x10.1 x11.1 x12.1, x12.2)) (j := 29) fun s =>
  (sword_tot hn t ht 1 (by omega)).bind (G := fun k r => (m_spec_l10Eyes_phases n r).bind fun x11 => (m_spec_l10Eyes_word n x11.2 (4 : Int)).bind fun x12 => some (SBus.mk (w64 (p - (1 : Int))) o s k x11.1 x12.1, x12.2)) (j := 28) fun k =>
  (sph_tot hn t ht).bind (G := fun l r => (m_spec_l10Eyes_word n r (4 : Int)).bind fun x12 => some (SBus.mk (w64 (p - (1 : Int))) o s k l x12.1, x12.2)) (j := 4) fun l =>
  (sword_tot hn t ht 4 (by omega)).bind (G := fun c r => some (SBus.mk (w64 (p - (1 : Int))) o s k l c, r)) (j := 0) fun c => Tot.pure _
theorem stie_tot : Tot t.length (mkS t) (m_spec_l10Eyes_tie n) 22 :=
  (sword_tot hn t ht 1 (by omega)).bind (G := fun a r => (m_spec_l10Eyes_word n r (1 : Int)).bind fun x7 => (m_spec_l10Eyes_number n x7.2).bind fun x8 => (m_spec_l10Eyes_number n x8.2).bind fun x9 => (m_spec_l10Eyes_word n x9.2 (4 : Int)).bind fun x10 => some (STie.mk a x7.1 x8.1 x9.1 x10.1, x10.2)) (j := 21) fun a =>
  (sword_tot hn t ht 1 (by omega)).bind (G := fun b r => (m_spec_l10Eyes_number n r).bind fun x8 => (m_spec_l10Eyes_number n x8.2).bind fun x9 => (m_spec_l10Eyes_word n x9.2 (4 : Int)).bind fun x10 => some (STie.mk a b x8.1 x9.1 x10.1, x10.2)) (j := 20) fun b =>
  (snum_tot hn t ht).bind (G := fun o r => (m_spec_l10Eyes_number n r).bind fun x9 => (m_spec_l10Eyes_word n x9.2 (4 : Int)).bind fun x10 => some (STie.mk a b o x9.1 x10.1, x10.2)) (j := 12) fun o =>
  (snum_tot hn t ht).bind (G := fun s r => (m_spec_l10Eyes_word n r (4 : Int)).bind fun x10 => some (STie.mk a b o s x10.1, x10.2)) (j := 4) fun s =>
  (sword_tot hn t ht 4 (by omega)).bind (G := fun m r => some (STie.mk a b o s m, r)) (j := 0) fun m => Tot.pure _
end
end Go.Proofs.Ytmllgpkgjniomaa.AWN

namespace Go.Proofs.Ytmllgpkgjniomaa.AWN
open Go
structure BOk (b : SBus) : Prop where
  P : 0 ≤ b.Parent + 1 ∧ b.Parent + 1 < 4294967296
  K : 0 ≤ b.Kind ∧ b.Kind < 4294967296
  C : 0 ≤ b.Customers ∧ b.Customers < 4294967296
  own : CxOk b.Own
  shared : CxOk b.Shared
  load : PhOk b.Load
structure TOk (t : STie) : Prop where
  A : 0 ≤ t.A ∧ t.A < 4294967296
  B : 0 ≤ t.B ∧ t.B < 4294967296
  M : 0 ≤ t.Most ∧ t.Most < 4294967296
  own : CxOk t.Own
  shared : CxOk t.Shared
def busB (b : SBus) : Str := chars (leb (b.Parent + 1).toNat 1) ++ cb b.Own ++ cb b.Shared ++ chars (leb b.Kind.toNat 1) ++ pb b.Load ++ chars (leb b.Customers.toNat 4)
def tieB (t : STie) : Str := chars (leb t.A.toNat 1) ++ chars (leb t.B.toNat 1) ++ cb t.Own ++ cb t.Shared ++ chars (leb t.Most.toNat 4)
def headB (g : SGrid) : Str := [70, 68, 82, 49] ++ pb g.Feeder.Source ++ chars (leb g.Feeder.Buses.length 1) ++ (g.Feeder.Buses.map busB).flatten ++ chars (leb g.Ties.length 1) ++ (g.Ties.map tieB).flatten
theorem ch_len (x k : Nat) : (chars (leb x k)).length = k := by rw [chars_len, leb_len]
theorem busB_len (b : SBus) : (busB b).length = 46 := by
  unfold busB
  simp only [List.length_append, ch_len, cb_len, pb_len]
theorem tieB_len (t : STie) : (tieB t).length = 22 := by
  unfold tieB
  simp only [List.length_append, ch_len, cb_len]
theorem fl_len {α : Type} (f : α → Str) (k : Nat) (h : ∀ a, (f a).length = k) : ∀ l : List α, ((l.map f).flatten).length = l.length * k
  | [] => by simp
  | a :: l => by
    rw [List.map_cons, List.flatten_cons, List.length_append, h, fl_len f k h l, List.length_cons, Nat.succ_mul]; omega
theorem take_nat {α : Type} {l : List α} {i : Nat} (h : i < l.length) : ∃ x, getI l (i : Int) = some x ∧ x ∈ l ∧ l.take (i + 1) = l.take i ++ [x] := by
  refine ⟨l[i], getI_nat' h, List.getElem_mem _, ?_⟩
  rw [List.take_add_one, List.getElem?_eq_getElem h]; rfl
section
variable {n : Nat} (hn : 100 ≤ n)
include hn
theorem w_some {z : Int} (h : 0 ≤ z ∧ z < 4294967296) (k : Nat) (h4 : k ≤ 4) : m_spec_l10Word n z (k : Int) = some (chars (leb z.toNat k)) := by
  obtain ⟨x, rfl⟩ := Int.eq_ofNat_of_zero_le h.1
  exact word_some' (by omega) (by omega) k h4
theorem scb_some {c : Cx} (hc : CxOk c) : m_spec_l10Complex n c = some (cb c) := by
  unfold m_spec_l10Complex
  rw [sbits_some n hc.1, Option.bind_some, show (4 : Int) = ((4 : Nat) : Int) from rfl, word_some' (by omega) (bt_lt hc.1) 4 (by omega), Option.bind_some, sbits_some n hc.2, Option.bind_some, word_some' (by omega) (bt_lt hc.2) 4 (by omega), Option.bind_some]
  unfold grd
  rw [if_pos (by rw [ch_len, ch_len]; decide)]
  rfl
variable {g : SGrid} (hb : ∀ b ∈ g.Feeder.Buses, BOk b) (ht : ∀ t ∈ g.Ties, TOk t) (hs : PhOk g.Feeder.Source) (lb : g.Feeder.Buses.length ≤ 50) (lt : g.Ties.length ≤ 50)
include hb ht lb lt
theorem head_l2 : ∀ (m i : Nat) (acc : Str), i ≤ g.Ties.length → g.Ties.length - i < m → acc.length ≤ 100000 + 100 * i → m_spec_l10Head_l2 n g m acc (i : Int) = some (acc ++ ((g.Ties.drop i).map tieB).flatten)
  | 0, i, acc, _, h, _ => by omega
  | m + 1, i, acc, hi, h, ha => by
    unfold m_spec_l10Head_l2
    by_cases hk : i = g.Ties.length
    · subst hk
      rw [if_neg (by omega), List.drop_length]
      simp
    · have hlt : i < g.Ties.length := by omega
      have hx := ht _ (List.getElem_mem hlt)
      rw [if_pos (by omega), getI_nat' hlt, Option.bind_some, List.drop_eq_getElem_cons hlt, List.map_cons, List.flatten_cons]
      generalize g.Ties[i] = x at hx ⊢
      have w1 := w_some hn hx.A 1 (by omega)
      have w2 := w_some hn hx.B 1 (by omega)
      have w3 := w_some hn hx.M 4 (by omega)
      rw [show (1 : Int) = ((1 : Nat) : Int) from rfl, show (4 : Int) = ((4 : Nat) : Int) from rfl, w1, Option.bind_some, w2, Option.bind_some, scb_some hn hx.own, Option.bind_some, scb_some hn hx.shared, Option.bind_some, w3, Option.bind_some]
      unfold grd
      simp only [List.length_append, ch_len, cb_len]
      rw [if_pos (by omega), if_pos (by omega), if_pos (by omega), if_pos (by omega), if_pos (by omega), w64_id (by omega) (by omega)]
      have e : chars (leb x.A.toNat 1) ++ chars (leb x.B.toNat 1) ++ cb x.Own ++ cb x.Shared ++ chars (leb x.Most.toNat 4) = tieB x := rfl
      rw [e]
      have := head_l2 m (i + 1) (acc ++ tieB x) (by omega) (by omega) (by rw [List.length_append, tieB_len]; omega)
      rw [List.append_assoc] at this
      exact this
theorem head_l3 : ∀ (m i : Nat) (acc : Str), i ≤ g.Feeder.Buses.length → g.Feeder.Buses.length - i < m → acc.length ≤ 1000 + 100 * i → m_spec_l10Head_l3 n g m acc (i : Int) = some (acc ++ ((g.Feeder.Buses.drop i).map busB).flatten ++ chars (leb g.Ties.length 1) ++ (g.Ties.map tieB).flatten)
  | 0, i, acc, _, h, _ => by omega
  | m + 1, i, acc, hi, h, ha => by
    unfold m_spec_l10Head_l3
    by_cases hk : i = g.Feeder.Buses.length
    · subst hk
      rw [if_neg (by omega), List.drop_length]
      unfold m_spec_l10Head_j1
      rw [show (1 : Int) = ((1 : Nat) : Int) from rfl, w_some hn (z := (g.Ties.length : Int)) ⟨by omega, by omega⟩ 1 (by omega), Option.bind_some]
      unfold grd
      rw [if_pos (by rw [ch_len]; omega)]
      have := head_l2 hn hb ht lb lt n 0 (acc ++ chars (leb g.Ties.length 1)) (by omega) (by omega) (by rw [List.length_append, ch_len]; omega)
      rw [List.drop_zero] at this
      rw [Int.toNat_natCast]
      simp only [List.map_nil, List.flatten_nil, List.append_nil]
      exact this
    · have hlt : i < g.Feeder.Buses.length := by omega
      have hx := hb _ (List.getElem_mem hlt)
      rw [if_pos (by omega), getI_nat' hlt, Option.bind_some, List.drop_eq_getElem_cons hlt, List.map_cons, List.flatten_cons]
      generalize g.Feeder.Buses[i] = x at hx ⊢
      have hP := hx.P
      have w1 := w_some hn hx.P 1 (by omega)
      have w2 := w_some hn hx.K 1 (by omega)
      have w3 := w_some hn hx.C 4 (by omega)
      have pp := spb_some (n := n) (by omega) hx.load
      rw [w64_id (n := x.Parent + 1) (by omega) (by omega)]
      rw [show m_spec_l10Word n (x.Parent + 1) (1 : Int) = some (chars (leb (x.Parent + 1).toNat 1)) from w1, Option.bind_some, scb_some hn hx.own, Option.bind_some, scb_some hn hx.shared, Option.bind_some, show m_spec_l10Word n x.Kind (1 : Int) = some (chars (leb x.Kind.toNat 1)) from w2, Option.bind_some, pp, Option.bind_some, show m_spec_l10Word n x.Customers (4 : Int) = some (chars (leb x.Customers.toNat 4)) from w3, Option.bind_some]
      unfold grd
      simp only [List.length_append, ch_len, cb_len, pb_len]
      rw [if_pos (by omega), if_pos (by omega), if_pos (by omega), if_pos (by omega), if_pos (by omega), if_pos (by omega), w64_id (by omega) (by omega)]
      have e : acc ++ (chars (leb (x.Parent + 1).toNat 1) ++ cb x.Own ++ cb x.Shared ++ chars (leb x.Kind.toNat 1)) ++ (pb x.Load ++ chars (leb x.Customers.toNat 4)) = acc ++ busB x := by
        unfold busB; simp only [List.append_assoc]
      rw [e]
      have := head_l3 m (i + 1) (acc ++ busB x) (by omega) (by omega) (by rw [List.length_append, busB_len]; omega)
      rw [List.append_assoc acc] at this
      exact this
include hs
theorem head_spec : m_spec_l10Head n g = some (headB g) := by
  unfold m_spec_l10Head
  rw [spb_some (n := n) (by omega) hs, Option.bind_some]
  unfold grd
  rw [if_pos (by rw [pb_len]; decide), show (1 : Int) = ((1 : Nat) : Int) from rfl, w_some hn (z := (g.Feeder.Buses.length : Int)) ⟨by omega, by omega⟩ 1 (by omega), Option.bind_some, if_pos (by rw [List.length_append, pb_len, ch_len]; decide)]
  have := head_l3 hn hb ht lb lt n 0 ([70, 68, 82, 49] ++ pb g.Feeder.Source ++ chars (leb g.Feeder.Buses.length 1)) (by omega) (by omega) (by rw [List.length_append, List.length_append, pb_len, ch_len]; decide)
  rw [List.drop_zero] at this
  rw [Int.toNat_natCast]
  exact this
end
end Go.Proofs.Ytmllgpkgjniomaa.AWN

namespace Go.Proofs.Ytmllgpkgjniomaa.AWN
open Go
theorem mapS_some {α β : Type} {f : α → Option β} {h : α → β} : ∀ {l : List α}, (∀ a ∈ l, f a = some (h a)) → mapS f l = some (l.map h)
  | [], _ => rfl
  | a :: l, hf => by
    unfold mapS
    rw [hf a List.mem_cons_self, Option.bind_some, mapS_some fun b hb => hf b (List.mem_cons_of_mem _ hb), Option.bind_some]; rfl
theorem upTo_shift : ∀ (k : Nat) (f : Nat → Str) (o : Str), upTo f o (k + 1) = upTo (fun i => f (i + 1)) (o ++ f 0) k := by
  intro k
  induction k with
  | zero => intro f o; rfl
  | succ k ih =>
    intro f o
    show upTo f o (k + 1) ++ f (k + 1) = _
    rw [ih f o]; rfl
theorem upTo_flat : ∀ (ps : List Str) (o : Str) (f : Nat → Str), (∀ k, k < ps.length → f k = ps.getD k []) → upTo f o ps.length = o ++ ps.flatten := by
  intro ps
  induction ps with
  | nil => intro o f _; show o = o ++ []; rw [List.append_nil]
  | cons x l ih =>
    intro o f h
    rw [List.length_cons, upTo_shift, ih (o ++ f 0) (fun i => f (i + 1)) fun k hk => by
      rw [h (k + 1) (by rw [List.length_cons]; omega)]; rfl]
    rw [h 0 (by rw [List.length_cons]; omega)]
    simp
def bus6 (b : SBus) : T6 := (chars (leb (b.Parent + 1).toNat 1), cb b.Own, cb b.Shared, chars (leb b.Kind.toNat 1), pb b.Load, chars (leb b.Customers.toNat 4))
def tie5 (t : STie) : T5 := (chars (leb t.A.toNat 1), chars (leb t.B.toNat 1), cb t.Own, cb t.Shared, chars (leb t.Most.toNat 4))
section
variable {n : Nat} (hn : 100 ≤ n)
include hn
theorem bo_some {z : Int} (h : 0 ≤ z ∧ z < 4294967296) (k : Nat) (h4 : k ≤ 4) : m_impl_bytesOf n z (k : Int) = some (chars (leb z.toNat k)) := by
  obtain ⟨x, rfl⟩ := Int.eq_ofNat_of_zero_le h.1
  exact bytesOf_some (by omega) (by omega) k h4
theorem icb_some {c : Cx} (hc : CxOk c) : m_impl_pairOf n c = some (cb c) := by
  unfold m_impl_pairOf
  rw [ibits_some n hc.1, Option.bind_some, show (4 : Int) = ((4 : Nat) : Int) from rfl, bytesOf_some (by omega) (bt_lt hc.1) 4 (by omega), Option.bind_some, ibits_some n hc.2, Option.bind_some, bytesOf_some (by omega) (bt_lt hc.2) 4 (by omega), Option.bind_some]
  unfold grd
  rw [if_pos (by rw [ch_len, ch_len]; decide)]
  rfl
variable {g : SGrid} (hb : ∀ b ∈ g.Feeder.Buses, BOk b) (ht : ∀ t ∈ g.Ties, TOk t) (hs : PhOk g.Feeder.Source) (lb : g.Feeder.Buses.length ≤ 50) (lt : g.Ties.length ≤ 50)
include hb ht lb lt hs
theorem stored_is : m_impl_stored n g = some (headB g) := by
  unfold m_impl_stored storedM
  have e1 : mapS (busTx (m_impl_bytesOf n) (fun a b => m_impl_pairOf n (Cx.mk a b)) (fun p => m_impl_phasesOf n (SPhases.mk (Cx.mk p.a p.a') (Cx.mk p.b p.b') (Cx.mk p.c p.c')))) (g.Feeder.Buses.map vSBus) = some (g.Feeder.Buses.map bus6) := by
    have : ∀ l : List SBus, (∀ b ∈ l, BOk b) → mapS (busTx (m_impl_bytesOf n) (fun a b => m_impl_pairOf n (Cx.mk a b)) (fun p => m_impl_phasesOf n (SPhases.mk (Cx.mk p.a p.a') (Cx.mk p.b p.b') (Cx.mk p.c p.c')))) (l.map vSBus) = some (l.map bus6) := by
      intro l
      induction l with
      | nil => intro _; rfl
      | cons b l ih =>
        intro h
        have hx := h b List.mem_cons_self
        have hP := hx.P
        rw [List.map_cons]
        unfold mapS
        rw [ih fun c hc => h c (List.mem_cons_of_mem _ hc)]
        have : busTx (m_impl_bytesOf n) (fun a b => m_impl_pairOf n (Cx.mk a b)) (fun p => m_impl_phasesOf n (SPhases.mk (Cx.mk p.a p.a') (Cx.mk p.b p.b') (Cx.mk p.c p.c'))) (vSBus b) = some (bus6 b) := by
          have w1 := bo_some hn hx.P 1 (by omega)
          have w2 := bo_some hn hx.K 1 (by omega)
          have w3 := bo_some hn hx.C 4 (by omega)
          have o1 := icb_some hn hx.own
          have o2 := icb_some hn hx.shared
          have pp := ipb_some (n := n) (by omega) hx.load
          show ((m_impl_bytesOf n (b.Parent + 1) ((1 : Nat) : Int)).bind fun p => (m_impl_pairOf n b.Own).bind fun o => (m_impl_pairOf n b.Shared).bind fun s => (m_impl_bytesOf n b.Kind ((1 : Nat) : Int)).bind fun k => (m_impl_phasesOf n b.Load).bind fun l => (m_impl_bytesOf n b.Customers ((4 : Nat) : Int)).bind fun c => grd ((p.length ≤ 1000 ∧ o.length ≤ 1000 ∧ s.length ≤ 1000 ∧ k.length ≤ 1000 ∧ l.length ≤ 1000 ∧ c.length ≤ 1000) ∧ IntKind.i64.wrap (b.Parent + 1) = b.Parent + 1) (some (p, o, s, k, l, c))) = _
          rw [w1, Option.bind_some, o1, Option.bind_some, o2, Option.bind_some, w2, Option.bind_some, pp, Option.bind_some, w3, Option.bind_some]
          unfold grd
          rw [if_pos ⟨by simp only [ch_len, cb_len, pb_len]; decide, w64_id (by omega) (by omega)⟩]
          rfl
        rw [this]; rfl
    exact this _ hb
  have e2 : mapS (tieTx (m_impl_bytesOf n) (fun a b => m_impl_pairOf n (Cx.mk a b))) (g.Ties.map vSTie) = some (g.Ties.map tie5) := by
    have : ∀ l : List STie, (∀ b ∈ l, TOk b) → mapS (tieTx (m_impl_bytesOf n) (fun a b => m_impl_pairOf n (Cx.mk a b))) (l.map vSTie) = some (l.map tie5) := by
      intro l
      induction l with
      | nil => intro _; rfl
      | cons b l ih =>
        intro h
        have hx := h b List.mem_cons_self
        rw [List.map_cons]
        unfold mapS
        rw [ih fun c hc => h c (List.mem_cons_of_mem _ hc)]
        have : tieTx (m_impl_bytesOf n) (fun a b => m_impl_pairOf n (Cx.mk a b)) (vSTie b) = some (tie5 b) := by
          have w1 := bo_some hn hx.A 1 (by omega)
          have w2 := bo_some hn hx.B 1 (by omega)
          have w3 := bo_some hn hx.M 4 (by omega)
          have o1 := icb_some hn hx.own
          have o2 := icb_some hn hx.shared
          show ((m_impl_bytesOf n b.A ((1 : Nat) : Int)).bind fun p => (m_impl_bytesOf n b.B ((1 : Nat) : Int)).bind fun q => (m_impl_pairOf n b.Own).bind fun o => (m_impl_pairOf n b.Shared).bind fun s => (m_impl_bytesOf n b.Most ((4 : Nat) : Int)).bind fun m => grd (p.length ≤ 1000 ∧ q.length ≤ 1000 ∧ o.length ≤ 1000 ∧ s.length ≤ 1000 ∧ m.length ≤ 1000) (some (p, q, o, s, m))) = _
          rw [w1, Option.bind_some, w2, Option.bind_some, o1, Option.bind_some, o2, Option.bind_some, w3, Option.bind_some]
          unfold grd
          rw [if_pos (by simp only [ch_len, cb_len]; decide)]
          rfl
        rw [this]; rfl
    exact this _ ht
  rw [e1, e2]
  have s1 : m_impl_phasesOf n g.Feeder.Source = some (pb g.Feeder.Source) := ipb_some (by omega) hs
  have n1 := bo_some hn (z := (g.Feeder.Buses.length : Int)) ⟨by omega, by omega⟩ 1 (by omega)
  have n2 := bo_some hn (z := (g.Ties.length : Int)) ⟨by omega, by omega⟩ 1 (by omega)
  rw [Int.toNat_natCast] at n1 n2
  simp only [List.length_map]
  unfold grd
  rw [if_pos ⟨by omega, by omega⟩, show m_impl_phasesOf n (SPhases.mk (Cx.mk (vSPhases g.Feeder.Source).a (vSPhases g.Feeder.Source).a') (Cx.mk (vSPhases g.Feeder.Source).b (vSPhases g.Feeder.Source).b') (Cx.mk (vSPhases g.Feeder.Source).c (vSPhases g.Feeder.Source).c')) = some (pb g.Feeder.Source) from s1, Option.bind_some, show m_impl_bytesOf n (g.Feeder.Buses.length : Int) (1 : Int) = some (chars (leb g.Feeder.Buses.length 1)) from n1, Option.bind_some, show m_impl_bytesOf n (g.Ties.length : Int) (1 : Int) = some (chars (leb g.Ties.length 1)) from n2, Option.bind_some, if_pos ⟨by rw [pb_len]; decide, by rw [ch_len]; decide, by rw [ch_len]; decide⟩, Option.bind_some, Option.bind_some]
  have u1 := upTo_flat (g.Feeder.Buses.map busB) ([70, 68, 82, 49] ++ pb g.Feeder.Source ++ chars (leb g.Feeder.Buses.length 1)) (fun k => ((g.Feeder.Buses.map bus6).getD k d6).1 ++ ((g.Feeder.Buses.map bus6).getD k d6).2.1 ++ ((g.Feeder.Buses.map bus6).getD k d6).2.2.1 ++ ((g.Feeder.Buses.map bus6).getD k d6).2.2.2.1 ++ ((g.Feeder.Buses.map bus6).getD k d6).2.2.2.2.1 ++ ((g.Feeder.Buses.map bus6).getD k d6).2.2.2.2.2) (fun k hk => by
    rw [List.length_map] at hk
    simp only [List.getD_eq_getElem?_getD, List.getElem?_map, List.getElem?_eq_getElem hk, Option.map_some, Option.getD_some]
    rfl)
  rw [List.length_map] at u1
  rw [u1]
  have u2 := upTo_flat (g.Ties.map tieB) ([70, 68, 82, 49] ++ pb g.Feeder.Source ++ chars (leb g.Feeder.Buses.length 1) ++ (g.Feeder.Buses.map busB).flatten ++ chars (leb g.Ties.length 1)) (fun k => ((g.Ties.map tie5).getD k d5).1 ++ ((g.Ties.map tie5).getD k d5).2.1 ++ ((g.Ties.map tie5).getD k d5).2.2.1 ++ ((g.Ties.map tie5).getD k d5).2.2.2.1 ++ ((g.Ties.map tie5).getD k d5).2.2.2.2) (fun k hk => by
    rw [List.length_map] at hk
    simp only [List.getD_eq_getElem?_getD, List.getElem?_map, List.getElem?_eq_getElem hk, Option.map_some, Option.getD_some]
    rfl)
  rw [List.length_map] at u2
  rw [u2]
  rfl
end
end Go.Proofs.Ytmllgpkgjniomaa.AWN

namespace Go.Proofs.Ytmllgpkgjniomaa.AWN
open Go
theorem in_dec (n : Nat) (x a b : Int) : m_impl_in n x a b = some (decide (a ≤ x ∧ x ≤ b)) := by
  unfold m_impl_in
  by_cases h : x ≥ a
  · rw [if_pos h]; congr 1; simp only [decide_eq_decide]; exact ⟨fun g => ⟨h, g⟩, fun g => g.2⟩
  · rw [if_neg h]; congr 1; exact (decide_eq_false fun g => h g.1).symm
theorem in_dec' (n : Nat) (x a b : Int) : m_spec_l00In n x a b = some (decide (a ≤ x ∧ x ≤ b)) := by
  unfold m_spec_l00In
  by_cases h : x ≥ a
  · rw [if_pos h]; congr 1; simp only [decide_eq_decide]; exact ⟨fun g => ⟨h, g⟩, fun g => g.2⟩
  · rw [if_neg h]; congr 1; exact (decide_eq_false fun g => h g.1).symm
def zeroC (c : Cx) : Bool := fcmp .eql .f32 c.re 0 && fcmp .eql .f32 c.im 0
def busV (b : SBus) (i : Nat) : Bool := decide (0 ≤ b.Kind ∧ b.Kind ≤ 2) && (decide (0 ≤ b.Customers ∧ b.Customers ≤ 1000000) && (if i = 0 then decide (b.Parent = -1) && (zeroC b.Own && zeroC b.Shared) else decide (0 ≤ b.Parent ∧ b.Parent ≤ (i : Int) - 1)))
def tieV (t : STie) (k : Nat) : Bool := decide (0 ≤ t.A ∧ t.A ≤ (k : Int) - 1) && (decide (0 ≤ t.B ∧ t.B ≤ (k : Int) - 1) && (!decide (t.A = t.B) && decide (0 ≤ t.Most ∧ t.Most ≤ 16000000)))
theorem sbus_is (n : Nat) (b : SBus) (i : Nat) (hi : i ≤ 1000) : m_spec_l02Bus n b (i : Int) = some (busV b i) := by
  unfold m_spec_l02Bus busV zeroC
  rw [in_dec', Option.bind_some, in_dec']
  cases decide (0 ≤ b.Kind ∧ b.Kind ≤ 2) with
  | false => rfl
  | true =>
    rw [if_pos rfl, Option.bind_some]
    unfold m_spec_l02Bus_j2
    cases decide (0 ≤ b.Customers ∧ b.Customers ≤ 1000000) with
    | false => rfl
    | true =>
      rw [if_neg (by decide)]
      unfold m_spec_l02Bus_j1
      by_cases h0 : i = 0
      · subst h0
        rw [if_pos (by decide), if_pos rfl]
        by_cases hp : b.Parent = -1
        · rw [if_pos hp, decide_eq_true hp]
          cases (fcmp .eql .f32 b.Own.re 0 && fcmp .eql .f32 b.Own.im 0) <;> rfl
        · rw [if_neg hp, decide_eq_false hp]; rfl
      · rw [if_neg (by omega), if_neg h0, w64_id (by omega) (by omega), in_dec', Option.bind_some]; rfl
theorem stie_is (n : Nat) (g : SGrid) (t : STie) (hl : g.Feeder.Buses.length ≤ 1000) : m_spec_l08Tie n g t = some (tieV t g.Feeder.Buses.length) := by
  unfold m_spec_l08Tie m_spec_l02At tieV
  rw [w64_id (by omega) (by omega), in_dec', in_dec', in_dec']
  simp only [Option.bind_some]
  cases decide (0 ≤ t.A ∧ t.A ≤ (g.Feeder.Buses.length : Int) - 1) with
  | false => rfl
  | true =>
    cases decide (0 ≤ t.B ∧ t.B ≤ (g.Feeder.Buses.length : Int) - 1) with
    | false => rfl
    | true =>
      by_cases h : t.A = t.B
      · rw [if_pos rfl, if_pos rfl, if_pos h, decide_eq_true h]; rfl
      · rw [if_pos rfl, if_pos rfl, if_neg h, decide_eq_false h]; rfl
theorem itie_is (n : Nat) (t : STie) (k : Nat) (hl : k ≤ 1000) : m_impl_Tie_ok n t (k : Int) = some (tieV t k) := by
  unfold m_impl_Tie_ok tieV
  rw [w64_id (by omega) (by omega), in_dec, in_dec, in_dec]
  simp only [Option.bind_some]
  by_cases h : t.A = t.B
  · rw [if_pos h, decide_eq_true h]
    cases decide (0 ≤ t.A ∧ t.A ≤ (k : Int) - 1) <;> cases decide (0 ≤ t.B ∧ t.B ≤ (k : Int) - 1) <;> rfl
  · rw [if_neg h, decide_eq_false h]
    cases decide (0 ≤ t.A ∧ t.A ≤ (k : Int) - 1) <;> cases decide (0 ≤ t.B ∧ t.B ≤ (k : Int) - 1) <;> rfl
end Go.Proofs.Ytmllgpkgjniomaa.AWN

namespace Go.Proofs.Ytmllgpkgjniomaa.AWN
open Go
def allV {α : Type} (f : α → Nat → Bool) : List α → Nat → Bool
  | [], _ => true
  | a :: l, i => f a i && allV f l (i + 1)
theorem sbuses (n : Nat) (g : SGrid) (hl : g.Feeder.Buses.length ≤ 1000) : ∀ (m i : Nat), i ≤ g.Feeder.Buses.length → g.Feeder.Buses.length - i < m → m_spec_l02Is_2_l2 n g m (i : Int) = some (allV busV (g.Feeder.Buses.drop i) i)
  | 0, i, _, h => by omega
  | m + 1, i, hi, h => by
    unfold m_spec_l02Is_2_l2
    by_cases hk : i = g.Feeder.Buses.length
    · subst hk
      rw [if_neg (by omega), List.drop_length]; rfl
    · have hlt : i < g.Feeder.Buses.length := by omega
      rw [if_pos (by omega), getI_nat' hlt, Option.bind_some, sbus_is n _ i (by omega), Option.bind_some, List.drop_eq_getElem_cons hlt]
      unfold allV
      cases busV g.Feeder.Buses[i] i with
      | false => rfl
      | true =>
        rw [if_pos rfl, w64_id (by omega) (by omega)]
        exact sbuses n g hl m (i + 1) (by omega) (by omega)
theorem sties (n : Nat) (g : SGrid) (hl : g.Feeder.Buses.length ≤ 1000) (ht : g.Ties.length ≤ 1000) : ∀ (m i : Nat), i ≤ g.Ties.length → g.Ties.length - i < m → m_spec_l08Is_2_l2 n g m (i : Int) = some (allV (fun t _ => tieV t g.Feeder.Buses.length) (g.Ties.drop i) i)
  | 0, i, _, h => by omega
  | m + 1, i, hi, h => by
    unfold m_spec_l08Is_2_l2
    by_cases hk : i = g.Ties.length
    · subst hk
      rw [if_neg (by omega), List.drop_length]; rfl
    · have hlt : i < g.Ties.length := by omega
      rw [if_pos (by omega), getI_nat' hlt, Option.bind_some, stie_is n g _ hl, Option.bind_some, List.drop_eq_getElem_cons hlt]
      unfold allV
      cases tieV g.Ties[i] g.Feeder.Buses.length with
      | false => rfl
      | true =>
        rw [if_pos rfl, w64_id (by omega) (by omega)]
        exact sties n g hl ht m (i + 1) (by omega) (by omega)
/-- The rules of a grid. -/
def gridV (g : SGrid) : Bool := (decide (1 ≤ g.Feeder.Buses.length ∧ g.Feeder.Buses.length ≤ 16) && allV busV g.Feeder.Buses 0) && (decide (g.Ties.length ≤ 6) && allV (fun t _ => tieV t g.Feeder.Buses.length) g.Ties 0)
theorem is_spec {n : Nat} (hn : 300 ≤ n) (g : SGrid) (hl : g.Feeder.Buses.length ≤ 255) (ht : g.Ties.length ≤ 255) : m_spec_l08Is_2 n g = some (gridV g) := by
  have f1 : m_spec_l02Is_2 n g = some (decide (1 ≤ g.Feeder.Buses.length ∧ g.Feeder.Buses.length ≤ 16) && allV busV g.Feeder.Buses 0) := by
    unfold m_spec_l02Is_2 m_spec_l02Is_2_j3
    by_cases h1 : (g.Feeder.Buses.length : Int) < 1
    · rw [if_pos h1, if_pos rfl, decide_eq_false (by omega)]; rfl
    · rw [if_neg h1]
      by_cases h2 : (g.Feeder.Buses.length : Int) > 16
      · rw [if_pos (decide_eq_true h2), decide_eq_false (by omega)]; rfl
      · rw [if_neg (by rw [decide_eq_true_eq]; exact h2), decide_eq_true (show 1 ≤ g.Feeder.Buses.length ∧ g.Feeder.Buses.length ≤ 16 by omega)]
        have := sbuses n g (by omega) n 0 (by omega) (by omega)
        rw [List.drop_zero] at this
        exact this
  unfold m_spec_l08Is_2 gridV
  rw [f1, Option.bind_some]
  cases (decide (1 ≤ g.Feeder.Buses.length ∧ g.Feeder.Buses.length ≤ 16) && allV busV g.Feeder.Buses 0) with
  | false => rfl
  | true =>
    rw [if_pos rfl]
    unfold m_spec_l08Is_2_j3
    by_cases h2 : (g.Ties.length : Int) > 6
    · rw [if_pos (decide_eq_true h2), decide_eq_false (by omega)]; rfl
    · rw [if_neg (by rw [decide_eq_true_eq]; exact h2), decide_eq_true (show g.Ties.length ≤ 6 by omega)]
      have := sties n g (by omega) (by omega) n 0 (by omega) (by omega)
      rw [List.drop_zero] at this
      exact this
end Go.Proofs.Ytmllgpkgjniomaa.AWN

namespace Go.Proofs.Ytmllgpkgjniomaa.AWN
open Go
theorem ibus_is (n : Nat) (k : Int → Option Bool) (b : SBus) (i : Nat) (hi : i ≤ 1000) :
    ((m_impl_kindOk n b.Kind).bind fun x132 => if x132 = true then (m_impl_in n b.Customers (0 : Int) (1000000 : Int)).bind fun x134 => m_impl_ValidFeeder_j4 n k (i : Int) b (!x134) else m_impl_ValidFeeder_j4 n k (i : Int) b true) = if busV b i then k ((i + 1 : Nat) : Int) else some false := by
  have hw : w64 ((i : Int) + 1) = ((i + 1 : Nat) : Int) := by rw [w64_id (by omega) (by omega)]; omega
  have j6 : ∀ v : Bool, m_impl_ValidFeeder_j6 n k (i : Int) v = if v then some false else k ((i + 1 : Nat) : Int) := fun v => by
    unfold m_impl_ValidFeeder_j6 m_impl_ValidFeeder_j3
    rw [hw]
  unfold m_impl_kindOk busV zeroC
  rw [in_dec, Option.bind_some, Option.bind_some, in_dec]
  cases decide (0 ≤ b.Kind ∧ b.Kind ≤ 2) with
  | false => rfl
  | true =>
    rw [if_pos rfl, Option.bind_some]
    unfold m_impl_ValidFeeder_j4
    cases decide (0 ≤ b.Customers ∧ b.Customers ≤ 1000000) with
    | false => rfl
    | true =>
      rw [if_neg (by decide)]
      unfold m_impl_ValidFeeder_j5
      by_cases h0 : i = 0
      · subst h0
        rw [if_pos (by decide), if_pos rfl]
        by_cases hp : b.Parent = -1
        · rw [if_pos hp, decide_eq_true hp]
          cases (fcmp .eql .f32 b.Own.re 0 && fcmp .eql .f32 b.Own.im 0) with
          | false => rfl
          | true =>
            cases (fcmp .eql .f32 b.Shared.re 0 && fcmp .eql .f32 b.Shared.im 0) with
            | false => rfl
            | true =>
              rw [if_pos rfl, if_neg (by decide), if_neg (by decide), j6]; rfl
        · rw [if_neg hp, decide_eq_false hp]; rfl
      · rw [if_neg (by omega), if_neg h0, if_neg (by decide), if_pos (by omega), w64_id (n := (i : Int) - 1) (by omega) (by omega), in_dec, Option.bind_some, j6]
        cases decide (0 ≤ b.Parent ∧ b.Parent ≤ (i : Int) - 1) <;> rfl
theorem ibuses (n : Nat) (f : SFeeder) (hl : f.Buses.length ≤ 1000) : ∀ (m i : Nat), i ≤ f.Buses.length → f.Buses.length - i < m → m_impl_ValidFeeder_l2 n f m (i : Int) = some (allV busV (f.Buses.drop i) i && decide (1 ≤ f.Buses.length ∧ f.Buses.length ≤ 16))
  | 0, i, _, h => by omega
  | m + 1, i, hi, h => by
    unfold m_impl_ValidFeeder_l2
    by_cases hk : i = f.Buses.length
    · subst hk
      rw [if_neg (by omega), List.drop_length]
      unfold m_impl_ValidFeeder_j1
      rw [in_dec, Option.bind_some]
      unfold allV
      rw [Bool.true_and]
      congr 1
      rw [decide_eq_decide]
      omega
    · have hlt : i < f.Buses.length := by omega
      rw [if_pos (by omega), getI_nat' hlt, Option.bind_some, ibus_is n _ _ i (by omega), List.drop_eq_getElem_cons hlt]
      unfold allV
      cases busV f.Buses[i] i with
      | false => rfl
      | true =>
        rw [if_pos rfl]
        exact ibuses n f hl m (i + 1) (by omega) (by omega)
theorem iindex (n : Nat) (l : List STie) (k : Nat) (hk' : k ≤ 1000) (hl : l.length ≤ 1000) : ∀ (m i : Nat), i ≤ l.length → l.length - i < m → ∃ z, m_slices_IndexFunc_l1 n l (k : Int) m (i : Int) = some z ∧ (decide (z ≥ 0) = !allV (fun t _ => tieV t k) (l.drop i) i)
  | 0, i, _, h => by omega
  | m + 1, i, hi, h => by
    unfold m_slices_IndexFunc_l1
    by_cases hk : i = l.length
    · subst hk
      rw [if_neg (by omega), List.drop_length]
      exact ⟨-1, rfl, rfl⟩
    · have hlt : i < l.length := by omega
      unfold m_impl_ValidGrid_1
      rw [if_pos (by omega), getI_nat' hlt, Option.bind_some, itie_is n _ k hk', Option.bind_some, Option.bind_some, List.drop_eq_getElem_cons hlt]
      unfold allV
      cases tieV l[i] k with
      | false => exact ⟨(i : Int), rfl, by rw [decide_eq_true (by omega)]; rfl⟩
      | true =>
        rw [if_neg (by decide), w64_id (by omega) (by omega)]
        exact iindex n l k hk' hl m (i + 1) (by omega) (by omega)
theorem is_impl {n : Nat} (hn : 300 ≤ n) (g : SGrid) (hl : g.Feeder.Buses.length ≤ 255) (ht : g.Ties.length ≤ 255) : m_impl_ValidGrid n g = some (gridV g) := by
  unfold m_impl_ValidGrid m_impl_ValidFeeder gridV
  have := ibuses n g.Feeder (by omega) n 0 (by omega) (by omega)
  rw [List.drop_zero] at this
  rw [show (0 : Int) = ((0 : Nat) : Int) from rfl, this, Option.bind_some, Bool.and_comm]
  cases (decide (1 ≤ g.Feeder.Buses.length ∧ g.Feeder.Buses.length ≤ 16) && allV busV g.Feeder.Buses 0) with
  | false => rfl
  | true =>
    rw [if_pos rfl]
    by_cases h2 : (g.Ties.length : Int) ≤ 6
    · rw [if_pos h2, decide_eq_true (show g.Ties.length ≤ 6 by omega)]
      obtain ⟨z, e1, e2⟩ := iindex n g.Ties g.Feeder.Buses.length (by omega) (by omega) n 0 (by omega) (by omega)
      unfold m_slices_ContainsFunc m_slices_IndexFunc
      rw [show (0 : Int) = ((0 : Nat) : Int) from rfl, e1, Option.bind_some, Option.bind_some]
      rw [List.drop_zero] at e2
      rw [show decide (z ≥ ((0 : Nat) : Int)) = !allV (fun t _ => tieV t g.Feeder.Buses.length) g.Ties 0 from e2, Bool.not_not]
      rfl
    · rw [if_neg h2, decide_eq_false (by omega)]; rfl
end Go.Proofs.Ytmllgpkgjniomaa.AWN

namespace Go.Proofs.Ytmllgpkgjniomaa.AWN
open Go
theorem allV_mem {α : Type} {f : α → Nat → Bool} : ∀ {l : List α} {i : Nat}, allV f l i = true → ∀ a ∈ l, ∃ j, j < i + l.length ∧ f a j = true
  | [], _, _, a, h => nomatch h
  | b :: l, i, h, a, ha => by
    unfold allV at h
    rw [Bool.and_eq_true] at h
    rcases List.mem_cons.1 ha with rfl | ha
    · exact ⟨i, by rw [List.length_cons]; omega, h.1⟩
    · obtain ⟨j, h1, h2⟩ := allV_mem h.2 a ha
      exact ⟨j, by rw [List.length_cons]; omega, h2⟩
/-- All words of a grid are words. -/
structure WdG (g : SGrid) : Prop where
  src : PhOk g.Feeder.Source
  bus : ∀ b ∈ g.Feeder.Buses, CxOk b.Own ∧ CxOk b.Shared ∧ PhOk b.Load
  tie : ∀ t ∈ g.Ties, CxOk t.Own ∧ CxOk t.Shared
theorem gridV_ok {g : SGrid} (h : gridV g = true) (w : WdG g) : (∀ b ∈ g.Feeder.Buses, BOk b) ∧ (∀ t ∈ g.Ties, TOk t) ∧ g.Feeder.Buses.length ≤ 16 ∧ g.Ties.length ≤ 6 := by
  unfold gridV at h
  simp only [Bool.and_eq_true, decide_eq_true_eq] at h
  obtain ⟨⟨h1, h2⟩, h3, h4⟩ := h
  refine ⟨fun b hb => ?_, fun t ht => ?_, h1.2, h3⟩
  · obtain ⟨j, hj, hv⟩ := allV_mem h2 b hb
    obtain ⟨w1, w2, w3⟩ := w.bus b hb
    unfold busV at hv
    simp only [Bool.and_eq_true, decide_eq_true_eq] at hv
    obtain ⟨k1, k2, k3⟩ := hv
    refine ⟨?_, by omega, by omega, w1, w2, w3⟩
    by_cases h0 : j = 0
    · rw [if_pos h0] at k3
      simp only [Bool.and_eq_true, decide_eq_true_eq] at k3
      have := k3.1
      omega
    · rw [if_neg h0] at k3
      have := of_decide_eq_true k3
      omega
  · obtain ⟨j, hj, hv⟩ := allV_mem h4 t ht
    obtain ⟨w1, w2⟩ := w.tie t ht
    unfold tieV at hv
    simp only [Bool.and_eq_true, decide_eq_true_eq] at hv
    obtain ⟨k1, k2, k3, k4⟩ := hv
    exact ⟨by omega, by omega, by omega, w1, w2⟩
theorem stored_same {n : Nat} (hn : 300 ≤ n) {g : SGrid} (h : gridV g = true) (w : WdG g) : m_impl_stored n g = some (headB g) ∧ m_spec_l10Head n g = some (headB g) := by
  obtain ⟨h1, h2, h3, h4⟩ := gridV_ok h w
  exact ⟨stored_is (by omega) h1 h2 w.src (by omega) (by omega), head_spec (by omega) h1 h2 w.src (by omega) (by omega)⟩
end Go.Proofs.Ytmllgpkgjniomaa.AWN

namespace Go.Proofs.Ytmllgpkgjniomaa.AWN
open Go
/-- The buses and the ties from a place on. -/
def busesA (t : Str) (a : Nat) : Nat → List SBus
  | 0 => []
  | k + 1 => busA t a :: busesA t (a + 46) k
def tiesA (t : Str) (a : Nat) : Nat → List STie
  | 0 => []
  | k + 1 => tieA t a :: tiesA t (a + 22) k
theorem busesA_len (t : Str) : ∀ k a, (busesA t a k).length = k
  | 0, _ => rfl
  | k + 1, a => by unfold busesA; rw [List.length_cons, busesA_len t k]
theorem tiesA_len (t : Str) : ∀ k a, (tiesA t a k).length = k
  | 0, _ => rfl
  | k + 1, a => by unfold tiesA; rw [List.length_cons, tiesA_len t k]
def noGrid : SGrid := SGrid.mk (SFeeder.mk (SPhases.mk (Cx.mk (0 : Nat) (0 : Nat)) (Cx.mk (0 : Nat) (0 : Nat)) (Cx.mk (0 : Nat) (0 : Nat))) ([] : List SBus)) ([] : List STie)
section
variable {n : Nat} (hn : 300 ≤ n) (t : Str) (ht : t.length ≤ 1099511627776)
include hn ht
/-- Where there is enough, the loop over ties reads them all. -/
theorem iloop5 (x49 : SPhases × SReader) (bs : List SBus) (nt : Nat) (hnt : nt ≤ 255) (x : Int × SReader) (hx : x.1 = (nt : Int)) : ∀ (m j a : Nat) (ts : List STie), j ≤ nt → nt - j < m → a + 22 * (nt - j) ≤ t.length → ts.length = j →
    m_impl_loadGrid_l5 n t x49 bs x m t (a : Int) false ts (j : Int) = m_impl_loadGrid_j2 n t x49 bs t ((a + 22 * (nt - j) : Nat) : Int) false (ts ++ tiesA t a (nt - j))
  | 0, j, a, ts, _, h, _, _ => by omega
  | m + 1, j, a, ts, hj, h, ha, hl => by
    unfold m_impl_loadGrid_l5
    rw [hx]
    by_cases hk : j = nt
    · subst hk
      rw [if_neg (by omega), Nat.sub_self]
      unfold tiesA
      rw [List.append_nil]
      rfl
    · rw [if_pos (by omega), itie_some (by omega) ht a (by omega), Option.bind_some]
      unfold grd
      rw [if_pos (by unfold room; omega), w64_id (by omega) (by omega)]
      have := iloop5 x49 bs nt hnt x hx m (j + 1) (a + 22) (ts ++ [tieA t a]) (by omega) (by omega) (by omega) (by rw [List.length_append, List.length_singleton]; omega)
      rw [show nt - j = (nt - (j + 1)) + 1 by omega]
      unfold tiesA
      rw [List.append_assoc, List.singleton_append] at this
      rw [show a + 22 * (nt - (j + 1) + 1) = a + 22 + 22 * (nt - (j + 1)) by omega]
      exact this
theorem iloop6 (x49 : SPhases × SReader) (nb : Nat) (hnb : nb ≤ 255) (x : Int × SReader) (hx : x.1 = (nb : Int)) (A : List SBus) (B C : List STie) : ∀ (m j a : Nat) (bs : List SBus), j ≤ nb → nb - j < m → a + 46 * (nb - j) ≤ t.length → bs.length = j →
    m_impl_loadGrid_l6 n t x49 x m A B t (a : Int) false bs C (j : Int) = m_impl_loadGrid_j1 n t x49 A B t ((a + 46 * (nb - j) : Nat) : Int) false (bs ++ busesA t a (nb - j)) C
  | 0, j, a, bs, _, h, _, _ => by omega
  | m + 1, j, a, bs, hj, h, ha, hl => by
    unfold m_impl_loadGrid_l6
    rw [hx]
    by_cases hk : j = nb
    · subst hk
      rw [if_neg (by omega), Nat.sub_self]
      unfold busesA
      rw [List.append_nil]
      rfl
    · rw [if_pos (by omega), ibus_some (by omega) ht a (by omega), Option.bind_some]
      unfold grd
      rw [if_pos (by unfold room; omega), w64_id (by omega) (by omega)]
      have := iloop6 x49 nb hnb x hx A B C m (j + 1) (a + 46) (bs ++ [busA t a]) (by omega) (by omega) (by omega) (by rw [List.length_append, List.length_singleton]; omega)
      rw [show nb - j = (nb - (j + 1)) + 1 by omega]
      unfold busesA
      rw [List.append_assoc, List.singleton_append] at this
      rw [show a + 46 * (nb - (j + 1) + 1) = a + 46 + 46 * (nb - (j + 1)) by omega]
      exact this
end
end Go.Proofs.Ytmllgpkgjniomaa.AWN

namespace Go.Proofs.Ytmllgpkgjniomaa.AWN
open Go
section
variable {n : Nat} (hn : 300 ≤ n) (t : Str) (ht : t.length ≤ 1099511627776)
include hn ht
theorem sloop4 (x59 : SPhases × SL10Eyes) (bs : List SBus) : ∀ (m k a : Nat) (ts : List STie), k < m → k ≤ 255 → a + 22 * k ≤ t.length → ts.length + k ≤ 255 →
    m_spec_l10Begin_l4 n t x59 bs m ts t (a : Int) true (k : Int) = m_spec_l10Begin_j3 n t x59 bs (ts ++ tiesA t a k) t ((a + 22 * k : Nat) : Int) true
  | 0, k, a, ts, h, _, _, _ => by omega
  | m + 1, k, a, ts, h, hk', ha, hl => by
    unfold m_spec_l10Begin_l4 m_spec_l10Begin_j6
    by_cases hk : k = 0
    · subst hk
      rw [if_neg (by omega), if_neg (by decide)]
      unfold tiesA
      rw [List.append_nil]
      rfl
    · obtain ⟨k, rfl⟩ : ∃ j, k = j + 1 := ⟨k - 1, by omega⟩
      rw [if_pos (by omega), if_pos rfl]
      unfold m_spec_l10Begin_j5
      rw [stie_some (by omega) ht a true (by omega), Option.bind_some]
      unfold grd
      rw [if_pos (by unfold room; omega), w64_id (by omega) (by omega)]
      have := sloop4 x59 bs m k (a + 22) (ts ++ [tieA t a]) (by omega) (by omega) (by omega) (by rw [List.length_append, List.length_singleton]; omega)
      unfold tiesA
      rw [List.append_assoc, List.singleton_append] at this
      rw [show ((k + 1 : Nat) : Int) - 1 = (k : Int) by omega, show a + 22 * (k + 1) = a + 22 + 22 * k by omega]
      exact this
theorem sloop7 (x59 : SPhases × SL10Eyes) (A : List SBus) (B : List STie) : ∀ (m k a : Nat) (bs : List SBus), k < m → k ≤ 255 → a + 46 * k ≤ t.length → bs.length + k ≤ 255 →
    m_spec_l10Begin_l7 n t x59 m A B bs t (a : Int) true (k : Int) = m_spec_l10Begin_j2 n t x59 A B (bs ++ busesA t a k) t ((a + 46 * k : Nat) : Int) true
  | 0, k, a, bs, h, _, _, _ => by omega
  | m + 1, k, a, bs, h, hk', ha, hl => by
    unfold m_spec_l10Begin_l7 m_spec_l10Begin_j9
    by_cases hk : k = 0
    · subst hk
      rw [if_neg (by omega), if_neg (by decide)]
      unfold busesA
      rw [List.append_nil]
      rfl
    · obtain ⟨k, rfl⟩ : ∃ j, k = j + 1 := ⟨k - 1, by omega⟩
      rw [if_pos (by omega), if_pos rfl]
      unfold m_spec_l10Begin_j8
      rw [sbus_some (by omega) ht a true (by omega), Option.bind_some]
      unfold grd
      rw [if_pos (by unfold room; omega), w64_id (by omega) (by omega)]
      have := sloop7 x59 A B m k (a + 46) (bs ++ [busA t a]) (by omega) (by omega) (by omega) (by rw [List.length_append, List.length_singleton]; omega)
      unfold busesA
      rw [List.append_assoc, List.singleton_append] at this
      rw [show ((k + 1 : Nat) : Int) - 1 = (k : Int) by omega, show a + 46 * (k + 1) = a + 46 + 46 * k by omega]
      exact this
end
end Go.Proofs.Ytmllgpkgjniomaa.AWN

namespace Go.Proofs.Ytmllgpkgjniomaa.AWN
open Go
section
variable {n : Nat} (hn : 300 ≤ n) (t : Str) (ht : t.length ≤ 1099511627776)
include hn ht
/-- From a place where it is not fine, or where there is not enough, the loop over ties ends with 'no'. -/
theorem ishort5 (x49 : SPhases × SReader) (bs : List SBus) (x : Int × SReader) (hx : x.1 ≤ 255) : ∀ (m j a : Nat) (f : Bool) (ts : List STie), 260 - j ≤ m → j ≤ 260 → a ≤ t.length → ts.length = j → (f = false ∨ ∃ k : Nat, x.1 = ((j + k : Nat) : Int) ∧ t.length < a + 22 * k) →
    m_impl_loadGrid_l5 n t x49 bs x (m + 1) t (a : Int) (!f) ts (j : Int) = some (noGrid, 0, false)
  | m, j, a, f, ts, h, hj, ha, hl, hf => by
    have stop : ¬ ((j : Int) < x.1) → m_impl_loadGrid_l5 n t x49 bs x (m + 1) t (a : Int) (!f) ts (j : Int) = some (noGrid, 0, false) := fun hlt => by
      have hf' : f = false := by
        rcases hf with hf | ⟨k, h1, h2⟩
        · exact hf
        · have : k = 0 := by omega
          subst this; omega
      subst hf'
      unfold m_impl_loadGrid_l5
      rw [if_neg hlt]
      rfl
    by_cases hlt : (j : Int) < x.1
    · cases m with
      | zero => omega
      | succ m =>
        obtain ⟨c, a', f', e, la, p, q, r⟩ := itie_tot (by omega : 6 ≤ n) t ht a f ha
        have e : m_impl_reader_tie n ⟨t, a, !f⟩ = some (c, ⟨t, a', !f'⟩) := e
        unfold m_impl_loadGrid_l5
        rw [if_pos hlt, e, Option.bind_some]
        unfold grd
        rw [if_pos (by unfold room; omega), w64_id (by omega) (by omega)]
        refine ishort5 x49 bs x hx m (j + 1) a' f' (ts ++ [c]) (by omega) (by omega) la (by rw [List.length_append, List.length_singleton]; omega) ?_
        cases f' with
        | false => exact .inl rfl
        | true =>
          right
          rcases hf with hf | ⟨k, h1, h2⟩
          · have := r hf; cases this
          · have hft : f = true := by
              cases f with
              | true => rfl
              | false => have := r rfl; cases this
            have hen : a + 22 ≤ t.length := by
              rcases Nat.lt_or_ge t.length (a + 22) with h' | h'
              · have := q h'; cases this
              · exact h'
            obtain ⟨g1, _⟩ := p hft hen
            obtain ⟨k, rfl⟩ : ∃ i, k = i + 1 := ⟨k - 1, by omega⟩
            exact ⟨k, by omega, by omega⟩
    · exact stop hlt
  termination_by m => m
theorem ij1_short (x49 : SPhases × SReader) (A : List SBus) (B : List STie) (a : Nat) (bs : List SBus) (ha : a ≤ t.length) : m_impl_loadGrid_j1 n t x49 A B t (a : Int) true bs ([] : List STie) = some (noGrid, 0, false) := by
  unfold m_impl_loadGrid_j1
  have e : m_impl_reader_number n ⟨t, a, true⟩ (1 : Int) = some (0, ⟨t, a, true⟩) := rfl
  rw [e, Option.bind_some]
  obtain ⟨m, rfl⟩ : ∃ m, n = m + 1 := ⟨n - 1, by omega⟩
  have := ishort5 hn t ht x49 bs (0, ⟨t, a, true⟩) (by show (0 : Int) ≤ 255; decide) m 0 a false [] (by omega) (by omega) ha rfl (.inl rfl)
  exact this
theorem ishort6 (x49 : SPhases × SReader) (A : List SBus) (B : List STie) (x : Int × SReader) (hx : x.1 ≤ 255) : ∀ (m j a : Nat) (f : Bool) (bs : List SBus), 260 - j ≤ m → j ≤ 260 → a ≤ t.length → bs.length = j → (f = false ∨ ∃ k : Nat, x.1 = ((j + k : Nat) : Int) ∧ t.length < a + 46 * k) →
    m_impl_loadGrid_l6 n t x49 x (m + 1) A B t (a : Int) (!f) bs ([] : List STie) (j : Int) = some (noGrid, 0, false)
  | m, j, a, f, bs, h, hj, ha, hl, hf => by
    have stop : ¬ ((j : Int) < x.1) → m_impl_loadGrid_l6 n t x49 x (m + 1) A B t (a : Int) (!f) bs ([] : List STie) (j : Int) = some (noGrid, 0, false) := fun hlt => by
      have hf' : f = false := by
        rcases hf with hf | ⟨k, h1, h2⟩
        · exact hf
        · have : k = 0 := by omega
          subst this; omega
      subst hf'
      unfold m_impl_loadGrid_l6
      rw [if_neg hlt]
      exact ij1_short hn t ht x49 A B a bs ha
    by_cases hlt : (j : Int) < x.1
    · cases m with
      | zero => omega
      | succ m =>
        obtain ⟨c, a', f', e, la, p, q, r⟩ := ibus_tot (by omega : 6 ≤ n) t ht a f ha
        have e : m_impl_reader_bus n ⟨t, a, !f⟩ = some (c, ⟨t, a', !f'⟩) := e
        unfold m_impl_loadGrid_l6
        rw [if_pos hlt, e, Option.bind_some]
        unfold grd
        rw [if_pos (by unfold room; omega), w64_id (by omega) (by omega)]
        refine ishort6 x49 A B x hx m (j + 1) a' f' (bs ++ [c]) (by omega) (by omega) la (by rw [List.length_append, List.length_singleton]; omega) ?_
        cases f' with
        | false => exact .inl rfl
        | true =>
          right
          rcases hf with hf | ⟨k, h1, h2⟩
          · have := r hf; cases this
          · have hft : f = true := by
              cases f with
              | true => rfl
              | false => have := r rfl; cases this
            have hen : a + 46 ≤ t.length := by
              rcases Nat.lt_or_ge t.length (a + 46) with h' | h'
              · have := q h'; cases this
              · exact h'
            obtain ⟨g1, _⟩ := p hft hen
            obtain ⟨k, rfl⟩ : ∃ i, k = i + 1 := ⟨k - 1, by omega⟩
            exact ⟨k, by omega, by omega⟩
    · exact stop hlt
  termination_by m => m
end
end Go.Proofs.Ytmllgpkgjniomaa.AWN

namespace Go.Proofs.Ytmllgpkgjniomaa.AWN
open Go
/-- The reference says no. -/
def SaysNo (r : Option (SGrid × Int × Bool)) : Prop := ∃ g e, r = some (g, e, false)
section
variable {n : Nat} (hn : 300 ≤ n) (t : Str) (ht : t.length ≤ 1099511627776)
include hn ht
omit hn ht in
theorem sj3_no (x59 : SPhases × SL10Eyes) (bs : List SBus) (ts : List STie) (a : Int) : SaysNo (m_spec_l10Begin_j3 n t x59 bs ts t a false) := ⟨_, _, rfl⟩
theorem sshort4 (x59 : SPhases × SL10Eyes) (bs : List SBus) : ∀ (m k a : Nat) (f : Bool) (ts : List STie), k < m → k ≤ 255 → a ≤ t.length → ts.length + k ≤ 255 → (f = false ∨ t.length < a + 22 * k) →
    SaysNo (m_spec_l10Begin_l4 n t x59 bs m ts t (a : Int) f (k : Int))
  | 0, k, a, f, ts, h, _, _, _, _ => by omega
  | m + 1, k, a, f, ts, h, hk', ha, hl, hf => by
    unfold m_spec_l10Begin_l4 m_spec_l10Begin_j6
    by_cases hk : k = 0
    · subst hk
      have hf' : f = false := by
        rcases hf with hf | h2
        · exact hf
        · omega
      subst hf'
      rw [if_neg (by omega), if_neg (by decide)]
      exact sj3_no t x59 bs ts a
    · obtain ⟨k, rfl⟩ : ∃ j, k = j + 1 := ⟨k - 1, by omega⟩
      rw [if_pos (by omega)]
      cases f with
      | false =>
        rw [if_neg (by decide)]
        exact sj3_no t x59 bs ts a
      | true =>
        rw [if_pos rfl]
        unfold m_spec_l10Begin_j5
        obtain ⟨c, a', f', e, la, p, q, r⟩ := stie_tot (by omega : 6 ≤ n) t ht a true ha
        have e : m_spec_l10Eyes_tie n ⟨t, a, true⟩ = some (c, ⟨t, a', f'⟩) := e
        rw [e, Option.bind_some]
        unfold grd
        rw [if_pos (by unfold room; omega), w64_id (by omega) (by omega), show ((k + 1 : Nat) : Int) - 1 = (k : Int) by omega]
        refine sshort4 x59 bs m k a' f' (ts ++ [c]) (by omega) (by omega) la (by rw [List.length_append, List.length_singleton]; omega) ?_
        cases f' with
        | false => exact .inl rfl
        | true =>
          right
          have hen : a + 22 ≤ t.length := by
            rcases Nat.lt_or_ge t.length (a + 22) with h' | h'
            · have := q h'; cases this
            · exact h'
          obtain ⟨g1, _⟩ := p rfl hen
          rcases hf with hf | h2
          · cases hf
          · omega
theorem sj2_no (x59 : SPhases × SL10Eyes) (A : List SBus) (B : List STie) (bs : List SBus) (a : Nat) (ha : a ≤ t.length) : SaysNo (m_spec_l10Begin_j2 n t x59 A B bs t (a : Int) false) := by
  unfold m_spec_l10Begin_j2
  by_cases h : a + 1 ≤ t.length
  · have hv := vd_lt t a 1 0 (by omega) (by decide)
    have hw := word_some (n := n) (by omega) t a 1 false h (by omega) ht
    rw [show m_spec_l10Eyes_word n ⟨t, a, false⟩ (1 : Int) = some (((vd t a 0 1 : Nat) : Int), ⟨t, ((a + 1 : Nat) : Int), false⟩) from hw, Option.bind_some]
    have hb : vd t a 0 1 ≤ 255 := by
      have h8 : (t.getD (a + 0) 0).toNat < 256 := (t.getD (a + 0) 0).toNat_lt
      have e : vd t a 0 1 = 0 * 256 + (t.getD (a + 0) 0).toNat := by simp only [vd]
      rw [e]
      rw [Nat.zero_mul, Nat.zero_add]
      exact Nat.le_of_lt_succ h8
    exact sshort4 hn t ht x59 bs n (vd t a 0 1) (a + 1) false [] (by omega) hb h (by simp; omega) (.inl rfl)
  · obtain ⟨c, a', f', e, la, p, q, r⟩ := sword_tot (by omega : 6 ≤ n) t ht 1 (by omega) a false ha
    have e2 : m_spec_l10Eyes_word n ⟨t, a, false⟩ (1 : Int) = some (0, ⟨t, a, false⟩) := by
      unfold m_spec_l10Eyes_word
      dsimp only
      rw [if_pos (by rw [w64_id (by omega) (by omega)]; omega)]
    rw [e2, Option.bind_some]
    exact sshort4 hn t ht x59 bs n 0 a false [] (by omega) (by omega) ha (by simp) (.inl rfl)
theorem sshort7 (x59 : SPhases × SL10Eyes) (A : List SBus) (B : List STie) : ∀ (m k a : Nat) (f : Bool) (bs : List SBus), k < m → k ≤ 255 → a ≤ t.length → bs.length + k ≤ 255 → (f = false ∨ t.length < a + 46 * k) →
    SaysNo (m_spec_l10Begin_l7 n t x59 m A B bs t (a : Int) f (k : Int))
  | 0, k, a, f, bs, h, _, _, _, _ => by omega
  | m + 1, k, a, f, bs, h, hk', ha, hl, hf => by
    unfold m_spec_l10Begin_l7 m_spec_l10Begin_j9
    by_cases hk : k = 0
    · subst hk
      have hf' : f = false := by
        rcases hf with hf | h2
        · exact hf
        · omega
      subst hf'
      rw [if_neg (by omega), if_neg (by decide)]
      exact sj2_no hn t ht x59 A B bs a ha
    · obtain ⟨k, rfl⟩ : ∃ j, k = j + 1 := ⟨k - 1, by omega⟩
      rw [if_pos (by omega)]
      cases f with
      | false =>
        rw [if_neg (by decide)]
        exact sj2_no hn t ht x59 A B bs a ha
      | true =>
        rw [if_pos rfl]
        unfold m_spec_l10Begin_j8
        obtain ⟨c, a', f', e, la, p, q, r⟩ := sbus_tot (by omega : 6 ≤ n) t ht a true ha
        have e : m_spec_l10Eyes_bus n ⟨t, a, true⟩ = some (c, ⟨t, a', f'⟩) := e
        rw [e, Option.bind_some]
        unfold grd
        rw [if_pos (by unfold room; omega), w64_id (by omega) (by omega), show ((k + 1 : Nat) : Int) - 1 = (k : Int) by omega]
        refine sshort7 x59 A B m k a' f' (bs ++ [c]) (by omega) (by omega) la (by rw [List.length_append, List.length_singleton]; omega) ?_
        cases f' with
        | false => exact .inl rfl
        | true =>
          right
          have hen : a + 46 ≤ t.length := by
            rcases Nat.lt_or_ge t.length (a + 46) with h' | h'
            · have := q h'; cases this
            · exact h'
          obtain ⟨g1, _⟩ := p rfl hen
          rcases hf with hf | h2
          · cases hf
          · omega
end
end Go.Proofs.Ytmllgpkgjniomaa.AWN

namespace Go.Proofs.Ytmllgpkgjniomaa.AWN
open Go
structure GOk (g : SGrid) : Prop where
  wd : WdG g
  v : gridV g = true
theorem GOk.few {g : SGrid} (h : GOk g) : 1 ≤ g.Feeder.Buses.length ∧ g.Feeder.Buses.length ≤ 16 ∧ g.Ties.length ≤ 6 := by
  have h1 := h.v
  unfold gridV at h1
  simp only [Bool.and_eq_true, decide_eq_true_eq] at h1
  exact ⟨h1.1.1.1, h1.1.1.2, h1.2.1⟩
/-- Both say no, or both give one grid and one place. -/
def Begins (n : Nat) (t : Str) : Prop := (m_impl_loadGrid n t = some (noGrid, 0, false) ∧ SaysNo (m_spec_l10Begin n t)) ∨ ∃ (g : SGrid) (a : Nat), GOk g ∧ a ≤ t.length ∧ headB g = sub t 0 (a : Int) ∧ m_impl_loadGrid n t = some (g, (a : Int), true) ∧ m_spec_l10Begin n t = some (g, (a : Int), true)
theorem vd1_le (t : Str) (a : Nat) : vd t a 0 1 ≤ 255 := by
  have h8 : (t.getD (a + 0) 0).toNat < 256 := (t.getD (a + 0) 0).toNat_lt
  have e : vd t a 0 1 = 0 * 256 + (t.getD (a + 0) 0).toNat := by simp only [vd]
  rw [e, Nat.zero_mul, Nat.zero_add]
  exact Nat.le_of_lt_succ h8
theorem busesA_mem {t : Str} : ∀ {k a : Nat} {b : SBus}, b ∈ busesA t a k → ∃ j, b = busA t j
  | 0, _, _, h => nomatch h
  | k + 1, a, b, h => by
    unfold busesA at h
    rcases List.mem_cons.1 h with rfl | h
    · exact ⟨_, rfl⟩
    · exact busesA_mem h
theorem tiesA_mem {t : Str} : ∀ {k a : Nat} {b : STie}, b ∈ tiesA t a k → ∃ j, b = tieA t j
  | 0, _, _, h => nomatch h
  | k + 1, a, b, h => by
    unfold tiesA at h
    rcases List.mem_cons.1 h with rfl | h
    · exact ⟨_, rfl⟩
    · exact tiesA_mem h
theorem wd_read (t : Str) (a b c k j : Nat) : WdG ⟨⟨phA t a, busesA t b k⟩, tiesA t c j⟩ :=
  ⟨phA_ok t a, fun x hx => by obtain ⟨i, rfl⟩ := busesA_mem hx; exact ⟨⟨flA_lt _ _, flA_lt _ _⟩, ⟨flA_lt _ _, flA_lt _ _⟩, phA_ok _ _⟩,
    fun x hx => by obtain ⟨i, rfl⟩ := tiesA_mem hx; exact ⟨⟨flA_lt _ _, flA_lt _ _⟩, ⟨flA_lt _ _, flA_lt _ _⟩⟩⟩
section
variable {n : Nat} (hn : 300 ≤ n) (t : Str) (ht : t.length ≤ 1099511627776)
include hn ht
/-- Where there was enough: the program's end. -/
theorem ij2_is (x49 : SPhases × SReader) (bs : List SBus) (ts : List STie) (a : Nat) (ha : a ≤ t.length) (hb : bs.length ≤ 255) (hs : ts.length ≤ 255) (w : WdG ⟨⟨x49.1, bs⟩, ts⟩) :
    m_impl_loadGrid_j2 n t x49 bs t (a : Int) false ts = if gridV ⟨⟨x49.1, bs⟩, ts⟩ = true ∧ headB ⟨⟨x49.1, bs⟩, ts⟩ = sub t 0 (a : Int) then some (⟨⟨x49.1, bs⟩, ts⟩, (a : Int), true) else some (noGrid, 0, false) := by
  unfold m_impl_loadGrid_j2
  rw [if_neg (by decide), is_impl hn _ hb hs, Option.bind_some]
  by_cases h : gridV ⟨⟨x49.1, bs⟩, ts⟩ = true
  · rw [if_pos h]
    unfold grd
    rw [if_pos (by omega), (stored_same hn h w).1, Option.bind_some]
    unfold m_impl_loadGrid_j4
    by_cases he : headB ⟨⟨x49.1, bs⟩, ts⟩ = sub t 0 (a : Int)
    · rw [decide_eq_true he, if_neg (by decide), if_pos ⟨h, he⟩]
      rfl
    · rw [decide_eq_false he, if_pos (by decide), if_neg (fun h' => he h'.2)]
      rfl
  · rw [if_neg h, if_neg (fun h' => h h'.1)]
    rfl
/-- Where there was enough: the reference's end. -/
theorem sj3_is (x59 : SPhases × SL10Eyes) (bs : List SBus) (ts : List STie) (a : Nat) (ha : a ≤ t.length) (hb : bs.length ≤ 255) (hs : ts.length ≤ 255) (w : WdG ⟨⟨x59.1, bs⟩, ts⟩) :
    m_spec_l10Begin_j3 n t x59 bs ts t (a : Int) true = some (⟨⟨x59.1, bs⟩, ts⟩, (a : Int), decide (gridV ⟨⟨x59.1, bs⟩, ts⟩ = true ∧ headB ⟨⟨x59.1, bs⟩, ts⟩ = sub t 0 (a : Int))) := by
  unfold m_spec_l10Begin_j3
  rw [if_pos (by decide), is_spec hn _ hb hs, Option.bind_some]
  by_cases h : gridV ⟨⟨x59.1, bs⟩, ts⟩ = true
  · rw [if_pos h]
    unfold grd
    rw [if_pos (by omega), (stored_same hn h w).2, Option.bind_some]
    congr 3
    rw [decide_eq_decide]
    exact ⟨fun h' => ⟨h, h'⟩, fun h' => h'.2⟩
  · rw [if_neg h, decide_eq_false (fun h' => h h'.1)]
theorem inum_short (a : Nat) (h : t.length < a + 1) (ha : a ≤ t.length) : m_impl_reader_number n ⟨t, a, false⟩ (1 : Int) = some (0, ⟨t, a, true⟩) := by
  unfold m_impl_reader_number
  dsimp only
  rw [if_neg (by decide), w64_id (by omega) (by omega), decide_eq_true (by omega)]
  rfl
theorem sword_short (a : Nat) (f : Bool) (h : t.length < a + 1) (ha : a ≤ t.length) : m_spec_l10Eyes_word n ⟨t, a, f⟩ (1 : Int) = some (0, ⟨t, a, false⟩) := by
  unfold m_spec_l10Eyes_word
  dsimp only
  rw [if_pos (by rw [w64_id (by omega) (by omega)]; omega)]
/-- The program behind its mark. -/
def iFrom (n : Nat) (t : Str) : Option (SGrid × Int × Bool) := (m_impl_reader_phases n (SReader.mk t (4 : Int) false)).bind fun x49 =>
    (m_impl_reader_number n x49.2 (1 : Int)).bind fun x141 =>
    m_impl_loadGrid_l6 n t x49 x141 n ([] : List SBus) ([] : List STie) x141.2.s x141.2.at_ x141.2.short ([] : List SBus) ([] : List STie) (0 : Int)
def BeginsAt (n : Nat) (t : Str) : Prop := (iFrom n t = some (noGrid, 0, false) ∧ SaysNo (m_spec_l10Begin_j1 n t)) ∨ ∃ (g : SGrid) (a : Nat), GOk g ∧ a ≤ t.length ∧ headB g = sub t 0 (a : Int) ∧ iFrom n t = some (g, (a : Int), true) ∧ m_spec_l10Begin_j1 n t = some (g, (a : Int), true)
theorem begins_28 (h4 : 4 ≤ t.length) (h : t.length < 28) : BeginsAt n t := by
  left
  obtain ⟨m, rfl⟩ : ∃ m, n = m + 1 := ⟨n - 1, by omega⟩
  constructor
  · unfold iFrom
    obtain ⟨c, a', f', e, la, p, q, r⟩ := iph_tot (n := m + 1) (by omega) t ht 4 true h4
    have hf := q (by omega)
    subst hf
    have e : m_impl_reader_phases (m + 1) ⟨t, (4 : Nat), false⟩ = some (c, ⟨t, a', true⟩) := e
    rw [show (4 : Int) = ((4 : Nat) : Int) from rfl, e, Option.bind_some]
    dsimp only
    have e2 : m_impl_reader_number (m + 1) ⟨t, a', true⟩ (1 : Int) = some (0, ⟨t, a', true⟩) := rfl
    rw [e2, Option.bind_some]
    exact ishort6 hn t ht _ _ _ (0, ⟨t, a', true⟩) (by show (0 : Int) ≤ 255; decide) m 0 a' false [] (by omega) (by omega) la rfl (.inl rfl)
  · unfold m_spec_l10Begin_j1
    obtain ⟨c, a', f', e, la, p, q, r⟩ := sph_tot (n := m + 1) (by omega) t ht 4 true h4
    have hf := q (by omega)
    subst hf
    have e : m_spec_l10Eyes_phases (m + 1) ⟨t, (4 : Nat), true⟩ = some (c, ⟨t, a', false⟩) := e
    rw [show (4 : Int) = ((4 : Nat) : Int) from rfl, e, Option.bind_some]
    dsimp only
    by_cases h1 : a' + 1 ≤ t.length
    · rw [show m_spec_l10Eyes_word (m + 1) ⟨t, a', false⟩ (1 : Int) = some (((vd t a' 0 1 : Nat) : Int), ⟨t, ((a' + 1 : Nat) : Int), false⟩) from word_some (by omega) t a' 1 false h1 (by omega) ht, Option.bind_some]
      exact sshort7 hn t ht _ _ _ (m + 1) (vd t a' 0 1) (a' + 1) false [] (by have := vd1_le t a'; omega) (vd1_le t a') h1 (by have := vd1_le t a'; simp; omega) (.inl rfl)
    · rw [sword_short hn t ht a' false (by omega) la, Option.bind_some]
      exact sshort7 hn t ht _ _ _ (m + 1) 0 a' false [] (by omega) (by omega) la (by simp) (.inl rfl)
theorem begins_at (h4 : 4 ≤ t.length) : BeginsAt n t := by
  by_cases h : t.length < 28
  · exact begins_28 hn t ht h4 h
  have eI : m_impl_reader_phases n ⟨t, (4 : Nat), false⟩ = some (phA t 4, ⟨t, ((28 : Nat) : Int), false⟩) := iph_some (by omega) t ht 4 (by omega)
  have eS : m_spec_l10Eyes_phases n ⟨t, (4 : Nat), true⟩ = some (phA t 4, ⟨t, ((28 : Nat) : Int), true⟩) := cph_some (by omega) t ht 4 true (by omega)
  unfold BeginsAt iFrom m_spec_l10Begin_j1
  rw [show (4 : Int) = ((4 : Nat) : Int) from rfl, eI, eS, Option.bind_some, Option.bind_some]
  dsimp only
  obtain ⟨m, rfl⟩ : ∃ m, n = m + 1 := ⟨n - 1, by omega⟩
  by_cases h28 : t.length < 29
  · left
    rw [inum_short hn t ht 28 h28 (by omega), sword_short hn t ht 28 true h28 (by omega), Option.bind_some, Option.bind_some]
    exact ⟨ishort6 hn t ht _ _ _ (0, _) (by show (0 : Int) ≤ 255; decide) m 0 28 false [] (by omega) (by omega) (by omega) rfl (.inl rfl), sshort7 hn t ht _ _ _ (m + 1) 0 28 false [] (by omega) (by omega) (by omega) (by simp) (.inl rfl)⟩
  have n1 : m_impl_reader_number (m + 1) ⟨t, ((28 : Nat) : Int), false⟩ (1 : Int) = some (((vd t 28 0 1 : Nat) : Int), ⟨t, ((29 : Nat) : Int), false⟩) := number_some (by omega) t 28 1 (by omega) (by omega) ht
  have w1 : m_spec_l10Eyes_word (m + 1) ⟨t, ((28 : Nat) : Int), true⟩ (1 : Int) = some (((vd t 28 0 1 : Nat) : Int), ⟨t, ((29 : Nat) : Int), true⟩) := word_some (by omega) t 28 1 true (by omega) (by omega) ht
  rw [n1, w1, Option.bind_some, Option.bind_some]
  dsimp only
  have hb := vd1_le t 28
  generalize vd t 28 0 1 = nb at hb n1 w1 ⊢
  by_cases h29 : t.length < 29 + 46 * nb
  · left
    exact ⟨ishort6 hn t ht _ _ _ (((nb : Nat) : Int), _) (by show ((nb : Nat) : Int) ≤ 255; omega) m 0 29 true [] (by omega) (by omega) (by omega) rfl (.inr ⟨nb, by simp, h29⟩), sshort7 hn t ht _ _ _ (m + 1) nb 29 true [] (by omega) hb (by omega) (by simpa using hb) (.inr h29)⟩
  have i6 := iloop6 hn t ht (phA t 4, ⟨t, ((28 : Nat) : Int), false⟩) nb hb (((nb : Nat) : Int), ⟨t, ((29 : Nat) : Int), false⟩) rfl [] [] [] (m + 1) 0 29 [] (by omega) (by omega) (by omega) rfl
  have s7 := sloop7 hn t ht (phA t 4, ⟨t, ((28 : Nat) : Int), true⟩) [] [] (m + 1) nb 29 [] (by omega) hb (by omega) (by simpa using hb)
  rw [Nat.sub_zero, List.nil_append] at i6
  rw [List.nil_append] at s7
  rw [show ((0 : Nat) : Int) = 0 from rfl] at i6
  rw [i6, s7]
  have lB := busesA_len t nb 29
  obtain ⟨a1, ea⟩ : ∃ a1, 29 + 46 * nb = a1 := ⟨_, rfl⟩
  rw [ea]
  unfold m_impl_loadGrid_j1 m_spec_l10Begin_j2
  by_cases hA : t.length < a1 + 1
  · left
    rw [inum_short hn t ht a1 hA (by omega), sword_short hn t ht a1 true hA (by omega), Option.bind_some, Option.bind_some]
    exact ⟨ishort5 hn t ht _ _ (0, _) (by show (0 : Int) ≤ 255; decide) m 0 a1 false [] (by omega) (by omega) (by omega) rfl (.inl rfl), sshort4 hn t ht _ _ (m + 1) 0 a1 false [] (by omega) (by omega) (by omega) (by simp) (.inl rfl)⟩
  have n2 : m_impl_reader_number (m + 1) ⟨t, (a1 : Int), false⟩ (1 : Int) = some (((vd t a1 0 1 : Nat) : Int), ⟨t, ((a1 + 1 : Nat) : Int), false⟩) := number_some (by omega) t a1 1 (by omega) (by omega) ht
  have w2 : m_spec_l10Eyes_word (m + 1) ⟨t, (a1 : Int), true⟩ (1 : Int) = some (((vd t a1 0 1 : Nat) : Int), ⟨t, ((a1 + 1 : Nat) : Int), true⟩) := word_some (by omega) t a1 1 true (by omega) (by omega) ht
  rw [n2, w2, Option.bind_some, Option.bind_some]
  dsimp only
  have hc := vd1_le t a1
  generalize vd t a1 0 1 = nt at hc n2 w2 ⊢
  by_cases hT : t.length < a1 + 1 + 22 * nt
  · left
    exact ⟨ishort5 hn t ht _ _ (((nt : Nat) : Int), _) (by show ((nt : Nat) : Int) ≤ 255; omega) m 0 (a1 + 1) true [] (by omega) (by omega) (by omega) rfl (.inr ⟨nt, by simp, hT⟩), sshort4 hn t ht _ _ (m + 1) nt (a1 + 1) true [] (by omega) hc (by omega) (by simpa using hc) (.inr hT)⟩
  have i5 := iloop5 hn t ht (phA t 4, ⟨t, ((28 : Nat) : Int), false⟩) (busesA t 29 nb) nt hc (((nt : Nat) : Int), ⟨t, ((a1 + 1 : Nat) : Int), false⟩) rfl (m + 1) 0 (a1 + 1) [] (by omega) (by omega) (by omega) rfl
  have s4 := sloop4 hn t ht (phA t 4, ⟨t, ((28 : Nat) : Int), true⟩) (busesA t 29 nb) (m + 1) nt (a1 + 1) [] (by omega) hc (by omega) (by simpa using hc)
  rw [Nat.sub_zero, List.nil_append] at i5
  rw [List.nil_append] at s4
  rw [show ((0 : Nat) : Int) = 0 from rfl] at i5
  rw [i5, s4]
  have lT := tiesA_len t nt (a1 + 1)
  have hw := wd_read t 4 29 (a1 + 1) nb nt
  rw [ij2_is hn t ht (phA t 4, ⟨t, ((28 : Nat) : Int), false⟩) _ _ _ (by omega) (by omega) (by omega) hw, sj3_is hn t ht (phA t 4, ⟨t, ((28 : Nat) : Int), true⟩) _ _ _ (by omega) (by omega) (by omega) hw]
  dsimp only
  by_cases hG : gridV ⟨⟨phA t 4, busesA t 29 nb⟩, tiesA t (a1 + 1) nt⟩ = true ∧ headB ⟨⟨phA t 4, busesA t 29 nb⟩, tiesA t (a1 + 1) nt⟩ = sub t 0 ((a1 + 1 + 22 * nt : Nat) : Int)
  · right
    rw [if_pos hG, decide_eq_true hG]
    exact ⟨_, _, ⟨hw, hG.1⟩, by omega, hG.2, rfl, rfl⟩
  · left
    rw [if_neg hG, decide_eq_false hG]
    exact ⟨rfl, _, _, rfl⟩
theorem begins : Begins n t := by
  unfold Begins m_impl_loadGrid m_spec_l10Begin m_strings_HasPrefix m_stringslite_HasPrefix
  dsimp only [List.length_cons, List.length_nil]
  by_cases h4 : (t.length : Int) < 4
  · rw [if_pos h4, if_neg (by omega)]
    left
    exact ⟨rfl, _, _, rfl⟩
  · rw [if_neg h4, if_pos (by omega)]
    unfold grd
    rw [if_pos (by omega), if_pos (by omega)]
    by_cases hp : sub t 0 4 = ([70, 68, 82, 49] : Str)
    · have hp' : sub t 0 ((0 + 1 + 1 + 1 + 1 : Nat) : Int) = ([70, 68, 82, 49] : Str) := hp
      rw [decide_eq_true hp', decide_eq_true hp]
      exact begins_at hn t ht (by omega)
    · have hp' : ¬ sub t 0 ((0 + 1 + 1 + 1 + 1 : Nat) : Int) = ([70, 68, 82, 49] : Str) := hp
      rw [decide_eq_false hp', decide_eq_false hp]
      left
      exact ⟨rfl, _, _, rfl⟩
end
end Go.Proofs.Ytmllgpkgjniomaa.AWN

namespace Go.Proofs.Ytmllgpkgjniomaa.AWN
open Go
def mkOk (k : Nat) : Bool := match fconv .f64 .f32 (FloatKind.nearest .f64 (k : Int)) with
  | some x => fcmp .eql .f32 x x
  | none => false
theorem mk_all : ((List.range 400).all mkOk) = true := by kernel_rfl
theorem one_ok : (match fconv .f64 .f32 4607182418800017408 with | some x => fcmp .eql .f32 x x | none => false) = true := by kernel_rfl
def mkV (k : Nat) : Nat := (fconv .f64 .f32 (FloatKind.nearest .f64 (k : Int))).getD 0
def oneV : Nat := (fconv .f64 .f32 4607182418800017408).getD 0
theorem mk_fact {k : Nat} (h : k < 400) : fconv .f64 .f32 (FloatKind.nearest .f64 (k : Int)) = some (mkV k) ∧ fcmp .eql .f32 (mkV k) (mkV k) = true := by
  have := List.all_eq_true.1 mk_all k (List.mem_range.2 h)
  unfold mkOk at this
  unfold mkV
  cases hc : fconv .f64 .f32 (FloatKind.nearest .f64 (k : Int)) with
  | some x => rw [hc] at this; exact ⟨rfl, this⟩
  | none => rw [hc] at this; cases this
theorem one_fact : fconv .f64 .f32 4607182418800017408 = some oneV ∧ fcmp .eql .f32 oneV oneV = true := by
  have := one_ok
  unfold oneV
  cases hc : fconv .f64 .f32 4607182418800017408 with
  | some x => rw [hc] at this; exact ⟨rfl, this⟩
  | none => rw [hc] at this; cases this
/-- The bus, the tie that bears the marks from 'k' on. -/
def mkBus (k : Nat) : SBus := ⟨(k : Int), ⟨mkV (k + 1), oneV⟩, ⟨mkV (k + 2), oneV⟩, ((k + 3 : Nat) : Int), ⟨⟨mkV (k + 4), oneV⟩, ⟨mkV (k + 5), oneV⟩, ⟨mkV (k + 6), oneV⟩⟩, ((k + 7 : Nat) : Int)⟩
def mkTie (k : Nat) : STie := ⟨(k : Int), ((k + 1 : Nat) : Int), ⟨mkV (k + 2), oneV⟩, ⟨mkV (k + 3), oneV⟩, ((k + 4 : Nat) : Int)⟩
theorem held_Bus_l1 (n : Nat) (a : List SBus) (ha : a.length ≤ 16) (s : Nat) (hs : s ≤ 200) (hp : ∀ j, j < a.length → a[j]? = some (mkBus (s + 8 * j))) : ∀ (m i : Nat), i ≤ a.length → a.length - i < m →
    m_laws_heldBusS_l1 n a m ((s + 8 * i : Nat) : Int) (i : Int) = some ((s + 8 * a.length : Nat) : Int)
  | 0, i, _, h => by omega
  | m + 1, i, hi, hm => by
    unfold m_laws_heldBusS_l1
    by_cases h : i < a.length
    · have e : a[i] = mkBus (s + 8 * i) := by
        have := hp i h
        rw [List.getElem?_eq_getElem h] at this
        exact Option.some.inj this
      have w1 : w64 (((s + 8 * i : Nat) : Int) + 1) = ((s + 8 * i + 1 : Nat) : Int) := by rw [w64_id (by omega) (by omega)]; omega
      have w2 : w64 (((s + 8 * i + 1 : Nat) : Int) + 1) = ((s + 8 * i + 2 : Nat) : Int) := by rw [w64_id (by omega) (by omega)]; omega
      have w3 : w64 (((s + 8 * i + 2 : Nat) : Int) + 1) = ((s + 8 * i + 3 : Nat) : Int) := by rw [w64_id (by omega) (by omega)]; omega
      have w4 : w64 (((s + 8 * i + 3 : Nat) : Int) + 1) = ((s + 8 * i + 4 : Nat) : Int) := by rw [w64_id (by omega) (by omega)]; omega
      have w5 : w64 (((s + 8 * i + 4 : Nat) : Int) + 1) = ((s + 8 * i + 5 : Nat) : Int) := by rw [w64_id (by omega) (by omega)]; omega
      have w6 : w64 (((s + 8 * i + 5 : Nat) : Int) + 1) = ((s + 8 * i + 6 : Nat) : Int) := by rw [w64_id (by omega) (by omega)]; omega
      have w7 : w64 (((s + 8 * i + 6 : Nat) : Int) + 1) = ((s + 8 * i + 7 : Nat) : Int) := by rw [w64_id (by omega) (by omega)]; omega
      have w8 : w64 (((s + 8 * i + 7 : Nat) : Int) + 1) = ((s + 8 * (i + 1) : Nat) : Int) := by rw [w64_id (by omega) (by omega)]; omega
      have wi : w64 ((i : Int) + 1) = ((i + 1 : Nat) : Int) := by rw [w64_id (by omega) (by omega)]; omega
      have o1 := mk_fact (k := s + 8 * i + 1) (by omega)
      have o2 := mk_fact (k := s + 8 * i + 2) (by omega)
      have o4 := mk_fact (k := s + 8 * i + 4) (by omega)
      have o5 := mk_fact (k := s + 8 * i + 5) (by omega)
      have o6 := mk_fact (k := s + 8 * i + 6) (by omega)
      have o := one_fact
      have ih := held_Bus_l1 n a ha s hs hp m (i + 1) (by omega) (by omega)
      rw [if_pos (by omega), getI_nat' h, e]
      simp only [w1, w2, w3, w4, w5, w6, w7, w8, wi, o1.1, o2.1, o4.1, o5.1, o6.1, o1.2, o2.2, o4.2, o5.2, o6.2, o.1, o.2, Option.bind_some, mkBus, Bool.and_self, if_true, ih]
    · rw [if_neg (by omega), show i = a.length by omega]
theorem mark_Bus_l1 (n : Nat) (s : Nat) (hs : s ≤ 200) : ∀ (m i : Nat) (a : List SBus), a.length ≤ 16 → i ≤ a.length → a.length - i < m → (∀ j, j < i → a[j]? = some (mkBus (s + 8 * j))) →
    ∃ b, m_laws_markBusS_l1 n m a ((s + 8 * i : Nat) : Int) (i : Int) = some (((s + 8 * a.length : Nat) : Int), b) ∧ b.length = a.length ∧ ∀ j, j < a.length → b[j]? = some (mkBus (s + 8 * j))
  | 0, i, _, _, _, h, _ => by omega
  | m + 1, i, a, ha, hi, hm, hp => by
    unfold m_laws_markBusS_l1
    by_cases h : i < a.length
    · have w1 : w64 (((s + 8 * i : Nat) : Int) + 1) = ((s + 8 * i + 1 : Nat) : Int) := by rw [w64_id (by omega) (by omega)]; omega
      have w2 : w64 (((s + 8 * i + 1 : Nat) : Int) + 1) = ((s + 8 * i + 2 : Nat) : Int) := by rw [w64_id (by omega) (by omega)]; omega
      have w3 : w64 (((s + 8 * i + 2 : Nat) : Int) + 1) = ((s + 8 * i + 3 : Nat) : Int) := by rw [w64_id (by omega) (by omega)]; omega
      have w4 : w64 (((s + 8 * i + 3 : Nat) : Int) + 1) = ((s + 8 * i + 4 : Nat) : Int) := by rw [w64_id (by omega) (by omega)]; omega
      have w5 : w64 (((s + 8 * i + 4 : Nat) : Int) + 1) = ((s + 8 * i + 5 : Nat) : Int) := by rw [w64_id (by omega) (by omega)]; omega
      have w6 : w64 (((s + 8 * i + 5 : Nat) : Int) + 1) = ((s + 8 * i + 6 : Nat) : Int) := by rw [w64_id (by omega) (by omega)]; omega
      have w7 : w64 (((s + 8 * i + 6 : Nat) : Int) + 1) = ((s + 8 * i + 7 : Nat) : Int) := by rw [w64_id (by omega) (by omega)]; omega
      have w8 : w64 (((s + 8 * i + 7 : Nat) : Int) + 1) = ((s + 8 * (i + 1) : Nat) : Int) := by rw [w64_id (by omega) (by omega)]; omega
      have wi : w64 ((i : Int) + 1) = ((i + 1 : Nat) : Int) := by rw [w64_id (by omega) (by omega)]; omega
      have o1 := mk_fact (k := s + 8 * i + 1) (by omega)
      have o2 := mk_fact (k := s + 8 * i + 2) (by omega)
      have o4 := mk_fact (k := s + 8 * i + 4) (by omega)
      have o5 := mk_fact (k := s + 8 * i + 5) (by omega)
      have o6 := mk_fact (k := s + 8 * i + 6) (by omega)
      have o := one_fact
      have gs0 : ∀ x, getI (a.set i x) (i : Int) = some x := fun x => by
        rw [getI_nat' (by rw [List.length_set]; exact h)]; simp
      obtain ⟨b, e, hl, hb⟩ := mark_Bus_l1 n s hs m (i + 1) (a.set i (mkBus (s + 8 * i))) (by simpa using ha) (by rw [List.length_set]; omega) (by rw [List.length_set]; omega) (fun j hj => by
        rw [List.getElem?_set]
        by_cases hji : i = j
        · subst hji
          rw [if_pos rfl, if_pos h]
        · rw [if_neg hji]
          exact hp j (by omega))
      rw [List.length_set] at e hl hb
      refine ⟨b, ?_, hl, hb⟩
      rw [if_pos (by omega), getI_nat' h]
      simp only [Int.toNat_natCast, w1, w2, w3, w4, w5, w6, w7, w8, wi, o1.1, o2.1, o4.1, o5.1, o6.1, o.1, Option.bind_some, List.set_set, gs0]
      exact e
    · rw [if_neg (by omega)]
      have : i = a.length := by omega
      subst this
      exact ⟨a, rfl, rfl, hp⟩
theorem held_Bus {n : Nat} (hn : 17 ≤ n) (a : List SBus) (ha : a.length ≤ 16) (s : Nat) (hs : s ≤ 200) (hp : ∀ j, j < a.length → a[j]? = some (mkBus (s + 8 * j))) : m_laws_heldBusS n a (s : Int) = some ((s + 8 * a.length : Nat) : Int) :=
  held_Bus_l1 n a ha s hs hp n 0 (Nat.zero_le _) (by omega)
theorem mark_Bus {n : Nat} (hn : 17 ≤ n) (a : List SBus) (ha : a.length ≤ 16) (s : Nat) (hs : s ≤ 200) : ∃ b, m_laws_markBusS n a (s : Int) = some (((s + 8 * a.length : Nat) : Int), b) ∧ b.length = a.length ∧ ∀ j, j < a.length → b[j]? = some (mkBus (s + 8 * j)) :=
  mark_Bus_l1 n s hs n 0 a ha (Nat.zero_le _) (by omega) (fun j hj => by omega)
theorem held_Tie_l1 (n : Nat) (a : List STie) (ha : a.length ≤ 16) (s : Nat) (hs : s ≤ 200) (hp : ∀ j, j < a.length → a[j]? = some (mkTie (s + 5 * j))) : ∀ (m i : Nat), i ≤ a.length → a.length - i < m →
    m_laws_heldTieS_l1 n a m ((s + 5 * i : Nat) : Int) (i : Int) = some ((s + 5 * a.length : Nat) : Int)
  | 0, i, _, h => by omega
  | m + 1, i, hi, hm => by
    unfold m_laws_heldTieS_l1
    by_cases h : i < a.length
    · have e : a[i] = mkTie (s + 5 * i) := by
        have := hp i h
        rw [List.getElem?_eq_getElem h] at this
        exact Option.some.inj this
      have w1 : w64 (((s + 5 * i : Nat) : Int) + 1) = ((s + 5 * i + 1 : Nat) : Int) := by rw [w64_id (by omega) (by omega)]; omega
      have w2 : w64 (((s + 5 * i + 1 : Nat) : Int) + 1) = ((s + 5 * i + 2 : Nat) : Int) := by rw [w64_id (by omega) (by omega)]; omega
      have w3 : w64 (((s + 5 * i + 2 : Nat) : Int) + 1) = ((s + 5 * i + 3 : Nat) : Int) := by rw [w64_id (by omega) (by omega)]; omega
      have w4 : w64 (((s + 5 * i + 3 : Nat) : Int) + 1) = ((s + 5 * i + 4 : Nat) : Int) := by rw [w64_id (by omega) (by omega)]; omega
      have w5 : w64 (((s + 5 * i + 4 : Nat) : Int) + 1) = ((s + 5 * (i + 1) : Nat) : Int) := by rw [w64_id (by omega) (by omega)]; omega
      have wi : w64 ((i : Int) + 1) = ((i + 1 : Nat) : Int) := by rw [w64_id (by omega) (by omega)]; omega
      have o2 := mk_fact (k := s + 5 * i + 2) (by omega)
      have o3 := mk_fact (k := s + 5 * i + 3) (by omega)
      have o := one_fact
      have ih := held_Tie_l1 n a ha s hs hp m (i + 1) (by omega) (by omega)
      rw [if_pos (by omega), getI_nat' h, e]
      simp only [w1, w2, w3, w4, w5, wi, o2.1, o3.1, o2.2, o3.2, o.1, o.2, Option.bind_some, mkTie, Bool.and_self, if_true, ih]
    · rw [if_neg (by omega), show i = a.length by omega]
theorem mark_Tie_l1 (n : Nat) (s : Nat) (hs : s ≤ 200) : ∀ (m i : Nat) (a : List STie), a.length ≤ 16 → i ≤ a.length → a.length - i < m → (∀ j, j < i → a[j]? = some (mkTie (s + 5 * j))) →
    ∃ b, m_laws_markTieS_l1 n m a ((s + 5 * i : Nat) : Int) (i : Int) = some (((s + 5 * a.length : Nat) : Int), b) ∧ b.length = a.length ∧ ∀ j, j < a.length → b[j]? = some (mkTie (s + 5 * j))
  | 0, i, _, _, _, h, _ => by omega
  | m + 1, i, a, ha, hi, hm, hp => by
    unfold m_laws_markTieS_l1
    by_cases h : i < a.length
    · have w1 : w64 (((s + 5 * i : Nat) : Int) + 1) = ((s + 5 * i + 1 : Nat) : Int) := by rw [w64_id (by omega) (by omega)]; omega
      have w2 : w64 (((s + 5 * i + 1 : Nat) : Int) + 1) = ((s + 5 * i + 2 : Nat) : Int) := by rw [w64_id (by omega) (by omega)]; omega
      have w3 : w64 (((s + 5 * i + 2 : Nat) : Int) + 1) = ((s + 5 * i + 3 : Nat) : Int) := by rw [w64_id (by omega) (by omega)]; omega
      have w4 : w64 (((s + 5 * i + 3 : Nat) : Int) + 1) = ((s + 5 * i + 4 : Nat) : Int) := by rw [w64_id (by omega) (by omega)]; omega
      have w5 : w64 (((s + 5 * i + 4 : Nat) : Int) + 1) = ((s + 5 * (i + 1) : Nat) : Int) := by rw [w64_id (by omega) (by omega)]; omega
      have wi : w64 ((i : Int) + 1) = ((i + 1 : Nat) : Int) := by rw [w64_id (by omega) (by omega)]; omega
      have o2 := mk_fact (k := s + 5 * i + 2) (by omega)
      have o3 := mk_fact (k := s + 5 * i + 3) (by omega)
      have o := one_fact
      have gs0 : ∀ x, getI (a.set i x) (i : Int) = some x := fun x => by
        rw [getI_nat' (by rw [List.length_set]; exact h)]; simp
      obtain ⟨b, e, hl, hb⟩ := mark_Tie_l1 n s hs m (i + 1) (a.set i (mkTie (s + 5 * i))) (by simpa using ha) (by rw [List.length_set]; omega) (by rw [List.length_set]; omega) (fun j hj => by
        rw [List.getElem?_set]
        by_cases hji : i = j
        · subst hji
          rw [if_pos rfl, if_pos h]
        · rw [if_neg hji]
          exact hp j (by omega))
      rw [List.length_set] at e hl hb
      refine ⟨b, ?_, hl, hb⟩
      rw [if_pos (by omega), getI_nat' h]
      simp only [Int.toNat_natCast, w1, w2, w3, w4, w5, wi, o2.1, o3.1, o.1, Option.bind_some, List.set_set, gs0]
      exact e
    · rw [if_neg (by omega)]
      have : i = a.length := by omega
      subst this
      exact ⟨a, rfl, rfl, hp⟩
theorem held_Tie {n : Nat} (hn : 17 ≤ n) (a : List STie) (ha : a.length ≤ 16) (s : Nat) (hs : s ≤ 200) (hp : ∀ j, j < a.length → a[j]? = some (mkTie (s + 5 * j))) : m_laws_heldTieS n a (s : Int) = some ((s + 5 * a.length : Nat) : Int) :=
  held_Tie_l1 n a ha s hs hp n 0 (Nat.zero_le _) (by omega)
theorem mark_Tie {n : Nat} (hn : 17 ≤ n) (a : List STie) (ha : a.length ≤ 16) (s : Nat) (hs : s ≤ 200) : ∃ b, m_laws_markTieS n a (s : Int) = some (((s + 5 * a.length : Nat) : Int), b) ∧ b.length = a.length ∧ ∀ j, j < a.length → b[j]? = some (mkTie (s + 5 * j)) :=
  mark_Tie_l1 n s hs n 0 a ha (Nat.zero_le _) (by omega) (fun j hj => by omega)
end Go.Proofs.Ytmllgpkgjniomaa.AWN

namespace Go.Proofs.Ytmllgpkgjniomaa.AWN
open Go
theorem sameFloat_self (n a : Nat) : m_laws_sameFloat n a a = some true := by
  unfold m_laws_sameFloat m_laws_sameFloat_j4 m_laws_sameFloat_j1 m_laws_sameFloat_j3 m_laws_sameFloat_j2
  rw [neq_self]
  cases h : isnan .f64 a with
  | true => rfl
  | false =>
    rw [if_neg (by decide), if_neg (by decide), eql_self, h]
    cases fcmp .eql .f64 a 0 <;> simp
theorem sameComplex_self (n : Nat) (c : Cx) : m_laws_sameComplex n c c = some true := by
  unfold m_laws_sameComplex
  rw [sameFloat_self, Option.bind_some, if_pos rfl, sameFloat_self]; rfl
theorem eqPhases_self (n : Nat) (p : SPhases) : m_laws_eqPhases n p p = some true := by
  obtain ⟨a1, e1, _⟩ := wide_some p.A.re
  obtain ⟨a2, e2, _⟩ := wide_some p.A.im
  obtain ⟨b1, f1, _⟩ := wide_some p.B.re
  obtain ⟨b2, f2, _⟩ := wide_some p.B.im
  obtain ⟨c1, g1, _⟩ := wide_some p.C.re
  obtain ⟨c2, g2, _⟩ := wide_some p.C.im
  unfold m_laws_eqPhases
  simp only [e1, e2, f1, f2, g1, g2, Option.bind_some, sameComplex_self, if_true]
theorem eqBus_self (n : Nat) (p : SBus) : m_laws_eqBus n p p = some true := by
  obtain ⟨a1, e1, _⟩ := wide_some p.Own.re
  obtain ⟨a2, e2, _⟩ := wide_some p.Own.im
  obtain ⟨b1, f1, _⟩ := wide_some p.Shared.re
  obtain ⟨b2, f2, _⟩ := wide_some p.Shared.im
  unfold m_laws_eqBus
  simp only [e1, e2, f1, f2, Option.bind_some, sameComplex_self, eqPhases_self, if_true]
theorem eqTie_self (n : Nat) (p : STie) : m_laws_eqTie n p p = some true := by
  obtain ⟨a1, e1, _⟩ := wide_some p.Own.re
  obtain ⟨a2, e2, _⟩ := wide_some p.Own.im
  obtain ⟨b1, f1, _⟩ := wide_some p.Shared.re
  obtain ⟨b2, f2, _⟩ := wide_some p.Shared.im
  unfold m_laws_eqTie
  simp only [e1, e2, f1, f2, Option.bind_some, sameComplex_self, if_true]
theorem eqBusS_l1 (n : Nat) (a : List SBus) (ha : a.length ≤ 100) : ∀ (m i : Nat), i ≤ a.length → a.length - i < m → m_laws_eqBusS_l1 n a a m (i : Int) = some true
  | 0, i, _, h => by omega
  | m + 1, i, hi, hm => by
    unfold m_laws_eqBusS_l1
    by_cases h : i < a.length
    · rw [if_pos (by omega), getI_nat' h, Option.bind_some, Option.bind_some, eqBus_self, Option.bind_some, if_pos rfl, show w64 ((i : Int) + 1) = ((i + 1 : Nat) : Int) by rw [w64_id (by omega) (by omega)]; omega]
      exact eqBusS_l1 n a ha m (i + 1) (by omega) (by omega)
    · rw [if_neg (by omega)]
theorem eqTieS_l1 (n : Nat) (a : List STie) (ha : a.length ≤ 100) : ∀ (m i : Nat), i ≤ a.length → a.length - i < m → m_laws_eqTieS_l1 n a a m (i : Int) = some true
  | 0, i, _, h => by omega
  | m + 1, i, hi, hm => by
    unfold m_laws_eqTieS_l1
    by_cases h : i < a.length
    · rw [if_pos (by omega), getI_nat' h, Option.bind_some, Option.bind_some, eqTie_self, Option.bind_some, if_pos rfl, show w64 ((i : Int) + 1) = ((i + 1 : Nat) : Int) by rw [w64_id (by omega) (by omega)]; omega]
      exact eqTieS_l1 n a ha m (i + 1) (by omega) (by omega)
    · rw [if_neg (by omega)]
theorem eqGrid_self {n : Nat} (hn : 101 ≤ n) (g : SGrid) (h1 : g.Feeder.Buses.length ≤ 100) (h2 : g.Ties.length ≤ 100) : m_laws_eqGrid n g g = some true := by
  unfold m_laws_eqGrid m_laws_eqFeeder m_laws_eqBusS m_laws_eqTieS
  have e1 := eqBusS_l1 n g.Feeder.Buses h1 n 0 (Nat.zero_le _) (by omega)
  have e2 := eqTieS_l1 n g.Ties h2 n 0 (Nat.zero_le _) (by omega)
  have e1 : m_laws_eqBusS_l1 n g.Feeder.Buses g.Feeder.Buses n 0 = some true := e1
  have e2 : m_laws_eqTieS_l1 n g.Ties g.Ties n 0 = some true := e2
  simp only [eqPhases_self, e1, e2, Option.bind_some, if_true]
/-- What is read out of bytes. -/
theorem both_grid (t : Str) (ht : t.length ≤ 1048576) : ∃ r, m_spec_LoadGrid 400 t = some r ∧ m_impl_LoadGrid 400 t = some r ∧ r.1.Feeder.Buses.length ≤ 16 ∧ r.1.Ties.length ≤ 16 := by
  unfold m_spec_LoadGrid m_impl_LoadGrid
  rcases begins (n := 400) (by omega) t (by omega) with ⟨hi, g, e, hs⟩ | ⟨g, a, hg, ha, hh, hi, hs⟩
  · refine ⟨(noGrid, false), ?_, ?_, Nat.zero_le _, Nat.zero_le _⟩
    · rw [hs]; rfl
    · rw [hi]; rfl
  · obtain ⟨_, l1, l2⟩ := hg.few
    rw [hs, hi, Option.bind_some, Option.bind_some]
    by_cases he : (a : Int) = (t.length : Int)
    · refine ⟨(g, true), ?_, ?_, l1, by show g.Ties.length ≤ 16; omega⟩
      · rw [if_pos rfl]; dsimp only; rw [decide_eq_true he]; rfl
      · rw [if_pos rfl]; dsimp only; rw [decide_eq_true he]; rfl
    · refine ⟨(noGrid, false), ?_, ?_, Nat.zero_le _, Nat.zero_le _⟩
      · rw [if_pos rfl]; dsimp only; rw [decide_eq_false he]; rfl
      · rw [if_pos rfl]; dsimp only; rw [decide_eq_false he]; rfl
theorem mark_grid {n : Nat} (hn : 101 ≤ n) (g : SGrid) (h1 : g.Feeder.Buses.length ≤ 16) (h2 : g.Ties.length ≤ 16) : ∃ (k : Nat) (b1 : List SBus) (b2 : List STie), m_laws_markGrid n g 1 = some ((k : Int), b1, b2) ∧ b1.length = g.Feeder.Buses.length ∧ b2.length = g.Ties.length ∧ m_laws_heldGrid n (SGrid.mk (SFeeder.mk g.Feeder.Source b1) b2) 1 = some (k : Int) := by
  obtain ⟨b1, e1, l1, p1⟩ := mark_Bus (n := n) (by omega) g.Feeder.Buses h1 1 (by omega)
  obtain ⟨b2, e2, l2, p2⟩ := mark_Tie (n := n) (by omega) g.Ties h2 (1 + 8 * g.Feeder.Buses.length) (by omega)
  have g1 := held_Bus (n := n) (by omega) b1 (by omega) 1 (by omega) (by rw [l1]; exact p1)
  have g2 := held_Tie (n := n) (by omega) b2 (by omega) (1 + 8 * g.Feeder.Buses.length) (by omega) (by rw [l2]; exact p2)
  rw [l1] at g1
  rw [l2] at g2
  have e1 : m_laws_markBusS n g.Feeder.Buses 1 = some (((1 + 8 * g.Feeder.Buses.length : Nat) : Int), b1) := e1
  have g1 : m_laws_heldBusS n b1 1 = some ((1 + 8 * g.Feeder.Buses.length : Nat) : Int) := g1
  refine ⟨1 + 8 * g.Feeder.Buses.length + 5 * g.Ties.length, b1, b2, ?_, l1, l2, ?_⟩
  · unfold m_laws_markGrid m_laws_markFeeder grd
    dsimp only
    rw [e1, Option.bind_some]
    dsimp only
    rw [if_pos l1, Option.bind_some]
    dsimp only
    rw [if_pos l1, e2, Option.bind_some]
    dsimp only
    rw [if_pos l2]
  · unfold m_laws_heldGrid m_laws_heldFeeder
    dsimp only
    rw [g1, Option.bind_some, if_neg (by omega), Option.bind_some, if_neg (by omega), g2, Option.bind_some, if_neg (by omega)]
theorem FnExactLoadGrid_true (t : Str) : m_laws_FnExactLoadGrid 400 t = some true := by
  unfold m_laws_FnExactLoadGrid
  by_cases h : (t.length : Int) > 1048576
  · rw [if_pos h]
  · obtain ⟨r, hs, hi, h1, h2⟩ := both_grid t (by omega)
    have he : m_laws_eqGrid 400 (SGrid.mk (SFeeder.mk r.1.Feeder.Source r.1.Feeder.Buses) r.1.Ties) r.1 = some true := eqGrid_self (n := 400) (by omega) r.1 (by omega) (by omega)
    rw [if_neg h, hs, hi, Option.bind_some, Option.bind_some, he, Option.bind_some, if_pos rfl, beq_self_eq_true]
    unfold m_laws_FnExactLoadGrid_j4
    rw [if_neg (by decide)]
    unfold m_laws_FnExactLoadGrid_j1 grd
    obtain ⟨k, b1, b2, hm, l1, l2, hh⟩ := mark_grid (n := 400) (by omega) r.1 h1 h2
    have hm : m_laws_markGrid 400 (SGrid.mk (SFeeder.mk r.1.Feeder.Source r.1.Feeder.Buses) r.1.Ties) 1 = some ((k : Int), b1, b2) := hm
    rw [hm, Option.bind_some]
    dsimp only
    rw [if_pos l1, if_pos l2, hh, Option.bind_some, if_neg (by omega), if_pos rfl, hi, Option.bind_some]
    rw [he, Option.bind_some, if_pos rfl, beq_self_eq_true]
    unfold m_laws_FnExactLoadGrid_j3
    rw [if_neg (by decide)]
    unfold m_laws_FnExactLoadGrid_j2
    dsimp only
    rw [hh, Option.bind_some, if_neg (by omega), if_pos rfl]
end Go.Proofs.Ytmllgpkgjniomaa.AWN
