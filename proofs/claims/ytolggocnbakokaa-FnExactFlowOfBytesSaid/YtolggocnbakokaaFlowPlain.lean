/- Flows that are read out of bytes, in plain terms. -/
import Derived.Test.YtolggocnbakokaaFlowB
import Derived.Test.YtolggocnbakokaaFloat
set_option linter.unusedVariables false
set_option linter.unusedSimpArgs false
set_option linter.unusedSectionVars false
namespace Go.Proofs.Ytolggocnbakokaa.AWN
open Go

theorem w64_id {n : Int} (h0 : -9223372036854775808 ≤ n) (h1 : n < 9223372036854775808) : w64 n = n := by
  unfold w64 IntKind.wrap
  simp [IntKind.signed, IntKind.bits]
  omega
theorem shl8 (x : Int) : x * 2 ^ min (8 : Int).toNat (IntKind.bits .i64) = x * 256 := rfl
/-- The word of some bytes, the first the least. -/
def wdOf : Str → Nat
  | [] => 0
  | b :: r => b.toNat + 256 * wdOf r
theorem or_byte (x b : Nat) (hx : x < 1099511627776) (hb : b < 256) : ibits .or .i64 (w64 ((x : Int) * 2 ^ min (8 : Int).toNat (IntKind.bits .i64))) (w64 (b : Int)) = ((x * 256 + b : Nat) : Int) := by
  rw [shl8, w64_id (by omega) (by omega), w64_id (by omega) (by omega)]
  unfold ibits
  have e1 : BitVec.ofInt 64 ((x : Int) * 256) = BitVec.ofNat 64 (x * 256) := by
    rw [show (x : Int) * 256 = ((x * 256 : Nat) : Int) by omega, BitVec.ofInt_natCast]
  have e2 : BitVec.ofInt 64 (b : Int) = BitVec.ofNat 64 b := BitVec.ofInt_natCast _ _
  show IntKind.wrap .i64 (((BitVec.ofInt 64 ((x : Int) * 256) ||| BitVec.ofInt 64 (b : Int)).toNat : Nat) : Int) = _
  rw [e1, e2, BitVec.toNat_or, BitVec.toNat_ofNat, BitVec.toNat_ofNat, Nat.mod_eq_of_lt (by omega), Nat.mod_eq_of_lt (by omega)]
  have h : x * 256 ||| b = x * 256 + b := by
    have := Nat.shiftLeft_add_eq_or_of_lt (i := 8) (b := b) (by omega) x
    rw [Nat.shiftLeft_eq] at this
    exact this.symm
  rw [h]
  exact w64_id (by omega) (by omega)
theorem add_byte (x b : Nat) (hx : x < 1099511627776) (hb : b < 256) : w64 (w64 ((x : Int) * 2 ^ min (8 : Int).toNat (IntKind.bits .i64)) + w64 (b : Int)) = ((x * 256 + b : Nat) : Int) := by
  rw [shl8, w64_id (n := (x : Int) * 256) (by omega) (by omega), w64_id (n := (b : Int)) (by omega) (by omega), w64_id (by omega) (by omega)]
  omega
theorem getI_nat' {α : Type} {l : List α} {i : Nat} (h : i < l.length) : getI l (i : Int) = some l[i] := by
  unfold getI
  rw [if_pos (by omega), Int.toNat_natCast, List.getElem?_eq_getElem h]
/-- A word of 'k' bytes from place 'a' on, behind 'acc'. -/
def vd (t : Str) (a : Nat) : Nat → Nat → Nat
  | acc, 0 => acc
  | acc, k + 1 => vd t a (acc * 256 + (t.getD (a + k) 0).toNat) k
theorem getD_lt {t : Str} {i : Nat} (h : i < t.length) : t.getD i 0 = t[i] := by rw [List.getD_eq_getElem?_getD, List.getElem?_eq_getElem h]; rfl
theorem acc_step {acc k b : Nat} (hk : k + 1 ≤ 4) (h : acc < 256 ^ (4 - (k + 1))) (hb : b < 256) : acc * 256 + b < 256 ^ (4 - k) ∧ acc < 1099511627776 := by
  have e : 4 - k = (4 - (k + 1)) + 1 := by omega
  have h2 : 256 ^ (4 - (k + 1)) ≤ 256 ^ 4 := Nat.pow_le_pow_right (by omega) (by omega)
  have h3 : (256 : Nat) ^ 4 = 4294967296 := by decide
  rw [e, Nat.pow_succ]
  generalize 256 ^ (4 - (k + 1)) = P at *
  omega
theorem word_l2 (n : Nat) (e : SL10Eyes) (size : Int) (a : Nat) (ha : e.at_ = a) (hal : a ≤ 1099511627776) : ∀ (m k acc : Nat), k < m → a + k ≤ e.text.length → k ≤ 4 → acc < 256 ^ (4 - k) →
    m_spec_l10Eyes_word_l2 n e size m (acc : Int) ((k : Int) - 1) = some (((vd e.text a acc k : Nat) : Int), ⟨e.text, w64 (e.at_ + size), e.fine⟩)
  | 0, k, acc, h, _, _, _ => by omega
  | m + 1, k, acc, hm, hk, h4, hacc => by
    unfold m_spec_l10Eyes_word_l2
    rcases k with _ | k
    · rw [if_neg (by omega)]
      rfl
    · have hlt : a + k < e.text.length := by omega
      have hb : (e.text[a + k]).toNat < 256 := UInt8.toNat_lt _
      obtain ⟨h5, h6⟩ := acc_step (by omega) hacc hb
      rw [if_pos (by omega), ha, show w64 ((a : Int) + (((k + 1 : Nat) : Int) - 1)) = ((a + k : Nat) : Int) by rw [w64_id (by omega) (by omega)]; omega, getI_nat' hlt, Option.bind_some, or_byte _ _ h6 hb, show w64 (((k + 1 : Nat) : Int) - 1 - 1) = (k : Int) - 1 by rw [w64_id (by omega) (by omega)]; omega, word_l2 n e size a ha hal m k _ (by omega) (by omega) (by omega) h5]
      have : vd e.text a acc (k + 1) = vd e.text a (acc * 256 + (e.text[a + k]).toNat) k := by rw [vd, getD_lt hlt]
      rw [this, ha]
theorem number_l3 (n : Nat) (e : SReader) (many : Int) (v : Bool) (a : Nat) (ha : e.at_ = a) (hal : a ≤ 1099511627776) : ∀ (m k acc : Nat), k < m → a + k ≤ e.s.length → k ≤ 4 → acc < 256 ^ (4 - k) →
    m_impl_reader_number_l3 n e many v m (acc : Int) ((k : Int) - 1) = some (((vd e.s a acc k : Nat) : Int), ⟨e.s, w64 (e.at_ + many), v⟩)
  | 0, k, acc, h, _, _, _ => by omega
  | m + 1, k, acc, hm, hk, h4, hacc => by
    unfold m_impl_reader_number_l3
    rcases k with _ | k
    · rw [if_neg (by omega)]
      rfl
    · have hlt : a + k < e.s.length := by omega
      have hb : (e.s[a + k]).toNat < 256 := UInt8.toNat_lt _
      obtain ⟨h5, h6⟩ := acc_step (by omega) hacc hb
      rw [if_pos (by omega), ha, show w64 ((a : Int) + (((k + 1 : Nat) : Int) - 1)) = ((a + k : Nat) : Int) by rw [w64_id (by omega) (by omega)]; omega, getI_nat' hlt, Option.bind_some, add_byte _ _ h6 hb, show w64 (((k + 1 : Nat) : Int) - 1 - 1) = (k : Int) - 1 by rw [w64_id (by omega) (by omega)]; omega, number_l3 n e many v a ha hal m k _ (by omega) (by omega) (by omega) h5]
      have : vd e.s a acc (k + 1) = vd e.s a (acc * 256 + (e.s[a + k]).toNat) k := by rw [vd, getD_lt hlt]
      rw [this, ha]
end Go.Proofs.Ytolggocnbakokaa.AWN

namespace Go.Proofs.Ytolggocnbakokaa.AWN
open Go
theorem vd_lt (t : Str) (a : Nat) : ∀ (k acc : Nat), k ≤ 4 → acc < 256 ^ (4 - k) → vd t a acc k < 4294967296
  | 0, acc, _, h => h
  | k + 1, acc, hk, h => by
    have hb : (t.getD (a + k) 0).toNat < 256 := UInt8.toNat_lt _
    rw [vd]
    exact vd_lt t a k _ (by omega) (acc_step hk h hb).1
theorem word_some {n : Nat} (hn : 6 ≤ n) (t : Str) (a k : Nat) (f : Bool) (hk : a + k ≤ t.length) (h4 : k ≤ 4) (ht : t.length ≤ 1099511627776) :
    m_spec_l10Eyes_word n ⟨t, a, f⟩ (k : Int) = some (((vd t a 0 k : Nat) : Int), ⟨t, ((a + k : Nat) : Int), f⟩) := by
  have hw : w64 ((a : Int) + (k : Int)) = ((a + k : Nat) : Int) := by rw [w64_id (by omega) (by omega)]; omega
  unfold m_spec_l10Eyes_word
  dsimp only
  rw [hw, if_neg (by omega), show w64 ((k : Int) - 1) = (k : Int) - 1 from w64_id (by omega) (by omega)]
  have h := word_l2 n ⟨t, a, f⟩ k a rfl (by omega) n k 0 (by omega) hk h4 (Nat.pow_pos (by omega))
  dsimp only at h
  rw [hw] at h
  exact h
theorem number_some {n : Nat} (hn : 6 ≤ n) (t : Str) (a k : Nat) (hk : a + k ≤ t.length) (h4 : k ≤ 4) (ht : t.length ≤ 1099511627776) :
    m_impl_reader_number n ⟨t, a, false⟩ (k : Int) = some (((vd t a 0 k : Nat) : Int), ⟨t, ((a + k : Nat) : Int), false⟩) := by
  have hw : w64 ((a : Int) + (k : Int)) = ((a + k : Nat) : Int) := by rw [w64_id (by omega) (by omega)]; omega
  unfold m_impl_reader_number
  dsimp only
  rw [if_neg (by decide), hw, decide_eq_false (by omega)]
  unfold m_impl_reader_number_j4
  rw [if_neg (by decide)]
  unfold m_impl_reader_number_j1
  rw [show w64 ((k : Int) - 1) = (k : Int) - 1 from w64_id (by omega) (by omega)]
  have h := number_l3 n ⟨t, a, false⟩ k false a rfl (by omega) n k 0 (by omega) hk h4 (Nat.pow_pos (by omega))
  dsimp only at h
  rw [hw] at h
  exact h
theorem wrap32 {x : Nat} (h : x < 4294967296) : (IntKind.wrap .u32 (x : Int)).toNat = x := by
  unfold IntKind.wrap
  simp [IntKind.signed, IntKind.bits]
  omega
/-- The number at place 'a', the complex number, the phases. -/
def flA (t : Str) (a : Nat) : Nat := canon .f32 (vd t a 0 4)
def cxA (t : Str) (a : Nat) : Cx := ⟨flA t a, flA t (a + 4)⟩
def phA (t : Str) (a : Nat) : SPhases := ⟨cxA t a, cxA t (a + 8), cxA t (a + 16)⟩
theorem from_some (n : Nat) (t : Str) (a : Nat) : m_spec_l01From n ((vd t a 0 4 : Nat) : Int) = some (flA t a) := by
  have h := vd_lt t a 4 0 (by omega) (by decide)
  unfold m_spec_l01From grd
  rw [wrap32 h, if_pos h]; rfl
theorem bits_some (n : Nat) (t : Str) (a : Nat) : m_impl_FromBits n ((vd t a 0 4 : Nat) : Int) = some (flA t a, true) := by
  have h := vd_lt t a 4 0 (by omega) (by decide)
  unfold m_impl_FromBits m_impl_in
  rw [if_pos (by omega), Option.bind_some, decide_eq_true (by omega), if_pos rfl]
  unfold grd
  rw [wrap32 h, if_pos h]; rfl
section
variable {n : Nat} (hn : 6 ≤ n) (t : Str) (ht : t.length ≤ 1099511627776)
include hn ht
theorem cnum_some (a : Nat) (f : Bool) (h : a + 8 ≤ t.length) : m_spec_l10Eyes_number n ⟨t, a, f⟩ = some (cxA t a, ⟨t, ((a + 8 : Nat) : Int), f⟩) := by
  have e1 := word_some hn t a 4 f (by omega) (by omega) ht
  have e2 := word_some hn t (a + 4) 4 f (by omega) (by omega) ht
  unfold m_spec_l10Eyes_number
  rw [show ((4 : Int)) = ((4 : Nat) : Int) from rfl, e1, Option.bind_some]
  dsimp only
  rw [e2, Option.bind_some]
  dsimp only
  rw [from_some, from_some]; rfl
theorem cph_some (a : Nat) (f : Bool) (h : a + 24 ≤ t.length) : m_spec_l10Eyes_phases n ⟨t, a, f⟩ = some (phA t a, ⟨t, ((a + 24 : Nat) : Int), f⟩) := by
  unfold m_spec_l10Eyes_phases
  rw [cnum_some hn t ht a f (by omega), Option.bind_some]
  dsimp only
  rw [cnum_some hn t ht (a + 8) f (by omega), Option.bind_some]
  dsimp only
  rw [cnum_some hn t ht (a + 8 + 8) f (by omega), Option.bind_some]; rfl
theorem ifl_some (a : Nat) (h : a + 4 ≤ t.length) : m_impl_reader_float n ⟨t, a, false⟩ = some (flA t a, ⟨t, ((a + 4 : Nat) : Int), false⟩) := by
  have e1 := number_some hn t a 4 (by omega) (by omega) ht
  unfold m_impl_reader_float
  rw [show ((4 : Int)) = ((4 : Nat) : Int) from rfl, e1, Option.bind_some]
  dsimp only
  rw [bits_some]; rfl
theorem ipair_some (a : Nat) (h : a + 8 ≤ t.length) : m_impl_reader_pair n ⟨t, a, false⟩ = some (cxA t a, ⟨t, ((a + 8 : Nat) : Int), false⟩) := by
  unfold m_impl_reader_pair
  rw [ifl_some hn t ht a (by omega), Option.bind_some]
  dsimp only
  rw [ifl_some hn t ht (a + 4) (by omega), Option.bind_some]; rfl
theorem iph_some (a : Nat) (h : a + 24 ≤ t.length) : m_impl_reader_phases n ⟨t, a, false⟩ = some (phA t a, ⟨t, ((a + 24 : Nat) : Int), false⟩) := by
  unfold m_impl_reader_phases
  rw [ipair_some hn t ht a (by omega), Option.bind_some]
  dsimp only
  rw [ipair_some hn t ht (a + 8) (by omega), Option.bind_some]
  dsimp only
  rw [ipair_some hn t ht (a + 8 + 8) (by omega), Option.bind_some]; rfl
end
end Go.Proofs.Ytolggocnbakokaa.AWN

namespace Go.Proofs.Ytolggocnbakokaa.AWN
open Go
def phV (t : Str) (k : Nat) : List SPhases := (List.range k).map fun i => phA t (2 + 48 * i)
def phC (t : Str) (k : Nat) : List SPhases := (List.range k).map fun i => phA t (26 + 48 * i)
theorem phV_succ (t : Str) (k : Nat) : phV t (k + 1) = phV t k ++ [phA t (2 + 48 * k)] := by unfold phV; rw [List.range_succ, List.map_append]; rfl
theorem phC_succ (t : Str) (k : Nat) : phC t (k + 1) = phC t k ++ [phA t (26 + 48 * k)] := by unfold phC; rw [List.range_succ, List.map_append]; rfl
theorem phV_len (t : Str) (k : Nat) : (phV t k).length = k := by simp [phV]
theorem phC_len (t : Str) (k : Nat) : (phC t k).length = k := by simp [phC]
section
variable {n : Nat} (hn : 6 ≤ n) (t : Str) {b : Nat} (hb : b ≤ 16) (ht : t.length = 2 + 48 * b)
include hn hb ht
theorem iloop (x37 x38 : Int × SReader) (V0 C0 : List SPhases) : ∀ (m i : Nat), i ≤ b → b - i < m →
    m_impl_FlowOfBytes_l5 n t (b : Int) x37 x38 m V0 C0 t ((2 + 48 * i : Nat) : Int) false (phV t i) (phC t i) (i : Int) = m_impl_FlowOfBytes_j2 n t x37 x38 V0 C0 (phV t b) (phC t b)
  | 0, i, _, h => by omega
  | m + 1, i, hi, hm => by
    unfold m_impl_FlowOfBytes_l5 grd
    by_cases h : i < b
    · have hv := phV_len t i
      have hc := phC_len t i
      rw [if_pos (by omega), iph_some hn t (by omega) (2 + 48 * i) (by omega), Option.bind_some, if_pos (show room ((phV t i).length + 1) 24 by unfold room; omega)]
      dsimp only
      rw [iph_some hn t (by omega) (2 + 48 * i + 24) (by omega), Option.bind_some, if_pos (show room ((phC t i).length + 1) 24 by unfold room; omega)]
      dsimp only
      rw [show w64 ((i : Int) + 1) = ((i + 1 : Nat) : Int) by rw [w64_id (by omega) (by omega)]; omega, show 2 + 48 * i + 24 + 24 = 2 + 48 * (i + 1) by omega, show 2 + 48 * i + 24 = 26 + 48 * i by omega, ← phV_succ, ← phC_succ]
      exact iloop x37 x38 V0 C0 m (i + 1) (by omega) (by omega)
    · rw [if_neg (by omega), show i = b by omega]
theorem sloop (x36 x37 : Int × SL10Eyes) (V0 C0 : List SPhases) : ∀ (m i : Nat), i ≤ b → b - i < m →
    m_spec_l10OfBytes_l2 n t (b : Int) x36 x37 m V0 C0 t ((2 + 48 * i : Nat) : Int) true (phV t i) (phC t i) (i : Int) = m_spec_l10OfBytes_j1 n t x36 x37 V0 C0 t ((2 + 48 * b : Nat) : Int) true (phV t b) (phC t b)
  | 0, i, _, h => by omega
  | m + 1, i, hi, hm => by
    unfold m_spec_l10OfBytes_l2
    by_cases h : i < b
    · have hv := phV_len t i
      have hc := phC_len t i
      rw [if_pos (by omega)]
      unfold m_spec_l10OfBytes_j4
      rw [if_pos rfl]
      unfold m_spec_l10OfBytes_j3 grd
      rw [cph_some hn t (by omega) (2 + 48 * i) true (by omega), Option.bind_some, if_pos (show room ((phV t i).length + 1) 24 by unfold room; omega)]
      dsimp only
      rw [cph_some hn t (by omega) (2 + 48 * i + 24) true (by omega), Option.bind_some, if_pos (show room ((phC t i).length + 1) 24 by unfold room; omega)]
      dsimp only
      rw [show w64 ((i : Int) + 1) = ((i + 1 : Nat) : Int) by rw [w64_id (by omega) (by omega)]; omega, show 2 + 48 * i + 24 + 24 = 2 + 48 * (i + 1) by omega, show 2 + 48 * i + 24 = 26 + 48 * i by omega, ← phV_succ, ← phC_succ]
      exact sloop x36 x37 V0 C0 m (i + 1) (by omega) (by omega)
    · rw [if_neg (by omega), show i = b by omega]
      unfold m_spec_l10OfBytes_j4
      rw [if_neg (by decide)]
end
end Go.Proofs.Ytolggocnbakokaa.AWN

namespace Go.Proofs.Ytolggocnbakokaa.AWN
open Go
/-- The bytes of a number, the least first. -/
def leb (x : Nat) : Nat → List Int
  | 0 => []
  | k + 1 => ((x % 256 : Nat) : Int) :: leb (x / 256) k
theorem leb_len (x : Nat) : ∀ k, (leb x k).length = k
  | 0 => rfl
  | k + 1 => by rw [leb, List.length_cons, leb_len]
theorem wrap8 (x : Nat) : IntKind.wrap .u8 (x : Int) = ((x % 256 : Nat) : Int) := by
  unfold IntKind.wrap
  simp [IntKind.signed, IntKind.bits]
theorem and_byte {y : Nat} (hy : y < 4294967296) : IntKind.wrap .u8 (ibits .and .i64 (y : Int) 255) = ((y % 256 : Nat) : Int) := by
  unfold ibits
  have e1 : BitVec.ofInt 64 (y : Int) = BitVec.ofNat 64 y := BitVec.ofInt_natCast _ _
  have e2 : BitVec.ofInt 64 (255 : Int) = BitVec.ofNat 64 255 := rfl
  show IntKind.wrap .u8 (IntKind.wrap .i64 (((BitVec.ofInt 64 (y : Int) &&& BitVec.ofInt 64 255).toNat : Nat) : Int)) = _
  rw [e1, e2, BitVec.toNat_and, BitVec.toNat_ofNat, BitVec.toNat_ofNat, Nat.mod_eq_of_lt (by omega), Nat.mod_eq_of_lt (by omega)]
  have h : y &&& 255 = y % 256 := Nat.and_two_pow_sub_one_eq_mod y 8
  have hm : y % 256 < 256 := Nat.mod_lt _ (by omega)
  rw [h, show IntKind.wrap .i64 ((y % 256 : Nat) : Int) = ((y % 256 : Nat) : Int) from w64_id (by omega) (by omega), wrap8, Nat.mod_mod]
theorem bytes_l2 (n : Nat) (many : Nat) (h4 : many ≤ 4) : ∀ (m k x i : Nat) (acc : List Int), i + k = many → k < m → x < 4294967296 → acc.length = i →
    m_impl_bytesOf_l2 n (many : Int) m (x : Int) acc (i : Int) = some (chars (acc ++ leb x k))
  | 0, k, _, _, _, _, h, _, _ => by omega
  | m + 1, k, x, i, acc, hik, hm, hx, hacc => by
    unfold m_impl_bytesOf_l2 grd m_impl_bytesOf_j1
    rcases k with _ | k
    · rw [if_neg (by omega), leb, List.append_nil]
    · have e : ((x : Int)).fdiv (2 ^ min (8 : Int).toNat (IntKind.bits .i64)) = ((x / 256 : Nat) : Int) := by
        show ((x : Int)).fdiv 256 = _
        rw [Int.fdiv_eq_ediv_of_nonneg _ (by omega)]; omega
      rw [if_pos (by omega), if_pos (show room (acc.length + 1) 1 by unfold room; omega), e, wrap8, show w64 ((i : Int) + 1) = ((i + 1 : Nat) : Int) by rw [w64_id (by omega) (by omega)]; omega, bytes_l2 n many h4 m k (x / 256) (i + 1) _ (by omega) (by omega) (by omega) (by simp; omega), leb, List.append_assoc]
      rfl
theorem word_l2' (n x : Nat) (hx : x < 4294967296) (size : Nat) (h4 : size ≤ 4) : ∀ (m k i : Nat) (acc : List Int), i + k = size → k < m → acc.length = i →
    m_spec_l10Word_l2 n (x : Int) (size : Int) m acc (i : Int) = some (chars (acc ++ leb (x / 256 ^ i) k))
  | 0, k, _, _, _, h, _ => by omega
  | m + 1, k, i, acc, hik, hm, hacc => by
    unfold m_spec_l10Word_l2 grd m_spec_l10Word_j1
    rcases k with _ | k
    · rw [if_neg (by omega), leb, List.append_nil]
    · have e8 : w64 ((8 : Int) * (i : Int)) = ((8 * i : Nat) : Int) := by rw [w64_id (by omega) (by omega)]; omega
      have e9 : IntKind.wrap .u64 ((8 * i : Nat) : Int) = ((8 * i : Nat) : Int) := by
        unfold IntKind.wrap
        simp [IntKind.signed, IntKind.bits]
        omega
      have hmin : min (8 * i) (IntKind.bits .i64) = 8 * i := by
        show min (8 * i) 64 = _
        omega
      have hp : (2 : Int) ^ (8 * i) = ((256 ^ i : Nat) : Int) := by
        rw [Int.natCast_pow, Int.pow_mul]; rfl
      have e : ((x : Int)).fdiv (2 ^ min (IntKind.wrap .u64 (w64 ((8 : Int) * (i : Int)))).toNat (IntKind.bits .i64)) = ((x / 256 ^ i : Nat) : Int) := by
        rw [e8, e9, Int.toNat_natCast, hmin, hp, Int.fdiv_eq_ediv_of_nonneg _ (Int.natCast_nonneg _), Int.natCast_ediv]
      have hle : x / 256 ^ i ≤ x := Nat.div_le_self _ _
      rw [if_pos (by omega), if_pos (by rw [e8, e9]; omega), if_pos (show room (acc.length + 1) 1 by unfold room; omega), e, and_byte (by omega), show w64 ((i : Int) + 1) = ((i + 1 : Nat) : Int) by rw [w64_id (by omega) (by omega)]; omega, word_l2' n x hx size h4 m k (i + 1) _ (by omega) (by omega) (by simp; omega), leb, List.append_assoc, Nat.div_div_eq_div_mul, ← Nat.pow_succ]
      rfl
end Go.Proofs.Ytolggocnbakokaa.AWN

namespace Go.Proofs.Ytolggocnbakokaa.AWN
open Go
theorem neq_self (k : FloatKind) (a : Nat) : fcmp .neq k a a = isnan k a := by
  unfold fcmp isnan
  simp only [Ieee.Format.order]
  have cc : ∀ (z : Int), compare z z = .eq := fun z => by
    show compareOfLessAndEq z z = .eq
    unfold compareOfLessAndEq
    rw [if_neg (by omega), if_pos rfl]
  have cn : ∀ (z : Nat), compare z z = .eq := fun z => by
    show compareOfLessAndEq z z = .eq
    unfold compareOfLessAndEq
    rw [if_neg (by omega), if_pos rfl]
  cases k.format.read a with
  | number s m i => simp only [Ieee.Datum.order, cc]; rfl
  | infinity s => simp only [Ieee.Datum.order, cn]; rfl
  | nan s m => rfl

theorem bytesOf_some {n : Nat} (hn : 6 ≤ n) {x : Nat} (hx : x < 4294967296) (k : Nat) (h4 : k ≤ 4) : m_impl_bytesOf n (x : Int) (k : Int) = some (chars (leb x k)) := by
  have h := bytes_l2 n k h4 n k x 0 [] (by omega) (by omega) hx rfl
  exact h
theorem word_some' {n : Nat} (hn : 6 ≤ n) {x : Nat} (hx : x < 4294967296) (k : Nat) (h4 : k ≤ 4) : m_spec_l10Word n (x : Int) (k : Int) = some (chars (leb x k)) := by
  have h := word_l2' n x hx k h4 n k 0 [] (by omega) (by omega) rfl
  rw [Nat.pow_zero, Nat.div_one] at h
  exact h
def bt (x : Nat) : Nat := if isnan .f32 x then 2143289344 else x
theorem bt_lt {x : Nat} (h : x < 4294967296) : bt x < 4294967296 := by
  unfold bt
  split <;> omega
theorem sbits_some (n : Nat) {x : Nat} (hx : x < 4294967296) : m_spec_l01Bits n x = some ((bt x : Nat) : Int) := by
  unfold m_spec_l01Bits grd bt
  rw [neq_self]
  cases h : isnan .f32 x with
  | true => rfl
  | false =>
    rw [if_neg (by decide), if_pos rfl, w64_id (by omega) (by omega)]
    rfl
theorem ibits_some (n : Nat) {x : Nat} (hx : x < 4294967296) : m_impl_BitsOf n x = some ((bt x : Nat) : Int) := sbits_some n hx
def CxOk (c : Cx) : Prop := c.re < 4294967296 ∧ c.im < 4294967296
def PhOk (p : SPhases) : Prop := CxOk p.A ∧ CxOk p.B ∧ CxOk p.C
def cb (c : Cx) : Str := chars (leb (bt c.re) 4) ++ chars (leb (bt c.im) 4)
def pb (p : SPhases) : Str := cb p.A ++ cb p.B ++ cb p.C
theorem chars_len (l : List Int) : (chars l).length = l.length := List.length_map _
theorem cb_len (c : Cx) : (cb c).length = 8 := by
  unfold cb
  rw [List.length_append, chars_len, chars_len, leb_len, leb_len]
theorem pb_len (p : SPhases) : (pb p).length = 24 := by
  unfold pb
  rw [List.length_append, List.length_append, cb_len, cb_len, cb_len]
section
variable {n : Nat} (hn : 6 ≤ n)
include hn
theorem ipb_some {p : SPhases} (h : PhOk p) : m_impl_phasesOf n p = some (pb p) := by
  have hc : ∀ c, CxOk c → m_impl_pairOf n c = some (cb c) := fun c hc => by
    unfold m_impl_pairOf
    rw [ibits_some n hc.1, Option.bind_some, show ((4 : Int)) = ((4 : Nat) : Int) from rfl, bytesOf_some hn (bt_lt hc.1) 4 (by omega), Option.bind_some, ibits_some n hc.2, Option.bind_some, bytesOf_some hn (bt_lt hc.2) 4 (by omega), Option.bind_some]
    unfold grd
    rw [if_pos (by rw [chars_len, chars_len, leb_len, leb_len]; omega)]
    rfl
  unfold m_impl_phasesOf grd
  rw [hc _ h.1, Option.bind_some, hc _ h.2.1, Option.bind_some, if_pos (by rw [cb_len, cb_len]; omega), hc _ h.2.2, Option.bind_some, if_pos (by rw [List.length_append, cb_len, cb_len, cb_len]; omega)]
  rfl
theorem spb_some {p : SPhases} (h : PhOk p) : m_spec_l10Phases n p = some (pb p) := by
  have hc : ∀ c, CxOk c → m_spec_l10Complex n c = some (cb c) := fun c hc => by
    unfold m_spec_l10Complex
    rw [sbits_some n hc.1, Option.bind_some, show ((4 : Int)) = ((4 : Nat) : Int) from rfl, word_some' hn (bt_lt hc.1) 4 (by omega), Option.bind_some, sbits_some n hc.2, Option.bind_some, word_some' hn (bt_lt hc.2) 4 (by omega), Option.bind_some]
    unfold grd
    rw [if_pos (by rw [chars_len, chars_len, leb_len, leb_len]; omega)]
    rfl
  unfold m_spec_l10Phases grd
  rw [hc _ h.1, Option.bind_some, hc _ h.2.1, Option.bind_some, if_pos (by rw [cb_len, cb_len]; omega), hc _ h.2.2, Option.bind_some, if_pos (by rw [List.length_append, cb_len, cb_len, cb_len]; omega)]
  rfl
end
theorem flA_lt (t : Str) (a : Nat) : flA t a < 4294967296 := by
  have h := vd_lt t a 4 0 (by omega) (by decide)
  unfold flA canon
  split
  · decide
  · exact h
theorem phA_ok (t : Str) (a : Nat) : PhOk (phA t a) := ⟨⟨flA_lt _ _, flA_lt _ _⟩, ⟨flA_lt _ _, flA_lt _ _⟩, ⟨flA_lt _ _, flA_lt _ _⟩⟩
end Go.Proofs.Ytolggocnbakokaa.AWN

namespace Go.Proofs.Ytolggocnbakokaa.AWN
open Go
theorem phs_some {n : Nat} (hn : 6 ≤ n) : ∀ (l : List SPhases), (∀ p ∈ l, PhOk p) → phs (m_impl_phasesOf n) l = some (l.map pb)
  | [], _ => rfl
  | p :: l, h => by
    unfold phs grd
    rw [ipb_some hn (h p (List.mem_cons_self ..)), Option.bind_some, phs_some hn l (fun q hq => h q (List.mem_cons_of_mem _ hq)), Option.bind_some, if_pos (by rw [pb_len]; omega)]
    rfl
/-- The bytes of a flow. -/
def flT (V C : List SPhases) (r : Nat) (rests : Bool) : Str :=
  flowT (fun k => (V.map pb).getD k []) (fun k => (C.map pb).getD k []) (chars (leb r 1) ++ chars (leb (if rests then 1 else 0) 1)) V.length
theorem head_len (r : Nat) (rests : Bool) : (chars (leb r 1)).length = 1 ∧ (chars (leb (if rests then 1 else 0) 1)).length = 1 := ⟨by rw [chars_len, leb_len], by rw [chars_len, leb_len]⟩
theorem flow_len {V C : List SPhases} (o : Str) (hl : C.length = V.length) : ∀ k, k ≤ V.length → (flowT (fun k => (V.map pb).getD k []) (fun k => (C.map pb).getD k []) o k).length = o.length + 48 * k
  | 0, _ => by simp [flowT]
  | k + 1, hk => by
    have h1 : ((V.map pb).getD k []).length = 24 := by
      rw [List.getD_eq_getElem?_getD, List.getElem?_map, List.getElem?_eq_getElem (by omega)]
      exact pb_len _
    have h2 : ((C.map pb).getD k []).length = 24 := by
      rw [List.getD_eq_getElem?_getD, List.getElem?_map, List.getElem?_eq_getElem (by omega)]
      exact pb_len _
    rw [flowT, List.length_append, List.length_append, h1, h2, flow_len o hl k (by omega)]
    omega
section
variable {n : Nat} (hn : 100 ≤ n) {V C : List SPhases} (hV : ∀ p ∈ V, PhOk p) (hC : ∀ p ∈ C, PhOk p) (hl : C.length = V.length) (h1 : 1 ≤ V.length) (h16 : V.length ≤ 16)
include hn hV hC hl h1 h16
theorem ibytes_some (r : Nat) (hr : r < 256) (rests : Bool) : m_impl_FlowBytes n ⟨V, C, (r : Int), rests⟩ = some (if r ≤ 50 then (flT V C r rests, true) else ([], false)) := by
  unfold m_impl_FlowBytes flowM
  dsimp only
  by_cases h : r ≤ 50
  · have e2 : m_impl_bytesOf n (if rests then 1 else 0) 1 = some (chars (leb (if rests then 1 else 0) 1)) := by
      cases rests with
      | true => exact bytesOf_some (x := 1) (by omega) (by omega) 1 (by omega)
      | false => exact bytesOf_some (x := 0) (by omega) (by omega) 1 (by omega)
    have e1 : m_impl_bytesOf n (r : Int) 1 = some (chars (leb r 1)) := bytesOf_some (by omega) (by omega) 1 (by omega)
    have hh := head_len r rests
    rw [if_pos ⟨h1, h16, hl, by omega, by omega⟩, if_pos h, e1, Option.bind_some, e2, Option.bind_some]
    unfold grd
    rw [if_pos (by omega), phs_some (by omega) V hV, Option.bind_some, phs_some (by omega) C hC, Option.bind_some]
    rfl
  · rw [if_neg (by omega), if_neg h]
theorem sbytes_l2 (R : Int) (rests : Bool) (o : Str) (ho : o.length ≤ 100) : ∀ (m i : Nat), i ≤ V.length → V.length - i < m →
    m_spec_l10Bytes_l2 n ⟨V, C, R, rests⟩ m (flowT (fun k => (V.map pb).getD k []) (fun k => (C.map pb).getD k []) o i) (i : Int) = some (flowT (fun k => (V.map pb).getD k []) (fun k => (C.map pb).getD k []) o V.length)
  | 0, i, _, h => by omega
  | m + 1, i, hi, hm => by
    unfold m_spec_l10Bytes_l2
    dsimp only
    by_cases h : i < V.length
    · have hlen := flow_len o hl i (by omega)
      rw [if_pos (by omega), getI_nat' h, Option.bind_some, getI_nat' (by omega), Option.bind_some, spb_some (by omega) (hV _ (List.getElem_mem h)), Option.bind_some, spb_some (by omega) (hC _ (List.getElem_mem (by omega))), Option.bind_some]
      unfold grd
      rw [if_pos (by rw [pb_len, pb_len]; omega), if_pos (by rw [List.length_append, pb_len, pb_len, hlen]; omega), show w64 ((i : Int) + 1) = ((i + 1 : Nat) : Int) by rw [w64_id (by omega) (by omega)]; omega]
      have e1 : (V.map pb).getD i [] = pb V[i] := by rw [List.getD_eq_getElem?_getD, List.getElem?_map, List.getElem?_eq_getElem h]; rfl
      have e2 : (C.map pb).getD i [] = pb C[i] := by rw [List.getD_eq_getElem?_getD, List.getElem?_map, List.getElem?_eq_getElem (by omega)]; rfl
      have := sbytes_l2 R rests o ho m (i + 1) (by omega) (by omega)
      rw [flowT, e1, e2] at this
      exact this
    · rw [if_neg (by omega), show i = V.length by omega]
theorem sbytes_some (r : Nat) (hr : r < 256) (rests : Bool) : m_spec_l10Bytes n ⟨V, C, (r : Int), rests⟩ = some (flT V C r rests) := by
  have e1 : m_spec_l10Word n (r : Int) 1 = some (chars (leb r 1)) := word_some' (by omega) (by omega) 1 (by omega)
  have e2 : m_spec_l10Word n 1 1 = some (chars (leb 1 1)) := word_some' (x := 1) (by omega) (by omega) 1 (by omega)
  have e3 : m_spec_l10Word n 0 1 = some (chars (leb 0 1)) := word_some' (x := 0) (by omega) (by omega) 1 (by omega)
  unfold m_spec_l10Bytes
  dsimp only
  cases rests with
  | true =>
    rw [if_pos rfl]
    unfold m_spec_l10Bytes_j1 grd
    dsimp only
    rw [e1, Option.bind_some, e2, Option.bind_some, if_pos (by rw [chars_len, chars_len, leb_len, leb_len]; omega)]
    exact sbytes_l2 hn hV hC hl h1 h16 r true _ (by rw [List.length_append, chars_len, chars_len, leb_len, leb_len]; omega) n 0 (Nat.zero_le _) (by omega)
  | false =>
    rw [if_neg (by decide)]
    unfold m_spec_l10Bytes_j1 grd
    dsimp only
    rw [e1, Option.bind_some, e3, Option.bind_some, if_pos (by rw [chars_len, chars_len, leb_len, leb_len]; omega)]
    exact sbytes_l2 hn hV hC hl h1 h16 r false _ (by rw [List.length_append, chars_len, chars_len, leb_len, leb_len]; omega) n 0 (Nat.zero_le _) (by omega)
end
end Go.Proofs.Ytolggocnbakokaa.AWN

namespace Go.Proofs.Ytolggocnbakokaa.AWN
open Go
theorem vd1_lt (t : Str) (a : Nat) : vd t a 0 1 < 256 := by
  have hb : (t.getD (a + 0) 0).toNat < 256 := UInt8.toNat_lt _
  show 0 * 256 + (t.getD (a + 0) 0).toNat < 256
  omega
theorem phV_ok (t : Str) (k : Nat) : ∀ p ∈ phV t k, PhOk p := fun p hp => by
  obtain ⟨i, _, rfl⟩ := List.mem_map.1 hp
  exact phA_ok t _
theorem phC_ok (t : Str) (k : Nat) : ∀ p ∈ phC t k, PhOk p := fun p hp => by
  obtain ⟨i, _, rfl⟩ := List.mem_map.1 hp
  exact phA_ok t _
/-- What is read. -/
def flo (t : Str) (b : Nat) : SFlow := ⟨phV t b, phC t b, ((vd t 0 0 1 : Nat) : Int), decide (((vd t 1 0 1 : Nat) : Int) = 1)⟩
def good (t : Str) (b : Nat) : Prop := t.length = 2 + 48 * b ∧ vd t 0 0 1 ≤ 50 ∧ flT (phV t b) (phC t b) (vd t 0 0 1) (decide (((vd t 1 0 1 : Nat) : Int) = 1)) = t
instance (t : Str) (b : Nat) : Decidable (good t b) := by unfold good; infer_instance
def noFlow : SFlow := ⟨[], [], 0, false⟩
def resF (t : Str) (b : Nat) : SFlow × Bool := if good t b then (flo t b, true) else (noFlow, false)
section
variable {n : Nat} (hn : 100 ≤ n) (t : Str) {b : Nat} (h1 : 1 ≤ b) (h16 : b ≤ 16)
include hn h1 h16
theorem impl_flow (h : t.length ≤ 1048576) : m_impl_FlowOfBytes n t (b : Int) = some (resF t b) := by
  unfold m_impl_FlowOfBytes m_impl_in
  rw [if_pos (by omega), Option.bind_some, decide_eq_true (by omega), if_pos rfl]
  have hw : w64 ((2 : Int) + w64 ((48 : Int) * (b : Int))) = ((2 + 48 * b : Nat) : Int) := by
    rw [w64_id (n := (48 : Int) * (b : Int)) (by omega) (by omega), w64_id (by omega) (by omega)]; omega
  rw [hw]
  by_cases ht : t.length = 2 + 48 * b
  · rw [decide_eq_true (by omega)]
    unfold m_impl_FlowOfBytes_j6
    rw [if_neg (by decide)]
    unfold m_impl_FlowOfBytes_j1
    have e1 : m_impl_reader_number n ⟨t, 0, false⟩ 1 = some (((vd t 0 0 1 : Nat) : Int), ⟨t, ((0 + 1 : Nat) : Int), false⟩) := number_some (by omega) t 0 1 (by omega) (by omega) (by omega)
    have e2 : m_impl_reader_number n ⟨t, ((0 + 1 : Nat) : Int), false⟩ 1 = some (((vd t (0 + 1) 0 1 : Nat) : Int), ⟨t, ((0 + 1 + 1 : Nat) : Int), false⟩) := number_some (by omega) t (0 + 1) 1 (by omega) (by omega) (by omega)
    rw [e1, Option.bind_some]
    dsimp only
    rw [e2, Option.bind_some]
    dsimp only
    have hl := iloop (n := n) (by omega) t h16 ht (((vd t 0 0 1 : Nat) : Int), ⟨t, ((0 + 1 : Nat) : Int), false⟩) (((vd t (0 + 1) 0 1 : Nat) : Int), ⟨t, ((0 + 1 + 1 : Nat) : Int), false⟩) [] [] n 0 (Nat.zero_le _) (by omega)
    refine Eq.trans hl ?_
    unfold m_impl_FlowOfBytes_j2
    dsimp only
    have hr := vd1_lt t 0
    have hv := phV_len t b
    have hc := phC_len t b
    rw [ibytes_some hn (phV_ok t b) (phC_ok t b) (by omega) (by omega) (by omega) _ hr, Option.bind_some]
    unfold m_impl_FlowOfBytes_j4 m_impl_FlowOfBytes_j3 resF
    by_cases h50 : vd t 0 0 1 ≤ 50
    · rw [if_pos h50]
      dsimp only
      rw [if_pos rfl]
      by_cases hg : flT (phV t b) (phC t b) (vd t 0 0 1) (decide (((vd t (0 + 1) 0 1 : Nat) : Int) = 1)) = t
      · rw [decide_eq_true hg, if_neg (by decide), if_pos ⟨ht, h50, hg⟩]; rfl
      · rw [decide_eq_false hg, if_pos (show (!false) = true from rfl), if_neg (fun hh => hg hh.2.2)]; rfl
    · rw [if_neg h50]
      dsimp only
      rw [if_neg (by decide), if_pos rfl, if_neg (fun hh => h50 hh.2.1)]; rfl
  · rw [decide_eq_false (by omega)]
    unfold m_impl_FlowOfBytes_j6 resF
    rw [if_pos (show (!false) = true from rfl), if_neg (fun hh => ht hh.1)]; rfl
end
end Go.Proofs.Ytolggocnbakokaa.AWN

namespace Go.Proofs.Ytolggocnbakokaa.AWN
open Go
section
variable {n : Nat} (hn : 100 ≤ n) (t : Str) (ht : t.length ≤ 1099511627776)
include hn ht
theorem word_tot (a k : Nat) (f : Bool) (ha : a ≤ t.length) (h4 : k ≤ 4) : ∃ (x a' : Nat) (f' : Bool), m_spec_l10Eyes_word n ⟨t, a, f⟩ (k : Int) = some ((x : Int), ⟨t, a', f'⟩) ∧ x < 4294967296 ∧ a' ≤ t.length ∧ (a + k ≤ t.length → a' = a + k ∧ f' = f) ∧ (t.length < a + k → f' = false) ∧ (f = false → f' = false) := by
  by_cases h : a + k ≤ t.length
  · exact ⟨vd t a 0 k, a + k, f, word_some (by omega) t a k f h h4 ht, vd_lt t a k 0 h4 (Nat.pow_pos (by omega)), h, fun _ => ⟨rfl, rfl⟩, fun h' => absurd h (by omega), id⟩
  · refine ⟨0, a, false, ?_, by omega, ha, fun h' => absurd h' h, fun _ => rfl, fun _ => rfl⟩
    unfold m_spec_l10Eyes_word
    dsimp only
    rw [if_pos (by rw [w64_id (by omega) (by omega)]; omega)]
    rfl
theorem num_tot (a : Nat) (f : Bool) (ha : a ≤ t.length) : ∃ (c : Cx) (a' : Nat) (f' : Bool), m_spec_l10Eyes_number n ⟨t, a, f⟩ = some (c, ⟨t, a', f'⟩) ∧ a' ≤ t.length ∧ (a + 8 ≤ t.length → a' = a + 8 ∧ f' = f) ∧ (t.length < a + 8 → f' = false) ∧ (f = false → f' = false) := by
  obtain ⟨x, a1, f1, e1, x1, l1, p1, q1, r1⟩ := word_tot hn t ht a 4 f ha (by omega)
  obtain ⟨y, a2, f2, e2, y1, l2, p2, q2, r2⟩ := word_tot hn t ht a1 4 f1 l1 (by omega)
  have hf : ∀ z : Nat, z < 4294967296 → m_spec_l01From n (z : Int) = some (canon .f32 z) := fun z hz => by
    unfold m_spec_l01From grd
    rw [wrap32 hz, if_pos hz]
  refine ⟨⟨canon .f32 x, canon .f32 y⟩, a2, f2, ?_, l2, fun h => ?_, fun h => ?_, fun h => r2 (r1 h)⟩
  · unfold m_spec_l10Eyes_number
    rw [show ((4 : Int)) = ((4 : Nat) : Int) from rfl, e1, Option.bind_some]
    dsimp only
    rw [e2, Option.bind_some]
    dsimp only
    rw [hf x x1, hf y y1]; rfl
  · obtain ⟨g1, g2⟩ := p1 (by omega)
    obtain ⟨g3, g4⟩ := p2 (by omega)
    exact ⟨by omega, g4.trans g2⟩
  · by_cases h' : a + 4 ≤ t.length
    · obtain ⟨g1, g2⟩ := p1 h'
      exact q2 (by omega)
    · exact r2 (q1 (by omega))
theorem ph_tot (a : Nat) (f : Bool) (ha : a ≤ t.length) : ∃ (c : SPhases) (a' : Nat) (f' : Bool), m_spec_l10Eyes_phases n ⟨t, a, f⟩ = some (c, ⟨t, a', f'⟩) ∧ a' ≤ t.length ∧ (a + 24 ≤ t.length → a' = a + 24 ∧ f' = f) ∧ (t.length < a + 24 → f' = false) ∧ (f = false → f' = false) := by
  obtain ⟨x, a1, f1, e1, l1, p1, q1, r1⟩ := num_tot hn t ht a f ha
  obtain ⟨y, a2, f2, e2, l2, p2, q2, r2⟩ := num_tot hn t ht a1 f1 l1
  obtain ⟨z, a3, f3, e3, l3, p3, q3, r3⟩ := num_tot hn t ht a2 f2 l2
  refine ⟨⟨x, y, z⟩, a3, f3, ?_, l3, fun h => ?_, fun h => ?_, fun h => r3 (r2 (r1 h))⟩
  · unfold m_spec_l10Eyes_phases
    rw [e1, Option.bind_some]
    dsimp only
    rw [e2, Option.bind_some]
    dsimp only
    rw [e3]; rfl
  · obtain ⟨g1, g2⟩ := p1 (by omega)
    obtain ⟨g3, g4⟩ := p2 (by omega)
    obtain ⟨g5, g6⟩ := p3 (by omega)
    exact ⟨by omega, g6.trans (g4.trans g2)⟩
  · by_cases h1 : a + 8 ≤ t.length
    · obtain ⟨g1, g2⟩ := p1 h1
      by_cases h2 : a + 16 ≤ t.length
      · obtain ⟨g3, g4⟩ := p2 (by omega)
        exact q3 (by omega)
      · exact r3 (q2 (by omega))
    · exact r3 (r2 (q1 (by omega)))
theorem short_loop {b : Nat} (h16 : b ≤ 16) (hs : t.length < 2 + 48 * b) (x36 x37 : Int × SL10Eyes) (V0 C0 : List SPhases) : ∀ (m i a : Nat) (f : Bool) (V C : List SPhases), b - i + 1 < m → i ≤ b → V.length = i → C.length = i → a ≤ t.length → (f = true → a = 2 + 48 * i) →
    ∃ F, m_spec_l10OfBytes_l2 n t (b : Int) x36 x37 m V0 C0 t (a : Int) f V C (i : Int) = some (F, false)
  | 0, _, _, _, _, _, h, _, _, _, _, _ => by omega
  | m + 1, i, a, f, V, C, hm, hi, hV, hC, ha, hf => by
    unfold m_spec_l10OfBytes_l2 m_spec_l10OfBytes_j4
    cases f with
    | false =>
      by_cases h : i < b
      · rw [if_pos (by omega), if_neg (by decide)]
        exact ⟨_, rfl⟩
      · rw [if_neg (by omega), if_neg (by decide)]
        exact ⟨_, rfl⟩
    | true =>
      have hai := hf rfl
      have hib : i < b := by omega
      obtain ⟨x, a1, f1, e1, l1, p1, q1, r1⟩ := ph_tot hn t ht a true ha
      obtain ⟨y, a2, f2, e2, l2, p2, q2, r2⟩ := ph_tot hn t ht a1 f1 l1
      rw [if_pos (by omega), if_pos rfl]
      unfold m_spec_l10OfBytes_j3 grd
      rw [e1, Option.bind_some, if_pos (show room (V.length + 1) 24 by unfold room; omega)]
      dsimp only
      rw [e2, Option.bind_some, if_pos (show room (C.length + 1) 24 by unfold room; omega)]
      dsimp only
      rw [show w64 ((i : Int) + 1) = ((i + 1 : Nat) : Int) by rw [w64_id (by omega) (by omega)]; omega]
      refine short_loop h16 hs x36 x37 V0 C0 m (i + 1) a2 f2 _ _ (by omega) (by omega) (by simp; omega) (by simp; omega) l2 fun h => ?_
      subst h
      by_cases h1 : a + 24 ≤ t.length
      · obtain ⟨g1, g2⟩ := p1 h1
        by_cases h2 : a1 + 24 ≤ t.length
        · obtain ⟨g3, g4⟩ := p2 h2
          omega
        · have := q2 (by omega)
          cases this
      · have := r2 (q1 (by omega))
        cases this
end
end Go.Proofs.Ytolggocnbakokaa.AWN

namespace Go.Proofs.Ytolggocnbakokaa.AWN
open Go
theorem head_of {n : Nat} (hn : 100 ≤ n) (t : Str) (ht : t.length ≤ 1099511627776) (x36 x37 : Int × SL10Eyes) (V C : List SPhases) : ∃ F, m_spec_l10OfBytes_j1 n t x36 x37 [] [] t 0 false V C = some (F, false) := by
  unfold m_spec_l10OfBytes_j1
  rw [if_neg (by decide)]
  exact ⟨_, rfl⟩
section
variable {n : Nat} (hn : 100 ≤ n) (t : Str) {b : Nat} (h1 : 1 ≤ b) (h16 : b ≤ 16)
include hn h1 h16
theorem sloopL (ht : 2 + 48 * b ≤ t.length) (htl : t.length ≤ 1099511627776) (x36 x37 : Int × SL10Eyes) (V0 C0 : List SPhases) : ∀ (m i : Nat), i ≤ b → b - i < m →
    m_spec_l10OfBytes_l2 n t (b : Int) x36 x37 m V0 C0 t ((2 + 48 * i : Nat) : Int) true (phV t i) (phC t i) (i : Int) = m_spec_l10OfBytes_j1 n t x36 x37 V0 C0 t ((2 + 48 * b : Nat) : Int) true (phV t b) (phC t b)
  | 0, i, _, h => by omega
  | m + 1, i, hi, hm => by
    unfold m_spec_l10OfBytes_l2
    by_cases h : i < b
    · have hv := phV_len t i
      have hc := phC_len t i
      rw [if_pos (by omega)]
      unfold m_spec_l10OfBytes_j4
      rw [if_pos rfl]
      unfold m_spec_l10OfBytes_j3 grd
      rw [cph_some (by omega) t (by omega) (2 + 48 * i) true (by omega), Option.bind_some, if_pos (show room ((phV t i).length + 1) 24 by unfold room; omega)]
      dsimp only
      rw [cph_some (by omega) t (by omega) (2 + 48 * i + 24) true (by omega), Option.bind_some, if_pos (show room ((phC t i).length + 1) 24 by unfold room; omega)]
      dsimp only
      rw [show w64 ((i : Int) + 1) = ((i + 1 : Nat) : Int) by rw [w64_id (by omega) (by omega)]; omega, show 2 + 48 * i + 24 + 24 = 2 + 48 * (i + 1) by omega, show 2 + 48 * i + 24 = 26 + 48 * i by omega, ← phV_succ, ← phC_succ]
      exact sloopL ht htl x36 x37 V0 C0 m (i + 1) (by omega) (by omega)
    · rw [if_neg (by omega), show i = b by omega]
      unfold m_spec_l10OfBytes_j4
      rw [if_neg (by decide)]
theorem of_long (ht : 2 + 48 * b ≤ t.length) (htl : t.length ≤ 1099511627776) : m_spec_l10OfBytes n t (b : Int) = some (flo t b, decide (good t b)) := by
  unfold m_spec_l10OfBytes
  have e1 : m_spec_l10Eyes_word n ⟨t, 0, true⟩ 1 = some (((vd t 0 0 1 : Nat) : Int), ⟨t, ((0 + 1 : Nat) : Int), true⟩) := word_some (by omega) t 0 1 true (by omega) (by omega) (by omega)
  have e2 : m_spec_l10Eyes_word n ⟨t, ((0 + 1 : Nat) : Int), true⟩ 1 = some (((vd t (0 + 1) 0 1 : Nat) : Int), ⟨t, ((0 + 1 + 1 : Nat) : Int), true⟩) := word_some (by omega) t (0 + 1) 1 true (by omega) (by omega) (by omega)
  rw [e1, Option.bind_some]
  dsimp only
  rw [e2, Option.bind_some]
  dsimp only
  have hl := sloopL hn t h1 h16 ht htl (((vd t 0 0 1 : Nat) : Int), ⟨t, ((0 + 1 : Nat) : Int), true⟩) (((vd t (0 + 1) 0 1 : Nat) : Int), ⟨t, ((0 + 1 + 1 : Nat) : Int), true⟩) [] [] n 0 (Nat.zero_le _) (by omega)
  refine Eq.trans hl ?_
  unfold m_spec_l10OfBytes_j1
  dsimp only
  have hr := vd1_lt t 0
  have hv := phV_len t b
  have hc := phC_len t b
  rw [if_pos rfl]
  by_cases h50 : vd t 0 0 1 ≤ 50
  · rw [if_pos (by omega), sbytes_some hn (phV_ok t b) (phC_ok t b) (by omega) (by omega) (by omega) _ hr, Option.bind_some]
    congr 2
    by_cases hg : flT (phV t b) (phC t b) (vd t 0 0 1) (decide (((vd t (0 + 1) 0 1 : Nat) : Int) = 1)) = t
    · have hlen := flow_len (V := phV t b) (C := phC t b) (chars (leb (vd t 0 0 1) 1) ++ chars (leb (if decide (((vd t (0 + 1) 0 1 : Nat) : Int) = 1) then 1 else 0) 1)) (by omega) b (by omega)
      have h2 : (flT (phV t b) (phC t b) (vd t 0 0 1) (decide (((vd t (0 + 1) 0 1 : Nat) : Int) = 1))).length = 2 + 48 * b := by
        unfold flT
        rw [hv, hlen, List.length_append, chars_len, chars_len, leb_len, leb_len]
      rw [hg] at h2
      rw [decide_eq_true hg, decide_eq_true ⟨h2, h50, hg⟩]
    · rw [decide_eq_false hg, decide_eq_false (fun hh => hg hh.2.2)]
  · rw [if_neg (by omega), show decide (good t b) = false from decide_eq_false (fun hh => h50 hh.2.1)]; rfl
end
end Go.Proofs.Ytolggocnbakokaa.AWN

namespace Go.Proofs.Ytolggocnbakokaa.AWN
open Go
section
variable {n : Nat} (hn : 100 ≤ n) (t : Str) {b : Nat} (h1 : 1 ≤ b) (h16 : b ≤ 16)
include hn h1 h16
theorem of_short (ht : t.length < 2 + 48 * b) (htl : t.length ≤ 1099511627776) : ∃ F, m_spec_l10OfBytes n t (b : Int) = some (F, false) := by
  unfold m_spec_l10OfBytes
  obtain ⟨x, a1, f1, e1, x1, l1, p1, q1, r1⟩ := word_tot hn t htl 0 1 true (Nat.zero_le _) (by omega)
  obtain ⟨y, a2, f2, e2, y1, l2, p2, q2, r2⟩ := word_tot hn t htl a1 1 f1 l1 (by omega)
  have e1 : m_spec_l10Eyes_word n ⟨t, 0, true⟩ 1 = some ((x : Int), ⟨t, a1, f1⟩) := e1
  have e2 : m_spec_l10Eyes_word n ⟨t, a1, f1⟩ 1 = some ((y : Int), ⟨t, a2, f2⟩) := e2
  rw [e1, Option.bind_some]
  dsimp only
  rw [e2, Option.bind_some]
  dsimp only
  refine short_loop hn t htl h16 ht _ _ [] [] n 0 a2 f2 [] [] (by omega) (Nat.zero_le _) rfl rfl l2 fun h => ?_
  subst h
  by_cases h2 : 0 + 1 ≤ t.length
  · obtain ⟨g1, g2⟩ := p1 h2
    by_cases h3 : a1 + 1 ≤ t.length
    · obtain ⟨g3, g4⟩ := p2 h3
      omega
    · have := q2 (by omega)
      cases this
  · have := r2 (q1 (by omega))
    cases this
theorem spec_flow (htl : t.length ≤ 1048576) : m_spec_FlowOfBytes n t (b : Int) = some (resF t b) := by
  unfold m_spec_FlowOfBytes m_spec_l00In
  rw [if_pos (by omega), Option.bind_some, decide_eq_true (by omega), if_pos rfl]
  unfold resF
  by_cases ht : 2 + 48 * b ≤ t.length
  · rw [of_long hn t h1 h16 ht (by omega), Option.bind_some]
    dsimp only
    by_cases hg : good t b
    · rw [if_pos (decide_eq_true hg), if_pos hg]
    · rw [if_neg (by simpa using hg), if_neg hg]; rfl
  · obtain ⟨F, e⟩ := of_short hn t h1 h16 (by omega) (by omega)
    rw [e, Option.bind_some]
    dsimp only
    rw [if_neg (by decide), if_neg (fun hg => ht (by have : t.length = 2 + 48 * b := hg.1; omega))]; rfl
end
end Go.Proofs.Ytolggocnbakokaa.AWN

namespace Go.Proofs.Ytolggocnbakokaa.AWN
open Go
def mkOk (k : Nat) : Bool := match fconv .f64 .f32 (FloatKind.nearest .f64 (k : Int)) with
  | some x => fcmp .eql .f32 x x
  | none => false
theorem mk_all : ((List.range 110).all mkOk) = true := by kernel_rfl
theorem one_ok : (match fconv .f64 .f32 4607182418800017408 with | some x => fcmp .eql .f32 x x | none => false) = true := by kernel_rfl
def mkV (k : Nat) : Nat := (fconv .f64 .f32 (FloatKind.nearest .f64 (k : Int))).getD 0
def oneV : Nat := (fconv .f64 .f32 4607182418800017408).getD 0
theorem mk_fact {k : Nat} (h : k < 110) : fconv .f64 .f32 (FloatKind.nearest .f64 (k : Int)) = some (mkV k) ∧ fcmp .eql .f32 (mkV k) (mkV k) = true := by
  have := List.all_eq_true.1 mk_all k (List.mem_range.2 h)
  unfold mkOk at this
  unfold mkV
  cases hc : fconv .f64 .f32 (FloatKind.nearest .f64 (k : Int)) with
  | some x => rw [hc] at this; exact ⟨rfl, this⟩
  | none => rw [hc] at this; cases this
theorem one_fact : fconv .f64 .f32 4607182418800017408 = some oneV ∧ fcmp .eql .f32 oneV oneV = true := by
  have := one_ok
  unfold oneV
  cases hc : fconv .f64 .f32 4607182418800017408 with
  | some x => rw [hc] at this; exact ⟨rfl, this⟩
  | none => rw [hc] at this; cases this
end Go.Proofs.Ytolggocnbakokaa.AWN

namespace Go.Proofs.Ytolggocnbakokaa.AWN
open Go
/-- The phases that bear the marks 'k', 'k + 1', 'k + 2'. -/
def mkP (k : Nat) : SPhases := ⟨⟨mkV k, oneV⟩, ⟨mkV (k + 1), oneV⟩, ⟨mkV (k + 2), oneV⟩⟩
theorem held_l1 (n : Nat) (a : List SPhases) (ha : a.length ≤ 16) (s : Nat) (hs : s ≤ 50) (hp : ∀ j, j < a.length → a[j]? = some (mkP (s + 3 * j))) : ∀ (m i : Nat), i ≤ a.length → a.length - i < m →
    m_laws_heldPhasesS_l1 n a m ((s + 3 * i : Nat) : Int) (i : Int) = some ((s + 3 * a.length : Nat) : Int)
  | 0, i, _, h => by omega
  | m + 1, i, hi, hm => by
    unfold m_laws_heldPhasesS_l1
    by_cases h : i < a.length
    · have e : a[i] = mkP (s + 3 * i) := by
        have := hp i h
        rw [List.getElem?_eq_getElem h] at this
        exact Option.some.inj this
      have w1 : w64 (((s + 3 * i : Nat) : Int) + 1) = ((s + 3 * i + 1 : Nat) : Int) := by rw [w64_id (by omega) (by omega)]; omega
      have w2 : w64 (((s + 3 * i + 1 : Nat) : Int) + 1) = ((s + 3 * i + 2 : Nat) : Int) := by rw [w64_id (by omega) (by omega)]; omega
      have w3 : w64 (((s + 3 * i + 2 : Nat) : Int) + 1) = ((s + 3 * (i + 1) : Nat) : Int) := by rw [w64_id (by omega) (by omega)]; omega
      have w4 : w64 ((i : Int) + 1) = ((i + 1 : Nat) : Int) := by rw [w64_id (by omega) (by omega)]; omega
      have o1 := mk_fact (k := s + 3 * i) (by omega)
      have o2 := mk_fact (k := s + 3 * i + 1) (by omega)
      have o3 := mk_fact (k := s + 3 * i + 2) (by omega)
      have o := one_fact
      have ih := held_l1 n a ha s hs hp m (i + 1) (by omega) (by omega)
      rw [if_pos (by omega), getI_nat' h, e]
      simp only [w1, w2, w3, w4, o1.1, o1.2, o2.1, o2.2, o3.1, o3.2, o.1, o.2, Option.bind_some, mkP, Bool.and_self, if_true, ih]
    · rw [if_neg (by omega), show i = a.length by omega]
end Go.Proofs.Ytolggocnbakokaa.AWN

namespace Go.Proofs.Ytolggocnbakokaa.AWN
open Go
theorem sameFloat_self (n a : Nat) : m_laws_sameFloat n a a = some true := by
  unfold m_laws_sameFloat m_laws_sameFloat_j4 m_laws_sameFloat_j1 m_laws_sameFloat_j3 m_laws_sameFloat_j2
  rw [neq_self]
  cases h : isnan .f64 a with
  | true => rfl
  | false =>
    rw [if_neg (by decide), if_neg (by decide), eql_self, h]
    cases fcmp .eql .f64 a 0 <;> simp
theorem sameComplex_self (n : Nat) (c : Cx) : m_laws_sameComplex n c c = some true := by
  unfold m_laws_sameComplex
  rw [sameFloat_self, Option.bind_some, if_pos rfl, sameFloat_self]; rfl
theorem eqPhases_self (n : Nat) (p : SPhases) : m_laws_eqPhases n p p = some true := by
  obtain ⟨a1, e1, _⟩ := wide_some p.A.re
  obtain ⟨a2, e2, _⟩ := wide_some p.A.im
  obtain ⟨b1, f1, _⟩ := wide_some p.B.re
  obtain ⟨b2, f2, _⟩ := wide_some p.B.im
  obtain ⟨c1, g1, _⟩ := wide_some p.C.re
  obtain ⟨c2, g2, _⟩ := wide_some p.C.im
  unfold m_laws_eqPhases
  simp only [e1, e2, f1, f2, g1, g2, Option.bind_some, sameComplex_self, if_true]
theorem eqPhS_l1 (n : Nat) (a : List SPhases) (ha : a.length ≤ 100) : ∀ (m i : Nat), i ≤ a.length → a.length - i < m → m_laws_eqPhasesS_l1 n a a m (i : Int) = some true
  | 0, i, _, h => by omega
  | m + 1, i, hi, hm => by
    unfold m_laws_eqPhasesS_l1
    by_cases h : i < a.length
    · rw [if_pos (by omega), getI_nat' h, Option.bind_some, Option.bind_some, eqPhases_self, Option.bind_some, if_pos rfl, show w64 ((i : Int) + 1) = ((i + 1 : Nat) : Int) by rw [w64_id (by omega) (by omega)]; omega]
      exact eqPhS_l1 n a ha m (i + 1) (by omega) (by omega)
    · rw [if_neg (by omega)]
theorem eqPhS_some {n : Nat} (hn : 101 ≤ n) (a : List SPhases) (ha : a.length ≤ 100) : m_laws_eqPhasesS n a a = some true := by
  unfold m_laws_eqPhasesS
  rw [if_pos rfl]
  exact eqPhS_l1 n a ha n 0 (Nat.zero_le _) (by omega)
theorem eqFlow_some {n : Nat} (hn : 101 ≤ n) (f : SFlow) (h1 : f.Voltages.length ≤ 100) (h2 : f.Currents.length ≤ 100) : m_laws_eqFlow n f f = some true := by
  unfold m_laws_eqFlow
  rw [eqPhS_some hn _ h1, Option.bind_some, if_pos rfl, eqPhS_some hn _ h2, Option.bind_some, if_pos rfl, if_pos rfl, beq_self_eq_true]
  rfl
theorem mark_l1 (n : Nat) (s : Nat) (hs : s ≤ 50) : ∀ (m i : Nat) (a : List SPhases), a.length ≤ 16 → i ≤ a.length → a.length - i < m → (∀ j, j < i → a[j]? = some (mkP (s + 3 * j))) →
    ∃ b, m_laws_markPhasesS_l1 n m a ((s + 3 * i : Nat) : Int) (i : Int) = some (((s + 3 * a.length : Nat) : Int), b) ∧ b.length = a.length ∧ ∀ j, j < a.length → b[j]? = some (mkP (s + 3 * j))
  | 0, i, _, _, _, h, _ => by omega
  | m + 1, i, a, ha, hi, hm, hp => by
    unfold m_laws_markPhasesS_l1
    by_cases h : i < a.length
    · have w1 : w64 (((s + 3 * i : Nat) : Int) + 1) = ((s + 3 * i + 1 : Nat) : Int) := by rw [w64_id (by omega) (by omega)]; omega
      have w2 : w64 (((s + 3 * i + 1 : Nat) : Int) + 1) = ((s + 3 * i + 2 : Nat) : Int) := by rw [w64_id (by omega) (by omega)]; omega
      have w3 : w64 (((s + 3 * i + 2 : Nat) : Int) + 1) = ((s + 3 * (i + 1) : Nat) : Int) := by rw [w64_id (by omega) (by omega)]; omega
      have w4 : w64 ((i : Int) + 1) = ((i + 1 : Nat) : Int) := by rw [w64_id (by omega) (by omega)]; omega
      have o1 := mk_fact (k := s + 3 * i) (by omega)
      have o2 := mk_fact (k := s + 3 * i + 1) (by omega)
      have o3 := mk_fact (k := s + 3 * i + 2) (by omega)
      have o := one_fact
      have gs : ∀ (l : List SPhases) (x : SPhases), i < l.length → getI (l.set i x) (i : Int) = some x := fun l x hl => by
        rw [getI_nat' (by rw [List.length_set]; exact hl)]; simp
      have gs0 : ∀ x, getI (a.set i x) (i : Int) = some x := fun x => gs a x h
      have gs1 : ∀ x y, getI ((a.set i y).set i x) (i : Int) = some x := fun x y => gs _ x (by rw [List.length_set]; exact h)
      obtain ⟨b, e, hl, hb⟩ := mark_l1 n s hs m (i + 1) (a.set i (mkP (s + 3 * i))) (by simpa using ha) (by rw [List.length_set]; omega) (by rw [List.length_set]; omega) (fun j hj => by
        rw [List.getElem?_set]
        by_cases hji : i = j
        · subst hji
          rw [if_pos rfl, if_pos h]
        · rw [if_neg hji]
          exact hp j (by omega))
      rw [List.length_set] at e hl hb
      refine ⟨b, ?_, hl, hb⟩
      rw [if_pos (by omega), getI_nat' h]
      simp only [Int.toNat_natCast, w1, w2, w3, w4, o1.1, o2.1, o3.1, o.1, Option.bind_some, gs0, gs1, List.set_set]
      exact e
    · rw [if_neg (by omega)]
      have : i = a.length := by omega
      subst this
      exact ⟨a, rfl, rfl, hp⟩
theorem held_all {n : Nat} (hn : 17 ≤ n) (a : List SPhases) (ha : a.length ≤ 16) (s : Nat) (hs : s ≤ 50) (hp : ∀ j, j < a.length → a[j]? = some (mkP (s + 3 * j))) : m_laws_heldPhasesS n a (s : Int) = some ((s + 3 * a.length : Nat) : Int) :=
  held_l1 n a ha s hs hp n 0 (Nat.zero_le _) (by omega)
theorem mark_all {n : Nat} (hn : 17 ≤ n) (a : List SPhases) (ha : a.length ≤ 16) (s : Nat) (hs : s ≤ 50) : ∃ b, m_laws_markPhasesS n a (s : Int) = some (((s + 3 * a.length : Nat) : Int), b) ∧ b.length = a.length ∧ ∀ j, j < a.length → b[j]? = some (mkP (s + 3 * j)) :=
  mark_l1 n s hs n 0 a ha (Nat.zero_le _) (by omega) (fun j hj => by omega)
/-- What is read out of bytes, for any number of buses. -/
theorem both_flow (t : Str) (ht : t.length ≤ 1048576) (b : Int) : ∃ r, m_spec_FlowOfBytes 200 t b = some r ∧ m_impl_FlowOfBytes 200 t b = some r ∧ r.1.Voltages.length ≤ 16 ∧ r.1.Currents.length ≤ 16 := by
  by_cases h : 1 ≤ b ∧ b ≤ 16
  · obtain ⟨k, rfl⟩ : ∃ k : Nat, b = (k : Int) := ⟨b.toNat, by omega⟩
    refine ⟨resF t k, spec_flow (by omega) t (by omega) (by omega) ht, impl_flow (by omega) t (by omega) (by omega) ht, ?_⟩
    unfold resF
    split
    · show (phV t k).length ≤ 16 ∧ (phC t k).length ≤ 16
      rw [phV_len, phC_len]; omega
    · exact ⟨Nat.zero_le _, Nat.zero_le _⟩
  · refine ⟨(noFlow, false), ?_, ?_, Nat.zero_le _, Nat.zero_le _⟩
    · unfold m_spec_FlowOfBytes m_spec_l00In
      by_cases h1 : b ≥ 1
      · rw [if_pos h1, Option.bind_some, decide_eq_false (by omega)]; rfl
      · rw [if_neg h1]; rfl
    · unfold m_impl_FlowOfBytes m_impl_in
      by_cases h1 : b ≥ 1
      · rw [if_pos h1, Option.bind_some, decide_eq_false (by omega), if_neg (by decide)]; unfold m_impl_FlowOfBytes_j6; rfl
      · rw [if_neg h1, Option.bind_some, if_neg (by decide)]; unfold m_impl_FlowOfBytes_j6; rfl
theorem FnExactFlowOfBytes_true (t : Str) (b : Int) : m_laws_FnExactFlowOfBytes 200 t b = some true := by
  unfold m_laws_FnExactFlowOfBytes
  by_cases h : (t.length : Int) > 1048576
  · rw [if_pos h]
  · obtain ⟨r, hs, hi, h1, h2⟩ := both_flow t (by omega) b
    have he : m_laws_eqFlow 200 (SFlow.mk r.1.Voltages r.1.Currents r.1.Rounds r.1.Rests) (SFlow.mk r.1.Voltages r.1.Currents r.1.Rounds r.1.Rests) = some true := eqFlow_some (by omega) _ (by show r.1.Voltages.length ≤ 100; omega) (by show r.1.Currents.length ≤ 100; omega)
    rw [if_neg h, hs, hi, Option.bind_some, Option.bind_some, he, Option.bind_some, if_pos rfl, beq_self_eq_true]
    unfold m_laws_FnExactFlowOfBytes_j4
    rw [if_neg (by decide)]
    unfold m_laws_FnExactFlowOfBytes_j1 grd
    obtain ⟨b1, e1, l1, p1⟩ := mark_all (n := 200) (by omega) r.1.Voltages h1 1 (by omega)
    obtain ⟨b2, e2, l2, p2⟩ := mark_all (n := 200) (by omega) r.1.Currents h2 (1 + 3 * r.1.Voltages.length) (by omega)
    have e1 : m_laws_markPhasesS 200 r.1.Voltages 1 = some (((1 + 3 * r.1.Voltages.length : Nat) : Int), b1) := e1
    have hm : m_laws_markFlow 200 (SFlow.mk r.1.Voltages r.1.Currents r.1.Rounds r.1.Rests) 1 = some (((1 + 3 * r.1.Voltages.length + 3 * r.1.Currents.length : Nat) : Int), b1, b2) := by
      unfold m_laws_markFlow grd
      dsimp only
      rw [e1, Option.bind_some]
      dsimp only
      rw [if_pos l1, e2, Option.bind_some]
      dsimp only
      rw [if_pos l2]
    have g1 := held_all (n := 200) (by omega) b1 (by omega) 1 (by omega) (by rw [l1]; exact p1)
    have g2 := held_all (n := 200) (by omega) b2 (by omega) (1 + 3 * r.1.Voltages.length) (by omega) (by rw [l2]; exact p2)
    rw [l1] at g1
    rw [l2] at g2
    have g1 : m_laws_heldPhasesS 200 b1 1 = some ((1 + 3 * r.1.Voltages.length : Nat) : Int) := g1
    have hh : m_laws_heldFlow 200 (SFlow.mk b1 b2 r.1.Rounds r.1.Rests) 1 = some ((1 + 3 * r.1.Voltages.length + 3 * r.1.Currents.length : Nat) : Int) := by
      unfold m_laws_heldFlow
      dsimp only
      rw [g1, Option.bind_some, if_neg (by omega), g2, Option.bind_some, if_neg (by omega)]
    rw [hm, Option.bind_some]
    dsimp only
    rw [if_pos l1, if_pos l2, hh, Option.bind_some, if_neg (by omega), if_pos rfl, hi, Option.bind_some]
    rw [he, Option.bind_some, if_pos rfl, beq_self_eq_true]
    unfold m_laws_FnExactFlowOfBytes_j3
    rw [if_neg (by decide)]
    unfold m_laws_FnExactFlowOfBytes_j2
    dsimp only
    rw [hh, Option.bind_some, if_neg (by omega), if_pos rfl]
end Go.Proofs.Ytolggocnbakokaa.AWN
